/- Parts of the proof, joined (S24, S25, S26, P3, S27, S28, S29); no condition. -/
import Derived.Test.YtfbamjlednbdhaaDoorMg
/- 'ways', with its memory; no condition. -/
namespace Go.Proofs.YtfbamjlednbdhaaDoor.V
open Go
set_option linter.unusedVariables false
set_option linter.unusedSimpArgs false
set_option maxHeartbeats 8000000
noncomputable section
variable {en : Env} {m : Mem}
@[go_sem] theorem lo49 : lookO Tryd.prog 49 = some (.int .u64, .sc (.int .i64 0)) := by kernel_rfl
@[go_sem] theorem ko49 : keyO Tryd.prog 49 = some (.int .u64) := by kernel_rfl
/-- What is in the one and not in the other. -/
def dif (a b : Nat) : Nat := a ^^^ (a &&& b)
theorem dif_bit (a b i : Nat) : (dif a b).testBit i = (a.testBit i && !b.testBit i) := by
  unfold dif
  rw [Nat.testBit_xor, Nat.testBit_and]
  cases a.testBit i <;> cases b.testBit i <;> rfl
theorem dif_le (a b : Nat) : dif a b ≤ a := by
  have h : dif a b &&& a = dif a b := by
    apply Nat.eq_of_testBit_eq; intro i
    rw [Nat.testBit_and, dif_bit]
    cases a.testBit i <;> simp
  rw [← h]; exact Nat.and_le_right
theorem dif_lt {s i : Nat} (h : s.testBit i = true) : dif s (2 ^ i) < s := by
  have h1 := dif_le s (2 ^ i)
  rcases Nat.lt_or_ge (dif s (2 ^ i)) s with h2 | h2
  · exact h2
  · have he : dif s (2 ^ i) = s := by omega
    have := dif_bit s (2 ^ i) i
    rw [he, h, Nat.testBit_two_pow] at this
    simp at this
theorem u64_andNot {a b : Nat} (ha : a < 2 ^ 64) (hb : b < 2 ^ 64) : andNotK .u64 (a : Int) (b : Int) = ((dif a b : Nat) : Int) := by
  have h : (BitVec.ofInt 64 (a : Int) &&& ~~~BitVec.ofInt 64 (b : Int)).toNat = dif a b := by
    rw [ofInt_nat, ofInt_nat, BitVec.toNat_and, BitVec.toNat_not, BitVec.toNat_ofNat, BitVec.toNat_ofNat, Nat.mod_eq_of_lt ha, Nat.mod_eq_of_lt hb]
    apply Nat.eq_of_testBit_eq; intro i
    rw [Nat.testBit_and, dif_bit, show 2 ^ 64 - 1 - b = 2 ^ 64 - (b + 1) by omega, Nat.testBit_two_pow_sub_succ hb]
    by_cases hi : i < 64
    · simp [hi]
    · have : a.testBit i = false := Nat.testBit_lt_two_pow (Nat.lt_of_lt_of_le ha (Nat.pow_le_pow_right (by omega) (by omega)))
      simp [this]
  have hd := dif_le a b
  show IntKind.u64.wrap ((BitVec.ofInt 64 (a : Int) &&& ~~~BitVec.ofInt 64 (b : Int)).toNat : Int) = _
  rw [h]
  exact IntWalk.u64_in _ (by omega)
def neededOf (N : List Nat) (s : Nat) : Nat := (bitsOf s).foldl (fun m i => m ||| N.getD i 0) 0
def owF (N : List Nat) : Nat → Nat → Nat
  | 0, _ => 0
  | f + 1, s => if s = 0 then 1 else ((bitsOf (dif s (neededOf N s))).map fun i => owF N f (dif s (2 ^ i))).sum
theorem bits_mem {s i : Nat} (h : i ∈ bitsOf s) : s.testBit i = true := (List.mem_filter.1 h).2
theorem owF_eq (N : List Nat) : ∀ f g s, s < f → s < g → owF N f s = owF N g s
  | 0, _, _, h, _ => by omega
  | _, 0, _, _, h => by omega
  | f + 1, g + 1, s, h1, h2 => by
    unfold owF
    split
    · rfl
    · congr 1
      apply List.map_congr_left
      intro i hi
      have hb := bits_mem hi
      rw [dif_bit] at hb
      have := dif_lt (show s.testBit i = true by revert hb; cases s.testBit i <;> simp)
      exact owF_eq N f g _ (by omega) (by omega)
/-- In how many ways all of a set can come. -/
def ow (N : List Nat) (s : Nat) : Nat := owF N (s + 1) s
theorem ow_zero (N : List Nat) : ow N 0 = 1 := by simp [ow, owF]
theorem ow_eq (N : List Nat) {s : Nat} (hs : s ≠ 0) : ow N s = ((bitsOf (dif s (neededOf N s))).map fun i => ow N (dif s (2 ^ i))).sum := by
  rw [ow, owF, if_neg hs]
  congr 1
  apply List.map_congr_left
  intro i hi
  have hb := bits_mem hi
  rw [dif_bit] at hb
  have := dif_lt (show s.testBit i = true by revert hb; cases s.testBit i <;> simp)
  exact owF_eq N _ _ _ (by omega) (by omega)
abbrev wr (n : Nat) : Int := IntKind.i64.wrap (n : Int)
theorem wrap_mod (n : Int) : IntKind.i64.wrap n = (n + 9223372036854775808) % 18446744073709551616 - 9223372036854775808 := by
  rw [IntKind.wrap_i64]
theorem wr_add (a b : Nat) : IntKind.i64.wrap (wr a + wr b) = wr (a + b) := by
  unfold wr
  rw [wrap_mod, wrap_mod, wrap_mod, wrap_mod]; omega
/-- What is known already. -/
structure MapOk (N : List Nat) (ps : List (Int × Int)) : Prop where
  all : ∀ x ∈ ps, ∃ s : Nat, x.1 = (s : Int) ∧ x.2 = wr (ow N s)
  zero : ∃ x ∈ ps, x.1 = 0
theorem find_ok {N : List Nat} {ps : List (Int × Int)} (h : MapOk N ps) (s : Nat) : (∃ (j : Nat) (hj : j < ps.length), ps[j].1 = (s : Int) ∧ findV (.int .u64) (.int .u64 s) (encP .u64 I ps) 0 = some (some (j, I (wr (ow N s))))) ∨ (s ≠ 0 ∧ findV (.int .u64) (.int .u64 s) (encP .u64 I ps) 0 = some none) := by
  rw [findV_encP]
  cases hf : ps.findIdx? fun x => x.1 == (s : Int) with
  | none =>
    refine Or.inr ⟨fun h0 => ?_, rfl⟩
    obtain ⟨x, hx, h1⟩ := h.2
    have := List.findIdx?_eq_none_iff.1 hf x hx
    rw [h1, h0] at this; simp at this
  | some j =>
    left
    obtain ⟨hj, hp, _⟩ := List.findIdx?_eq_some_iff_getElem.1 hf
    obtain ⟨t, ht1, ht2⟩ := h.1 _ (List.getElem_mem hj)
    have hps : ps[j].1 = (s : Int) := by simpa using hp
    have hst : s = t := by omega
    subst hst
    refine ⟨j, hj, hps, ?_⟩
    rw [Option.bind_some, List.getElem?_eq_getElem hj, Option.map_some, ht2, Nat.zero_add]
theorem okTo_I {id : Nat} (h : en.bar ≤ id) (z : Int) : okTo en id (fun B => AV.low B (I z)) = True := eq_true ⟨h, by simp [AV.low]⟩
theorem Fits.mut {n : Nat} (h : Fits en n) : Fits ⟨n :: en.bases, en.bar⟩ n := by
  intro B hB
  simp only [List.mem_cons] at hB
  rcases hB with rfl | hB
  · exact Nat.le_refl _
  · exact h B hB
theorem MapOk.put {N : List Nat} {ps : List (Int × Int)} (h : MapOk N ps) (s : Nat) (r : Option (Nat × AV)) (hr : findV (.int .u64) (.int .u64 s) (encP .u64 I ps) 0 = some r) :
    ∃ ps', MapOk N ps' ∧ setV (encP .u64 I ps) (.int .u64 s) (I (wr (ow N s))) r = encP .u64 I ps' := by
  rcases find_ok h s with ⟨j, hj, hk, hf⟩ | ⟨_, hf⟩
  · rw [hf] at hr
    cases hr
    refine ⟨ps.set j ((s : Int), wr (ow N s)), ⟨fun x hx => ?_, ?_⟩, ?_⟩
    · rcases List.mem_or_eq_of_mem_set hx with hx | rfl
      · exact h.1 x hx
      · exact ⟨s, rfl, rfl⟩
    · obtain ⟨x, hx, h0⟩ := h.2
      obtain ⟨i, hi, rfl⟩ := List.getElem_of_mem hx
      by_cases hij : j = i
      · subst hij
        exact ⟨_, List.getElem_mem (by rw [List.length_set]; exact hj), by rw [List.getElem_set_self]; simp only; omega⟩
      · exact ⟨_, List.getElem_mem (n := i) (by rw [List.length_set]; exact hi), by rw [List.getElem_set_ne hij]; exact h0⟩
    · simp only [setV, encP, List.map_set]
  · rw [hf] at hr
    cases hr
    refine ⟨ps ++ [((s : Int), wr (ow N s))], ⟨fun x hx => ?_, ?_⟩, ?_⟩
    · rw [List.mem_append, List.mem_singleton] at hx
      rcases hx with hx | rfl
      · exact h.1 x hx
      · exact ⟨s, rfl, rfl⟩
    · obtain ⟨x, hx, h0⟩ := h.2
      exact ⟨x, List.mem_append_left _ hx, h0⟩
    · simp only [setV, encP, List.map_append, List.map_singleton]
theorem set_same {α : Type} {l : List α} {i : Nat} {a : α} (h : l[i]? = some a) : l.set i a = l := by
  apply List.ext_getElem?
  intro j
  rw [List.getElem?_set]
  split
  · rename_i e
    subst e
    rw [if_pos (lt_of_get h), h]
  · rfl
theorem ways_ok (n a : Sl Nat) (hn : n.l.length ≤ 14) (hnb : ∀ x ∈ n.l, x < 2 ^ 64) (c1 c2 c3 mid : Nat) (hc1 : c1 ≠ mid) (hc2 : c2 ≠ mid) (hc3 : c3 ≠ mid) :
    ∀ (s : Nat) (ps : List (Int × Int)) (en : Env) (m : Mem), s < 2 ^ n.l.length → MapOk n.l ps → Fits en m.length → en.bar ≤ mid → m[c1]? = some (.cells 0 [.mp mid]) → m[c2]? = some (.cells 0 [sl U n, sl U a]) →
      m[c3]? = some (.cells 0 [.clo (.func 25) [] [.ptr c1 0 0, .ptr c2 0 0, .ptr c3 0 0]]) → m[mid]? = some (.map (encP .u64 I ps)) →
      WC Tryd.prog pol en (.func 25) [U s, .ptr c1 0 0, .ptr c2 0 0, .ptr c3 0 0] m fun v m' => v = I (wr (ow n.l s)) ∧ ∃ ps', MapOk n.l ps' ∧ m' = m.set mid (.map (encP .u64 I ps')) := by
  intro s
  induction s using Nat.strongRecOn with
  | ind s ih =>
    intro ps en m hs hps hf hbar h1 h2 h3 h4
    have hp64 : 2 ^ n.l.length ≤ 2 ^ 14 := Nat.pow_le_pow_right (by omega) hn
    refine callMut Tryd.func25 rfl rfl Tryd.ntmps25 Tryd.results25 ?_
    simp -implicitDefEqProofs -dsimp (disch := (first | omega | (simp only [List.length_set, List.length_append, List.length_cons, List.length_nil]; omega))) only [go_sem, Nat.reduceAdd, Nat.reduceSub, Nat.reduceLT, Nat.reduceLeDiff, Int.reduceToNat, Int.reduceLE, Int.reduceLT, Int.reduceAdd, Int.reduceSub, Int.reduceEq, Int.reduceNe, Int.reduceMul, Nat.reduceMul, Int.reduceNeg, Int.toNat_natCast, Nat.reduceEqDiff, X.exit.injEq, if_true, if_false, reduceIte, Bool.not_true, Bool.not_false, Bool.false_eq_true, Bool.true_eq_false, true_and,  need_of, need_true, need_and, WOf_need, i64w, u64w, at_getD, idxR_slD, and_true, Nat.zero_add, Nat.mul_one, Nat.add_zero, idxS_one, get_setN, get_setS, get_appL, List.length_set, ↓ibin_shlD, ↓ibin_shrD, bld1_true, plan_buildD, natSucc, h1, h4]
    rcases find_ok hps s with ⟨j, hj, _, hfd⟩ | ⟨hs0, hfd⟩
    · simp -implicitDefEqProofs -dsimp (disch := (first | omega | (simp only [List.length_set, List.length_append, List.length_cons, List.length_nil]; omega))) only [go_sem, Nat.reduceAdd, Nat.reduceSub, Nat.reduceLT, Nat.reduceLeDiff, Int.reduceToNat, Int.reduceLE, Int.reduceLT, Int.reduceAdd, Int.reduceSub, Int.reduceEq, Int.reduceNe, Int.reduceMul, Nat.reduceMul, Int.reduceNeg, Int.toNat_natCast, Nat.reduceEqDiff, X.exit.injEq, if_true, if_false, reduceIte, Bool.not_true, Bool.not_false, Bool.false_eq_true, Bool.true_eq_false, true_and,  need_of, need_true, need_and, WOf_need, i64w, u64w, at_getD, idxR_slD, and_true, Nat.zero_add, Nat.mul_one, Nat.add_zero, idxS_one, get_setN, get_setS, get_appL, List.length_set, ↓ibin_shlD, ↓ibin_shrD, bld1_true, plan_buildD, natSucc, hfd]
      exact ⟨ps, hps, by rw [List.take_length, set_same h4]⟩
    · have hbl := fun (t i : Nat) (ht : t ≤ s) (h : t.testBit i = true) => by
        have h1 := lt_bit h
        have h2 : 2 ^ i < 2 ^ n.l.length := by omega
        exact (Nat.pow_lt_pow_iff_right (a := 2) (by omega)).1 h2
      have hgN : ∀ i, n.l.getD i 0 < 2 ^ 64 := getD_lt hnb
      simp -implicitDefEqProofs -dsimp (disch := (first | omega | (simp only [List.length_set, List.length_append, List.length_cons, List.length_nil]; omega))) only [go_sem, Nat.reduceAdd, Nat.reduceSub, Nat.reduceLT, Nat.reduceLeDiff, Int.reduceToNat, Int.reduceLE, Int.reduceLT, Int.reduceAdd, Int.reduceSub, Int.reduceEq, Int.reduceNe, Int.reduceMul, Nat.reduceMul, Int.reduceNeg, Int.toNat_natCast, Nat.reduceEqDiff, X.exit.injEq, if_true, if_false, reduceIte, Bool.not_true, Bool.not_false, Bool.false_eq_true, Bool.true_eq_false, true_and,  need_of, need_true, need_and, WOf_need, i64w, u64w, at_getD, idxR_slD, and_true, Nat.zero_add, Nat.mul_one, Nat.add_zero, idxS_one, get_setN, get_setS, get_appL, List.length_set, ↓ibin_shlD, ↓ibin_shrD, bld1_true, plan_buildD, natSucc, hfd]
      refine (numbers_ok s (by omega) hf.mut).mono ?_
      rintro v m' ⟨rfl, y, rfl, hy⟩
      have hyl : y.l.length ≤ 64 := by rw [hy, List.length_map]; exact bits_len s
      have hyb : (bitsOf s).length = y.l.length := by rw [hy, List.length_map]
      simp -implicitDefEqProofs -dsimp (disch := (first | omega | (simp only [List.length_set, List.length_append, List.length_cons, List.length_nil]; omega))) only [go_sem, Nat.reduceAdd, Nat.reduceSub, Nat.reduceLT, Nat.reduceLeDiff, Int.reduceToNat, Int.reduceLE, Int.reduceLT, Int.reduceAdd, Int.reduceSub, Int.reduceEq, Int.reduceNe, Int.reduceMul, Nat.reduceMul, Int.reduceNeg, Int.toNat_natCast, Nat.reduceEqDiff, X.exit.injEq, if_true, if_false, reduceIte, Bool.not_true, Bool.not_false, Bool.false_eq_true, Bool.true_eq_false, true_and,  need_of, need_true, need_and, WOf_need, i64w, u64w, at_getD, idxR_slD, and_true, Nat.zero_add, Nat.mul_one, Nat.add_zero, idxS_one, get_setN, get_setS, get_appL, List.length_set, ↓ibin_shlD, ↓ibin_shrD, bld1_true, plan_buildD, natSucc, ]
      refine loopF (fun k ts m2 => ∃ (j : Nat), ts.length = 59 ∧ tg ts 0 = U s ∧ tg ts 1 = .ptr c1 0 0 ∧ tg ts 2 = .ptr c2 0 0 ∧ tg ts 3 = .ptr c3 0 0 ∧ tg ts 8 = U (((bitsOf s).take j).foldl (fun m i => m ||| n.l.getD i 0) 0) ∧ tg ts 23 = sl I y ∧ tg ts 24 = I y.l.length ∧ tg ts 25 = I j ∧ j ≤ y.l.length ∧ m2 = m' ∧ k = y.l.length - j) y.l.length ⟨0, rfl, rfl, rfl, rfl, rfl, rfl, rfl, rfl, rfl, by omega, rfl, by omega⟩ ?_
      rintro k ts m2 ⟨j, hl, t0, t1, t2, t3, t8, t23, t24, t25, hj, rfl, hk⟩
      rw [expandT hl]
      simp -implicitDefEqProofs -dsimp (disch := (first | omega | (simp only [List.length_set, List.length_append, List.length_cons, List.length_nil]; omega))) only [go_sem, Nat.reduceAdd, Nat.reduceSub, Nat.reduceLT, Nat.reduceLeDiff, Int.reduceToNat, Int.reduceLE, Int.reduceLT, Int.reduceAdd, Int.reduceSub, Int.reduceEq, Int.reduceNe, Int.reduceMul, Nat.reduceMul, Int.reduceNeg, Int.toNat_natCast, Nat.reduceEqDiff, X.exit.injEq, if_true, if_false, reduceIte, Bool.not_true, Bool.not_false, Bool.false_eq_true, Bool.true_eq_false, true_and,  need_of, need_true, need_and, WOf_need, i64w, u64w, at_getD, idxR_slD, and_true, Nat.zero_add, Nat.mul_one, Nat.add_zero, idxS_one, get_setN, get_setS, get_appL, List.length_set, ↓ibin_shlD, ↓ibin_shrD, bld1_true, plan_buildD, natSucc, t0, t1, t2, t3, t8, t23, t24, t25]
      split
      · rename_i hlt
        have hj' : j < y.l.length := by omega
        have hjb : j < (bitsOf s).length := by omega
        obtain ⟨e, he⟩ : ∃ e, (bitsOf s)[j] = e := ⟨_, rfl⟩
        have hye : y.l[j] = (e : Int) := by rw [← he]; simp only [hy, List.getElem_map]; rfl
        have heb : s.testBit e = true := by rw [← he]; exact bits_mem (List.getElem_mem hjb)
        have hen : e < n.l.length := hbl s e (Nat.le_refl _) heb
        have hfo := fold_or_take (f := fun i => n.l.getD i 0) (bitsOf s) j hjb
        have hne : n.l.getD e 0 = n.l[e] := by rw [List.getD_eq_getElem?_getD, List.getElem?_eq_getElem hen]; rfl
        rw [he, hne] at hfo
        have hlt1 : ((bitsOf s).take j).foldl (fun m i => m ||| n.l.getD i 0) 0 < 2 ^ 64 := fold_or_lt _ _ (by decide) fun i _ => hgN i
        have hor : orK .u64 ((((bitsOf s).take j).foldl (fun m i => m ||| n.l.getD i 0) 0 : Nat) : Int) (n.l[e] : Int) = ((((bitsOf s).take (j + 1)).foldl (fun m i => m ||| n.l.getD i 0) 0 : Nat) : Int) := by
          rw [u64_or hlt1 (hnb _ (List.getElem_mem _)), hfo]
        have b1 : (0 : Int) ≤ (e : Int) := by omega
        have b2 : (e : Int) < (n.l.length : Int) := by omega
        simp -implicitDefEqProofs -dsimp (disch := (first | omega | (simp only [List.length_set, List.length_append, List.length_cons, List.length_nil]; omega))) only [go_sem, Nat.reduceAdd, Nat.reduceSub, Nat.reduceLT, Nat.reduceLeDiff, Int.reduceToNat, Int.reduceLE, Int.reduceLT, Int.reduceAdd, Int.reduceSub, Int.reduceEq, Int.reduceNe, Int.reduceMul, Nat.reduceMul, Int.reduceNeg, Int.toNat_natCast, Nat.reduceEqDiff, X.exit.injEq, if_true, if_false, reduceIte, Bool.not_true, Bool.not_false, Bool.false_eq_true, Bool.true_eq_false, true_and,  need_of, need_true, need_and, WOf_need, i64w, u64w, at_getD, idxR_slD, and_true, Nat.zero_add, Nat.mul_one, Nat.add_zero, idxS_one, get_setN, get_setS, get_appL, List.length_set, ↓ibin_shlD, ↓ibin_shrD, bld1_true, plan_buildD, natSucc, hye, h2, b1, b2, hor]
        refine ⟨y.l.length - (j + 1), by omega, j + 1, ?_⟩
        and_intros <;> (first | with_reducible rfl | omega | with_reducible assumption | exact True.intro | skip)
      · rename_i hlt
        have hje : j = y.l.length := by omega
        have hnd : ((bitsOf s).take j).foldl (fun m i => m ||| n.l.getD i 0) 0 = neededOf n.l s := by
          rw [hje, ← hyb, List.take_length]; rfl
        rw [hnd]
        have hneed : neededOf n.l s < 2 ^ 64 := fold_or_lt _ _ (by decide) fun i _ => hgN i
        have hand : andNotK .u64 (s : Int) (neededOf n.l s : Int) = ((dif s (neededOf n.l s) : Nat) : Int) := u64_andNot (by omega) hneed
        have hdl := dif_le s (neededOf n.l s)
        have hoe := ow_eq n.l hs0
        obtain ⟨D, hD⟩ : ∃ D, dif s (neededOf n.l s) = D := ⟨_, rfl⟩
        have hDb : ∀ i, D.testBit i = true → s.testBit i = true := fun i h => by
          rw [← hD, dif_bit] at h
          revert h; cases s.testBit i <;> simp
        rw [hD] at hand hdl hoe
        simp -implicitDefEqProofs -dsimp (disch := (first | omega | (simp only [List.length_set, List.length_append, List.length_cons, List.length_nil]; omega))) only [go_sem, Nat.reduceAdd, Nat.reduceSub, Nat.reduceLT, Nat.reduceLeDiff, Int.reduceToNat, Int.reduceLE, Int.reduceLT, Int.reduceAdd, Int.reduceSub, Int.reduceEq, Int.reduceNe, Int.reduceMul, Nat.reduceMul, Int.reduceNeg, Int.toNat_natCast, Nat.reduceEqDiff, X.exit.injEq, if_true, if_false, reduceIte, Bool.not_true, Bool.not_false, Bool.false_eq_true, Bool.true_eq_false, true_and,  need_of, need_true, need_and, WOf_need, i64w, u64w, at_getD, idxR_slD, and_true, Nat.zero_add, Nat.mul_one, Nat.add_zero, idxS_one, get_setN, get_setS, get_appL, List.length_set, ↓ibin_shlD, ↓ibin_shrD, bld1_true, plan_buildD, natSucc, hand]
        refine (numbers_ok D (by omega) hf.mut).mono ?_
        rintro v m3 ⟨rfl, w, rfl, hw⟩
        have hwl : w.l.length ≤ 64 := by rw [hw, List.length_map]; exact bits_len D
        have hwb : (bitsOf D).length = w.l.length := by rw [hw, List.length_map]
        simp -implicitDefEqProofs -dsimp (disch := (first | omega | (simp only [List.length_set, List.length_append, List.length_cons, List.length_nil]; omega))) only [go_sem, Nat.reduceAdd, Nat.reduceSub, Nat.reduceLT, Nat.reduceLeDiff, Int.reduceToNat, Int.reduceLE, Int.reduceLT, Int.reduceAdd, Int.reduceSub, Int.reduceEq, Int.reduceNe, Int.reduceMul, Nat.reduceMul, Int.reduceNeg, Int.toNat_natCast, Nat.reduceEqDiff, X.exit.injEq, if_true, if_false, reduceIte, Bool.not_true, Bool.not_false, Bool.false_eq_true, Bool.true_eq_false, true_and,  need_of, need_true, need_and, WOf_need, i64w, u64w, at_getD, idxR_slD, and_true, Nat.zero_add, Nat.mul_one, Nat.add_zero, idxS_one, get_setN, get_setS, get_appL, List.length_set, ↓ibin_shlD, ↓ibin_shrD, bld1_true, plan_buildD, natSucc, ]
        refine loopF (fun k ts m2 => ∃ (j : Nat) (ps' : List (Int × Int)), ts.length = 59 ∧ tg ts 0 = U s ∧ tg ts 1 = .ptr c1 0 0 ∧ tg ts 2 = .ptr c2 0 0 ∧ tg ts 3 = .ptr c3 0 0 ∧ tg ts 11 = I (wr (((bitsOf D).take j).map fun i => ow n.l (dif s (2 ^ i))).sum) ∧ tg ts 40 = sl I w ∧ tg ts 41 = I w.l.length ∧ tg ts 42 = I j ∧ j ≤ w.l.length ∧ MapOk n.l ps' ∧ m2 = m3.set mid (.map (encP .u64 I ps')) ∧ k = w.l.length - j) w.l.length ⟨0, ps, rfl, rfl, rfl, rfl, rfl, rfl, rfl, rfl, rfl, by omega, hps, (set_same h4).symm, by omega⟩ ?_
        rintro k2 ts m2 ⟨j2, ps', hl, t0, t1, t2, t3, t11, t40, t41, t42, hj2, hps', rfl, hk2⟩
        have hml := lt_of_get h4
        have g1 : (m3.set mid (.map (encP .u64 I ps')))[c1]? = _ := (List.getElem?_set_ne (Ne.symm hc1)).trans h1
        have g2 : (m3.set mid (.map (encP .u64 I ps')))[c2]? = _ := (List.getElem?_set_ne (Ne.symm hc2)).trans h2
        have g3 : (m3.set mid (.map (encP .u64 I ps')))[c3]? = _ := (List.getElem?_set_ne (Ne.symm hc3)).trans h3
        have g4 : (m3.set mid (.map (encP .u64 I ps')))[mid]? = some (.map (encP .u64 I ps')) := List.getElem?_set_self hml
        rw [expandT hl]
        simp -implicitDefEqProofs -dsimp (disch := (first | omega | (simp only [List.length_set, List.length_append, List.length_cons, List.length_nil]; omega))) only [go_sem, Nat.reduceAdd, Nat.reduceSub, Nat.reduceLT, Nat.reduceLeDiff, Int.reduceToNat, Int.reduceLE, Int.reduceLT, Int.reduceAdd, Int.reduceSub, Int.reduceEq, Int.reduceNe, Int.reduceMul, Nat.reduceMul, Int.reduceNeg, Int.toNat_natCast, Nat.reduceEqDiff, X.exit.injEq, if_true, if_false, reduceIte, Bool.not_true, Bool.not_false, Bool.false_eq_true, Bool.true_eq_false, true_and,  need_of, need_true, need_and, WOf_need, i64w, u64w, at_getD, idxR_slD, and_true, Nat.zero_add, Nat.mul_one, Nat.add_zero, idxS_one, get_setN, get_setS, get_appL, List.length_set, ↓ibin_shlD, ↓ibin_shrD, bld1_true, plan_buildD, natSucc, t0, t1, t2, t3, t11, t40, t41, t42]
        split
        · rename_i hlt2
          have hj' : j2 < w.l.length := by omega
          have hjb : j2 < (bitsOf D).length := by omega
          obtain ⟨e, he⟩ : ∃ e, (bitsOf D)[j2] = e := ⟨_, rfl⟩
          have hwe : w.l[j2] = (e : Int) := by rw [← he]; simp only [hw, List.getElem_map]; rfl
          have heb : s.testBit e = true := by rw [← he]; exact hDb _ (bits_mem (List.getElem_mem hjb))
          have hen : e < n.l.length := hbl s e (Nat.le_refl _) heb
          have hshl : shlK .u64 1 (e : Int) = ((2 ^ e : Nat) : Int) := u64_shl (by omega)
          have hp2 : 2 ^ e < 2 ^ 64 := Nat.pow_lt_pow_right (by omega) (by omega)
          have hds : andNotK .u64 (s : Int) ((2 ^ e : Nat) : Int) = ((dif s (2 ^ e) : Nat) : Int) := u64_andNot (by omega) hp2
          have hdlt := dif_lt heb
          have htk : ((bitsOf D).take (j2 + 1)).map (fun i => ow n.l (dif s (2 ^ i))) = ((bitsOf D).take j2).map (fun i => ow n.l (dif s (2 ^ i))) ++ [ow n.l (dif s (2 ^ e))] := by
            rw [List.take_add_one, List.getElem?_eq_getElem hjb, he, List.map_append]; rfl
          have hsum : IntKind.i64.wrap (wr (((bitsOf D).take j2).map fun i => ow n.l (dif s (2 ^ i))).sum + wr (ow n.l (dif s (2 ^ e)))) = wr (((bitsOf D).take (j2 + 1)).map fun i => ow n.l (dif s (2 ^ i))).sum := by
            rw [htk, List.sum_append, List.sum_singleton]; exact wr_add _ _
          simp -implicitDefEqProofs -dsimp (disch := (first | omega | (simp only [List.length_set, List.length_append, List.length_cons, List.length_nil]; omega))) only [go_sem, Nat.reduceAdd, Nat.reduceSub, Nat.reduceLT, Nat.reduceLeDiff, Int.reduceToNat, Int.reduceLE, Int.reduceLT, Int.reduceAdd, Int.reduceSub, Int.reduceEq, Int.reduceNe, Int.reduceMul, Nat.reduceMul, Int.reduceNeg, Int.toNat_natCast, Nat.reduceEqDiff, X.exit.injEq, if_true, if_false, reduceIte, Bool.not_true, Bool.not_false, Bool.false_eq_true, Bool.true_eq_false, true_and,  need_of, need_true, need_and, WOf_need, i64w, u64w, at_getD, idxR_slD, and_true, Nat.zero_add, Nat.mul_one, Nat.add_zero, idxS_one, get_setN, get_setS, get_appL, List.length_set, ↓ibin_shlD, ↓ibin_shrD, bld1_true, plan_buildD, natSucc, hwe, g3, h3, hshl, hds]
          refine ⟨by kernel_rfl, ?_⟩
          refine (ih _ hdlt ps' ⟨m3.length :: en.bases, en.bar⟩ (m3.set mid (.map (encP .u64 I ps'))) (by omega) hps' (by rw [List.length_set]; exact hf.mut) hbar g1 g2 g3 g4).mono ?_
          rintro v m4 ⟨rfl, ps2, hps2, rfl⟩
          simp -implicitDefEqProofs -dsimp (disch := (first | omega | (simp only [List.length_set, List.length_append, List.length_cons, List.length_nil]; omega))) only [go_sem, Nat.reduceAdd, Nat.reduceSub, Nat.reduceLT, Nat.reduceLeDiff, Int.reduceToNat, Int.reduceLE, Int.reduceLT, Int.reduceAdd, Int.reduceSub, Int.reduceEq, Int.reduceNe, Int.reduceMul, Nat.reduceMul, Int.reduceNeg, Int.toNat_natCast, Nat.reduceEqDiff, X.exit.injEq, if_true, if_false, reduceIte, Bool.not_true, Bool.not_false, Bool.false_eq_true, Bool.true_eq_false, true_and,  need_of, need_true, need_and, WOf_need, i64w, u64w, at_getD, idxR_slD, and_true, Nat.zero_add, Nat.mul_one, Nat.add_zero, idxS_one, get_setN, get_setS, get_appL, List.length_set, ↓ibin_shlD, ↓ibin_shrD, bld1_true, plan_buildD, natSucc, hsum]
          refine ⟨peace_of (L := []) (by kernel_rfl) (by simp), w.l.length - (j2 + 1), by omega, j2 + 1, ps2, ?_⟩
          and_intros <;> (first | with_reducible rfl | omega | with_reducible assumption | exact True.intro | skip)
          rw [List.set_set]
        · rename_i hlt2
          have hje2 : j2 = w.l.length := by omega
          rw [hje2, ← hwb, List.take_length, ← hoe]
          obtain ⟨r, hr⟩ : ∃ r, findV (.int .u64) (.int .u64 s) (encP .u64 I ps') 0 = some r := by
            rcases find_ok hps' s with ⟨q, _, _, hq⟩ | ⟨_, hq⟩ <;> exact ⟨_, hq⟩
          obtain ⟨ps2, hps2, hset⟩ := hps'.put s r hr
          simp -implicitDefEqProofs -dsimp (disch := (first | omega | (simp only [List.length_set, List.length_append, List.length_cons, List.length_nil]; omega))) only [go_sem, Nat.reduceAdd, Nat.reduceSub, Nat.reduceLT, Nat.reduceLeDiff, Int.reduceToNat, Int.reduceLE, Int.reduceLT, Int.reduceAdd, Int.reduceSub, Int.reduceEq, Int.reduceNe, Int.reduceMul, Nat.reduceMul, Int.reduceNeg, Int.toNat_natCast, Nat.reduceEqDiff, X.exit.injEq, if_true, if_false, reduceIte, Bool.not_true, Bool.not_false, Bool.false_eq_true, Bool.true_eq_false, true_and,  need_of, need_true, need_and, WOf_need, i64w, u64w, at_getD, idxR_slD, and_true, Nat.zero_add, Nat.mul_one, Nat.add_zero, idxS_one, get_setN, get_setS, get_appL, List.length_set, ↓ibin_shlD, ↓ibin_shrD, bld1_true, plan_buildD, natSucc, h1, g1, g4, hr, hset, okTo_I]
          refine ⟨ps2, hps2, ?_⟩
          rw [List.set_set, List.take_of_length_le (by rw [List.length_set]; exact Nat.le_refl _)]
end
end Go.Proofs.YtfbamjlednbdhaaDoor.V
/- 'Orders' of the program; no condition. -/
namespace Go.Proofs.YtfbamjlednbdhaaDoor.V
open Go
set_option linter.unusedVariables false
set_option linter.unusedSimpArgs false
set_option maxHeartbeats 8000000
noncomputable section
variable {en : Env} {m : Mem}
theorem findV_nil (kt : TypeDesc) (k : Value) (i : Nat) : findV kt k [] i = some none := rfl
theorem ordersA (x : LL) (hx : x.l.length < 2 ^ 62) (hxl : ∀ a ∈ x.l, a.l.length < 2 ^ 62) {args : List AV} (ha : args.mapM (frz m 0 frzDepth) = some [sl (sl I) x]) : WC Tryd.prog pol en (.func 10) args m fun v m' => m' = m ∧
    v = if fitsD x.of = true then .tup [I (wr (ow (needD x.of) (2 ^ x.of.length - 1))), I 0] else .tup [I 0, I 3] := by
  refine callCls Tryd.func10 rfl rfl Tryd.ntmps10 Tryd.results10 ha ?_
  clear ha
  intro en m1 hf
  have hf : Fits en m1.length := hf
  have hokT := fun {id : Nat} {low : Nat → Bool} => @okTo_purT en m1.length id hf low
  simp -implicitDefEqProofs -dsimp (disch := (first | omega | (simp only [List.length_set, List.length_append, List.length_cons, List.length_nil]; omega))) only [go_sem, Nat.reduceAdd, Nat.reduceSub, Nat.reduceLT, Nat.reduceLeDiff, Int.reduceToNat, Int.reduceLE, Int.reduceLT, Int.reduceAdd, Int.reduceSub, Int.reduceEq, Int.reduceNe, Int.reduceMul, Nat.reduceMul, Int.reduceNeg, Int.toNat_natCast, Nat.reduceEqDiff, X.exit.injEq, if_true, if_false, reduceIte, Bool.not_true, Bool.not_false, Bool.false_eq_true, Bool.true_eq_false, true_and,  need_of, need_true, need_and, WOf_need, i64w, u64w, at_getD, idxR_slD, and_true, Nat.zero_add, Nat.mul_one, Nat.add_zero, idxS_one, get_setN, get_setS, get_appL, List.length_set, ↓ibin_shlD, ↓ibin_shrD, bld1_true, plan_buildD, natSucc, ]
  refine (read_ok x hx hxl hf.pur).mono ?_
  rintro v m' ⟨rfl, n, a, rfl, ho⟩
  cases hfit : fitsD x.of with
  | false => simp -implicitDefEqProofs -dsimp (disch := (first | omega | (simp only [List.length_set, List.length_append, List.length_cons, List.length_nil]; omega))) only [go_sem, Nat.reduceAdd, Nat.reduceSub, Nat.reduceLT, Nat.reduceLeDiff, Int.reduceToNat, Int.reduceLE, Int.reduceLT, Int.reduceAdd, Int.reduceSub, Int.reduceEq, Int.reduceNe, Int.reduceMul, Nat.reduceMul, Int.reduceNeg, Int.toNat_natCast, Nat.reduceEqDiff, X.exit.injEq, if_true, if_false, reduceIte, Bool.not_true, Bool.not_false, Bool.false_eq_true, Bool.true_eq_false, true_and,  need_of, need_true, need_and, WOf_need, i64w, u64w, at_getD, idxR_slD, and_true, Nat.zero_add, Nat.mul_one, Nat.add_zero, idxS_one, get_setN, get_setS, get_appL, List.length_set, ↓ibin_shlD, ↓ibin_shrD, bld1_true, plan_buildD, natSucc, hfit, hokT]
  | true =>
    obtain ⟨hn, ha⟩ := ho hfit
    have hlen : x.of.length = x.l.length := by simp [LL.of]
    have hnl : n.l.length = x.of.length := by rw [hn]; simp [needD]
    have h14 := fits_len hfit
    have hpos : 0 < 2 ^ x.of.length := Nat.pow_pos (by omega)
    have hp14 : 2 ^ x.of.length ≤ 2 ^ 14 := Nat.pow_le_pow_right (by omega) h14
    have hshl : shlK .u64 1 (x.l.length : Int) = ((2 ^ x.of.length : Nat) : Int) := by rw [← hlen]; exact u64_shl (by omega)
    obtain ⟨M, hM⟩ : ∃ M, 2 ^ x.of.length = M + 1 := ⟨2 ^ x.of.length - 1, by omega⟩
    have hM2 : 2 ^ x.of.length - 1 = M := by omega
    have hsub : ((2 ^ x.of.length : Nat) : Int) - 1 = (M : Int) := by omega
    have hMlt : M < 2 ^ n.l.length := by rw [hnl]; omega
    have hM64 : (M : Int) ≤ 18446744073709551615 := by omega
    rw [hM2]
    generalize 2 ^ x.of.length = N at *
    simp -implicitDefEqProofs -dsimp (disch := (first | omega | (simp only [List.length_set, List.length_append, List.length_cons, List.length_nil]; omega))) only [go_sem, Nat.reduceAdd, Nat.reduceSub, Nat.reduceLT, Nat.reduceLeDiff, Int.reduceToNat, Int.reduceLE, Int.reduceLT, Int.reduceAdd, Int.reduceSub, Int.reduceEq, Int.reduceNe, Int.reduceMul, Nat.reduceMul, Int.reduceNeg, Int.toNat_natCast, Nat.reduceEqDiff, X.exit.injEq, if_true, if_false, reduceIte, Bool.not_true, Bool.not_false, Bool.false_eq_true, Bool.true_eq_false, true_and,  need_of, need_true, need_and, WOf_need, i64w, u64w, at_getD, idxR_slD, and_true, Nat.zero_add, Nat.mul_one, Nat.add_zero, idxS_one, get_setN, get_setS, get_appL, List.length_set, ↓ibin_shlD, ↓ibin_shrD, bld1_true, plan_buildD, natSucc, hfit, hokT, findV_nil, getM, setV, hshl, hsub]
    refine ⟨by kernel_rfl, ?_⟩
    have hps : MapOk n.l [((0 : Int), (1 : Int))] := ⟨fun y hy => ⟨0, by simp at hy; rw [hy]; rfl, by simp at hy; rw [hy, ow_zero]; rfl⟩, ⟨_, List.mem_singleton.2 rfl, rfl⟩⟩
    refine (ways_ok n a (by omega) (by rw [hn]; exact fun y hy => Nat.lt_of_lt_of_le (need_lt14 hfit y hy) (by decide)) (m'.length + 2) m'.length (m'.length + 3) (m'.length + 1) (by omega) (by omega) (by omega) M [(0, 1)] ⟨m'.length :: en.bases, m'.length⟩ _ hMlt hps (hf.pur.mono (by simp)) (by simp) (by simp -implicitDefEqProofs -dsimp (disch := (first | omega | (simp only [List.length_set, List.length_append, List.length_cons, List.length_nil]; omega))) only [go_sem, Nat.reduceAdd, Nat.reduceSub, Nat.reduceLT, Nat.reduceLeDiff, Int.reduceToNat, Int.reduceLE, Int.reduceLT, Int.reduceAdd, Int.reduceSub, Int.reduceEq, Int.reduceNe, Int.reduceMul, Nat.reduceMul, Int.reduceNeg, Int.toNat_natCast, Nat.reduceEqDiff, X.exit.injEq, if_true, if_false, reduceIte, Bool.not_true, Bool.not_false, Bool.false_eq_true, Bool.true_eq_false, true_and,  need_of, need_true, need_and, WOf_need, i64w, u64w, at_getD, idxR_slD, and_true, Nat.zero_add, Nat.mul_one, Nat.add_zero, idxS_one, get_setN, get_setS, get_appL, List.length_set, ↓ibin_shlD, ↓ibin_shrD, bld1_true, plan_buildD, natSucc, ]) (by simp -implicitDefEqProofs -dsimp (disch := (first | omega | (simp only [List.length_set, List.length_append, List.length_cons, List.length_nil]; omega))) only [go_sem, Nat.reduceAdd, Nat.reduceSub, Nat.reduceLT, Nat.reduceLeDiff, Int.reduceToNat, Int.reduceLE, Int.reduceLT, Int.reduceAdd, Int.reduceSub, Int.reduceEq, Int.reduceNe, Int.reduceMul, Nat.reduceMul, Int.reduceNeg, Int.toNat_natCast, Nat.reduceEqDiff, X.exit.injEq, if_true, if_false, reduceIte, Bool.not_true, Bool.not_false, Bool.false_eq_true, Bool.true_eq_false, true_and,  need_of, need_true, need_and, WOf_need, i64w, u64w, at_getD, idxR_slD, and_true, Nat.zero_add, Nat.mul_one, Nat.add_zero, idxS_one, get_setN, get_setS, get_appL, List.length_set, ↓ibin_shlD, ↓ibin_shrD, bld1_true, plan_buildD, natSucc, ]) (by simp -implicitDefEqProofs -dsimp (disch := (first | omega | (simp only [List.length_set, List.length_append, List.length_cons, List.length_nil]; omega))) only [go_sem, Nat.reduceAdd, Nat.reduceSub, Nat.reduceLT, Nat.reduceLeDiff, Int.reduceToNat, Int.reduceLE, Int.reduceLT, Int.reduceAdd, Int.reduceSub, Int.reduceEq, Int.reduceNe, Int.reduceMul, Nat.reduceMul, Int.reduceNeg, Int.toNat_natCast, Nat.reduceEqDiff, X.exit.injEq, if_true, if_false, reduceIte, Bool.not_true, Bool.not_false, Bool.false_eq_true, Bool.true_eq_false, true_and,  need_of, need_true, need_and, WOf_need, i64w, u64w, at_getD, idxR_slD, and_true, Nat.zero_add, Nat.mul_one, Nat.add_zero, idxS_one, get_setN, get_setS, get_appL, List.length_set, ↓ibin_shlD, ↓ibin_shrD, bld1_true, plan_buildD, natSucc, ]) (by simp -implicitDefEqProofs -dsimp (disch := (first | omega | (simp only [List.length_set, List.length_append, List.length_cons, List.length_nil]; omega))) only [go_sem, Nat.reduceAdd, Nat.reduceSub, Nat.reduceLT, Nat.reduceLeDiff, Int.reduceToNat, Int.reduceLE, Int.reduceLT, Int.reduceAdd, Int.reduceSub, Int.reduceEq, Int.reduceNe, Int.reduceMul, Nat.reduceMul, Int.reduceNeg, Int.toNat_natCast, Nat.reduceEqDiff, X.exit.injEq, if_true, if_false, reduceIte, Bool.not_true, Bool.not_false, Bool.false_eq_true, Bool.true_eq_false, true_and,  need_of, need_true, need_and, WOf_need, i64w, u64w, at_getD, idxR_slD, and_true, Nat.zero_add, Nat.mul_one, Nat.add_zero, idxS_one, get_setN, get_setS, get_appL, List.length_set, ↓ibin_shlD, ↓ibin_shrD, bld1_true, plan_buildD, natSucc, ]; rfl)).mono ?_
    rintro v m1 ⟨rfl, ps', hps', rfl⟩
    simp -implicitDefEqProofs -dsimp (disch := (first | omega | (simp only [List.length_set, List.length_append, List.length_cons, List.length_nil]; omega))) only [go_sem, Nat.reduceAdd, Nat.reduceSub, Nat.reduceLT, Nat.reduceLeDiff, Int.reduceToNat, Int.reduceLE, Int.reduceLT, Int.reduceAdd, Int.reduceSub, Int.reduceEq, Int.reduceNe, Int.reduceMul, Nat.reduceMul, Int.reduceNeg, Int.toNat_natCast, Nat.reduceEqDiff, X.exit.injEq, if_true, if_false, reduceIte, Bool.not_true, Bool.not_false, Bool.false_eq_true, Bool.true_eq_false, true_and,  need_of, need_true, need_and, WOf_need, i64w, u64w, at_getD, idxR_slD, and_true, Nat.zero_add, Nat.mul_one, Nat.add_zero, idxS_one, get_setN, get_setS, get_appL, List.length_set, ↓ibin_shlD, ↓ibin_shrD, bld1_true, plan_buildD, natSucc, ]
    exact ⟨peace_of (L := []) (by kernel_rfl) (by simp), by omega, by rw [hn]⟩
theorem orders10_ok (x : LL) (hx : x.l.length < 2 ^ 62) (hxl : ∀ a ∈ x.l, a.l.length < 2 ^ 62) (hf : Fits en m.length) : WC Tryd.prog pol en (.func 10) [sl (sl I) x] m fun v m' => m' = m ∧
    v = if fitsD x.of = true then .tup [I (wr (ow (needD x.of) (2 ^ x.of.length - 1))), I 0] else .tup [I 0, I 3] := ordersA x hx hxl (args_sl x m)
end
end Go.Proofs.YtfbamjlednbdhaaDoor.V
/- The reference's Orders; no condition. -/
namespace Go.Proofs.YtfbamjlednbdhaaDoor.V
open Go
set_option linter.unusedVariables false
set_option linter.unusedSimpArgs false
set_option maxHeartbeats 8000000
set_option maxRecDepth 10000
noncomputable section
variable {en : Env} {m : Mem}
/-- May 'i' come last in 't'? -/
def lastB (N : List Nat) (t i : Nat) : Bool := t.testBit i && decide (N.getD i 0 &&& dif t (2 ^ i) = N.getD i 0)
def rwF (N : List Nat) (n : Nat) : Nat → Nat → Nat
  | 0, _ => 0
  | f + 1, t => (if t = 0 then 1 else 0) + ((List.range n).map fun i => if lastB N t i = true then rwF N n f (dif t (2 ^ i)) else 0).sum
theorem rwF_eq (N : List Nat) (n : Nat) : ∀ f g t, t < f → t < g → rwF N n f t = rwF N n g t
  | 0, _, _, h, _ => by omega
  | _, 0, _, _, h => by omega
  | f + 1, g + 1, t, h1, h2 => by
    unfold rwF
    congr 2
    apply List.map_congr_left
    intro i _
    split
    · rename_i hl
      simp only [lastB, Bool.and_eq_true] at hl
      have := dif_lt hl.1
      exact rwF_eq N n f g _ (by omega) (by omega)
    · rfl
/-- The ways that the reference reckons. -/
def rw2 (N : List Nat) (n t : Nat) : Nat := rwF N n (t + 1) t
theorem rw2_eq (N : List Nat) (n t : Nat) : rw2 N n t = (if t = 0 then 1 else 0) + ((List.range n).map fun i => if lastB N t i = true then rw2 N n (dif t (2 ^ i)) else 0).sum := by
  rw [rw2, rwF]
  congr 2
  apply List.map_congr_left
  intro i _
  split
  · rename_i hl
    simp only [lastB, Bool.and_eq_true] at hl
    have := dif_lt hl.1
    exact rwF_eq N n _ _ _ (by omega) (by omega)
  · rfl
/-- What has come to 't' when the sets ahead of 's', and of 's' the numbers ahead of 'j', are told. -/
def part (N : List Nat) (n s j t : Nat) : Nat := (if t = 0 then 1 else 0) + ((List.range n).map fun i => if lastB N t i = true ∧ (dif t (2 ^ i) < s ∨ (dif t (2 ^ i) = s ∧ i < j)) then rw2 N n (dif t (2 ^ i)) else 0).sum
theorem sum_zero {α : Type} : ∀ l : List α, (l.map fun _ => 0).sum = 0
  | [] => rfl
  | _ :: l => by rw [List.map_cons, List.sum_cons, sum_zero l]
theorem part_zero (N : List Nat) (n t : Nat) : part N n 0 0 t = if t = 0 then 1 else 0 := by
  have h : ((List.range n).map fun i => if lastB N t i = true ∧ (dif t (2 ^ i) < 0 ∨ (dif t (2 ^ i) = 0 ∧ i < 0)) then rw2 N n (dif t (2 ^ i)) else 0) = (List.range n).map fun _ => 0 := by
    apply List.map_congr_left
    intro i _
    rw [if_neg (by omega)]
  unfold part
  rw [h, sum_zero, Nat.add_zero]
theorem part_self (N : List Nat) (n s j : Nat) : part N n s j s = rw2 N n s := by
  rw [rw2_eq, part]
  congr 2
  apply List.map_congr_left
  intro i _
  by_cases hl : lastB N s i = true
  · have := dif_lt (by simp only [lastB, Bool.and_eq_true] at hl; exact hl.1)
    rw [if_pos ⟨hl, Or.inl this⟩, if_pos hl]
  · rw [if_neg (fun h => hl h.1), if_neg hl]
theorem part_next (N : List Nat) (n s t : Nat) : part N n s n t = part N n (s + 1) 0 t := by
  unfold part
  congr 2
  apply List.map_congr_left
  intro i hi
  have : i < n := List.mem_range.1 hi
  by_cases hl : lastB N t i = true
  · simp only [hl, true_and]
    congr 1
    simp only [eq_iff_iff]; omega
  · simp [hl]
theorem or_bit {s j : Nat} (h : s.testBit j = false) : dif (s ||| 2 ^ j) (2 ^ j) = s := by
  apply Nat.eq_of_testBit_eq; intro i
  rw [dif_bit, Nat.testBit_or, Nat.testBit_two_pow]
  by_cases hij : j = i
  · subst hij; simp [h]
  · simp [hij]
theorem dif_or {t j : Nat} (h : t.testBit j = true) : dif t (2 ^ j) ||| 2 ^ j = t := by
  apply Nat.eq_of_testBit_eq; intro i
  rw [Nat.testBit_or, dif_bit, Nat.testBit_two_pow]
  by_cases hij : j = i
  · subst hij; simp [h]
  · simp [hij]
theorem sum_one {n j : Nat} (hj : j < n) (f g : Nat → Nat) (c : Nat) (h : ∀ i, i ≠ j → f i = g i) (hjc : f j = g j + c) : ((List.range n).map f).sum = ((List.range n).map g).sum + c := by
  induction n with
  | zero => omega
  | succ n ih =>
    rw [List.range_succ, List.map_append, List.map_append, List.sum_append, List.sum_append, List.map_singleton, List.map_singleton, List.sum_singleton, List.sum_singleton]
    rcases Nat.lt_or_ge j n with h1 | h1
    · rw [ih h1, h n (by omega)]; omega
    · obtain rfl : j = n := by omega
      have : (List.range j).map f = (List.range j).map g := List.map_congr_left fun i hi => h i (by have := List.mem_range.1 hi; omega)
      rw [this, hjc]; omega
/-- One more number of 's': what it brings. -/
theorem part_step (N : List Nat) {n s j : Nat} (hj : j < n) (t : Nat) : part N n s (j + 1) t = part N n s j t + if (s.testBit j = false ∧ N.getD j 0 &&& s = N.getD j 0) ∧ t = s ||| 2 ^ j then rw2 N n s else 0 := by
  unfold part
  rw [Nat.add_assoc]
  congr 1
  refine sum_one hj _ _ _ (fun i hi => ?_) ?_
  · by_cases hl : lastB N t i = true
    · simp only [hl, true_and]
      congr 1
      simp only [eq_iff_iff]; omega
    · simp [hl]
  · by_cases hc : (s.testBit j = false ∧ N.getD j 0 &&& s = N.getD j 0) ∧ t = s ||| 2 ^ j
    · obtain ⟨⟨h1, h2⟩, rfl⟩ := hc
      have hd := or_bit h1
      have hl : lastB N (s ||| 2 ^ j) j = true := by
        rw [lastB, hd, Nat.testBit_or, Nat.testBit_two_pow]
        simp only [h2]; simp
      rw [if_pos ⟨hl, by rw [hd]; omega⟩, if_neg (by rw [hd]; omega), if_pos ⟨⟨h1, h2⟩, rfl⟩, hd, Nat.zero_add]
    · rw [if_neg hc, Nat.add_zero]
      by_cases hl : lastB N t j = true
      · by_cases hd : dif t (2 ^ j) = s
        · exfalso
          simp only [lastB, Bool.and_eq_true, decide_eq_true_eq] at hl
          rw [hd] at hl
          refine hc ⟨⟨?_, hl.2⟩, ?_⟩
          · rw [← hd, dif_bit, Nat.testBit_two_pow]; simp
          · rw [← hd, dif_or hl.1]
        · simp only [hl, true_and]
          congr 1
          simp only [eq_iff_iff]; omega
      · simp [hl]
theorem range_set {α : Type} {f g : Nat → α} {N t0 : Nat} (h : ∀ t, t ≠ t0 → g t = f t) : ((List.range N).map f).set t0 (g t0) = (List.range N).map g := by
  apply List.ext_getElem?
  intro t
  rw [List.getElem?_set]
  split
  · rename_i e
    subst e
    split
    · rename_i hlt
      rw [List.getElem?_map, List.getElem?_range (by simpa using hlt)]; rfl
    · rename_i hlt
      rw [List.getElem?_eq_none (by simpa using hlt)]
  · rename_i e
    rw [List.getElem?_map, List.getElem?_map]
    rcases Nat.lt_or_ge t N with ht | ht
    · rw [List.getElem?_range ht, Option.map_some, Option.map_some, h t (fun h => e h.symm)]
    · rw [List.getElem?_eq_none (by simpa using ht)]; rfl
theorem bitI0 (s i : Nat) (hs : s < 2 ^ 63) (hi : i < 64) : (andK .i64 (shrK .i64 (s : Int) (i : Int)) 1 = 0) = (s.testBit i = false) := by
  rw [bitI s i hs hi]
  cases s.testBit i <;> simp
theorem orders11_ok (x : LL) (hx : x.l.length < 2 ^ 62) (hxl : ∀ a ∈ x.l, a.l.length < 2 ^ 62) (hf : Fits en m.length) : WC Tryd.prog pol en (.func 11) [sl (sl I) x] m fun v m' => m' = m ∧
    v = if fitsD x.of = true then .tup [I (wr (rw2 (needD x.of) x.of.length (2 ^ x.of.length - 1))), I 0] else .tup [I 0, I 3] := by
  refine callPur Tryd.func11 rfl rfl Tryd.ntmps11 Tryd.results11 ?_
  simp -implicitDefEqProofs -dsimp (disch := (first | omega | (simp only [List.length_set, List.length_append, List.length_cons, List.length_nil]; omega))) only [go_sem, Nat.reduceAdd, Nat.reduceSub, Nat.reduceLT, Nat.reduceLeDiff, Int.reduceToNat, Int.reduceLE, Int.reduceLT, Int.reduceAdd, Int.reduceSub, Int.reduceEq, Int.reduceNe, Int.reduceMul, Nat.reduceMul, Int.reduceNeg, Int.toNat_natCast, Nat.reduceEqDiff, X.exit.injEq, if_true, if_false, reduceIte, Bool.not_true, Bool.not_false, Bool.false_eq_true, Bool.true_eq_false, true_and,  need_of, need_true, need_and, WOf_need, i64w, u64w, at_getD, idxR_slD, and_true, Nat.zero_add, Nat.mul_one, Nat.add_zero, idxS_one, get_setN, get_setS, get_appL, List.length_set, ↓ibin_shlD, ↓ibin_shrD, bld1_true, plan_buildD, natSucc, ]
  refine (fits_ok x hx hxl hf.pur).mono ?_
  rintro v m' ⟨rfl, rfl⟩
  cases hfit : fitsD x.of with
  | false => simp -implicitDefEqProofs -dsimp (disch := (first | omega | (simp only [List.length_set, List.length_append, List.length_cons, List.length_nil]; omega))) only [go_sem, Nat.reduceAdd, Nat.reduceSub, Nat.reduceLT, Nat.reduceLeDiff, Int.reduceToNat, Int.reduceLE, Int.reduceLT, Int.reduceAdd, Int.reduceSub, Int.reduceEq, Int.reduceNe, Int.reduceMul, Nat.reduceMul, Int.reduceNeg, Int.toNat_natCast, Nat.reduceEqDiff, X.exit.injEq, if_true, if_false, reduceIte, Bool.not_true, Bool.not_false, Bool.false_eq_true, Bool.true_eq_false, true_and,  need_of, need_true, need_and, WOf_need, i64w, u64w, at_getD, idxR_slD, and_true, Nat.zero_add, Nat.mul_one, Nat.add_zero, idxS_one, get_setN, get_setS, get_appL, List.length_set, ↓ibin_shlD, ↓ibin_shrD, bld1_true, plan_buildD, natSucc, ]
  | true =>
    have hlen : x.of.length = x.l.length := by simp [LL.of]
    have h14 := fits_len hfit
    have hokT := fun {id : Nat} {low : Nat → Bool} => @okTo_purT en m'.length id hf low
    simp -implicitDefEqProofs -dsimp (disch := (first | omega | (simp only [List.length_set, List.length_append, List.length_cons, List.length_nil]; omega))) only [go_sem, Nat.reduceAdd, Nat.reduceSub, Nat.reduceLT, Nat.reduceLeDiff, Int.reduceToNat, Int.reduceLE, Int.reduceLT, Int.reduceAdd, Int.reduceSub, Int.reduceEq, Int.reduceNe, Int.reduceMul, Nat.reduceMul, Int.reduceNeg, Int.toNat_natCast, Nat.reduceEqDiff, X.exit.injEq, if_true, if_false, reduceIte, Bool.not_true, Bool.not_false, Bool.false_eq_true, Bool.true_eq_false, true_and,  need_of, need_true, need_and, WOf_need, i64w, u64w, at_getD, idxR_slD, and_true, Nat.zero_add, Nat.mul_one, Nat.add_zero, idxS_one, get_setN, get_setS, get_appL, List.length_set, ↓ibin_shlD, ↓ibin_shrD, bld1_true, plan_buildD, natSucc, ]
    refine (needs_ok x hfit hxl hf.pur).mono ?_
    rintro v m' ⟨rfl, y, rfl, hy⟩
    have hyl : y.l.length = x.l.length := by rw [hy]; simp [needD, hlen]
    have hsh : shlK .i64 1 (x.l.length : Int) = ((2 ^ x.of.length : Nat) : Int) := by rw [← hlen]; exact i64_shl (by omega)
    have hp : 2 ^ x.of.length ≤ 2 ^ 14 := Nat.pow_le_pow_right (by omega) h14
    have hpos : 0 < 2 ^ x.of.length := Nat.pow_pos (by omega)
    obtain ⟨n, hn⟩ : ∃ n, x.of.length = n := ⟨_, rfl⟩
    have hnx : x.l.length = n := by omega
    rw [hnx] at hsh
    rw [hn] at hsh hp hpos h14 hlen ⊢
    obtain ⟨NN, hN⟩ : ∃ N, 2 ^ n = N := ⟨_, rfl⟩
    rw [hN] at hsh hp hpos ⊢
    have hL : ∀ a ∈ needD x.of, a < 2 ^ 63 := need_lt63 hfit
    generalize needD x.of = L at *
    have hgL : ∀ i, L.getD i 0 < 2 ^ 63 := getD_lt hL
    simp -implicitDefEqProofs -dsimp (disch := (first | omega | (simp only [List.length_set, List.length_append, List.length_cons, List.length_nil]; omega))) only [go_sem, Nat.reduceAdd, Nat.reduceSub, Nat.reduceLT, Nat.reduceLeDiff, Int.reduceToNat, Int.reduceLE, Int.reduceLT, Int.reduceAdd, Int.reduceSub, Int.reduceEq, Int.reduceNe, Int.reduceMul, Nat.reduceMul, Int.reduceNeg, Int.toNat_natCast, Nat.reduceEqDiff, X.exit.injEq, if_true, if_false, reduceIte, Bool.not_true, Bool.not_false, Bool.false_eq_true, Bool.true_eq_false, true_and,  need_of, need_true, need_and, WOf_need, i64w, u64w, at_getD, idxR_slD, and_true, Nat.zero_add, Nat.mul_one, Nat.add_zero, idxS_one, get_setN, get_setS, get_appL, List.length_set, ↓ibin_shlD, ↓ibin_shrD, bld1_true, plan_buildD, natSucc, hnx, hsh, flat_rep]
    refine ⟨by rw [List.all_eq_true]; intro v hv; rw [List.mem_replicate] at hv; rw [hv.2]; rfl, ?_⟩
    simp -implicitDefEqProofs -dsimp (disch := (first | omega | (simp only [List.length_set, List.length_append, List.length_cons, List.length_nil]; omega))) only [go_sem, Nat.reduceAdd, Nat.reduceSub, Nat.reduceLT, Nat.reduceLeDiff, Int.reduceToNat, Int.reduceLE, Int.reduceLT, Int.reduceAdd, Int.reduceSub, Int.reduceEq, Int.reduceNe, Int.reduceMul, Nat.reduceMul, Int.reduceNeg, Int.toNat_natCast, Nat.reduceEqDiff, X.exit.injEq, if_true, if_false, reduceIte, Bool.not_true, Bool.not_false, Bool.false_eq_true, Bool.true_eq_false, true_and,  need_of, need_true, need_and, WOf_need, i64w, u64w, at_getD, idxR_slD, and_true, Nat.zero_add, Nat.mul_one, Nat.add_zero, idxS_one, get_setN, get_setS, get_appL, List.length_set, ↓ibin_shlD, ↓ibin_shrD, bld1_true, plan_buildD, natSucc, hokT, List.length_replicate]
    refine ⟨by omega, ?_⟩
    have hinit : (List.replicate NN (AV.sc (.int .i64 0))).set 0 (AV.sc (.int .i64 1)) = (List.range NN).map fun t => I (wr (part L n 0 0 t)) := by
      apply List.ext_getElem?
      intro t
      rw [List.getElem?_set, List.getElem?_map, List.getElem?_replicate]
      rcases Nat.lt_or_ge t NN with ht | ht
      · rw [List.getElem?_range ht, if_pos ht, Option.map_some, part_zero]
        by_cases h0 : 0 = t
        · subst h0; simp [ht, wr]; rfl
        · rw [if_neg h0, if_neg (fun h => h0 h.symm)]; rfl
      · rw [if_neg (by omega), if_neg (by omega), List.getElem?_eq_none (by simpa using ht)]; rfl
    rw [hinit]
    refine loopF (fun k ts m2 => ∃ (s : Nat), ts.length = 69 ∧ tg ts 0 = sl (sl I) x ∧ tg ts 4 = sl I y ∧ tg ts 5 = .own m'.length 0 0 NN 1 ∧ tg ts 6 = I s ∧ s ≤ NN ∧ m2 = m' ++ [.cells 0 ((List.range NN).map fun t => I (wr (part L n s 0 t)))] ∧ k = NN - s) NN ⟨0, rfl, rfl, rfl, rfl, rfl, by omega, rfl, by omega⟩ ?_
    rintro k ts m2 ⟨s, hl, t0, t4, t5, t6, hs, rfl, hk⟩
    rw [expandT hl]
    simp -implicitDefEqProofs -dsimp (disch := (first | omega | (simp only [List.length_set, List.length_append, List.length_cons, List.length_nil]; omega))) only [go_sem, Nat.reduceAdd, Nat.reduceSub, Nat.reduceLT, Nat.reduceLeDiff, Int.reduceToNat, Int.reduceLE, Int.reduceLT, Int.reduceAdd, Int.reduceSub, Int.reduceEq, Int.reduceNe, Int.reduceMul, Nat.reduceMul, Int.reduceNeg, Int.toNat_natCast, Nat.reduceEqDiff, X.exit.injEq, if_true, if_false, reduceIte, Bool.not_true, Bool.not_false, Bool.false_eq_true, Bool.true_eq_false, true_and,  need_of, need_true, need_and, WOf_need, i64w, u64w, at_getD, idxR_slD, and_true, Nat.zero_add, Nat.mul_one, Nat.add_zero, idxS_one, get_setN, get_setS, get_appL, List.length_set, ↓ibin_shlD, ↓ibin_shrD, bld1_true, plan_buildD, natSucc, t0, t4, t5, t6, hsh, hnx]
    split
    · rename_i hlt
      refine loopF (fun k ts m2 => ∃ (j : Nat), ts.length = 69 ∧ tg ts 0 = sl (sl I) x ∧ tg ts 4 = sl I y ∧ tg ts 5 = .own m'.length 0 0 NN 1 ∧ tg ts 6 = I s ∧ tg ts 7 = I j ∧ j ≤ n ∧ m2 = m' ++ [.cells 0 ((List.range NN).map fun t => I (wr (part L n s j t)))] ∧ k = n - j) n ⟨0, rfl, rfl, rfl, rfl, rfl, rfl, by omega, rfl, by omega⟩ ?_
      rintro k2 ts m2 ⟨j, hl, t0, t4, t5, t6, t7, hj, rfl, hk2⟩
      rw [expandT hl]
      simp -implicitDefEqProofs -dsimp (disch := (first | omega | (simp only [List.length_set, List.length_append, List.length_cons, List.length_nil]; omega))) only [go_sem, Nat.reduceAdd, Nat.reduceSub, Nat.reduceLT, Nat.reduceLeDiff, Int.reduceToNat, Int.reduceLE, Int.reduceLT, Int.reduceAdd, Int.reduceSub, Int.reduceEq, Int.reduceNe, Int.reduceMul, Nat.reduceMul, Int.reduceNeg, Int.toNat_natCast, Nat.reduceEqDiff, X.exit.injEq, if_true, if_false, reduceIte, Bool.not_true, Bool.not_false, Bool.false_eq_true, Bool.true_eq_false, true_and,  need_of, need_true, need_and, WOf_need, i64w, u64w, at_getD, idxR_slD, and_true, Nat.zero_add, Nat.mul_one, Nat.add_zero, idxS_one, get_setN, get_setS, get_appL, List.length_set, ↓ibin_shlD, ↓ibin_shrD, bld1_true, plan_buildD, natSucc, t0, t4, t5, t6, t7, hnx]
      split
      · rename_i hltj
        have hj' : j < y.l.length := by omega
        have hb := bitI0 s j (by omega) (by omega)
        have hg := getI hy hj'
        have hlj := hgL j
        have ha : andK .i64 (L.getD j 0 : Int) (s : Int) = ((L.getD j 0 &&& s : Nat) : Int) := i64_and hlj
        have hst := fun t => part_step L (n := n) (s := s) (j := j) (by omega) t
        obtain ⟨e, he⟩ : ∃ e, L.getD j 0 = e := ⟨_, rfl⟩
        rw [he] at hg ha hst
        by_cases hbit : s.testBit j = false
        · by_cases heq : e &&& s = e
          · have hshj : shlK .i64 1 (j : Int) = ((2 ^ j : Nat) : Int) := i64_shl (by omega)
            have hpj : 2 ^ j < 2 ^ 63 := Nat.pow_lt_pow_right (by omega) (by omega)
            have hor : orK .i64 (s : Int) ((2 ^ j : Nat) : Int) = ((s ||| 2 ^ j : Nat) : Int) := i64_or (by omega) hpj
            have hT : s ||| 2 ^ j < NN := by
              rw [← hN]; exact Nat.or_lt_two_pow (by omega) (Nat.pow_lt_pow_right (by omega) (by omega))
            obtain ⟨T, hTe⟩ : ∃ T, s ||| 2 ^ j = T := ⟨_, rfl⟩
            rw [hTe] at hor hT hst
            have hgetT : ((List.range NN).map fun t => I (wr (part L n s j t)))[T]? = some (I (wr (part L n s j T))) := by rw [List.getElem?_map, List.getElem?_range hT]; rfl
            have hgets : ((List.range NN).map fun t => I (wr (part L n s j t)))[s]? = some (I (wr (rw2 L n s))) := by rw [List.getElem?_map, List.getElem?_range (by omega), ← part_self L n s j]; rfl
            have hT1 : part L n s (j + 1) T = part L n s j T + rw2 L n s := by rw [hst T, if_pos ⟨⟨hbit, heq⟩, rfl⟩]
            have hsum := wr_add (part L n s j T) (rw2 L n s)
            rw [← hT1] at hsum
            have hset := range_set (f := fun t => I (wr (part L n s j t))) (g := fun t => I (wr (part L n s (j + 1) t))) (N := NN) (t0 := T) (fun t ht => by
              show I (wr (part L n s (j + 1) t)) = I (wr (part L n s j t))
              rw [hst t, if_neg (fun h => ht h.2), Nat.add_zero])
            have b1 : (0 : Int) ≤ (T : Int) := by omega
            have b2 : (T : Int) < (NN : Int) := by omega
            have hcd : decide (((e &&& s : Nat) : Int) = (e : Int)) = true := decide_eq_true (by omega)
            simp -implicitDefEqProofs -dsimp (disch := (first | omega | (simp only [List.length_set, List.length_append, List.length_cons, List.length_nil]; omega))) only [go_sem, Nat.reduceAdd, Nat.reduceSub, Nat.reduceLT, Nat.reduceLeDiff, Int.reduceToNat, Int.reduceLE, Int.reduceLT, Int.reduceAdd, Int.reduceSub, Int.reduceEq, Int.reduceNe, Int.reduceMul, Nat.reduceMul, Int.reduceNeg, Int.toNat_natCast, Nat.reduceEqDiff, X.exit.injEq, if_true, if_false, reduceIte, Bool.not_true, Bool.not_false, Bool.false_eq_true, Bool.true_eq_false, true_and,  need_of, need_true, need_and, WOf_need, i64w, u64w, at_getD, idxR_slD, and_true, Nat.zero_add, Nat.mul_one, Nat.add_zero, idxS_one, get_setN, get_setS, get_appL, List.length_set, ↓ibin_shlD, ↓ibin_shrD, bld1_true, plan_buildD, natSucc, hb, hbit, hg, ha, hcd, hshj, hor, b1, b2, hgetT, hgets, hsum, hokT, List.length_map, List.length_range]
            refine ⟨by kernel_rfl, by kernel_rfl, by kernel_rfl, by omega, peace_of (L := [(⟨[m'.length], [], false, false, false⟩, ⟨[m'.length], [], false, false, false⟩)]) (by kernel_rfl) (by simp [confl, Foot.loud, Foot.writes]), n - (j + 1), by omega, j + 1, ?_⟩
            and_intros <;> (first | with_reducible rfl | omega | with_reducible assumption | exact True.intro | skip)
            rw [← hset]
          · have hcd : decide (((e &&& s : Nat) : Int) = (e : Int)) = false := decide_eq_false (by omega)
            simp -implicitDefEqProofs -dsimp (disch := (first | omega | (simp only [List.length_set, List.length_append, List.length_cons, List.length_nil]; omega))) only [go_sem, Nat.reduceAdd, Nat.reduceSub, Nat.reduceLT, Nat.reduceLeDiff, Int.reduceToNat, Int.reduceLE, Int.reduceLT, Int.reduceAdd, Int.reduceSub, Int.reduceEq, Int.reduceNe, Int.reduceMul, Nat.reduceMul, Int.reduceNeg, Int.toNat_natCast, Nat.reduceEqDiff, X.exit.injEq, if_true, if_false, reduceIte, Bool.not_true, Bool.not_false, Bool.false_eq_true, Bool.true_eq_false, true_and,  need_of, need_true, need_and, WOf_need, i64w, u64w, at_getD, idxR_slD, and_true, Nat.zero_add, Nat.mul_one, Nat.add_zero, idxS_one, get_setN, get_setS, get_appL, List.length_set, ↓ibin_shlD, ↓ibin_shrD, bld1_true, plan_buildD, natSucc, hb, hbit, hg, ha, hcd]
            refine ⟨by kernel_rfl, by kernel_rfl, n - (j + 1), by omega, j + 1, ?_⟩
            have hsame : ((List.range NN).map fun t => I (wr (part L n s (j + 1) t))) = (List.range NN).map fun t => I (wr (part L n s j t)) := by
              apply List.map_congr_left
              intro t _
              rw [hst t, if_neg (fun h => heq h.1.2), Nat.add_zero]
            rw [hsame]
            and_intros <;> (first | with_reducible rfl | omega | with_reducible assumption | exact True.intro | skip)
        · simp -implicitDefEqProofs -dsimp (disch := (first | omega | (simp only [List.length_set, List.length_append, List.length_cons, List.length_nil]; omega))) only [go_sem, Nat.reduceAdd, Nat.reduceSub, Nat.reduceLT, Nat.reduceLeDiff, Int.reduceToNat, Int.reduceLE, Int.reduceLT, Int.reduceAdd, Int.reduceSub, Int.reduceEq, Int.reduceNe, Int.reduceMul, Nat.reduceMul, Int.reduceNeg, Int.toNat_natCast, Nat.reduceEqDiff, X.exit.injEq, if_true, if_false, reduceIte, Bool.not_true, Bool.not_false, Bool.false_eq_true, Bool.true_eq_false, true_and,  need_of, need_true, need_and, WOf_need, i64w, u64w, at_getD, idxR_slD, and_true, Nat.zero_add, Nat.mul_one, Nat.add_zero, idxS_one, get_setN, get_setS, get_appL, List.length_set, ↓ibin_shlD, ↓ibin_shrD, bld1_true, plan_buildD, natSucc, hb, hbit, hg, ha]
          refine ⟨by kernel_rfl, by kernel_rfl, n - (j + 1), by omega, j + 1, ?_⟩
          have hsame : ((List.range NN).map fun t => I (wr (part L n s (j + 1) t))) = (List.range NN).map fun t => I (wr (part L n s j t)) := by
            apply List.map_congr_left
            intro t _
            rw [hst t, if_neg (fun h => hbit h.1.1), Nat.add_zero]
          rw [hsame]
          and_intros <;> (first | with_reducible rfl | omega | with_reducible assumption | exact True.intro | skip)
      · rename_i hltj
        try simp -implicitDefEqProofs -dsimp (disch := (first | omega | (simp only [List.length_set, List.length_append, List.length_cons, List.length_nil]; omega))) only [go_sem, Nat.reduceAdd, Nat.reduceSub, Nat.reduceLT, Nat.reduceLeDiff, Int.reduceToNat, Int.reduceLE, Int.reduceLT, Int.reduceAdd, Int.reduceSub, Int.reduceEq, Int.reduceNe, Int.reduceMul, Nat.reduceMul, Int.reduceNeg, Int.toNat_natCast, Nat.reduceEqDiff, X.exit.injEq, if_true, if_false, reduceIte, Bool.not_true, Bool.not_false, Bool.false_eq_true, Bool.true_eq_false, true_and,  need_of, need_true, need_and, WOf_need, i64w, u64w, at_getD, idxR_slD, and_true, Nat.zero_add, Nat.mul_one, Nat.add_zero, idxS_one, get_setN, get_setS, get_appL, List.length_set, ↓ibin_shlD, ↓ibin_shrD, bld1_true, plan_buildD, natSucc, ]
        refine ⟨NN - (s + 1), by omega, s + 1, ?_⟩
        have hjn : j = n := by omega
        subst hjn
        simp only [part_next]
        and_intros <;> (first | with_reducible rfl | omega | with_reducible assumption | exact True.intro | skip)
    · rename_i hlt
      have hse : s = NN := by omega
      subst hse
      obtain ⟨q, hqs⟩ : ∃ q, q + 1 = s := ⟨s - 1, by omega⟩
      have hq : (s : Int) - 1 = (q : Int) := by omega
      have hq2 : s - 1 = q := by omega
      have b1 : (q : Int) < (s : Int) := by omega
      have hval : ((List.range s).map fun t => I (wr (part L n s 0 t)))[q]? = some (I (wr (rw2 L n q))) := by
        rw [List.getElem?_map, List.getElem?_range (by omega), Option.map_some]
        have : part L n s 0 q = rw2 L n q := by rw [← hqs, ← part_next]; exact part_self L n q n
        rw [this]
      simp -implicitDefEqProofs -dsimp (disch := (first | omega | (simp only [List.length_set, List.length_append, List.length_cons, List.length_nil]; omega))) only [go_sem, Nat.reduceAdd, Nat.reduceSub, Nat.reduceLT, Nat.reduceLeDiff, Int.reduceToNat, Int.reduceLE, Int.reduceLT, Int.reduceAdd, Int.reduceSub, Int.reduceEq, Int.reduceNe, Int.reduceMul, Nat.reduceMul, Int.reduceNeg, Int.toNat_natCast, Nat.reduceEqDiff, X.exit.injEq, if_true, if_false, reduceIte, Bool.not_true, Bool.not_false, Bool.false_eq_true, Bool.true_eq_false, true_and,  need_of, need_true, need_and, WOf_need, i64w, u64w, at_getD, idxR_slD, and_true, Nat.zero_add, Nat.mul_one, Nat.add_zero, idxS_one, get_setN, get_setS, get_appL, List.length_set, ↓ibin_shlD, ↓ibin_shrD, bld1_true, plan_buildD, natSucc, hq, hval, hq2, b1]
end
end Go.Proofs.YtfbamjlednbdhaaDoor.V
/- The two ways to reckon the orders agree; no condition. -/
namespace Go.Proofs.YtfbamjlednbdhaaDoor.V
open Go
set_option linter.unusedVariables false
set_option linter.unusedSimpArgs false
def ClosedN (N : List Nat) (s : Nat) : Prop := ∀ i, s.testBit i = true → ∀ k, (N.getD i 0).testBit k = true → s.testBit k = true
theorem dif_mem {s i k : Nat} : (dif s (2 ^ i)).testBit k = true ↔ s.testBit k = true ∧ k ≠ i := by
  rw [dif_bit, Nat.testBit_two_pow, Bool.and_eq_true]
  simp only [Bool.not_eq_true', decide_eq_false_iff_not]
  exact and_congr_right fun _ => ⟨fun h e => h e.symm, fun h e => h e.symm⟩
theorem sum_nil {l : List Nat} {f : Nat → Nat} (h : ∀ i ∈ l, f i = 0) : (l.map f).sum = 0 := by
  rw [List.map_congr_left h]; exact sum_zero l
theorem rw_open (N : List Nat) (n : Nat) : ∀ t, ¬ ClosedN N t → rw2 N n t = 0 := by
  intro t
  induction t using Nat.strongRecOn with
  | ind t ih =>
    intro hc
    have h0 : t ≠ 0 := fun h => hc (by rw [h]; intro i hi; simp at hi)
    rw [rw2_eq, if_neg h0, Nat.zero_add]
    refine sum_nil fun i _ => ?_
    by_cases hl : lastB N t i = true
    · rw [if_pos hl]
      simp only [lastB, Bool.and_eq_true, decide_eq_true_eq] at hl
      refine ih _ (dif_lt hl.1) fun hcl => hc ?_
      intro k hk j hj
      by_cases hki : k = i
      · subst hki
        exact (dif_mem.1 ((sub_iff _ _).1 hl.2 j hj)).1
      · exact (dif_mem.1 (hcl k (dif_mem.2 ⟨hk, hki⟩) j hj)).1
    · rw [if_neg hl]
theorem sum_filter (p : Nat → Bool) (f : Nat → Nat) : ∀ l : List Nat, ((l.filter p).map f).sum = (l.map fun i => if p i = true then f i else 0).sum
  | [] => rfl
  | a :: l => by
    rw [List.filter_cons, List.map_cons, List.sum_cons, ← sum_filter p f l]
    cases h : p a with
    | true => simp
    | false => simp
theorem bits_sum {u n : Nat} (hn : n ≤ 64) (hu : u < 2 ^ n) (f : Nat → Nat) : ((bitsOf u).map f).sum = ((List.range n).map fun i => if u.testBit i = true then f i else 0).sum := by
  unfold bitsOf
  rw [sum_filter]
  obtain ⟨r, hr⟩ : ∃ r, 64 = n + r := ⟨64 - n, by omega⟩
  rw [hr, List.range_add, List.map_append, List.sum_append]
  have : ((List.map (fun x => n + x) (List.range r)).map fun i => if u.testBit i = true then f i else 0).sum = 0 := by
    refine sum_nil fun i hi => ?_
    obtain ⟨j, _, rfl⟩ := List.mem_map.1 hi
    rw [Nat.testBit_lt_two_pow (Nat.lt_of_lt_of_le hu (Nat.pow_le_pow_right (by omega) (by omega)))]
    simp
  rw [this, Nat.add_zero]
theorem needed_bit (N : List Nat) {s i : Nat} (hs : s < 2 ^ 64) : (neededOf N s).testBit i = true ↔ ∃ k, s.testBit k = true ∧ (N.getD k 0).testBit i = true := by
  unfold neededOf
  rw [fold_or_bit, Nat.zero_testBit, Bool.false_or, List.any_eq_true]
  constructor
  · rintro ⟨k, hk, h⟩; exact ⟨k, bits_mem hk, h⟩
  · rintro ⟨k, hk, h⟩
    refine ⟨k, List.mem_filter.2 ⟨List.mem_range.2 ?_, hk⟩, h⟩
    have h1 := lt_bit hk
    have : 2 ^ k < 2 ^ 64 := by omega
    exact (Nat.pow_lt_pow_iff_right (a := 2) (by omega)).1 this
theorem orders_eq (N : List Nat) (n : Nat) (hn : n ≤ 14) (hb : ∀ i, N.getD i 0 < 2 ^ i) : ∀ s, s < 2 ^ n → ClosedN N s → ow N s = rw2 N n s := by
  intro s
  induction s using Nat.strongRecOn with
  | ind s ih =>
    intro hs hc
    have hp : 2 ^ n ≤ 2 ^ 14 := Nat.pow_le_pow_right (by omega) hn
    by_cases h0 : s = 0
    · subst h0
      rw [ow_zero, rw2_eq, if_pos rfl]
      have : ((List.range n).map fun i => if lastB N 0 i = true then rw2 N n (dif 0 (2 ^ i)) else 0).sum = 0 := sum_nil fun i _ => by simp [lastB]
      rw [this]
    · have hd := dif_le s (neededOf N s)
      rw [ow_eq N h0, rw2_eq, if_neg h0, Nat.zero_add, bits_sum (n := n) (by omega) (by omega)]
      congr 1
      apply List.map_congr_left
      intro i _
      have hself : (N.getD i 0).testBit i = false := Nat.testBit_lt_two_pow (hb i)
      by_cases hi : s.testBit i = true
      · have hl : lastB N s i = true := by
          rw [lastB, hi, Bool.true_and, decide_eq_true_eq, sub_iff]
          intro k hk
          refine dif_mem.2 ⟨hc i hi k hk, fun e => ?_⟩
          rw [e, hself] at hk; cases hk
        rw [if_pos hl, dif_bit, hi, Bool.true_and]
        by_cases hnd : (neededOf N s).testBit i = true
        · rw [hnd]
          obtain ⟨k, hk, hki⟩ := (needed_bit N (by omega)).1 hnd
          rw [rw_open N n _ fun hcl => ?_]
          · simp
          · have hne : k ≠ i := fun e => by rw [e, hself] at hki; cases hki
            exact (dif_mem.1 (hcl k (dif_mem.2 ⟨hk, hne⟩) i hki)).2 rfl
        · have hnd' : (neededOf N s).testBit i = false := by simpa using hnd
          rw [hnd']
          simp only [Bool.not_false, if_true]
          have hlt := dif_lt hi
          refine ih _ hlt (by omega) fun k hk j hj => ?_
          obtain ⟨hks, hki⟩ := dif_mem.1 hk
          refine dif_mem.2 ⟨hc k hks j hj, fun e => hnd ((needed_bit N (by omega)).2 ⟨k, hks, ?_⟩)⟩
          rw [← e]; exact hj
      · have hi' : s.testBit i = false := by simpa using hi
        rw [dif_bit, hi', lastB, hi']; simp
theorem orders_full {D : List (List Int)} (h : fitsD D = true) : ow (needD D) (2 ^ D.length - 1) = rw2 (needD D) D.length (2 ^ D.length - 1) := by
  have hp : 0 < 2 ^ D.length := Nat.pow_pos (by omega)
  refine orders_eq _ _ (fits_len h) (need_bound h) _ (by omega) fun i hi k hk => ?_
  rw [Nat.testBit_two_pow_sub_one] at hi ⊢
  have hi' : i < D.length := by simpa using hi
  have h1 := lt_bit hk
  have h2 := need_bound h i
  have : 2 ^ k < 2 ^ i := by omega
  have := (Nat.pow_lt_pow_iff_right (a := 2) (by omega)).1 this
  simp; omega
end Go.Proofs.YtfbamjlednbdhaaDoor.V
/- The law ExploreCounts in the VM; no condition. -/
namespace Go.Proofs.YtfbamjlednbdhaaDoor.V
open Go
set_option linter.unusedVariables false
set_option linter.unusedSimpArgs false
set_option maxHeartbeats 4000000
noncomputable section
theorem few_short' {D : List (List Int)} {y : LL} (h : y.of = fewD D) : Short y := few_short (D := D) (n := 15) (by rw [h]; rw [List.take_of_length_le]; simp [fewD]; omega)
theorem counts_law (x : LL) : WC Tryd.prog pol ⟨[], 0⟩ (.func 3) [sl (sl I) x] [] fun v m' => v = .sc (.bool true) ∧ m' = [] := by
  refine callPur Tryd.func3 rfl rfl Tryd.ntmps3 Tryd.results3 ?_
  simp -implicitDefEqProofs -dsimp (disch := (first | omega | (simp only [List.length_set, List.length_append, List.length_cons, List.length_nil]; omega))) only [go_sem, Nat.reduceAdd, Nat.reduceSub, Nat.reduceLT, Nat.reduceLeDiff, Int.reduceToNat, Int.reduceLE, Int.reduceLT, Int.reduceAdd, Int.reduceSub, Int.reduceEq, Int.reduceNe, Int.reduceMul, Nat.reduceMul, Int.reduceNeg, Int.toNat_natCast, Nat.reduceEqDiff, X.exit.injEq, if_true, if_false, reduceIte, Bool.not_true, Bool.not_false, Bool.false_eq_true, Bool.true_eq_false, true_and,  need_of, need_true, need_and, WOf_need, i64w, u64w, at_getD, idxR_slD, and_true, Nat.zero_add, Nat.mul_one, Nat.add_zero, idxS_one, get_setN, get_setS, get_appL, List.length_set, ↓ibin_shlD, ↓ibin_shrD, bld1_true, plan_buildD, natSucc, ]
  refine (few_ok x fits0.pur).mono ?_
  rintro v m' ⟨rfl, y, rfl, hy⟩
  obtain ⟨hs, hsl⟩ := few_short' hy
  cases hfit : fitsD y.of with
  | false =>
    simp -implicitDefEqProofs -dsimp (disch := (first | omega | (simp only [List.length_set, List.length_append, List.length_cons, List.length_nil]; omega))) only [go_sem, Nat.reduceAdd, Nat.reduceSub, Nat.reduceLT, Nat.reduceLeDiff, Int.reduceToNat, Int.reduceLE, Int.reduceLT, Int.reduceAdd, Int.reduceSub, Int.reduceEq, Int.reduceNe, Int.reduceMul, Nat.reduceMul, Int.reduceNeg, Int.toNat_natCast, Nat.reduceEqDiff, X.exit.injEq, if_true, if_false, reduceIte, Bool.not_true, Bool.not_false, Bool.false_eq_true, Bool.true_eq_false, true_and,  need_of, need_true, need_and, WOf_need, i64w, u64w, at_getD, idxR_slD, and_true, Nat.zero_add, Nat.mul_one, Nat.add_zero, idxS_one, get_setN, get_setS, get_appL, List.length_set, ↓ibin_shlD, ↓ibin_shrD, bld1_true, plan_buildD, natSucc, ]
    refine (count_ok y hs hsl fits0.pur).mono ?_
    rintro v m' ⟨rfl, rfl⟩
    simp -implicitDefEqProofs -dsimp (disch := (first | omega | (simp only [List.length_set, List.length_append, List.length_cons, List.length_nil]; omega))) only [go_sem, Nat.reduceAdd, Nat.reduceSub, Nat.reduceLT, Nat.reduceLeDiff, Int.reduceToNat, Int.reduceLE, Int.reduceLT, Int.reduceAdd, Int.reduceSub, Int.reduceEq, Int.reduceNe, Int.reduceMul, Nat.reduceMul, Int.reduceNeg, Int.toNat_natCast, Nat.reduceEqDiff, X.exit.injEq, if_true, if_false, reduceIte, Bool.not_true, Bool.not_false, Bool.false_eq_true, Bool.true_eq_false, true_and,  need_of, need_true, need_and, WOf_need, i64w, u64w, at_getD, idxR_slD, and_true, Nat.zero_add, Nat.mul_one, Nat.add_zero, idxS_one, get_setN, get_setS, get_appL, List.length_set, ↓ibin_shlD, ↓ibin_shrD, bld1_true, plan_buildD, natSucc, hfit]
    refine (count9_ok y hs hsl fits0.pur).mono ?_
    rintro v m' ⟨rfl, rfl⟩
    simp -implicitDefEqProofs -dsimp (disch := (first | omega | (simp only [List.length_set, List.length_append, List.length_cons, List.length_nil]; omega))) only [go_sem, Nat.reduceAdd, Nat.reduceSub, Nat.reduceLT, Nat.reduceLeDiff, Int.reduceToNat, Int.reduceLE, Int.reduceLT, Int.reduceAdd, Int.reduceSub, Int.reduceEq, Int.reduceNe, Int.reduceMul, Nat.reduceMul, Int.reduceNeg, Int.toNat_natCast, Nat.reduceEqDiff, X.exit.injEq, if_true, if_false, reduceIte, Bool.not_true, Bool.not_false, Bool.false_eq_true, Bool.true_eq_false, true_and,  need_of, need_true, need_and, WOf_need, i64w, u64w, at_getD, idxR_slD, and_true, Nat.zero_add, Nat.mul_one, Nat.add_zero, idxS_one, get_setN, get_setS, get_appL, List.length_set, ↓ibin_shlD, ↓ibin_shrD, bld1_true, plan_buildD, natSucc, hfit]
    refine (orders10_ok y hs hsl fits0.pur).mono ?_
    rintro v m' ⟨rfl, rfl⟩
    simp -implicitDefEqProofs -dsimp (disch := (first | omega | (simp only [List.length_set, List.length_append, List.length_cons, List.length_nil]; omega))) only [go_sem, Nat.reduceAdd, Nat.reduceSub, Nat.reduceLT, Nat.reduceLeDiff, Int.reduceToNat, Int.reduceLE, Int.reduceLT, Int.reduceAdd, Int.reduceSub, Int.reduceEq, Int.reduceNe, Int.reduceMul, Nat.reduceMul, Int.reduceNeg, Int.toNat_natCast, Nat.reduceEqDiff, X.exit.injEq, if_true, if_false, reduceIte, Bool.not_true, Bool.not_false, Bool.false_eq_true, Bool.true_eq_false, true_and,  need_of, need_true, need_and, WOf_need, i64w, u64w, at_getD, idxR_slD, and_true, Nat.zero_add, Nat.mul_one, Nat.add_zero, idxS_one, get_setN, get_setS, get_appL, List.length_set, ↓ibin_shlD, ↓ibin_shrD, bld1_true, plan_buildD, natSucc, hfit]
    refine (orders11_ok y hs hsl fits0.pur).mono ?_
    rintro v m' ⟨rfl, rfl⟩
    simp -implicitDefEqProofs -dsimp (disch := (first | omega | (simp only [List.length_set, List.length_append, List.length_cons, List.length_nil]; omega))) only [go_sem, Nat.reduceAdd, Nat.reduceSub, Nat.reduceLT, Nat.reduceLeDiff, Int.reduceToNat, Int.reduceLE, Int.reduceLT, Int.reduceAdd, Int.reduceSub, Int.reduceEq, Int.reduceNe, Int.reduceMul, Nat.reduceMul, Int.reduceNeg, Int.toNat_natCast, Nat.reduceEqDiff, X.exit.injEq, if_true, if_false, reduceIte, Bool.not_true, Bool.not_false, Bool.false_eq_true, Bool.true_eq_false, true_and,  need_of, need_true, need_and, WOf_need, i64w, u64w, at_getD, idxR_slD, and_true, Nat.zero_add, Nat.mul_one, Nat.add_zero, idxS_one, get_setN, get_setS, get_appL, List.length_set, ↓ibin_shlD, ↓ibin_shrD, bld1_true, plan_buildD, natSucc, hfit]
    refine (widest12_ok y hs hsl fits0.pur).mono ?_
    rintro v m' ⟨rfl, rfl⟩
    simp -implicitDefEqProofs -dsimp (disch := (first | omega | (simp only [List.length_set, List.length_append, List.length_cons, List.length_nil]; omega))) only [go_sem, Nat.reduceAdd, Nat.reduceSub, Nat.reduceLT, Nat.reduceLeDiff, Int.reduceToNat, Int.reduceLE, Int.reduceLT, Int.reduceAdd, Int.reduceSub, Int.reduceEq, Int.reduceNe, Int.reduceMul, Nat.reduceMul, Int.reduceNeg, Int.toNat_natCast, Nat.reduceEqDiff, X.exit.injEq, if_true, if_false, reduceIte, Bool.not_true, Bool.not_false, Bool.false_eq_true, Bool.true_eq_false, true_and,  need_of, need_true, need_and, WOf_need, i64w, u64w, at_getD, idxR_slD, and_true, Nat.zero_add, Nat.mul_one, Nat.add_zero, idxS_one, get_setN, get_setS, get_appL, List.length_set, ↓ibin_shlD, ↓ibin_shrD, bld1_true, plan_buildD, natSucc, hfit]
    refine (widest13_ok y hs hsl fits0.pur).mono ?_
    rintro v m' ⟨rfl, rfl⟩
    simp -implicitDefEqProofs -dsimp (disch := (first | omega | (simp only [List.length_set, List.length_append, List.length_cons, List.length_nil]; omega))) only [go_sem, Nat.reduceAdd, Nat.reduceSub, Nat.reduceLT, Nat.reduceLeDiff, Int.reduceToNat, Int.reduceLE, Int.reduceLT, Int.reduceAdd, Int.reduceSub, Int.reduceEq, Int.reduceNe, Int.reduceMul, Nat.reduceMul, Int.reduceNeg, Int.toNat_natCast, Nat.reduceEqDiff, X.exit.injEq, if_true, if_false, reduceIte, Bool.not_true, Bool.not_false, Bool.false_eq_true, Bool.true_eq_false, true_and,  need_of, need_true, need_and, WOf_need, i64w, u64w, at_getD, idxR_slD, and_true, Nat.zero_add, Nat.mul_one, Nat.add_zero, idxS_one, get_setN, get_setS, get_appL, List.length_set, ↓ibin_shlD, ↓ibin_shrD, bld1_true, plan_buildD, natSucc, hfit]
    refine live_ok.mono ?_
    rintro v m' ⟨rfl, rfl⟩
    simp -implicitDefEqProofs -dsimp (disch := (first | omega | (simp only [List.length_set, List.length_append, List.length_cons, List.length_nil]; omega))) only [go_sem, Nat.reduceAdd, Nat.reduceSub, Nat.reduceLT, Nat.reduceLeDiff, Int.reduceToNat, Int.reduceLE, Int.reduceLT, Int.reduceAdd, Int.reduceSub, Int.reduceEq, Int.reduceNe, Int.reduceMul, Nat.reduceMul, Int.reduceNeg, Int.toNat_natCast, Nat.reduceEqDiff, X.exit.injEq, if_true, if_false, reduceIte, Bool.not_true, Bool.not_false, Bool.false_eq_true, Bool.true_eq_false, true_and,  need_of, need_true, need_and, WOf_need, i64w, u64w, at_getD, idxR_slD, and_true, Nat.zero_add, Nat.mul_one, Nat.add_zero, idxS_one, get_setN, get_setS, get_appL, List.length_set, ↓ibin_shlD, ↓ibin_shrD, bld1_true, plan_buildD, natSucc, ]
  | true =>
    have h1 : desc (needD y.of) y.of.length 0 0 = closedSets y.of := descD_eq hfit
    have h2 := orders_full hfit
    have h3 := wide_eq (aheadD y.of) y.of.length (fits_len hfit)
    simp -implicitDefEqProofs -dsimp (disch := (first | omega | (simp only [List.length_set, List.length_append, List.length_cons, List.length_nil]; omega))) only [go_sem, Nat.reduceAdd, Nat.reduceSub, Nat.reduceLT, Nat.reduceLeDiff, Int.reduceToNat, Int.reduceLE, Int.reduceLT, Int.reduceAdd, Int.reduceSub, Int.reduceEq, Int.reduceNe, Int.reduceMul, Nat.reduceMul, Int.reduceNeg, Int.toNat_natCast, Nat.reduceEqDiff, X.exit.injEq, if_true, if_false, reduceIte, Bool.not_true, Bool.not_false, Bool.false_eq_true, Bool.true_eq_false, true_and,  need_of, need_true, need_and, WOf_need, i64w, u64w, at_getD, idxR_slD, and_true, Nat.zero_add, Nat.mul_one, Nat.add_zero, idxS_one, get_setN, get_setS, get_appL, List.length_set, ↓ibin_shlD, ↓ibin_shrD, bld1_true, plan_buildD, natSucc, ]
    refine (count_ok y hs hsl fits0.pur).mono ?_
    rintro v m' ⟨rfl, rfl⟩
    simp -implicitDefEqProofs -dsimp (disch := (first | omega | (simp only [List.length_set, List.length_append, List.length_cons, List.length_nil]; omega))) only [go_sem, Nat.reduceAdd, Nat.reduceSub, Nat.reduceLT, Nat.reduceLeDiff, Int.reduceToNat, Int.reduceLE, Int.reduceLT, Int.reduceAdd, Int.reduceSub, Int.reduceEq, Int.reduceNe, Int.reduceMul, Nat.reduceMul, Int.reduceNeg, Int.toNat_natCast, Nat.reduceEqDiff, X.exit.injEq, if_true, if_false, reduceIte, Bool.not_true, Bool.not_false, Bool.false_eq_true, Bool.true_eq_false, true_and,  need_of, need_true, need_and, WOf_need, i64w, u64w, at_getD, idxR_slD, and_true, Nat.zero_add, Nat.mul_one, Nat.add_zero, idxS_one, get_setN, get_setS, get_appL, List.length_set, ↓ibin_shlD, ↓ibin_shrD, bld1_true, plan_buildD, natSucc, hfit, h1]
    refine (count9_ok y hs hsl fits0.pur).mono ?_
    rintro v m' ⟨rfl, rfl⟩
    simp -implicitDefEqProofs -dsimp (disch := (first | omega | (simp only [List.length_set, List.length_append, List.length_cons, List.length_nil]; omega))) only [go_sem, Nat.reduceAdd, Nat.reduceSub, Nat.reduceLT, Nat.reduceLeDiff, Int.reduceToNat, Int.reduceLE, Int.reduceLT, Int.reduceAdd, Int.reduceSub, Int.reduceEq, Int.reduceNe, Int.reduceMul, Nat.reduceMul, Int.reduceNeg, Int.toNat_natCast, Nat.reduceEqDiff, X.exit.injEq, if_true, if_false, reduceIte, Bool.not_true, Bool.not_false, Bool.false_eq_true, Bool.true_eq_false, true_and,  need_of, need_true, need_and, WOf_need, i64w, u64w, at_getD, idxR_slD, and_true, Nat.zero_add, Nat.mul_one, Nat.add_zero, idxS_one, get_setN, get_setS, get_appL, List.length_set, ↓ibin_shlD, ↓ibin_shrD, bld1_true, plan_buildD, natSucc, hfit]
    refine (orders10_ok y hs hsl fits0.pur).mono ?_
    rintro v m' ⟨rfl, rfl⟩
    simp -implicitDefEqProofs -dsimp (disch := (first | omega | (simp only [List.length_set, List.length_append, List.length_cons, List.length_nil]; omega))) only [go_sem, Nat.reduceAdd, Nat.reduceSub, Nat.reduceLT, Nat.reduceLeDiff, Int.reduceToNat, Int.reduceLE, Int.reduceLT, Int.reduceAdd, Int.reduceSub, Int.reduceEq, Int.reduceNe, Int.reduceMul, Nat.reduceMul, Int.reduceNeg, Int.toNat_natCast, Nat.reduceEqDiff, X.exit.injEq, if_true, if_false, reduceIte, Bool.not_true, Bool.not_false, Bool.false_eq_true, Bool.true_eq_false, true_and,  need_of, need_true, need_and, WOf_need, i64w, u64w, at_getD, idxR_slD, and_true, Nat.zero_add, Nat.mul_one, Nat.add_zero, idxS_one, get_setN, get_setS, get_appL, List.length_set, ↓ibin_shlD, ↓ibin_shrD, bld1_true, plan_buildD, natSucc, hfit, h2]
    refine (orders11_ok y hs hsl fits0.pur).mono ?_
    rintro v m' ⟨rfl, rfl⟩
    simp -implicitDefEqProofs -dsimp (disch := (first | omega | (simp only [List.length_set, List.length_append, List.length_cons, List.length_nil]; omega))) only [go_sem, Nat.reduceAdd, Nat.reduceSub, Nat.reduceLT, Nat.reduceLeDiff, Int.reduceToNat, Int.reduceLE, Int.reduceLT, Int.reduceAdd, Int.reduceSub, Int.reduceEq, Int.reduceNe, Int.reduceMul, Nat.reduceMul, Int.reduceNeg, Int.toNat_natCast, Nat.reduceEqDiff, X.exit.injEq, if_true, if_false, reduceIte, Bool.not_true, Bool.not_false, Bool.false_eq_true, Bool.true_eq_false, true_and,  need_of, need_true, need_and, WOf_need, i64w, u64w, at_getD, idxR_slD, and_true, Nat.zero_add, Nat.mul_one, Nat.add_zero, idxS_one, get_setN, get_setS, get_appL, List.length_set, ↓ibin_shlD, ↓ibin_shrD, bld1_true, plan_buildD, natSucc, hfit]
    refine (widest12_ok y hs hsl fits0.pur).mono ?_
    rintro v m' ⟨rfl, rfl⟩
    simp -implicitDefEqProofs -dsimp (disch := (first | omega | (simp only [List.length_set, List.length_append, List.length_cons, List.length_nil]; omega))) only [go_sem, Nat.reduceAdd, Nat.reduceSub, Nat.reduceLT, Nat.reduceLeDiff, Int.reduceToNat, Int.reduceLE, Int.reduceLT, Int.reduceAdd, Int.reduceSub, Int.reduceEq, Int.reduceNe, Int.reduceMul, Nat.reduceMul, Int.reduceNeg, Int.toNat_natCast, Nat.reduceEqDiff, X.exit.injEq, if_true, if_false, reduceIte, Bool.not_true, Bool.not_false, Bool.false_eq_true, Bool.true_eq_false, true_and,  need_of, need_true, need_and, WOf_need, i64w, u64w, at_getD, idxR_slD, and_true, Nat.zero_add, Nat.mul_one, Nat.add_zero, idxS_one, get_setN, get_setS, get_appL, List.length_set, ↓ibin_shlD, ↓ibin_shrD, bld1_true, plan_buildD, natSucc, hfit, h3]
    refine (widest13_ok y hs hsl fits0.pur).mono ?_
    rintro v m' ⟨rfl, rfl⟩
    simp -implicitDefEqProofs -dsimp (disch := (first | omega | (simp only [List.length_set, List.length_append, List.length_cons, List.length_nil]; omega))) only [go_sem, Nat.reduceAdd, Nat.reduceSub, Nat.reduceLT, Nat.reduceLeDiff, Int.reduceToNat, Int.reduceLE, Int.reduceLT, Int.reduceAdd, Int.reduceSub, Int.reduceEq, Int.reduceNe, Int.reduceMul, Nat.reduceMul, Int.reduceNeg, Int.toNat_natCast, Nat.reduceEqDiff, X.exit.injEq, if_true, if_false, reduceIte, Bool.not_true, Bool.not_false, Bool.false_eq_true, Bool.true_eq_false, true_and,  need_of, need_true, need_and, WOf_need, i64w, u64w, at_getD, idxR_slD, and_true, Nat.zero_add, Nat.mul_one, Nat.add_zero, idxS_one, get_setN, get_setS, get_appL, List.length_set, ↓ibin_shlD, ↓ibin_shrD, bld1_true, plan_buildD, natSucc, hfit]
    refine live_ok.mono ?_
    rintro v m' ⟨rfl, rfl⟩
    simp -implicitDefEqProofs -dsimp (disch := (first | omega | (simp only [List.length_set, List.length_append, List.length_cons, List.length_nil]; omega))) only [go_sem, Nat.reduceAdd, Nat.reduceSub, Nat.reduceLT, Nat.reduceLeDiff, Int.reduceToNat, Int.reduceLE, Int.reduceLT, Int.reduceAdd, Int.reduceSub, Int.reduceEq, Int.reduceNe, Int.reduceMul, Nat.reduceMul, Int.reduceNeg, Int.toNat_natCast, Nat.reduceEqDiff, X.exit.injEq, if_true, if_false, reduceIte, Bool.not_true, Bool.not_false, Bool.false_eq_true, Bool.true_eq_false, true_and,  need_of, need_true, need_and, WOf_need, i64w, u64w, at_getD, idxR_slD, and_true, Nat.zero_add, Nat.mul_one, Nat.add_zero, idxS_one, get_setN, get_setS, get_appL, List.length_set, ↓ibin_shlD, ↓ibin_shrD, bld1_true, plan_buildD, natSucc, ]
end
end Go.Proofs.YtfbamjlednbdhaaDoor.V
/- Rows and those that stand alone: how many; no condition. -/
namespace Go.Proofs.YtfbamjlednbdhaaDoor.V
open Go
set_option linter.unusedVariables false
set_option linter.unusedSimpArgs false
set_option maxHeartbeats 4000000
set_option maxRecDepth 10000
def rowS (i : Nat) : Sl Int := if i = 0 then ⟨true, false, []⟩ else ⟨false, true, [(i : Int) - 1]⟩
def nilSl : Sl Int := ⟨true, false, []⟩
def rowD (n : Nat) : List (List Int) := (List.range n).map fun i => (rowS i).l
def aloneD (n : Nat) : List (List Int) := (List.range n).map fun _ => []
def fac : Nat → Nat
  | 0 => 1
  | n + 1 => fac n * (n + 1)
theorem fits_row : ∀ n, n < 13 → fitsD (rowD n) = true ∧ fitsD (aloneD n) = true := by decide +kernel
theorem count_row : ∀ n, n < 13 → (desc (needD (rowD n)) n 0 0).length = n + 1 ∧ (desc (needD (aloneD n)) n 0 0).length = 2 ^ n := by decide +kernel
theorem wid_row : ∀ n, n < 13 → wid (aheadD (rowD n)) n 0 = (if n = 0 then 0 else 1) ∧ wid (aheadD (aloneD n)) n 0 = n := by decide +kernel
theorem ow_row : ∀ n, n < 13 → ow (needD (rowD n)) (2 ^ n - 1) = 1 := by decide +kernel
theorem bits_full : ∀ n, n < 13 → (bitsOf (2 ^ n - 1)).length = n := by decide +kernel
theorem need_alone (n i : Nat) : (needD (aloneD n)).getD i 0 = 0 := by
  unfold needD aloneD
  rw [List.map_map, List.getD_eq_getElem?_getD, List.getElem?_map]
  cases (List.range n)[i]? with
  | none => rfl
  | some a => rfl
theorem filter_del {l : List Nat} (hn : l.Nodup) {i : Nat} (hi : i ∈ l) (p : Nat → Bool) (hp : p i = true) : (l.filter p).length = (l.filter fun k => p k && decide (k ≠ i)).length + 1 := by
  induction l with
  | nil => simp at hi
  | cons a l ih =>
    rw [List.nodup_cons] at hn
    rw [List.filter_cons, List.filter_cons]
    by_cases ha : a = i
    · subst ha
      have : l.filter (fun k => p k && decide (k ≠ a)) = l.filter p := by
        apply List.filter_congr
        intro k hk
        have : k ≠ a := fun e => hn.1 (e ▸ hk)
        simp [this]
      rw [if_pos hp, if_neg (by simp), this, List.length_cons]
    · have hi' : i ∈ l := by
        rcases List.mem_cons.1 hi with h | h
        · exact (ha h.symm).elim
        · exact h
      have h1 := ih hn.2 hi'
      cases hpa : p a with
      | true => simp [ha, h1]
      | false => simp [h1]
theorem bits_del {s i : Nat} (h : i ∈ bitsOf s) : (bitsOf s).length = (bitsOf (dif s (2 ^ i))).length + 1 := by
  have hb := bits_mem h
  have hr : i ∈ List.range 64 := (List.mem_filter.1 h).1
  have := filter_del List.nodup_range hr s.testBit hb
  unfold bitsOf
  rw [this]
  congr 2
  apply List.filter_congr
  intro k _
  rw [dif_bit, Nat.testBit_two_pow]
  congr 1
  by_cases h1 : k = i
  · subst h1; simp
  · have h2 : ¬ i = k := fun e => h1 e.symm
    simp [h1, h2]
theorem fold_zero {N : List Nat} (hN : ∀ i, N.getD i 0 = 0) : ∀ l : List Nat, l.foldl (fun m i => m ||| N.getD i 0) 0 = 0
  | [] => rfl
  | a :: l => by rw [List.foldl_cons, hN, Nat.or_zero]; exact fold_zero hN l
theorem dif_zero (s : Nat) : dif s 0 = s := by unfold dif; simp
theorem sum_const {l : List Nat} {f : Nat → Nat} {c : Nat} (h : ∀ i ∈ l, f i = c) : (l.map f).sum = l.length * c := by
  induction l with
  | nil => simp
  | cons a l ih =>
    rw [List.map_cons, List.sum_cons, h a (by simp), ih fun i hi => h i (by simp [hi]), List.length_cons, Nat.succ_mul]
    omega
theorem ow_alone {N : List Nat} (hN : ∀ i, N.getD i 0 = 0) : ∀ s, s < 2 ^ 64 → ow N s = fac (bitsOf s).length := by
  intro s
  induction s using Nat.strongRecOn with
  | ind s ih =>
    intro hs
    by_cases h0 : s = 0
    · subst h0; rw [ow_zero]; decide
    · have hnd : neededOf N s = 0 := fold_zero hN _
      rw [ow_eq N h0, hnd, dif_zero]
      have hne : 0 < (bitsOf s).length := by
        rcases Nat.eq_zero_or_pos (bitsOf s).length with h | h
        · exfalso
          apply h0
          apply Nat.eq_of_testBit_eq
          intro i
          rw [Nat.zero_testBit]
          rcases Nat.lt_or_ge i 64 with hi | hi
          · cases hb : s.testBit i with
            | false => rfl
            | true =>
              have : i ∈ bitsOf s := List.mem_filter.2 ⟨List.mem_range.2 hi, hb⟩
              have := List.length_pos_of_mem this
              omega
          · exact Nat.testBit_lt_two_pow (Nat.lt_of_lt_of_le hs (Nat.pow_le_pow_right (by omega) hi))
        · exact h
      obtain ⟨c, hc⟩ : ∃ c, (bitsOf s).length = c + 1 := ⟨(bitsOf s).length - 1, by omega⟩
      rw [sum_const (c := fac c) fun i hi => ?_, hc, fac, Nat.mul_comm]
      have hlt := dif_lt (bits_mem hi)
      rw [ih _ hlt (by omega)]
      have := bits_del hi
      congr 1; omega
theorem ow_alone_full {n : Nat} (hn : n < 13) : ow (needD (aloneD n)) (2 ^ n - 1) = fac n := by
  have hp : 2 ^ n ≤ 2 ^ 13 := Nat.pow_le_pow_right (by omega) (by omega)
  rw [ow_alone (need_alone n) _ (by omega), bits_full n hn]
theorem fac_le : ∀ n, n < 13 → fac n ≤ 479001600 := by decide +kernel
end Go.Proofs.YtfbamjlednbdhaaDoor.V
/- The law ExploreRow in the VM; no condition. -/
namespace Go.Proofs.YtfbamjlednbdhaaDoor.V
open Go
set_option linter.unusedVariables false
set_option linter.unusedSimpArgs false
set_option maxHeartbeats 8000000
set_option maxRecDepth 20000
noncomputable section
theorem vrun_func (n : Nat) (en : Env) (f : FuncId) (args : List AV) (m : Mem) : (vrun Tryd.prog pol (n + 1)).call en (.func f) args m = callF Tryd.prog pol (vrun Tryd.prog pol n) en f args m := rfl
theorem live_cls (en : Env) (m : Mem) : WC Tryd.prog pol en (.func 14) [] m fun v m' => v = .sc (.bool true) ∧ m' = m := by
  have h := live_run
  obtain ⟨k, hk⟩ : ∃ k : Nat, 300 = k + 1 := ⟨299, rfl⟩
  rw [hk, vrun_func] at h
  refine WC.run (k + 1) (v := .sc (.bool true)) (m' := m) ?_ ⟨rfl, rfl⟩
  rw [vrun_func]
  clear hk
  have hm : pol.mode 14 = .cls := rfl
  unfold callF at h ⊢
  rw [hm] at h ⊢
  simp only [List.mapM_nil, spine_eq, Option.pure_def] at h ⊢
  cases hc : callM Tryd.prog .pur (vrun Tryd.prog pol k) ⟨[], 0⟩ 14 [] [] with
  | none => rw [hc] at h; cases h
  | some r =>
    rw [hc] at h
    obtain ⟨v, m1⟩ := r
    simp only at h ⊢
    split at h
    · rename_i hf
      cases h
      rw [if_pos hf]
    · cases h
/-- The rows under way. -/
def RowsAt (i : Nat) (v4 v5 : AV) (m : Mem) : Prop :=
  (i = 0 ∧ v4 = .nilS ∧ v5 = .nilS ∧ m = []) ∨ 0 < i ∧ ∃ ver, v4 = .own 0 ver 0 i 1 ∧ v5 = .own 1 ver 0 i 1 ∧ m = [.cells ver ((List.range i).map fun k => sl I (rowS k)), .cells ver ((List.range i).map fun _ => sl I nilSl)]
theorem frz_rows {m : Mem} {id ver : Nat} (l : List (Sl Int)) (hm : m[id]? = some (.cells ver (l.map (sl I)))) : [AV.own id ver 0 l.length 1].mapM (frz m 0 frzDepth) = some [sl (sl I) ⟨false, false, l⟩] := by
  have h := frzQ_own clean_LI (fun a t u => sl_ifc I a t u) (b := 0) (d := 6) l hm (Nat.zero_le _) (fun v => v = sl (sl I) ⟨false, false, l⟩)
  have h2 : frzQ m 0 (6 + 2) (.own id ver 0 l.length 1) (fun v => v = sl (sl I) ⟨false, false, l⟩) := by rw [h]
  obtain ⟨v, h3, rfl⟩ := h2
  simp only [List.mapM_cons, List.mapM_nil, show frzDepth = 6 + 2 from rfl, h3]
  rfl
/-- What the six answers are. -/
theorem row_facts {n : Nat} (hn : n < 13) {x y : LL} (hx : x.of = rowD n) (hy : y.of = aloneD n) : (fitsD x.of = true ∧ fitsD y.of = true) ∧ (((desc (needD x.of) x.of.length 0 0).length : Nat) : Int) = n + 1 ∧ (((desc (needD y.of) y.of.length 0 0).length : Nat) : Int) = ((2 ^ n : Nat) : Int) ∧
    wr (ow (needD x.of) (2 ^ x.of.length - 1)) = 1 ∧ wr (ow (needD y.of) (2 ^ y.of.length - 1)) = (fac n : Nat) ∧ ((wid (aheadD x.of) x.of.length 0 : Nat) : Int) = (if n = 0 then 0 else 1) ∧ ((wid (aheadD y.of) y.of.length 0 : Nat) : Int) = n := by
  have hl1 : (rowD n).length = n := by simp [rowD]
  have hl2 : (aloneD n).length = n := by simp [aloneD]
  have h1 := count_row n hn
  have h2 := wid_row n hn
  have h3 := fac_le n hn
  rw [hx, hy, hl1, hl2, ow_row n hn, ow_alone_full hn, h1.1, h1.2, h2.1, h2.2]
  refine ⟨fits_row n hn, by omega, rfl, rfl, i64w (by omega), ?_, rfl⟩
  split <;> rfl
theorem row_short {n : Nat} (hn : n < 13) {x : LL} (h : x.of = rowD n ∨ x.of = aloneD n) : Short x := by
  have hl : x.l.length = n := by
    have : x.of.length = n := by rcases h with h | h <;> rw [h] <;> simp [rowD, aloneD]
    simpa [LL.of] using this
  refine ⟨by omega, fun a ha => ?_⟩
  have hm : a.l ∈ x.of := List.mem_map.2 ⟨a, ha, rfl⟩
  rcases h with h | h
  · rw [h] at hm
    obtain ⟨i, _, hi⟩ := List.mem_map.1 hm
    rw [← hi, rowS]
    split <;> simp
  · rw [h] at hm
    obtain ⟨i, _, hi⟩ := List.mem_map.1 hm
    rw [← hi]; simp
theorem row_law (b : Int) (hb : 0 ≤ b ∧ b ≤ 255) : WC Tryd.prog pol ⟨[], 0⟩ (.func 5) [.sc (.int .u8 b)] [] fun v m' => v = .sc (.bool true) ∧ m' = [] := by
  refine callPur Tryd.func5 rfl rfl Tryd.ntmps5 Tryd.results5 ?_
  obtain ⟨n, hn⟩ : ∃ n : Nat, b.tmod 13 = (n : Int) := ⟨(b.tmod 13).toNat, by rw [Int.tmod_eq_emod_of_nonneg hb.1]; omega⟩
  have hn13 : n < 13 := by rw [Int.tmod_eq_emod_of_nonneg hb.1] at hn; omega
  have hf12 := fac_le
  simp -implicitDefEqProofs -dsimp (disch := (first | omega | (simp only [List.length_set, List.length_append, List.length_cons, List.length_nil]; omega))) only [go_sem, Nat.reduceAdd, Nat.reduceSub, Nat.reduceLT, Nat.reduceLeDiff, Int.reduceToNat, Int.reduceLE, Int.reduceLT, Int.reduceAdd, Int.reduceSub, Int.reduceEq, Int.reduceNe, Int.reduceMul, Nat.reduceMul, Int.reduceNeg, Int.toNat_natCast, Nat.reduceEqDiff, X.exit.injEq, if_true, if_false, reduceIte, Bool.not_true, Bool.not_false, Bool.false_eq_true, Bool.true_eq_false, true_and,  need_of, need_true, need_and, WOf_need, i64w, u64w, at_getD, idxR_slD, and_true, Nat.zero_add, Nat.mul_one, Nat.add_zero, idxS_one, get_setN, get_setS, get_appL, List.length_set, ↓ibin_shlD, ↓ibin_shrD, bld1_true, plan_buildD, natSucc, hn]
  refine loopF (fun k ts m' => ∃ (i : Nat) (v4 v5 : AV), ts.length = 118 ∧ tg ts 3 = I n ∧ tg ts 4 = kv v4 ∧ tg ts 5 = kv v5 ∧ tg ts 6 = I (fac i : Nat) ∧ tg ts 7 = I i ∧ i ≤ n ∧ RowsAt i v4 v5 m' ∧ k = n - i) n ⟨0, _, _, rfl, rfl, rfl, rfl, rfl, rfl, by omega, Or.inl ⟨rfl, rfl, rfl, rfl⟩, by omega⟩ ?_
  rintro k ts m' ⟨i, v4, v5, hl, t3, t4, t5, t6, t7, hi, hr, hk⟩
  have hfi := fac_le i (by omega)
  simp only [kv] at t4 t5
  rw [expandT hl]
  rcases hr with ⟨rfl, rfl, rfl, rfl⟩ | hr
  · simp -implicitDefEqProofs -dsimp (disch := (first | omega | (simp only [List.length_set, List.length_append, List.length_cons, List.length_nil]; omega))) only [go_sem, Nat.reduceAdd, Nat.reduceSub, Nat.reduceLT, Nat.reduceLeDiff, Int.reduceToNat, Int.reduceLE, Int.reduceLT, Int.reduceAdd, Int.reduceSub, Int.reduceEq, Int.reduceNe, Int.reduceMul, Nat.reduceMul, Int.reduceNeg, Int.toNat_natCast, Nat.reduceEqDiff, X.exit.injEq, if_true, if_false, reduceIte, Bool.not_true, Bool.not_false, Bool.false_eq_true, Bool.true_eq_false, true_and,  need_of, need_true, need_and, WOf_need, i64w, u64w, at_getD, idxR_slD, and_true, Nat.zero_add, Nat.mul_one, Nat.add_zero, idxS_one, get_setN, get_setS, get_appL, List.length_set, ↓ibin_shlD, ↓ibin_shrD, bld1_true, plan_buildD, natSucc, t3, t4, t5, t6, t7]
    split
    · rename_i hlt
      simp -implicitDefEqProofs -dsimp (disch := (first | omega | (simp only [List.length_set, List.length_append, List.length_cons, List.length_nil]; omega))) only [go_sem, Nat.reduceAdd, Nat.reduceSub, Nat.reduceLT, Nat.reduceLeDiff, Int.reduceToNat, Int.reduceLE, Int.reduceLT, Int.reduceAdd, Int.reduceSub, Int.reduceEq, Int.reduceNe, Int.reduceMul, Nat.reduceMul, Int.reduceNeg, Int.toNat_natCast, Nat.reduceEqDiff, X.exit.injEq, if_true, if_false, reduceIte, Bool.not_true, Bool.not_false, Bool.false_eq_true, Bool.true_eq_false, true_and,  need_of, need_true, need_and, WOf_need, i64w, u64w, at_getD, idxR_slD, and_true, Nat.zero_add, Nat.mul_one, Nat.add_zero, idxS_one, get_setN, get_setS, get_appL, List.length_set, ↓ibin_shlD, ↓ibin_shrD, bld1_true, plan_buildD, natSucc, roomOk]
      rw [if_neg (by omega)]
      refine ⟨by decide, by decide, n - 1, by omega, 1, _, _, rfl, rfl, rfl, rfl, by omega, Or.inr ⟨by omega, 0, rfl, rfl, rfl⟩, rfl⟩
    · rename_i hlt
      have hn0 : n = 0 := by omega
      have ha4 : [AV.nilS].mapM (frz ([] : Mem) 0 frzDepth) = some [sl (sl I) (⟨true, false, []⟩ : LL)] := rfl
      obtain ⟨xr, hxrd, hxr⟩ : ∃ xr : LL, xr = ⟨true, false, []⟩ ∧ xr.of = rowD n := ⟨_, rfl, by rw [hn0]; rfl⟩
      obtain ⟨xa, hxad, hxa⟩ : ∃ xa : LL, xa = ⟨true, false, []⟩ ∧ xa.of = aloneD n := ⟨_, rfl, by rw [hn0]; rfl⟩
      have ha5 := ha4
      rw [← hxrd] at ha4
      rw [← hxad] at ha5
      obtain ⟨⟨q1, q2⟩, q3, q4, q5, q6, q7, q8⟩ := row_facts hn13 hxr hxa
      obtain ⟨s1, s2⟩ := row_short hn13 (Or.inl hxr)
      obtain ⟨s3, s4⟩ := row_short hn13 (Or.inr hxa)
      refine (countA xr s1 s2 ha4).mono ?_
      rintro v m1 ⟨rfl, rfl⟩
      simp -implicitDefEqProofs -dsimp (disch := (first | omega | (simp only [List.length_set, List.length_append, List.length_cons, List.length_nil]; omega))) only [go_sem, Nat.reduceAdd, Nat.reduceSub, Nat.reduceLT, Nat.reduceLeDiff, Int.reduceToNat, Int.reduceLE, Int.reduceLT, Int.reduceAdd, Int.reduceSub, Int.reduceEq, Int.reduceNe, Int.reduceMul, Nat.reduceMul, Int.reduceNeg, Int.toNat_natCast, Nat.reduceEqDiff, X.exit.injEq, if_true, if_false, reduceIte, Bool.not_true, Bool.not_false, Bool.false_eq_true, Bool.true_eq_false, true_and,  need_of, need_true, need_and, WOf_need, i64w, u64w, at_getD, idxR_slD, and_true, Nat.zero_add, Nat.mul_one, Nat.add_zero, idxS_one, get_setN, get_setS, get_appL, List.length_set, ↓ibin_shlD, ↓ibin_shrD, bld1_true, plan_buildD, natSucc, q1, q3]
      refine (ordersA xr s1 s2 ha4).mono ?_
      rintro v m1 ⟨rfl, rfl⟩
      simp -implicitDefEqProofs -dsimp (disch := (first | omega | (simp only [List.length_set, List.length_append, List.length_cons, List.length_nil]; omega))) only [go_sem, Nat.reduceAdd, Nat.reduceSub, Nat.reduceLT, Nat.reduceLeDiff, Int.reduceToNat, Int.reduceLE, Int.reduceLT, Int.reduceAdd, Int.reduceSub, Int.reduceEq, Int.reduceNe, Int.reduceMul, Nat.reduceMul, Int.reduceNeg, Int.toNat_natCast, Nat.reduceEqDiff, X.exit.injEq, if_true, if_false, reduceIte, Bool.not_true, Bool.not_false, Bool.false_eq_true, Bool.true_eq_false, true_and,  need_of, need_true, need_and, WOf_need, i64w, u64w, at_getD, idxR_slD, and_true, Nat.zero_add, Nat.mul_one, Nat.add_zero, idxS_one, get_setN, get_setS, get_appL, List.length_set, ↓ibin_shlD, ↓ibin_shrD, bld1_true, plan_buildD, natSucc, q1, q5]
      refine (widestA xr s1 s2 ha4).mono ?_
      rintro v m1 ⟨rfl, rfl⟩
      simp -implicitDefEqProofs -dsimp (disch := (first | omega | (simp only [List.length_set, List.length_append, List.length_cons, List.length_nil]; omega))) only [go_sem, Nat.reduceAdd, Nat.reduceSub, Nat.reduceLT, Nat.reduceLeDiff, Int.reduceToNat, Int.reduceLE, Int.reduceLT, Int.reduceAdd, Int.reduceSub, Int.reduceEq, Int.reduceNe, Int.reduceMul, Nat.reduceMul, Int.reduceNeg, Int.toNat_natCast, Nat.reduceEqDiff, X.exit.injEq, if_true, if_false, reduceIte, Bool.not_true, Bool.not_false, Bool.false_eq_true, Bool.true_eq_false, true_and,  need_of, need_true, need_and, WOf_need, i64w, u64w, at_getD, idxR_slD, and_true, Nat.zero_add, Nat.mul_one, Nat.add_zero, idxS_one, get_setN, get_setS, get_appL, List.length_set, ↓ibin_shlD, ↓ibin_shrD, bld1_true, plan_buildD, natSucc, q1, q7]
      refine (countA xa s3 s4 ha5).mono ?_
      rintro v m1 ⟨rfl, rfl⟩
      simp -implicitDefEqProofs -dsimp (disch := (first | omega | (simp only [List.length_set, List.length_append, List.length_cons, List.length_nil]; omega))) only [go_sem, Nat.reduceAdd, Nat.reduceSub, Nat.reduceLT, Nat.reduceLeDiff, Int.reduceToNat, Int.reduceLE, Int.reduceLT, Int.reduceAdd, Int.reduceSub, Int.reduceEq, Int.reduceNe, Int.reduceMul, Nat.reduceMul, Int.reduceNeg, Int.toNat_natCast, Nat.reduceEqDiff, X.exit.injEq, if_true, if_false, reduceIte, Bool.not_true, Bool.not_false, Bool.false_eq_true, Bool.true_eq_false, true_and,  need_of, need_true, need_and, WOf_need, i64w, u64w, at_getD, idxR_slD, and_true, Nat.zero_add, Nat.mul_one, Nat.add_zero, idxS_one, get_setN, get_setS, get_appL, List.length_set, ↓ibin_shlD, ↓ibin_shrD, bld1_true, plan_buildD, natSucc, q2, q4]
      refine (ordersA xa s3 s4 ha5).mono ?_
      rintro v m1 ⟨rfl, rfl⟩
      simp -implicitDefEqProofs -dsimp (disch := (first | omega | (simp only [List.length_set, List.length_append, List.length_cons, List.length_nil]; omega))) only [go_sem, Nat.reduceAdd, Nat.reduceSub, Nat.reduceLT, Nat.reduceLeDiff, Int.reduceToNat, Int.reduceLE, Int.reduceLT, Int.reduceAdd, Int.reduceSub, Int.reduceEq, Int.reduceNe, Int.reduceMul, Nat.reduceMul, Int.reduceNeg, Int.toNat_natCast, Nat.reduceEqDiff, X.exit.injEq, if_true, if_false, reduceIte, Bool.not_true, Bool.not_false, Bool.false_eq_true, Bool.true_eq_false, true_and,  need_of, need_true, need_and, WOf_need, i64w, u64w, at_getD, idxR_slD, and_true, Nat.zero_add, Nat.mul_one, Nat.add_zero, idxS_one, get_setN, get_setS, get_appL, List.length_set, ↓ibin_shlD, ↓ibin_shrD, bld1_true, plan_buildD, natSucc, q2, q6]
      refine (widestA xa s3 s4 ha5).mono ?_
      rintro v m1 ⟨rfl, rfl⟩
      simp -implicitDefEqProofs -dsimp (disch := (first | omega | (simp only [List.length_set, List.length_append, List.length_cons, List.length_nil]; omega))) only [go_sem, Nat.reduceAdd, Nat.reduceSub, Nat.reduceLT, Nat.reduceLeDiff, Int.reduceToNat, Int.reduceLE, Int.reduceLT, Int.reduceAdd, Int.reduceSub, Int.reduceEq, Int.reduceNe, Int.reduceMul, Nat.reduceMul, Int.reduceNeg, Int.toNat_natCast, Nat.reduceEqDiff, X.exit.injEq, if_true, if_false, reduceIte, Bool.not_true, Bool.not_false, Bool.false_eq_true, Bool.true_eq_false, true_and,  need_of, need_true, need_and, WOf_need, i64w, u64w, at_getD, idxR_slD, and_true, Nat.zero_add, Nat.mul_one, Nat.add_zero, idxS_one, get_setN, get_setS, get_appL, List.length_set, ↓ibin_shlD, ↓ibin_shrD, bld1_true, plan_buildD, natSucc, q2, q8]
      refine (live_cls _ _).mono ?_
      rintro v m1 ⟨rfl, rfl⟩
      have hshn : shlK .i64 1 (n : Int) = ((2 ^ n : Nat) : Int) := i64_shl (by omega)
      have c1 : ((n : Int) = 0) = True := eq_true (by omega)
      have c2 : fac 0 = fac n := by rw [hn0]
      have c3 : (n = 0) = True := eq_true hn0
      simp -implicitDefEqProofs -dsimp (disch := (first | omega | (simp only [List.length_set, List.length_append, List.length_cons, List.length_nil]; omega))) only [go_sem, Nat.reduceAdd, Nat.reduceSub, Nat.reduceLT, Nat.reduceLeDiff, Int.reduceToNat, Int.reduceLE, Int.reduceLT, Int.reduceAdd, Int.reduceSub, Int.reduceEq, Int.reduceNe, Int.reduceMul, Nat.reduceMul, Int.reduceNeg, Int.toNat_natCast, Nat.reduceEqDiff, X.exit.injEq, if_true, if_false, reduceIte, Bool.not_true, Bool.not_false, Bool.false_eq_true, Bool.true_eq_false, true_and,  need_of, need_true, need_and, WOf_need, i64w, u64w, at_getD, idxR_slD, and_true, Nat.zero_add, Nat.mul_one, Nat.add_zero, idxS_one, get_setN, get_setS, get_appL, List.length_set, ↓ibin_shlD, ↓ibin_shrD, bld1_true, plan_buildD, natSucc, c1, c2, c3, hshn]
  · obtain ⟨hi0, ver, rfl, rfl, rfl⟩ := hr
    have hip : (0 : Int) < (i : Int) := by omega
    have hlen1 : ((List.range i).map fun k => sl I (rowS k)).length = i := by simp
    have hlen2 : ((List.range i).map fun _ => sl I nilSl).length = i := by simp
    simp -implicitDefEqProofs -dsimp (disch := (first | omega | (simp only [List.length_set, List.length_append, List.length_cons, List.length_nil]; omega))) only [go_sem, Nat.reduceAdd, Nat.reduceSub, Nat.reduceLT, Nat.reduceLeDiff, Int.reduceToNat, Int.reduceLE, Int.reduceLT, Int.reduceAdd, Int.reduceSub, Int.reduceEq, Int.reduceNe, Int.reduceMul, Nat.reduceMul, Int.reduceNeg, Int.toNat_natCast, Nat.reduceEqDiff, X.exit.injEq, if_true, if_false, reduceIte, Bool.not_true, Bool.not_false, Bool.false_eq_true, Bool.true_eq_false, true_and,  need_of, need_true, need_and, WOf_need, i64w, u64w, at_getD, idxR_slD, and_true, Nat.zero_add, Nat.mul_one, Nat.add_zero, idxS_one, get_setN, get_setS, get_appL, List.length_set, ↓ibin_shlD, ↓ibin_shrD, bld1_true, plan_buildD, natSucc, t3, t4, t5, t6, t7, hip]
    split
    · rename_i hlt
      have ok0 : ∀ (id : Nat) (low : Nat → Bool), okTo ⟨[0], 0⟩ id low := fun id low => ⟨Nat.zero_le _, by simp⟩
      have hroom : roomOk (i + 1) 1 = true := by simp [roomOk]; omega
      have hfn : IntKind.i64.wrap (((fac i : Nat) : Int) * ((i + 1 : Nat) : Int)) = ((fac (i + 1) : Nat) : Int) := by
        have h1 := fac_le (i + 1) (by omega)
        have h2 : ((fac i : Nat) : Int) * ((i + 1 : Nat) : Int) = ((fac (i + 1) : Nat) : Int) := by rw [fac]; push_cast; rfl
        rw [h2]; exact i64w (by omega)
      refine ⟨⟨by rw [hlen1]; exact Nat.le_refl _, hroom⟩, ok0 _ _, ⟨by rw [hlen2]; exact Nat.le_refl _, hroom⟩, ok0 _ _, n - (i + 1), by omega, i + 1, _, _, rfl, rfl, by rw [hfn], rfl, by omega, Or.inr ⟨by omega, ver + 1, rfl, rfl, ?_⟩, rfl⟩
      rw [List.take_of_length_le (by rw [hlen1]; exact Nat.le_refl _), List.take_of_length_le (by rw [hlen2]; exact Nat.le_refl _), List.range_succ, List.map_append, List.map_append]
      have hrs : sl I (rowS i) = .lst 1 [AV.sc (.int .i64 ((i : Int) - 1))] true := by rw [rowS, if_neg (by omega)]; rfl
      have hns : sl I nilSl = .nilS := rfl
      simp only [List.map_cons, List.map_nil, hrs, hns]
    · rename_i hlt
      have hin : i = n := by omega
      subst hin
      have hm4 : ([.cells ver ((List.range i).map fun k => sl I (rowS k)), .cells ver ((List.range i).map fun _ => sl I nilSl)] : Mem)[0]? = some (.cells ver (((List.range i).map rowS).map (sl I))) := by rw [List.map_map]; rfl
      have hm5 : ([.cells ver ((List.range i).map fun k => sl I (rowS k)), .cells ver ((List.range i).map fun _ => sl I nilSl)] : Mem)[1]? = some (.cells ver (((List.range i).map fun _ => nilSl).map (sl I))) := by rw [List.map_map]; rfl
      have ha4 := frz_rows _ hm4
      have ha5 := frz_rows _ hm5
      rw [List.length_map, List.length_range] at ha4 ha5
      obtain ⟨xr, hxrd, hxr⟩ : ∃ xr : LL, xr = ⟨false, false, (List.range i).map rowS⟩ ∧ xr.of = rowD i := ⟨_, rfl, by simp [LL.of, rowD]⟩
      obtain ⟨xa, hxad, hxa⟩ : ∃ xa : LL, xa = ⟨false, false, (List.range i).map fun _ => nilSl⟩ ∧ xa.of = aloneD i := ⟨_, rfl, by simp [LL.of, aloneD, nilSl]⟩
      rw [← hxrd] at ha4
      rw [← hxad] at ha5
      obtain ⟨⟨q1, q2⟩, q3, q4, q5, q6, q7, q8⟩ := row_facts hn13 hxr hxa
      obtain ⟨s1, s2⟩ := row_short hn13 (Or.inl hxr)
      obtain ⟨s3, s4⟩ := row_short hn13 (Or.inr hxa)
      refine (countA xr s1 s2 ha4).mono ?_
      rintro v m1 ⟨rfl, rfl⟩
      simp -implicitDefEqProofs -dsimp (disch := (first | omega | (simp only [List.length_set, List.length_append, List.length_cons, List.length_nil]; omega))) only [go_sem, Nat.reduceAdd, Nat.reduceSub, Nat.reduceLT, Nat.reduceLeDiff, Int.reduceToNat, Int.reduceLE, Int.reduceLT, Int.reduceAdd, Int.reduceSub, Int.reduceEq, Int.reduceNe, Int.reduceMul, Nat.reduceMul, Int.reduceNeg, Int.toNat_natCast, Nat.reduceEqDiff, X.exit.injEq, if_true, if_false, reduceIte, Bool.not_true, Bool.not_false, Bool.false_eq_true, Bool.true_eq_false, true_and,  need_of, need_true, need_and, WOf_need, i64w, u64w, at_getD, idxR_slD, and_true, Nat.zero_add, Nat.mul_one, Nat.add_zero, idxS_one, get_setN, get_setS, get_appL, List.length_set, ↓ibin_shlD, ↓ibin_shrD, bld1_true, plan_buildD, natSucc, q1, q3]
      refine (ordersA xr s1 s2 ha4).mono ?_
      rintro v m1 ⟨rfl, rfl⟩
      simp -implicitDefEqProofs -dsimp (disch := (first | omega | (simp only [List.length_set, List.length_append, List.length_cons, List.length_nil]; omega))) only [go_sem, Nat.reduceAdd, Nat.reduceSub, Nat.reduceLT, Nat.reduceLeDiff, Int.reduceToNat, Int.reduceLE, Int.reduceLT, Int.reduceAdd, Int.reduceSub, Int.reduceEq, Int.reduceNe, Int.reduceMul, Nat.reduceMul, Int.reduceNeg, Int.toNat_natCast, Nat.reduceEqDiff, X.exit.injEq, if_true, if_false, reduceIte, Bool.not_true, Bool.not_false, Bool.false_eq_true, Bool.true_eq_false, true_and,  need_of, need_true, need_and, WOf_need, i64w, u64w, at_getD, idxR_slD, and_true, Nat.zero_add, Nat.mul_one, Nat.add_zero, idxS_one, get_setN, get_setS, get_appL, List.length_set, ↓ibin_shlD, ↓ibin_shrD, bld1_true, plan_buildD, natSucc, q1, q5]
      refine (widestA xr s1 s2 ha4).mono ?_
      rintro v m1 ⟨rfl, rfl⟩
      simp -implicitDefEqProofs -dsimp (disch := (first | omega | (simp only [List.length_set, List.length_append, List.length_cons, List.length_nil]; omega))) only [go_sem, Nat.reduceAdd, Nat.reduceSub, Nat.reduceLT, Nat.reduceLeDiff, Int.reduceToNat, Int.reduceLE, Int.reduceLT, Int.reduceAdd, Int.reduceSub, Int.reduceEq, Int.reduceNe, Int.reduceMul, Nat.reduceMul, Int.reduceNeg, Int.toNat_natCast, Nat.reduceEqDiff, X.exit.injEq, if_true, if_false, reduceIte, Bool.not_true, Bool.not_false, Bool.false_eq_true, Bool.true_eq_false, true_and,  need_of, need_true, need_and, WOf_need, i64w, u64w, at_getD, idxR_slD, and_true, Nat.zero_add, Nat.mul_one, Nat.add_zero, idxS_one, get_setN, get_setS, get_appL, List.length_set, ↓ibin_shlD, ↓ibin_shrD, bld1_true, plan_buildD, natSucc, q1, q7]
      refine (countA xa s3 s4 ha5).mono ?_
      rintro v m1 ⟨rfl, rfl⟩
      simp -implicitDefEqProofs -dsimp (disch := (first | omega | (simp only [List.length_set, List.length_append, List.length_cons, List.length_nil]; omega))) only [go_sem, Nat.reduceAdd, Nat.reduceSub, Nat.reduceLT, Nat.reduceLeDiff, Int.reduceToNat, Int.reduceLE, Int.reduceLT, Int.reduceAdd, Int.reduceSub, Int.reduceEq, Int.reduceNe, Int.reduceMul, Nat.reduceMul, Int.reduceNeg, Int.toNat_natCast, Nat.reduceEqDiff, X.exit.injEq, if_true, if_false, reduceIte, Bool.not_true, Bool.not_false, Bool.false_eq_true, Bool.true_eq_false, true_and,  need_of, need_true, need_and, WOf_need, i64w, u64w, at_getD, idxR_slD, and_true, Nat.zero_add, Nat.mul_one, Nat.add_zero, idxS_one, get_setN, get_setS, get_appL, List.length_set, ↓ibin_shlD, ↓ibin_shrD, bld1_true, plan_buildD, natSucc, q2, q4]
      refine (ordersA xa s3 s4 ha5).mono ?_
      rintro v m1 ⟨rfl, rfl⟩
      simp -implicitDefEqProofs -dsimp (disch := (first | omega | (simp only [List.length_set, List.length_append, List.length_cons, List.length_nil]; omega))) only [go_sem, Nat.reduceAdd, Nat.reduceSub, Nat.reduceLT, Nat.reduceLeDiff, Int.reduceToNat, Int.reduceLE, Int.reduceLT, Int.reduceAdd, Int.reduceSub, Int.reduceEq, Int.reduceNe, Int.reduceMul, Nat.reduceMul, Int.reduceNeg, Int.toNat_natCast, Nat.reduceEqDiff, X.exit.injEq, if_true, if_false, reduceIte, Bool.not_true, Bool.not_false, Bool.false_eq_true, Bool.true_eq_false, true_and,  need_of, need_true, need_and, WOf_need, i64w, u64w, at_getD, idxR_slD, and_true, Nat.zero_add, Nat.mul_one, Nat.add_zero, idxS_one, get_setN, get_setS, get_appL, List.length_set, ↓ibin_shlD, ↓ibin_shrD, bld1_true, plan_buildD, natSucc, q2, q6]
      refine (widestA xa s3 s4 ha5).mono ?_
      rintro v m1 ⟨rfl, rfl⟩
      simp -implicitDefEqProofs -dsimp (disch := (first | omega | (simp only [List.length_set, List.length_append, List.length_cons, List.length_nil]; omega))) only [go_sem, Nat.reduceAdd, Nat.reduceSub, Nat.reduceLT, Nat.reduceLeDiff, Int.reduceToNat, Int.reduceLE, Int.reduceLT, Int.reduceAdd, Int.reduceSub, Int.reduceEq, Int.reduceNe, Int.reduceMul, Nat.reduceMul, Int.reduceNeg, Int.toNat_natCast, Nat.reduceEqDiff, X.exit.injEq, if_true, if_false, reduceIte, Bool.not_true, Bool.not_false, Bool.false_eq_true, Bool.true_eq_false, true_and,  need_of, need_true, need_and, WOf_need, i64w, u64w, at_getD, idxR_slD, and_true, Nat.zero_add, Nat.mul_one, Nat.add_zero, idxS_one, get_setN, get_setS, get_appL, List.length_set, ↓ibin_shlD, ↓ibin_shrD, bld1_true, plan_buildD, natSucc, q2, q8]
      refine (live_cls _ _).mono ?_
      rintro v m1 ⟨rfl, rfl⟩
      have hshn : shlK .i64 1 (i : Int) = ((2 ^ i : Nat) : Int) := i64_shl (by omega)
      have c1 : ((i : Int) = 0) = False := eq_false (by omega)
      have c3 : (i = 0) = False := eq_false (by omega)
      simp -implicitDefEqProofs -dsimp (disch := (first | omega | (simp only [List.length_set, List.length_append, List.length_cons, List.length_nil]; omega))) only [go_sem, Nat.reduceAdd, Nat.reduceSub, Nat.reduceLT, Nat.reduceLeDiff, Int.reduceToNat, Int.reduceLE, Int.reduceLT, Int.reduceAdd, Int.reduceSub, Int.reduceEq, Int.reduceNe, Int.reduceMul, Nat.reduceMul, Int.reduceNeg, Int.toNat_natCast, Nat.reduceEqDiff, X.exit.injEq, if_true, if_false, reduceIte, Bool.not_true, Bool.not_false, Bool.false_eq_true, Bool.true_eq_false, true_and,  need_of, need_true, need_and, WOf_need, i64w, u64w, at_getD, idxR_slD, and_true, Nat.zero_add, Nat.mul_one, Nat.add_zero, idxS_one, get_setN, get_setS, get_appL, List.length_set, ↓ibin_shlD, ↓ibin_shrD, bld1_true, plan_buildD, natSucc, c1, c3, hip, hshn]
end
end Go.Proofs.YtfbamjlednbdhaaDoor.V
