/- Parts of the proof, joined (E5, E6, E7, E8, E9, E10, E11, E12, E13, E14, E15, E16); no condition. -/
import Derived.Test.YtcmjidnbbfcbjaaDoorMg
import Derived.Test.YtcmjidnbbfcbjaaDoorMp
import Derived.Test.YtcmjidnbbfcbjaaDoorMo
import Derived.Test.YtcmjidnbbfcbjaaDoorMf
/- Trees that are right, of the program; no condition. -/
namespace Go.Proofs.YtcmjidnbbfcbjaaDoor.V
open Go
set_option linter.unusedVariables false
set_option linter.unusedSimpArgs false
set_option maxRecDepth 100000
set_option maxHeartbeats 4000000
noncomputable section
variable {en : Env} {m : Mem}
theorem upAt_parts (p : List UInt8) (h : 1 < p.length) : ∀ i, (upAt p i).1 = if lastAt p 47 (i + 1) ≤ 0 then [47] else p.take (lastAt p 47 (i + 1)).toNat
  | 0 => by
    have : lastAt p 47 1 ≤ 0 := by unfold lastAt; split <;> simp [lastAt]
    rw [if_pos this, upAt, if_pos h]
  | i + 1 => by
    rw [upAt, lastAt]
    split
    · rename_i h47
      rw [if_neg (by omega)]; simp
    · exact upAt_parts p h i
theorem up_parts {p : List UInt8} (h : 1 < p.length) : (upL p).1 = (partsL p).1 := by
  unfold upL
  rw [upAt_parts p h, show p.length - 1 + 1 = p.length by omega]
  unfold partsL lastI
  split <;> rfl
theorem srt_ok {t : List Nd} {i : Nat} (hs : Srt (t.take i)) {n q : Nd} (hn : t[i]? = some n) (hq : t[i - 1]? = some q) (hi : 1 ≤ i) (h : leB n.path q.path = false) : Srt (t.take (i + 1)) := by
  have hlt : ltB q.path n.path = true := by
    simp only [leB, Bool.or_eq_false_iff, decide_eq_false_iff_not] at h
    rcases ltB_tri n.path q.path with h1 | h1 | h1
    · rw [h.1] at h1; cases h1
    · exact (h.2 h1).elim
    · exact h1
  unfold Srt
  rw [List.take_add_one, hn]
  simp only [Option.toList_some]
  rw [List.pairwise_append]
  refine ⟨hs, by simp, fun a ha b hb => ?_⟩
  simp only [List.mem_singleton] at hb
  subst hb
  obtain ⟨j, hj⟩ := List.getElem?_of_mem ha
  have hj2 : j < i := by
    have := (List.getElem?_eq_some_iff.1 hj).1
    simp at this; omega
  have hja : t[j]? = some a := by rw [List.getElem?_take, if_pos hj2] at hj; exact hj
  rcases Nat.lt_or_ge j (i - 1) with h1 | h1
  · have hq' : (t.take i)[i - 1]? = some q := by rw [List.getElem?_take, if_pos (by omega)]; exact hq
    exact ltB_trans (hs.get h1 hj hq') hlt
  · have : j = i - 1 := by omega
    subst this; rw [hja] at hq; cases hq; exact hlt
theorem path_long {t : List Nd} {i : Nat} (hs : Srt (t.take i)) (h0 : t[0]? = some root) {n q : Nd} (hn : t[i]? = some n) (hq : t[i - 1]? = some q) (hi : 1 ≤ i) (h : leB n.path q.path = false) : n.path ≠ [47] := by
  have h1 := srt_ok hs hn hq hi h
  have g0 : (t.take (i + 1))[0]? = some root := by rw [List.getElem?_take, if_pos (by omega)]; exact h0
  have gi : (t.take (i + 1))[i]? = some n := by rw [List.getElem?_take, if_pos (by omega)]; exact hn
  have := h1.get (show 0 < i by omega) g0 gi
  exact (ltB_ne this).symm
theorem split_len {p : List UInt8} {l : List (List UInt8)} (h : splitL p = some l) : 1 ≤ p.length := by
  unfold splitL at h
  split at h
  · rename_i e; rw [e]; simp
  · split at h
    · rename_i hc
      cases p with
      | nil => simp at hc
      | cons _ _ => simp
    · cases h
theorem one_slash {p : List UInt8} {l : List (List UInt8)} (h : splitL p = some l) (hne : p ≠ [47]) : 1 < p.length := by
  have h1 := split_len h
  rcases Nat.lt_or_ge 1 p.length with h2 | h2
  · exact h2
  · exfalso
    unfold splitL at h
    rw [if_neg hne] at h
    split at h
    · rename_i hc
      obtain ⟨c, rfl⟩ : ∃ c, p = [c] := by
        match p, h1, h2 with
        | [c], _, _ => exact ⟨c, rfl⟩
      simp at hc
      exact hne (by rw [hc.1])
    · cases h
theorem getL_take {t : List Nd} {i : Nat} {p : List UInt8} {n : Nd} (hs : Srt (t.take i)) (h : getL (t.take i) p = some n) : t[lowB (t.take i) p]? = some n ∧ lowB (t.take i) p < i := by
  have h1 := lowB_get hs h
  rw [List.getElem?_take] at h1
  split at h1
  · exact ⟨h1, by assumption⟩
  · cases h1
theorem srt_one (t : List Nd) : Srt (t.take 1) := by
  unfold Srt
  cases t <;> simp
theorem srt_next {t : List Nd} {i : Nat} (hs : Srt (t.take i)) (hi1 : 1 ≤ i) (hi : i < t.length) (h : okAt t i = true) : Srt (t.take (i + 1)) := by
  have h0 : (i == 0) = false := by simp; omega
  have hn := List.getElem?_eq_getElem hi
  have hq := List.getElem?_eq_getElem (show i - 1 < t.length by omega)
  simp only [okAt, h0, Bool.false_or, hn, hq, nodeOk, Bool.and_eq_true, Bool.not_eq_true'] at h
  exact srt_ok hs hn hq hi1 h.2.1
theorem right_srt {t : List Nd} (h : rightL t = true) : Srt t := by
  obtain ⟨h1, h2, h3, h4⟩ := right_facts h
  have : ∀ i, 1 ≤ i → i ≤ t.length → Srt (t.take i) := by
    intro i
    induction i with
    | zero => intro h; omega
    | succ i ih =>
      intro _ hi
      rcases Nat.eq_zero_or_pos i with rfl | hp
      · exact srt_one t
      · refine srt_next (ih hp (by omega)) hp (by omega) ?_
        have h0 : (i == 0) = false := by simp; omega
        have hn := List.getElem?_eq_getElem (show i < t.length by omega)
        have hq := List.getElem?_eq_getElem (show i - 1 < t.length by omega)
        simp only [okAt, h0, Bool.false_or, hn, hq]
        obtain ⟨k, rfl⟩ : ∃ k, i = k + 1 := ⟨i - 1, by omega⟩
        exact h4 k _ _ hn hq
  have := this t.length h1 (Nat.le_refl _)
  rwa [List.take_length] at this
end
end Go.Proofs.YtcmjidnbbfcbjaaDoor.V
namespace Go.Proofs.YtcmjidnbbfcbjaaDoor.V.L1
open Go V
set_option linter.unusedVariables false
set_option linter.unusedSimpArgs false
set_option maxRecDepth 100000
set_option maxHeartbeats 4000000
noncomputable section
variable {en : Env} {m : Mem}
theorem fits_ok (t : Sl Nd) (i : Nat) (ht : FitT t.l) (hs : Srt (t.l.take i)) (h0 : t.l[0]? = some root) (hi1 : 1 ≤ i) (hi : i < t.l.length) (hf : Fits en m.length) : WC Tryd.prog pol en (.func 52) [slf ndC t, I i] m fun v m' => v = bo (okAt t.l i) ∧ m' = m := by
  have htl := ht.len
  obtain ⟨n, hn⟩ : ∃ n, t.l[i]? = some n := ⟨_, List.getElem?_eq_getElem hi⟩
  obtain ⟨q, hq⟩ : ∃ q, t.l[i - 1]? = some q := ⟨_, List.getElem?_eq_getElem (by omega)⟩
  have hnm := List.mem_of_getElem? hn
  have hp := ht.path n hnm
  have hfl := ht.first n hnm
  have hdl := ht.data n hnm
  have hw : IntKind.i64.wrap ((i : Int) - 1) = ((i - 1 : Nat) : Int) := by rw [i64w (by omega)]; omega
  have hat : okAt t.l i = nodeOk t.l i n q := by
    have : (i == 0) = false := by simp; omega
    simp [okAt, hn, hq, this]
  rw [hat]
  obtain ⟨B, hB⟩ : ∃ B, m.length = B := ⟨_, rfl⟩
  have hBk : ∀ k, m.length + k = B + k := fun k => by omega
  have hii : (i : Int) < (t.l.length : Int) := by omega
  have hl1 : ∀ j, (t.sub 0 j).l = t.l.take j := fun j => by rw [sub_l]; simp
  have hlen1 : ∀ j, (t.sub 0 j).l.length < 4294967296 := fun j => by rw [hl1, List.length_take]; omega
  have hpl0 := fun (k : List UInt8) (en : Env) (m : Mem) Q => place_eq (en := en) (t.sub 0 i) k m Q (by rw [hl1]; exact hs) (hlen1 i)
  simp only [hl1] at hpl0
  refine callPur Tryd.func52 rfl rfl Tryd.ntmps52 Tryd.results52 ?_
  cases hsp : splitL n.path with
  | none =>
    (have hq1 : Dm := ⟨⟩; have hq2 : Dm := ⟨⟩; have hq3 : Dm := ⟨⟩; have hq4 : Dm := ⟨⟩; have hq5 : Dm := ⟨⟩; have hq6 : Dm := ⟨⟩) <;> (try simp -implicitDefEqProofs -dsimp (maxSteps := 2000000) (disch := (first | exact dz | fail)) only [go_sem, hn, treeSplit_eq, hsp, splitA]) <;> (repeat' (first | ((with_reducible refine ds_and ?_ ?_); focus exact kz) | ((with_reducible refine And.intro ?_ ?_); focus exact oz) | ((with_reducible refine pc_and ?_ ?_); focus exact pz) | ((first | with_reducible refine gIf_t ?_ ?_ | with_reducible refine gIf_f ?_ ?_ | with_reducible refine ite_t ?_ ?_ | with_reducible refine ite_p ?_ ?_) <;> (first | (have z := (hq1 : Dm); clear z hq1; intro hq1; try simp only [noR] at hq1) | (have z := (hq2 : Dm); clear z hq2; intro hq2; try simp only [noR] at hq2) | (have z := (hq3 : Dm); clear z hq3; intro hq3; try simp only [noR] at hq3) | (have z := (hq4 : Dm); clear z hq4; intro hq4; try simp only [noR] at hq4) | (have z := (hq5 : Dm); clear z hq5; intro hq5; try simp only [noR] at hq5) | (have z := (hq6 : Dm); clear z hq6; intro hq6; try simp only [noR] at hq6)) <;> (try simp -implicitDefEqProofs -dsimp (maxSteps := 2000000) (disch := (first | exact dz | fail)) only [go_sem, hq6, hq5, hq4, hq3, hq2, hq1, hn, treeSplit_eq, hsp, splitA])))) <;> (try with_reducible and_intros) <;> (first | exact fz | skip)
    simp [nodeOk, hsp]
  | some names =>
    cases hle : leB n.path q.path with
    | true =>
      have hle' : (ltB n.path q.path || decide (n.path = q.path)) = true := hle
      (have hq1 : Dm := ⟨⟩; have hq2 : Dm := ⟨⟩; have hq3 : Dm := ⟨⟩; have hq4 : Dm := ⟨⟩; have hq5 : Dm := ⟨⟩; have hq6 : Dm := ⟨⟩) <;> (try simp -implicitDefEqProofs -dsimp (maxSteps := 2000000) (disch := (first | exact dz | fail)) only [go_sem, hn, hq, hw, treeSplit_eq, hsp, splitA, hle']) <;> (repeat' (first | ((with_reducible refine ds_and ?_ ?_); focus exact kz) | ((with_reducible refine And.intro ?_ ?_); focus exact oz) | ((with_reducible refine pc_and ?_ ?_); focus exact pz) | ((first | with_reducible refine gIf_t ?_ ?_ | with_reducible refine gIf_f ?_ ?_ | with_reducible refine ite_t ?_ ?_ | with_reducible refine ite_p ?_ ?_) <;> (first | (have z := (hq1 : Dm); clear z hq1; intro hq1; try simp only [noR] at hq1) | (have z := (hq2 : Dm); clear z hq2; intro hq2; try simp only [noR] at hq2) | (have z := (hq3 : Dm); clear z hq3; intro hq3; try simp only [noR] at hq3) | (have z := (hq4 : Dm); clear z hq4; intro hq4; try simp only [noR] at hq4) | (have z := (hq5 : Dm); clear z hq5; intro hq5; try simp only [noR] at hq5) | (have z := (hq6 : Dm); clear z hq6; intro hq6; try simp only [noR] at hq6)) <;> (try simp -implicitDefEqProofs -dsimp (maxSteps := 2000000) (disch := (first | exact dz | fail)) only [go_sem, hq6, hq5, hq4, hq3, hq2, hq1, hn, hq, hw, treeSplit_eq, hsp, splitA, hle'])))) <;> (try with_reducible and_intros) <;> (first | exact fz | skip)
      simp [nodeOk, hle]
    | false =>
      have hle' : (ltB n.path q.path || decide (n.path = q.path)) = false := hle
      have hlong := path_long hs h0 hn hq hi1 hle
      have hup := up_parts (one_slash hsp hlong)
      have hs2 := srt_ok hs hn hq hi1 hle
      have hpl1 := fun (k : List UInt8) (en : Env) (m : Mem) Q => place_eq (en := en) (t.sub 0 (i + 1)) k m Q (by rw [hl1]; exact hs2) (hlen1 (i + 1))
      simp only [hl1] at hpl1
      have hpl : (partsL n.path).1.length ≤ 1048576 := by rw [← hup]; have := upL_len n.path; omega
      cases hg : getL (t.l.take i) (partsL n.path).1 with
      | none =>
        (have hq1 : Dm := ⟨⟩; have hq2 : Dm := ⟨⟩; have hq3 : Dm := ⟨⟩; have hq4 : Dm := ⟨⟩; have hq5 : Dm := ⟨⟩; have hq6 : Dm := ⟨⟩) <;> (try simp -implicitDefEqProofs -dsimp (maxSteps := 2000000) (disch := (first | exact dz | fail)) only [go_sem, hn, hq, hw, treeSplit_eq, hsp, splitA, hle', parts_eq, hpl0, hg, Option.isSome_none]) <;> (repeat' (first | ((with_reducible refine ds_and ?_ ?_); focus exact kz) | ((with_reducible refine And.intro ?_ ?_); focus exact oz) | ((with_reducible refine pc_and ?_ ?_); focus exact pz) | ((first | with_reducible refine gIf_t ?_ ?_ | with_reducible refine gIf_f ?_ ?_ | with_reducible refine ite_t ?_ ?_ | with_reducible refine ite_p ?_ ?_) <;> (first | (have z := (hq1 : Dm); clear z hq1; intro hq1; try simp only [noR] at hq1) | (have z := (hq2 : Dm); clear z hq2; intro hq2; try simp only [noR] at hq2) | (have z := (hq3 : Dm); clear z hq3; intro hq3; try simp only [noR] at hq3) | (have z := (hq4 : Dm); clear z hq4; intro hq4; try simp only [noR] at hq4) | (have z := (hq5 : Dm); clear z hq5; intro hq5; try simp only [noR] at hq5) | (have z := (hq6 : Dm); clear z hq6; intro hq6; try simp only [noR] at hq6)) <;> (try simp -implicitDefEqProofs -dsimp (maxSteps := 2000000) (disch := (first | exact dz | fail)) only [go_sem, hq6, hq5, hq4, hq3, hq2, hq1, hn, hq, hw, treeSplit_eq, hsp, splitA, hle', parts_eq, hpl0, hg, Option.isSome_none])))) <;> (try with_reducible and_intros) <;> (first | exact fz | skip)
        simp [nodeOk, hup, hg]
      | some d =>
        obtain ⟨hd, hdi⟩ := getL_take hs hg
        have hdi2 : ((lowB (t.l.take i) (partsL n.path).1 : Nat) : Int) < (t.l.length : Int) := by omega
        have hnode : nodeOk t.l i n q = (d.dir && (if n.dir = true then decide (n.data = []) && decide (n.first = n.path)
            else decide (n.data.length ≤ 256) && (match getL (t.l.take (i + 1)) n.first with | some x => !x.dir && (decide (x.first = n.first) && decide (x.data = n.data)) | none => false))) := by
          simp [nodeOk, hsp, hle, hup, hg]
          cases getL (t.l.take (i + 1)) n.first <;> rfl
        rw [hnode]
        cases hg2 : getL (t.l.take (i + 1)) n.first with
        | none =>
          (have hq1 : Dm := ⟨⟩; have hq2 : Dm := ⟨⟩; have hq3 : Dm := ⟨⟩; have hq4 : Dm := ⟨⟩; have hq5 : Dm := ⟨⟩; have hq6 : Dm := ⟨⟩) <;> (try simp -implicitDefEqProofs -dsimp (maxSteps := 2000000) (disch := (first | exact dz | fail)) only [go_sem, hn, hq, hw, treeSplit_eq, hsp, splitA, hle', parts_eq, hpl0, hpl1, hg, hg2, Option.isSome_some, Option.isSome_none, hd]) <;> (repeat' (first | ((with_reducible refine ds_and ?_ ?_); focus exact kz) | ((with_reducible refine And.intro ?_ ?_); focus exact oz) | ((with_reducible refine pc_and ?_ ?_); focus exact pz) | ((first | with_reducible refine gIf_t ?_ ?_ | with_reducible refine gIf_f ?_ ?_ | with_reducible refine ite_t ?_ ?_ | with_reducible refine ite_p ?_ ?_) <;> (first | (have z := (hq1 : Dm); clear z hq1; intro hq1; try simp only [noR] at hq1) | (have z := (hq2 : Dm); clear z hq2; intro hq2; try simp only [noR] at hq2) | (have z := (hq3 : Dm); clear z hq3; intro hq3; try simp only [noR] at hq3) | (have z := (hq4 : Dm); clear z hq4; intro hq4; try simp only [noR] at hq4) | (have z := (hq5 : Dm); clear z hq5; intro hq5; try simp only [noR] at hq5) | (have z := (hq6 : Dm); clear z hq6; intro hq6; try simp only [noR] at hq6)) <;> (try simp -implicitDefEqProofs -dsimp (maxSteps := 2000000) (disch := (first | exact dz | fail)) only [go_sem, hq6, hq5, hq4, hq3, hq2, hq1, hn, hq, hw, treeSplit_eq, hsp, splitA, hle', parts_eq, hpl0, hpl1, hg, hg2, Option.isSome_some, Option.isSome_none, hd])))) <;> (try with_reducible and_intros) <;> (first | exact fz | skip)
          all_goals simp
        | some x =>
          obtain ⟨hx, hxi⟩ := getL_take hs2 hg2
          have hxi2 : ((lowB (t.l.take (i + 1)) n.first : Nat) : Int) < (t.l.length : Int) := by omega
          (have hq1 : Dm := ⟨⟩; have hq2 : Dm := ⟨⟩; have hq3 : Dm := ⟨⟩; have hq4 : Dm := ⟨⟩; have hq5 : Dm := ⟨⟩; have hq6 : Dm := ⟨⟩) <;> (try simp -implicitDefEqProofs -dsimp (maxSteps := 2000000) (disch := (first | exact dz | fail)) only [go_sem, hn, hq, hw, treeSplit_eq, hsp, splitA, hle', parts_eq, hpl0, hpl1, hg, hg2, Option.isSome_some, hd, hx]) <;> (repeat' (first | ((with_reducible refine ds_and ?_ ?_); focus exact kz) | ((with_reducible refine And.intro ?_ ?_); focus exact oz) | ((with_reducible refine pc_and ?_ ?_); focus exact pz) | ((first | with_reducible refine gIf_t ?_ ?_ | with_reducible refine gIf_f ?_ ?_ | with_reducible refine ite_t ?_ ?_ | with_reducible refine ite_p ?_ ?_) <;> (first | (have z := (hq1 : Dm); clear z hq1; intro hq1; try simp only [noR] at hq1) | (have z := (hq2 : Dm); clear z hq2; intro hq2; try simp only [noR] at hq2) | (have z := (hq3 : Dm); clear z hq3; intro hq3; try simp only [noR] at hq3) | (have z := (hq4 : Dm); clear z hq4; intro hq4; try simp only [noR] at hq4) | (have z := (hq5 : Dm); clear z hq5; intro hq5; try simp only [noR] at hq5) | (have z := (hq6 : Dm); clear z hq6; intro hq6; try simp only [noR] at hq6)) <;> (try simp -implicitDefEqProofs -dsimp (maxSteps := 2000000) (disch := (first | exact dz | fail)) only [go_sem, hq6, hq5, hq4, hq3, hq2, hq1, hn, hq, hw, treeSplit_eq, hsp, splitA, hle', parts_eq, hpl0, hpl1, hg, hg2, Option.isSome_some, hd, hx])))) <;> (try with_reducible and_intros) <;> (first | exact fz | skip)
          all_goals first | (simp; done) | (simp; omega) | skip
          all_goals (have h256 : n.data.length ≤ 256 := by omega)
          all_goals simp [h256]
theorem treeRight_ok (t : Sl Nd) (ht : FitT t.l) (hf : Fits en m.length) : WC Tryd.prog pol en (.func 38) [slf ndC t] m fun v m' => v = bo (rightL t.l) ∧ m' = m := by
  have htl := ht.len
  refine callPur Tryd.func38 rfl rfl Tryd.ntmps38 Tryd.results38 ?_
  (have hq1 : Dm := ⟨⟩; have hq2 : Dm := ⟨⟩; have hq3 : Dm := ⟨⟩; have hq4 : Dm := ⟨⟩; have hq5 : Dm := ⟨⟩; have hq6 : Dm := ⟨⟩) <;> (try simp -implicitDefEqProofs -dsimp (maxSteps := 2000000) (disch := (first | exact dz | fail)) only [go_sem, treeNew_eq, rootEq, root0]) <;> (repeat' (first | ((with_reducible refine ds_and ?_ ?_); focus exact kz) | ((with_reducible refine And.intro ?_ ?_); focus exact oz) | ((with_reducible refine pc_and ?_ ?_); focus exact pz) | ((first | with_reducible refine gIf_t ?_ ?_ | with_reducible refine gIf_f ?_ ?_ | with_reducible refine ite_t ?_ ?_ | with_reducible refine ite_p ?_ ?_) <;> (first | (have z := (hq1 : Dm); clear z hq1; intro hq1; try simp only [noR] at hq1) | (have z := (hq2 : Dm); clear z hq2; intro hq2; try simp only [noR] at hq2) | (have z := (hq3 : Dm); clear z hq3; intro hq3; try simp only [noR] at hq3) | (have z := (hq4 : Dm); clear z hq4; intro hq4; try simp only [noR] at hq4) | (have z := (hq5 : Dm); clear z hq5; intro hq5; try simp only [noR] at hq5) | (have z := (hq6 : Dm); clear z hq6; intro hq6; try simp only [noR] at hq6)) <;> (try simp -implicitDefEqProofs -dsimp (maxSteps := 2000000) (disch := (first | exact dz | fail)) only [go_sem, hq6, hq5, hq4, hq3, hq2, hq1, treeNew_eq, rootEq, root0])))) <;> (try with_reducible and_intros) <;> (first | exact fz | skip)
  · simp [rightL]; omega
  · simp [rightL]; omega
  · have : t.l[0]? ≠ some root := by rw [List.getElem?_eq_getElem (by omega)]; simpa using hq3
    simp [rightL, this]
  have hr0 : t.l[0]? = some root := by rw [List.getElem?_eq_getElem (by omega), hq3]
  refine loopF (fun k ts m' => ∃ (i : Nat), ts.length = 31 ∧ tg ts 0 = slf ndC t ∧ tg ts 3 = I i ∧ m' = m ∧ (List.range i).all (okAt t.l) = true ∧ Srt (t.l.take i) ∧ 1 ≤ i ∧ i ≤ t.l.length ∧ k = t.l.length - i) (t.l.length - 1) ⟨1, rfl, rfl, rfl, rfl, rfl, srt_one t.l, by omega, by omega, rfl⟩ ?_
  rintro k ts m' ⟨i, hl, h0, h3, rfl, hok, hs, h1i, hi, rfl⟩
  rw [expandT hl]
  by_cases hlt : (i : Int) < (t.l.length : Int)
  · have hi' : i < t.l.length := by omega
    have hfit := fun (en : Env) Q (hf : Fits en m'.length) => (fits_ok (m := m') (en := en) t i ht hs hr0 h1i hi' hf).rule Q
    (have c1 : Dm := ⟨⟩; have c2 : Dm := ⟨⟩; have c3 : Dm := ⟨⟩; have c4 : Dm := ⟨⟩; have c5 : Dm := ⟨⟩; have c6 : Dm := ⟨⟩) <;> (try simp -implicitDefEqProofs -dsimp (maxSteps := 2000000) (disch := (first | exact dz | fail)) only [go_sem, h0, h3, hlt, hfit]) <;> (repeat' (first | ((with_reducible refine ds_and ?_ ?_); focus exact kz) | ((with_reducible refine And.intro ?_ ?_); focus exact oz) | ((with_reducible refine pc_and ?_ ?_); focus exact pz) | ((first | with_reducible refine gIf_t ?_ ?_ | with_reducible refine gIf_f ?_ ?_ | with_reducible refine ite_t ?_ ?_ | with_reducible refine ite_p ?_ ?_) <;> (first | (have z := (c1 : Dm); clear z c1; intro c1; try simp only [noR] at c1) | (have z := (c2 : Dm); clear z c2; intro c2; try simp only [noR] at c2) | (have z := (c3 : Dm); clear z c3; intro c3; try simp only [noR] at c3) | (have z := (c4 : Dm); clear z c4; intro c4; try simp only [noR] at c4) | (have z := (c5 : Dm); clear z c5; intro c5; try simp only [noR] at c5) | (have z := (c6 : Dm); clear z c6; intro c6; try simp only [noR] at c6)) <;> (try simp -implicitDefEqProofs -dsimp (maxSteps := 2000000) (disch := (first | exact dz | fail)) only [go_sem, c6, c5, c4, c3, c2, c1, h0, h3, hlt, hfit])))) <;> (try with_reducible and_intros) <;> (first | exact fz | skip)
    · rw [right_no hi' c1]
    · refine ⟨_, by omega, i + 1, rfl, ?_, ?_, by omega, by omega, rfl⟩
      · rw [List.range_succ, List.all_append, hok]; simp [c1]
      · exact srt_next hs h1i hi' c1
  · (have c1 : Dm := ⟨⟩; have c2 : Dm := ⟨⟩; have c3 : Dm := ⟨⟩; have c4 : Dm := ⟨⟩; have c5 : Dm := ⟨⟩; have c6 : Dm := ⟨⟩) <;> (try simp -implicitDefEqProofs -dsimp (maxSteps := 2000000) (disch := (first | exact dz | fail)) only [go_sem, h0, h3, hlt]) <;> (repeat' (first | ((with_reducible refine ds_and ?_ ?_); focus exact kz) | ((with_reducible refine And.intro ?_ ?_); focus exact oz) | ((with_reducible refine pc_and ?_ ?_); focus exact pz) | ((first | with_reducible refine gIf_t ?_ ?_ | with_reducible refine gIf_f ?_ ?_ | with_reducible refine ite_t ?_ ?_ | with_reducible refine ite_p ?_ ?_) <;> (first | (have z := (c1 : Dm); clear z c1; intro c1; try simp only [noR] at c1) | (have z := (c2 : Dm); clear z c2; intro c2; try simp only [noR] at c2) | (have z := (c3 : Dm); clear z c3; intro c3; try simp only [noR] at c3) | (have z := (c4 : Dm); clear z c4; intro c4; try simp only [noR] at c4) | (have z := (c5 : Dm); clear z c5; intro c5; try simp only [noR] at c5) | (have z := (c6 : Dm); clear z c6; intro c6; try simp only [noR] at c6)) <;> (try simp -implicitDefEqProofs -dsimp (maxSteps := 2000000) (disch := (first | exact dz | fail)) only [go_sem, c6, c5, c4, c3, c2, c1, h0, h3, hlt])))) <;> (try with_reducible and_intros) <;> (first | exact fz | skip)
    have hi2 : i = t.l.length := by omega
    subst hi2
    have : t.l.length ≤ 512 := by omega
    have h3 : rightL t.l = true := by simp only [rightL, Bool.and_eq_true, decide_eq_true_eq]; exact ⟨h1i, this, hr0, hok⟩
    rw [h3]
end
end Go.Proofs.YtcmjidnbbfcbjaaDoor.V.L1
/- A tree by its paths, and the paths of each file; no condition. -/
namespace Go.Proofs.YtcmjidnbbfcbjaaDoor.V
open Go
set_option linter.unusedVariables false
set_option linter.unusedSimpArgs false
set_option maxRecDepth 100000
set_option maxHeartbeats 4000000
noncomputable section
variable {en : Env} {m : Mem}
def lnks (t : List Nd) (f : List UInt8) : List (List UInt8) := (t.filter fun n => !n.dir && decide (n.first = f)).map (·.path)
theorem lnks_snoc (t : List Nd) (n : Nd) (f : List UInt8) : lnks (t ++ [n]) f = lnks t f ++ (if (!n.dir && decide (n.first = f)) = true then [n.path] else []) := by
  unfold lnks
  rw [List.filter_append, List.map_append]
  congr 1
  by_cases h : (!n.dir && decide (n.first = f)) = true
  · simp [h]
  · simp [h]
/-- The paths of each file, as rows of the store. -/
structure Lnk (b : Nat) (ks : List (List UInt8)) (g : List UInt8 → AV) (m : Mem) (t : List Nd) : Prop where
  nd : ks.Nodup
  out : ∀ f, f ∉ ks → lnks t f = []
  row : ∃ (ι ν : List UInt8 → Nat), (∀ f ∈ ks, g f = .own (ι f) (ν f) 0 (lnks t f).length 1 ∧ b ≤ ι f ∧ m[ι f]? = some (.cells (ν f) ((lnks t f).map tx))) ∧ (∀ f ∈ ks, ∀ f' ∈ ks, ι f = ι f' → f = f')
theorem Lnk.nil (b : Nat) (g : List UInt8 → AV) (m : Mem) : Lnk b [] g m [] := ⟨by simp, fun f _ => rfl, fun _ => 0, fun _ => 0, by simp, by simp⟩
theorem Lnk.frame {b : Nat} {ks : List (List UInt8)} {g : List UInt8 → AV} {m m' : Mem} {t t' : List Nd} (h : Lnk b ks g m t) (ht : ∀ f, lnks t' f = lnks t f) (hm : ∀ i o, b ≤ i → m[i]? = some o → m'[i]? = some o) : Lnk b ks g m' t' := by
  obtain ⟨h1, h2, ι, ν, h3, h4⟩ := h
  refine ⟨h1, fun f hf => by rw [ht]; exact h2 f hf, ι, ν, fun f hf => ?_, h4⟩
  obtain ⟨a, b', c⟩ := h3 f hf
  rw [ht]
  exact ⟨a, b', hm _ _ b' c⟩
def gA (t : List Nd) (p : List UInt8) : AV := .agg (ndC ((getL t p).getD nd0))
structure LkS (m : Mem) (t : Sl Nd) (i : Nat) (m' : Mem) : Prop where
  old : ∀ j, j < m.length → m'[j]? = m[j]?
  len : m.length + 4 ≤ m'.length
  c2 : m'[m.length]? = some (.cells (tagT 43) [.nilS, .nilM, .nilM])
  ma : m'[m.length + 1]? = some (.map (strM (gA t.l) ((t.l.take i).map (·.path))))
  c3 : m'[m.length + 3]? = some (.cells (tagT 43) [slf ndC t, .mp (m.length + 1), .mp (m.length + 2)])
  ml : ∃ ks g, m'[m.length + 2]? = some (.map (strM g ks)) ∧ Lnk (m.length + 4) ks g m' (t.l.take i)
theorem LkS.step {m : Mem} {t : Sl Nd} {i : Nat} {m' m2 : Mem} (hL : LkS m t i m') (hs : Srt t.l) {n : Nd} (hn : t.l[i]? = some n) (hpn : n.path ∉ (t.l.take i).map (·.path))
    (hsame : ∀ j, j < m.length + 4 → j ≠ m.length + 1 → j ≠ m.length + 2 → m2[j]? = m'[j]?) (hlen : m.length + 4 ≤ m2.length)
    (hma : m2[m.length + 1]? = some (.map (strM (gA t.l) ((t.l.take i).map (·.path)) ++ [(sV n.path, .agg (ndC n))])))
    (hml : ∃ ks g, m2[m.length + 2]? = some (.map (strM g ks)) ∧ Lnk (m.length + 4) ks g m2 (t.l.take i ++ [n])) : LkS m t (i + 1) m2 := by
  have htk : t.l.take (i + 1) = t.l.take i ++ [n] := by rw [List.take_add_one, hn]; rfl
  refine ⟨fun j hj => ?_, hlen, ?_, ?_, ?_, by rw [htk]; exact hml⟩
  · rw [hsame j (by omega) (by omega) (by omega)]; exact hL.old j hj
  · rw [hsame _ (by omega) (by omega) (by omega)]; exact hL.c2
  · rw [hma, strM_app hpn, htk, List.map_append]
    congr 3
    funext p
    unfold upd
    split
    · rename_i h; subst h; rw [gA, getL_of hs hn]; rfl
    · rfl
  · rw [hsame _ (by omega) (by omega) (by omega)]; exact hL.c3
theorem Lnk.app {b : Nat} {ks : List (List UInt8)} {g : List UInt8 → AV} {m m2 : Mem} {T : List Nd} {n : Nd} (hd : n.dir = false) {ι ν : List UInt8 → Nat} (nd : ks.Nodup) (out : ∀ f, f ∉ ks → lnks T f = [])
    (h3 : ∀ f ∈ ks, g f = .own (ι f) (ν f) 0 (lnks T f).length 1 ∧ b ≤ ι f ∧ m[ι f]? = some (.cells (ν f) ((lnks T f).map tx))) (h4 : ∀ f ∈ ks, ∀ f' ∈ ks, ι f = ι f' → f = f') (hks : n.first ∈ ks) {ver : Nat}
    (hm : ∀ i o, b ≤ i → i ≠ ι n.first → m[i]? = some o → m2[i]? = some o) (hm2 : m2[ι n.first]? = some (.cells ver ((lnks T n.first).map tx ++ [tx n.path]))) :
    Lnk b ks (upd g n.first (.own (ι n.first) ver 0 ((lnks T n.first).length + 1) 1)) m2 (T ++ [n]) := by
  have e : lnks (T ++ [n]) n.first = lnks T n.first ++ [n.path] := by rw [lnks_snoc, if_pos (by simp [hd])]
  have e2 : ∀ f, f ≠ n.first → lnks (T ++ [n]) f = lnks T f := fun f hf => by
    rw [lnks_snoc, if_neg (by simp [hd]; exact fun h => hf h.symm), List.append_nil]
  refine ⟨nd, fun f hf => ?_, ι, fun f => if f = n.first then ver else ν f, fun f hf => ?_, h4⟩
  · have : f ≠ n.first := by rintro rfl; exact hf hks
    rw [e2 f this]; exact out f hf
  · by_cases h : f = n.first
    · subst h
      rw [e]
      obtain ⟨_, a, _⟩ := h3 _ hf
      refine ⟨by simp [upd], a, ?_⟩
      rw [hm2]; simp
    · rw [e2 f h]
      obtain ⟨a, b', c⟩ := h3 _ hf
      refine ⟨by simp [upd, h, a], b', ?_⟩
      rw [hm _ _ b' (fun he => h (h4 _ hf _ hks he)) c]; simp [h]
theorem Lnk.new {b : Nat} {ks : List (List UInt8)} {g : List UInt8 → AV} {m m2 : Mem} {T : List Nd} {n : Nd} (hd : n.dir = false) (h : Lnk b ks g m T) (hks : n.first ∉ ks) {id ver : Nat} (hb : b ≤ id) (hid : m.length ≤ id)
    (hm : ∀ i o, b ≤ i → m[i]? = some o → m2[i]? = some o) (hm2 : m2[id]? = some (.cells ver [tx n.path])) :
    Lnk b (ks ++ [n.first]) (upd g n.first (.own id ver 0 1 1)) m2 (T ++ [n]) := by
  obtain ⟨nd, out, ι, ν, h3, h4⟩ := h
  have e : lnks (T ++ [n]) n.first = [n.path] := by rw [lnks_snoc, if_pos (by simp [hd]), out _ hks]; rfl
  have e2 : ∀ f, f ≠ n.first → lnks (T ++ [n]) f = lnks T f := fun f hf => by
    rw [lnks_snoc, if_neg (by simp [hd]; exact fun h => hf h.symm), List.append_nil]
  have hlt : ∀ f ∈ ks, ι f < m.length := fun f hf => (List.getElem?_eq_some_iff.1 (h3 f hf).2.2).1
  refine ⟨?_, fun f hf => ?_, fun f => if f = n.first then id else ι f, fun f => if f = n.first then ver else ν f, fun f hf => ?_, fun f hf f' hf' he => ?_⟩
  · rw [List.nodup_append]
    refine ⟨nd, by simp, fun a ha b hb => ?_⟩
    simp at hb; subst hb; rintro rfl; exact hks ha
  · simp only [List.mem_append, List.mem_singleton, not_or] at hf
    rw [e2 f hf.2]; exact out f hf.1
  · by_cases h : f = n.first
    · subst h
      rw [e]
      exact ⟨by simp [upd], by simpa using hb, by simpa using hm2⟩
    · rw [e2 f h]
      simp only [List.mem_append, List.mem_singleton, h, or_false] at hf
      obtain ⟨a, b', c⟩ := h3 _ hf
      refine ⟨by simp [upd, h, a], by simpa [h] using b', ?_⟩
      simp only [h, if_false]
      exact hm _ _ b' c
  · simp only [List.mem_append, List.mem_singleton] at hf hf'
    by_cases h : f = n.first <;> by_cases h' : f' = n.first
    · rw [h, h']
    · simp only [h, if_true, h', if_false] at he
      have := hlt f' (by simpa [h'] using hf'); omega
    · simp only [h', if_true, h, if_false] at he
      have := hlt f (by simpa [h] using hf); omega
    · simp only [h, if_false, h'] at he
      exact h4 _ (by simpa [h] using hf) _ (by simpa [h'] using hf') he
end
end Go.Proofs.YtcmjidnbbfcbjaaDoor.V
namespace Go.Proofs.YtcmjidnbbfcbjaaDoor.V.L1
open Go V
set_option linter.unusedVariables false
set_option linter.unusedSimpArgs false
set_option maxRecDepth 100000
set_option maxHeartbeats 4000000
noncomputable section
variable {en : Env} {m : Mem}
theorem look_ok (t : Sl Nd) (ht : FitT t.l) (hs : Srt t.l) (hf : Fits en m.length) (hb : en.bar ≤ m.length) : WC Tryd.prog pol en (.func 39) [slf ndC t] m fun v m' => v = .agg [slf ndC t, .mp (m.length + 1), .mp (m.length + 2)] ∧ ∃ m'', LkS m t t.l.length m'' ∧ m' = m''.set m.length (.cells (tagT 43) [slf ndC t, .mp (m.length + 1), .mp (m.length + 2)]) := by
  have htl := ht.len
  have hok : ∀ {id : Nat} {low : Nat → Bool}, m.length ≤ id → okTo en id low = True := fun h => okToO hf hb h
  refine callOpn Tryd.func39 rfl rfl Tryd.ntmps39 Tryd.results39 ?_
  (have hq1 : Dm := ⟨⟩; have hq2 : Dm := ⟨⟩; have hq3 : Dm := ⟨⟩; have hq4 : Dm := ⟨⟩; have hq5 : Dm := ⟨⟩; have hq6 : Dm := ⟨⟩) <;> (try simp -implicitDefEqProofs -dsimp (maxSteps := 2000000) (disch := (first | exact dz | fail)) only [go_sem, hok]) <;> (repeat' (first | ((with_reducible refine ds_and ?_ ?_); focus exact kz) | ((with_reducible refine And.intro ?_ ?_); focus exact oz) | ((with_reducible refine pc_and ?_ ?_); focus exact pz) | ((first | with_reducible refine gIf_t ?_ ?_ | with_reducible refine gIf_f ?_ ?_ | with_reducible refine ite_t ?_ ?_ | with_reducible refine ite_p ?_ ?_) <;> (first | (have z := (hq1 : Dm); clear z hq1; intro hq1; try simp only [noR] at hq1) | (have z := (hq2 : Dm); clear z hq2; intro hq2; try simp only [noR] at hq2) | (have z := (hq3 : Dm); clear z hq3; intro hq3; try simp only [noR] at hq3) | (have z := (hq4 : Dm); clear z hq4; intro hq4; try simp only [noR] at hq4) | (have z := (hq5 : Dm); clear z hq5; intro hq5; try simp only [noR] at hq5) | (have z := (hq6 : Dm); clear z hq6; intro hq6; try simp only [noR] at hq6)) <;> (try simp -implicitDefEqProofs -dsimp (maxSteps := 2000000) (disch := (first | exact dz | fail)) only [go_sem, hq6, hq5, hq4, hq3, hq2, hq1, hok])))) <;> (try with_reducible and_intros) <;> (first | exact fz | skip)
  refine loopF (fun k ts m' => ∃ (i : Nat), ts.length = 39 ∧ tg ts 2 = .ptr m.length (tagT 43) 0 ∧ tg ts 3 = .ptr (m.length + 3) (tagT 43) 0 ∧ tg ts 10 = slf ndC t ∧ tg ts 11 = I t.l.length ∧ tg ts 12 = I i ∧ LkS m t i m' ∧ i ≤ t.l.length ∧ k = t.l.length - i) t.l.length ⟨0, rfl, rfl, rfl, rfl, rfl, rfl, ?_, by omega, by omega⟩ ?_
  · refine ⟨fun j hj => List.getElem?_append_left hj, by simp, by rw [getM0]; rfl, by rw [getM]; rfl, by rw [getM]; rfl, [], fun _ => .nilP, by rw [getM]; rfl, Lnk.nil _ _ _⟩
  rintro k ts m' ⟨i, hl, h2, h3, h10, h11, h12, hL, hi, rfl⟩
  rw [expandT hl]
  have hlen := hL.len
  by_cases hlt : (i : Int) < (t.l.length : Int)
  · obtain ⟨n, hn⟩ : ∃ n, t.l[i]? = some n := ⟨_, List.getElem?_eq_getElem (by omega)⟩
    have hgn := getL_of hs hn
    have hpn : n.path ∉ (t.l.take i).map (·.path) := by
      intro h
      obtain ⟨a, ha, he⟩ := List.mem_map.1 h
      obtain ⟨j, hj⟩ := List.getElem?_of_mem ha
      have hj2 : j < i := by have := (List.getElem?_eq_some_iff.1 hj).1; simp at this; omega
      rw [List.getElem?_take, if_pos hj2] at hj
      exact ltB_ne (hs.get hj2 hj hn) he
    have hfo := findV_out (g := gA t.l) hpn
    have ha := hL.ma
    have hc3 := hL.c3
    obtain ⟨ks, g, hml, hR⟩ := hL.ml
    have htk : t.l.take (i + 1) = t.l.take i ++ [n] := by rw [List.take_add_one, hn]; rfl
    cases hd : n.dir with
    | true =>
      (have c1 : Dm := ⟨⟩; have c2 : Dm := ⟨⟩; have c3 : Dm := ⟨⟩; have c4 : Dm := ⟨⟩; have c5 : Dm := ⟨⟩; have c6 : Dm := ⟨⟩) <;> (try simp -implicitDefEqProofs -dsimp (maxSteps := 2000000) (disch := (first | exact dz | fail)) only [go_sem, h2, h3, h10, h11, h12, hlt, hn, hok, ha, hc3, hml, hd, hfo]) <;> (repeat' (first | ((with_reducible refine ds_and ?_ ?_); focus exact kz) | ((with_reducible refine And.intro ?_ ?_); focus exact oz) | ((with_reducible refine pc_and ?_ ?_); focus exact pz) | ((first | with_reducible refine gIf_t ?_ ?_ | with_reducible refine gIf_f ?_ ?_ | with_reducible refine ite_t ?_ ?_ | with_reducible refine ite_p ?_ ?_) <;> (first | (have z := (c1 : Dm); clear z c1; intro c1; try simp only [noR] at c1) | (have z := (c2 : Dm); clear z c2; intro c2; try simp only [noR] at c2) | (have z := (c3 : Dm); clear z c3; intro c3; try simp only [noR] at c3) | (have z := (c4 : Dm); clear z c4; intro c4; try simp only [noR] at c4) | (have z := (c5 : Dm); clear z c5; intro c5; try simp only [noR] at c5) | (have z := (c6 : Dm); clear z c6; intro c6; try simp only [noR] at c6)) <;> (try simp -implicitDefEqProofs -dsimp (maxSteps := 2000000) (disch := (first | exact dz | fail)) only [go_sem, c6, c5, c4, c3, c2, c1, h2, h3, h10, h11, h12, hlt, hn, hok, ha, hc3, hml, hd, hfo])))) <;> (try with_reducible and_intros) <;> (first | exact fz | skip)
      refine ⟨_, by omega, i + 1, rfl, hL.step hs hn hpn (fun j h1 h2 h3 => ?_) (by simp; omega) ?_ ⟨ks, g, ?_, hR.frame (fun f => ?_) fun j o h1 h2 => ?_⟩, by omega, rfl⟩
      · rw [List.getElem?_set_ne (by omega), List.getElem?_append_left (by omega)]
      · rw [List.getElem?_set_self (by simp; omega)]
        simp only [setV, ndC, hd]
      · rw [List.getElem?_set_ne (by omega), List.getElem?_append_left (by omega)]; exact hml
      · rw [lnks_snoc, if_neg (by simp [hd]), List.append_nil]
      · have := (List.getElem?_eq_some_iff.1 h2).1
        rw [List.getElem?_set_ne (by omega), List.getElem?_append_left (by omega)]; exact h2
    | false =>
      by_cases hks : n.first ∈ ks
      · obtain ⟨j, hj, hfi⟩ := findV_in (g := g) hks
        obtain ⟨ι, ν, hrow, hinj⟩ := hR.row
        obtain ⟨e1, e2, e3⟩ := hrow n.first hks
        have hil : ι n.first < m'.length := (List.getElem?_eq_some_iff.1 e3).1
        have hll : (lnks (t.l.take i) n.first).length ≤ 1048576 := by
          unfold lnks; rw [List.length_map]
          exact Nat.le_trans (List.length_filter_le _ _) (by rw [List.length_take]; omega)
        (have c1 : Dm := ⟨⟩; have c2 : Dm := ⟨⟩; have c3 : Dm := ⟨⟩; have c4 : Dm := ⟨⟩; have c5 : Dm := ⟨⟩; have c6 : Dm := ⟨⟩) <;> (try simp -implicitDefEqProofs -dsimp (maxSteps := 2000000) (disch := (first | exact dz | fail)) only [go_sem, h2, h3, h10, h11, h12, hlt, hn, hok, ha, hc3, hml, hd, hfo, hfi, e1, e3]) <;> (repeat' (first | ((with_reducible refine ds_and ?_ ?_); focus exact kz) | ((with_reducible refine And.intro ?_ ?_); focus exact oz) | ((first | with_reducible refine gIf_t ?_ ?_ | with_reducible refine gIf_f ?_ ?_ | with_reducible refine ite_t ?_ ?_ | with_reducible refine ite_p ?_ ?_) <;> (first | (have z := (c1 : Dm); clear z c1; intro c1; try simp only [noR] at c1) | (have z := (c2 : Dm); clear z c2; intro c2; try simp only [noR] at c2) | (have z := (c3 : Dm); clear z c3; intro c3; try simp only [noR] at c3) | (have z := (c4 : Dm); clear z c4; intro c4; try simp only [noR] at c4) | (have z := (c5 : Dm); clear z c5; intro c5; try simp only [noR] at c5) | (have z := (c6 : Dm); clear z c6; intro c6; try simp only [noR] at c6)) <;> (try simp -implicitDefEqProofs -dsimp (maxSteps := 2000000) (disch := (first | exact dz | fail)) only [go_sem, c6, c5, c4, c3, c2, c1, h2, h3, h10, h11, h12, hlt, hn, hok, ha, hc3, hml, hd, hfo, hfi, e1, e3])))) <;> (try with_reducible and_intros) <;> (first | exact fzb | skip)
        · obtain ⟨ρ, r0, r1, r2, r3⟩ := ren4 (m.length + 3) m'.length (m.length + 2) (ι n.first)
          have hρ := old4 (ml := m'.length + 1) r0 r1 r2 r3 (by omega) (by omega) (by omega) (by omega) (by omega) (by omega) (by omega) (by omega) (by omega) (by omega)
          simp only [← r0, ← r1, ← r2, ← r3] at hρ ⊢
          clear r0 r1 r2 r3
          revert ρ
          refine peace_injR ?_ ?_ ?_ <;> (first | kernel_rfl | (intro; kernel_rfl))
        · refine ⟨_, by omega, i + 1, rfl, hL.step hs hn hpn (fun j h1 h2 h3 => ?_) (by simp; omega) ?_ ⟨ks, _, ?_, hR.nd |> fun nd => Lnk.app (ver := nextV 10 (ν n.first)) hd nd hR.out hrow hinj hks (fun j o h1 h2 h3 => ?_) ?_⟩, by omega, rfl⟩
          · rw [List.getElem?_set_ne (by omega), List.getElem?_set_ne (by omega), List.getElem?_set_ne (by omega), List.getElem?_append_left (by omega)]
          · rw [List.getElem?_set_ne (by omega), List.getElem?_set_ne (by omega), List.getElem?_set_self (by simp; omega)]
            simp only [setV, ndC, hd]
          · rw [List.getElem?_set_self (by simp; omega)]
            simp only [setV]
            rw [strM_set hR.nd hj]
          · have := (List.getElem?_eq_some_iff.1 h3).1
            rw [List.getElem?_set_ne (by omega), List.getElem?_set_ne (by omega), List.getElem?_set_ne (by omega), List.getElem?_append_left (by omega)]; exact h3
          · rw [List.getElem?_set_ne (by omega), List.getElem?_set_self (by simp; omega)]
      · have hfi := findV_out (g := g) hks
        (have c1 : Dm := ⟨⟩; have c2 : Dm := ⟨⟩; have c3 : Dm := ⟨⟩; have c4 : Dm := ⟨⟩; have c5 : Dm := ⟨⟩; have c6 : Dm := ⟨⟩) <;> (try simp -implicitDefEqProofs -dsimp (maxSteps := 2000000) (disch := (first | exact dz | fail)) only [go_sem, h2, h3, h10, h11, h12, hlt, hn, hok, ha, hc3, hml, hd, hfo, hfi]) <;> (repeat' (first | ((with_reducible refine ds_and ?_ ?_); focus exact kz) | ((with_reducible refine And.intro ?_ ?_); focus exact oz) | ((first | with_reducible refine gIf_t ?_ ?_ | with_reducible refine gIf_f ?_ ?_ | with_reducible refine ite_t ?_ ?_ | with_reducible refine ite_p ?_ ?_) <;> (first | (have z := (c1 : Dm); clear z c1; intro c1; try simp only [noR] at c1) | (have z := (c2 : Dm); clear z c2; intro c2; try simp only [noR] at c2) | (have z := (c3 : Dm); clear z c3; intro c3; try simp only [noR] at c3) | (have z := (c4 : Dm); clear z c4; intro c4; try simp only [noR] at c4) | (have z := (c5 : Dm); clear z c5; intro c5; try simp only [noR] at c5) | (have z := (c6 : Dm); clear z c6; intro c6; try simp only [noR] at c6)) <;> (try simp -implicitDefEqProofs -dsimp (maxSteps := 2000000) (disch := (first | exact dz | fail)) only [go_sem, c6, c5, c4, c3, c2, c1, h2, h3, h10, h11, h12, hlt, hn, hok, ha, hc3, hml, hd, hfo, hfi])))) <;> (try with_reducible and_intros) <;> (first | exact fzb | skip)
        · obtain ⟨ρ, r0, r1, r2, r3⟩ := ren4 (m.length + 3) m'.length (m.length + 2) m.length
          have hρ := old4 (ml := m'.length + 1) r0 r1 r2 r3 (by omega) (by omega) (by omega) (by omega) (by omega) (by omega) (by omega) (by omega) (by omega) (by omega)
          simp only [← r0, ← r1, ← r2] at hρ ⊢
          clear r0 r1 r2 r3
          revert ρ
          refine peace_injR ?_ ?_ ?_ <;> (first | kernel_rfl | (intro; kernel_rfl))
        · refine ⟨_, by omega, i + 1, rfl, hL.step hs hn hpn (fun j h1 h2 h3 => ?_) (by simp; omega) ?_ ⟨ks ++ [n.first], _, ?_, Lnk.new (id := m'.length + 1) (ver := 10) hd hR hks (by omega) (by omega) (fun j o h1 h2 => ?_) ?_⟩, by omega, rfl⟩
          · rw [List.getElem?_set_ne (by omega), List.getElem?_append_left (by simp; omega), List.getElem?_set_ne (by omega), List.getElem?_append_left (by omega)]
          · rw [List.getElem?_set_ne (by omega), List.getElem?_append_left (by simp; omega), List.getElem?_set_self (by simp; omega)]
            simp only [setV, ndC, hd]
          · rw [List.getElem?_set_self (by simp; omega)]
            simp only [setV]
            rw [strM_app hks]
          · have := (List.getElem?_eq_some_iff.1 h2).1
            rw [List.getElem?_set_ne (by omega), List.getElem?_append_left (by simp; omega), List.getElem?_set_ne (by omega), List.getElem?_append_left (by omega)]; exact h2
          · rw [List.getElem?_set_ne (by omega), List.getElem?_append_right (by simp)]
            simp
  · have hie : i = t.l.length := by omega
    (have c1 : Dm := ⟨⟩; have c2 : Dm := ⟨⟩; have c3 : Dm := ⟨⟩; have c4 : Dm := ⟨⟩; have c5 : Dm := ⟨⟩; have c6 : Dm := ⟨⟩) <;> (try simp -implicitDefEqProofs -dsimp (maxSteps := 2000000) (disch := (first | exact dz | fail)) only [go_sem, h2, h3, h10, h11, h12, hlt, hok, hL.c3, hL.c2]) <;> (repeat' (first | ((with_reducible refine ds_and ?_ ?_); focus exact kz) | ((with_reducible refine And.intro ?_ ?_); focus exact oz) | ((with_reducible refine pc_and ?_ ?_); focus exact pz) | ((first | with_reducible refine gIf_t ?_ ?_ | with_reducible refine gIf_f ?_ ?_ | with_reducible refine ite_t ?_ ?_ | with_reducible refine ite_p ?_ ?_) <;> (first | (have z := (c1 : Dm); clear z c1; intro c1; try simp only [noR] at c1) | (have z := (c2 : Dm); clear z c2; intro c2; try simp only [noR] at c2) | (have z := (c3 : Dm); clear z c3; intro c3; try simp only [noR] at c3) | (have z := (c4 : Dm); clear z c4; intro c4; try simp only [noR] at c4) | (have z := (c5 : Dm); clear z c5; intro c5; try simp only [noR] at c5) | (have z := (c6 : Dm); clear z c6; intro c6; try simp only [noR] at c6)) <;> (try simp -implicitDefEqProofs -dsimp (maxSteps := 2000000) (disch := (first | exact dz | fail)) only [go_sem, c6, c5, c4, c3, c2, c1, h2, h3, h10, h11, h12, hlt, hok, hL.c3, hL.c2])))) <;> (try with_reducible and_intros) <;> (first | exact fz | skip)
    exact ⟨m', by rw [← hie]; exact hL, rfl⟩
end
end Go.Proofs.YtcmjidnbbfcbjaaDoor.V.L1
/- What is kept, of the program; no condition. -/
namespace Go.Proofs.YtcmjidnbbfcbjaaDoor.V
open Go
set_option linter.unusedVariables false
set_option linter.unusedSimpArgs false
set_option maxRecDepth 100000
set_option maxHeartbeats 4000000
noncomputable section
variable {en : Env} {m : Mem}
/-- A tree that was looked at. -/
structure Side (b : Nat) (M : Mem) (t : List Nd) (ia il : Nat) : Prop where
  ma : M[ia]? = some (.map (strM (gA t) (t.map (·.path))))
  ml : ∃ ks g, M[il]? = some (.map (strM g ks)) ∧ Lnk b ks g M t
  ba : b ≤ ia
  bl : b ≤ il
theorem Side.frame {b : Nat} {M M' : Mem} {t : List Nd} {ia il : Nat} (h : Side b M t ia il) (hm : ∀ i o, b ≤ i → M[i]? = some o → M'[i]? = some o) : Side b M' t ia il := by
  obtain ⟨h1, ⟨ks, g, h2, h3⟩, h4, h5⟩ := h
  exact ⟨hm _ _ h4 h1, ⟨ks, g, hm _ _ h5 h2, h3.frame (fun _ => rfl) hm⟩, h4, h5⟩
theorem Side.push {b : Nat} {M : Mem} {t : List Nd} {ia il : Nat} (h : Side b M t ia il) (l : Mem) : Side b (M ++ l) t ia il :=
  h.frame fun i o _ ho => by rw [List.getElem?_append_left (List.getElem?_eq_some_iff.1 ho).1]; exact ho
theorem Side.less {b b' : Nat} {M : Mem} {t : List Nd} {ia il : Nat} (h : Side b M t ia il) (hb : b' ≤ b) : Side b' M t ia il := by
  obtain ⟨h1, ⟨ks, g, h2, nd, out, ι, ν, h3, h3'⟩, h4, h5⟩ := h
  exact ⟨h1, ⟨ks, g, h2, nd, out, ι, ν, fun f hf => ⟨(h3 f hf).1, by have := (h3 f hf).2.1; omega, (h3 f hf).2.2⟩, h3'⟩, by omega, by omega⟩
theorem LkS.side {m : Mem} {t : Sl Nd} {m' : Mem} (h : LkS m t t.l.length m') : Side (m.length + 1) m' t.l (m.length + 1) (m.length + 2) := by
  obtain ⟨_, _, _, h1, _, ks, g, h2, h3⟩ := h
  rw [List.take_length] at h1 h3
  have : Side (m.length + 1) m' t.l (m.length + 1) (m.length + 2) := by
    obtain ⟨nd, out, ι, ν, h4, h5⟩ := h3
    exact ⟨h1, ⟨ks, g, h2, nd, out, ι, ν, fun f hf => ⟨(h4 f hf).1, by have := (h4 f hf).2.1; omega, (h4 f hf).2.2⟩, h5⟩, by omega, by omega⟩
  exact this
/-- 'findV' in a tree's map of paths. -/
theorem find_path {t : List Nd} (p : List UInt8) : findV .string (sV p) (strM (gA t) (t.map (·.path))) 0 = some ((getL t p).bind fun n => (List.findIdx? (fun k => decide (p = k)) (t.map (·.path))).map fun j => (j, .agg (ndC n))) := by
  cases hg : getL t p with
  | none =>
    rw [findV_out]
    · rfl
    · intro h
      obtain ⟨a, ha, he⟩ := List.mem_map.1 h
      exact getL_none hg a ha he
  | some n =>
    rw [findV_str]
    have : gA t p = .agg (ndC n) := by rw [gA, hg]; rfl
    simp [this]
theorem find_path_some {t : List Nd} {p : List UInt8} {n : Nd} (h : getL t p = some n) : ∃ j, findV .string (sV p) (strM (gA t) (t.map (·.path))) 0 = some (some (j, .agg (ndC n))) := by
  obtain ⟨h1, h2⟩ := getL_some h
  obtain ⟨j, _, hj⟩ := findV_in (g := gA t) (f := p) (ks := t.map (·.path)) (List.mem_map.2 ⟨n, h1, h2⟩)
  refine ⟨j, ?_⟩
  rw [hj, gA, h]; rfl
theorem find_path_none {t : List Nd} {p : List UInt8} (h : getL t p = none) : findV .string (sV p) (strM (gA t) (t.map (·.path))) 0 = some none := by
  rw [find_path, h]; rfl
theorem tf0 : (true == false) = false := rfl
theorem ft0 : (false == true) = false := rfl
def keepsB (a b : List Nd) (p : List UInt8) : Bool :=
  match getL a p, getL b p with
  | some x, some y => (x.dir == y.dir) && (x.dir || decide (lnks a x.first = lnks b y.first))
  | _, _ => false
theorem linksL_eq {t : List Nd} (h : rightL t = true) {p : List UInt8} {n : Nd} (hg : getL t p = some n) (hd : n.dir = false) : linksL t p = lnks t n.first := by
  rw [linksL, hg]
  simp only [hd, h, Bool.not_false, Bool.and_true, if_true]
  rfl
theorem keepsB_eq {a b : List Nd} (ha : rightL a = true) (hb : rightL b = true) (p : List UInt8) : keepsB a b p = keptB a b p := by
  unfold keepsB keptB
  cases hga : getL a p with
  | none => rfl
  | some x =>
    cases hgb : getL b p with
    | none => rfl
    | some y =>
      simp only
      cases hx : x.dir with
      | true => simp
      | false =>
        cases hy : y.dir with
        | true => simp
        | false => rw [linksL_eq ha hga hx, linksL_eq hb hgb hy]
end
end Go.Proofs.YtcmjidnbbfcbjaaDoor.V
namespace Go.Proofs.YtcmjidnbbfcbjaaDoor.V.L1
open Go V
set_option linter.unusedVariables false
set_option linter.unusedSimpArgs false
set_option maxRecDepth 100000
set_option maxHeartbeats 4000000
noncomputable section
variable {en : Env} {m : Mem}
theorem equalRows_ok {l1 l2 : List (List UInt8)} {i1 v1 i2 v2 : Nat} (h1 : m[i1]? = some (.cells v1 (l1.map tx))) (h2 : m[i2]? = some (.cells v2 (l2.map tx))) (hl1 : l1.length < 4294967296) (hf : Fits en m.length) :
    WC Tryd.prog pol en (.func 40) [.own i1 v1 0 l1.length 1, .own i2 v2 0 l2.length 1] m fun v m' => v = bo (decide (l1 = l2)) ∧ m' = m := by
  refine callPur Tryd.func40 rfl rfl Tryd.ntmps40 Tryd.results40 ?_
  (have hq1 : Dm := ⟨⟩; have hq2 : Dm := ⟨⟩; have hq3 : Dm := ⟨⟩; have hq4 : Dm := ⟨⟩; have hq5 : Dm := ⟨⟩; have hq6 : Dm := ⟨⟩) <;> (try simp -implicitDefEqProofs -dsimp (maxSteps := 2000000) (disch := (first | exact dz | fail)) only [go_sem, ]) <;> (repeat' (first | ((with_reducible refine ds_and ?_ ?_); focus exact kz) | ((with_reducible refine And.intro ?_ ?_); focus exact oz) | ((with_reducible refine pc_and ?_ ?_); focus exact pz) | ((first | with_reducible refine gIf_t ?_ ?_ | with_reducible refine gIf_f ?_ ?_ | with_reducible refine ite_t ?_ ?_ | with_reducible refine ite_p ?_ ?_) <;> (first | (have z := (hq1 : Dm); clear z hq1; intro hq1; try simp only [noR] at hq1) | (have z := (hq2 : Dm); clear z hq2; intro hq2; try simp only [noR] at hq2) | (have z := (hq3 : Dm); clear z hq3; intro hq3; try simp only [noR] at hq3) | (have z := (hq4 : Dm); clear z hq4; intro hq4; try simp only [noR] at hq4) | (have z := (hq5 : Dm); clear z hq5; intro hq5; try simp only [noR] at hq5) | (have z := (hq6 : Dm); clear z hq6; intro hq6; try simp only [noR] at hq6)) <;> (try simp -implicitDefEqProofs -dsimp (maxSteps := 2000000) (disch := (first | exact dz | fail)) only [go_sem, hq6, hq5, hq4, hq3, hq2, hq1])))) <;> (try with_reducible and_intros) <;> (first | exact fz | skip)
  · have : l1 ≠ l2 := fun e => by rw [e] at hq1; exact hq1 rfl
    simp [this]
  refine loopF (fun k ts m' => ∃ (i : Nat), ts.length = 26 ∧ tg ts 0 = .own i1 v1 0 l1.length 1 ∧ tg ts 1 = .own i2 v2 0 l2.length 1 ∧ tg ts 12 = I l2.length ∧ tg ts 13 = I i ∧ m' = m ∧ l1.take i = l2.take i ∧ i ≤ l1.length ∧ k = l1.length - i) l1.length ⟨0, rfl, rfl, rfl, rfl, rfl, rfl, rfl, by omega, by omega⟩ ?_
  rintro k ts m' ⟨i, hl, h0, h1', h12, h13, rfl, hg, hi, rfl⟩
  rw [expandT hl]
  by_cases hlt : (i : Int) < (l2.length : Int)
  · obtain ⟨a, ha⟩ : ∃ a, l1[i]? = some a := ⟨_, List.getElem?_eq_getElem (by omega)⟩
    obtain ⟨b, hb⟩ : ∃ b, l2[i]? = some b := ⟨_, List.getElem?_eq_getElem (by omega)⟩
    (have c1 : Dm := ⟨⟩; have c2 : Dm := ⟨⟩; have c3 : Dm := ⟨⟩; have c4 : Dm := ⟨⟩; have c5 : Dm := ⟨⟩; have c6 : Dm := ⟨⟩) <;> (try simp -implicitDefEqProofs -dsimp (maxSteps := 2000000) (disch := (first | exact dz | fail)) only [go_sem, h0, h1', h12, h13, hlt, h1, h2, List.getElem?_map, ha, hb]) <;> (repeat' (first | ((with_reducible refine ds_and ?_ ?_); focus exact kz) | ((with_reducible refine And.intro ?_ ?_); focus exact oz) | ((with_reducible refine pc_and ?_ ?_); focus exact pz) | ((first | with_reducible refine gIf_t ?_ ?_ | with_reducible refine gIf_f ?_ ?_ | with_reducible refine ite_t ?_ ?_ | with_reducible refine ite_p ?_ ?_) <;> (first | (have z := (c1 : Dm); clear z c1; intro c1; try simp only [noR] at c1) | (have z := (c2 : Dm); clear z c2; intro c2; try simp only [noR] at c2) | (have z := (c3 : Dm); clear z c3; intro c3; try simp only [noR] at c3) | (have z := (c4 : Dm); clear z c4; intro c4; try simp only [noR] at c4) | (have z := (c5 : Dm); clear z c5; intro c5; try simp only [noR] at c5) | (have z := (c6 : Dm); clear z c6; intro c6; try simp only [noR] at c6)) <;> (try simp -implicitDefEqProofs -dsimp (maxSteps := 2000000) (disch := (first | exact dz | fail)) only [go_sem, c6, c5, c4, c3, c2, c1, h0, h1', h12, h13, hlt, h1, h2, List.getElem?_map, ha, hb])))) <;> (try with_reducible and_intros) <;> (first | exact fz | skip)
    · have : l1 ≠ l2 := fun e => by rw [e, hb] at ha; cases ha; exact c1 rfl
      simp [this]
    · subst c1
      exact ⟨_, by omega, i + 1, rfl, take_eq_step ha hb hg, by omega, rfl⟩
  · (have c1 : Dm := ⟨⟩; have c2 : Dm := ⟨⟩; have c3 : Dm := ⟨⟩; have c4 : Dm := ⟨⟩; have c5 : Dm := ⟨⟩; have c6 : Dm := ⟨⟩) <;> (try simp -implicitDefEqProofs -dsimp (maxSteps := 2000000) (disch := (first | exact dz | fail)) only [go_sem, h0, h1', h12, h13, hlt]) <;> (repeat' (first | ((with_reducible refine ds_and ?_ ?_); focus exact kz) | ((with_reducible refine And.intro ?_ ?_); focus exact oz) | ((with_reducible refine pc_and ?_ ?_); focus exact pz) | ((first | with_reducible refine gIf_t ?_ ?_ | with_reducible refine gIf_f ?_ ?_ | with_reducible refine ite_t ?_ ?_ | with_reducible refine ite_p ?_ ?_) <;> (first | (have z := (c1 : Dm); clear z c1; intro c1; try simp only [noR] at c1) | (have z := (c2 : Dm); clear z c2; intro c2; try simp only [noR] at c2) | (have z := (c3 : Dm); clear z c3; intro c3; try simp only [noR] at c3) | (have z := (c4 : Dm); clear z c4; intro c4; try simp only [noR] at c4) | (have z := (c5 : Dm); clear z c5; intro c5; try simp only [noR] at c5) | (have z := (c6 : Dm); clear z c6; intro c6; try simp only [noR] at c6)) <;> (try simp -implicitDefEqProofs -dsimp (maxSteps := 2000000) (disch := (first | exact dz | fail)) only [go_sem, c6, c5, c4, c3, c2, c1, h0, h1', h12, h13, hlt])))) <;> (try with_reducible and_intros) <;> (first | exact fz | skip)
    simp [same_end hq1 (by omega) hg]
theorem keeps_ok (a b : List Nd) (sa sb : AV) (p : List UInt8) {c ia il ja jl : Nat} (hA : Side c m a ia il) (hB : Side c m b ja jl) (hal : a.length ≤ 1048576) (hsa : sa.leaf = true) (hsb : sb.leaf = true) (hf : Fits en m.length) :
    WC Tryd.prog pol en (.func 21) [.agg [sa, .mp ia, .mp il], tx p, .agg [sb, .mp ja, .mp jl]] m fun v m' => v = bo (keepsB a b p) ∧ m' = m := by
  have hma := hA.ma
  have hmb := hB.ma
  have hia : ia < m.length := (List.getElem?_eq_some_iff.1 hma).1
  have hib : ja < m.length := (List.getElem?_eq_some_iff.1 hmb).1
  obtain ⟨ka, gg, hla, hra⟩ := hA.ml
  obtain ⟨kb, gh, hlb, hrb⟩ := hB.ml
  have hila : il < m.length := (List.getElem?_eq_some_iff.1 hla).1
  have hilb : jl < m.length := (List.getElem?_eq_some_iff.1 hlb).1
  refine callPur Tryd.func21 rfl rfl Tryd.ntmps21 Tryd.results21 ?_
  cases hga : getL a p with
  | none =>
    have hfa := find_path_none hga
    cases hgb : getL b p with
    | none =>
      have hfb := find_path_none hgb
      (have hq1 : Dm := ⟨⟩; have hq2 : Dm := ⟨⟩; have hq3 : Dm := ⟨⟩; have hq4 : Dm := ⟨⟩; have hq5 : Dm := ⟨⟩; have hq6 : Dm := ⟨⟩) <;> (try simp -implicitDefEqProofs -dsimp (maxSteps := 2000000) (disch := (first | exact dz | fail)) only [go_sem, hsa, hsb, hma, hfa, hmb, hfb]) <;> (repeat' (first | ((with_reducible refine ds_and ?_ ?_); focus exact kz) | ((with_reducible refine And.intro ?_ ?_); focus exact oz) | ((with_reducible refine pc_and ?_ ?_); focus exact pz) | ((first | with_reducible refine gIf_t ?_ ?_ | with_reducible refine gIf_f ?_ ?_ | with_reducible refine ite_t ?_ ?_ | with_reducible refine ite_p ?_ ?_) <;> (first | (have z := (hq1 : Dm); clear z hq1; intro hq1; try simp only [noR] at hq1) | (have z := (hq2 : Dm); clear z hq2; intro hq2; try simp only [noR] at hq2) | (have z := (hq3 : Dm); clear z hq3; intro hq3; try simp only [noR] at hq3) | (have z := (hq4 : Dm); clear z hq4; intro hq4; try simp only [noR] at hq4) | (have z := (hq5 : Dm); clear z hq5; intro hq5; try simp only [noR] at hq5) | (have z := (hq6 : Dm); clear z hq6; intro hq6; try simp only [noR] at hq6)) <;> (try simp -implicitDefEqProofs -dsimp (maxSteps := 2000000) (disch := (first | exact dz | fail)) only [go_sem, hq6, hq5, hq4, hq3, hq2, hq1, hsa, hsb, hma, hfa, hmb, hfb])))) <;> (try with_reducible and_intros) <;> (first | exact fz | skip)
      simp [keepsB, hga]
    | some y =>
      obtain ⟨jb, hfb⟩ := find_path_some hgb
      (have hq1 : Dm := ⟨⟩; have hq2 : Dm := ⟨⟩; have hq3 : Dm := ⟨⟩; have hq4 : Dm := ⟨⟩; have hq5 : Dm := ⟨⟩; have hq6 : Dm := ⟨⟩) <;> (try simp -implicitDefEqProofs -dsimp (maxSteps := 2000000) (disch := (first | exact dz | fail)) only [go_sem, hsa, hsb, hma, hfa, hmb, hfb]) <;> (repeat' (first | ((with_reducible refine ds_and ?_ ?_); focus exact kz) | ((with_reducible refine And.intro ?_ ?_); focus exact oz) | ((with_reducible refine pc_and ?_ ?_); focus exact pz) | ((first | with_reducible refine gIf_t ?_ ?_ | with_reducible refine gIf_f ?_ ?_ | with_reducible refine ite_t ?_ ?_ | with_reducible refine ite_p ?_ ?_) <;> (first | (have z := (hq1 : Dm); clear z hq1; intro hq1; try simp only [noR] at hq1) | (have z := (hq2 : Dm); clear z hq2; intro hq2; try simp only [noR] at hq2) | (have z := (hq3 : Dm); clear z hq3; intro hq3; try simp only [noR] at hq3) | (have z := (hq4 : Dm); clear z hq4; intro hq4; try simp only [noR] at hq4) | (have z := (hq5 : Dm); clear z hq5; intro hq5; try simp only [noR] at hq5) | (have z := (hq6 : Dm); clear z hq6; intro hq6; try simp only [noR] at hq6)) <;> (try simp -implicitDefEqProofs -dsimp (maxSteps := 2000000) (disch := (first | exact dz | fail)) only [go_sem, hq6, hq5, hq4, hq3, hq2, hq1, hsa, hsb, hma, hfa, hmb, hfb])))) <;> (try with_reducible and_intros) <;> (first | exact fz | skip)
      simp [keepsB, hga]
  | some x =>
    obtain ⟨j1, hfa⟩ := find_path_some hga
    cases hgb : getL b p with
    | none =>
      have hfb := find_path_none hgb
      (have hq1 : Dm := ⟨⟩; have hq2 : Dm := ⟨⟩; have hq3 : Dm := ⟨⟩; have hq4 : Dm := ⟨⟩; have hq5 : Dm := ⟨⟩; have hq6 : Dm := ⟨⟩) <;> (try simp -implicitDefEqProofs -dsimp (maxSteps := 2000000) (disch := (first | exact dz | fail)) only [go_sem, hsa, hsb, hma, hfa, hmb, hfb]) <;> (repeat' (first | ((with_reducible refine ds_and ?_ ?_); focus exact kz) | ((with_reducible refine And.intro ?_ ?_); focus exact oz) | ((with_reducible refine pc_and ?_ ?_); focus exact pz) | ((first | with_reducible refine gIf_t ?_ ?_ | with_reducible refine gIf_f ?_ ?_ | with_reducible refine ite_t ?_ ?_ | with_reducible refine ite_p ?_ ?_) <;> (first | (have z := (hq1 : Dm); clear z hq1; intro hq1; try simp only [noR] at hq1) | (have z := (hq2 : Dm); clear z hq2; intro hq2; try simp only [noR] at hq2) | (have z := (hq3 : Dm); clear z hq3; intro hq3; try simp only [noR] at hq3) | (have z := (hq4 : Dm); clear z hq4; intro hq4; try simp only [noR] at hq4) | (have z := (hq5 : Dm); clear z hq5; intro hq5; try simp only [noR] at hq5) | (have z := (hq6 : Dm); clear z hq6; intro hq6; try simp only [noR] at hq6)) <;> (try simp -implicitDefEqProofs -dsimp (maxSteps := 2000000) (disch := (first | exact dz | fail)) only [go_sem, hq6, hq5, hq4, hq3, hq2, hq1, hsa, hsb, hma, hfa, hmb, hfb])))) <;> (try with_reducible and_intros) <;> (first | exact fz | skip)
      simp [keepsB, hga, hgb]
    | some y =>
      obtain ⟨j2, hfb⟩ := find_path_some hgb
      have hk : keepsB a b p = ((x.dir == y.dir) && (x.dir || decide (lnks a x.first = lnks b y.first))) := by rw [keepsB, hga, hgb]
      rw [hk]
      cases hx : x.dir with
      | true =>
        cases hy : y.dir with
        | true =>
          (have hq1 : Dm := ⟨⟩; have hq2 : Dm := ⟨⟩; have hq3 : Dm := ⟨⟩; have hq4 : Dm := ⟨⟩; have hq5 : Dm := ⟨⟩; have hq6 : Dm := ⟨⟩) <;> (try simp -implicitDefEqProofs -dsimp (maxSteps := 2000000) (disch := (first | exact dz | fail)) only [go_sem, hsa, hsb, hma, hfa, hmb, hfb, hx, hy, beq_self_eq_true]) <;> (repeat' (first | ((with_reducible refine ds_and ?_ ?_); focus exact kz) | ((with_reducible refine And.intro ?_ ?_); focus exact oz) | ((with_reducible refine pc_and ?_ ?_); focus exact pz) | ((first | with_reducible refine gIf_t ?_ ?_ | with_reducible refine gIf_f ?_ ?_ | with_reducible refine ite_t ?_ ?_ | with_reducible refine ite_p ?_ ?_) <;> (first | (have z := (hq1 : Dm); clear z hq1; intro hq1; try simp only [noR] at hq1) | (have z := (hq2 : Dm); clear z hq2; intro hq2; try simp only [noR] at hq2) | (have z := (hq3 : Dm); clear z hq3; intro hq3; try simp only [noR] at hq3) | (have z := (hq4 : Dm); clear z hq4; intro hq4; try simp only [noR] at hq4) | (have z := (hq5 : Dm); clear z hq5; intro hq5; try simp only [noR] at hq5) | (have z := (hq6 : Dm); clear z hq6; intro hq6; try simp only [noR] at hq6)) <;> (try simp -implicitDefEqProofs -dsimp (maxSteps := 2000000) (disch := (first | exact dz | fail)) only [go_sem, hq6, hq5, hq4, hq3, hq2, hq1, hsa, hsb, hma, hfa, hmb, hfb, hx, hy, beq_self_eq_true])))) <;> (try with_reducible and_intros) <;> (first | exact fz | skip)
          simp
        | false =>
          (have hq1 : Dm := ⟨⟩; have hq2 : Dm := ⟨⟩; have hq3 : Dm := ⟨⟩; have hq4 : Dm := ⟨⟩; have hq5 : Dm := ⟨⟩; have hq6 : Dm := ⟨⟩) <;> (try simp -implicitDefEqProofs -dsimp (maxSteps := 2000000) (disch := (first | exact dz | fail)) only [go_sem, hsa, hsb, hma, hfa, hmb, hfb, hx, hy, tf0]) <;> (repeat' (first | ((with_reducible refine ds_and ?_ ?_); focus exact kz) | ((with_reducible refine And.intro ?_ ?_); focus exact oz) | ((with_reducible refine pc_and ?_ ?_); focus exact pz) | ((first | with_reducible refine gIf_t ?_ ?_ | with_reducible refine gIf_f ?_ ?_ | with_reducible refine ite_t ?_ ?_ | with_reducible refine ite_p ?_ ?_) <;> (first | (have z := (hq1 : Dm); clear z hq1; intro hq1; try simp only [noR] at hq1) | (have z := (hq2 : Dm); clear z hq2; intro hq2; try simp only [noR] at hq2) | (have z := (hq3 : Dm); clear z hq3; intro hq3; try simp only [noR] at hq3) | (have z := (hq4 : Dm); clear z hq4; intro hq4; try simp only [noR] at hq4) | (have z := (hq5 : Dm); clear z hq5; intro hq5; try simp only [noR] at hq5) | (have z := (hq6 : Dm); clear z hq6; intro hq6; try simp only [noR] at hq6)) <;> (try simp -implicitDefEqProofs -dsimp (maxSteps := 2000000) (disch := (first | exact dz | fail)) only [go_sem, hq6, hq5, hq4, hq3, hq2, hq1, hsa, hsb, hma, hfa, hmb, hfb, hx, hy, tf0])))) <;> (try with_reducible and_intros) <;> (first | exact fz | skip)
          simp
      | false =>
        cases hy : y.dir with
        | true =>
          (have hq1 : Dm := ⟨⟩; have hq2 : Dm := ⟨⟩; have hq3 : Dm := ⟨⟩; have hq4 : Dm := ⟨⟩; have hq5 : Dm := ⟨⟩; have hq6 : Dm := ⟨⟩) <;> (try simp -implicitDefEqProofs -dsimp (maxSteps := 2000000) (disch := (first | exact dz | fail)) only [go_sem, hsa, hsb, hma, hfa, hmb, hfb, hx, hy, ft0]) <;> (repeat' (first | ((with_reducible refine ds_and ?_ ?_); focus exact kz) | ((with_reducible refine And.intro ?_ ?_); focus exact oz) | ((with_reducible refine pc_and ?_ ?_); focus exact pz) | ((first | with_reducible refine gIf_t ?_ ?_ | with_reducible refine gIf_f ?_ ?_ | with_reducible refine ite_t ?_ ?_ | with_reducible refine ite_p ?_ ?_) <;> (first | (have z := (hq1 : Dm); clear z hq1; intro hq1; try simp only [noR] at hq1) | (have z := (hq2 : Dm); clear z hq2; intro hq2; try simp only [noR] at hq2) | (have z := (hq3 : Dm); clear z hq3; intro hq3; try simp only [noR] at hq3) | (have z := (hq4 : Dm); clear z hq4; intro hq4; try simp only [noR] at hq4) | (have z := (hq5 : Dm); clear z hq5; intro hq5; try simp only [noR] at hq5) | (have z := (hq6 : Dm); clear z hq6; intro hq6; try simp only [noR] at hq6)) <;> (try simp -implicitDefEqProofs -dsimp (maxSteps := 2000000) (disch := (first | exact dz | fail)) only [go_sem, hq6, hq5, hq4, hq3, hq2, hq1, hsa, hsb, hma, hfa, hmb, hfb, hx, hy, ft0])))) <;> (try with_reducible and_intros) <;> (first | exact fz | skip)
          simp
        | false =>
          have mem : ∀ (t : List Nd) (n : Nd), getL t p = some n → n.dir = false → lnks t n.first ≠ [] := by
            intro t n h hd he
            have : n.path ∈ lnks t n.first := List.mem_map.2 ⟨n, List.mem_filter.2 ⟨(getL_some h).1, by simp [hd]⟩, rfl⟩
            rw [he] at this; simp at this
          have hxk : x.first ∈ ka := Classical.byContradiction fun h => mem a x hga hx (hra.out _ h)
          have hyk : y.first ∈ kb := Classical.byContradiction fun h => mem b y hgb hy (hrb.out _ h)
          obtain ⟨q1, _, hf1⟩ := findV_in (g := gg) hxk
          obtain ⟨q2, _, hf2⟩ := findV_in (g := gh) hyk
          obtain ⟨ιa, νa, hrow1, _⟩ := hra.row
          obtain ⟨ιb, νb, hrow2, _⟩ := hrb.row
          obtain ⟨r1, _, r1'⟩ := hrow1 _ hxk
          obtain ⟨r2, _, r2'⟩ := hrow2 _ hyk
          have hll : (lnks a x.first).length < 4294967296 := by
            unfold lnks; rw [List.length_map]
            exact Nat.lt_of_le_of_lt (List.length_filter_le _ _) (by omega)
          have heq := fun (l : Mem) (en : Env) Q (hf : Fits en (m ++ l).length) => (equalRows_ok (m := m ++ l) (en := en) (l1 := lnks a x.first) (l2 := lnks b y.first) (by rw [List.getElem?_append_left (List.getElem?_eq_some_iff.1 r1').1]; exact r1') (by rw [List.getElem?_append_left (List.getElem?_eq_some_iff.1 r2').1]; exact r2') hll hf).rule Q
          (have hq1 : Dm := ⟨⟩; have hq2 : Dm := ⟨⟩; have hq3 : Dm := ⟨⟩; have hq4 : Dm := ⟨⟩; have hq5 : Dm := ⟨⟩; have hq6 : Dm := ⟨⟩) <;> (try simp -implicitDefEqProofs -dsimp (maxSteps := 2000000) (disch := (first | exact dz | fail)) only [go_sem, hsa, hsb, hma, hfa, hmb, hfb, hx, hy, beq_self_eq_true, hla, hlb, hf1, hf2, r1, r2, heq]) <;> (repeat' (first | ((with_reducible refine ds_and ?_ ?_); focus exact kz) | ((with_reducible refine And.intro ?_ ?_); focus exact oz) | ((with_reducible refine pc_and ?_ ?_); focus exact pz) | ((first | with_reducible refine gIf_t ?_ ?_ | with_reducible refine gIf_f ?_ ?_ | with_reducible refine ite_t ?_ ?_ | with_reducible refine ite_p ?_ ?_) <;> (first | (have z := (hq1 : Dm); clear z hq1; intro hq1; try simp only [noR] at hq1) | (have z := (hq2 : Dm); clear z hq2; intro hq2; try simp only [noR] at hq2) | (have z := (hq3 : Dm); clear z hq3; intro hq3; try simp only [noR] at hq3) | (have z := (hq4 : Dm); clear z hq4; intro hq4; try simp only [noR] at hq4) | (have z := (hq5 : Dm); clear z hq5; intro hq5; try simp only [noR] at hq5) | (have z := (hq6 : Dm); clear z hq6; intro hq6; try simp only [noR] at hq6)) <;> (try simp -implicitDefEqProofs -dsimp (maxSteps := 2000000) (disch := (first | exact dz | fail)) only [go_sem, hq6, hq5, hq4, hq3, hq2, hq1, hsa, hsb, hma, hfa, hmb, hfb, hx, hy, beq_self_eq_true, hla, hlb, hf1, hf2, r1, r2, heq])))) <;> (try with_reducible and_intros) <;> (first | exact fz | skip)
          simp
/-- Two trees that were looked at; nothing of what was there is written. -/
structure Both (m : Mem) (a b : Sl Nd) (v : AV) (m' : Mem) : Prop where
  old : ∀ j, j < m.length → m'[j]? = m[j]?
  len : m.length ≤ m'.length
  no : (rightL a.l && rightL b.l) = false → v = .tup [.agg [.nilS, .nilM, .nilM], .agg [.nilS, .nilM, .nilM], bo false]
  yes : (rightL a.l && rightL b.l) = true → ∃ ia il ja jl, v = .tup [.agg [slf ndC a, .mp ia, .mp il], .agg [slf ndC b, .mp ja, .mp jl], bo true] ∧ Side m.length m' a.l ia il ∧ Side m.length m' b.l ja jl
theorem both_ok (a b : Sl Nd) (ha : FitT a.l) (hb : FitT b.l) (hf : Fits en m.length) (hbar : en.bar ≤ m.length) : WC Tryd.prog pol en (.func 20) [slf ndC a, slf ndC b] m fun v m' => Both m a b v m' := by
  have hra := fun (en : Env) (m : Mem) Q (hf : Fits en m.length) => (treeRight_ok (m := m) (en := en) a ha hf).rule Q
  have hrb := fun (en : Env) (m : Mem) Q (hf : Fits en m.length) => (treeRight_ok (m := m) (en := en) b hb hf).rule Q
  have hok : ∀ {id : Nat} {low : Nat → Bool}, m.length ≤ id → okTo en id low = True := fun h => okToO hf hbar h
  refine callOpn Tryd.func20 rfl rfl Tryd.ntmps20 Tryd.results20 ?_
  (have hq1 : Dm := ⟨⟩; have hq2 : Dm := ⟨⟩; have hq3 : Dm := ⟨⟩; have hq4 : Dm := ⟨⟩; have hq5 : Dm := ⟨⟩; have hq6 : Dm := ⟨⟩) <;> (try simp -implicitDefEqProofs -dsimp (maxSteps := 2000000) (disch := (first | exact dz | fail)) only [go_sem, hra, hrb, hok]) <;> (repeat' (first | ((with_reducible refine ds_and ?_ ?_); focus exact kz) | ((with_reducible refine And.intro ?_ ?_); focus exact oz) | ((with_reducible refine pc_and ?_ ?_); focus exact pz) | ((first | with_reducible refine gIf_t ?_ ?_ | with_reducible refine gIf_f ?_ ?_ | with_reducible refine ite_t ?_ ?_ | with_reducible refine ite_p ?_ ?_) <;> (first | (have z := (hq1 : Dm); clear z hq1; intro hq1; try simp only [noR] at hq1) | (have z := (hq2 : Dm); clear z hq2; intro hq2; try simp only [noR] at hq2) | (have z := (hq3 : Dm); clear z hq3; intro hq3; try simp only [noR] at hq3) | (have z := (hq4 : Dm); clear z hq4; intro hq4; try simp only [noR] at hq4) | (have z := (hq5 : Dm); clear z hq5; intro hq5; try simp only [noR] at hq5) | (have z := (hq6 : Dm); clear z hq6; intro hq6; try simp only [noR] at hq6)) <;> (try simp -implicitDefEqProofs -dsimp (maxSteps := 2000000) (disch := (first | exact dz | fail)) only [go_sem, hq6, hq5, hq4, hq3, hq2, hq1, hra, hrb, hok])))) <;> (try with_reducible and_intros) <;> (first | exact fz | skip)
  · exact ⟨fun j hj => List.getElem?_append_left hj, by simp, fun _ => rfl, fun h => by simp [hq1] at h⟩
  · exact ⟨fun j hj => List.getElem?_append_left hj, by simp, fun _ => rfl, fun h => by simp [hq2] at h⟩
  generalize hM0 : m ++ [Ob.cells (tagT 43) [.nilS, .nilM, .nilM], Ob.cells (tagT 43) [.nilS, .nilM, .nilM]] = M0
  have hM0l : M0.length = m.length + 2 := by rw [← hM0]; simp
  refine (look_ok a ha (right_srt hq1) (hf.up (by omega)) (by omega)).mono ?_
  rintro v1 m1 ⟨rfl, m1', hL1, rfl⟩
  simp -implicitDefEqProofs -dsimp (maxSteps := 2000000) (disch := (first | exact dz | fail)) only [go_sem, ]
  have hl1 := hL1.len
  refine (look_ok b hb (right_srt hq2) (hf.up (by simp; omega)) (by simp; omega)).mono ?_
  rintro v2 m2 ⟨rfl, m2', hL2, rfl⟩
  have hl2 := hL2.len
  rw [List.length_set] at hl2
  have g0 : M0[m.length]? = some (.cells (tagT 43) [.nilS, .nilM, .nilM]) := by rw [← hM0, getM0]; rfl
  have g1 : M0[m.length + 1]? = some (.cells (tagT 43) [.nilS, .nilM, .nilM]) := by rw [← hM0, getM]; rfl
  have k0 : m2'[m.length]? = some (.cells (tagT 43) [.nilS, .nilM, .nilM]) := by
    rw [hL2.old _ (by simp; omega), List.getElem?_set_ne (by omega), hL1.old _ (by omega)]; exact g0
  have k1 : m2'[m.length + 1]? = some (.cells (tagT 43) [.nilS, .nilM, .nilM]) := by
    rw [hL2.old _ (by simp; omega), List.getElem?_set_ne (by omega), hL1.old _ (by omega)]; exact g1
  simp only [hM0l, List.length_set] at hl1 hl2 ⊢
  (have w1 : Dm := ⟨⟩; have w2 : Dm := ⟨⟩; have w3 : Dm := ⟨⟩; have w4 : Dm := ⟨⟩; have w5 : Dm := ⟨⟩; have w6 : Dm := ⟨⟩) <;> (try simp -implicitDefEqProofs -dsimp (maxSteps := 2000000) (disch := (first | exact dz | fail)) only [go_sem, hok, k0, k1]) <;> (repeat' (first | ((with_reducible refine ds_and ?_ ?_); focus exact kz) | ((with_reducible refine And.intro ?_ ?_); focus exact oz) | ((with_reducible refine pc_and ?_ ?_); focus exact pz) | ((first | with_reducible refine gIf_t ?_ ?_ | with_reducible refine gIf_f ?_ ?_ | with_reducible refine ite_t ?_ ?_ | with_reducible refine ite_p ?_ ?_) <;> (first | (have z := (w1 : Dm); clear z w1; intro w1; try simp only [noR] at w1) | (have z := (w2 : Dm); clear z w2; intro w2; try simp only [noR] at w2) | (have z := (w3 : Dm); clear z w3; intro w3; try simp only [noR] at w3) | (have z := (w4 : Dm); clear z w4; intro w4; try simp only [noR] at w4) | (have z := (w5 : Dm); clear z w5; intro w5; try simp only [noR] at w5) | (have z := (w6 : Dm); clear z w6; intro w6; try simp only [noR] at w6)) <;> (try simp -implicitDefEqProofs -dsimp (maxSteps := 2000000) (disch := (first | exact dz | fail)) only [go_sem, w6, w5, w4, w3, w2, w1, hok, k0, k1])))) <;> (try with_reducible and_intros) <;> (first | exact fz | skip)
  refine ⟨fun j hj => ?_, by simp; omega, fun h => by simp [hq1, hq2] at h, fun _ => ⟨_, _, _, _, rfl, ?_, ?_⟩⟩
  · rw [List.getElem?_set_ne (by omega), List.getElem?_set_ne (by omega), List.getElem?_set_ne (by omega), hL2.old _ (by simp; omega), List.getElem?_set_ne (by omega), hL1.old _ (by omega), ← hM0, List.getElem?_append_left hj]
  · have h1 := hL1.side
    rw [hM0l] at h1
    refine (h1.frame fun i o hi ho => ?_).less (by omega)
    have := (List.getElem?_eq_some_iff.1 ho).1
    rw [List.getElem?_set_ne (by omega), List.getElem?_set_ne (by omega), List.getElem?_set_ne (by omega), hL2.old _ (by simp; omega), List.getElem?_set_ne (by omega)]
    exact ho
  · have h1 := hL2.side
    rw [List.length_set] at h1
    refine (h1.frame fun i o hi ho => ?_).less (by omega)
    rw [List.getElem?_set_ne (by omega), List.getElem?_set_ne (by omega), List.getElem?_set_ne (by omega)]
    exact ho
end
end Go.Proofs.YtcmjidnbbfcbjaaDoor.V.L1
/- Kept, Size of the program; no condition. -/
namespace Go.Proofs.YtcmjidnbbfcbjaaDoor.V
open Go
set_option linter.unusedVariables false
set_option linter.unusedSimpArgs false
set_option maxRecDepth 100000
set_option maxHeartbeats 4000000
noncomputable section
variable {en : Env} {m : Mem}
theorem keeps_filter {a b : List Nd} (ha : rightL a = true) (hb : rightL b = true) : (a.filter fun n => keepsB a b n.path) = a.filter fun n => keptB a b n.path := by
  congr 1; funext n; exact keepsB_eq ha hb n.path
end
end Go.Proofs.YtcmjidnbbfcbjaaDoor.V
namespace Go.Proofs.YtcmjidnbbfcbjaaDoor.V.L1
open Go V
set_option linter.unusedVariables false
set_option linter.unusedSimpArgs false
set_option maxRecDepth 100000
set_option maxHeartbeats 4000000
noncomputable section
variable {en : Env} {m : Mem}
theorem kept0_ok (a b : Sl Nd) (ha : FitT a.l) (hb : FitT b.l) (hf : Fits en m.length) : WC Tryd.prog pol en (.func 8) [slf ndC a, slf ndC b] m fun v m' => v = keptA (rightL a.l && rightL b.l) (keptL a.l b.l) ∧ m' = m := by
  have hal := ha.len
  refine callPur Tryd.func8 rfl rfl Tryd.ntmps8 Tryd.results8 ?_
  simp -implicitDefEqProofs -dsimp (maxSteps := 2000000) (disch := (first | exact dz | fail)) only [go_sem, ]
  refine (both_ok a b ha hb hf.pur (Nat.le_refl _)).mono ?_
  rintro v M hB
  have hMl := hB.len
  cases hr : (rightL a.l && rightL b.l) with
  | false =>
    rw [hB.no hr]
    (have hq1 : Dm := ⟨⟩; have hq2 : Dm := ⟨⟩; have hq3 : Dm := ⟨⟩; have hq4 : Dm := ⟨⟩; have hq5 : Dm := ⟨⟩; have hq6 : Dm := ⟨⟩) <;> (try simp -implicitDefEqProofs -dsimp (maxSteps := 2000000) (disch := (first | exact dz | fail)) only [go_sem, ]) <;> (repeat' (first | ((with_reducible refine ds_and ?_ ?_); focus exact kz) | ((with_reducible refine And.intro ?_ ?_); focus exact oz) | ((with_reducible refine pc_and ?_ ?_); focus exact pz) | ((first | with_reducible refine gIf_t ?_ ?_ | with_reducible refine gIf_f ?_ ?_ | with_reducible refine ite_t ?_ ?_ | with_reducible refine ite_p ?_ ?_) <;> (first | (have z := (hq1 : Dm); clear z hq1; intro hq1; try simp only [noR] at hq1) | (have z := (hq2 : Dm); clear z hq2; intro hq2; try simp only [noR] at hq2) | (have z := (hq3 : Dm); clear z hq3; intro hq3; try simp only [noR] at hq3) | (have z := (hq4 : Dm); clear z hq4; intro hq4; try simp only [noR] at hq4) | (have z := (hq5 : Dm); clear z hq5; intro hq5; try simp only [noR] at hq5) | (have z := (hq6 : Dm); clear z hq6; intro hq6; try simp only [noR] at hq6)) <;> (try simp -implicitDefEqProofs -dsimp (maxSteps := 2000000) (disch := (first | exact dz | fail)) only [go_sem, hq6, hq5, hq4, hq3, hq2, hq1])))) <;> (try with_reducible and_intros) <;> (first | exact fz | skip)
    simp [keptA]
  | true =>
    obtain ⟨ia, il, ja, jl, rfl, hSA, hSB⟩ := hB.yes hr
    (have hq1 : Dm := ⟨⟩; have hq2 : Dm := ⟨⟩; have hq3 : Dm := ⟨⟩; have hq4 : Dm := ⟨⟩; have hq5 : Dm := ⟨⟩; have hq6 : Dm := ⟨⟩) <;> (try simp -implicitDefEqProofs -dsimp (maxSteps := 2000000) (disch := (first | exact dz | fail)) only [go_sem, ]) <;> (repeat' (first | ((with_reducible refine ds_and ?_ ?_); focus exact kz) | ((with_reducible refine And.intro ?_ ?_); focus exact oz) | ((with_reducible refine pc_and ?_ ?_); focus exact pz) | ((first | with_reducible refine gIf_t ?_ ?_ | with_reducible refine gIf_f ?_ ?_ | with_reducible refine ite_t ?_ ?_ | with_reducible refine ite_p ?_ ?_) <;> (first | (have z := (hq1 : Dm); clear z hq1; intro hq1; try simp only [noR] at hq1) | (have z := (hq2 : Dm); clear z hq2; intro hq2; try simp only [noR] at hq2) | (have z := (hq3 : Dm); clear z hq3; intro hq3; try simp only [noR] at hq3) | (have z := (hq4 : Dm); clear z hq4; intro hq4; try simp only [noR] at hq4) | (have z := (hq5 : Dm); clear z hq5; intro hq5; try simp only [noR] at hq5) | (have z := (hq6 : Dm); clear z hq6; intro hq6; try simp only [noR] at hq6)) <;> (try simp -implicitDefEqProofs -dsimp (maxSteps := 2000000) (disch := (first | exact dz | fail)) only [go_sem, hq6, hq5, hq4, hq3, hq2, hq1])))) <;> (try with_reducible and_intros) <;> (first | exact fz | skip)
    have hR := hr
    rw [Bool.and_eq_true] at hR
    obtain ⟨hra, hrb⟩ := hR
    generalize hM2 : M ++ [Ob.cells (tagT 43) [slf ndC a, .mp ia, .mp il], Ob.cells (tagT 43) [slf ndC b, .mp ja, .mp jl]] = M2
    have hM2l : M2.length = M.length + 2 := by rw [← hM2]; simp
    have g0 : M2[M.length]? = some (.cells (tagT 43) [slf ndC a, .mp ia, .mp il]) := by rw [← hM2, getM0]; rfl
    have g1 : M2[M.length + 1]? = some (.cells (tagT 43) [slf ndC b, .mp ja, .mp jl]) := by rw [← hM2, getM]; rfl
    have hS : Side m.length M2 a.l ia il ∧ Side m.length M2 b.l ja jl := by rw [← hM2]; exact ⟨hSA.push _, hSB.push _⟩
    refine loopF (fun k ts m' => ∃ (i : Nat) (v : AV), ts.length = 39 ∧ tg ts 6 = .ptr M.length (tagT 43) 0 ∧ tg ts 7 = .ptr (M.length + 1) (tagT 43) 0 ∧ tg ts 9 = kv v ∧ tg ts 21 = slf ndC a ∧ tg ts 22 = I a.l.length ∧ tg ts 23 = I i ∧
      RW1 tx (M.length + 2) (((a.l.take i).filter (fun n => keptB a.l b.l n.path)).map (·.path)) v m' ∧ (∀ j, j < M.length + 2 → m'[j]? = M2[j]?) ∧ i ≤ a.l.length ∧ k = a.l.length - i) a.l.length ⟨0, _, rfl, rfl, rfl, rfl, rfl, rfl, rfl, RW1.nil (by omega), fun _ _ => rfl, by omega, by omega⟩ ?_
    rintro k ts m' ⟨i, v, hl, h6, h7, h9, h21, h22, h23, hr', hold, hi, rfl⟩
    rw [expandT hl]
    have hle := hr'.le
    have hfl := filterLe a.l i (fun n => keptB a.l b.l n.path)
    have k0 : m'[M.length]? = some (.cells (tagT 43) [slf ndC a, .mp ia, .mp il]) := by rw [hold _ (by omega)]; exact g0
    have k1 : m'[M.length + 1]? = some (.cells (tagT 43) [slf ndC b, .mp ja, .mp jl]) := by rw [hold _ (by omega)]; exact g1
    have hlt2 : ∀ i o, M2[i]? = some o → m'[i]? = some o := fun i o h => by
      have := (List.getElem?_eq_some_iff.1 h).1
      rw [hold i (by omega)]; exact h
    have hA := hS.1.frame fun i o _ h => hlt2 i o h
    have hBb := hS.2.frame fun i o _ h => hlt2 i o h
    by_cases hlt : (i : Int) < (a.l.length : Int)
    · obtain ⟨x, hx⟩ : ∃ x, a.l[i]? = some x := ⟨_, List.getElem?_eq_getElem (by omega)⟩
      have hst := filter_step hx (fun n => keptB a.l b.l n.path)
      have hk := fun (l : Mem) (en : Env) Q (hf : Fits en (m' ++ l).length) => (keeps_ok (m := m' ++ l) (en := en) a.l b.l (slf ndC a) (slf ndC b) x.path (hA.push l) (hBb.push l) hal (leaf_slf _ _) (leaf_slf _ _) hf).rule Q
      simp only [keepsB_eq hra hrb] at hk
      (have c1 : Dm := ⟨⟩; have c2 : Dm := ⟨⟩; have c3 : Dm := ⟨⟩; have c4 : Dm := ⟨⟩; have c5 : Dm := ⟨⟩; have c6 : Dm := ⟨⟩) <;> (try simp -implicitDefEqProofs -dsimp (maxSteps := 2000000) (disch := (first | exact dz | fail)) only [go_sem, h6, h7, h9, h21, h22, h23, hlt, hx, k0, k1, hk]) <;> (repeat' (first | ((with_reducible refine ds_and ?_ ?_); focus exact kz) | ((with_reducible refine And.intro ?_ ?_); focus exact oz) | ((with_reducible refine pc_and ?_ ?_); focus exact pz) | ((first | with_reducible refine gIf_t ?_ ?_ | with_reducible refine gIf_f ?_ ?_ | with_reducible refine ite_t ?_ ?_ | with_reducible refine ite_p ?_ ?_) <;> (first | (have z := (c1 : Dm); clear z c1; intro c1; try simp only [noR] at c1) | (have z := (c2 : Dm); clear z c2; intro c2; try simp only [noR] at c2) | (have z := (c3 : Dm); clear z c3; intro c3; try simp only [noR] at c3) | (have z := (c4 : Dm); clear z c4; intro c4; try simp only [noR] at c4) | (have z := (c5 : Dm); clear z c5; intro c5; try simp only [noR] at c5) | (have z := (c6 : Dm); clear z c6; intro c6; try simp only [noR] at c6)) <;> (try simp -implicitDefEqProofs -dsimp (maxSteps := 2000000) (disch := (first | exact dz | fail)) only [go_sem, c6, c5, c4, c3, c2, c1, h6, h7, h9, h21, h22, h23, hlt, hx, k0, k1, hk])))) <;> (try with_reducible and_intros) <;> (first | exact fz | skip)
      · refine (hr'.push [_]).app x.path (hf.upPur (by omega)) (by simp; omega) (by rw [List.length_map]; omega) ?_
        intro r v' m'' hr2 hold2 _ hrs
        rw [if_pos c1] at hst
        (have d1 : Dm := ⟨⟩; have d2 : Dm := ⟨⟩; have d3 : Dm := ⟨⟩; have d4 : Dm := ⟨⟩; have d5 : Dm := ⟨⟩; have d6 : Dm := ⟨⟩) <;> (try simp -implicitDefEqProofs -dsimp (maxSteps := 2000000) (disch := (first | exact dz | fail)) only [go_sem, ]) <;> (repeat' (first | ((with_reducible refine ds_and ?_ ?_); focus exact kz) | ((with_reducible refine And.intro ?_ ?_); focus exact oz) | ((with_reducible refine pc_and ?_ ?_); focus exact pz) | ((first | with_reducible refine gIf_t ?_ ?_ | with_reducible refine gIf_f ?_ ?_ | with_reducible refine ite_t ?_ ?_ | with_reducible refine ite_p ?_ ?_) <;> (first | (have z := (d1 : Dm); clear z d1; intro d1; try simp only [noR] at d1) | (have z := (d2 : Dm); clear z d2; intro d2; try simp only [noR] at d2) | (have z := (d3 : Dm); clear z d3; intro d3; try simp only [noR] at d3) | (have z := (d4 : Dm); clear z d4; intro d4; try simp only [noR] at d4) | (have z := (d5 : Dm); clear z d5; intro d5; try simp only [noR] at d5) | (have z := (d6 : Dm); clear z d6; intro d6; try simp only [noR] at d6)) <;> (try simp -implicitDefEqProofs -dsimp (maxSteps := 2000000) (disch := (first | exact dz | fail)) only [go_sem, d6, d5, d4, d3, d2, d1])))) <;> (try with_reducible and_intros) <;> (first | exact fz | skip)
        refine ⟨_, by omega, i + 1, v', rfl, rfl, ?_, fun j hj => ?_, by omega, rfl⟩
        · rw [hst, List.map_append]; exact hr2
        · rw [hold2 j hj, List.getElem?_append_left (by omega)]; exact hold j hj
      · rw [if_neg (by simp [c1])] at hst
        refine ⟨_, by omega, i + 1, v, rfl, rfl, ?_, fun j hj => ?_, by omega, rfl⟩
        · rw [hst, List.append_nil]; exact hr'.push _
        · rw [List.getElem?_append_left (by omega)]; exact hold j hj
    · (have c1 : Dm := ⟨⟩; have c2 : Dm := ⟨⟩; have c3 : Dm := ⟨⟩; have c4 : Dm := ⟨⟩; have c5 : Dm := ⟨⟩; have c6 : Dm := ⟨⟩) <;> (try simp -implicitDefEqProofs -dsimp (maxSteps := 2000000) (disch := (first | exact dz | fail)) only [go_sem, h6, h7, h9, h21, h22, h23, hlt, hr'.frz clean_tx tx_ifc (show m.length ≤ M.length + 2 by omega)]) <;> (repeat' (first | ((with_reducible refine ds_and ?_ ?_); focus exact kz) | ((with_reducible refine And.intro ?_ ?_); focus exact oz) | ((with_reducible refine pc_and ?_ ?_); focus exact pz) | ((first | with_reducible refine gIf_t ?_ ?_ | with_reducible refine gIf_f ?_ ?_ | with_reducible refine ite_t ?_ ?_ | with_reducible refine ite_p ?_ ?_) <;> (first | (have z := (c1 : Dm); clear z c1; intro c1; try simp only [noR] at c1) | (have z := (c2 : Dm); clear z c2; intro c2; try simp only [noR] at c2) | (have z := (c3 : Dm); clear z c3; intro c3; try simp only [noR] at c3) | (have z := (c4 : Dm); clear z c4; intro c4; try simp only [noR] at c4) | (have z := (c5 : Dm); clear z c5; intro c5; try simp only [noR] at c5) | (have z := (c6 : Dm); clear z c6; intro c6; try simp only [noR] at c6)) <;> (try simp -implicitDefEqProofs -dsimp (maxSteps := 2000000) (disch := (first | exact dz | fail)) only [go_sem, c6, c5, c4, c3, c2, c1, h6, h7, h9, h21, h22, h23, hlt, hr'.frz clean_tx tx_ifc (show m.length ≤ M.length + 2 by omega)])))) <;> (try with_reducible and_intros) <;> (first | exact fz | skip)
      simp [keptA, keptL]
theorem size0_ok (x : Sl Pn) (hx : FitO x.l) (hf : Fits en m.length) : WC Tryd.prog pol en (.func 12) [slf opC x] m fun v m' => v = I (sizeL x.l) ∧ m' = m := by
  have hxl := hx.len
  refine callPur Tryd.func12 rfl rfl Tryd.ntmps12 Tryd.results12 ?_
  (have hq1 : Dm := ⟨⟩; have hq2 : Dm := ⟨⟩; have hq3 : Dm := ⟨⟩; have hq4 : Dm := ⟨⟩; have hq5 : Dm := ⟨⟩; have hq6 : Dm := ⟨⟩) <;> (try simp -implicitDefEqProofs -dsimp (maxSteps := 2000000) (disch := (first | exact dz | fail)) only [go_sem, ]) <;> (repeat' (first | ((with_reducible refine ds_and ?_ ?_); focus exact kz) | ((with_reducible refine And.intro ?_ ?_); focus exact oz) | ((with_reducible refine pc_and ?_ ?_); focus exact pz) | ((first | with_reducible refine gIf_t ?_ ?_ | with_reducible refine gIf_f ?_ ?_ | with_reducible refine ite_t ?_ ?_ | with_reducible refine ite_p ?_ ?_) <;> (first | (have z := (hq1 : Dm); clear z hq1; intro hq1; try simp only [noR] at hq1) | (have z := (hq2 : Dm); clear z hq2; intro hq2; try simp only [noR] at hq2) | (have z := (hq3 : Dm); clear z hq3; intro hq3; try simp only [noR] at hq3) | (have z := (hq4 : Dm); clear z hq4; intro hq4; try simp only [noR] at hq4) | (have z := (hq5 : Dm); clear z hq5; intro hq5; try simp only [noR] at hq5) | (have z := (hq6 : Dm); clear z hq6; intro hq6; try simp only [noR] at hq6)) <;> (try simp -implicitDefEqProofs -dsimp (maxSteps := 2000000) (disch := (first | exact dz | fail)) only [go_sem, hq6, hq5, hq4, hq3, hq2, hq1])))) <;> (try with_reducible and_intros) <;> (first | exact fz | skip)
  refine loopF (fun k ts m' => ∃ (i : Nat) (l : Mem), ts.length = 22 ∧ tg ts 3 = I (sizeL (x.l.take i)) ∧ tg ts 6 = slf opC x ∧ tg ts 7 = I x.l.length ∧ tg ts 8 = I i ∧ m' = m ++ l ∧ i ≤ x.l.length ∧ k = x.l.length - i) x.l.length ⟨0, [], rfl, rfl, rfl, rfl, rfl, by simp, by omega, by omega⟩ ?_
  rintro k ts m' ⟨i, l, hl, h3, h6, h7, h8, rfl, hi, rfl⟩
  rw [expandT hl]
  by_cases hlt : (i : Int) < (x.l.length : Int)
  · obtain ⟨o, ho⟩ : ∃ o, x.l[i]? = some o := ⟨_, List.getElem?_eq_getElem (by omega)⟩
    have hst := size_step ho
    have hb : sizeL (x.l.take i) ≤ 2147483648 * 2147483648 := by
      refine Nat.le_trans (size_le (B := 2147483648) fun o h => hx.data o (List.mem_of_mem_take h)) (Nat.mul_le_mul_right _ ?_)
      simp; omega
    have hd := hx.data o (List.mem_of_getElem? ho)
    (have c1 : Dm := ⟨⟩; have c2 : Dm := ⟨⟩; have c3 : Dm := ⟨⟩; have c4 : Dm := ⟨⟩; have c5 : Dm := ⟨⟩; have c6 : Dm := ⟨⟩) <;> (try simp -implicitDefEqProofs -dsimp (maxSteps := 2000000) (disch := (first | exact dz | fail)) only [go_sem, h3, h6, h7, h8, hlt, ho]) <;> (repeat' (first | ((with_reducible refine ds_and ?_ ?_); focus exact kz) | ((with_reducible refine And.intro ?_ ?_); focus exact oz) | ((with_reducible refine pc_and ?_ ?_); focus exact pz) | ((first | with_reducible refine gIf_t ?_ ?_ | with_reducible refine gIf_f ?_ ?_ | with_reducible refine ite_t ?_ ?_ | with_reducible refine ite_p ?_ ?_) <;> (first | (have z := (c1 : Dm); clear z c1; intro c1; try simp only [noR] at c1) | (have z := (c2 : Dm); clear z c2; intro c2; try simp only [noR] at c2) | (have z := (c3 : Dm); clear z c3; intro c3; try simp only [noR] at c3) | (have z := (c4 : Dm); clear z c4; intro c4; try simp only [noR] at c4) | (have z := (c5 : Dm); clear z c5; intro c5; try simp only [noR] at c5) | (have z := (c6 : Dm); clear z c6; intro c6; try simp only [noR] at c6)) <;> (try simp -implicitDefEqProofs -dsimp (maxSteps := 2000000) (disch := (first | exact dz | fail)) only [go_sem, c6, c5, c4, c3, c2, c1, h3, h6, h7, h8, hlt, ho])))) <;> (try with_reducible and_intros) <;> (first | exact fz | skip)
    · rw [if_pos c1] at hst
      refine ⟨_, by omega, i + 1, _, ?_, rfl, rfl, by omega, rfl⟩
      rw [hst]; simp
    · rw [if_neg c1] at hst
      exact ⟨_, by omega, i + 1, _, by rw [hst]; rfl, rfl, rfl, by omega, rfl⟩
  · (have c1 : Dm := ⟨⟩; have c2 : Dm := ⟨⟩; have c3 : Dm := ⟨⟩; have c4 : Dm := ⟨⟩; have c5 : Dm := ⟨⟩; have c6 : Dm := ⟨⟩) <;> (try simp -implicitDefEqProofs -dsimp (maxSteps := 2000000) (disch := (first | exact dz | fail)) only [go_sem, h3, h6, h7, h8, hlt]) <;> (repeat' (first | ((with_reducible refine ds_and ?_ ?_); focus exact kz) | ((with_reducible refine And.intro ?_ ?_); focus exact oz) | ((with_reducible refine pc_and ?_ ?_); focus exact pz) | ((first | with_reducible refine gIf_t ?_ ?_ | with_reducible refine gIf_f ?_ ?_ | with_reducible refine ite_t ?_ ?_ | with_reducible refine ite_p ?_ ?_) <;> (first | (have z := (c1 : Dm); clear z c1; intro c1; try simp only [noR] at c1) | (have z := (c2 : Dm); clear z c2; intro c2; try simp only [noR] at c2) | (have z := (c3 : Dm); clear z c3; intro c3; try simp only [noR] at c3) | (have z := (c4 : Dm); clear z c4; intro c4; try simp only [noR] at c4) | (have z := (c5 : Dm); clear z c5; intro c5; try simp only [noR] at c5) | (have z := (c6 : Dm); clear z c6; intro c6; try simp only [noR] at c6)) <;> (try simp -implicitDefEqProofs -dsimp (maxSteps := 2000000) (disch := (first | exact dz | fail)) only [go_sem, c6, c5, c4, c3, c2, c1, h3, h6, h7, h8, hlt])))) <;> (try with_reducible and_intros) <;> (first | exact fz | skip)
end
end Go.Proofs.YtcmjidnbbfcbjaaDoor.V.L1
/- Rows turned round; what makes a file's data other data; no condition. -/
namespace Go.Proofs.YtcmjidnbbfcbjaaDoor.V
open Go
set_option linter.unusedVariables false
set_option linter.unusedSimpArgs false
set_option maxRecDepth 100000
set_option maxHeartbeats 4000000
noncomputable section
variable {en : Env} {m : Mem}
def swapL {α : Type} (l : List α) (i j : Nat) : List α := match l[i]?, l[j]? with
  | some a, some b => (l.set i b).set j a
  | _, _ => l
/-- A list whose first 'i' and last 'i' are turned round. -/
def revd {α : Type} (l : List α) (i : Nat) : List α := (l.reverse.take i) ++ ((l.drop i).take (l.length - 2 * i)) ++ (l.reverse.drop (l.length - i))
theorem revd_get {α : Type} (l : List α) (i k : Nat) (hi : 2 * i ≤ l.length) : (revd l i)[k]? = if k < i ∨ l.length - i ≤ k then l.reverse[k]? else l[k]? := by
  unfold revd
  by_cases h1 : k < i
  · rw [if_pos (Or.inl h1), List.append_assoc, List.getElem?_append_left (by simp; omega), List.getElem?_take, if_pos h1]
  · by_cases h2 : l.length - i ≤ k
    · rw [if_pos (Or.inr h2), List.getElem?_append_right (by simp; omega), List.getElem?_drop]
      congr 1; simp; omega
    · rw [if_neg (by omega), List.getElem?_append_left (by simp; omega), List.getElem?_append_right (by simp; omega), List.getElem?_take, if_pos (by simp; omega), List.getElem?_drop]
      congr 1; simp; omega
theorem revd_zero {α : Type} (l : List α) : revd l 0 = l := by
  apply List.ext_getElem?
  intro k
  rw [revd_get l 0 k (by omega)]
  split
  · rename_i h
    have : l.length ≤ k := by omega
    rw [List.getElem?_eq_none (by simpa using this), List.getElem?_eq_none this]
  · rfl
theorem revd_end {α : Type} (l : List α) (i : Nat) (hi : 2 * i ≤ l.length) (h : l.length ≤ 2 * i + 1) : revd l i = l.reverse := by
  apply List.ext_getElem?
  intro k
  rw [revd_get l i k hi]
  split
  · rfl
  · rename_i hk
    have hk2 : k = i ∧ l.length = 2 * i + 1 := by omega
    rw [List.getElem?_reverse (by omega)]
    congr 1; omega
theorem revd_len {α : Type} (l : List α) (i : Nat) (hi : 2 * i ≤ l.length) : (revd l i).length = l.length := by unfold revd; simp; omega
theorem revd_step {α : Type} {l : List α} {i : Nat} (h : 2 * i + 1 < l.length) {a b : α} (ha : l[i]? = some a) (hb : l[l.length - 1 - i]? = some b) : (((revd l i).set i b).set (l.length - 1 - i) a) = revd l (i + 1) := by
  apply List.ext_getElem?
  intro k
  have hlen := revd_len l i (by omega)
  rw [revd_get l (i + 1) k (by omega), List.getElem?_set, List.getElem?_set]
  by_cases h1 : l.length - 1 - i = k
  · rw [if_pos h1, if_pos (by simp; omega), if_pos (Or.inr (by omega)), List.getElem?_reverse (by omega), ← ha]
    congr 1; omega
  · rw [if_neg h1]
    by_cases h2 : i = k
    · rw [if_pos h2, if_pos (by omega), if_pos (Or.inl (by omega)), List.getElem?_reverse (by omega), ← hb]
      congr 1; omega
    · rw [if_neg h2, revd_get l i k (by omega)]
      by_cases h3 : k < i ∨ l.length - i ≤ k
      · rw [if_pos h3, if_pos (by omega)]
      · rw [if_neg h3, if_neg (by omega)]
theorem flat_get {α : Type} {f : α → List AV} {w : Nat} [h : Wide f w] {l : List α} {i : Nat} {a : α} (ha : l[i]? = some a) : ((l.flatMap f).drop (i * w)).take w = f a := by
  rw [flat_drop]
  obtain ⟨hi, he⟩ := List.getElem?_eq_some_iff.1 ha
  rw [List.drop_eq_getElem_cons hi, he, List.flatMap_cons, List.take_append_of_le_length (by rw [h.len]; omega), List.take_of_length_le (by rw [h.len]; omega)]
theorem flat_set {α : Type} {f : α → List AV} {w : Nat} [h : Wide f w] {l : List α} {i : Nat} (hi : i < l.length) (b : α) : splice (l.flatMap f) (i * w) (f b) = (l.set i b).flatMap f := by
  have e1 : l.flatMap f = (l.take i).flatMap f ++ (l.drop i).flatMap f := by rw [← List.flatMap_append, List.take_append_drop]
  have e2 : ((l.take i).flatMap f).length = i * w := by rw [flat_len (w := w), List.length_take]; congr 1; omega
  rw [e1, ← e2, splice_app _ _ _ (by rw [h.len, flat_len (w := w), List.length_drop]; have : 1 * w ≤ (l.length - i) * w := Nat.mul_le_mul_right _ (by omega); omega)]
  rw [h.len, show w = 1 * w by omega, flat_drop, List.drop_drop, List.set_eq_take_append_cons_drop, if_pos hi]
  simp
theorem set_same {m : Mem} {id : Nat} {o : Ob} (h : m[id]? = some o) : m.set id o = m := by
  obtain ⟨hi, he⟩ := List.getElem?_eq_some_iff.1 h
  rw [← he, List.set_getElem_self]
end
end Go.Proofs.YtcmjidnbbfcbjaaDoor.V
namespace Go.Proofs.YtcmjidnbbfcbjaaDoor.V.L1
open Go V
set_option linter.unusedVariables false
set_option linter.unusedSimpArgs false
set_option maxRecDepth 100000
set_option maxHeartbeats 4000000
noncomputable section
variable {en : Env} {m : Mem}
theorem reverse_ok {l : List Pn} {id ver : Nat} (hid : m[id]? = some (.cells ver (l.flatMap opC))) (hl : l.length ≤ 1073741824) (hf : Fits en m.length) (hbar : en.bar ≤ id) (hfid : Fits en id) : WC Tryd.prog pol en (.func 22) [.own id ver 0 l.length 5] m fun v m' => v = .tup [] ∧ m' = m.set id (.cells ver (l.reverse.flatMap opC)) := by
  have hidl := (List.getElem?_eq_some_iff.1 hid).1
  refine callMut Tryd.func22 rfl rfl Tryd.ntmps22 Tryd.results22 ?_
  have hw1 : IntKind.i64.wrap ((l.length : Int) - 1) = (l.length : Int) - 1 := i64w (by omega)
  (have hq1 : Dm := ⟨⟩; have hq2 : Dm := ⟨⟩; have hq3 : Dm := ⟨⟩; have hq4 : Dm := ⟨⟩; have hq5 : Dm := ⟨⟩; have hq6 : Dm := ⟨⟩) <;> (try simp -implicitDefEqProofs -dsimp (maxSteps := 2000000) (disch := (first | exact dz | fail)) only [go_sem, hw1]) <;> (repeat' (first | ((with_reducible refine ds_and ?_ ?_); focus exact kz) | ((with_reducible refine And.intro ?_ ?_); focus exact oz) | ((with_reducible refine pc_and ?_ ?_); focus exact pz) | ((first | with_reducible refine gIf_t ?_ ?_ | with_reducible refine gIf_f ?_ ?_ | with_reducible refine ite_t ?_ ?_ | with_reducible refine ite_p ?_ ?_) <;> (first | (have z := (hq1 : Dm); clear z hq1; intro hq1; try simp only [noR] at hq1) | (have z := (hq2 : Dm); clear z hq2; intro hq2; try simp only [noR] at hq2) | (have z := (hq3 : Dm); clear z hq3; intro hq3; try simp only [noR] at hq3) | (have z := (hq4 : Dm); clear z hq4; intro hq4; try simp only [noR] at hq4) | (have z := (hq5 : Dm); clear z hq5; intro hq5; try simp only [noR] at hq5) | (have z := (hq6 : Dm); clear z hq6; intro hq6; try simp only [noR] at hq6)) <;> (try simp -implicitDefEqProofs -dsimp (maxSteps := 2000000) (disch := (first | exact dz | fail)) only [go_sem, hq6, hq5, hq4, hq3, hq2, hq1, hw1])))) <;> (try with_reducible and_intros) <;> (first | exact fz | skip)
  refine loopF (fun k ts m' => ∃ (i : Nat), ts.length = 28 ∧ tg ts 0 = .own id ver 0 l.length 5 ∧ tg ts 2 = I i ∧ tg ts 3 = I ((l.length : Int) - 1 - i) ∧ m' = m.set id (.cells ver ((revd l i).flatMap opC)) ∧ 2 * i ≤ l.length ∧ k = l.length - 2 * i) l.length ⟨0, rfl, rfl, rfl, ?_, ?_, by omega, by omega⟩ ?_
  · show AV.sc (.int .i64 ((l.length : Int) - 1)) = I ((l.length : Int) - 1 - (0 : Nat))
    simp
  · rw [revd_zero]
    exact (set_same hid).symm
  rintro k ts m' ⟨i, hln, h0, h2, h3, rfl, hi, rfl⟩
  rw [expandT hln]
  have hget : (m.set id (.cells ver ((revd l i).flatMap opC)))[id]? = some (.cells ver ((revd l i).flatMap opC)) := by rw [List.getElem?_set_self hidl]
  have hrl := revd_len l i hi
  have hok : ∀ {v1 v2 v3 v4 v5 : Value}, okTo ⟨m.length :: en.bases, en.bar⟩ id (fun B => AV.lowL B [.sc v1, .sc v2, .sc v3, .sc v4, .sc v5]) = True := fun {v1 v2 v3 v4 v5} => eq_true ⟨hbar, by simp [AV.lowL, AV.low]⟩
  by_cases hlt : (i : Int) < (l.length : Int) - 1 - i
  · obtain ⟨a, ha⟩ : ∃ a, l[i]? = some a := ⟨_, List.getElem?_eq_getElem (by omega)⟩
    obtain ⟨b, hb⟩ : ∃ b, l[l.length - 1 - i]? = some b := ⟨_, List.getElem?_eq_getElem (by omega)⟩
    have ej : (l.length : Int) - 1 - i = ((l.length - 1 - i : Nat) : Int) := by omega
    rw [ej] at h3 hlt
    have hai : (revd l i)[i]? = some a := by rw [revd_get l i i hi, if_neg (by omega)]; exact ha
    have hbi : (revd l i)[l.length - 1 - i]? = some b := by rw [revd_get l i _ hi, if_neg (by omega)]; exact hb
    have ga := flat_get (f := opC) hai
    have gb := flat_get (f := opC) hbi
    rw [opC_eq] at ga gb
    have hfl := flat_len (f := opC) (revd l i)
    have hwj : IntKind.i64.wrap (((l.length - 1 - i : Nat) : Int) - 1) = ((l.length - 1 - i : Nat) : Int) - 1 := i64w (by omega)
    have hm5 : i * 5 + 5 ≤ l.length * 5 := by omega
    have hm6 : (l.length - 1 - i) * 5 + 5 ≤ l.length * 5 := by omega
    (have c1 : Dm := ⟨⟩; have c2 : Dm := ⟨⟩; have c3 : Dm := ⟨⟩; have c4 : Dm := ⟨⟩; have c5 : Dm := ⟨⟩; have c6 : Dm := ⟨⟩) <;> (try simp -implicitDefEqProofs -dsimp (maxSteps := 2000000) (disch := (first | exact dz | fail)) only [go_sem, h0, h2, h3, hlt, hget, ga, gb, hfl, hrl, hok, hwj]) <;> (repeat' (first | ((with_reducible refine ds_and ?_ ?_); focus exact kz) | ((with_reducible refine And.intro ?_ ?_); focus exact oz) | ((first | with_reducible refine gIf_t ?_ ?_ | with_reducible refine gIf_f ?_ ?_ | with_reducible refine ite_t ?_ ?_ | with_reducible refine ite_p ?_ ?_) <;> (first | (have z := (c1 : Dm); clear z c1; intro c1; try simp only [noR] at c1) | (have z := (c2 : Dm); clear z c2; intro c2; try simp only [noR] at c2) | (have z := (c3 : Dm); clear z c3; intro c3; try simp only [noR] at c3) | (have z := (c4 : Dm); clear z c4; intro c4; try simp only [noR] at c4) | (have z := (c5 : Dm); clear z c5; intro c5; try simp only [noR] at c5) | (have z := (c6 : Dm); clear z c6; intro c6; try simp only [noR] at c6)) <;> (try simp -implicitDefEqProofs -dsimp (maxSteps := 2000000) (disch := (first | exact dz | fail)) only [go_sem, c6, c5, c4, c3, c2, c1, h0, h2, h3, hlt, hget, ga, gb, hfl, hrl, hok, hwj])))) <;> (try with_reducible and_intros) <;> (first | exact fzb | skip)
    · kernel_rfl
    · refine ⟨l.length - 2 * (i + 1), by omega, i + 1, rfl, ?_, ?_, by omega, rfl⟩
      · congr 2; omega
      · rw [List.set_set, List.set_set]
        congr 2
        show splice (splice ((revd l i).flatMap opC) (i * 5) (opC b)) ((l.length - 1 - i) * 5) (opC a) = _
        rw [flat_set (by omega), flat_set (by simp; omega), revd_step (by omega) ha hb]
  · (have c1 : Dm := ⟨⟩; have c2 : Dm := ⟨⟩; have c3 : Dm := ⟨⟩; have c4 : Dm := ⟨⟩; have c5 : Dm := ⟨⟩; have c6 : Dm := ⟨⟩) <;> (try simp -implicitDefEqProofs -dsimp (maxSteps := 2000000) (disch := (first | exact dz | fail)) only [go_sem, h0, h2, h3, hlt]) <;> (repeat' (first | ((with_reducible refine ds_and ?_ ?_); focus exact kz) | ((with_reducible refine And.intro ?_ ?_); focus exact oz) | ((with_reducible refine pc_and ?_ ?_); focus exact pz) | ((first | with_reducible refine gIf_t ?_ ?_ | with_reducible refine gIf_f ?_ ?_ | with_reducible refine ite_t ?_ ?_ | with_reducible refine ite_p ?_ ?_) <;> (first | (have z := (c1 : Dm); clear z c1; intro c1; try simp only [noR] at c1) | (have z := (c2 : Dm); clear z c2; intro c2; try simp only [noR] at c2) | (have z := (c3 : Dm); clear z c3; intro c3; try simp only [noR] at c3) | (have z := (c4 : Dm); clear z c4; intro c4; try simp only [noR] at c4) | (have z := (c5 : Dm); clear z c5; intro c5; try simp only [noR] at c5) | (have z := (c6 : Dm); clear z c6; intro c6; try simp only [noR] at c6)) <;> (try simp -implicitDefEqProofs -dsimp (maxSteps := 2000000) (disch := (first | exact dz | fail)) only [go_sem, c6, c5, c4, c3, c2, c1, h0, h2, h3, hlt])))) <;> (try with_reducible and_intros) <;> (first | exact fz | skip)
    rw [revd_end l i hi (by omega)]
end
end Go.Proofs.YtcmjidnbbfcbjaaDoor.V.L1
/- What makes a file's data other data; no condition. -/
namespace Go.Proofs.YtcmjidnbbfcbjaaDoor.V.L1
open Go V
set_option linter.unusedVariables false
set_option linter.unusedSimpArgs false
set_option maxRecDepth 100000
set_option maxHeartbeats 4000000
noncomputable section
variable {en : Env} {m : Mem}
theorem chunk_ok (x : List UInt8) (hx : x.length ≤ 1048576) : WC Tryd.prog pol en (.func 41) [sl u8v ⟨false, false, x⟩, I 64] m fun v m' => v = .clo (.func 53) [] [.ptr m.length (tagT 64) 0, .ptr (m.length + 1) (tagT 3) 0] ∧ m' = m ++ [.cells (tagT 64) [sl u8v ⟨false, false, x⟩], .cells (tagT 3) [I 64]] := by
  refine callOpn Tryd.func41 rfl rfl Tryd.ntmps41 Tryd.results41 ?_
  (have hq1 : Dm := ⟨⟩; have hq2 : Dm := ⟨⟩; have hq3 : Dm := ⟨⟩; have hq4 : Dm := ⟨⟩; have hq5 : Dm := ⟨⟩; have hq6 : Dm := ⟨⟩) <;> (try simp -implicitDefEqProofs -dsimp (maxSteps := 2000000) (disch := (first | exact dz | fail)) only [go_sem, ]) <;> (repeat' (first | ((with_reducible refine ds_and ?_ ?_); focus exact kz) | ((with_reducible refine And.intro ?_ ?_); focus exact oz) | ((with_reducible refine pc_and ?_ ?_); focus exact pz) | ((first | with_reducible refine gIf_t ?_ ?_ | with_reducible refine gIf_f ?_ ?_ | with_reducible refine ite_t ?_ ?_ | with_reducible refine ite_p ?_ ?_) <;> (first | (have z := (hq1 : Dm); clear z hq1; intro hq1; try simp only [noR] at hq1) | (have z := (hq2 : Dm); clear z hq2; intro hq2; try simp only [noR] at hq2) | (have z := (hq3 : Dm); clear z hq3; intro hq3; try simp only [noR] at hq3) | (have z := (hq4 : Dm); clear z hq4; intro hq4; try simp only [noR] at hq4) | (have z := (hq5 : Dm); clear z hq5; intro hq5; try simp only [noR] at hq5) | (have z := (hq6 : Dm); clear z hq6; intro hq6; try simp only [noR] at hq6)) <;> (try simp -implicitDefEqProofs -dsimp (maxSteps := 2000000) (disch := (first | exact dz | fail)) only [go_sem, hq6, hq5, hq4, hq3, hq2, hq1])))) <;> (try with_reducible and_intros) <;> (first | exact fz | skip)
theorem chunk_eq (x : List UInt8) (Q : AV → Mem → Prop) (hx : x.length ≤ 1048576) : WC Tryd.prog pol en (.func 41) [sl u8v ⟨false, false, x⟩, I 64] m Q = Q (.clo (.func 53) [] [.ptr m.length (tagT 64) 0, .ptr (m.length + 1) (tagT 3) 0]) (m ++ [.cells (tagT 64) [sl u8v ⟨false, false, x⟩], .cells (tagT 3) [I 64]]) := (chunk_ok x hx).rule Q
theorem rewriteN_ok (p was is : List UInt8) (h1 : ¬was = is) (h2 : ¬was = []) (hi : is.length ≤ 1048576) (hf : Fits en m.length) : WC Tryd.prog pol en (.func 23) [tx p, tx was, tx is] m fun v m' => v = slf opC ⟨true, false, rewL p was is⟩ ∧ m' = m := by
  refine callPur Tryd.func23 rfl rfl Tryd.ntmps23 Tryd.results23 ?_
  (have hq1 : Dm := ⟨⟩; have hq2 : Dm := ⟨⟩; have hq3 : Dm := ⟨⟩; have hq4 : Dm := ⟨⟩; have hq5 : Dm := ⟨⟩; have hq6 : Dm := ⟨⟩) <;> (try simp -implicitDefEqProofs -dsimp (maxSteps := 2000000) (disch := (first | exact dz | fail)) only [go_sem, h1, h2, chunk_eq]) <;> (repeat' (first | ((with_reducible refine ds_and ?_ ?_); focus exact kz) | ((with_reducible refine And.intro ?_ ?_); focus exact oz) | ((with_reducible refine pc_and ?_ ?_); focus exact pz) | ((first | with_reducible refine gIf_t ?_ ?_ | with_reducible refine gIf_f ?_ ?_ | with_reducible refine ite_t ?_ ?_ | with_reducible refine ite_p ?_ ?_) <;> (first | (have z := (hq1 : Dm); clear z hq1; intro hq1; try simp only [noR] at hq1) | (have z := (hq2 : Dm); clear z hq2; intro hq2; try simp only [noR] at hq2) | (have z := (hq3 : Dm); clear z hq3; intro hq3; try simp only [noR] at hq3) | (have z := (hq4 : Dm); clear z hq4; intro hq4; try simp only [noR] at hq4) | (have z := (hq5 : Dm); clear z hq5; intro hq5; try simp only [noR] at hq5) | (have z := (hq6 : Dm); clear z hq6; intro hq6; try simp only [noR] at hq6)) <;> (try simp -implicitDefEqProofs -dsimp (maxSteps := 2000000) (disch := (first | exact dz | fail)) only [go_sem, hq6, hq5, hq4, hq3, hq2, hq1, h1, h2, chunk_eq])))) <;> (try with_reducible and_intros) <;> (first | exact fz | skip)
  refine rangeN rfl fun LO hLO => ?_
  refine callOpn Tryd.func53 rfl rfl Tryd.ntmps53 Tryd.results53 ?_
  (have hq1 : Dm := ⟨⟩; have hq2 : Dm := ⟨⟩; have hq3 : Dm := ⟨⟩; have hq4 : Dm := ⟨⟩; have hq5 : Dm := ⟨⟩; have hq6 : Dm := ⟨⟩) <;> (try simp -implicitDefEqProofs -dsimp (maxSteps := 2000000) (disch := (first | exact dz | fail)) only [go_sem, ]) <;> (repeat' (first | ((with_reducible refine ds_and ?_ ?_); focus exact kz) | ((with_reducible refine And.intro ?_ ?_); focus exact oz) | ((with_reducible refine pc_and ?_ ?_); focus exact pz) | ((first | with_reducible refine gIf_t ?_ ?_ | with_reducible refine gIf_f ?_ ?_ | with_reducible refine ite_t ?_ ?_ | with_reducible refine ite_p ?_ ?_) <;> (first | (have z := (hq1 : Dm); clear z hq1; intro hq1; try simp only [noR] at hq1) | (have z := (hq2 : Dm); clear z hq2; intro hq2; try simp only [noR] at hq2) | (have z := (hq3 : Dm); clear z hq3; intro hq3; try simp only [noR] at hq3) | (have z := (hq4 : Dm); clear z hq4; intro hq4; try simp only [noR] at hq4) | (have z := (hq5 : Dm); clear z hq5; intro hq5; try simp only [noR] at hq5) | (have z := (hq6 : Dm); clear z hq6; intro hq6; try simp only [noR] at hq6)) <;> (try simp -implicitDefEqProofs -dsimp (maxSteps := 2000000) (disch := (first | exact dz | fail)) only [go_sem, hq6, hq5, hq4, hq3, hq2, hq1])))) <;> (try with_reducible and_intros) <;> (first | exact fz | skip)
  have hpl := pieces_len p is
  refine loopF (fun k ts mm => ∃ (j ver : Nat), ts.length = 31 ∧ tg ts 0 = .clo (.yield (m.length + 6)) [] [] ∧ tg ts 1 = .ptr (m.length + 4) (tagT 64) 0 ∧ tg ts 2 = .ptr (m.length + 5) (tagT 3) 0 ∧ tg ts 4 = I (j * 64 : Nat) ∧
    mm = m ++ [.cells (tagT 9) [tx p], .cells (tagT 24) [.own (m.length + 2) ver 0 (pn 8 p :: (pieces p is).take j).length 5], .cells ver ((pn 8 p :: (pieces p is).take j).flatMap opC), .cells (tagT 3) [I (min (j * 64) is.length : Nat)], .cells (tagT 64) [sl u8v ⟨false, false, is⟩], .cells (tagT 3) [I 64], LO] ∧ j * 64 < is.length + 64 ∧ k = is.length + 64 - j * 64) (is.length + 64) ⟨0, _, rfl, rfl, rfl, rfl, rfl, rfl, by omega, by omega⟩ ?_
  rintro k ts mm ⟨j, ver, hl, h0, h1', h2', h4, rfl, hj, rfl⟩
  rw [expandT hl]
  by_cases hlt : ((j * 64 : Nat) : Int) < (is.length : Int)
  · obtain ⟨e, hm, he1, he2, he3⟩ : ∃ e : Nat, (if ((is.drop (j * 64)).length : Int) < 64 then ((is.drop (j * 64)).length : Int) else 64) = (e : Int) ∧ e ≤ 64 ∧ j * 64 + e = min ((j + 1) * 64) is.length ∧ (is.drop (j * 64)).take e = (is.drop (j * 64)).take 64 := by
      by_cases hs : ((is.drop (j * 64)).length : Int) < 64
      · rw [List.length_drop] at hs
        exact ⟨(is.drop (j * 64)).length, by rw [if_pos (by rw [List.length_drop]; exact hs)], by rw [List.length_drop]; omega, by rw [List.length_drop]; omega, by rw [List.take_of_length_le (Nat.le_refl _), List.take_of_length_le (by rw [List.length_drop]; omega)]⟩
      · rw [List.length_drop] at hs
        exact ⟨64, by rw [if_neg (by rw [List.length_drop]; exact hs)]; rfl, by omega, by omega, rfl⟩
    have hmm : min (j * 64) is.length = j * 64 := by omega
    have hm2 : (((j * 64 : Nat) : Int) + (e : Int)).toNat = j * 64 + e := by omega
    have hm3 : j * 64 + e - j * 64 = e := by omega
    have hle : j * 64 + e ≤ is.length := by omega
    (have c1 : Dm := ⟨⟩; have c2 : Dm := ⟨⟩; have c3 : Dm := ⟨⟩; have c4 : Dm := ⟨⟩; have c5 : Dm := ⟨⟩; have c6 : Dm := ⟨⟩) <;> (try simp -implicitDefEqProofs -dsimp (maxSteps := 2000000) (disch := (first | exact dz | fail)) only [go_sem, h0, h1', h2', h4, hlt, hm, sl3D, hmm, hm2, hm3]) <;> (repeat' (first | ((with_reducible refine ds_and ?_ ?_); focus exact kz) | ((with_reducible refine And.intro ?_ ?_); focus exact oz) | ((with_reducible refine pc_and ?_ ?_); focus exact pz) | ((first | with_reducible refine gIf_t ?_ ?_ | with_reducible refine gIf_f ?_ ?_ | with_reducible refine ite_t ?_ ?_ | with_reducible refine ite_p ?_ ?_) <;> (first | (have z := (c1 : Dm); clear z c1; intro c1; try simp only [noR] at c1) | (have z := (c2 : Dm); clear z c2; intro c2; try simp only [noR] at c2) | (have z := (c3 : Dm); clear z c3; intro c3; try simp only [noR] at c3) | (have z := (c4 : Dm); clear z c4; intro c4; try simp only [noR] at c4) | (have z := (c5 : Dm); clear z c5; intro c5; try simp only [noR] at c5) | (have z := (c6 : Dm); clear z c6; intro c6; try simp only [noR] at c6)) <;> (try simp -implicitDefEqProofs -dsimp (maxSteps := 2000000) (disch := (first | exact dz | fail)) only [go_sem, c6, c5, c4, c3, c2, c1, h0, h1', h2', h4, hlt, hm, sl3D, hmm, hm2, hm3])))) <;> (try with_reducible and_intros) <;> (first | exact fz | skip)
    refine yieldF (p := none) (by simp) (by rw [getM, hLO]; rfl) rfl ?_
    have hfl := flat_len (f := opC) (pn 8 p :: (pieces p is).take j)
    (have c1 : Dm := ⟨⟩; have c2 : Dm := ⟨⟩; have c3 : Dm := ⟨⟩; have c4 : Dm := ⟨⟩; have c5 : Dm := ⟨⟩; have c6 : Dm := ⟨⟩) <;> (try simp -implicitDefEqProofs -dsimp (maxSteps := 2000000) (disch := (first | exact dz | fail)) only [go_sem, setMany, List.zip, List.zipWith]) <;> (repeat' (first | ((with_reducible refine ds_and ?_ ?_); focus exact kz) | ((with_reducible refine And.intro ?_ ?_); focus exact oz) | ((first | with_reducible refine gIf_t ?_ ?_ | with_reducible refine gIf_f ?_ ?_ | with_reducible refine ite_t ?_ ?_ | with_reducible refine ite_p ?_ ?_) <;> (first | (have z := (c1 : Dm); clear z c1; intro c1; try simp only [noR] at c1) | (have z := (c2 : Dm); clear z c2; intro c2; try simp only [noR] at c2) | (have z := (c3 : Dm); clear z c3; intro c3; try simp only [noR] at c3) | (have z := (c4 : Dm); clear z c4; intro c4; try simp only [noR] at c4) | (have z := (c5 : Dm); clear z c5; intro c5; try simp only [noR] at c5) | (have z := (c6 : Dm); clear z c6; intro c6; try simp only [noR] at c6)) <;> (try simp -implicitDefEqProofs -dsimp (maxSteps := 2000000) (disch := (first | exact dz | fail)) only [go_sem, c6, c5, c4, c3, c2, c1, setMany, List.zip, List.zipWith])))) <;> (try with_reducible and_intros) <;> (first | exact fzb | skip)
    refine ⟨_, _, _, _, _, congrArg some hLO, by rw [hfl]; simp, ?_⟩
    refine ⟨_, _, _, _, _, _, rfl, ?_⟩
    rw [if_neg (by simp [X.jump])]
    refine ⟨is.length + 64 - (j + 1) * 64, by omega, j + 1, nextV 52 ver, ?_, ?_, by omega, rfl⟩
    · refine congrArg (fun n => AV.sc (.int .i64 n)) ?_
      omega
    have e1 : (List.take (((pieces p is).take j).length + 1 |> (· * 5)) ((pn 8 p :: (pieces p is).take j).flatMap opC)) = (pn 8 p :: (pieces p is).take j).flatMap opC := List.take_of_length_le (by rw [hfl]; simp)
    have e2 : ((j * 64 : Nat) : Int) + ((List.take e (List.drop (j * 64) is)).length : Int) = ((min ((j + 1) * 64) is.length : Nat) : Int) := by rw [List.length_take, List.length_drop]; omega
    rw [hLO, pieces_step (by omega)]
    refine congrArg _ ?_
    refine congrArg _ ?_
    refine congr (congrArg _ (congrArg _ (congrArg (fun n => [AV.own (m.length + 2) (nextV 52 ver) 0 n 5]) (by simp)))) ?_
    refine congr (congrArg _ (congrArg _ ?_)) (congr (congrArg _ (congrArg (fun n => Ob.cells (tagT 3) [AV.sc (.int .i64 n)]) e2)) rfl)
    refine Eq.trans (congrArg (· ++ _) e1) ?_
    rw [← List.cons_append, List.flatMap_append]
    refine congrArg _ ?_
    simp [opC, piece, he3]
    all_goals trace_state
  · have htk : (pieces p is).take j = pieces p is := List.take_of_length_le (by omega)
    rw [htk]
    (have c1 : Dm := ⟨⟩; have c2 : Dm := ⟨⟩; have c3 : Dm := ⟨⟩; have c4 : Dm := ⟨⟩; have c5 : Dm := ⟨⟩; have c6 : Dm := ⟨⟩) <;> (try simp -implicitDefEqProofs -dsimp (maxSteps := 2000000) (disch := (first | exact dz | fail)) only [go_sem, h0, h1', h2', h4, hlt]) <;> (repeat' (first | ((with_reducible refine ds_and ?_ ?_); focus exact kz) | ((with_reducible refine And.intro ?_ ?_); focus exact oz) | ((with_reducible refine pc_and ?_ ?_); focus exact pz) | ((first | with_reducible refine gIf_t ?_ ?_ | with_reducible refine gIf_f ?_ ?_ | with_reducible refine ite_t ?_ ?_ | with_reducible refine ite_p ?_ ?_) <;> (first | (have z := (c1 : Dm); clear z c1; intro c1; try simp only [noR] at c1) | (have z := (c2 : Dm); clear z c2; intro c2; try simp only [noR] at c2) | (have z := (c3 : Dm); clear z c3; intro c3; try simp only [noR] at c3) | (have z := (c4 : Dm); clear z c4; intro c4; try simp only [noR] at c4) | (have z := (c5 : Dm); clear z c5; intro c5; try simp only [noR] at c5) | (have z := (c6 : Dm); clear z c6; intro c6; try simp only [noR] at c6)) <;> (try simp -implicitDefEqProofs -dsimp (maxSteps := 2000000) (disch := (first | exact dz | fail)) only [go_sem, c6, c5, c4, c3, c2, c1, h0, h1', h2', h4, hlt])))) <;> (try with_reducible and_intros) <;> (first | exact fz | skip)
    refine ⟨_, _, _, _, _, _, congrArg some hLO, nofun, ?_⟩
    refine Eq.mpr (RW.frz (f := opC) (b := m.length + 2) (l := pn 8 p :: pieces p is) ⟨by simp, Or.inr ⟨by simp, m.length + 2, ver, rfl, Nat.le_refl _, by rw [getM]; rfl, flat_len (w := 5) _⟩⟩ (by omega) 6 _) ?_
    (have hq1 : Dm := ⟨⟩; have hq2 : Dm := ⟨⟩; have hq3 : Dm := ⟨⟩; have hq4 : Dm := ⟨⟩; have hq5 : Dm := ⟨⟩; have hq6 : Dm := ⟨⟩) <;> (try simp -implicitDefEqProofs -dsimp (maxSteps := 2000000) (disch := (first | exact dz | fail)) only [go_sem, rewL, h1, h2]) <;> (repeat' (first | ((with_reducible refine ds_and ?_ ?_); focus exact kz) | ((with_reducible refine And.intro ?_ ?_); focus exact oz) | ((with_reducible refine pc_and ?_ ?_); focus exact pz) | ((first | with_reducible refine gIf_t ?_ ?_ | with_reducible refine gIf_f ?_ ?_ | with_reducible refine ite_t ?_ ?_ | with_reducible refine ite_p ?_ ?_) <;> (first | (have z := (hq1 : Dm); clear z hq1; intro hq1; try simp only [noR] at hq1) | (have z := (hq2 : Dm); clear z hq2; intro hq2; try simp only [noR] at hq2) | (have z := (hq3 : Dm); clear z hq3; intro hq3; try simp only [noR] at hq3) | (have z := (hq4 : Dm); clear z hq4; intro hq4; try simp only [noR] at hq4) | (have z := (hq5 : Dm); clear z hq5; intro hq5; try simp only [noR] at hq5) | (have z := (hq6 : Dm); clear z hq6; intro hq6; try simp only [noR] at hq6)) <;> (try simp -implicitDefEqProofs -dsimp (maxSteps := 2000000) (disch := (first | exact dz | fail)) only [go_sem, hq6, hq5, hq4, hq3, hq2, hq1, rewL, h1, h2])))) <;> (try with_reducible and_intros) <;> (first | exact fz | skip)
end
end Go.Proofs.YtcmjidnbbfcbjaaDoor.V.L1
/- What makes a new file's data; no condition. -/
namespace Go.Proofs.YtcmjidnbbfcbjaaDoor.V
open Go
set_option linter.unusedVariables false
set_option linter.unusedSimpArgs false
set_option maxRecDepth 100000
set_option maxHeartbeats 4000000
noncomputable section
variable {en : Env} {m : Mem}
variable {P : Program} {pol : Pol}
/-- A row behind six objects. -/
def Tl {α : Type} (f : α → List AV) {w : Nat} [Wide f w] (id : Nat) (l : List α) (v : AV) (t : Mem) : Prop := (l = [] ∧ v = .nilS ∧ t = []) ∨ (l ≠ [] ∧ ∃ ver, v = .own id ver 0 l.length w ∧ t = [.cells ver (l.flatMap f)])
section
variable {α : Type} {f : α → List AV} {w : Nat} [hw : Wide f w] {l : List α} {v : AV} {t : Mem} {a1 a2 a3 a4 a5 a6 : Ob}
theorem Tl.nil {id : Nat} : Tl f id [] .nilS [] := Or.inl ⟨rfl, rfl, rfl⟩
theorem Tl.rw (h : Tl f (m.length + 6) l v t) : RW f (m.length + 6) l v (m ++ a1 :: a2 :: a3 :: a4 :: a5 :: a6 :: t) := by
  refine ⟨by simp, ?_⟩
  rcases h with ⟨rfl, rfl, rfl⟩ | ⟨h0, ver, rfl, rfl⟩
  · exact Or.inl ⟨rfl, rfl, rfl⟩
  · exact Or.inr ⟨List.length_pos_iff.2 h0, m.length + 6, ver, rfl, Nat.le_refl _, by rw [getM]; rfl, flat_len (w := w) _⟩
theorem Tl.app (h : Tl f (m.length + 6) l v t) (x : α) {cs : List AV} (hcs : cs = f x) (hfit : Fits en (m.length + 6)) (hb : en.bar ≤ m.length + 6) (hn : l.length < 2 ^ 32) (hw64 : w ≤ 64) {tg : Nat} {K : Req → AV → Mem → Prop}
    (hK : ∀ r ver, AppLike r → K r (.own (m.length + 6) ver 0 (l ++ [x]).length w) (m ++ [a1, a2, a3, a4, a5, a6, .cells ver ((l ++ [x]).flatMap f)])) : WOf P pol en (appR tg w (some (kv v)) (some (.lst 1 cs))) (m ++ a1 :: a2 :: a3 :: a4 :: a5 :: a6 :: t) K := by
  subst hcs
  unfold kv at *
  have hwp := hw.pos
  have hroom : roomOk (l.length + 1) w = true := by simp only [roomOk, Bool.and_eq_true, decide_eq_true_eq]; omega
  rcases h with ⟨rfl, rfl, rfl⟩ | ⟨h0, ver, rfl, rfl⟩
  · rw [appR_nil, WOf_appnew]
    refine ⟨⟨by rw [hw.len]; omega, by simp, hroom, by omega⟩, ?_⟩
    have := fun r hr => hK r tg hr
    have e : (m ++ [a1, a2, a3, a4, a5, a6]).length = m.length + 6 := by simp
    rw [e, List.append_assoc]
    simpa using this _ (Or.inr (Or.inl ⟨_, _, _, _, _, rfl⟩))
  · have hid : m.length + 6 < (m ++ [a1, a2, a3, a4, a5, a6, Ob.cells ver (l.flatMap f)]).length := by simp
    rw [appR_own, WOf_app, getM]
    show cellsQ (some (Ob.cells ver (l.flatMap f))) _ _
    rw [cellsQ_some]
    refine ⟨rfl, ⟨by rw [hw.len]; omega, by rw [flat_len (w := w)]; omega, hroom, by omega⟩, okTo_fits hfit hb (Nat.le_refl _) _, ?_⟩
    rw [List.drop_zero, List.take_of_length_le (by rw [flat_len (w := w)]; omega)]
    have := fun r hr => hK r (nextV tg ver) hr
    rw [setM]
    simpa using this _ (Or.inl ⟨_, _, _, _, _, _, _, rfl⟩)
end
end
end Go.Proofs.YtcmjidnbbfcbjaaDoor.V
namespace Go.Proofs.YtcmjidnbbfcbjaaDoor.V.L1
open Go V
set_option linter.unusedVariables false
set_option linter.unusedSimpArgs false
set_option maxRecDepth 100000
set_option maxHeartbeats 4000000
noncomputable section
variable {en : Env} {m : Mem}
theorem rewriteE_ok (p is : List UInt8) (h1 : ¬[] = is) (hi : is.length ≤ 1048576) (hf : Fits en m.length) : WC Tryd.prog pol en (.func 23) [tx p, tx [], tx is] m fun v m' => v = slf opC ⟨true, false, rewL p [] is⟩ ∧ m' = m := by
  refine callPur Tryd.func23 rfl rfl Tryd.ntmps23 Tryd.results23 ?_
  (have hq1 : Dm := ⟨⟩; have hq2 : Dm := ⟨⟩; have hq3 : Dm := ⟨⟩; have hq4 : Dm := ⟨⟩; have hq5 : Dm := ⟨⟩; have hq6 : Dm := ⟨⟩) <;> (try simp -implicitDefEqProofs -dsimp (maxSteps := 2000000) (disch := (first | exact dz | fail)) only [go_sem, h1, chunk_eq]) <;> (repeat' (first | ((with_reducible refine ds_and ?_ ?_); focus exact kz) | ((with_reducible refine And.intro ?_ ?_); focus exact oz) | ((with_reducible refine pc_and ?_ ?_); focus exact pz) | ((first | with_reducible refine gIf_t ?_ ?_ | with_reducible refine gIf_f ?_ ?_ | with_reducible refine ite_t ?_ ?_ | with_reducible refine ite_p ?_ ?_) <;> (first | (have z := (hq1 : Dm); clear z hq1; intro hq1; try simp only [noR] at hq1) | (have z := (hq2 : Dm); clear z hq2; intro hq2; try simp only [noR] at hq2) | (have z := (hq3 : Dm); clear z hq3; intro hq3; try simp only [noR] at hq3) | (have z := (hq4 : Dm); clear z hq4; intro hq4; try simp only [noR] at hq4) | (have z := (hq5 : Dm); clear z hq5; intro hq5; try simp only [noR] at hq5) | (have z := (hq6 : Dm); clear z hq6; intro hq6; try simp only [noR] at hq6)) <;> (try simp -implicitDefEqProofs -dsimp (maxSteps := 2000000) (disch := (first | exact dz | fail)) only [go_sem, hq6, hq5, hq4, hq3, hq2, hq1, h1, chunk_eq])))) <;> (try with_reducible and_intros) <;> (first | exact fz | skip)
  refine rangeN rfl fun LO hLO => ?_
  refine callOpn Tryd.func53 rfl rfl Tryd.ntmps53 Tryd.results53 ?_
  (have hq1 : Dm := ⟨⟩; have hq2 : Dm := ⟨⟩; have hq3 : Dm := ⟨⟩; have hq4 : Dm := ⟨⟩; have hq5 : Dm := ⟨⟩; have hq6 : Dm := ⟨⟩) <;> (try simp -implicitDefEqProofs -dsimp (maxSteps := 2000000) (disch := (first | exact dz | fail)) only [go_sem, ]) <;> (repeat' (first | ((with_reducible refine ds_and ?_ ?_); focus exact kz) | ((with_reducible refine And.intro ?_ ?_); focus exact oz) | ((with_reducible refine pc_and ?_ ?_); focus exact pz) | ((first | with_reducible refine gIf_t ?_ ?_ | with_reducible refine gIf_f ?_ ?_ | with_reducible refine ite_t ?_ ?_ | with_reducible refine ite_p ?_ ?_) <;> (first | (have z := (hq1 : Dm); clear z hq1; intro hq1; try simp only [noR] at hq1) | (have z := (hq2 : Dm); clear z hq2; intro hq2; try simp only [noR] at hq2) | (have z := (hq3 : Dm); clear z hq3; intro hq3; try simp only [noR] at hq3) | (have z := (hq4 : Dm); clear z hq4; intro hq4; try simp only [noR] at hq4) | (have z := (hq5 : Dm); clear z hq5; intro hq5; try simp only [noR] at hq5) | (have z := (hq6 : Dm); clear z hq6; intro hq6; try simp only [noR] at hq6)) <;> (try simp -implicitDefEqProofs -dsimp (maxSteps := 2000000) (disch := (first | exact dz | fail)) only [go_sem, hq6, hq5, hq4, hq3, hq2, hq1])))) <;> (try with_reducible and_intros) <;> (first | exact fz | skip)
  have hpl := pieces_len p is
  refine loopF (fun k ts mm => ∃ (j : Nat) (v : AV) (t : Mem), ts.length = 31 ∧ tg ts 0 = .clo (.yield (m.length + 5)) [] [] ∧ tg ts 1 = .ptr (m.length + 3) (tagT 64) 0 ∧ tg ts 2 = .ptr (m.length + 4) (tagT 3) 0 ∧ tg ts 4 = I (j * 64 : Nat) ∧
    mm = m ++ .cells (tagT 9) [tx p] :: .cells (tagT 24) [kv v] :: .cells (tagT 3) [I (min (j * 64) is.length : Nat)] :: .cells (tagT 64) [sl u8v ⟨false, false, is⟩] :: .cells (tagT 3) [I 64] :: LO :: t ∧ Tl opC (m.length + 6) ((pieces p is).take j) v t ∧ j * 64 < is.length + 64 ∧ k = is.length + 64 - j * 64) (is.length + 64) ⟨0, _, _, rfl, rfl, rfl, rfl, rfl, rfl, Tl.nil, by omega, by omega⟩ ?_
  rintro k ts mm ⟨j, v, t, hl, h0, h1', h2', h4, rfl, hT, hj, rfl⟩
  rw [expandT hl]
  by_cases hlt : ((j * 64 : Nat) : Int) < (is.length : Int)
  · obtain ⟨e, hm, he1, he2, he3⟩ : ∃ e : Nat, (if ((is.drop (j * 64)).length : Int) < 64 then ((is.drop (j * 64)).length : Int) else 64) = (e : Int) ∧ e ≤ 64 ∧ j * 64 + e = min ((j + 1) * 64) is.length ∧ (is.drop (j * 64)).take e = (is.drop (j * 64)).take 64 := by
      by_cases hs : ((is.drop (j * 64)).length : Int) < 64
      · rw [List.length_drop] at hs
        exact ⟨(is.drop (j * 64)).length, by rw [if_pos (by rw [List.length_drop]; exact hs)], by rw [List.length_drop]; omega, by rw [List.length_drop]; omega, by rw [List.take_of_length_le (Nat.le_refl _), List.take_of_length_le (by rw [List.length_drop]; omega)]⟩
      · rw [List.length_drop] at hs
        exact ⟨64, by rw [if_neg (by rw [List.length_drop]; exact hs)]; rfl, by omega, by omega, rfl⟩
    have hmm : min (j * 64) is.length = j * 64 := by omega
    have hm2 : (((j * 64 : Nat) : Int) + (e : Int)).toNat = j * 64 + e := by omega
    have hm3 : j * 64 + e - j * 64 = e := by omega
    have hle : j * 64 + e ≤ is.length := by omega
    (have c1 : Dm := ⟨⟩; have c2 : Dm := ⟨⟩; have c3 : Dm := ⟨⟩; have c4 : Dm := ⟨⟩; have c5 : Dm := ⟨⟩; have c6 : Dm := ⟨⟩) <;> (try simp -implicitDefEqProofs -dsimp (maxSteps := 2000000) (disch := (first | exact dz | fail)) only [go_sem, h0, h1', h2', h4, hlt, hm, sl3D, hmm, hm2, hm3]) <;> (repeat' (first | ((with_reducible refine ds_and ?_ ?_); focus exact kz) | ((with_reducible refine And.intro ?_ ?_); focus exact oz) | ((with_reducible refine pc_and ?_ ?_); focus exact pz) | ((first | with_reducible refine gIf_t ?_ ?_ | with_reducible refine gIf_f ?_ ?_ | with_reducible refine ite_t ?_ ?_ | with_reducible refine ite_p ?_ ?_) <;> (first | (have z := (c1 : Dm); clear z c1; intro c1; try simp only [noR] at c1) | (have z := (c2 : Dm); clear z c2; intro c2; try simp only [noR] at c2) | (have z := (c3 : Dm); clear z c3; intro c3; try simp only [noR] at c3) | (have z := (c4 : Dm); clear z c4; intro c4; try simp only [noR] at c4) | (have z := (c5 : Dm); clear z c5; intro c5; try simp only [noR] at c5) | (have z := (c6 : Dm); clear z c6; intro c6; try simp only [noR] at c6)) <;> (try simp -implicitDefEqProofs -dsimp (maxSteps := 2000000) (disch := (first | exact dz | fail)) only [go_sem, c6, c5, c4, c3, c2, c1, h0, h1', h2', h4, hlt, hm, sl3D, hmm, hm2, hm3])))) <;> (try with_reducible and_intros) <;> (first | exact fz | skip)
    refine yieldF (p := none) (by simp) (by rw [getM, hLO]; rfl) rfl ?_
    (have c1 : Dm := ⟨⟩; have c2 : Dm := ⟨⟩; have c3 : Dm := ⟨⟩; have c4 : Dm := ⟨⟩; have c5 : Dm := ⟨⟩; have c6 : Dm := ⟨⟩) <;> (try simp -implicitDefEqProofs -dsimp (maxSteps := 2000000) (disch := (first | exact dz | fail)) only [go_sem, setMany, List.zip, List.zipWith]) <;> (repeat' (first | ((with_reducible refine ds_and ?_ ?_); focus exact kz) | ((with_reducible refine And.intro ?_ ?_); focus exact oz) | ((first | with_reducible refine gIf_t ?_ ?_ | with_reducible refine gIf_f ?_ ?_ | with_reducible refine ite_t ?_ ?_ | with_reducible refine ite_p ?_ ?_) <;> (first | (have z := (c1 : Dm); clear z c1; intro c1; try simp only [noR] at c1) | (have z := (c2 : Dm); clear z c2; intro c2; try simp only [noR] at c2) | (have z := (c3 : Dm); clear z c3; intro c3; try simp only [noR] at c3) | (have z := (c4 : Dm); clear z c4; intro c4; try simp only [noR] at c4) | (have z := (c5 : Dm); clear z c5; intro c5; try simp only [noR] at c5) | (have z := (c6 : Dm); clear z c6; intro c6; try simp only [noR] at c6)) <;> (try simp -implicitDefEqProofs -dsimp (maxSteps := 2000000) (disch := (first | exact dz | fail)) only [go_sem, c6, c5, c4, c3, c2, c1, setMany, List.zip, List.zipWith])))) <;> (try with_reducible and_intros) <;> (first | exact fzb | skip)
    refine ⟨_, _, _, _, _, congrArg some hLO, ?_⟩
    refine hT.app (piece p is j) (by simp [opC, piece, he3]) (by simpa using hf.upPur (by omega)) (by simp) (by rw [List.length_take]; omega) (by omega) ?_
    rintro r ver hr
    (have d1 : Dm := ⟨⟩; have d2 : Dm := ⟨⟩; have d3 : Dm := ⟨⟩; have d4 : Dm := ⟨⟩; have d5 : Dm := ⟨⟩; have d6 : Dm := ⟨⟩) <;> (try simp -implicitDefEqProofs -dsimp (maxSteps := 2000000) (disch := (first | exact dz | fail)) only [go_sem, ]) <;> (repeat' (first | ((with_reducible refine ds_and ?_ ?_); focus exact kz) | ((with_reducible refine And.intro ?_ ?_); focus exact oz) | ((first | with_reducible refine gIf_t ?_ ?_ | with_reducible refine gIf_f ?_ ?_ | with_reducible refine ite_t ?_ ?_ | with_reducible refine ite_p ?_ ?_) <;> (first | (have z := (d1 : Dm); clear z d1; intro d1; try simp only [noR] at d1) | (have z := (d2 : Dm); clear z d2; intro d2; try simp only [noR] at d2) | (have z := (d3 : Dm); clear z d3; intro d3; try simp only [noR] at d3) | (have z := (d4 : Dm); clear z d4; intro d4; try simp only [noR] at d4) | (have z := (d5 : Dm); clear z d5; intro d5; try simp only [noR] at d5) | (have z := (d6 : Dm); clear z d6; intro d6; try simp only [noR] at d6)) <;> (try simp -implicitDefEqProofs -dsimp (maxSteps := 2000000) (disch := (first | exact dz | fail)) only [go_sem, d6, d5, d4, d3, d2, d1])))) <;> (try with_reducible and_intros) <;> (first | exact fzb | skip)
    refine ⟨_, _, _, _, _, _, rfl, ?_⟩
    rw [if_neg (by simp [X.jump])]
    refine ⟨is.length + 64 - (j + 1) * 64, by omega, j + 1, .own (m.length + 6) ver 0 ((pieces p is).take (j + 1)).length 5, [.cells ver (((pieces p is).take (j + 1)).flatMap opC)], ?_, ?_, Or.inr ⟨by rw [pieces_step (by omega)]; simp, ver, rfl, rfl⟩, by omega, rfl⟩
    · refine congrArg (fun n => AV.sc (.int .i64 n)) ?_
      omega
    · have e2 : ((j * 64 : Nat) : Int) + ((List.take e (List.drop (j * 64) is)).length : Int) = ((min ((j + 1) * 64) is.length : Nat) : Int) := by rw [List.length_take, List.length_drop]; omega
      rw [hLO, pieces_step (by omega)]
      unfold kv
      exact congrArg _ (congrArg _ (congr (congrArg _ (congrArg (fun n => Ob.cells (tagT 24) [AV.own (m.length + 6) ver 0 n 5]) (by simp))) (congr (congrArg _ (congrArg (fun n => Ob.cells (tagT 3) [AV.sc (.int .i64 n)]) e2)) rfl)))
  · have htk : (pieces p is).take j = pieces p is := List.take_of_length_le (by omega)
    rw [htk] at hT
    have hne : is.length ≠ 0 := fun e => h1 (List.eq_nil_of_length_eq_zero e).symm
    unfold kv
    rcases hT with ⟨h, _⟩ | ⟨_, ver, rfl, rfl⟩
    · rw [h] at hpl
      simp at hpl
      omega
    (have c1 : Dm := ⟨⟩; have c2 : Dm := ⟨⟩; have c3 : Dm := ⟨⟩; have c4 : Dm := ⟨⟩; have c5 : Dm := ⟨⟩; have c6 : Dm := ⟨⟩) <;> (try simp -implicitDefEqProofs -dsimp (maxSteps := 2000000) (disch := (first | exact dz | fail)) only [go_sem, h0, h1', h2', h4, hlt]) <;> (repeat' (first | ((with_reducible refine ds_and ?_ ?_); focus exact kz) | ((with_reducible refine And.intro ?_ ?_); focus exact oz) | ((with_reducible refine pc_and ?_ ?_); focus exact pz) | ((first | with_reducible refine gIf_t ?_ ?_ | with_reducible refine gIf_f ?_ ?_ | with_reducible refine ite_t ?_ ?_ | with_reducible refine ite_p ?_ ?_) <;> (first | (have z := (c1 : Dm); clear z c1; intro c1; try simp only [noR] at c1) | (have z := (c2 : Dm); clear z c2; intro c2; try simp only [noR] at c2) | (have z := (c3 : Dm); clear z c3; intro c3; try simp only [noR] at c3) | (have z := (c4 : Dm); clear z c4; intro c4; try simp only [noR] at c4) | (have z := (c5 : Dm); clear z c5; intro c5; try simp only [noR] at c5) | (have z := (c6 : Dm); clear z c6; intro c6; try simp only [noR] at c6)) <;> (try simp -implicitDefEqProofs -dsimp (maxSteps := 2000000) (disch := (first | exact dz | fail)) only [go_sem, c6, c5, c4, c3, c2, c1, h0, h1', h2', h4, hlt])))) <;> (try with_reducible and_intros) <;> (first | exact fz | skip)
    refine ⟨_, _, _, _, _, _, congrArg some hLO, nofun, ?_⟩
    refine Eq.mpr (RW.frz (f := opC) (b := m.length + 6) (l := pieces p is) ⟨by simp, Or.inr ⟨by omega, m.length + 6, ver, rfl, Nat.le_refl _, by rw [getM]; rfl, flat_len (w := 5) _⟩⟩ (by omega) 6 _) ?_
    (have hq1 : Dm := ⟨⟩; have hq2 : Dm := ⟨⟩; have hq3 : Dm := ⟨⟩; have hq4 : Dm := ⟨⟩; have hq5 : Dm := ⟨⟩; have hq6 : Dm := ⟨⟩) <;> (try simp -implicitDefEqProofs -dsimp (maxSteps := 2000000) (disch := (first | exact dz | fail)) only [go_sem, rewL, h1]) <;> (repeat' (first | ((with_reducible refine ds_and ?_ ?_); focus exact kz) | ((with_reducible refine And.intro ?_ ?_); focus exact oz) | ((with_reducible refine pc_and ?_ ?_); focus exact pz) | ((first | with_reducible refine gIf_t ?_ ?_ | with_reducible refine gIf_f ?_ ?_ | with_reducible refine ite_t ?_ ?_ | with_reducible refine ite_p ?_ ?_) <;> (first | (have z := (hq1 : Dm); clear z hq1; intro hq1; try simp only [noR] at hq1) | (have z := (hq2 : Dm); clear z hq2; intro hq2; try simp only [noR] at hq2) | (have z := (hq3 : Dm); clear z hq3; intro hq3; try simp only [noR] at hq3) | (have z := (hq4 : Dm); clear z hq4; intro hq4; try simp only [noR] at hq4) | (have z := (hq5 : Dm); clear z hq5; intro hq5; try simp only [noR] at hq5) | (have z := (hq6 : Dm); clear z hq6; intro hq6; try simp only [noR] at hq6)) <;> (try simp -implicitDefEqProofs -dsimp (maxSteps := 2000000) (disch := (first | exact dz | fail)) only [go_sem, hq6, hq5, hq4, hq3, hq2, hq1, rewL, h1])))) <;> (try with_reducible and_intros) <;> (first | exact fz | skip)
theorem rewrite_ok (p was is : List UInt8) (hi : is.length ≤ 1048576) (hf : Fits en m.length) : WC Tryd.prog pol en (.func 23) [tx p, tx was, tx is] m fun v m' => v = slf opC ⟨true, false, rewL p was is⟩ ∧ m' = m := by
  by_cases h1 : was = is
  · refine callPur Tryd.func23 rfl rfl Tryd.ntmps23 Tryd.results23 ?_
    (have hq1 : Dm := ⟨⟩; have hq2 : Dm := ⟨⟩; have hq3 : Dm := ⟨⟩; have hq4 : Dm := ⟨⟩; have hq5 : Dm := ⟨⟩; have hq6 : Dm := ⟨⟩) <;> (try simp -implicitDefEqProofs -dsimp (maxSteps := 2000000) (disch := (first | exact dz | fail)) only [go_sem, h1]) <;> (repeat' (first | ((with_reducible refine ds_and ?_ ?_); focus exact kz) | ((with_reducible refine And.intro ?_ ?_); focus exact oz) | ((with_reducible refine pc_and ?_ ?_); focus exact pz) | ((first | with_reducible refine gIf_t ?_ ?_ | with_reducible refine gIf_f ?_ ?_ | with_reducible refine ite_t ?_ ?_ | with_reducible refine ite_p ?_ ?_) <;> (first | (have z := (hq1 : Dm); clear z hq1; intro hq1; try simp only [noR] at hq1) | (have z := (hq2 : Dm); clear z hq2; intro hq2; try simp only [noR] at hq2) | (have z := (hq3 : Dm); clear z hq3; intro hq3; try simp only [noR] at hq3) | (have z := (hq4 : Dm); clear z hq4; intro hq4; try simp only [noR] at hq4) | (have z := (hq5 : Dm); clear z hq5; intro hq5; try simp only [noR] at hq5) | (have z := (hq6 : Dm); clear z hq6; intro hq6; try simp only [noR] at hq6)) <;> (try simp -implicitDefEqProofs -dsimp (maxSteps := 2000000) (disch := (first | exact dz | fail)) only [go_sem, hq6, hq5, hq4, hq3, hq2, hq1, h1])))) <;> (try with_reducible and_intros) <;> (first | exact fz | skip)
    simp [rewL, slf]
  · by_cases h2 : was = []
    · subst h2; exact rewriteE_ok p is h1 hi hf
    · exact rewriteN_ok p was is h1 h2 hi hf
end
end Go.Proofs.YtcmjidnbbfcbjaaDoor.V.L1
/- Room for more, and lists set end to end; no condition. -/
namespace Go.Proofs.YtcmjidnbbfcbjaaDoor.V
open Go
set_option linter.unusedVariables false
set_option linter.unusedSimpArgs false
set_option maxRecDepth 100000
set_option maxHeartbeats 4000000
noncomputable section
variable {en : Env} {m : Mem}
variable {P : Program} {pol : Pol} {ρ : Operand → Option AV} {d : Option Tmp} {ty : TypeId} {p : String} {af : Array Edge} {gd : Option (Nat × Bool)}
def capR (v : Option AV) (dt : Option TypeDesc) (g : Option Req) : Option Req :=
  match v, dt with
  | some (.lst n _ true), some (.slice _) => some (.val (.sc (.int .i64 n)))
  | some .nilS, some (.slice _) => some (.val (.sc (.int .i64 0)))
  | _, _ => g
@[go_sem] theorem plan_cap (a : Operand) (t : TypeId) : plan P ρ ⟨d, .call ⟨.builtin .cap, ⟨[a]⟩, ⟨[t]⟩⟩, ty, p, af, gd⟩ = capR (ρ a) (P.underlying t) (generic P ρ ⟨d, .call ⟨.builtin .cap, ⟨[a]⟩, ⟨[t]⟩⟩, ty, p, af, gd⟩) := rfl
@[go_sem] theorem capR_nil (e : TypeId) (g : Option Req) : capR (some .nilS) (some (.slice e)) g = some (.val (I 0)) := rfl
/-- 'append' of so many zeros. -/
def appZ (P : Program) (t t1 : TypeId) : Option (Nat × Nat × AV) :=
  match elemOfS P t, P.underlying t1 with
  | some e, some (.int _) => match P.info? e, zeroOf P e with
    | some ie, some z => if z.cells.length ≠ ie.size || ie.bytes > 1024 then none else some (tagT e, ie.size, z)
    | _, _ => none
  | _, _ => none
def mkaR (tg s : Nat) (z : AV) (a x : Option AV) : Option Req :=
  match x with
  | some (.sc (.int .i64 n)) => if 0 ≤ n ∧ n ≤ 4294967296 then appR tg s a (some (.lst n.toNat (List.replicate n.toNat z.cells).flatten)) else none
  | _ => none
theorem plan_appMk {a x : Operand} {t t1 : TypeId} {tg s : Nat} {z : AV} (h : appZ P t t1 = some (tg, s, z)) :
    plan P ρ ⟨d, .call ⟨.builtin .append, ⟨[a, x]⟩, ⟨[t, t1]⟩⟩, ty, p, af, gd⟩ = mkaR tg s z (ρ a) (ρ x) := by
  show planB P ρ ⟨d, .call ⟨.builtin .append, ⟨[a, x]⟩, ⟨[t, t1]⟩⟩, ty, p, af, gd⟩ .append ⟨[a, x]⟩ ⟨[t, t1]⟩ = _
  unfold appZ at h
  split at h
  case h_2 => cases h
  rename_i e k he hd
  split at h
  case h_2 => cases h
  rename_i ie z' hi hz
  split at h
  · cases h
  rename_i hc
  cases h
  simp only [planB]
  have e0 : ((⟨[t, t1]⟩ : Array TypeId)[0]?).bind (elemOfS P) = some e := he
  have e1 : ((⟨[t, t1]⟩ : Array TypeId)[1]?).bind P.underlying = some (.int k) := hd
  rw [e0, e1]
  simp only [hi, hz, appSrc, if_neg hc]
  unfold mkaR
  cases hx : ρ x with
  | none => rfl
  | some v =>
    cases v with
    | sc u =>
      cases u with
      | int k' n =>
        cases k' with
        | i64 =>
          by_cases hn : 0 ≤ n ∧ n ≤ 4294967296
          · simp only [if_pos hn]
            unfold appR
            cases ρ a with
            | none => rfl
            | some w => cases w <;> rfl
          · simp only [if_neg hn]
        | _ => rfl
      | _ => rfl
    | _ => rfl
@[go_sem] theorem mkaR_nat (tg s : Nat) (z : AV) (a : Option AV) (n : Int) : mkaR tg s z a (some (.sc (.int .i64 n))) = if 0 ≤ n ∧ n ≤ 4294967296 then appR tg s a (some (.lst n.toNat (List.replicate n.toNat z.cells).flatten)) else none := rfl
@[go_sem] theorem slR_nil0 (k : IntKind) (s : Nat) (g : Option Req) (an : Option (Nat × Nat)) : slR g an (some .nilS) (some s) (some none) (some (some (k, (0 : Int)))) = some (.val .nilS) := rfl
theorem slR_own0 (id ver n w : Nat) (k : IntKind) (g : Option Req) (an : Option (Nat × Nat)) : slR g an (some (.own id ver 0 n w)) (some w) (some none) (some (some (k, (0 : Int)))) = some (.val (.own id ver 0 0 w)) := by
  simp [slR, bounds]
theorem zerosL (n w : Nat) (c : List AV) (hc : c.length = w) : (List.replicate n c).flatten.length = n * w := by
  rw [List.length_flatten, List.map_replicate, hc, List.sum_replicate_nat]
end
end Go.Proofs.YtcmjidnbbfcbjaaDoor.V
namespace Go.Proofs.YtcmjidnbbfcbjaaDoor.V.L1
open Go V
set_option linter.unusedVariables false
set_option linter.unusedSimpArgs false
set_option maxRecDepth 100000
set_option maxHeartbeats 4000000
noncomputable section
variable {en : Env} {m : Mem}
theorem zOps : appZ Tryd.prog 24 3 = some (52, 5, .agg (opC ⟨0, [], [], 0, []⟩)) := by kernel_rfl
theorem grow_ok (n : Nat) (hn : n ≤ 4294967296) (hf : Fits en m.length) : WC Tryd.prog pol en (.func 42) [.nilS, I n] m fun v m' => if n = 0 then v = .nilS ∧ m' = m else v = .own m.length 52 0 0 5 ∧ m' = m ++ [.cells 52 (List.replicate n (opC ⟨0, [], [], 0, []⟩)).flatten] := by
  rcases n with _ | n
  · refine callOpn Tryd.func42 rfl rfl Tryd.ntmps42 Tryd.results42 ?_
    (have hq1 : Dm := ⟨⟩; have hq2 : Dm := ⟨⟩; have hq3 : Dm := ⟨⟩; have hq4 : Dm := ⟨⟩; have hq5 : Dm := ⟨⟩; have hq6 : Dm := ⟨⟩) <;> (try simp -implicitDefEqProofs -dsimp (maxSteps := 2000000) (disch := (first | exact dz | fail)) only [go_sem, Int.natCast_zero]) <;> (repeat' (first | ((with_reducible refine ds_and ?_ ?_); focus exact kz) | ((with_reducible refine And.intro ?_ ?_); focus exact oz) | ((with_reducible refine pc_and ?_ ?_); focus exact pz) | ((first | with_reducible refine gIf_t ?_ ?_ | with_reducible refine gIf_f ?_ ?_ | with_reducible refine ite_t ?_ ?_ | with_reducible refine ite_p ?_ ?_) <;> (first | (have z := (hq1 : Dm); clear z hq1; intro hq1; try simp only [noR] at hq1) | (have z := (hq2 : Dm); clear z hq2; intro hq2; try simp only [noR] at hq2) | (have z := (hq3 : Dm); clear z hq3; intro hq3; try simp only [noR] at hq3) | (have z := (hq4 : Dm); clear z hq4; intro hq4; try simp only [noR] at hq4) | (have z := (hq5 : Dm); clear z hq5; intro hq5; try simp only [noR] at hq5) | (have z := (hq6 : Dm); clear z hq6; intro hq6; try simp only [noR] at hq6)) <;> (try simp -implicitDefEqProofs -dsimp (maxSteps := 2000000) (disch := (first | exact dz | fail)) only [go_sem, hq6, hq5, hq4, hq3, hq2, hq1, Int.natCast_zero])))) <;> (try with_reducible and_intros) <;> (first | exact fz | skip)
  · refine callOpn Tryd.func42 rfl rfl Tryd.ntmps42 Tryd.results42 ?_
    have hroom : roomOk (0 + (n + 1)) 5 = true := by simp only [roomOk, Bool.and_eq_true, decide_eq_true_eq]; omega
    have hz := zerosL (n + 1) 5 [AV.sc (Value.int IntKind.u8 0), tx [], tx [], I 0, tx []] rfl
    (have hq1 : Dm := ⟨⟩; have hq2 : Dm := ⟨⟩; have hq3 : Dm := ⟨⟩; have hq4 : Dm := ⟨⟩; have hq5 : Dm := ⟨⟩; have hq6 : Dm := ⟨⟩) <;> (try simp -implicitDefEqProofs -dsimp (maxSteps := 2000000) (disch := (first | exact dz | fail)) only [go_sem, plan_appMk zOps, Int.sub_zero, slR_own0, AV.cells, hroom, hz]) <;> (repeat' (first | ((with_reducible refine ds_and ?_ ?_); focus exact kz) | ((with_reducible refine And.intro ?_ ?_); focus exact oz) | ((with_reducible refine pc_and ?_ ?_); focus exact pz) | ((first | with_reducible refine gIf_t ?_ ?_ | with_reducible refine gIf_f ?_ ?_ | with_reducible refine ite_t ?_ ?_ | with_reducible refine ite_p ?_ ?_) <;> (first | (have z := (hq1 : Dm); clear z hq1; intro hq1; try simp only [noR] at hq1) | (have z := (hq2 : Dm); clear z hq2; intro hq2; try simp only [noR] at hq2) | (have z := (hq3 : Dm); clear z hq3; intro hq3; try simp only [noR] at hq3) | (have z := (hq4 : Dm); clear z hq4; intro hq4; try simp only [noR] at hq4) | (have z := (hq5 : Dm); clear z hq5; intro hq5; try simp only [noR] at hq5) | (have z := (hq6 : Dm); clear z hq6; intro hq6; try simp only [noR] at hq6)) <;> (try simp -implicitDefEqProofs -dsimp (maxSteps := 2000000) (disch := (first | exact dz | fail)) only [go_sem, hq6, hq5, hq4, hq3, hq2, hq1, plan_appMk zOps, Int.sub_zero, slR_own0, AV.cells, hroom, hz])))) <;> (try with_reducible and_intros) <;> (first | exact fz | skip)
    · exact hz
/-- A row that may be nil. -/
def RowV (b : Nat) (v : AV) (l : List Pn) (m : Mem) : Prop := (l = [] ∧ v = .nilS) ∨ (l ≠ [] ∧ ∃ id ver, v = .own id ver 0 l.length 5 ∧ m[id]? = some (.cells ver (l.flatMap opC)) ∧ id < b)
theorem RowV.len {b : Nat} {v : AV} {l : List Pn} (h : RowV b v l m) (e : TypeId) (g : Option Req) : lenR (some (kv v)) (some (.slice e)) g = some (.val (I l.length)) := by
  rcases h with ⟨rfl, rfl⟩ | ⟨_, id, ver, rfl, _⟩ <;> rfl
theorem rd_all {i v : Nat} {cs : List AV} {n : Nat} (h : m[i]? = some (.cells v cs)) (hn : cs.length = n) : rd m i v 0 n = some cs := by
  unfold rd
  rw [lget_eq, h]
  simp [← hn]
theorem WOf_appOwn {P : Program} {pol : Pol} {tg id ver off len esz i2 v2 o2 n2 : Nat} {ys : List AV} (h2 : rd m i2 v2 o2 (n2 * esz) = some ys) (hy : ys.length = n2 * esz) {k : Req → AV → Mem → Prop} (h : WOf P pol en (some (.app tg id ver off len esz (.lst n2 ys))) m (fun _ => k (.app tg id ver off len esz (.own i2 v2 o2 n2 esz)))) : WOf P pol en (some (.app tg id ver off len esz (.own i2 v2 o2 n2 esz))) m k := by
  simp only [WOf, perform, srcCells, if_pos rfl, h2, Option.map_some, if_pos hy] at h ⊢
  exact h
/-- The list that grows in 'Concat'. -/
structure CC (N base : Nat) (L : List Pn) (v : AV) (m m' : Mem) : Prop where
  old : ∀ j, j < base → m'[j]? = m[j]?
  row : (N = 0 ∧ v = .nilS) ∨ (0 < N ∧ ∃ ver cs, v = .own base ver 0 L.length 5 ∧ m'[base]? = some (.cells ver cs) ∧ L.length * 5 ≤ cs.length ∧ cs.take (L.length * 5) = L.flatMap opC)
theorem CC.app {pol : Pol} {P : Program} {N base b : Nat} {L l : List Pn} {v w : AV} {m' : Mem} (h : CC N base L v m m') (hr : RowV b w l m) (hb : b ≤ base) (hN : (L ++ l).length ≤ N) (hN2 : N ≤ 4294967296) (hfit : Fits en base) (hbar : en.bar ≤ base) {tg : Nat} {K : Req → AV → Mem → Prop}
    (hK : ∀ r v' m2, CC N base (L ++ l) v' m m2 → AppLike r → K r (kv v') m2) : WOf P pol en (appR tg 5 (some (kv v)) (srcR (some (kv w)))) m' K := by
  obtain ⟨hold, hrow⟩ := h
  rw [List.length_append] at hN
  unfold kv at *
  rcases hr with ⟨rfl, rfl⟩ | ⟨hl0, i2, v2, rfl, hi2, hib⟩
  · have e0 : appR tg 5 (some v) (srcR (some .nilS)) = some (.val v) := by
      rcases hrow with ⟨_, rfl⟩ | ⟨_, ver, cs, rfl, _⟩ <;> simp [appR, srcR, srcOf, Src.n]
    rw [e0, WOf_val]
    exact hK _ _ _ (by rw [List.append_nil]; exact ⟨hold, hrow⟩) (Or.inr (Or.inr ⟨_, rfl⟩))
  · have hlp : 0 < l.length := List.length_pos_iff.2 hl0
    rcases hrow with ⟨h0, rfl⟩ | ⟨h0, ver, cs, rfl, hc, hcl, hct⟩
    · omega
    · have hi3 : m'[i2]? = some (.cells v2 (l.flatMap opC)) := by rw [hold i2 (by omega)]; exact hi2
      have hfl := flat_len (f := opC) l
      have hroom : roomOk (L.length + l.length) 5 = true := by simp only [roomOk, Bool.and_eq_true, decide_eq_true_eq]; omega
      have hbl : base < m'.length := (List.getElem?_eq_some_iff.1 hc).1
      have e0 : appR tg 5 (some (.own base ver 0 L.length 5)) (srcR (some (.own i2 v2 0 l.length 5))) = some (.app tg base ver 0 L.length 5 (.own i2 v2 0 l.length 5)) := by
        have : ¬ l.length = 0 := by omega
        simp [appR, srcR, srcOf, Src.n, hl0]
      rw [e0]
      refine WOf_appOwn (rd_all hi3 hfl) hfl ?_
      rw [WOf_app, hc, cellsQ_some]
      refine ⟨rfl, ⟨hfl, by omega, hroom, hlp⟩, okTo_fits hfit hbar (Nat.le_refl _) _, ?_⟩
      rw [List.drop_zero, hct]
      refine hK _ _ _ ⟨fun j hj => ?_, Or.inr ⟨h0, nextV tg ver, (L ++ l).flatMap opC, by simp, by rw [List.getElem?_set_self hbl]; simp, by rw [flat_len (f := opC)]; exact Nat.le_refl _, List.take_of_length_le (by rw [flat_len (f := opC)]; exact Nat.le_refl _)⟩⟩ (Or.inl ⟨_, _, _, _, _, _, _, rfl⟩)
      rw [List.getElem?_set_ne (by omega)]
      exact hold j hj
theorem CC.frz {N base : Nat} {L : List Pn} {v : AV} {m' : Mem} (h : CC N base L v m m') (hL : L.length = N) (d : Nat) (k : AV → Prop) : frzQ m' base (d + 2) (kv v) k = k (slf opC ⟨true, false, L⟩) := by
  unfold kv
  rcases h.row with ⟨h0, rfl⟩ | ⟨h0, ver, cs, rfl, hc, hcl, hct⟩
  · rw [frzQ_nilS, List.eq_nil_of_length_eq_zero (hL.trans h0)]; rfl
  · have hl : L ≠ [] := by rintro rfl; simp at hL; omega
    have h7 : (L.flatMap opC).mapM (V.frz m' base (d + 1)) = some (L.flatMap opC) := by
      have : ∀ cs : List AV, (∀ c ∈ cs, Clean c ∧ ∀ t u, c ≠ .ifc t u) → cs.mapM (V.frz m' base (d + 1)) = some cs := fun cs => by
        induction cs with
        | nil => intro _; rfl
        | cons c cs ih =>
          intro hc
          obtain ⟨h1, h2⟩ := hc c (by simp)
          simp only [List.mapM_cons, ih (fun c h => hc c (by simp [h])), clean_frz h1 m' base d h2]; rfl
      refine this _ fun c hc => ?_
      rw [List.mem_flatMap] at hc
      obtain ⟨a, _, hc⟩ := hc
      have hw : Wide opC 5 := inferInstance
      exact hw.clean a c hc
    have e6 : V.frz m' base (d + 2) (.own base ver 0 L.length 5) = some (slf opC ⟨true, false, L⟩) := by
      rw [V.frz]
      rw [if_neg (by omega), lget_eq, hc]
      simp only
      rw [if_pos ⟨trivial, by omega⟩, List.drop_zero, hct, h7]
      simp only
      rw [if_pos (flat_leaf (f := opC) (w := 5) L)]
      simp [slf, hl]
    unfold frzQ
    rw [e6]; simp
theorem concat_ok (vs : List AV) (ls : List (List Pn)) {b : Nat} (hvl : vs.length = ls.length) (hv : ∀ (i : Nat) (v : AV), vs[i]? = some v → ∃ l, ls[i]? = some l ∧ RowV b v l m) (hb : b ≤ m.length) (hl : ls.flatten.length ≤ 4294967296) (hl5 : ls.length ≤ 64) (hf : Fits en m.length) :
    WC Tryd.prog pol en (.func 24) [sl kv ⟨false, true, vs⟩] m fun v m' => v = slf opC ⟨true, false, ls.flatten⟩ ∧ m' = m := by
  refine callPur Tryd.func24 rfl rfl Tryd.ntmps24 Tryd.results24 ?_
  (have hq1 : Dm := ⟨⟩; have hq2 : Dm := ⟨⟩; have hq3 : Dm := ⟨⟩; have hq4 : Dm := ⟨⟩; have hq5 : Dm := ⟨⟩; have hq6 : Dm := ⟨⟩) <;> (try simp -implicitDefEqProofs -dsimp (maxSteps := 2000000) (disch := (first | exact dz | fail)) only [go_sem, ]) <;> (repeat' (first | ((with_reducible refine ds_and ?_ ?_); focus exact kz) | ((with_reducible refine And.intro ?_ ?_); focus exact oz) | ((with_reducible refine pc_and ?_ ?_); focus exact pz) | ((first | with_reducible refine gIf_t ?_ ?_ | with_reducible refine gIf_f ?_ ?_ | with_reducible refine ite_t ?_ ?_ | with_reducible refine ite_p ?_ ?_) <;> (first | (have z := (hq1 : Dm); clear z hq1; intro hq1; try simp only [noR] at hq1) | (have z := (hq2 : Dm); clear z hq2; intro hq2; try simp only [noR] at hq2) | (have z := (hq3 : Dm); clear z hq3; intro hq3; try simp only [noR] at hq3) | (have z := (hq4 : Dm); clear z hq4; intro hq4; try simp only [noR] at hq4) | (have z := (hq5 : Dm); clear z hq5; intro hq5; try simp only [noR] at hq5) | (have z := (hq6 : Dm); clear z hq6; intro hq6; try simp only [noR] at hq6)) <;> (try simp -implicitDefEqProofs -dsimp (maxSteps := 2000000) (disch := (first | exact dz | fail)) only [go_sem, hq6, hq5, hq4, hq3, hq2, hq1])))) <;> (try with_reducible and_intros) <;> (first | exact fz | skip)
  refine loopF (fun k ts m' => ∃ (i : Nat), ts.length = 36 ∧ tg ts 0 = sl kv ⟨false, true, vs⟩ ∧ tg ts 3 = I (ls.take i).flatten.length ∧ tg ts 9 = sl kv ⟨false, true, vs⟩ ∧ tg ts 10 = I vs.length ∧ tg ts 11 = I i ∧ m' = m ∧ i ≤ vs.length ∧ k = vs.length - i) vs.length ⟨0, rfl, rfl, rfl, rfl, rfl, rfl, rfl, by omega, by omega⟩ ?_
  rintro k ts m' ⟨i, hln, h0, h3, h9, h10, h11, rfl, hi, rfl⟩
  rw [expandT hln]
  by_cases hlt : (i : Int) < (vs.length : Int)
  · obtain ⟨v, hvi⟩ : ∃ v, vs[i]? = some v := ⟨_, List.getElem?_eq_getElem (by omega)⟩
    obtain ⟨l, hli, hr⟩ := hv i v hvi
    have hst : (ls.take (i + 1)).flatten.length = (ls.take i).flatten.length + l.length := by rw [List.take_add_one, hli]; simp
    have hle : (ls.take (i + 1)).flatten.length ≤ ls.flatten.length := by
      conv => rhs; rw [← List.take_append_drop (i + 1) ls, List.flatten_append, List.length_append]
      omega
    (have c1 : Dm := ⟨⟩; have c2 : Dm := ⟨⟩; have c3 : Dm := ⟨⟩; have c4 : Dm := ⟨⟩; have c5 : Dm := ⟨⟩; have c6 : Dm := ⟨⟩) <;> (try simp -implicitDefEqProofs -dsimp (maxSteps := 2000000) (disch := (first | exact dz | fail)) only [go_sem, h0, h3, h9, h10, h11, hlt, hvi, hr.len]) <;> (repeat' (first | ((with_reducible refine ds_and ?_ ?_); focus exact kz) | ((with_reducible refine And.intro ?_ ?_); focus exact oz) | ((with_reducible refine pc_and ?_ ?_); focus exact pz) | ((first | with_reducible refine gIf_t ?_ ?_ | with_reducible refine gIf_f ?_ ?_ | with_reducible refine ite_t ?_ ?_ | with_reducible refine ite_p ?_ ?_) <;> (first | (have z := (c1 : Dm); clear z c1; intro c1; try simp only [noR] at c1) | (have z := (c2 : Dm); clear z c2; intro c2; try simp only [noR] at c2) | (have z := (c3 : Dm); clear z c3; intro c3; try simp only [noR] at c3) | (have z := (c4 : Dm); clear z c4; intro c4; try simp only [noR] at c4) | (have z := (c5 : Dm); clear z c5; intro c5; try simp only [noR] at c5) | (have z := (c6 : Dm); clear z c6; intro c6; try simp only [noR] at c6)) <;> (try simp -implicitDefEqProofs -dsimp (maxSteps := 2000000) (disch := (first | exact dz | fail)) only [go_sem, c6, c5, c4, c3, c2, c1, h0, h3, h9, h10, h11, hlt, hvi, hr.len])))) <;> (try with_reducible and_intros) <;> (first | exact fz | skip)
    exact ⟨_, by omega, i + 1, congrArg (fun n => AV.sc (.int .i64 n)) (by omega), rfl, by omega, rfl⟩
  · have hte : (ls.take i) = ls := List.take_of_length_le (by omega)
    rw [hte] at h3
    (have c1 : Dm := ⟨⟩; have c2 : Dm := ⟨⟩; have c3 : Dm := ⟨⟩; have c4 : Dm := ⟨⟩; have c5 : Dm := ⟨⟩; have c6 : Dm := ⟨⟩) <;> (try simp -implicitDefEqProofs -dsimp (maxSteps := 2000000) (disch := (first | exact dz | fail)) only [go_sem, h0, h3, h9, h10, h11, hlt]) <;> (repeat' (first | ((with_reducible refine ds_and ?_ ?_); focus exact kz) | ((with_reducible refine And.intro ?_ ?_); focus exact oz) | ((with_reducible refine pc_and ?_ ?_); focus exact pz) | ((first | with_reducible refine gIf_t ?_ ?_ | with_reducible refine gIf_f ?_ ?_ | with_reducible refine ite_t ?_ ?_ | with_reducible refine ite_p ?_ ?_) <;> (first | (have z := (c1 : Dm); clear z c1; intro c1; try simp only [noR] at c1) | (have z := (c2 : Dm); clear z c2; intro c2; try simp only [noR] at c2) | (have z := (c3 : Dm); clear z c3; intro c3; try simp only [noR] at c3) | (have z := (c4 : Dm); clear z c4; intro c4; try simp only [noR] at c4) | (have z := (c5 : Dm); clear z c5; intro c5; try simp only [noR] at c5) | (have z := (c6 : Dm); clear z c6; intro c6; try simp only [noR] at c6)) <;> (try simp -implicitDefEqProofs -dsimp (maxSteps := 2000000) (disch := (first | exact dz | fail)) only [go_sem, c6, c5, c4, c3, c2, c1, h0, h3, h9, h10, h11, hlt])))) <;> (try with_reducible and_intros) <;> (first | exact fz | skip)
    refine (grow_ok _ hl (hf.upPur (Nat.le_refl _))).mono ?_
    intro v m2 hg
    have hC : CC ls.flatten.length m'.length [] v m' m2 ∧ m'.length ≤ m2.length := by
      by_cases hn : ls.flatten.length = 0
      · rw [if_pos hn] at hg
        obtain ⟨rfl, rfl⟩ := hg
        exact ⟨⟨fun _ _ => rfl, Or.inl ⟨hn, rfl⟩⟩, Nat.le_refl _⟩
      · rw [if_neg hn] at hg
        obtain ⟨rfl, rfl⟩ := hg
        exact ⟨⟨fun j hj => List.getElem?_append_left hj, Or.inr ⟨by omega, _, _, rfl, by rw [List.getElem?_append_right (Nat.le_refl _), Nat.sub_self]; rfl, by simp, by simp⟩⟩, by simp⟩
    clear hg
    obtain ⟨w, hw⟩ : ∃ w, v = kv w := ⟨v, rfl⟩
    rw [hw]
    have ew : v = w := hw
    clear hw
    subst ew
    (have d1 : Dm := ⟨⟩; have d2 : Dm := ⟨⟩; have d3 : Dm := ⟨⟩; have d4 : Dm := ⟨⟩; have d5 : Dm := ⟨⟩; have d6 : Dm := ⟨⟩) <;> (try simp -implicitDefEqProofs -dsimp (maxSteps := 2000000) (disch := (first | exact dz | fail)) only [go_sem, ]) <;> (repeat' (first | ((with_reducible refine ds_and ?_ ?_); focus exact kz) | ((with_reducible refine And.intro ?_ ?_); focus exact oz) | ((with_reducible refine pc_and ?_ ?_); focus exact pz) | ((first | with_reducible refine gIf_t ?_ ?_ | with_reducible refine gIf_f ?_ ?_ | with_reducible refine ite_t ?_ ?_ | with_reducible refine ite_p ?_ ?_) <;> (first | (have z := (d1 : Dm); clear z d1; intro d1; try simp only [noR] at d1) | (have z := (d2 : Dm); clear z d2; intro d2; try simp only [noR] at d2) | (have z := (d3 : Dm); clear z d3; intro d3; try simp only [noR] at d3) | (have z := (d4 : Dm); clear z d4; intro d4; try simp only [noR] at d4) | (have z := (d5 : Dm); clear z d5; intro d5; try simp only [noR] at d5) | (have z := (d6 : Dm); clear z d6; intro d6; try simp only [noR] at d6)) <;> (try simp -implicitDefEqProofs -dsimp (maxSteps := 2000000) (disch := (first | exact dz | fail)) only [go_sem, d6, d5, d4, d3, d2, d1])))) <;> (try with_reducible and_intros) <;> (first | exact fz | skip)
    refine loopF (fun k ts m1 => ∃ (i : Nat) (w : AV), ts.length = 36 ∧ tg ts 6 = kv w ∧ tg ts 25 = sl kv ⟨false, true, vs⟩ ∧ tg ts 26 = I vs.length ∧ tg ts 27 = I i ∧ CC ls.flatten.length m'.length (ls.take i).flatten w m' m1 ∧ i ≤ vs.length ∧ k = vs.length - i) vs.length ⟨0, _, rfl, rfl, rfl, rfl, rfl, hC.1, by omega, by omega⟩ ?_
    clear hln h0 h3 h9 h10 h11 ts hC hi hlt i hte v m2
    rintro k ts m1 ⟨i, w, hln, h6, h25, h26, h27, hC, hi, rfl⟩
    rw [expandT hln]
    by_cases hlt : (i : Int) < (vs.length : Int)
    · obtain ⟨v, hvi⟩ : ∃ v, vs[i]? = some v := ⟨_, List.getElem?_eq_getElem (by omega)⟩
      obtain ⟨l, hli, hr⟩ := hv i v hvi
      have hst : (ls.take (i + 1)).flatten = (ls.take i).flatten ++ l := by rw [List.take_add_one, hli]; simp
      have hle : ((ls.take i).flatten ++ l).length ≤ ls.flatten.length := by
        rw [← hst]
        conv => rhs; rw [← List.take_append_drop (i + 1) ls, List.flatten_append, List.length_append]
        omega
      (have c1 : Dm := ⟨⟩; have c2 : Dm := ⟨⟩; have c3 : Dm := ⟨⟩; have c4 : Dm := ⟨⟩; have c5 : Dm := ⟨⟩; have c6 : Dm := ⟨⟩) <;> (try simp -implicitDefEqProofs -dsimp (maxSteps := 2000000) (disch := (first | exact dz | fail)) only [go_sem, h6, h25, h26, h27, hlt, hvi]) <;> (repeat' (first | ((with_reducible refine ds_and ?_ ?_); focus exact kz) | ((with_reducible refine And.intro ?_ ?_); focus exact oz) | ((with_reducible refine pc_and ?_ ?_); focus exact pz) | ((first | with_reducible refine gIf_t ?_ ?_ | with_reducible refine gIf_f ?_ ?_ | with_reducible refine ite_t ?_ ?_ | with_reducible refine ite_p ?_ ?_) <;> (first | (have z := (c1 : Dm); clear z c1; intro c1; try simp only [noR] at c1) | (have z := (c2 : Dm); clear z c2; intro c2; try simp only [noR] at c2) | (have z := (c3 : Dm); clear z c3; intro c3; try simp only [noR] at c3) | (have z := (c4 : Dm); clear z c4; intro c4; try simp only [noR] at c4) | (have z := (c5 : Dm); clear z c5; intro c5; try simp only [noR] at c5) | (have z := (c6 : Dm); clear z c6; intro c6; try simp only [noR] at c6)) <;> (try simp -implicitDefEqProofs -dsimp (maxSteps := 2000000) (disch := (first | exact dz | fail)) only [go_sem, c6, c5, c4, c3, c2, c1, h6, h25, h26, h27, hlt, hvi])))) <;> (try with_reducible and_intros) <;> (first | exact fz | skip)
      refine hC.app hr hb hle hl (hf.upPur (Nat.le_refl _)) (Nat.le_refl _) ?_
      intro r v' m3 hC2 hrs
      rw [← hst] at hC2
      (have d1 : Dm := ⟨⟩; have d2 : Dm := ⟨⟩; have d3 : Dm := ⟨⟩; have d4 : Dm := ⟨⟩; have d5 : Dm := ⟨⟩; have d6 : Dm := ⟨⟩) <;> (try simp -implicitDefEqProofs -dsimp (maxSteps := 2000000) (disch := (first | exact dz | fail)) only [go_sem, ]) <;> (repeat' (first | ((with_reducible refine ds_and ?_ ?_); focus exact kz) | ((with_reducible refine And.intro ?_ ?_); focus exact oz) | ((with_reducible refine pc_and ?_ ?_); focus exact pz) | ((first | with_reducible refine gIf_t ?_ ?_ | with_reducible refine gIf_f ?_ ?_ | with_reducible refine ite_t ?_ ?_ | with_reducible refine ite_p ?_ ?_) <;> (first | (have z := (d1 : Dm); clear z d1; intro d1; try simp only [noR] at d1) | (have z := (d2 : Dm); clear z d2; intro d2; try simp only [noR] at d2) | (have z := (d3 : Dm); clear z d3; intro d3; try simp only [noR] at d3) | (have z := (d4 : Dm); clear z d4; intro d4; try simp only [noR] at d4) | (have z := (d5 : Dm); clear z d5; intro d5; try simp only [noR] at d5) | (have z := (d6 : Dm); clear z d6; intro d6; try simp only [noR] at d6)) <;> (try simp -implicitDefEqProofs -dsimp (maxSteps := 2000000) (disch := (first | exact dz | fail)) only [go_sem, d6, d5, d4, d3, d2, d1])))) <;> (try with_reducible and_intros) <;> (first | exact fz | skip)
      exact ⟨_, by omega, i + 1, v', rfl, rfl, hC2, by omega, rfl⟩
    · have hte : (ls.take i) = ls := List.take_of_length_le (by omega)
      rw [hte] at hC
      (have c1 : Dm := ⟨⟩; have c2 : Dm := ⟨⟩; have c3 : Dm := ⟨⟩; have c4 : Dm := ⟨⟩; have c5 : Dm := ⟨⟩; have c6 : Dm := ⟨⟩) <;> (try simp -implicitDefEqProofs -dsimp (maxSteps := 2000000) (disch := (first | exact dz | fail)) only [go_sem, h6, h25, h26, h27, hlt, hC.frz rfl]) <;> (repeat' (first | ((with_reducible refine ds_and ?_ ?_); focus exact kz) | ((with_reducible refine And.intro ?_ ?_); focus exact oz) | ((with_reducible refine pc_and ?_ ?_); focus exact pz) | ((first | with_reducible refine gIf_t ?_ ?_ | with_reducible refine gIf_f ?_ ?_ | with_reducible refine ite_t ?_ ?_ | with_reducible refine ite_p ?_ ?_) <;> (first | (have z := (c1 : Dm); clear z c1; intro c1; try simp only [noR] at c1) | (have z := (c2 : Dm); clear z c2; intro c2; try simp only [noR] at c2) | (have z := (c3 : Dm); clear z c3; intro c3; try simp only [noR] at c3) | (have z := (c4 : Dm); clear z c4; intro c4; try simp only [noR] at c4) | (have z := (c5 : Dm); clear z c5; intro c5; try simp only [noR] at c5) | (have z := (c6 : Dm); clear z c6; intro c6; try simp only [noR] at c6)) <;> (try simp -implicitDefEqProofs -dsimp (maxSteps := 2000000) (disch := (first | exact dz | fail)) only [go_sem, c6, c5, c4, c3, c2, c1, h6, h25, h26, h27, hlt, hC.frz rfl])))) <;> (try with_reducible and_intros) <;> (first | exact fz | skip)
end
end Go.Proofs.YtcmjidnbbfcbjaaDoor.V.L1
/- Rows of operations side by side, and what stays below them; no condition. -/
namespace Go.Proofs.YtcmjidnbbfcbjaaDoor.V
open Go
set_option linter.unusedVariables false
set_option linter.unusedSimpArgs false
set_option maxRecDepth 100000
set_option maxHeartbeats 4000000
noncomputable section
variable {en : Env} {m : Mem}
variable {P : Program} {pol : Pol}
/-- A row of operations. -/
def RP (l : List Pn) (v : AV) : Ent := .row 5 l.length (l.flatMap opC) v
theorem Many.appO {b : Nat} {es : List Ent} (h : Many b es m) (i : Nat) {l : List Pn} {v : AV} (he : es[i]? = some (RP l v)) (ys : List Pn) {n : Nat} {cs : List AV} (hn : n = ys.length) (hcs : cs = ys.flatMap opC) (hfit : Fits en b) (hb : en.bar ≤ b) (hroom' : l.length + n ≤ 2 ^ 32) {tg : Nat} {K : Req → AV → Mem → Prop}
    (hK : ∀ r v' m', Many b (es.set i (RP (l ++ ys) v')) m' → (∀ j, j < b → m'[j]? = m[j]?) → m.length ≤ m'.length → AppLike r → K r (kv v') m') : WOf P pol en (appR tg 5 (some (kv v)) (some (.lst n cs))) m K := by
  subst hn hcs
  unfold RP at *
  unfold kv at *
  have hi : i < es.length := (List.getElem?_eq_some_iff.1 he).1
  have hM := h
  obtain ⟨⟨ss, h1, h2, h3, h4⟩, h5⟩ := h
  have hi' : i < ss.length := by omega
  have hsi := List.getElem?_eq_getElem hi'
  have hh := h2 i _ ss[i] he hsi
  have hroom : roomOk (l.length + ys.length) 5 = true := by simp only [roomOk, Bool.and_eq_true, decide_eq_true_eq]; omega
  have hfl := flat_len (f := opC) ys
  have hfl2 := flat_len (f := opC) (l ++ ys)
  cases ys with
  | nil =>
    have e0 : appR tg 5 (some v) (some (.lst ([] : List Pn).length (([] : List Pn).flatMap opC))) = some (.val v) := by
      rcases hh with ⟨_, _, _, rfl⟩ | ⟨_, id, ver, _, rfl, _, _⟩ <;> simp [appR, Src.n]
    rw [e0, WOf_val]
    refine hK _ _ _ ?_ (fun _ _ => rfl) (Nat.le_refl _) (Or.inr (Or.inr ⟨_, rfl⟩))
    have : es.set i (.row 5 (l ++ []).length ((l ++ []).flatMap opC) v) = es := by
      apply List.ext_getElem?
      intro j
      rw [List.getElem?_set]
      split
      · rename_i hij; subst hij; rw [he]; simp
      · rfl
    rw [this]; exact hM
  | cons y ys =>
    rw [List.length_cons] at *
    rcases hh with ⟨e1, e2, e3, rfl⟩ | ⟨e0, id, ver, e1, rfl, e2, e3⟩
    · have hl : l = [] := List.eq_nil_of_length_eq_zero e2
      subst hl
      rw [appR_nil, WOf_appnew]
      refine ⟨⟨hfl, by simp, by simpa using hroom, by omega⟩, hK _ _ _ ?_ (fun j hj => List.getElem?_append_left (by omega)) (by simp) (Or.inr (Or.inl ⟨_, _, _, _, _, rfl⟩))⟩
      refine Many.put h1 h2 h3 h4 h5 hi (s := some m.length) (Or.inr ⟨by simp, m.length, tg, rfl, by simp, by simp, by simpa using hfl2⟩) (fun j id hj hs => List.getElem?_append_left (h4 j id hs).2) (by simp) (fun id e => ?_)
      cases e; exact ⟨h5, by simp, Or.inr (Nat.le_refl _)⟩
    · have hsi' : ss[i]? = some (some id) := by rw [hsi, e1]
      have hid := h4 i id hsi'
      rw [appR_own, WOf_app, e2, cellsQ_some]
      refine ⟨rfl, ⟨hfl, by omega, hroom, by omega⟩, okTo_fits hfit hb hid.1 _, ?_⟩
      have hc : ((l.flatMap opC).drop 0).take (l.length * 5) = l.flatMap opC := by rw [List.drop_zero, List.take_of_length_le (by omega)]
      rw [hc]
      refine hK _ _ _ ?_ (fun j hj => List.getElem?_set_ne (by omega)) (by simp) (Or.inl ⟨_, _, _, _, _, _, _, rfl⟩)
      refine Many.put h1 h2 h3 h4 h5 hi (s := some id) (Or.inr ⟨by simp; omega, id, nextV tg ver, rfl, by simp, by simp [hid.2], hfl2⟩) (fun j id' hj hs => ?_) (by simp) (fun id' e => ?_)
      · have : id ≠ id' := fun e => by subst e; exact hj (h3 j i id hs hsi')
        rw [List.getElem?_set_ne this]
      · cases e; exact ⟨hid.1, by simpa using hid.2, Or.inl hsi'⟩
theorem Many.rowO {b : Nat} {es : List Ent} (h : Many b es m) {i : Nat} {l : List Pn} {v : AV} (he : es[i]? = some (RP l v)) : (l = [] ∧ v = .nilS) ∨ (l ≠ [] ∧ ∃ id ver, v = .own id ver 0 l.length 5 ∧ m[id]? = some (.cells ver (l.flatMap opC)) ∧ b ≤ id ∧ id < m.length) := by
  rcases h.row he with ⟨h1, _, h3⟩ | ⟨h1, id, ver, h2, h3, _, h4, h5⟩
  · exact Or.inl ⟨List.eq_nil_of_length_eq_zero h1, h3⟩
  · exact Or.inr ⟨List.length_pos_iff.1 h1, id, ver, h2, h3, h4, h5⟩
/-- A row turned round. -/
theorem Many.revO {b : Nat} {es : List Ent} (h : Many b es m) {i : Nat} {l : List Pn} {id ver : Nat} (he : es[i]? = some (RP l (.own id ver 0 l.length 5))) (hl : l ≠ []) : Many b (es.set i (RP l.reverse (.own id ver 0 l.length 5))) (m.set id (.cells ver (l.reverse.flatMap opC))) := by
  have hi : i < es.length := (List.getElem?_eq_some_iff.1 he).1
  obtain ⟨⟨ss, h1, h2, h3, h4⟩, h5⟩ := h
  have hi' : i < ss.length := by omega
  have hsi := List.getElem?_eq_getElem hi'
  rcases h2 i _ ss[i] he hsi with ⟨e1, e2, e3, e4⟩ | ⟨e0, id', ver', e1, e4, e2, e3⟩
  · cases e4
  · cases e4
    have hsi' : ss[i]? = some (some id) := by rw [hsi, e1]
    have hid := h4 i id hsi'
    refine Many.put h1 h2 h3 h4 h5 hi (s := some id) (Or.inr ⟨by simpa using e0, id, ver, rfl, by simp, by simp [hid.2], flat_len (f := opC) l.reverse⟩) (fun j id' hj hs => ?_) (by simp) (fun id' e => ?_)
    · have : id ≠ id' := fun e => by subst e; exact hj (h3 j i id hs hsi')
      rw [List.getElem?_set_ne this]
    · cases e; exact ⟨hid.1, by simpa using hid.2, Or.inl hsi'⟩
end
end Go.Proofs.YtcmjidnbbfcbjaaDoor.V
namespace Go.Proofs.YtcmjidnbbfcbjaaDoor.V.L1
open Go V
set_option linter.unusedVariables false
set_option linter.unusedSimpArgs false
set_option maxRecDepth 100000
set_option maxHeartbeats 4000000
noncomputable section
variable {en : Env} {m : Mem}
theorem reverse_nil (hf : Fits en m.length) : WC Tryd.prog pol en (.func 22) [.nilS] m fun v m' => v = .tup [] ∧ m' = m := by
  refine callMut Tryd.func22 rfl rfl Tryd.ntmps22 Tryd.results22 ?_
  have hw1 : IntKind.i64.wrap ((0 : Int) - 1) = -1 := rfl
  (have hq1 : Dm := ⟨⟩; have hq2 : Dm := ⟨⟩; have hq3 : Dm := ⟨⟩; have hq4 : Dm := ⟨⟩; have hq5 : Dm := ⟨⟩; have hq6 : Dm := ⟨⟩) <;> (try simp -implicitDefEqProofs -dsimp (maxSteps := 2000000) (disch := (first | exact dz | fail)) only [go_sem, hw1]) <;> (repeat' (first | ((with_reducible refine ds_and ?_ ?_); focus exact kz) | ((with_reducible refine And.intro ?_ ?_); focus exact oz) | ((with_reducible refine pc_and ?_ ?_); focus exact pz) | ((first | with_reducible refine gIf_t ?_ ?_ | with_reducible refine gIf_f ?_ ?_ | with_reducible refine ite_t ?_ ?_ | with_reducible refine ite_p ?_ ?_) <;> (first | (have z := (hq1 : Dm); clear z hq1; intro hq1; try simp only [noR] at hq1) | (have z := (hq2 : Dm); clear z hq2; intro hq2; try simp only [noR] at hq2) | (have z := (hq3 : Dm); clear z hq3; intro hq3; try simp only [noR] at hq3) | (have z := (hq4 : Dm); clear z hq4; intro hq4; try simp only [noR] at hq4) | (have z := (hq5 : Dm); clear z hq5; intro hq5; try simp only [noR] at hq5) | (have z := (hq6 : Dm); clear z hq6; intro hq6; try simp only [noR] at hq6)) <;> (try simp -implicitDefEqProofs -dsimp (maxSteps := 2000000) (disch := (first | exact dz | fail)) only [go_sem, hq6, hq5, hq4, hq3, hq2, hq1, hw1])))) <;> (try with_reducible and_intros) <;> (first | exact fz | skip)
  refine loopF (fun k ts m' => ts.length = 28 ∧ tg ts 2 = I 0 ∧ tg ts 3 = I (-1) ∧ m' = m) 0 ⟨rfl, rfl, rfl, rfl⟩ ?_
  rintro k ts m' ⟨hln, h2, h3, rfl⟩
  rw [expandT hln]
  (have c1 : Dm := ⟨⟩; have c2 : Dm := ⟨⟩; have c3 : Dm := ⟨⟩; have c4 : Dm := ⟨⟩; have c5 : Dm := ⟨⟩; have c6 : Dm := ⟨⟩) <;> (try simp -implicitDefEqProofs -dsimp (maxSteps := 2000000) (disch := (first | exact dz | fail)) only [go_sem, h2, h3]) <;> (repeat' (first | ((with_reducible refine ds_and ?_ ?_); focus exact kz) | ((with_reducible refine And.intro ?_ ?_); focus exact oz) | ((with_reducible refine pc_and ?_ ?_); focus exact pz) | ((first | with_reducible refine gIf_t ?_ ?_ | with_reducible refine gIf_f ?_ ?_ | with_reducible refine ite_t ?_ ?_ | with_reducible refine ite_p ?_ ?_) <;> (first | (have z := (c1 : Dm); clear z c1; intro c1; try simp only [noR] at c1) | (have z := (c2 : Dm); clear z c2; intro c2; try simp only [noR] at c2) | (have z := (c3 : Dm); clear z c3; intro c3; try simp only [noR] at c3) | (have z := (c4 : Dm); clear z c4; intro c4; try simp only [noR] at c4) | (have z := (c5 : Dm); clear z c5; intro c5; try simp only [noR] at c5) | (have z := (c6 : Dm); clear z c6; intro c6; try simp only [noR] at c6)) <;> (try simp -implicitDefEqProofs -dsimp (maxSteps := 2000000) (disch := (first | exact dz | fail)) only [go_sem, c6, c5, c4, c3, c2, c1, h2, h3])))) <;> (try with_reducible and_intros) <;> (first | exact fz | skip)
theorem many_reverse {b i : Nat} {es : List Ent} {l : List Pn} {v : AV} (h : Many b es m) (he : es[i]? = some (RP l v)) (hl : l.length ≤ 1073741824) (hf : Fits en m.length) (hbar : en.bar ≤ b) (hfb : Fits en b) : WC Tryd.prog pol en (.func 22) [kv v] m fun r m' => r = .tup [] ∧ Many b (es.set i (RP l.reverse v)) m' ∧ (∀ j, j < b → m'[j]? = m[j]?) ∧ m'.length = m.length := by
  unfold kv
  rcases h.rowO he with ⟨rfl, rfl⟩ | ⟨h0, id, ver, rfl, h1, h2, h3⟩
  · refine (reverse_nil hf).mono ?_
    rintro r m' ⟨rfl, rfl⟩
    refine ⟨rfl, ?_, fun _ _ => rfl, rfl⟩
    have : es.set i (RP ([] : List Pn).reverse .nilS) = es := by
      apply List.ext_getElem?
      intro j
      rw [List.getElem?_set]
      split
      · rename_i hij; subst hij; rw [he]; simp [(List.getElem?_eq_some_iff.1 he).1]
      · rfl
    rw [this]; exact h
  · refine (reverse_ok h1 hl hf (Nat.le_trans hbar h2) (hfb.up h2)).mono ?_
    rintro r m' ⟨rfl, rfl⟩
    exact ⟨rfl, h.revO he h0, fun j hj => List.getElem?_set_ne (by omega), by simp⟩
end
end Go.Proofs.YtcmjidnbbfcbjaaDoor.V.L1
/- What two trees differ by, of the program; no condition. -/
namespace Go.Proofs.YtcmjidnbbfcbjaaDoor.V
open Go
set_option linter.unusedVariables false
set_option linter.unusedSimpArgs false
set_option maxRecDepth 100000
set_option maxHeartbeats 4000000
noncomputable section
variable {en : Env} {m : Mem}
theorem slR_own1 (id ver n : Nat) (k : IntKind) (g : Option Req) (an : Option (Nat × Nat)) : slR g an (some (.own id ver 0 (n + 1) 1)) (some 1) (some (some (k, (1 : Int)))) (some none) = some (.val (.own id ver 1 n 1)) := by
  have h1 : (1 : Int) ≤ (n : Int) + 1 := by omega
  simp [slR, bounds, h1]
end
end Go.Proofs.YtcmjidnbbfcbjaaDoor.V
namespace Go.Proofs.YtcmjidnbbfcbjaaDoor.V.L1
open Go V
set_option linter.unusedVariables false
set_option linter.unusedSimpArgs false
set_option maxRecDepth 100000
set_option maxHeartbeats 4000000
noncomputable section
variable {en : Env} {m : Mem}
theorem diff0_ok (a b : Sl Nd) (ha : FitT a.l) (hb : FitT b.l) (hf : Fits en m.length) : WC Tryd.prog pol en (.func 6) [slf ndC a, slf ndC b] m fun v m' => v = diffA (rightL a.l && rightL b.l) (diffL a.l b.l) ∧ m' = m := by
  have hal := ha.len
  have hbl := hb.len
  refine callPur Tryd.func6 rfl rfl Tryd.ntmps6 Tryd.results6 ?_
  simp -implicitDefEqProofs -dsimp (maxSteps := 2000000) (disch := (first | exact dz | fail)) only [go_sem, ]
  refine (both_ok a b ha hb hf.pur (Nat.le_refl _)).mono ?_
  rintro v M hB
  have hMl := hB.len
  cases hr : (rightL a.l && rightL b.l) with
  | false =>
    rw [hB.no hr]
    (have hq1 : Dm := ⟨⟩; have hq2 : Dm := ⟨⟩; have hq3 : Dm := ⟨⟩; have hq4 : Dm := ⟨⟩; have hq5 : Dm := ⟨⟩; have hq6 : Dm := ⟨⟩) <;> (try simp -implicitDefEqProofs -dsimp (maxSteps := 2000000) (disch := (first | exact dz | fail)) only [go_sem, ]) <;> (repeat' (first | ((with_reducible refine ds_and ?_ ?_); focus exact kz) | ((with_reducible refine And.intro ?_ ?_); focus exact oz) | ((with_reducible refine pc_and ?_ ?_); focus exact pz) | ((first | with_reducible refine gIf_t ?_ ?_ | with_reducible refine gIf_f ?_ ?_ | with_reducible refine ite_t ?_ ?_ | with_reducible refine ite_p ?_ ?_) <;> (first | (have z := (hq1 : Dm); clear z hq1; intro hq1; try simp only [noR] at hq1) | (have z := (hq2 : Dm); clear z hq2; intro hq2; try simp only [noR] at hq2) | (have z := (hq3 : Dm); clear z hq3; intro hq3; try simp only [noR] at hq3) | (have z := (hq4 : Dm); clear z hq4; intro hq4; try simp only [noR] at hq4) | (have z := (hq5 : Dm); clear z hq5; intro hq5; try simp only [noR] at hq5) | (have z := (hq6 : Dm); clear z hq6; intro hq6; try simp only [noR] at hq6)) <;> (try simp -implicitDefEqProofs -dsimp (maxSteps := 2000000) (disch := (first | exact dz | fail)) only [go_sem, hq6, hq5, hq4, hq3, hq2, hq1])))) <;> (try with_reducible and_intros) <;> (first | exact fz | skip)
    simp [diffA]
  | true =>
    obtain ⟨ia, il, ja, jl, rfl, hSA, hSB⟩ := hB.yes hr
    (have hq1 : Dm := ⟨⟩; have hq2 : Dm := ⟨⟩; have hq3 : Dm := ⟨⟩; have hq4 : Dm := ⟨⟩; have hq5 : Dm := ⟨⟩; have hq6 : Dm := ⟨⟩) <;> (try simp -implicitDefEqProofs -dsimp (maxSteps := 2000000) (disch := (first | exact dz | fail)) only [go_sem, ]) <;> (repeat' (first | ((with_reducible refine ds_and ?_ ?_); focus exact kz) | ((with_reducible refine And.intro ?_ ?_); focus exact oz) | ((with_reducible refine pc_and ?_ ?_); focus exact pz) | ((first | with_reducible refine gIf_t ?_ ?_ | with_reducible refine gIf_f ?_ ?_ | with_reducible refine ite_t ?_ ?_ | with_reducible refine ite_p ?_ ?_) <;> (first | (have z := (hq1 : Dm); clear z hq1; intro hq1; try simp only [noR] at hq1) | (have z := (hq2 : Dm); clear z hq2; intro hq2; try simp only [noR] at hq2) | (have z := (hq3 : Dm); clear z hq3; intro hq3; try simp only [noR] at hq3) | (have z := (hq4 : Dm); clear z hq4; intro hq4; try simp only [noR] at hq4) | (have z := (hq5 : Dm); clear z hq5; intro hq5; try simp only [noR] at hq5) | (have z := (hq6 : Dm); clear z hq6; intro hq6; try simp only [noR] at hq6)) <;> (try simp -implicitDefEqProofs -dsimp (maxSteps := 2000000) (disch := (first | exact dz | fail)) only [go_sem, hq6, hq5, hq4, hq3, hq2, hq1])))) <;> (try with_reducible and_intros) <;> (first | exact fz | skip)
    have hR := hr
    rw [Bool.and_eq_true] at hR
    obtain ⟨hra, hrb⟩ := hR
    obtain ⟨_, ha512, _⟩ := right_facts hra
    obtain ⟨_, hb512, _⟩ := right_facts hrb
    generalize hM2 : M ++ [Ob.cells (tagT 43) [slf ndC a, .mp ia, .mp il], Ob.cells (tagT 43) [slf ndC b, .mp ja, .mp jl]] = M2
    have hM2l : M2.length = M.length + 2 := by rw [← hM2]; simp
    have g0 : M2[M.length]? = some (.cells (tagT 43) [slf ndC a, .mp ia, .mp il]) := by rw [← hM2, getM0]; rfl
    have g1' : M2[M.length + 1]? = some (.cells (tagT 43) [slf ndC b, .mp ja, .mp jl]) := by rw [← hM2, getM]; rfl
    have hS : Side m.length M2 a.l ia il ∧ Side m.length M2 b.l ja jl := by rw [← hM2]; exact ⟨hSA.push _, hSB.push _⟩
    have hlt2 : ∀ m' : Mem, (∀ j, j < M.length + 2 → m'[j]? = M2[j]?) → ∀ i o, M2[i]? = some o → m'[i]? = some o := fun m' hold i o h => by
      have := (List.getElem?_eq_some_iff.1 h).1
      rw [hold i (by omega)]; exact h
    clear hM2
    have hM5 : Many (M.length + 2) [RP ((a.l.take 0).flatMap (g1 a.l b.l)) .nilS, RP ((a.l.take 0).flatMap (g2 a.l b.l)) .nilS, RP [] .nilS, RP [] .nilS, RP [] .nilS] M2 :=
      ((((((Many.nil (by omega)).newRow 5).newRow 5).newRow 5).newRow 5).newRow 5)
    refine loopF (fun k ts m' => ∃ (i : Nat) (v1 v2 : AV), ts.length = 135 ∧ tg ts 1 = slf ndC b ∧ tg ts 6 = .ptr M.length (tagT 43) 0 ∧ tg ts 7 = .ptr (M.length + 1) (tagT 43) 0 ∧ tg ts 9 = kv v1 ∧ tg ts 10 = kv v2 ∧ tg ts 11 = kv .nilS ∧ tg ts 12 = kv .nilS ∧ tg ts 13 = kv .nilS ∧ tg ts 31 = slf ndC a ∧ tg ts 32 = I a.l.length ∧ tg ts 33 = I i ∧
      Many (M.length + 2) [RP ((a.l.take i).flatMap (g1 a.l b.l)) v1, RP ((a.l.take i).flatMap (g2 a.l b.l)) v2, RP [] .nilS, RP [] .nilS, RP [] .nilS] m' ∧ (∀ j, j < M.length + 2 → m'[j]? = M2[j]?) ∧ i ≤ a.l.length ∧ k = a.l.length - i) a.l.length ⟨0, _, _, rfl, rfl, rfl, rfl, rfl, rfl, rfl, rfl, rfl, rfl, rfl, rfl, hM5, fun _ _ => rfl, by omega, by omega⟩ ?_
    clear hM5
    rintro k ts m' ⟨i, v1, v2, hl, h1, h6, h7, h9, h10, h11, h12, h13, h31, h32, h33, hM, hold, hi, rfl⟩
    rw [expandT hl]
    have hle := hM.le
    have k0 := hlt2 m' hold _ _ g0
    have k1 := hlt2 m' hold _ _ g1'
    have hA := hS.1.frame fun i o _ h => hlt2 m' hold i o h
    have hBb := hS.2.frame fun i o _ h => hlt2 m' hold i o h
    have hfl1 := flatMap_le (g1 a.l b.l) 1 (a.l.take i) (fun x _ => g1_le _ _ x)
    have hfl2 := flatMap_le (g2 a.l b.l) 1 (a.l.take i) (fun x _ => g2_le _ _ x)
    have htl : (a.l.take i).length ≤ 512 := by simp; omega
    by_cases hlt : (i : Int) < (a.l.length : Int)
    · obtain ⟨x, hx⟩ : ∃ x, a.l[i]? = some x := ⟨_, List.getElem?_eq_getElem (by omega)⟩
      have hst1 := flatMap_step hx (g1 a.l b.l)
      have hst2 := flatMap_step hx (g2 a.l b.l)
      have hk := fun (l : Mem) (en : Env) Q (hf : Fits en (m' ++ l).length) => (keeps_ok (m := m' ++ l) (en := en) a.l b.l (slf ndC a) (slf ndC b) x.path (hA.push l) (hBb.push l) hal (leaf_slf _ _) (leaf_slf _ _) hf).rule Q
      simp only [keepsB_eq hra hrb] at hk
      (have c1 : Dm := ⟨⟩; have c2 : Dm := ⟨⟩; have c3 : Dm := ⟨⟩; have c4 : Dm := ⟨⟩; have c5 : Dm := ⟨⟩; have c6 : Dm := ⟨⟩) <;> (try simp -implicitDefEqProofs -dsimp (maxSteps := 2000000) (disch := (first | exact dz | fail)) only [go_sem, h1, h6, h7, h9, h10, h11, h12, h13, h31, h32, h33, hlt, hx, k0, k1, hk]) <;> (repeat' (first | ((with_reducible refine ds_and ?_ ?_); focus exact kz) | ((with_reducible refine And.intro ?_ ?_); focus exact oz) | ((with_reducible refine pc_and ?_ ?_); focus exact pz) | ((first | with_reducible refine gIf_t ?_ ?_ | with_reducible refine gIf_f ?_ ?_ | with_reducible refine ite_t ?_ ?_ | with_reducible refine ite_p ?_ ?_) <;> (first | (have z := (c1 : Dm); clear z c1; intro c1; try simp only [noR] at c1) | (have z := (c2 : Dm); clear z c2; intro c2; try simp only [noR] at c2) | (have z := (c3 : Dm); clear z c3; intro c3; try simp only [noR] at c3) | (have z := (c4 : Dm); clear z c4; intro c4; try simp only [noR] at c4) | (have z := (c5 : Dm); clear z c5; intro c5; try simp only [noR] at c5) | (have z := (c6 : Dm); clear z c6; intro c6; try simp only [noR] at c6)) <;> (try simp -implicitDefEqProofs -dsimp (maxSteps := 2000000) (disch := (first | exact dz | fail)) only [go_sem, c6, c5, c4, c3, c2, c1, h1, h6, h7, h9, h10, h11, h12, h13, h31, h32, h33, hlt, hx, k0, k1, hk])))) <;> (try with_reducible and_intros) <;> (first | exact fz | skip)
      · have e1 : g1 a.l b.l x = [] := by simp [g1, c1]
        have e2 : g2 a.l b.l x = [] := by simp [g2, c1]
        rw [e1, List.append_nil] at hst1
        rw [e2, List.append_nil] at hst2
        exact ⟨_, by omega, i + 1, v1, v2, rfl, rfl, rfl, by rw [hst1, hst2]; exact hM.push _, fun j hj => by rw [List.getElem?_append_left (by omega)]; exact hold j hj, by omega, rfl⟩
      · have e1 : g1 a.l b.l x = [] := by simp [g1, c2]
        have e2 : g2 a.l b.l x = [pn 5 x.path] := by simp [g2, c1, c2]
        rw [e1, List.append_nil] at hst1
        rw [e2] at hst2
        refine (hM.push [_]).appO 1 rfl [pn 5 x.path] (n := 1) rfl rfl (hf.upPur (by omega)) (by simp; omega) (by omega) ?_
        intro r v' m3 hM' hold' _ hrs
        (have d1 : Dm := ⟨⟩; have d2 : Dm := ⟨⟩; have d3 : Dm := ⟨⟩; have d4 : Dm := ⟨⟩; have d5 : Dm := ⟨⟩; have d6 : Dm := ⟨⟩) <;> (try simp -implicitDefEqProofs -dsimp (maxSteps := 2000000) (disch := (first | exact dz | fail)) only [go_sem, ]) <;> (repeat' (first | ((with_reducible refine ds_and ?_ ?_); focus exact kz) | ((with_reducible refine And.intro ?_ ?_); focus exact oz) | ((with_reducible refine pc_and ?_ ?_); focus exact pz) | ((first | with_reducible refine gIf_t ?_ ?_ | with_reducible refine gIf_f ?_ ?_ | with_reducible refine ite_t ?_ ?_ | with_reducible refine ite_p ?_ ?_) <;> (first | (have z := (d1 : Dm); clear z d1; intro d1; try simp only [noR] at d1) | (have z := (d2 : Dm); clear z d2; intro d2; try simp only [noR] at d2) | (have z := (d3 : Dm); clear z d3; intro d3; try simp only [noR] at d3) | (have z := (d4 : Dm); clear z d4; intro d4; try simp only [noR] at d4) | (have z := (d5 : Dm); clear z d5; intro d5; try simp only [noR] at d5) | (have z := (d6 : Dm); clear z d6; intro d6; try simp only [noR] at d6)) <;> (try simp -implicitDefEqProofs -dsimp (maxSteps := 2000000) (disch := (first | exact dz | fail)) only [go_sem, d6, d5, d4, d3, d2, d1])))) <;> (try with_reducible and_intros) <;> (first | exact fz | skip)
        exact ⟨_, by omega, i + 1, v1, v', rfl, rfl, rfl, by rw [hst1, hst2]; exact hM', fun j hj => by rw [hold' j hj, List.getElem?_append_left (by omega)]; exact hold j hj, by omega, rfl⟩
      · have e1 : g1 a.l b.l x = [pn 4 x.path] := by simp [g1, c1, c2]
        have e2 : g2 a.l b.l x = [] := by simp [g2, c2]
        rw [e1] at hst1
        rw [e2, List.append_nil] at hst2
        refine (hM.push [_]).appO 0 rfl [pn 4 x.path] (n := 1) rfl rfl (hf.upPur (by omega)) (by simp; omega) (by omega) ?_
        intro r v' m3 hM' hold' _ hrs
        (have d1 : Dm := ⟨⟩; have d2 : Dm := ⟨⟩; have d3 : Dm := ⟨⟩; have d4 : Dm := ⟨⟩; have d5 : Dm := ⟨⟩; have d6 : Dm := ⟨⟩) <;> (try simp -implicitDefEqProofs -dsimp (maxSteps := 2000000) (disch := (first | exact dz | fail)) only [go_sem, ]) <;> (repeat' (first | ((with_reducible refine ds_and ?_ ?_); focus exact kz) | ((with_reducible refine And.intro ?_ ?_); focus exact oz) | ((with_reducible refine pc_and ?_ ?_); focus exact pz) | ((first | with_reducible refine gIf_t ?_ ?_ | with_reducible refine gIf_f ?_ ?_ | with_reducible refine ite_t ?_ ?_ | with_reducible refine ite_p ?_ ?_) <;> (first | (have z := (d1 : Dm); clear z d1; intro d1; try simp only [noR] at d1) | (have z := (d2 : Dm); clear z d2; intro d2; try simp only [noR] at d2) | (have z := (d3 : Dm); clear z d3; intro d3; try simp only [noR] at d3) | (have z := (d4 : Dm); clear z d4; intro d4; try simp only [noR] at d4) | (have z := (d5 : Dm); clear z d5; intro d5; try simp only [noR] at d5) | (have z := (d6 : Dm); clear z d6; intro d6; try simp only [noR] at d6)) <;> (try simp -implicitDefEqProofs -dsimp (maxSteps := 2000000) (disch := (first | exact dz | fail)) only [go_sem, d6, d5, d4, d3, d2, d1])))) <;> (try with_reducible and_intros) <;> (first | exact fz | skip)
        exact ⟨_, by omega, i + 1, v', v2, rfl, rfl, rfl, by rw [hst1, hst2]; exact hM', fun j hj => by rw [hold' j hj, List.getElem?_append_left (by omega)]; exact hold j hj, by omega, rfl⟩
    · (have c1 : Dm := ⟨⟩; have c2 : Dm := ⟨⟩; have c3 : Dm := ⟨⟩; have c4 : Dm := ⟨⟩; have c5 : Dm := ⟨⟩; have c6 : Dm := ⟨⟩) <;> (try simp -implicitDefEqProofs -dsimp (maxSteps := 2000000) (disch := (first | exact dz | fail)) only [go_sem, h1, h6, h7, h9, h10, h11, h12, h13, h31, h32, h33, hlt]) <;> (repeat' (first | ((with_reducible refine ds_and ?_ ?_); focus exact kz) | ((with_reducible refine And.intro ?_ ?_); focus exact oz) | ((with_reducible refine pc_and ?_ ?_); focus exact pz) | ((first | with_reducible refine gIf_t ?_ ?_ | with_reducible refine gIf_f ?_ ?_ | with_reducible refine ite_t ?_ ?_ | with_reducible refine ite_p ?_ ?_) <;> (first | (have z := (c1 : Dm); clear z c1; intro c1; try simp only [noR] at c1) | (have z := (c2 : Dm); clear z c2; intro c2; try simp only [noR] at c2) | (have z := (c3 : Dm); clear z c3; intro c3; try simp only [noR] at c3) | (have z := (c4 : Dm); clear z c4; intro c4; try simp only [noR] at c4) | (have z := (c5 : Dm); clear z c5; intro c5; try simp only [noR] at c5) | (have z := (c6 : Dm); clear z c6; intro c6; try simp only [noR] at c6)) <;> (try simp -implicitDefEqProofs -dsimp (maxSteps := 2000000) (disch := (first | exact dz | fail)) only [go_sem, c6, c5, c4, c3, c2, c1, h1, h6, h7, h9, h10, h11, h12, h13, h31, h32, h33, hlt])))) <;> (try with_reducible and_intros) <;> (first | exact fz | skip)
      refine (many_reverse hM (i := 1) rfl (by omega) (hf.upPur (by omega)) (by simp; omega) (hf.upPur (by omega))).mono ?_
      rintro r m3 ⟨rfl, hM3, hold3, hlen3⟩
      (have d1 : Dm := ⟨⟩; have d2 : Dm := ⟨⟩; have d3 : Dm := ⟨⟩; have d4 : Dm := ⟨⟩; have d5 : Dm := ⟨⟩; have d6 : Dm := ⟨⟩) <;> (try simp -implicitDefEqProofs -dsimp (maxSteps := 2000000) (disch := (first | exact dz | fail)) only [go_sem, ]) <;> (repeat' (first | ((with_reducible refine ds_and ?_ ?_); focus exact kz) | ((with_reducible refine And.intro ?_ ?_); focus exact oz) | ((with_reducible refine pc_and ?_ ?_); focus exact pz) | ((first | with_reducible refine gIf_t ?_ ?_ | with_reducible refine gIf_f ?_ ?_ | with_reducible refine ite_t ?_ ?_ | with_reducible refine ite_p ?_ ?_) <;> (first | (have z := (d1 : Dm); clear z d1; intro d1; try simp only [noR] at d1) | (have z := (d2 : Dm); clear z d2; intro d2; try simp only [noR] at d2) | (have z := (d3 : Dm); clear z d3; intro d3; try simp only [noR] at d3) | (have z := (d4 : Dm); clear z d4; intro d4; try simp only [noR] at d4) | (have z := (d5 : Dm); clear z d5; intro d5; try simp only [noR] at d5) | (have z := (d6 : Dm); clear z d6; intro d6; try simp only [noR] at d6)) <;> (try simp -implicitDefEqProofs -dsimp (maxSteps := 2000000) (disch := (first | exact dz | fail)) only [go_sem, d6, d5, d4, d3, d2, d1])))) <;> (try with_reducible and_intros) <;> (first | exact fz | skip)
      have hte : a.l.take i = a.l := List.take_of_length_le (by omega)
      rw [hte] at hM3
      have hFl : (a.l.flatMap (g1 a.l b.l)).length ≤ 512 := by rw [hte] at hfl1; omega
      have hRl : (a.l.flatMap (g2 a.l b.l)).reverse.length ≤ 512 := by rw [List.length_reverse]; rw [hte] at hfl2; omega
      have hM5 : Many (M.length + 2) [RP (a.l.flatMap (g1 a.l b.l)) v1, RP (a.l.flatMap (g2 a.l b.l)).reverse v2, RP ((b.l.take 0).flatMap (g3 a.l b.l)) .nilS, RP ((b.l.take 0).flatMap (g4 a.l b.l)) .nilS, RP ((b.l.take 0).flatMap (g5 a.l b.l)) .nilS] m3 := hM3
      have hold5 : ∀ j, j < M.length + 2 → m3[j]? = M2[j]? := fun j hj => by rw [hold3 j hj]; exact hold j hj
      have hdec : diffL a.l b.l = [a.l.flatMap (g1 a.l b.l), (a.l.flatMap (g2 a.l b.l)).reverse, b.l.flatMap (g3 a.l b.l), b.l.flatMap (g4 a.l b.l), b.l.flatMap (g5 a.l b.l)].flatten := by
        have : ∀ l : List Nd, (l.flatMap (g2 a.l b.l)).reverse = l.reverse.flatMap (g2 a.l b.l) := fun l => by
          induction l with
          | nil => rfl
          | cons n l ih =>
            have h1 : (g2 a.l b.l n).reverse = g2 a.l b.l n := by unfold g2; split <;> rfl
            rw [List.flatMap_cons, List.reverse_append, ih, h1, List.reverse_cons, List.flatMap_append]
            simp
        rw [this, diffL]
        simp
      generalize a.l.flatMap (g1 a.l b.l) = F1 at *
      generalize (a.l.flatMap (g2 a.l b.l)).reverse = F2 at *
      refine loopF (fun k ts m' => ∃ (i : Nat) (v3 v4 v5 : AV), ts.length = 135 ∧ tg ts 6 = .ptr M.length (tagT 43) 0 ∧ tg ts 7 = .ptr (M.length + 1) (tagT 43) 0 ∧ tg ts 9 = kv v1 ∧ tg ts 10 = kv v2 ∧ tg ts 11 = kv v3 ∧ tg ts 12 = kv v4 ∧ tg ts 13 = kv v5 ∧ tg ts 61 = slf ndC b ∧ tg ts 62 = I b.l.length ∧ tg ts 63 = I i ∧
        Many (M.length + 2) [RP F1 v1, RP F2 v2, RP ((b.l.take i).flatMap (g3 a.l b.l)) v3, RP ((b.l.take i).flatMap (g4 a.l b.l)) v4, RP ((b.l.take i).flatMap (g5 a.l b.l)) v5] m' ∧ (∀ j, j < M.length + 2 → m'[j]? = M2[j]?) ∧ i ≤ b.l.length ∧ k = b.l.length - i) b.l.length ⟨0, _, _, _, rfl, rfl, rfl, rfl, rfl, rfl, rfl, rfl, rfl, rfl, rfl, hM5, hold5, by omega, by omega⟩ ?_
      clear hM5 hold5 hM3 hold3 hlen3 hM hold hl h1 h6 h7 h9 h10 h11 h12 h13 h31 h32 h33 hlt k0 k1 hA hBb hfl1 hfl2 htl hle hi hte
      clear m3 m' ts i
      rintro k ts m' ⟨i, v3, v4, v5, hl, h6, h7, h9, h10, h11, h12, h13, h61, h62, h63, hM, hold, hi, rfl⟩
      rw [expandT hl]
      have hle := hM.le
      have k0 := hlt2 m' hold _ _ g0
      have k1 := hlt2 m' hold _ _ g1'
      have hA := hS.1.frame fun i o _ h => hlt2 m' hold i o h
      have hBb := hS.2.frame fun i o _ h => hlt2 m' hold i o h
      have hfl3 := flatMap_le (g3 a.l b.l) 1 (b.l.take i) (fun x _ => g3_le _ _ x)
      have hfl4 := flatMap_le (g4 a.l b.l) 513 (b.l.take i) (fun x _ => Nat.le_trans (g4_le _ _ x) (by omega))
      have hfl5 := flatMap_le (g5 a.l b.l) 6 (b.l.take i) (fun x hx => by
        unfold g5; split
        · simp
        · exact rewL_le _ _ _ (right_data hrb x (List.mem_of_mem_take hx)))
      have htl : (b.l.take i).length ≤ 512 := by simp; omega
      by_cases hlt : (i : Int) < (b.l.length : Int)
      · obtain ⟨x, hx⟩ : ∃ x, b.l[i]? = some x := ⟨_, List.getElem?_eq_getElem (by omega)⟩
        have hst3 := flatMap_step hx (g3 a.l b.l)
        have hst4 := flatMap_step hx (g4 a.l b.l)
        have hst5 := flatMap_step hx (g5 a.l b.l)
        have hk := fun (l : Mem) (en : Env) Q (hf : Fits en (m' ++ l).length) => (keeps_ok (m := m' ++ l) (en := en) a.l b.l (slf ndC a) (slf ndC b) x.path (hA.push l) (hBb.push l) hal (leaf_slf _ _) (leaf_slf _ _) hf).rule Q
        simp only [keepsB_eq hra hrb] at hk
        have hxm := List.mem_of_getElem? hx
        have hxd := right_data hrb x hxm
        have hrw := fun (was : List UInt8) (en : Env) (m : Mem) Q (hf : Fits en m.length) => (rewrite_ok (m := m) (en := en) x.path was x.data (by omega) hf).rule Q
        have done : ∀ (w3 w4 w5 : AV) (m2 : Mem), Many (M.length + 2) [RP F1 v1, RP F2 v2, RP ((b.l.take (i + 1)).flatMap (g3 a.l b.l)) w3, RP ((b.l.take (i + 1)).flatMap (g4 a.l b.l)) w4, RP ((b.l.take (i + 1)).flatMap (g5 a.l b.l)) w5] m2 → (∀ j, j < M.length + 2 → m2[j]? = M2[j]?) →
            ∃ k', k' < b.l.length - i ∧ ∃ i_1 v3 v4 v5, kv w3 = kv v3 ∧ kv w4 = kv v4 ∧ kv w5 = kv v5 ∧ AV.sc (Value.int IntKind.i64 ((i + 1 : Nat) : Int)) = I (i_1 : Nat) ∧ Many (M.length + 2) [RP F1 v1, RP F2 v2, RP ((b.l.take i_1).flatMap (g3 a.l b.l)) v3, RP ((b.l.take i_1).flatMap (g4 a.l b.l)) v4, RP ((b.l.take i_1).flatMap (g5 a.l b.l)) v5] m2 ∧ (∀ j, j < M.length + 2 → m2[j]? = M2[j]?) ∧ i_1 ≤ b.l.length ∧ k' = b.l.length - i_1 :=
          fun w3 w4 w5 m2 h1 h2 => ⟨_, by omega, i + 1, w3, w4, w5, rfl, rfl, rfl, rfl, h1, h2, by omega, rfl⟩
        cases hd : x.dir with
        | true =>
          have e4 : g4 a.l b.l x = [] := by simp [g4, hd]
          have e5 : g5 a.l b.l x = [] := by simp [g5, hd]
          rw [e4, List.append_nil] at hst4
          rw [e5, List.append_nil] at hst5
          (have c1 : Dm := ⟨⟩; have c2 : Dm := ⟨⟩; have c3 : Dm := ⟨⟩; have c4 : Dm := ⟨⟩; have c5 : Dm := ⟨⟩; have c6 : Dm := ⟨⟩) <;> (try simp -implicitDefEqProofs -dsimp (maxSteps := 2000000) (disch := (first | exact dz | fail)) only [go_sem, h6, h7, h9, h10, h11, h12, h13, h61, h62, h63, hlt, hx, k0, k1, hk, hd]) <;> (repeat' (first | ((with_reducible refine ds_and ?_ ?_); focus exact kz) | ((with_reducible refine And.intro ?_ ?_); focus exact oz) | ((with_reducible refine pc_and ?_ ?_); focus exact pz) | ((first | with_reducible refine gIf_t ?_ ?_ | with_reducible refine gIf_f ?_ ?_ | with_reducible refine ite_t ?_ ?_ | with_reducible refine ite_p ?_ ?_) <;> (first | (have z := (c1 : Dm); clear z c1; intro c1; try simp only [noR] at c1) | (have z := (c2 : Dm); clear z c2; intro c2; try simp only [noR] at c2) | (have z := (c3 : Dm); clear z c3; intro c3; try simp only [noR] at c3) | (have z := (c4 : Dm); clear z c4; intro c4; try simp only [noR] at c4) | (have z := (c5 : Dm); clear z c5; intro c5; try simp only [noR] at c5) | (have z := (c6 : Dm); clear z c6; intro c6; try simp only [noR] at c6)) <;> (try simp -implicitDefEqProofs -dsimp (maxSteps := 2000000) (disch := (first | exact dz | fail)) only [go_sem, c6, c5, c4, c3, c2, c1, h6, h7, h9, h10, h11, h12, h13, h61, h62, h63, hlt, hx, k0, k1, hk, hd])))) <;> (try with_reducible and_intros) <;> (first | exact fz | skip)
          · have e3 : g3 a.l b.l x = [pn 2 x.path] := by simp [g3, hd, c1]
            rw [e3] at hst3
            refine (hM.push [_]).appO 2 rfl [pn 2 x.path] (n := 1) rfl rfl (hf.upPur (by omega)) (by simp; omega) (by omega) ?_
            intro r v' m3 hM' hold' _ hrs
            (have d1 : Dm := ⟨⟩; have d2 : Dm := ⟨⟩; have d3 : Dm := ⟨⟩; have d4 : Dm := ⟨⟩; have d5 : Dm := ⟨⟩; have d6 : Dm := ⟨⟩) <;> (try simp -implicitDefEqProofs -dsimp (maxSteps := 2000000) (disch := (first | exact dz | fail)) only [go_sem, ]) <;> (repeat' (first | ((with_reducible refine ds_and ?_ ?_); focus exact kz) | ((with_reducible refine And.intro ?_ ?_); focus exact oz) | ((with_reducible refine pc_and ?_ ?_); focus exact pz) | ((first | with_reducible refine gIf_t ?_ ?_ | with_reducible refine gIf_f ?_ ?_ | with_reducible refine ite_t ?_ ?_ | with_reducible refine ite_p ?_ ?_) <;> (first | (have z := (d1 : Dm); clear z d1; intro d1; try simp only [noR] at d1) | (have z := (d2 : Dm); clear z d2; intro d2; try simp only [noR] at d2) | (have z := (d3 : Dm); clear z d3; intro d3; try simp only [noR] at d3) | (have z := (d4 : Dm); clear z d4; intro d4; try simp only [noR] at d4) | (have z := (d5 : Dm); clear z d5; intro d5; try simp only [noR] at d5) | (have z := (d6 : Dm); clear z d6; intro d6; try simp only [noR] at d6)) <;> (try simp -implicitDefEqProofs -dsimp (maxSteps := 2000000) (disch := (first | exact dz | fail)) only [go_sem, d6, d5, d4, d3, d2, d1])))) <;> (try with_reducible and_intros) <;> (first | exact fz | skip)
            exact done _ _ _ _ (by rw [hst3, hst4, hst5]; exact hM') fun j hj => by rw [hold' j hj, List.getElem?_append_left (by omega)]; exact hold j hj
          · have e3 : g3 a.l b.l x = [] := by simp [g3, c1]
            rw [e3, List.append_nil] at hst3
            exact done _ _ _ _ (by rw [hst3, hst4, hst5]; exact hM.push _) fun j hj => by rw [List.getElem?_append_left (by omega)]; exact hold j hj
        | false =>
          have e3 : g3 a.l b.l x = [] := by simp [g3, hd]
          rw [e3, List.append_nil] at hst3
          by_cases hpf : x.path = x.first
          · have hpf' := hpf.symm
            clear hpf
            by_cases hkk : keptB a.l b.l x.path = true
            · have e4 : g4 a.l b.l x = [] := by simp [g4, hkk]
              rw [e4, List.append_nil] at hst4
              obtain ⟨y, hy⟩ : ∃ y, getL a.l x.path = some y := by
                unfold keptB at hkk
                cases hg : getL a.l x.path with
                | none => rw [hg] at hkk; simp at hkk
                | some y => exact ⟨y, rfl⟩
              obtain ⟨q, hfa⟩ := find_path_some hy
              have hma := fun l => (hA.push l).ma
              have e5 : g5 a.l b.l x = rewL x.path y.data x.data := by simp [g5, hd, hpf', wasL, hkk, hy]
              rw [e5] at hst5
              (have c1 : Dm := ⟨⟩; have c2 : Dm := ⟨⟩; have c3 : Dm := ⟨⟩; have c4 : Dm := ⟨⟩; have c5 : Dm := ⟨⟩; have c6 : Dm := ⟨⟩) <;> (try simp -implicitDefEqProofs -dsimp (maxSteps := 2000000) (disch := (first | exact dz | fail)) only [go_sem, h6, h7, h9, h10, h11, h12, h13, h61, h62, h63, hlt, hx, k0, k1, hk, hd, hpf', hkk, hma, hfa, hrw]) <;> (repeat' (first | ((with_reducible refine ds_and ?_ ?_); focus exact kz) | ((with_reducible refine And.intro ?_ ?_); focus exact oz) | ((with_reducible refine pc_and ?_ ?_); focus exact pz) | ((first | with_reducible refine gIf_t ?_ ?_ | with_reducible refine gIf_f ?_ ?_ | with_reducible refine ite_t ?_ ?_ | with_reducible refine ite_p ?_ ?_) <;> (first | (have z := (c1 : Dm); clear z c1; intro c1; try simp only [noR] at c1) | (have z := (c2 : Dm); clear z c2; intro c2; try simp only [noR] at c2) | (have z := (c3 : Dm); clear z c3; intro c3; try simp only [noR] at c3) | (have z := (c4 : Dm); clear z c4; intro c4; try simp only [noR] at c4) | (have z := (c5 : Dm); clear z c5; intro c5; try simp only [noR] at c5) | (have z := (c6 : Dm); clear z c6; intro c6; try simp only [noR] at c6)) <;> (try simp -implicitDefEqProofs -dsimp (maxSteps := 2000000) (disch := (first | exact dz | fail)) only [go_sem, c6, c5, c4, c3, c2, c1, h6, h7, h9, h10, h11, h12, h13, h61, h62, h63, hlt, hx, k0, k1, hk, hd, hpf', hkk, hma, hfa, hrw])))) <;> (try with_reducible and_intros) <;> (first | exact fz | skip)
              have hrl := rewL_le x.path y.data x.data hxd
              refine (hM.push [_]).appO 4 rfl (rewL x.path y.data x.data) (n := (rewL x.path y.data x.data).length) rfl rfl (hf.upPur (by omega)) (by simp; omega) (by omega) ?_
              intro r v' m3 hM' hold' _ hrs
              (have d1 : Dm := ⟨⟩; have d2 : Dm := ⟨⟩; have d3 : Dm := ⟨⟩; have d4 : Dm := ⟨⟩; have d5 : Dm := ⟨⟩; have d6 : Dm := ⟨⟩) <;> (try simp -implicitDefEqProofs -dsimp (maxSteps := 2000000) (disch := (first | exact dz | fail)) only [go_sem, ]) <;> (repeat' (first | ((with_reducible refine ds_and ?_ ?_); focus exact kz) | ((with_reducible refine And.intro ?_ ?_); focus exact oz) | ((with_reducible refine pc_and ?_ ?_); focus exact pz) | ((first | with_reducible refine gIf_t ?_ ?_ | with_reducible refine gIf_f ?_ ?_ | with_reducible refine ite_t ?_ ?_ | with_reducible refine ite_p ?_ ?_) <;> (first | (have z := (d1 : Dm); clear z d1; intro d1; try simp only [noR] at d1) | (have z := (d2 : Dm); clear z d2; intro d2; try simp only [noR] at d2) | (have z := (d3 : Dm); clear z d3; intro d3; try simp only [noR] at d3) | (have z := (d4 : Dm); clear z d4; intro d4; try simp only [noR] at d4) | (have z := (d5 : Dm); clear z d5; intro d5; try simp only [noR] at d5) | (have z := (d6 : Dm); clear z d6; intro d6; try simp only [noR] at d6)) <;> (try simp -implicitDefEqProofs -dsimp (maxSteps := 2000000) (disch := (first | exact dz | fail)) only [go_sem, d6, d5, d4, d3, d2, d1])))) <;> (try with_reducible and_intros) <;> (first | exact fz | skip)
              exact done _ _ _ _ (by rw [hst3, hst4, hst5]; exact hM') fun j hj => by rw [hold' j hj, List.getElem?_append_left (by omega)]; exact hold j hj
            · have hkk' : keptB a.l b.l x.path = false := by simpa using hkk
              have e5 : g5 a.l b.l x = rewL x.path [] x.data := by simp [g5, hd, hpf', wasL, hkk]
              rw [e5] at hst5
              have hlk : linksL b.l x.path = lnks b.l x.path := by rw [linksL_eq hrb (getL_of (right_srt hrb) hx) hd, hpf']
              have e4 : g4 a.l b.l x = pn 1 x.path :: ((lnks b.l x.path).drop 1).map (lk1 x.path) := by simp [g4, hd, hpf', hkk, hlk]
              rw [e4] at hst4
              (have c1 : Dm := ⟨⟩; have c2 : Dm := ⟨⟩; have c3 : Dm := ⟨⟩; have c4 : Dm := ⟨⟩; have c5 : Dm := ⟨⟩; have c6 : Dm := ⟨⟩) <;> (try simp -implicitDefEqProofs -dsimp (maxSteps := 2000000) (disch := (first | exact dz | fail)) only [go_sem, h6, h7, h9, h10, h11, h12, h13, h61, h62, h63, hlt, hx, k0, k1, hk, hd, hpf', hkk', hrw]) <;> (repeat' (first | ((with_reducible refine ds_and ?_ ?_); focus exact kz) | ((with_reducible refine And.intro ?_ ?_); focus exact oz) | ((with_reducible refine pc_and ?_ ?_); focus exact pz) | ((first | with_reducible refine gIf_t ?_ ?_ | with_reducible refine gIf_f ?_ ?_ | with_reducible refine ite_t ?_ ?_ | with_reducible refine ite_p ?_ ?_) <;> (first | (have z := (c1 : Dm); clear z c1; intro c1; try simp only [noR] at c1) | (have z := (c2 : Dm); clear z c2; intro c2; try simp only [noR] at c2) | (have z := (c3 : Dm); clear z c3; intro c3; try simp only [noR] at c3) | (have z := (c4 : Dm); clear z c4; intro c4; try simp only [noR] at c4) | (have z := (c5 : Dm); clear z c5; intro c5; try simp only [noR] at c5) | (have z := (c6 : Dm); clear z c6; intro c6; try simp only [noR] at c6)) <;> (try simp -implicitDefEqProofs -dsimp (maxSteps := 2000000) (disch := (first | exact dz | fail)) only [go_sem, c6, c5, c4, c3, c2, c1, h6, h7, h9, h10, h11, h12, h13, h61, h62, h63, hlt, hx, k0, k1, hk, hd, hpf', hkk', hrw])))) <;> (try with_reducible and_intros) <;> (first | exact fz | skip)
              refine (hM.new _).appO 3 rfl [pn 1 x.path] (n := 1) rfl rfl (hf.upPur (by omega)) (by simp; omega) (by omega) ?_
              intro r v4' m3 hM' hold' hlen' hrs
              have hnode := (hM'.get (i := 5) rfl).1
              have hold3 : ∀ j, j < M.length + 2 → m3[j]? = M2[j]? := fun j hj => by rw [hold' j hj, List.getElem?_append_left (by omega)]; exact hold j hj
              have k03 := hlt2 m3 hold3 _ _ g0
              have k13 := hlt2 m3 hold3 _ _ g1'
              obtain ⟨kb, gh, hlb2, hrow⟩ := hS.2.ml
              have hlb := hlt2 m3 hold3 _ _ hlb2
              have hxl : x.path ∈ lnks b.l x.path := List.mem_map.2 ⟨x, List.mem_filter.2 ⟨hxm, by simp [hd, hpf']⟩, rfl⟩
              have hxk : x.path ∈ kb := Classical.byContradiction fun h => by rw [hrow.out _ h] at hxl; simp at hxl
              obtain ⟨q1, _, hf1⟩ := findV_in (g := gh) hxk
              obtain ⟨ι, ν, hrw2, _⟩ := hrow.row
              obtain ⟨r1, _, r1'⟩ := hrw2 _ hxk
              obtain ⟨y0, L, hL⟩ : ∃ y0 L, lnks b.l x.path = y0 :: L := by
                cases h : lnks b.l x.path with
                | nil => rw [h] at hxl; simp at hxl
                | cons y0 L => exact ⟨y0, L, rfl⟩
              have hLl : L.length + 1 ≤ 512 := by
                have := linksLen b.l x.path
                rw [hlk, hL, List.length_cons] at this; omega
              rw [hL] at r1 r1' hst4
              rw [List.length_cons] at r1
              generalize ι x.path = ii at r1 r1'
              generalize ν x.path = vv at r1 r1'
              clear hrw2 hrow
              (have d1 : Dm := ⟨⟩; have d2 : Dm := ⟨⟩; have d3 : Dm := ⟨⟩; have d4 : Dm := ⟨⟩; have d5 : Dm := ⟨⟩; have d6 : Dm := ⟨⟩) <;> (try simp -implicitDefEqProofs -dsimp (maxSteps := 2000000) (disch := (first | exact dz | fail)) only [go_sem, hnode, k03, k13, hlb, hf1, r1, slR_own1]) <;> (repeat' (first | ((with_reducible refine ds_and ?_ ?_); focus exact kz) | ((with_reducible refine And.intro ?_ ?_); focus exact oz) | ((with_reducible refine pc_and ?_ ?_); focus exact pz) | ((first | with_reducible refine gIf_t ?_ ?_ | with_reducible refine gIf_f ?_ ?_ | with_reducible refine ite_t ?_ ?_ | with_reducible refine ite_p ?_ ?_) <;> (first | (have z := (d1 : Dm); clear z d1; intro d1; try simp only [noR] at d1) | (have z := (d2 : Dm); clear z d2; intro d2; try simp only [noR] at d2) | (have z := (d3 : Dm); clear z d3; intro d3; try simp only [noR] at d3) | (have z := (d4 : Dm); clear z d4; intro d4; try simp only [noR] at d4) | (have z := (d5 : Dm); clear z d5; intro d5; try simp only [noR] at d5) | (have z := (d6 : Dm); clear z d6; intro d6; try simp only [noR] at d6)) <;> (try simp -implicitDefEqProofs -dsimp (maxSteps := 2000000) (disch := (first | exact dz | fail)) only [go_sem, d6, d5, d4, d3, d2, d1, hnode, k03, k13, hlb, hf1, r1, slR_own1])))) <;> (try with_reducible and_intros) <;> (first | exact fz | skip)
              refine loopF (fun k ts m1 => ∃ (j : Nat) (w4 : AV), ts.length = 135 ∧ tg ts 6 = .ptr M.length (tagT 43) 0 ∧ tg ts 7 = .ptr (M.length + 1) (tagT 43) 0 ∧ tg ts 9 = kv v1 ∧ tg ts 10 = kv v2 ∧ tg ts 11 = kv v3 ∧ tg ts 12 = kv w4 ∧ tg ts 13 = kv v5 ∧ tg ts 17 = .ptr m'.length (tagT 47) 0 ∧ tg ts 19 = tx [] ∧ tg ts 61 = slf ndC b ∧ tg ts 62 = I b.l.length ∧ tg ts 63 = I i ∧ tg ts 105 = .own ii vv 1 L.length 1 ∧ tg ts 106 = I L.length ∧ tg ts 107 = I j ∧
                Many (M.length + 2) [RP F1 v1, RP F2 v2, RP ((b.l.take i).flatMap (g3 a.l b.l)) v3, RP ((b.l.take i).flatMap (g4 a.l b.l) ++ ([pn 1 x.path] ++ (L.take j).map (lk1 x.path))) w4, RP ((b.l.take i).flatMap (g5 a.l b.l)) v5, .at m'.length (.cells (tagT 47) [tx x.path, bo false, tx x.data, tx x.path])] m1 ∧ (∀ j, j < M.length + 2 → m1[j]? = M2[j]?) ∧ j ≤ L.length ∧ k = L.length - j) L.length ⟨0, v4', rfl, rfl, rfl, rfl, rfl, rfl, rfl, rfl, rfl, rfl, rfl, rfl, rfl, rfl, rfl, rfl, hM', hold3, by omega, by omega⟩ ?_
              clear hM' hM hold' hold3 hlen' k03 k13 hlb hnode h6 h7 h9 h10 h11 h12 h13 h61 h62 h63 k0 k1 hA hBb hl hrs
              clear r
              clear m3 ts
              rintro k ts m1 ⟨j, w4, hl, h6, h7, h9, h10, h11, h12, h13, h17, h19, h61, h62, h63, h105, h106, h107, hM, hold1, hj, rfl⟩
              rw [expandT hl]
              have hnode := (hM.get (i := 5) rfl).1
              have hle1 := hM.le
              have r1m := hlt2 m1 hold1 _ _ r1'
              have hlt1 : ((L.take j).map (lk1 x.path)).length ≤ 512 := by simp; omega
              by_cases hjl : (j : Int) < (L.length : Int)
              · obtain ⟨z, hz⟩ : ∃ z, L[j]? = some z := ⟨_, List.getElem?_eq_getElem (by omega)⟩
                have hz1 : ((y0 :: L).map tx)[1 + j]? = some (tx z) := by rw [Nat.add_comm, List.map_cons, List.getElem?_cons_succ, List.getElem?_map, hz]; rfl
                (have d1 : Dm := ⟨⟩; have d2 : Dm := ⟨⟩; have d3 : Dm := ⟨⟩; have d4 : Dm := ⟨⟩; have d5 : Dm := ⟨⟩; have d6 : Dm := ⟨⟩) <;> (try simp -implicitDefEqProofs -dsimp (maxSteps := 2000000) (disch := (first | exact dz | fail)) only [go_sem, h6, h7, h9, h10, h11, h12, h13, h17, h19, h61, h62, h63, h105, h106, h107, hjl, hnode, r1m, hz1]) <;> (repeat' (first | ((with_reducible refine ds_and ?_ ?_); focus exact kz) | ((with_reducible refine And.intro ?_ ?_); focus exact oz) | ((with_reducible refine pc_and ?_ ?_); focus exact pz) | ((first | with_reducible refine gIf_t ?_ ?_ | with_reducible refine gIf_f ?_ ?_ | with_reducible refine ite_t ?_ ?_ | with_reducible refine ite_p ?_ ?_) <;> (first | (have z := (d1 : Dm); clear z d1; intro d1; try simp only [noR] at d1) | (have z := (d2 : Dm); clear z d2; intro d2; try simp only [noR] at d2) | (have z := (d3 : Dm); clear z d3; intro d3; try simp only [noR] at d3) | (have z := (d4 : Dm); clear z d4; intro d4; try simp only [noR] at d4) | (have z := (d5 : Dm); clear z d5; intro d5; try simp only [noR] at d5) | (have z := (d6 : Dm); clear z d6; intro d6; try simp only [noR] at d6)) <;> (try simp -implicitDefEqProofs -dsimp (maxSteps := 2000000) (disch := (first | exact dz | fail)) only [go_sem, d6, d5, d4, d3, d2, d1, h6, h7, h9, h10, h11, h12, h13, h17, h19, h61, h62, h63, h105, h106, h107, hjl, hnode, r1m, hz1])))) <;> (try with_reducible and_intros) <;> (first | exact fz | skip)
                refine hM.appO 3 rfl [lk1 x.path z] (n := 1) rfl rfl (hf.upPur (by omega)) (by simp; omega) (by rw [List.length_append, List.length_append, List.length_singleton]; omega) ?_
                intro r w4' m4 hM4 hold4 _ hrs
                have hst : (b.l.take i).flatMap (g4 a.l b.l) ++ pn 1 x.path :: (L.take (j + 1)).map (lk1 x.path) = ((b.l.take i).flatMap (g4 a.l b.l) ++ ([pn 1 x.path] ++ (L.take j).map (lk1 x.path))) ++ [lk1 x.path z] := by rw [List.take_add_one, hz]; simp
                (have e1 : Dm := ⟨⟩; have e2 : Dm := ⟨⟩; have e3 : Dm := ⟨⟩; have e4 : Dm := ⟨⟩; have e5 : Dm := ⟨⟩; have e6 : Dm := ⟨⟩) <;> (try simp -implicitDefEqProofs -dsimp (maxSteps := 2000000) (disch := (first | exact dz | fail)) only [go_sem, ]) <;> (repeat' (first | ((with_reducible refine ds_and ?_ ?_); focus exact kz) | ((with_reducible refine And.intro ?_ ?_); focus exact oz) | ((with_reducible refine pc_and ?_ ?_); focus exact pz) | ((first | with_reducible refine gIf_t ?_ ?_ | with_reducible refine gIf_f ?_ ?_ | with_reducible refine ite_t ?_ ?_ | with_reducible refine ite_p ?_ ?_) <;> (first | (have z := (e1 : Dm); clear z e1; intro e1; try simp only [noR] at e1) | (have z := (e2 : Dm); clear z e2; intro e2; try simp only [noR] at e2) | (have z := (e3 : Dm); clear z e3; intro e3; try simp only [noR] at e3) | (have z := (e4 : Dm); clear z e4; intro e4; try simp only [noR] at e4) | (have z := (e5 : Dm); clear z e5; intro e5; try simp only [noR] at e5) | (have z := (e6 : Dm); clear z e6; intro e6; try simp only [noR] at e6)) <;> (try simp -implicitDefEqProofs -dsimp (maxSteps := 2000000) (disch := (first | exact dz | fail)) only [go_sem, e6, e5, e4, e3, e2, e1])))) <;> (try with_reducible and_intros) <;> (first | exact fz | skip)
                exact ⟨_, by omega, j + 1, w4', rfl, rfl, by
                  rw [hst]; exact hM4, fun j hj => by rw [hold4 j hj]; exact hold1 j hj, by omega, rfl⟩
              · have hjt : L.take j = L := List.take_of_length_le (by omega)
                rw [hjt] at hM hlt1
                (have d1 : Dm := ⟨⟩; have d2 : Dm := ⟨⟩; have d3 : Dm := ⟨⟩; have d4 : Dm := ⟨⟩; have d5 : Dm := ⟨⟩; have d6 : Dm := ⟨⟩) <;> (try simp -implicitDefEqProofs -dsimp (maxSteps := 2000000) (disch := (first | exact dz | fail)) only [go_sem, h6, h7, h9, h10, h11, h12, h13, h17, h19, h61, h62, h63, h105, h106, h107, hjl, hnode, hrw]) <;> (repeat' (first | ((with_reducible refine ds_and ?_ ?_); focus exact kz) | ((with_reducible refine And.intro ?_ ?_); focus exact oz) | ((with_reducible refine pc_and ?_ ?_); focus exact pz) | ((first | with_reducible refine gIf_t ?_ ?_ | with_reducible refine gIf_f ?_ ?_ | with_reducible refine ite_t ?_ ?_ | with_reducible refine ite_p ?_ ?_) <;> (first | (have z := (d1 : Dm); clear z d1; intro d1; try simp only [noR] at d1) | (have z := (d2 : Dm); clear z d2; intro d2; try simp only [noR] at d2) | (have z := (d3 : Dm); clear z d3; intro d3; try simp only [noR] at d3) | (have z := (d4 : Dm); clear z d4; intro d4; try simp only [noR] at d4) | (have z := (d5 : Dm); clear z d5; intro d5; try simp only [noR] at d5) | (have z := (d6 : Dm); clear z d6; intro d6; try simp only [noR] at d6)) <;> (try simp -implicitDefEqProofs -dsimp (maxSteps := 2000000) (disch := (first | exact dz | fail)) only [go_sem, d6, d5, d4, d3, d2, d1, h6, h7, h9, h10, h11, h12, h13, h17, h19, h61, h62, h63, h105, h106, h107, hjl, hnode, hrw])))) <;> (try with_reducible and_intros) <;> (first | exact fz | skip)
                have hrl := rewL_le x.path [] x.data hxd
                refine hM.appO 4 rfl (rewL x.path [] x.data) (n := (rewL x.path [] x.data).length) rfl rfl (hf.upPur (by omega)) (by simp; omega) (by omega) ?_
                intro r v5' m4 hM4 hold4 _ hrs
                (have e1 : Dm := ⟨⟩; have e2 : Dm := ⟨⟩; have e3 : Dm := ⟨⟩; have e4 : Dm := ⟨⟩; have e5 : Dm := ⟨⟩; have e6 : Dm := ⟨⟩) <;> (try simp -implicitDefEqProofs -dsimp (maxSteps := 2000000) (disch := (first | exact dz | fail)) only [go_sem, ]) <;> (repeat' (first | ((with_reducible refine ds_and ?_ ?_); focus exact kz) | ((with_reducible refine And.intro ?_ ?_); focus exact oz) | ((with_reducible refine pc_and ?_ ?_); focus exact pz) | ((first | with_reducible refine gIf_t ?_ ?_ | with_reducible refine gIf_f ?_ ?_ | with_reducible refine ite_t ?_ ?_ | with_reducible refine ite_p ?_ ?_) <;> (first | (have z := (e1 : Dm); clear z e1; intro e1; try simp only [noR] at e1) | (have z := (e2 : Dm); clear z e2; intro e2; try simp only [noR] at e2) | (have z := (e3 : Dm); clear z e3; intro e3; try simp only [noR] at e3) | (have z := (e4 : Dm); clear z e4; intro e4; try simp only [noR] at e4) | (have z := (e5 : Dm); clear z e5; intro e5; try simp only [noR] at e5) | (have z := (e6 : Dm); clear z e6; intro e6; try simp only [noR] at e6)) <;> (try simp -implicitDefEqProofs -dsimp (maxSteps := 2000000) (disch := (first | exact dz | fail)) only [go_sem, e6, e5, e4, e3, e2, e1])))) <;> (try with_reducible and_intros) <;> (first | exact fz | skip)
                refine done v3 w4 v5' m4 ?_ fun j hj => by rw [hold4 j hj]; exact hold1 j hj
                rw [hst3, hst4, hst5]
                exact Many.init (l := [.at m'.length (.cells (tagT 47) [tx x.path, bo false, tx x.data, tx x.path])]) hM4
          · have hpf' : ¬x.first = x.path := fun e => hpf e.symm
            have e4 : g4 a.l b.l x = [] := by simp [g4, hpf']
            have e5 : g5 a.l b.l x = [] := by simp [g5, hpf']
            rw [e4, List.append_nil] at hst4
            rw [e5, List.append_nil] at hst5
            (have c1 : Dm := ⟨⟩; have c2 : Dm := ⟨⟩; have c3 : Dm := ⟨⟩; have c4 : Dm := ⟨⟩; have c5 : Dm := ⟨⟩; have c6 : Dm := ⟨⟩) <;> (try simp -implicitDefEqProofs -dsimp (maxSteps := 2000000) (disch := (first | exact dz | fail)) only [go_sem, h6, h7, h9, h10, h11, h12, h13, h61, h62, h63, hlt, hx, k0, k1, hk, hd, hpf]) <;> (repeat' (first | ((with_reducible refine ds_and ?_ ?_); focus exact kz) | ((with_reducible refine And.intro ?_ ?_); focus exact oz) | ((with_reducible refine pc_and ?_ ?_); focus exact pz) | ((first | with_reducible refine gIf_t ?_ ?_ | with_reducible refine gIf_f ?_ ?_ | with_reducible refine ite_t ?_ ?_ | with_reducible refine ite_p ?_ ?_) <;> (first | (have z := (c1 : Dm); clear z c1; intro c1; try simp only [noR] at c1) | (have z := (c2 : Dm); clear z c2; intro c2; try simp only [noR] at c2) | (have z := (c3 : Dm); clear z c3; intro c3; try simp only [noR] at c3) | (have z := (c4 : Dm); clear z c4; intro c4; try simp only [noR] at c4) | (have z := (c5 : Dm); clear z c5; intro c5; try simp only [noR] at c5) | (have z := (c6 : Dm); clear z c6; intro c6; try simp only [noR] at c6)) <;> (try simp -implicitDefEqProofs -dsimp (maxSteps := 2000000) (disch := (first | exact dz | fail)) only [go_sem, c6, c5, c4, c3, c2, c1, h6, h7, h9, h10, h11, h12, h13, h61, h62, h63, hlt, hx, k0, k1, hk, hd, hpf])))) <;> (try with_reducible and_intros) <;> (first | exact fz | skip)
            exact done _ _ _ _ (by rw [hst3, hst4, hst5]; exact hM.push _) fun j hj => by rw [List.getElem?_append_left (by omega)]; exact hold j hj
      · have hte : b.l.take i = b.l := List.take_of_length_le (by omega)
        rw [hte] at hM hfl3 hfl4 hfl5
        have kc : ∀ {i : Nat} {l : List Pn} {v : AV}, [RP F1 v1, RP F2 v2, RP (b.l.flatMap (g3 a.l b.l)) v3, RP (b.l.flatMap (g4 a.l b.l)) v4, RP (b.l.flatMap (g5 a.l b.l)) v5][i]? = some (RP l v) → ((kv v).cells = [kv v] ∧ (kv v).leaf = true) ∧ RowV m'.length v l m' := fun he => by
          rcases hM.rowO he with ⟨rfl, rfl⟩ | ⟨h0, id, ver, rfl, h1, _, h2⟩
          · exact ⟨⟨rfl, rfl⟩, Or.inl ⟨rfl, rfl⟩⟩
          · exact ⟨⟨rfl, rfl⟩, Or.inr ⟨h0, id, ver, rfl, h1, h2⟩⟩
        obtain ⟨⟨k1c, k1l⟩, k1r⟩ := kc (i := 0) rfl
        obtain ⟨⟨k2c, k2l⟩, k2r⟩ := kc (i := 1) rfl
        obtain ⟨⟨k3c, k3l⟩, k3r⟩ := kc (i := 2) rfl
        obtain ⟨⟨k4c, k4l⟩, k4r⟩ := kc (i := 3) rfl
        obtain ⟨⟨k5c, k5l⟩, k5r⟩ := kc (i := 4) rfl
        (have c1 : Dm := ⟨⟩; have c2 : Dm := ⟨⟩; have c3 : Dm := ⟨⟩; have c4 : Dm := ⟨⟩; have c5 : Dm := ⟨⟩; have c6 : Dm := ⟨⟩) <;> (try simp -implicitDefEqProofs -dsimp (maxSteps := 2000000) (disch := (first | exact dz | fail)) only [go_sem, h6, h7, h9, h10, h11, h12, h13, h61, h62, h63, hlt, k1c, k1l, k2c, k2l, k3c, k3l, k4c, k4l, k5c, k5l]) <;> (repeat' (first | ((with_reducible refine ds_and ?_ ?_); focus exact kz) | ((with_reducible refine And.intro ?_ ?_); focus exact oz) | ((with_reducible refine pc_and ?_ ?_); focus exact pz) | ((first | with_reducible refine gIf_t ?_ ?_ | with_reducible refine gIf_f ?_ ?_ | with_reducible refine ite_t ?_ ?_ | with_reducible refine ite_p ?_ ?_) <;> (first | (have z := (c1 : Dm); clear z c1; intro c1; try simp only [noR] at c1) | (have z := (c2 : Dm); clear z c2; intro c2; try simp only [noR] at c2) | (have z := (c3 : Dm); clear z c3; intro c3; try simp only [noR] at c3) | (have z := (c4 : Dm); clear z c4; intro c4; try simp only [noR] at c4) | (have z := (c5 : Dm); clear z c5; intro c5; try simp only [noR] at c5) | (have z := (c6 : Dm); clear z c6; intro c6; try simp only [noR] at c6)) <;> (try simp -implicitDefEqProofs -dsimp (maxSteps := 2000000) (disch := (first | exact dz | fail)) only [go_sem, c6, c5, c4, c3, c2, c1, h6, h7, h9, h10, h11, h12, h13, h61, h62, h63, hlt, k1c, k1l, k2c, k2l, k3c, k3l, k4c, k4l, k5c, k5l])))) <;> (try with_reducible and_intros) <;> (first | exact fz | skip)
        show WC _ _ _ _ [sl kv ⟨false, true, [v1, v2, v3, v4, v5]⟩] _ _
        refine (concat_ok (b := m'.length) [v1, v2, v3, v4, v5] [F1, F2, b.l.flatMap (g3 a.l b.l), b.l.flatMap (g4 a.l b.l), b.l.flatMap (g5 a.l b.l)] rfl ?_ (Nat.le_refl _) ?_ (by simp) (hf.upPur (by omega))).mono ?_
        · intro i v hv
          match i, hv with
          | 0, hv => cases hv; exact ⟨_, rfl, k1r⟩
          | 1, hv => cases hv; exact ⟨_, rfl, k2r⟩
          | 2, hv => cases hv; exact ⟨_, rfl, k3r⟩
          | 3, hv => cases hv; exact ⟨_, rfl, k4r⟩
          | 4, hv => cases hv; exact ⟨_, rfl, k5r⟩
        · simp only [List.flatten_cons, List.flatten_nil, List.length_append, List.length_nil]
          omega
        rintro r m4 ⟨rfl, rfl⟩
        rw [← hdec]
        (have d1 : Dm := ⟨⟩; have d2 : Dm := ⟨⟩; have d3 : Dm := ⟨⟩; have d4 : Dm := ⟨⟩; have d5 : Dm := ⟨⟩; have d6 : Dm := ⟨⟩) <;> (try simp -implicitDefEqProofs -dsimp (maxSteps := 2000000) (disch := (first | exact dz | fail)) only [go_sem, ]) <;> (repeat' (first | ((with_reducible refine ds_and ?_ ?_); focus exact kz) | ((with_reducible refine And.intro ?_ ?_); focus exact oz) | ((with_reducible refine pc_and ?_ ?_); focus exact pz) | ((first | with_reducible refine gIf_t ?_ ?_ | with_reducible refine gIf_f ?_ ?_ | with_reducible refine ite_t ?_ ?_ | with_reducible refine ite_p ?_ ?_) <;> (first | (have z := (d1 : Dm); clear z d1; intro d1; try simp only [noR] at d1) | (have z := (d2 : Dm); clear z d2; intro d2; try simp only [noR] at d2) | (have z := (d3 : Dm); clear z d3; intro d3; try simp only [noR] at d3) | (have z := (d4 : Dm); clear z d4; intro d4; try simp only [noR] at d4) | (have z := (d5 : Dm); clear z d5; intro d5; try simp only [noR] at d5) | (have z := (d6 : Dm); clear z d6; intro d6; try simp only [noR] at d6)) <;> (try simp -implicitDefEqProofs -dsimp (maxSteps := 2000000) (disch := (first | exact dz | fail)) only [go_sem, d6, d5, d4, d3, d2, d1])))) <;> (try with_reducible and_intros) <;> (first | exact fz | skip)
        rfl
end
end Go.Proofs.YtcmjidnbbfcbjaaDoor.V.L1
/- DeltaDiffs in the VM; no condition. -/
namespace Go.Proofs.YtcmjidnbbfcbjaaDoor.V
open Go
set_option linter.unusedVariables false
set_option linter.unusedSimpArgs false
set_option maxRecDepth 100000
set_option maxHeartbeats 4000000
noncomputable section
variable {en : Env} {m : Mem}
theorem FitT.take {l : List Nd} (h : FitT l) (n : Nat) : FitT (l.take n) :=
  ⟨by have := h.len; simp; omega, fun x hx => h.path x (List.mem_of_mem_take hx), fun x hx => h.first x (List.mem_of_mem_take hx), fun x hx => h.data x (List.mem_of_mem_take hx)⟩
theorem FitT.few {t : Sl Nd} (h : FitT t.l) : FitT (if 60 < t.l.length then t.sub 0 60 else t).l := by
  split
  · have := h.take 60
    simpa [Sl.sub] using this
  · exact h
theorem fitO_rew {p : List UInt8} {was is : List UInt8} (h : is.length ≤ 256) : ∀ o ∈ rewL p was is, o.data.length ≤ 64 := by
  intro o ho
  unfold rewL at ho
  split at ho
  · simp at ho
  · rw [List.mem_append] at ho
    rcases ho with ho | ho
    · split at ho
      · simp at ho
      · simp at ho; subst ho; simp [pn]
    · unfold pieces at ho
      rw [List.mem_map] at ho
      obtain ⟨k, _, rfl⟩ := ho
      simp [piece]; omega
theorem diffL_data {a b : List Nd} (hb : rightL b = true) : ∀ o ∈ diffL a b, o.data.length ≤ 64 := by
  intro o ho
  unfold diffL at ho
  simp only [List.mem_append, List.mem_flatMap] at ho
  rcases ho with (((⟨n, _, h⟩ | ⟨n, _, h⟩) | ⟨n, _, h⟩) | ⟨n, _, h⟩) | ⟨n, hn, h⟩
  · unfold g1 at h; split at h <;> simp at h; subst h; simp [pn]
  · unfold g2 at h; split at h <;> simp at h; subst h; simp [pn]
  · unfold g3 at h; split at h <;> simp at h; subst h; simp [pn]
  · unfold g4 at h; split at h
    · simp at h
    · rw [List.mem_cons, List.mem_map] at h
      rcases h with rfl | ⟨q, _, rfl⟩ <;> simp [pn, lk1]
  · unfold g5 at h; split at h
    · simp at h
    · exact fitO_rew (right_data hb n hn) o h
theorem diffL_len {a b : List Nd} (ha : rightL a = true) (hb : rightL b = true) : (diffL a b).length ≤ 1048576 := by
  obtain ⟨_, ha512, _⟩ := right_facts ha
  obtain ⟨_, hb512, _⟩ := right_facts hb
  have h1 := flatMap_le (g1 a b) 1 a fun x _ => g1_le _ _ x
  have h2 := flatMap_le (g2 a b) 1 a.reverse fun x _ => g2_le _ _ x
  have h3 := flatMap_le (g3 a b) 1 b fun x _ => g3_le _ _ x
  have h4 := flatMap_le (g4 a b) 513 b fun x _ => Nat.le_trans (g4_le _ _ x) (by omega)
  have h5 := flatMap_le (g5 a b) 6 b fun x hx => by
    unfold g5; split
    · simp
    · exact rewL_le _ _ _ (right_data hb x hx)
  simp only [diffL, List.length_append, List.length_reverse] at *
  omega
theorem fitO_diff {a b : List Nd} (ha : rightL a = true) (hb : rightL b = true) : FitO (diffL a b) :=
  ⟨by have := diffL_len ha hb; omega, fun o ho => by have := diffL_data hb o ho; omega⟩
theorem fewN_ok (t : Sl Nd) (ht : t.l.length ≤ 1048576) (hf : Fits en m.length) : WC Tryd.prog pol en (.func 5) [slf ndC t] m fun v m' => v = slf ndC (if 60 < t.l.length then t.sub 0 60 else t) ∧ m' = m := by
  refine callPur Tryd.func5 rfl rfl Tryd.ntmps5 Tryd.results5 ?_
  by_cases h : (60 : Int) < (t.l.length : Int)
  · rw [if_pos (by omega)]
    (have hq1 : Dm := ⟨⟩; have hq2 : Dm := ⟨⟩; have hq3 : Dm := ⟨⟩; have hq4 : Dm := ⟨⟩; have hq5 : Dm := ⟨⟩; have hq6 : Dm := ⟨⟩) <;> (try simp -implicitDefEqProofs -dsimp (maxSteps := 2000000) (disch := (first | exact dz | fail)) only [go_sem, h]) <;> (repeat' (first | ((with_reducible refine ds_and ?_ ?_); focus exact kz) | ((with_reducible refine And.intro ?_ ?_); focus exact oz) | ((with_reducible refine pc_and ?_ ?_); focus exact pz) | ((first | with_reducible refine gIf_t ?_ ?_ | with_reducible refine gIf_f ?_ ?_ | with_reducible refine ite_t ?_ ?_ | with_reducible refine ite_p ?_ ?_) <;> (first | (have z := (hq1 : Dm); clear z hq1; intro hq1; try simp only [noR] at hq1) | (have z := (hq2 : Dm); clear z hq2; intro hq2; try simp only [noR] at hq2) | (have z := (hq3 : Dm); clear z hq3; intro hq3; try simp only [noR] at hq3) | (have z := (hq4 : Dm); clear z hq4; intro hq4; try simp only [noR] at hq4) | (have z := (hq5 : Dm); clear z hq5; intro hq5; try simp only [noR] at hq5) | (have z := (hq6 : Dm); clear z hq6; intro hq6; try simp only [noR] at hq6)) <;> (try simp -implicitDefEqProofs -dsimp (maxSteps := 2000000) (disch := (first | exact dz | fail)) only [go_sem, hq6, hq5, hq4, hq3, hq2, hq1, h])))) <;> (try with_reducible and_intros) <;> (first | exact fz | skip)
  · rw [if_neg (by omega)]
    (have hq1 : Dm := ⟨⟩; have hq2 : Dm := ⟨⟩; have hq3 : Dm := ⟨⟩; have hq4 : Dm := ⟨⟩; have hq5 : Dm := ⟨⟩; have hq6 : Dm := ⟨⟩) <;> (try simp -implicitDefEqProofs -dsimp (maxSteps := 2000000) (disch := (first | exact dz | fail)) only [go_sem, h]) <;> (repeat' (first | ((with_reducible refine ds_and ?_ ?_); focus exact kz) | ((with_reducible refine And.intro ?_ ?_); focus exact oz) | ((with_reducible refine pc_and ?_ ?_); focus exact pz) | ((first | with_reducible refine gIf_t ?_ ?_ | with_reducible refine gIf_f ?_ ?_ | with_reducible refine ite_t ?_ ?_ | with_reducible refine ite_p ?_ ?_) <;> (first | (have z := (hq1 : Dm); clear z hq1; intro hq1; try simp only [noR] at hq1) | (have z := (hq2 : Dm); clear z hq2; intro hq2; try simp only [noR] at hq2) | (have z := (hq3 : Dm); clear z hq3; intro hq3; try simp only [noR] at hq3) | (have z := (hq4 : Dm); clear z hq4; intro hq4; try simp only [noR] at hq4) | (have z := (hq5 : Dm); clear z hq5; intro hq5; try simp only [noR] at hq5) | (have z := (hq6 : Dm); clear z hq6; intro hq6; try simp only [noR] at hq6)) <;> (try simp -implicitDefEqProofs -dsimp (maxSteps := 2000000) (disch := (first | exact dz | fail)) only [go_sem, hq6, hq5, hq4, hq3, hq2, hq1, h])))) <;> (try with_reducible and_intros) <;> (first | exact fz | skip)
end
end Go.Proofs.YtcmjidnbbfcbjaaDoor.V
namespace Go.Proofs.YtcmjidnbbfcbjaaDoor.V.L1
open Go V
set_option linter.unusedVariables false
set_option linter.unusedSimpArgs false
set_option maxRecDepth 100000
set_option maxHeartbeats 4000000
noncomputable section
variable {en : Env} {m : Mem}
theorem fewN_okL (t : Sl Nd) (ht : t.l.length ≤ 1048576) (hf : Fits en m.length) : WC Tryd.prog pol en (.func 5) [slf ndC t] m fun v m' => v = slf ndC (if 60 < t.l.length then t.sub 0 60 else t) ∧ m' = m := by
  refine callPur Tryd.func5 rfl rfl Tryd.ntmps5 Tryd.results5 ?_
  by_cases h : (60 : Int) < (t.l.length : Int)
  · rw [if_pos (by omega)]
    (have hq1 : Dm := ⟨⟩; have hq2 : Dm := ⟨⟩; have hq3 : Dm := ⟨⟩; have hq4 : Dm := ⟨⟩; have hq5 : Dm := ⟨⟩; have hq6 : Dm := ⟨⟩) <;> (try simp -implicitDefEqProofs -dsimp (maxSteps := 2000000) (disch := (first | exact dz | fail)) only [go_sem, h]) <;> (repeat' (first | ((with_reducible refine ds_and ?_ ?_); focus exact kz) | ((with_reducible refine And.intro ?_ ?_); focus exact oz) | ((with_reducible refine pc_and ?_ ?_); focus exact pz) | ((first | with_reducible refine gIf_t ?_ ?_ | with_reducible refine gIf_f ?_ ?_ | with_reducible refine ite_t ?_ ?_ | with_reducible refine ite_p ?_ ?_) <;> (first | (have z := (hq1 : Dm); clear z hq1; intro hq1; try simp only [noR] at hq1) | (have z := (hq2 : Dm); clear z hq2; intro hq2; try simp only [noR] at hq2) | (have z := (hq3 : Dm); clear z hq3; intro hq3; try simp only [noR] at hq3) | (have z := (hq4 : Dm); clear z hq4; intro hq4; try simp only [noR] at hq4) | (have z := (hq5 : Dm); clear z hq5; intro hq5; try simp only [noR] at hq5) | (have z := (hq6 : Dm); clear z hq6; intro hq6; try simp only [noR] at hq6)) <;> (try simp -implicitDefEqProofs -dsimp (maxSteps := 2000000) (disch := (first | exact dz | fail)) only [go_sem, hq6, hq5, hq4, hq3, hq2, hq1, h])))) <;> (try with_reducible and_intros) <;> (first | exact fz | skip)
  · rw [if_neg (by omega)]
    (have hq1 : Dm := ⟨⟩; have hq2 : Dm := ⟨⟩; have hq3 : Dm := ⟨⟩; have hq4 : Dm := ⟨⟩; have hq5 : Dm := ⟨⟩; have hq6 : Dm := ⟨⟩) <;> (try simp -implicitDefEqProofs -dsimp (maxSteps := 2000000) (disch := (first | exact dz | fail)) only [go_sem, h]) <;> (repeat' (first | ((with_reducible refine ds_and ?_ ?_); focus exact kz) | ((with_reducible refine And.intro ?_ ?_); focus exact oz) | ((with_reducible refine pc_and ?_ ?_); focus exact pz) | ((first | with_reducible refine gIf_t ?_ ?_ | with_reducible refine gIf_f ?_ ?_ | with_reducible refine ite_t ?_ ?_ | with_reducible refine ite_p ?_ ?_) <;> (first | (have z := (hq1 : Dm); clear z hq1; intro hq1; try simp only [noR] at hq1) | (have z := (hq2 : Dm); clear z hq2; intro hq2; try simp only [noR] at hq2) | (have z := (hq3 : Dm); clear z hq3; intro hq3; try simp only [noR] at hq3) | (have z := (hq4 : Dm); clear z hq4; intro hq4; try simp only [noR] at hq4) | (have z := (hq5 : Dm); clear z hq5; intro hq5; try simp only [noR] at hq5) | (have z := (hq6 : Dm); clear z hq6; intro hq6; try simp only [noR] at hq6)) <;> (try simp -implicitDefEqProofs -dsimp (maxSteps := 2000000) (disch := (first | exact dz | fail)) only [go_sem, hq6, hq5, hq4, hq3, hq2, hq1, h])))) <;> (try with_reducible and_intros) <;> (first | exact fz | skip)
theorem live_eq (m : Mem) (Q : AV → Mem → Prop) : WC Tryd.prog pol en (.func 10) [] m Q = Q (.sc (.bool true)) m := lift (fun m => live_ok) rfl m Q
theorem diffs_law (a b : Sl Nd) (ha : FitT a.l) (hb : FitT b.l) (hf : Fits en m.length) : WC Tryd.prog pol en (.func 3) [slf ndC a, slf ndC b] m fun v m' => v = .sc (.bool true) ∧ m' = m := by
  refine callPur Tryd.func3 rfl rfl Tryd.ntmps3 Tryd.results3 ?_
  have hra := fun (en : Env) (m : Mem) Q (hf : Fits en m.length) => (fewN_okL (m := m) (en := en) a ha.len hf).rule Q
  have hrb := fun (en : Env) (m : Mem) Q (hf : Fits en m.length) => (fewN_okL (m := m) (en := en) b hb.len hf).rule Q
  have ha' := ha.few
  have hb' := hb.few
  generalize (if 60 < a.l.length then a.sub 0 60 else a) = a' at hra ha'
  generalize (if 60 < b.l.length then b.sub 0 60 else b) = b' at hrb hb'
  have r1 := fun (en : Env) (m : Mem) Q (hf : Fits en m.length) => (diff0_ok (m := m) (en := en) a' b' ha' hb' hf).rule Q
  have r2 := fun (en : Env) (m : Mem) Q (hf : Fits en m.length) => (diff_ok (m := m) (en := en) a' b' ha' hb' hf).rule Q
  have r3 := fun (en : Env) (m : Mem) Q (hf : Fits en m.length) => (kept0_ok (m := m) (en := en) a' b' ha' hb' hf).rule Q
  have r4 := fun (en : Env) (m : Mem) Q (hf : Fits en m.length) => (keptAll_ok (m := m) (en := en) a' b' ha' hb' hf).rule Q
  cases hr : (rightL a'.l && rightL b'.l) with
  | false =>
    have z : FitO ([] : List Pn) := ⟨by simp, by simp⟩
    have s0 := fun (en : Env) (m : Mem) Q (hf : Fits en m.length) => (show WC Tryd.prog pol en (.func 11) [.nilS, .nilS] m Q = Q (bo true) m from sameOps_eq ⟨true, false, []⟩ ⟨true, false, []⟩ m Q (by simp))
    have s1 := fun (en : Env) (m : Mem) Q (hf : Fits en m.length) => (show WC Tryd.prog pol en (.func 12) [.nilS] m Q = Q (I 0) m from (size0_ok ⟨true, false, []⟩ z hf).rule Q)
    have s2 := fun (en : Env) (m : Mem) Q (hf : Fits en m.length) => (show WC Tryd.prog pol en (.func 13) [.nilS] m Q = Q (I 0) m from (size_ok ⟨true, false, []⟩ z hf).rule Q)
    have s3 := fun (en : Env) (m : Mem) Q (hf : Fits en m.length) => (show WC Tryd.prog pol en (.func 14) [.nilS, .nilS] m Q = Q (bo true) m from sameTexts_eq ⟨true, false, []⟩ ⟨true, false, []⟩ m Q (by simp))
    (have hq1 : Dm := ⟨⟩; have hq2 : Dm := ⟨⟩; have hq3 : Dm := ⟨⟩; have hq4 : Dm := ⟨⟩; have hq5 : Dm := ⟨⟩; have hq6 : Dm := ⟨⟩) <;> (try simp -implicitDefEqProofs -dsimp (maxSteps := 2000000) (disch := (first | exact dz | fail)) only [go_sem, hra, hrb, r1, r2, r3, r4, hr, diffA, keptA, live_eq, s0, s1, s2, s3]) <;> (repeat' (first | ((with_reducible refine ds_and ?_ ?_); focus exact kz) | ((with_reducible refine And.intro ?_ ?_); focus exact oz) | ((with_reducible refine pc_and ?_ ?_); focus exact pz) | ((first | with_reducible refine gIf_t ?_ ?_ | with_reducible refine gIf_f ?_ ?_ | with_reducible refine ite_t ?_ ?_ | with_reducible refine ite_p ?_ ?_) <;> (first | (have z := (hq1 : Dm); clear z hq1; intro hq1; try simp only [noR] at hq1) | (have z := (hq2 : Dm); clear z hq2; intro hq2; try simp only [noR] at hq2) | (have z := (hq3 : Dm); clear z hq3; intro hq3; try simp only [noR] at hq3) | (have z := (hq4 : Dm); clear z hq4; intro hq4; try simp only [noR] at hq4) | (have z := (hq5 : Dm); clear z hq5; intro hq5; try simp only [noR] at hq5) | (have z := (hq6 : Dm); clear z hq6; intro hq6; try simp only [noR] at hq6)) <;> (try simp -implicitDefEqProofs -dsimp (maxSteps := 2000000) (disch := (first | exact dz | fail)) only [go_sem, hq6, hq5, hq4, hq3, hq2, hq1, hra, hrb, r1, r2, r3, r4, hr, diffA, keptA, live_eq, s0, s1, s2, s3]))))
  | true =>
    have hR := hr
    rw [Bool.and_eq_true] at hR
    have hO := fitO_diff hR.1 hR.2
    have s1 := fun (en : Env) (m : Mem) Q (hf : Fits en m.length) => (size0_ok (m := m) (en := en) ⟨true, false, diffL a'.l b'.l⟩ hO hf).rule Q
    have s2 := fun (en : Env) (m : Mem) Q (hf : Fits en m.length) => (size_ok (m := m) (en := en) ⟨true, false, diffL a'.l b'.l⟩ hO hf).rule Q
    have hl := diffL_len hR.1 hR.2
    have hk : (keptL a'.l b'.l).length ≤ 1048576 := by
      have := List.length_filter_le (fun n => keptB a'.l b'.l n.path) a'.l
      have := ha'.len
      simp [keptL]; omega
    (have hq1 : Dm := ⟨⟩; have hq2 : Dm := ⟨⟩; have hq3 : Dm := ⟨⟩; have hq4 : Dm := ⟨⟩; have hq5 : Dm := ⟨⟩; have hq6 : Dm := ⟨⟩) <;> (try simp -implicitDefEqProofs -dsimp (maxSteps := 2000000) (disch := (first | exact dz | fail)) only [go_sem, hra, hrb, r1, r2, r3, r4, hr, diffA, keptA, s1, s2, live_eq, sameOps_eq, sameTexts_eq]) <;> (repeat' (first | ((with_reducible refine ds_and ?_ ?_); focus exact kz) | ((with_reducible refine And.intro ?_ ?_); focus exact oz) | ((with_reducible refine pc_and ?_ ?_); focus exact pz) | ((first | with_reducible refine gIf_t ?_ ?_ | with_reducible refine gIf_f ?_ ?_ | with_reducible refine ite_t ?_ ?_ | with_reducible refine ite_p ?_ ?_) <;> (first | (have z := (hq1 : Dm); clear z hq1; intro hq1; try simp only [noR] at hq1) | (have z := (hq2 : Dm); clear z hq2; intro hq2; try simp only [noR] at hq2) | (have z := (hq3 : Dm); clear z hq3; intro hq3; try simp only [noR] at hq3) | (have z := (hq4 : Dm); clear z hq4; intro hq4; try simp only [noR] at hq4) | (have z := (hq5 : Dm); clear z hq5; intro hq5; try simp only [noR] at hq5) | (have z := (hq6 : Dm); clear z hq6; intro hq6; try simp only [noR] at hq6)) <;> (try simp -implicitDefEqProofs -dsimp (maxSteps := 2000000) (disch := (first | exact dz | fail)) only [go_sem, hq6, hq5, hq4, hq3, hq2, hq1, hra, hrb, r1, r2, r3, r4, hr, diffA, keptA, s1, s2, live_eq, sameOps_eq, sameTexts_eq]))))
end
end Go.Proofs.YtcmjidnbbfcbjaaDoor.V.L1
/- DeltaDiffs, at the top; no condition. -/
namespace Go.Proofs.YtcmjidnbbfcbjaaDoor.V
open Go
theorem diffs_top (a b : Sl Nd) (ha : FitT a.l) (hb : FitT b.l) : WC Tryd.prog L1.pol ⟨[], 0⟩ (.func 3) [slf ndC a, slf ndC b] [] fun v m' => v = .sc (.bool true) ∧ m' = [] :=
  L1.diffs_law a b ha hb (fun B hB => by cases hB)
end Go.Proofs.YtcmjidnbbfcbjaaDoor.V
