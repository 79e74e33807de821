/- Parts of the proof, joined (D3, D4, EP, E1, E2, E3, E4, D5, DP, D6, D7); no condition. -/
import Derived.Test.YtcmjidnbbfcbjaaDoorMq
import Derived.Test.YtcmjidnbbfcbjaaDoorMo
import Derived.Test.YtcmjidnbbfcbjaaDoorMp
import Derived.Test.YtcmjidnbbfcbjaaDoorMf
import Derived.Laws.RangeAny
/- What stands ahead of a path's last name; texts, operations, nodes that are the same; no condition. -/
namespace Go.Proofs.YtcmjidnbbfcbjaaDoor.V
open Go
set_option linter.unusedVariables false
set_option linter.unusedSimpArgs false
set_option maxRecDepth 100000
set_option maxHeartbeats 4000000
noncomputable section
variable {en : Env} {m : Mem}
def upAt (p : List UInt8) : Nat → List UInt8 × List UInt8
  | 0 => if 1 < p.length then ([47], p.drop 1) else ([], [])
  | i + 1 => if p[i + 1]? = some 47 then (p.take (i + 1), p.drop (i + 2)) else upAt p i
def upL (p : List UInt8) : List UInt8 × List UInt8 := upAt p (p.length - 1)
theorem u8_47 {c : UInt8} : ((c.toNat : Int) = 47) ↔ c = 47 := by
  constructor
  · intro h; apply UInt8.toNat_inj.1; exact_mod_cast h
  · rintro rfl; rfl
theorem up_ok (p : List UInt8) (hp : p.length ≤ 9223372036854775807) (hf : Fits en m.length) : WC Tryd.prog pol en (.func 44) [tx p] m fun v m' => v = .tup [tx (upL p).1, tx (upL p).2] ∧ m' = m := by
  refine callPur Tryd.func44 rfl rfl Tryd.ntmps44 Tryd.results44 ?_
  simp -implicitDefEqProofs -dsimp (disch := (first | exact vz | fail)) only [go_sem, ]
  refine loopF (fun k ts m' => ∃ (i : Nat), ts.length = 28 ∧ tg ts 0 = tx p ∧ tg ts 4 = I ((i : Int) - 1) ∧ m' = m ∧ upL p = upAt p (i - 1) ∧ i ≤ p.length ∧ k = i) p.length ⟨p.length, rfl, rfl, rfl, rfl, rfl, by omega, by omega⟩ ?_
  rintro k ts m' ⟨i, hl, h0, h4, rfl, hg, hi, rfl⟩
  rw [expandT hl]
  (have hq1 : Dm := ⟨⟩; have hq2 : Dm := ⟨⟩; have hq3 : Dm := ⟨⟩; have hq4 : Dm := ⟨⟩; have hq5 : Dm := ⟨⟩; have hq6 : Dm := ⟨⟩) <;> (try simp -implicitDefEqProofs -dsimp (maxSteps := 2000000) (disch := (first | exact dz | fail)) only [go_sem, h0, h4]) <;> (repeat' (first | ((with_reducible refine ds_and ?_ ?_); focus exact kz) | ((with_reducible refine And.intro ?_ ?_); focus exact oz) | ((with_reducible refine pc_and ?_ ?_); focus exact pz) | ((first | with_reducible refine gIf_t ?_ ?_ | with_reducible refine gIf_f ?_ ?_ | with_reducible refine ite_t ?_ ?_ | with_reducible refine ite_p ?_ ?_) <;> (first | (have z := (hq1 : Dm); clear z hq1; intro hq1; try simp only [noR] at hq1) | (have z := (hq2 : Dm); clear z hq2; intro hq2; try simp only [noR] at hq2) | (have z := (hq3 : Dm); clear z hq3; intro hq3; try simp only [noR] at hq3) | (have z := (hq4 : Dm); clear z hq4; intro hq4; try simp only [noR] at hq4) | (have z := (hq5 : Dm); clear z hq5; intro hq5; try simp only [noR] at hq5) | (have z := (hq6 : Dm); clear z hq6; intro hq6; try simp only [noR] at hq6)) <;> (try simp -implicitDefEqProofs -dsimp (maxSteps := 2000000) (disch := (first | exact dz | fail)) only [go_sem, hq6, hq5, hq4, hq3, hq2, hq1, h0, h4])))) <;> (try with_reducible and_intros) <;> (first | exact fz | skip)
  · obtain ⟨j, rfl⟩ : ∃ j, k = j + 2 := ⟨k - 2, by omega⟩
    have e : ((((j + 2 : Nat) : Int) - 1).toNat) = j + 1 := by omega
    have e2 : ((((j + 2 : Nat) : Int) - 1 + 1).toNat) = j + 2 := by omega
    simp only [e, e2] at hq2 ⊢
    rw [hg, show j + 2 - 1 = j + 1 by omega, upAt, if_pos]
    rw [List.getElem?_eq_getElem (by omega), u8_47.1 hq2]
  · refine ⟨k - 1, by omega, k - 1, ?_, ?_, by omega, rfl⟩
    · congr 3; omega
    · obtain ⟨j, rfl⟩ : ∃ j, k = j + 2 := ⟨k - 2, by omega⟩
      have e : ((((j + 2 : Nat) : Int) - 1).toNat) = j + 1 := by omega
      simp only [e] at hq2 ⊢
      rw [hg, show j + 2 - 1 = j + 1 by omega, upAt, if_neg]
      · rfl
      · rw [List.getElem?_eq_getElem (by omega)]
        intro h; exact hq2 (u8_47.2 (Option.some.inj h))
  · rw [hg, show k - 1 = 0 by omega, upAt, if_pos (by omega)]
  · rw [hg, show k - 1 = 0 by omega, upAt, if_neg (by omega)]
theorem take_eq_step {α : Type} {x y : List α} {i : Nat} {a : α} (hx : x[i]? = some a) (hy : y[i]? = some a) (h : x.take i = y.take i) : x.take (i + 1) = y.take (i + 1) := by
  rw [List.take_add_one, List.take_add_one, h, hx, hy]
theorem same_no {α : Type} {x y : List α} {i : Nat} {hx : i < x.length} {hy : i < y.length} (h : ¬x[i] = y[i]) : ¬x = y := fun e => h (by subst e; rfl)
theorem same_step {α : Type} {x y : List α} {i : Nat} {hx : i < x.length} {hy : i < y.length} (h : x[i] = y[i]) (hg : x.take i = y.take i) : x.take (i + 1) = y.take (i + 1) :=
  take_eq_step (List.getElem?_eq_getElem hx) (by rw [List.getElem?_eq_getElem hy, h]) hg
theorem same_end {α : Type} {x y : List α} {i : Nat} (hl : (x.length : Int) = (y.length : Int)) (h : ¬(i : Int) < (x.length : Int)) (hg : x.take i = y.take i) : x = y := by
  rwa [List.take_of_length_le (by omega), List.take_of_length_le (by omega)] at hg
theorem pnEq (a b : Pn) : (a.kind == b.kind && (decide (a.path = b.path) && (decide (a.other = b.other) && (a.off == b.off && decide (a.data = b.data))))) = decide (a = b) := by
  cases a; cases b
  rw [Bool.eq_iff_iff]; simp
theorem ndEq (a b : Nd) : (decide (a.path = b.path) && (a.dir == b.dir && (decide (a.data = b.data) && decide (a.first = b.first)))) = decide (a = b) := by
  cases a; cases b
  rw [Bool.eq_iff_iff]; simp
theorem sameTexts_ok (x y : Sl (List UInt8)) (hx : x.l.length < 4294967296) (hf : Fits en m.length) : WC Tryd.prog pol en (.func 14) [sl tx x, sl tx y] m fun v m' => v = bo (decide (x.l = y.l)) ∧ m' = m := by
  refine callPur Tryd.func14 rfl rfl Tryd.ntmps14 Tryd.results14 ?_
  (have hq1 : Dm := ⟨⟩; have hq2 : Dm := ⟨⟩; have hq3 : Dm := ⟨⟩; have hq4 : Dm := ⟨⟩; have hq5 : Dm := ⟨⟩; have hq6 : Dm := ⟨⟩) <;> (try simp -implicitDefEqProofs -dsimp (maxSteps := 2000000) (disch := (first | exact dz | fail)) only [go_sem, ]) <;> (repeat' (first | ((with_reducible refine ds_and ?_ ?_); focus exact kz) | ((with_reducible refine And.intro ?_ ?_); focus exact oz) | ((with_reducible refine pc_and ?_ ?_); focus exact pz) | ((first | with_reducible refine gIf_t ?_ ?_ | with_reducible refine gIf_f ?_ ?_ | with_reducible refine ite_t ?_ ?_ | with_reducible refine ite_p ?_ ?_) <;> (first | (have z := (hq1 : Dm); clear z hq1; intro hq1; try simp only [noR] at hq1) | (have z := (hq2 : Dm); clear z hq2; intro hq2; try simp only [noR] at hq2) | (have z := (hq3 : Dm); clear z hq3; intro hq3; try simp only [noR] at hq3) | (have z := (hq4 : Dm); clear z hq4; intro hq4; try simp only [noR] at hq4) | (have z := (hq5 : Dm); clear z hq5; intro hq5; try simp only [noR] at hq5) | (have z := (hq6 : Dm); clear z hq6; intro hq6; try simp only [noR] at hq6)) <;> (try simp -implicitDefEqProofs -dsimp (maxSteps := 2000000) (disch := (first | exact dz | fail)) only [go_sem, hq6, hq5, hq4, hq3, hq2, hq1])))) <;> (try with_reducible and_intros) <;> (first | exact fz | skip)
  · have : x.l ≠ y.l := fun e => by rw [e] at hq1; exact hq1 rfl
    simp [bo, this]
  refine loopF (fun k ts m' => ∃ (i : Nat), ts.length = 26 ∧ tg ts 0 = sl tx x ∧ tg ts 1 = sl tx y ∧ tg ts 5 = I i ∧ m' = m ∧ x.l.take i = y.l.take i ∧ i ≤ x.l.length ∧ k = x.l.length - i) x.l.length ⟨0, rfl, rfl, rfl, rfl, rfl, rfl, by omega, by omega⟩ ?_
  rintro k ts m' ⟨i, hl, h0, h1, h5, rfl, hg, hi, rfl⟩
  rw [expandT hl]
  (have c1 : Dm := ⟨⟩; have c2 : Dm := ⟨⟩; have c3 : Dm := ⟨⟩; have c4 : Dm := ⟨⟩; have c5 : Dm := ⟨⟩; have c6 : Dm := ⟨⟩) <;> (try simp -implicitDefEqProofs -dsimp (maxSteps := 2000000) (disch := (first | exact dz | fail)) only [go_sem, h0, h1, h5, pnEq, ndEq]) <;> (repeat' (first | ((with_reducible refine ds_and ?_ ?_); focus exact kz) | ((with_reducible refine And.intro ?_ ?_); focus exact oz) | ((with_reducible refine pc_and ?_ ?_); focus exact pz) | ((first | with_reducible refine gIf_t ?_ ?_ | with_reducible refine gIf_f ?_ ?_ | with_reducible refine ite_t ?_ ?_ | with_reducible refine ite_p ?_ ?_) <;> (first | (have z := (c1 : Dm); clear z c1; intro c1; try simp only [noR] at c1) | (have z := (c2 : Dm); clear z c2; intro c2; try simp only [noR] at c2) | (have z := (c3 : Dm); clear z c3; intro c3; try simp only [noR] at c3) | (have z := (c4 : Dm); clear z c4; intro c4; try simp only [noR] at c4) | (have z := (c5 : Dm); clear z c5; intro c5; try simp only [noR] at c5) | (have z := (c6 : Dm); clear z c6; intro c6; try simp only [noR] at c6)) <;> (try simp -implicitDefEqProofs -dsimp (maxSteps := 2000000) (disch := (first | exact dz | fail)) only [go_sem, c6, c5, c4, c3, c2, c1, h0, h1, h5, pnEq, ndEq])))) <;> (try with_reducible and_intros) <;> (first | exact fz | skip)
  · simp [bo, same_no c2]
  · exact ⟨_, by omega, i + 1, rfl, same_step c2 hg, by omega, rfl⟩
  · simp [bo, same_end hq1 c1 hg]
theorem sameOps_ok (x y : Sl Pn) (hx : x.l.length < 4294967296) (hf : Fits en m.length) : WC Tryd.prog pol en (.func 11) [slf opC x, slf opC y] m fun v m' => v = bo (decide (x.l = y.l)) ∧ m' = m := by
  refine callPur Tryd.func11 rfl rfl Tryd.ntmps11 Tryd.results11 ?_
  (have hq1 : Dm := ⟨⟩; have hq2 : Dm := ⟨⟩; have hq3 : Dm := ⟨⟩; have hq4 : Dm := ⟨⟩; have hq5 : Dm := ⟨⟩; have hq6 : Dm := ⟨⟩) <;> (try simp -implicitDefEqProofs -dsimp (maxSteps := 2000000) (disch := (first | exact dz | fail)) only [go_sem, ]) <;> (repeat' (first | ((with_reducible refine ds_and ?_ ?_); focus exact kz) | ((with_reducible refine And.intro ?_ ?_); focus exact oz) | ((with_reducible refine pc_and ?_ ?_); focus exact pz) | ((first | with_reducible refine gIf_t ?_ ?_ | with_reducible refine gIf_f ?_ ?_ | with_reducible refine ite_t ?_ ?_ | with_reducible refine ite_p ?_ ?_) <;> (first | (have z := (hq1 : Dm); clear z hq1; intro hq1; try simp only [noR] at hq1) | (have z := (hq2 : Dm); clear z hq2; intro hq2; try simp only [noR] at hq2) | (have z := (hq3 : Dm); clear z hq3; intro hq3; try simp only [noR] at hq3) | (have z := (hq4 : Dm); clear z hq4; intro hq4; try simp only [noR] at hq4) | (have z := (hq5 : Dm); clear z hq5; intro hq5; try simp only [noR] at hq5) | (have z := (hq6 : Dm); clear z hq6; intro hq6; try simp only [noR] at hq6)) <;> (try simp -implicitDefEqProofs -dsimp (maxSteps := 2000000) (disch := (first | exact dz | fail)) only [go_sem, hq6, hq5, hq4, hq3, hq2, hq1])))) <;> (try with_reducible and_intros) <;> (first | exact fz | skip)
  · have : x.l ≠ y.l := fun e => by rw [e] at hq1; exact hq1 rfl
    simp [bo, this]
  refine loopF (fun k ts m' => ∃ (i : Nat), ts.length = 26 ∧ tg ts 0 = slf opC x ∧ tg ts 1 = slf opC y ∧ tg ts 5 = I i ∧ m' = m ∧ x.l.take i = y.l.take i ∧ i ≤ x.l.length ∧ k = x.l.length - i) x.l.length ⟨0, rfl, rfl, rfl, rfl, rfl, rfl, by omega, by omega⟩ ?_
  rintro k ts m' ⟨i, hl, h0, h1, h5, rfl, hg, hi, rfl⟩
  rw [expandT hl]
  (have c1 : Dm := ⟨⟩; have c2 : Dm := ⟨⟩; have c3 : Dm := ⟨⟩; have c4 : Dm := ⟨⟩; have c5 : Dm := ⟨⟩; have c6 : Dm := ⟨⟩) <;> (try simp -implicitDefEqProofs -dsimp (maxSteps := 2000000) (disch := (first | exact dz | fail)) only [go_sem, h0, h1, h5, pnEq, ndEq]) <;> (repeat' (first | ((with_reducible refine ds_and ?_ ?_); focus exact kz) | ((with_reducible refine And.intro ?_ ?_); focus exact oz) | ((with_reducible refine pc_and ?_ ?_); focus exact pz) | ((first | with_reducible refine gIf_t ?_ ?_ | with_reducible refine gIf_f ?_ ?_ | with_reducible refine ite_t ?_ ?_ | with_reducible refine ite_p ?_ ?_) <;> (first | (have z := (c1 : Dm); clear z c1; intro c1; try simp only [noR] at c1) | (have z := (c2 : Dm); clear z c2; intro c2; try simp only [noR] at c2) | (have z := (c3 : Dm); clear z c3; intro c3; try simp only [noR] at c3) | (have z := (c4 : Dm); clear z c4; intro c4; try simp only [noR] at c4) | (have z := (c5 : Dm); clear z c5; intro c5; try simp only [noR] at c5) | (have z := (c6 : Dm); clear z c6; intro c6; try simp only [noR] at c6)) <;> (try simp -implicitDefEqProofs -dsimp (maxSteps := 2000000) (disch := (first | exact dz | fail)) only [go_sem, c6, c5, c4, c3, c2, c1, h0, h1, h5, pnEq, ndEq])))) <;> (try with_reducible and_intros) <;> (first | exact fz | skip)
  · simp [bo, same_no c2]
  · exact ⟨_, by omega, i + 1, rfl, same_step c2 hg, by omega, rfl⟩
  · simp [bo, same_end hq1 c1 hg]
end
end Go.Proofs.YtcmjidnbbfcbjaaDoor.V
/- Paths, of the reference; no condition. -/
namespace Go.Proofs.YtcmjidnbbfcbjaaDoor.V
open Go
set_option linter.unusedVariables false
set_option linter.unusedSimpArgs false
set_option maxRecDepth 100000
set_option maxHeartbeats 4000000
noncomputable section
variable {en : Env} {m : Mem}
theorem name_eq (s : List UInt8) (Q : AV → Mem → Prop) (hs : s.length ≤ 4294967296) (hf : Fits en m.length) : WC Tryd.prog pol en (.func 65) [tx s] m Q = Q (bo (nameB s)) m := (name_ok s hs hf).rule Q
/-- The names of a text, cut at each '/'. -/
def stepS (out : List (List UInt8)) (c : UInt8) : List (List UInt8) := if c = 47 then out ++ [[]] else out.set (out.length - 1) (out.getD (out.length - 1) [] ++ [c])
def segs (p : List UInt8) : List (List UInt8) := p.foldl stepS []
def splitL (p : List UInt8) : Option (List (List UInt8)) :=
  if p = [47] then some [] else if p.length ≤ 64 ∧ p.head? = some 47 ∧ (segs p).all nameB = true ∧ (segs p).length ≤ 4 then some (segs p) else none
theorem segs_take {p : List UInt8} {i : Nat} {c : UInt8} (h : p[i]? = some c) : segs (p.take (i + 1)) = stepS (segs (p.take i)) c := by
  unfold segs
  rw [List.take_add_one, h, List.foldl_append]; rfl
theorem segs_len (p : List UInt8) : (segs p).length ≤ p.length := by
  have : ∀ (l : List UInt8) (o : List (List UInt8)), (l.foldl stepS o).length ≤ o.length + l.length := by
    intro l
    induction l with
    | nil => intro o; simp
    | cons c l ih =>
      intro o
      have h1 := ih (stepS o c)
      have h2 : (stepS o c).length ≤ o.length + 1 := by unfold stepS; split <;> simp
      simp only [List.foldl_cons, List.length_cons]; omega
  have h := this p []
  simpa [segs] using h
theorem segs_sum (p : List UInt8) : ∀ s ∈ segs p, s.length ≤ p.length := by
  have : ∀ (l : List UInt8) (o : List (List UInt8)) (k : Nat), (∀ s ∈ o, s.length ≤ k) → ∀ s ∈ l.foldl stepS o, s.length ≤ k + l.length := by
    intro l
    induction l with
    | nil => intro o k h; simpa using h
    | cons c l ih =>
      intro o k h
      have h1 : ∀ s ∈ stepS o c, s.length ≤ k + 1 := by
        intro s hs
        unfold stepS at hs
        split at hs
        · rw [List.mem_append] at hs
          rcases hs with hs | hs
          · have := h s hs; omega
          · simp at hs; subst hs; simp
        · rcases List.mem_or_eq_of_mem_set hs with hs | rfl
          · have := h s hs; omega
          · rw [List.length_append, List.length_singleton]
            have : (o.getD (o.length - 1) []).length ≤ k := by
              rw [List.getD_eq_getElem?_getD]
              cases hq : o[o.length - 1]? with
              | none => simp
              | some a => exact h a (List.mem_of_getElem? hq)
            omega
      have := ih (stepS o c) (k + 1) h1
      simp only [List.foldl_cons, List.length_cons]
      intro s hs
      have := this s hs; omega
  have h := this p [] 0 (by simp)
  intro s hs
  have := h s hs; omega
theorem split10_ok (p : List UInt8) (hp : p.length ≤ 9223372036854775807) (hf : Fits en m.length) : WC Tryd.prog pol en (.func 54) [tx p] m fun v m' => ∃ (l : List (List UInt8)) (b : Bool), v = .tup [sl tx ⟨true, false, l⟩, bo b] ∧ m' = m ∧ (if b = true then splitL p = some l else splitL p = none) := by
  refine callPur Tryd.func54 rfl rfl Tryd.ntmps54 Tryd.results54 ?_
  (have hq1 : Dm := ⟨⟩; have hq2 : Dm := ⟨⟩; have hq3 : Dm := ⟨⟩; have hq4 : Dm := ⟨⟩; have hq5 : Dm := ⟨⟩; have hq6 : Dm := ⟨⟩) <;> (try simp -implicitDefEqProofs -dsimp (maxSteps := 2000000) (disch := (first | exact dz | fail)) only [go_sem, ]) <;> (repeat' (first | ((with_reducible refine ds_and ?_ ?_); focus exact kz) | ((with_reducible refine And.intro ?_ ?_); focus exact oz) | ((with_reducible refine pc_and ?_ ?_); focus exact pz) | ((first | with_reducible refine gIf_t ?_ ?_ | with_reducible refine gIf_f ?_ ?_ | with_reducible refine ite_t ?_ ?_ | with_reducible refine ite_p ?_ ?_) <;> (first | (have z := (hq1 : Dm); clear z hq1; intro hq1; try simp only [noR] at hq1) | (have z := (hq2 : Dm); clear z hq2; intro hq2; try simp only [noR] at hq2) | (have z := (hq3 : Dm); clear z hq3; intro hq3; try simp only [noR] at hq3) | (have z := (hq4 : Dm); clear z hq4; intro hq4; try simp only [noR] at hq4) | (have z := (hq5 : Dm); clear z hq5; intro hq5; try simp only [noR] at hq5) | (have z := (hq6 : Dm); clear z hq6; intro hq6; try simp only [noR] at hq6)) <;> (try simp -implicitDefEqProofs -dsimp (maxSteps := 2000000) (disch := (first | exact dz | fail)) only [go_sem, hq6, hq5, hq4, hq3, hq2, hq1])))) <;> (try with_reducible and_intros) <;> (first | exact fz | skip)
  · exact ⟨[], true, rfl, by simp [splitL, hq1]⟩
  · exact ⟨[], false, rfl, by simp [splitL, hq1]; omega⟩
  · exact ⟨[], false, rfl, by simp [splitL, hq3]⟩
  refine loopF (fun k ts m' => ∃ (i : Nat) (v : AV), ts.length = 61 ∧ tg ts 0 = tx p ∧ tg ts 4 = kv v ∧ tg ts 5 = I i ∧ Rw tx m (segs (p.take i)) v m' ∧ (i = 0 ∨ p.head? = some 47 ∧ segs (p.take i) ≠ []) ∧ i ≤ p.length ∧ k = p.length - i) p.length ⟨0, _, rfl, rfl, rfl, rfl, Or.inl ⟨rfl, rfl, rfl⟩, by omega, by omega, by omega⟩ ?_
  rintro k ts m' ⟨i, v, hl, h0, h4, h5, hr, hhd, hi, rfl⟩
  rw [expandT hl]
  have hp64 : p.length ≤ 64 := by omega
  have bad : p.head? ≠ some 47 → splitL p = none := fun h => by simp only [splitL, if_neg hq1]; rw [if_neg]; exact fun hc => h hc.2.1
  have hlen : (segs (p.take i)).length ≤ i := by have := segs_len (p.take i); simp at this; omega
  by_cases hlt : (i : Int) < (p.length : Int)
  · have hi' : i < p.length := by omega
    have hhead : i = 0 → p.head? = some p[i] := by intro h; subst h; rw [List.head?_eq_getElem?]; exact List.getElem?_eq_getElem hi'
    have hst := segs_take (List.getElem?_eq_getElem hi')
    rcases hr with ⟨hs, rfl, rfl⟩ | ⟨hs, ver, rfl, rfl⟩
    · have h0' : i = 0 := by
        rcases hhd with h | h
        · exact h
        · exact (h.2 hs).elim
      (have c1 : Dm := ⟨⟩; have c2 : Dm := ⟨⟩; have c3 : Dm := ⟨⟩; have c4 : Dm := ⟨⟩; have c5 : Dm := ⟨⟩; have c6 : Dm := ⟨⟩) <;> (try simp -implicitDefEqProofs -dsimp (maxSteps := 2000000) (disch := (first | exact dz | fail)) only [go_sem, h0, h4, h5, kv]) <;> (repeat' (first | ((with_reducible refine ds_and ?_ ?_); focus exact kz) | ((with_reducible refine And.intro ?_ ?_); focus exact oz) | ((with_reducible refine pc_and ?_ ?_); focus exact pz) | ((first | with_reducible refine gIf_t ?_ ?_ | with_reducible refine gIf_f ?_ ?_ | with_reducible refine ite_t ?_ ?_ | with_reducible refine ite_p ?_ ?_) <;> (first | (have z := (c1 : Dm); clear z c1; intro c1; try simp only [noR] at c1) | (have z := (c2 : Dm); clear z c2; intro c2; try simp only [noR] at c2) | (have z := (c3 : Dm); clear z c3; intro c3; try simp only [noR] at c3) | (have z := (c4 : Dm); clear z c4; intro c4; try simp only [noR] at c4) | (have z := (c5 : Dm); clear z c5; intro c5; try simp only [noR] at c5) | (have z := (c6 : Dm); clear z c6; intro c6; try simp only [noR] at c6)) <;> (try simp -implicitDefEqProofs -dsimp (maxSteps := 2000000) (disch := (first | exact dz | fail)) only [go_sem, c6, c5, c4, c3, c2, c1, h0, h4, h5, kv])))) <;> (try with_reducible and_intros) <;> (first | exact fz | skip)
      · rw [u8_47] at c2
        refine ⟨_, by omega, i + 1, _, rfl, rfl, Rw.own ?_ ?_ ?_, Or.inr ⟨?_, ?_⟩, by omega, rfl⟩
        all_goals simp_all [stepS]
      · rw [u8_47] at c2
        exact ⟨[], false, rfl, bad (by rw [hhead h0']; simpa using c2)⟩
    · have hne : i ≠ 0 := by rintro rfl; simp [segs] at hs
      have hh47 : p.head? = some 47 := by
        rcases hhd with h | h
        · exact (hne h).elim
        · exact h.1
      have hsl : 0 < (segs (p.take i)).length := List.length_pos_iff.2 hs
      have hw : IntKind.i64.wrap (((segs (p.take i)).length : Int) - 1) = (((segs (p.take i)).length - 1 : Nat) : Int) := by rw [i64w (by omega)]; omega
      have hget : (segs (p.take i))[(segs (p.take i)).length - 1]? = some ((segs (p.take i)).getD ((segs (p.take i)).length - 1) []) := by
        rw [List.getD_eq_getElem?_getD, List.getElem?_eq_getElem (by omega)]; rfl
      have hgl : ((segs (p.take i)).getD ((segs (p.take i)).length - 1) []).length ≤ p.length := by
        have h2 := segs_sum (p.take i) _ (List.mem_of_getElem? hget)
        have : (p.take i).length ≤ p.length := List.length_take_le' i p
        omega
      have hpi : (p.drop i).take (i + 1 - i) = [p[i]] := by
        rw [List.drop_eq_getElem_cons hi', show i + 1 - i = 1 by omega]; rfl
      (have c1 : Dm := ⟨⟩; have c2 : Dm := ⟨⟩; have c3 : Dm := ⟨⟩; have c4 : Dm := ⟨⟩; have c5 : Dm := ⟨⟩; have c6 : Dm := ⟨⟩) <;> (try simp -implicitDefEqProofs -dsimp (maxSteps := 2000000) (disch := (first | exact dz | fail)) only [go_sem, h0, h4, h5, kv, hw, List.getElem?_map, hget, atQ_some, hpi]) <;> (repeat' (first | ((with_reducible refine ds_and ?_ ?_); focus exact kz) | ((with_reducible refine And.intro ?_ ?_); focus exact oz) | ((with_reducible refine pc_and ?_ ?_); focus exact pz) | ((first | with_reducible refine gIf_t ?_ ?_ | with_reducible refine gIf_f ?_ ?_ | with_reducible refine ite_t ?_ ?_ | with_reducible refine ite_p ?_ ?_) <;> (first | (have z := (c1 : Dm); clear z c1; intro c1; try simp only [noR] at c1) | (have z := (c2 : Dm); clear z c2; intro c2; try simp only [noR] at c2) | (have z := (c3 : Dm); clear z c3; intro c3; try simp only [noR] at c3) | (have z := (c4 : Dm); clear z c4; intro c4; try simp only [noR] at c4) | (have z := (c5 : Dm); clear z c5; intro c5; try simp only [noR] at c5) | (have z := (c6 : Dm); clear z c6; intro c6; try simp only [noR] at c6)) <;> (try simp -implicitDefEqProofs -dsimp (maxSteps := 2000000) (disch := (first | exact dz | fail)) only [go_sem, c6, c5, c4, c3, c2, c1, h0, h4, h5, kv, hw, List.getElem?_map, hget, atQ_some, hpi])))) <;> (try with_reducible and_intros) <;> (first | exact fz | skip)
      · rw [u8_47] at c2
        refine ⟨_, by omega, i + 1, _, rfl, rfl, Rw.own ?_ ?_ ?_, Or.inr ⟨hh47, ?_⟩, by omega, rfl⟩
        all_goals rw [hst]; simp [stepS, c2]
      · rw [u8_47] at c2
        have e1 : stepS (segs (p.take i)) p[i] = (segs (p.take i)).set ((segs (p.take i)).length - 1) ((segs (p.take i)).getD ((segs (p.take i)).length - 1) [] ++ [p[i]]) := by simp [stepS, c2]
        refine ⟨_, by omega, i + 1, _, rfl, rfl, Rw.own ?_ ?_ ?_, Or.inr ⟨hh47, ?_⟩, by omega, rfl⟩
        all_goals rw [hst, e1]
        · intro e; have := congrArg List.length e; simp at this; exact hs this
        · simp
        · rw [List.map_set]
        · intro e; have := congrArg List.length e; simp at this; exact hs this
  · rw [List.take_of_length_le (by omega)] at hr hhd hlen
    have hh47 : p.head? = some 47 ∧ segs p ≠ [] := by
      rcases hhd with h | h
      · exact (hq3 (List.eq_nil_of_length_eq_zero (by omega))).elim
      · exact h
    (have c1 : Dm := ⟨⟩; have c2 : Dm := ⟨⟩; have c3 : Dm := ⟨⟩; have c4 : Dm := ⟨⟩; have c5 : Dm := ⟨⟩; have c6 : Dm := ⟨⟩) <;> (try simp -implicitDefEqProofs -dsimp (maxSteps := 2000000) (disch := (first | exact dz | fail)) only [go_sem, h0, h4, h5, hr.len, hlt]) <;> (repeat' (first | ((with_reducible refine ds_and ?_ ?_); focus exact kz) | ((with_reducible refine And.intro ?_ ?_); focus exact oz) | ((with_reducible refine pc_and ?_ ?_); focus exact pz) | ((first | with_reducible refine gIf_t ?_ ?_ | with_reducible refine gIf_f ?_ ?_ | with_reducible refine ite_t ?_ ?_ | with_reducible refine ite_p ?_ ?_) <;> (first | (have z := (c1 : Dm); clear z c1; intro c1; try simp only [noR] at c1) | (have z := (c2 : Dm); clear z c2; intro c2; try simp only [noR] at c2) | (have z := (c3 : Dm); clear z c3; intro c3; try simp only [noR] at c3) | (have z := (c4 : Dm); clear z c4; intro c4; try simp only [noR] at c4) | (have z := (c5 : Dm); clear z c5; intro c5; try simp only [noR] at c5) | (have z := (c6 : Dm); clear z c6; intro c6; try simp only [noR] at c6)) <;> (try simp -implicitDefEqProofs -dsimp (maxSteps := 2000000) (disch := (first | exact dz | fail)) only [go_sem, c6, c5, c4, c3, c2, c1, h0, h4, h5, hr.len, hlt]))))
    refine loopF (fun k ts m'' => ∃ (j : Nat), ts.length = 61 ∧ tg ts 0 = tx p ∧ tg ts 4 = kv v ∧ tg ts 6 = I j ∧ m'' = m' ∧ ((segs p).take j).all nameB = true ∧ j ≤ (segs p).length ∧ k = (segs p).length - j) (segs p).length ⟨0, rfl, rfl, rfl, rfl, rfl, rfl, by omega, by omega⟩ ?_
    rintro k ts m'' ⟨j, hl, h0, h4, h6, rfl, hn, hj, rfl⟩
    rw [expandT hl]
    have hlen2 := segs_len p
    by_cases hjl : (j : Int) < ((segs p).length : Int)
    · rcases hr with ⟨hs, _⟩ | ⟨hs, ver, rfl, rfl⟩
      · exact (hh47.2 hs).elim
      obtain ⟨s, hsj⟩ : ∃ s, (segs p)[j]? = some s := ⟨_, List.getElem?_eq_getElem (by omega)⟩
      have hsl := segs_sum p s (List.mem_of_getElem? hsj)
      (have d1 : Dm := ⟨⟩; have d2 : Dm := ⟨⟩; have d3 : Dm := ⟨⟩; have d4 : Dm := ⟨⟩; have d5 : Dm := ⟨⟩; have d6 : Dm := ⟨⟩) <;> (try simp -implicitDefEqProofs -dsimp (maxSteps := 2000000) (disch := (first | exact dz | fail)) only [go_sem, h0, h4, h6, kv, hjl, List.getElem?_map, hsj, atQ_some, name_eq, bo]) <;> (repeat' (first | ((with_reducible refine ds_and ?_ ?_); focus exact kz) | ((with_reducible refine And.intro ?_ ?_); focus exact oz) | ((with_reducible refine pc_and ?_ ?_); focus exact pz) | ((first | with_reducible refine gIf_t ?_ ?_ | with_reducible refine gIf_f ?_ ?_ | with_reducible refine ite_t ?_ ?_ | with_reducible refine ite_p ?_ ?_) <;> (first | (have z := (d1 : Dm); clear z d1; intro d1; try simp only [noR] at d1) | (have z := (d2 : Dm); clear z d2; intro d2; try simp only [noR] at d2) | (have z := (d3 : Dm); clear z d3; intro d3; try simp only [noR] at d3) | (have z := (d4 : Dm); clear z d4; intro d4; try simp only [noR] at d4) | (have z := (d5 : Dm); clear z d5; intro d5; try simp only [noR] at d5) | (have z := (d6 : Dm); clear z d6; intro d6; try simp only [noR] at d6)) <;> (try simp -implicitDefEqProofs -dsimp (maxSteps := 2000000) (disch := (first | exact dz | fail)) only [go_sem, d6, d5, d4, d3, d2, d1, h0, h4, h6, kv, hjl, List.getElem?_map, hsj, atQ_some, name_eq, bo])))) <;> (try with_reducible and_intros) <;> (first | exact fz | skip)
      · refine ⟨[], false, rfl, ?_⟩
        simp only [Bool.false_eq_true, if_false, splitL, if_neg hq1]
        rw [if_neg]
        rintro ⟨_, _, h, _⟩
        rw [List.all_eq_true] at h
        have := h s (List.mem_of_getElem? hsj)
        simp_all
      · refine ⟨_, by omega, j + 1, rfl, ?_, by omega, rfl⟩
        rw [List.take_add_one, hsj, List.all_append, hn]; simp [d1]
    · (have d1 : Dm := ⟨⟩; have d2 : Dm := ⟨⟩; have d3 : Dm := ⟨⟩; have d4 : Dm := ⟨⟩; have d5 : Dm := ⟨⟩; have d6 : Dm := ⟨⟩) <;> (try simp -implicitDefEqProofs -dsimp (maxSteps := 2000000) (disch := (first | exact dz | fail)) only [go_sem, h0, h4, h6, hr.len, hr.frz clean_tx tx_ifc (Nat.le_refl _), hjl]) <;> (repeat' (first | ((with_reducible refine ds_and ?_ ?_); focus exact kz) | ((with_reducible refine And.intro ?_ ?_); focus exact oz) | ((with_reducible refine pc_and ?_ ?_); focus exact pz) | ((first | with_reducible refine gIf_t ?_ ?_ | with_reducible refine gIf_f ?_ ?_ | with_reducible refine ite_t ?_ ?_ | with_reducible refine ite_p ?_ ?_) <;> (first | (have z := (d1 : Dm); clear z d1; intro d1; try simp only [noR] at d1) | (have z := (d2 : Dm); clear z d2; intro d2; try simp only [noR] at d2) | (have z := (d3 : Dm); clear z d3; intro d3; try simp only [noR] at d3) | (have z := (d4 : Dm); clear z d4; intro d4; try simp only [noR] at d4) | (have z := (d5 : Dm); clear z d5; intro d5; try simp only [noR] at d5) | (have z := (d6 : Dm); clear z d6; intro d6; try simp only [noR] at d6)) <;> (try simp -implicitDefEqProofs -dsimp (maxSteps := 2000000) (disch := (first | exact dz | fail)) only [go_sem, d6, d5, d4, d3, d2, d1, h0, h4, h6, hr.len, hr.frz clean_tx tx_ifc (Nat.le_refl _), hjl])))) <;> (try with_reducible and_intros) <;> (first | exact fz | skip)
      rw [List.take_of_length_le (by omega)] at hn
      by_cases h4 : (segs p).length ≤ 4
      · refine ⟨segs p, true, ?_, ?_⟩
        · have : ((segs p).length : Int) ≤ 4 := by omega
          simp [bo, this]
        · simp only [if_true, splitL, if_neg hq1]; rw [if_pos ⟨hp64, hh47.1, hn, h4⟩]
      · refine ⟨segs p, false, ?_, ?_⟩
        · have : ¬((segs p).length : Int) ≤ 4 := by omega
          simp [bo, this]
        · simp only [Bool.false_eq_true, if_false, splitL, if_neg hq1]; rw [if_neg]; exact fun h => h4 h.2.2.2
abbrev errA (e : Int) : AV := .sc (.int .i64 e)
def splitA (o : Option (List (List UInt8))) : AV := match o with | some l => .tup [sl tx ⟨true, false, l⟩, errA 0] | none => .tup [.nilS, errA 3]
theorem split_ok (p : List UInt8) (hp : p.length ≤ 9223372036854775807) (hf : Fits en m.length) : WC Tryd.prog pol en (.func 43) [tx p] m fun v m' => v = splitA (splitL p) ∧ m' = m := by
  refine callPur Tryd.func43 rfl rfl Tryd.ntmps43 Tryd.results43 ?_
  simp -implicitDefEqProofs -dsimp (maxSteps := 2000000) (disch := (first | exact dz | fail)) only [go_sem, ]
  refine (split10_ok p hp hf.pur).mono ?_
  rintro v m' ⟨l, b, rfl, rfl, hb⟩
  cases b
  · (have hq1 : Dm := ⟨⟩; have hq2 : Dm := ⟨⟩; have hq3 : Dm := ⟨⟩; have hq4 : Dm := ⟨⟩; have hq5 : Dm := ⟨⟩; have hq6 : Dm := ⟨⟩) <;> (try simp -implicitDefEqProofs -dsimp (maxSteps := 2000000) (disch := (first | exact dz | fail)) only [go_sem, bo]) <;> (repeat' (first | ((with_reducible refine ds_and ?_ ?_); focus exact kz) | ((with_reducible refine And.intro ?_ ?_); focus exact oz) | ((with_reducible refine pc_and ?_ ?_); focus exact pz) | ((first | with_reducible refine gIf_t ?_ ?_ | with_reducible refine gIf_f ?_ ?_ | with_reducible refine ite_t ?_ ?_ | with_reducible refine ite_p ?_ ?_) <;> (first | (have z := (hq1 : Dm); clear z hq1; intro hq1; try simp only [noR] at hq1) | (have z := (hq2 : Dm); clear z hq2; intro hq2; try simp only [noR] at hq2) | (have z := (hq3 : Dm); clear z hq3; intro hq3; try simp only [noR] at hq3) | (have z := (hq4 : Dm); clear z hq4; intro hq4; try simp only [noR] at hq4) | (have z := (hq5 : Dm); clear z hq5; intro hq5; try simp only [noR] at hq5) | (have z := (hq6 : Dm); clear z hq6; intro hq6; try simp only [noR] at hq6)) <;> (try simp -implicitDefEqProofs -dsimp (maxSteps := 2000000) (disch := (first | exact dz | fail)) only [go_sem, hq6, hq5, hq4, hq3, hq2, hq1, bo]))))
    rw [hb]; rfl
  · (have hq1 : Dm := ⟨⟩; have hq2 : Dm := ⟨⟩; have hq3 : Dm := ⟨⟩; have hq4 : Dm := ⟨⟩; have hq5 : Dm := ⟨⟩; have hq6 : Dm := ⟨⟩) <;> (try simp -implicitDefEqProofs -dsimp (maxSteps := 2000000) (disch := (first | exact dz | fail)) only [go_sem, bo, frzQ_sl clean_tx]) <;> (repeat' (first | ((with_reducible refine ds_and ?_ ?_); focus exact kz) | ((with_reducible refine And.intro ?_ ?_); focus exact oz) | ((with_reducible refine pc_and ?_ ?_); focus exact pz) | ((first | with_reducible refine gIf_t ?_ ?_ | with_reducible refine gIf_f ?_ ?_ | with_reducible refine ite_t ?_ ?_ | with_reducible refine ite_p ?_ ?_) <;> (first | (have z := (hq1 : Dm); clear z hq1; intro hq1; try simp only [noR] at hq1) | (have z := (hq2 : Dm); clear z hq2; intro hq2; try simp only [noR] at hq2) | (have z := (hq3 : Dm); clear z hq3; intro hq3; try simp only [noR] at hq3) | (have z := (hq4 : Dm); clear z hq4; intro hq4; try simp only [noR] at hq4) | (have z := (hq5 : Dm); clear z hq5; intro hq5; try simp only [noR] at hq5) | (have z := (hq6 : Dm); clear z hq6; intro hq6; try simp only [noR] at hq6)) <;> (try simp -implicitDefEqProofs -dsimp (maxSteps := 2000000) (disch := (first | exact dz | fail)) only [go_sem, hq6, hq5, hq4, hq3, hq2, hq1, bo, frzQ_sl clean_tx]))))
    rw [hb]; rfl
theorem split_eq (p : List UInt8) (Q : AV → Mem → Prop) (hp : p.length ≤ 9223372036854775807) (hf : Fits en m.length) : WC Tryd.prog pol en (.func 43) [tx p] m Q = Q (splitA (splitL p)) m := (split_ok p hp hf).rule Q
end
end Go.Proofs.YtcmjidnbbfcbjaaDoor.V
/- Plain: the order of texts, nodes in order; no condition. -/
namespace Go.Proofs.YtcmjidnbbfcbjaaDoor.V
open Go
set_option linter.unusedVariables false
set_option linter.unusedSimpArgs false
set_option maxRecDepth 100000
set_option maxHeartbeats 4000000
noncomputable section
variable {en : Env} {m : Mem}
theorem u8_lt {a b : UInt8} : a < b ↔ a.toNat < b.toNat := UInt8.lt_iff_toNat_lt
theorem ltB_cons (a b : UInt8) (x y : List UInt8) : ltB (a :: x) (b :: y) = (decide (a < b) || (a == b && ltB x y)) := rfl
theorem ltB_nil (x : List UInt8) : ltB x [] = false := by cases x <;> rfl
theorem ltB_nilc (b : UInt8) (y : List UInt8) : ltB [] (b :: y) = true := rfl
theorem ltB_irr : ∀ x : List UInt8, ltB x x = false
  | [] => rfl
  | a :: x => by rw [ltB_cons, ltB_irr x]; simp [u8_lt]
theorem ltB_trans : ∀ {x y z : List UInt8}, ltB x y = true → ltB y z = true → ltB x z = true
  | _, [], _, h, _ => by rw [ltB_nil] at h; cases h
  | _, _ :: _, [], _, h => by rw [ltB_nil] at h; cases h
  | [], _ :: _, _ :: _, _, _ => rfl
  | a :: x, b :: y, c :: z, h1, h2 => by
    rw [ltB_cons, Bool.or_eq_true, decide_eq_true_eq, Bool.and_eq_true, beq_iff_eq, u8_lt] at h1 h2 ⊢
    rcases h1 with h1 | ⟨rfl, h1⟩ <;> rcases h2 with h2 | ⟨rfl, h2⟩
    · left; omega
    · left; exact h1
    · left; exact h2
    · right; exact ⟨rfl, ltB_trans h1 h2⟩
theorem ltB_tri : ∀ (x y : List UInt8), ltB x y = true ∨ x = y ∨ ltB y x = true
  | [], [] => Or.inr (Or.inl rfl)
  | [], _ :: _ => Or.inl rfl
  | _ :: _, [] => Or.inr (Or.inr rfl)
  | a :: x, b :: y => by
    rw [ltB_cons, ltB_cons, Bool.or_eq_true, Bool.or_eq_true, decide_eq_true_eq, decide_eq_true_eq, Bool.and_eq_true, Bool.and_eq_true, beq_iff_eq, beq_iff_eq, u8_lt, u8_lt]
    rcases Nat.lt_trichotomy a.toNat b.toNat with h | h | h
    · left; left; exact h
    · obtain rfl := UInt8.toNat_inj.1 h
      rcases ltB_tri x y with h | rfl | h
      · left; right; exact ⟨rfl, h⟩
      · right; left; rfl
      · right; right; right; exact ⟨rfl, h⟩
    · right; right; left; exact h
theorem ltB_asymm {x y : List UInt8} (h : ltB x y = true) : ltB y x = false := by
  cases hq : ltB y x with
  | false => rfl
  | true => have := ltB_trans h hq; rw [ltB_irr] at this; cases this
theorem ltB_ne {x y : List UInt8} (h : ltB x y = true) : x ≠ y := by rintro rfl; rw [ltB_irr] at h; cases h
/-- In order, each path once. -/
def Srt (t : List Nd) : Prop := t.Pairwise fun a b => ltB a.path b.path = true
def lowB (t : List Nd) (k : List UInt8) : Nat := (t.filter fun n => ltB n.path k).length
theorem Srt.take {t : List Nd} (h : Srt t) (i : Nat) : Srt (t.take i) := h.sublist (List.take_sublist i t)
theorem Srt.get {t : List Nd} (h : Srt t) {i j : Nat} {a b : Nd} (hij : i < j) (ha : t[i]? = some a) (hb : t[j]? = some b) : ltB a.path b.path = true := by
  obtain ⟨hi, rfl⟩ := List.getElem?_eq_some_iff.1 ha
  obtain ⟨hj, rfl⟩ := List.getElem?_eq_some_iff.1 hb
  exact List.pairwise_iff_getElem.1 h i j hi hj hij
theorem lowB_eq {t : List Nd} {k : List UInt8} {i : Nat} (hi : i ≤ t.length) (h1 : ∀ j n, j < i → t[j]? = some n → ltB n.path k = true) (h2 : ∀ j n, i ≤ j → t[j]? = some n → ltB n.path k = false) : lowB t k = i := by
  unfold lowB
  have e : t = t.take i ++ t.drop i := (List.take_append_drop i t).symm
  rw [e, List.filter_append, List.filter_eq_self.2, List.filter_eq_nil_iff.2]
  · simp; omega
  · intro n hn
    obtain ⟨j, hj⟩ := List.getElem?_of_mem hn
    rw [List.getElem?_drop] at hj
    have := h2 (i + j) n (by omega) hj
    simp [this]
  · intro n hn
    obtain ⟨j, hj⟩ := List.getElem?_of_mem hn
    rw [List.getElem?_take] at hj
    split at hj
    · exact h1 j n (by assumption) hj
    · cases hj
theorem getL_some {t : List Nd} {p : List UInt8} {n : Nd} (h : getL t p = some n) : n ∈ t ∧ n.path = p := by
  have h1 := List.mem_of_find?_eq_some h
  have h2 := List.find?_some h
  exact ⟨h1, by simpa using h2⟩
theorem getL_none {t : List Nd} {p : List UInt8} (h : getL t p = none) : ∀ n ∈ t, n.path ≠ p := by
  intro n hn hp
  have := List.find?_eq_none.1 h n hn
  simp [hp] at this
theorem getL_of {t : List Nd} (hs : Srt t) {i : Nat} {n : Nd} (h : t[i]? = some n) : getL t n.path = some n := by
  cases hg : getL t n.path with
  | none => exact ((getL_none hg) n (List.mem_of_getElem? h) rfl).elim
  | some a =>
    obtain ⟨h1, h2⟩ := getL_some hg
    obtain ⟨j, hj⟩ := List.getElem?_of_mem h1
    rcases Nat.lt_trichotomy i j with hij | rfl | hij
    · have := hs.get hij h hj; rw [h2] at this; exact (ltB_ne this rfl).elim
    · rw [hj] at h; rw [h]
    · have := hs.get hij hj h; rw [h2] at this; exact (ltB_ne this rfl).elim
/-- Where a node stands. -/
theorem lowB_get {t : List Nd} (hs : Srt t) {p : List UInt8} {n : Nd} (h : getL t p = some n) : t[lowB t p]? = some n := by
  obtain ⟨h1, rfl⟩ := getL_some h
  obtain ⟨i, hi⟩ := List.getElem?_of_mem h1
  have hlt := (List.getElem?_eq_some_iff.1 hi).1
  rw [lowB_eq (i := i) (by omega)]
  · exact hi
  · intro j a hj ha; exact hs.get hj ha hi
  · intro j a hj ha
    rcases Nat.eq_or_lt_of_le hj with rfl | hj
    · rw [hi] at ha; cases ha; exact ltB_irr _
    · exact ltB_asymm (hs.get hj hi ha)
end
end Go.Proofs.YtcmjidnbbfcbjaaDoor.V
/- Paths' parts, and where something stands in a tree; no condition. -/
namespace Go.Proofs.YtcmjidnbbfcbjaaDoor.V
open Go
set_option linter.unusedVariables false
set_option linter.unusedSimpArgs false
set_option maxRecDepth 100000
set_option maxHeartbeats 4000000
noncomputable section
variable {en : Env} {m : Mem}
def root0 : Nd := ⟨[47], true, [], [47]⟩
def cmpL (a b : List UInt8) : Int := if ltB a b = true then -1 else if a = b then 0 else 1
theorem isNaN_ok (a : List UInt8) (hf : Fits en m.length) : WC Tryd.prog pol en (.func 81) [tx a] m fun v m' => v = bo false ∧ m' = m := by
  refine callPur Tryd.func81 rfl rfl Tryd.ntmps81 Tryd.results81 ?_
  (have hq1 : Dm := ⟨⟩; have hq2 : Dm := ⟨⟩; have hq3 : Dm := ⟨⟩; have hq4 : Dm := ⟨⟩; have hq5 : Dm := ⟨⟩; have hq6 : Dm := ⟨⟩) <;> (try simp -implicitDefEqProofs -dsimp (maxSteps := 2000000) (disch := (first | exact dz | fail)) only [go_sem, decide_false]) <;> (repeat' (first | ((with_reducible refine ds_and ?_ ?_); focus exact kz) | ((with_reducible refine And.intro ?_ ?_); focus exact oz) | ((with_reducible refine pc_and ?_ ?_); focus exact pz) | ((first | with_reducible refine gIf_t ?_ ?_ | with_reducible refine gIf_f ?_ ?_ | with_reducible refine ite_t ?_ ?_ | with_reducible refine ite_p ?_ ?_) <;> (first | (have z := (hq1 : Dm); clear z hq1; intro hq1; try simp only [noR] at hq1) | (have z := (hq2 : Dm); clear z hq2; intro hq2; try simp only [noR] at hq2) | (have z := (hq3 : Dm); clear z hq3; intro hq3; try simp only [noR] at hq3) | (have z := (hq4 : Dm); clear z hq4; intro hq4; try simp only [noR] at hq4) | (have z := (hq5 : Dm); clear z hq5; intro hq5; try simp only [noR] at hq5) | (have z := (hq6 : Dm); clear z hq6; intro hq6; try simp only [noR] at hq6)) <;> (try simp -implicitDefEqProofs -dsimp (maxSteps := 2000000) (disch := (first | exact dz | fail)) only [go_sem, hq6, hq5, hq4, hq3, hq2, hq1, decide_false])))) <;> (try with_reducible and_intros) <;> (first | exact fz | skip)
theorem isNaN_eq (a : List UInt8) (Q : AV → Mem → Prop) (hf : Fits en m.length) : WC Tryd.prog pol en (.func 81) [tx a] m Q = Q (bo false) m := (isNaN_ok a hf).rule Q
theorem compare_ok (a b : List UInt8) (hf : Fits en m.length) : WC Tryd.prog pol en (.func 75) [tx a, tx b] m fun v m' => v = I (cmpL a b) ∧ m' = m := by
  refine callPur Tryd.func75 rfl rfl Tryd.ntmps75 Tryd.results75 ?_
  (have hq1 : Dm := ⟨⟩; have hq2 : Dm := ⟨⟩; have hq3 : Dm := ⟨⟩; have hq4 : Dm := ⟨⟩; have hq5 : Dm := ⟨⟩; have hq6 : Dm := ⟨⟩) <;> (try simp -implicitDefEqProofs -dsimp (maxSteps := 2000000) (disch := (first | exact dz | fail)) only [go_sem, isNaN_eq]) <;> (repeat' (first | ((with_reducible refine ds_and ?_ ?_); focus exact kz) | ((with_reducible refine And.intro ?_ ?_); focus exact oz) | ((with_reducible refine pc_and ?_ ?_); focus exact pz) | ((first | with_reducible refine gIf_t ?_ ?_ | with_reducible refine gIf_f ?_ ?_ | with_reducible refine ite_t ?_ ?_ | with_reducible refine ite_p ?_ ?_) <;> (first | (have z := (hq1 : Dm); clear z hq1; intro hq1; try simp only [noR] at hq1) | (have z := (hq2 : Dm); clear z hq2; intro hq2; try simp only [noR] at hq2) | (have z := (hq3 : Dm); clear z hq3; intro hq3; try simp only [noR] at hq3) | (have z := (hq4 : Dm); clear z hq4; intro hq4; try simp only [noR] at hq4) | (have z := (hq5 : Dm); clear z hq5; intro hq5; try simp only [noR] at hq5) | (have z := (hq6 : Dm); clear z hq6; intro hq6; try simp only [noR] at hq6)) <;> (try simp -implicitDefEqProofs -dsimp (maxSteps := 2000000) (disch := (first | exact dz | fail)) only [go_sem, hq6, hq5, hq4, hq3, hq2, hq1, isNaN_eq])))) <;> (try with_reducible and_intros) <;> (first | exact fz | skip)
  · simp [cmpL, hq1]
  · have : a ≠ b := by simpa using hq2
    simp [cmpL, hq1, this]
  · have : a = b := by simpa using hq2
    subst this
    simp [cmpL, hq1]
def lastAt (s : List UInt8) (c : UInt8) : Nat → Int
  | 0 => -1
  | i + 1 => if s[i]? = some c then i else lastAt s c i
def lastI (s : List UInt8) (c : UInt8) : Int := lastAt s c s.length
theorem lastByte0_ok (s : List UInt8) (c : UInt8) (hs : s.length ≤ 9223372036854775807) (hf : Fits en m.length) : WC Tryd.prog pol en (.func 79) [tx s, u8v c] m fun v m' => v = I (lastI s c) ∧ m' = m := by
  refine callPur Tryd.func79 rfl rfl Tryd.ntmps79 Tryd.results79 ?_
  (have hq1 : Dm := ⟨⟩; have hq2 : Dm := ⟨⟩; have hq3 : Dm := ⟨⟩; have hq4 : Dm := ⟨⟩; have hq5 : Dm := ⟨⟩; have hq6 : Dm := ⟨⟩) <;> (try simp -implicitDefEqProofs -dsimp (maxSteps := 2000000) (disch := (first | exact dz | fail)) only [go_sem, ]) <;> (repeat' (first | ((with_reducible refine ds_and ?_ ?_); focus exact kz) | ((with_reducible refine And.intro ?_ ?_); focus exact oz) | ((with_reducible refine pc_and ?_ ?_); focus exact pz) | ((first | with_reducible refine gIf_t ?_ ?_ | with_reducible refine gIf_f ?_ ?_ | with_reducible refine ite_t ?_ ?_ | with_reducible refine ite_p ?_ ?_) <;> (first | (have z := (hq1 : Dm); clear z hq1; intro hq1; try simp only [noR] at hq1) | (have z := (hq2 : Dm); clear z hq2; intro hq2; try simp only [noR] at hq2) | (have z := (hq3 : Dm); clear z hq3; intro hq3; try simp only [noR] at hq3) | (have z := (hq4 : Dm); clear z hq4; intro hq4; try simp only [noR] at hq4) | (have z := (hq5 : Dm); clear z hq5; intro hq5; try simp only [noR] at hq5) | (have z := (hq6 : Dm); clear z hq6; intro hq6; try simp only [noR] at hq6)) <;> (try simp -implicitDefEqProofs -dsimp (maxSteps := 2000000) (disch := (first | exact dz | fail)) only [go_sem, hq6, hq5, hq4, hq3, hq2, hq1])))) <;> (try with_reducible and_intros) <;> (first | exact fz | skip)
  refine loopF (fun k ts m' => ∃ (i : Nat), ts.length = 19 ∧ tg ts 0 = tx s ∧ tg ts 1 = u8v c ∧ tg ts 5 = I ((i : Int) - 1) ∧ m' = m ∧ lastI s c = lastAt s c i ∧ i ≤ s.length ∧ k = i) s.length ⟨s.length, rfl, rfl, rfl, rfl, rfl, rfl, by omega, by omega⟩ ?_
  rintro k ts m' ⟨i, hl, h0, h1, h5, rfl, hg, hi, rfl⟩
  rw [expandT hl]
  (have c1 : Dm := ⟨⟩; have c2 : Dm := ⟨⟩; have c3 : Dm := ⟨⟩; have c4 : Dm := ⟨⟩; have c5 : Dm := ⟨⟩; have c6 : Dm := ⟨⟩) <;> (try simp -implicitDefEqProofs -dsimp (maxSteps := 2000000) (disch := (first | exact dz | fail)) only [go_sem, h0, h1, h5]) <;> (repeat' (first | ((with_reducible refine ds_and ?_ ?_); focus exact kz) | ((with_reducible refine And.intro ?_ ?_); focus exact oz) | ((with_reducible refine pc_and ?_ ?_); focus exact pz) | ((first | with_reducible refine gIf_t ?_ ?_ | with_reducible refine gIf_f ?_ ?_ | with_reducible refine ite_t ?_ ?_ | with_reducible refine ite_p ?_ ?_) <;> (first | (have z := (c1 : Dm); clear z c1; intro c1; try simp only [noR] at c1) | (have z := (c2 : Dm); clear z c2; intro c2; try simp only [noR] at c2) | (have z := (c3 : Dm); clear z c3; intro c3; try simp only [noR] at c3) | (have z := (c4 : Dm); clear z c4; intro c4; try simp only [noR] at c4) | (have z := (c5 : Dm); clear z c5; intro c5; try simp only [noR] at c5) | (have z := (c6 : Dm); clear z c6; intro c6; try simp only [noR] at c6)) <;> (try simp -implicitDefEqProofs -dsimp (maxSteps := 2000000) (disch := (first | exact dz | fail)) only [go_sem, c6, c5, c4, c3, c2, c1, h0, h1, h5])))) <;> (try with_reducible and_intros) <;> (first | exact fz | skip)
  · obtain ⟨j, rfl⟩ : ∃ j, k = j + 1 := ⟨k - 1, by omega⟩
    have e : ((((j + 1 : Nat) : Int) - 1).toNat) = j := by omega
    simp only [e] at c2
    rw [hg, lastAt, if_pos]
    · congr 3; omega
    · rw [List.getElem?_eq_getElem (by omega)]; exact congrArg some (UInt8.toNat_inj.1 (by exact_mod_cast c2))
  · obtain ⟨j, rfl⟩ : ∃ j, k = j + 1 := ⟨k - 1, by omega⟩
    have e : ((((j + 1 : Nat) : Int) - 1).toNat) = j := by omega
    simp only [e] at c2
    refine ⟨j, by omega, j, ?_, ?_, by omega, rfl⟩
    · congr 3; omega
    · rw [hg, lastAt, if_neg]
      rw [List.getElem?_eq_getElem (by omega)]
      intro h; exact c2 (by rw [Option.some.inj h])
  · rw [hg, show k = 0 by omega]; rfl
theorem lastByte_ok (s : List UInt8) (c : UInt8) (hs : s.length ≤ 9223372036854775807) (hf : Fits en m.length) : WC Tryd.prog pol en (.func 71) [tx s, u8v c] m fun v m' => v = I (lastI s c) ∧ m' = m := by
  have h0 := fun (en : Env) (m : Mem) Q (hf : Fits en m.length) => (lastByte0_ok (m := m) (en := en) s c hs hf).rule Q
  refine callPur Tryd.func71 rfl rfl Tryd.ntmps71 Tryd.results71 ?_
  (have hq1 : Dm := ⟨⟩; have hq2 : Dm := ⟨⟩; have hq3 : Dm := ⟨⟩; have hq4 : Dm := ⟨⟩; have hq5 : Dm := ⟨⟩; have hq6 : Dm := ⟨⟩) <;> (try simp -implicitDefEqProofs -dsimp (maxSteps := 2000000) (disch := (first | exact dz | fail)) only [go_sem, h0]) <;> (repeat' (first | ((with_reducible refine ds_and ?_ ?_); focus exact kz) | ((with_reducible refine And.intro ?_ ?_); focus exact oz) | ((with_reducible refine pc_and ?_ ?_); focus exact pz) | ((first | with_reducible refine gIf_t ?_ ?_ | with_reducible refine gIf_f ?_ ?_ | with_reducible refine ite_t ?_ ?_ | with_reducible refine ite_p ?_ ?_) <;> (first | (have z := (hq1 : Dm); clear z hq1; intro hq1; try simp only [noR] at hq1) | (have z := (hq2 : Dm); clear z hq2; intro hq2; try simp only [noR] at hq2) | (have z := (hq3 : Dm); clear z hq3; intro hq3; try simp only [noR] at hq3) | (have z := (hq4 : Dm); clear z hq4; intro hq4; try simp only [noR] at hq4) | (have z := (hq5 : Dm); clear z hq5; intro hq5; try simp only [noR] at hq5) | (have z := (hq6 : Dm); clear z hq6; intro hq6; try simp only [noR] at hq6)) <;> (try simp -implicitDefEqProofs -dsimp (maxSteps := 2000000) (disch := (first | exact dz | fail)) only [go_sem, hq6, hq5, hq4, hq3, hq2, hq1, h0])))) <;> (try with_reducible and_intros) <;> (first | exact fz | skip)
def trimP (s p : List UInt8) : List UInt8 := if isPre p s = true then s.drop p.length else s
theorem trim0_ok (s p : List UInt8) (hs : s.length < 4611686018427387904) (hp : p.length < 4611686018427387904) (hf : Fits en m.length) : WC Tryd.prog pol en (.func 80) [tx s, tx p] m fun v m' => v = tx (trimP s p) ∧ m' = m := by
  have h0 := fun (en : Env) (m : Mem) Q => (liteHasPrefix_ok (m := m) (en := en) s p hs hp).rule Q
  refine callPur Tryd.func80 rfl rfl Tryd.ntmps80 Tryd.results80 ?_
  have hl : isPre p s = true → (p.length : Int) ≤ (s.length : Int) := fun h => by have := pre_len h; omega
  cases hq : isPre p s with
  | true =>
    have hl2 := hl hq
    (have hq1 : Dm := ⟨⟩; have hq2 : Dm := ⟨⟩; have hq3 : Dm := ⟨⟩; have hq4 : Dm := ⟨⟩; have hq5 : Dm := ⟨⟩; have hq6 : Dm := ⟨⟩) <;> (try simp -implicitDefEqProofs -dsimp (maxSteps := 2000000) (disch := (first | exact dz | fail)) only [go_sem, h0, hq]) <;> (repeat' (first | ((with_reducible refine ds_and ?_ ?_); focus exact kz) | ((with_reducible refine And.intro ?_ ?_); focus exact oz) | ((with_reducible refine pc_and ?_ ?_); focus exact pz) | ((first | with_reducible refine gIf_t ?_ ?_ | with_reducible refine gIf_f ?_ ?_ | with_reducible refine ite_t ?_ ?_ | with_reducible refine ite_p ?_ ?_) <;> (first | (have z := (hq1 : Dm); clear z hq1; intro hq1; try simp only [noR] at hq1) | (have z := (hq2 : Dm); clear z hq2; intro hq2; try simp only [noR] at hq2) | (have z := (hq3 : Dm); clear z hq3; intro hq3; try simp only [noR] at hq3) | (have z := (hq4 : Dm); clear z hq4; intro hq4; try simp only [noR] at hq4) | (have z := (hq5 : Dm); clear z hq5; intro hq5; try simp only [noR] at hq5) | (have z := (hq6 : Dm); clear z hq6; intro hq6; try simp only [noR] at hq6)) <;> (try simp -implicitDefEqProofs -dsimp (maxSteps := 2000000) (disch := (first | exact dz | fail)) only [go_sem, hq6, hq5, hq4, hq3, hq2, hq1, h0, hq])))) <;> (try with_reducible and_intros) <;> (first | exact fz | skip)
    simp [trimP, hq]
  | false =>
    (have hq1 : Dm := ⟨⟩; have hq2 : Dm := ⟨⟩; have hq3 : Dm := ⟨⟩; have hq4 : Dm := ⟨⟩; have hq5 : Dm := ⟨⟩; have hq6 : Dm := ⟨⟩) <;> (try simp -implicitDefEqProofs -dsimp (maxSteps := 2000000) (disch := (first | exact dz | fail)) only [go_sem, h0, hq]) <;> (repeat' (first | ((with_reducible refine ds_and ?_ ?_); focus exact kz) | ((with_reducible refine And.intro ?_ ?_); focus exact oz) | ((with_reducible refine pc_and ?_ ?_); focus exact pz) | ((first | with_reducible refine gIf_t ?_ ?_ | with_reducible refine gIf_f ?_ ?_ | with_reducible refine ite_t ?_ ?_ | with_reducible refine ite_p ?_ ?_) <;> (first | (have z := (hq1 : Dm); clear z hq1; intro hq1; try simp only [noR] at hq1) | (have z := (hq2 : Dm); clear z hq2; intro hq2; try simp only [noR] at hq2) | (have z := (hq3 : Dm); clear z hq3; intro hq3; try simp only [noR] at hq3) | (have z := (hq4 : Dm); clear z hq4; intro hq4; try simp only [noR] at hq4) | (have z := (hq5 : Dm); clear z hq5; intro hq5; try simp only [noR] at hq5) | (have z := (hq6 : Dm); clear z hq6; intro hq6; try simp only [noR] at hq6)) <;> (try simp -implicitDefEqProofs -dsimp (maxSteps := 2000000) (disch := (first | exact dz | fail)) only [go_sem, hq6, hq5, hq4, hq3, hq2, hq1, h0, hq])))) <;> (try with_reducible and_intros) <;> (first | exact fz | skip)
    simp [trimP, hq]
theorem trim_ok (s p : List UInt8) (hs : s.length < 4611686018427387904) (hp : p.length < 4611686018427387904) (hf : Fits en m.length) : WC Tryd.prog pol en (.func 72) [tx s, tx p] m fun v m' => v = tx (trimP s p) ∧ m' = m := by
  have h0 := fun (en : Env) (m : Mem) Q (hf : Fits en m.length) => (trim0_ok (m := m) (en := en) s p hs hp hf).rule Q
  refine callPur Tryd.func72 rfl rfl Tryd.ntmps72 Tryd.results72 ?_
  (have hq1 : Dm := ⟨⟩; have hq2 : Dm := ⟨⟩; have hq3 : Dm := ⟨⟩; have hq4 : Dm := ⟨⟩; have hq5 : Dm := ⟨⟩; have hq6 : Dm := ⟨⟩) <;> (try simp -implicitDefEqProofs -dsimp (maxSteps := 2000000) (disch := (first | exact dz | fail)) only [go_sem, h0]) <;> (repeat' (first | ((with_reducible refine ds_and ?_ ?_); focus exact kz) | ((with_reducible refine And.intro ?_ ?_); focus exact oz) | ((with_reducible refine pc_and ?_ ?_); focus exact pz) | ((first | with_reducible refine gIf_t ?_ ?_ | with_reducible refine gIf_f ?_ ?_ | with_reducible refine ite_t ?_ ?_ | with_reducible refine ite_p ?_ ?_) <;> (first | (have z := (hq1 : Dm); clear z hq1; intro hq1; try simp only [noR] at hq1) | (have z := (hq2 : Dm); clear z hq2; intro hq2; try simp only [noR] at hq2) | (have z := (hq3 : Dm); clear z hq3; intro hq3; try simp only [noR] at hq3) | (have z := (hq4 : Dm); clear z hq4; intro hq4; try simp only [noR] at hq4) | (have z := (hq5 : Dm); clear z hq5; intro hq5; try simp only [noR] at hq5) | (have z := (hq6 : Dm); clear z hq6; intro hq6; try simp only [noR] at hq6)) <;> (try simp -implicitDefEqProofs -dsimp (maxSteps := 2000000) (disch := (first | exact dz | fail)) only [go_sem, hq6, hq5, hq4, hq3, hq2, hq1, h0])))) <;> (try with_reducible and_intros) <;> (first | exact fz | skip)
def partsL (p : List UInt8) : List UInt8 × List UInt8 := if lastI p 47 ≤ 0 then ([47], trimP p [47]) else (p.take (lastI p 47).toNat, p.drop ((lastI p 47).toNat + 1))
theorem lastAt_lt (s : List UInt8) (c : UInt8) : ∀ i, -1 ≤ lastAt s c i ∧ lastAt s c i < i ∧ (0 ≤ lastAt s c i → s[(lastAt s c i).toNat]? = some c)
  | 0 => by simp [lastAt]
  | i + 1 => by
    have := lastAt_lt s c i
    unfold lastAt
    split
    · refine ⟨by omega, by omega, fun _ => by simpa using ‹_›⟩
    · exact ⟨this.1, by omega, this.2.2⟩
theorem parts_ok (p : List UInt8) (hp : p.length < 4611686018427387904) (hf : Fits en m.length) : WC Tryd.prog pol en (.func 62) [tx p] m fun v m' => v = .tup [tx (partsL p).1, tx (partsL p).2] ∧ m' = m := by
  have h0 : ∀ (en : Env) (m : Mem) (Q : AV → Mem → Prop) (hf : Fits en m.length), WC Tryd.prog pol en (.func 71) [tx p, .sc (.int .u8 47)] m Q = Q (I (lastI p 47)) m := fun (en : Env) (m : Mem) Q (hf : Fits en m.length) => (lastByte_ok (m := m) (en := en) p 47 (by omega) hf).rule Q
  have h1 := fun (en : Env) (m : Mem) Q (hf : Fits en m.length) => (trim_ok (m := m) (en := en) p [47] hp (by decide) hf).rule Q
  have hl := lastAt_lt p 47 p.length
  have h47 : (47 : Int) = ((47 : UInt8).toNat : Int) := rfl
  refine callPur Tryd.func62 rfl rfl Tryd.ntmps62 Tryd.results62 ?_
  have e : lastAt p 47 p.length = lastI p 47 := rfl
  rw [e] at hl
  (have hq1 : Dm := ⟨⟩; have hq2 : Dm := ⟨⟩; have hq3 : Dm := ⟨⟩; have hq4 : Dm := ⟨⟩; have hq5 : Dm := ⟨⟩; have hq6 : Dm := ⟨⟩) <;> (try simp -implicitDefEqProofs -dsimp (maxSteps := 2000000) (disch := (first | exact dz | fail)) only [go_sem, h0, h1]) <;> (repeat' (first | ((with_reducible refine ds_and ?_ ?_); focus exact kz) | ((with_reducible refine And.intro ?_ ?_); focus exact oz) | ((with_reducible refine pc_and ?_ ?_); focus exact pz) | ((first | with_reducible refine gIf_t ?_ ?_ | with_reducible refine gIf_f ?_ ?_ | with_reducible refine ite_t ?_ ?_ | with_reducible refine ite_p ?_ ?_) <;> (first | (have z := (hq1 : Dm); clear z hq1; intro hq1; try simp only [noR] at hq1) | (have z := (hq2 : Dm); clear z hq2; intro hq2; try simp only [noR] at hq2) | (have z := (hq3 : Dm); clear z hq3; intro hq3; try simp only [noR] at hq3) | (have z := (hq4 : Dm); clear z hq4; intro hq4; try simp only [noR] at hq4) | (have z := (hq5 : Dm); clear z hq5; intro hq5; try simp only [noR] at hq5) | (have z := (hq6 : Dm); clear z hq6; intro hq6; try simp only [noR] at hq6)) <;> (try simp -implicitDefEqProofs -dsimp (maxSteps := 2000000) (disch := (first | exact dz | fail)) only [go_sem, hq6, hq5, hq4, hq3, hq2, hq1, h0, h1])))) <;> (try with_reducible and_intros) <;> (first | exact fz | skip)
  · simp [partsL, hq1]
  · have e3 : (lastI p 47 + 1).toNat = (lastI p 47).toNat + 1 := by omega
    simp [partsL, hq1, e3]
theorem pathOf_ok (n : Nd) (hf : Fits en m.length) : WC Tryd.prog pol en (.func 64) [.agg [tx n.path, .sc (.bool n.dir), tx n.data, tx n.first]] m fun v m' => v = tx n.path ∧ m' = m := by
  refine callPur Tryd.func64 rfl rfl Tryd.ntmps64 Tryd.results64 ?_
  (have hq1 : Dm := ⟨⟩; have hq2 : Dm := ⟨⟩; have hq3 : Dm := ⟨⟩; have hq4 : Dm := ⟨⟩; have hq5 : Dm := ⟨⟩; have hq6 : Dm := ⟨⟩) <;> (try simp -implicitDefEqProofs -dsimp (maxSteps := 2000000) (disch := (first | exact dz | fail)) only [go_sem, ]) <;> (repeat' (first | ((with_reducible refine ds_and ?_ ?_); focus exact kz) | ((with_reducible refine And.intro ?_ ?_); focus exact oz) | ((with_reducible refine pc_and ?_ ?_); focus exact pz) | ((first | with_reducible refine gIf_t ?_ ?_ | with_reducible refine gIf_f ?_ ?_ | with_reducible refine ite_t ?_ ?_ | with_reducible refine ite_p ?_ ?_) <;> (first | (have z := (hq1 : Dm); clear z hq1; intro hq1; try simp only [noR] at hq1) | (have z := (hq2 : Dm); clear z hq2; intro hq2; try simp only [noR] at hq2) | (have z := (hq3 : Dm); clear z hq3; intro hq3; try simp only [noR] at hq3) | (have z := (hq4 : Dm); clear z hq4; intro hq4; try simp only [noR] at hq4) | (have z := (hq5 : Dm); clear z hq5; intro hq5; try simp only [noR] at hq5) | (have z := (hq6 : Dm); clear z hq6; intro hq6; try simp only [noR] at hq6)) <;> (try simp -implicitDefEqProofs -dsimp (maxSteps := 2000000) (disch := (first | exact dz | fail)) only [go_sem, hq6, hq5, hq4, hq3, hq2, hq1])))) <;> (try with_reducible and_intros) <;> (first | exact fz | skip)
theorem treeNew_ok (hf : Fits en m.length) : WC Tryd.prog pol en (.func 51) [] m fun v m' => v = slf ndC ⟨false, true, [root0]⟩ ∧ m' = m := by
  refine callPur Tryd.func51 rfl rfl Tryd.ntmps51 Tryd.results51 ?_
  simp -implicitDefEqProofs -dsimp (maxSteps := 2000000) (disch := (first | exact dz | fail)) only [go_sem, ]
  show frzQ m m.length 8 (slf ndC ⟨false, true, [root0]⟩) _
  rw [frzQ_slf (w := 4)]
  exact ⟨rfl, rfl⟩
/-- The comparison of a node's path with a text. -/
theorem place1_ok (n : Nd) (k : List UInt8) {id ver : Nat} (hid : m[id]? = some (.cells ver [.clo (.func 64) [] []])) (hf : Fits en m.length) : WC Tryd.prog pol en (.func 74) [.agg [tx n.path, .sc (.bool n.dir), tx n.data, tx n.first], tx k, .ptr id ver 0] m fun v m' => v = I (cmpL n.path k) ∧ m' = m := by
  have h0 := fun (en : Env) (m : Mem) Q (hf : Fits en m.length) => (pathOf_ok (m := m) (en := en) n hf).rule Q
  have h1 := fun (en : Env) (m : Mem) Q (hf : Fits en m.length) => (compare_ok (m := m) (en := en) n.path k hf).rule Q
  have hlt : id < m.length := (List.getElem?_eq_some_iff.1 hid).1
  have hid2 : ∀ l, (m ++ l)[id]? = some (.cells ver [.clo (.func 64) [] []]) := fun l => by rw [List.getElem?_append_left hlt]; exact hid
  refine callPur Tryd.func74 rfl rfl Tryd.ntmps74 Tryd.results74 ?_
  (have hq1 : Dm := ⟨⟩; have hq2 : Dm := ⟨⟩; have hq3 : Dm := ⟨⟩; have hq4 : Dm := ⟨⟩; have hq5 : Dm := ⟨⟩; have hq6 : Dm := ⟨⟩) <;> (try simp -implicitDefEqProofs -dsimp (maxSteps := 2000000) (disch := (first | exact dz | fail)) only [go_sem, h0, h1, hid2]) <;> (repeat' (first | ((with_reducible refine ds_and ?_ ?_); focus exact kz) | ((with_reducible refine And.intro ?_ ?_); focus exact oz) | ((with_reducible refine pc_and ?_ ?_); focus exact pz) | ((first | with_reducible refine gIf_t ?_ ?_ | with_reducible refine gIf_f ?_ ?_ | with_reducible refine ite_t ?_ ?_ | with_reducible refine ite_p ?_ ?_) <;> (first | (have z := (hq1 : Dm); clear z hq1; intro hq1; try simp only [noR] at hq1) | (have z := (hq2 : Dm); clear z hq2; intro hq2; try simp only [noR] at hq2) | (have z := (hq3 : Dm); clear z hq3; intro hq3; try simp only [noR] at hq3) | (have z := (hq4 : Dm); clear z hq4; intro hq4; try simp only [noR] at hq4) | (have z := (hq5 : Dm); clear z hq5; intro hq5; try simp only [noR] at hq5) | (have z := (hq6 : Dm); clear z hq6; intro hq6; try simp only [noR] at hq6)) <;> (try simp -implicitDefEqProofs -dsimp (maxSteps := 2000000) (disch := (first | exact dz | fail)) only [go_sem, hq6, hq5, hq4, hq3, hq2, hq1, h0, h1, hid2])))) <;> (try with_reducible and_intros) <;> (first | exact fz | skip)
theorem search_ok (t : Sl Nd) (k : List UInt8) (hs : Srt t.l) (ht : t.l.length < 4294967296) {id ver : Nat} (hid : m[id]? = some (.cells ver [.clo (.func 64) [] []])) (hf : Fits en m.length) :
    WC Tryd.prog pol en (.func 73) [slf ndC t, tx k, .clo (.func 74) [] [.ptr id ver 0]] m fun v m' => v = .tup [I (lowB t.l k), bo (getL t.l k).isSome] ∧ m' = m := by
  have h0 := fun (n : Nd) (en : Env) (m : Mem) Q (hid) (hf : Fits en m.length) => (place1_ok (m := m) (en := en) n k (id := id) (ver := ver) hid hf).rule Q
  refine callPur Tryd.func73 rfl rfl Tryd.ntmps73 Tryd.results73 ?_
  (have hq1 : Dm := ⟨⟩; have hq2 : Dm := ⟨⟩; have hq3 : Dm := ⟨⟩; have hq4 : Dm := ⟨⟩; have hq5 : Dm := ⟨⟩; have hq6 : Dm := ⟨⟩) <;> (try simp -implicitDefEqProofs -dsimp (maxSteps := 2000000) (disch := (first | exact dz | fail)) only [go_sem, ]) <;> (repeat' (first | ((with_reducible refine ds_and ?_ ?_); focus exact kz) | ((with_reducible refine And.intro ?_ ?_); focus exact oz) | ((with_reducible refine pc_and ?_ ?_); focus exact pz) | ((first | with_reducible refine gIf_t ?_ ?_ | with_reducible refine gIf_f ?_ ?_ | with_reducible refine ite_t ?_ ?_ | with_reducible refine ite_p ?_ ?_) <;> (first | (have z := (hq1 : Dm); clear z hq1; intro hq1; try simp only [noR] at hq1) | (have z := (hq2 : Dm); clear z hq2; intro hq2; try simp only [noR] at hq2) | (have z := (hq3 : Dm); clear z hq3; intro hq3; try simp only [noR] at hq3) | (have z := (hq4 : Dm); clear z hq4; intro hq4; try simp only [noR] at hq4) | (have z := (hq5 : Dm); clear z hq5; intro hq5; try simp only [noR] at hq5) | (have z := (hq6 : Dm); clear z hq6; intro hq6; try simp only [noR] at hq6)) <;> (try simp -implicitDefEqProofs -dsimp (maxSteps := 2000000) (disch := (first | exact dz | fail)) only [go_sem, hq6, hq5, hq4, hq3, hq2, hq1])))) <;> (try with_reducible and_intros) <;> (first | exact fz | skip)
  refine loopF (fun c ts m' => ∃ (i j : Nat), ts.length = 49 ∧ tg ts 0 = slf ndC t ∧ tg ts 1 = tx k ∧ tg ts 2 = .clo (.func 74) [] [.ptr id ver 0] ∧ tg ts 8 = I t.l.length ∧ tg ts 9 = I i ∧ tg ts 10 = I j ∧ m' = m ∧ i ≤ j ∧ j ≤ t.l.length ∧ (∀ x n, x < i → t.l[x]? = some n → ltB n.path k = true) ∧ (∀ x n, j ≤ x → t.l[x]? = some n → ltB n.path k = false) ∧ c = j - i) t.l.length ⟨0, t.l.length, rfl, rfl, rfl, rfl, rfl, rfl, rfl, rfl, by omega, by omega, by omega, fun x n hx hn => by have := (List.getElem?_eq_some_iff.1 hn).1; omega, by omega⟩ ?_
  rintro c ts m' ⟨i, j, hl, h0', h1, h2, h8, h9, h10, rfl, hij, hjl, hlo, hhi, rfl⟩
  rw [expandT hl]
  by_cases hlt : (i : Int) < (j : Int)
  · have hmid : IntKind.i64.wrap (shrK IntKind.u64 ((i : Int) + (j : Int)) 1) = (((i + j) / 2 : Nat) : Int) := by
      have e1 : shrK IntKind.u64 ((i : Int) + (j : Int)) 1 = (((i + j) / 2 : Nat) : Int) := by
        show ((i : Int) + (j : Int)).fdiv 2 = _
        rw [Int.fdiv_eq_ediv_of_nonneg _ (by omega)]; omega
      rw [e1, i64w (by omega)]
    obtain ⟨n, hn⟩ : ∃ n, t.l[(i + j) / 2]? = some n := ⟨_, List.getElem?_eq_getElem (by omega)⟩
    (have c1 : Dm := ⟨⟩; have c2 : Dm := ⟨⟩; have c3 : Dm := ⟨⟩; have c4 : Dm := ⟨⟩; have c5 : Dm := ⟨⟩; have c6 : Dm := ⟨⟩) <;> (try simp -implicitDefEqProofs -dsimp (maxSteps := 2000000) (disch := (first | exact dz | fail)) only [go_sem, h0', h1, h2, h8, h9, h10, h0, hid, hlt, hmid, hn]) <;> (repeat' (first | ((with_reducible refine ds_and ?_ ?_); focus exact kz) | ((with_reducible refine And.intro ?_ ?_); focus exact oz) | ((with_reducible refine pc_and ?_ ?_); focus exact pz) | ((first | with_reducible refine gIf_t ?_ ?_ | with_reducible refine gIf_f ?_ ?_ | with_reducible refine ite_t ?_ ?_ | with_reducible refine ite_p ?_ ?_) <;> (first | (have z := (c1 : Dm); clear z c1; intro c1; try simp only [noR] at c1) | (have z := (c2 : Dm); clear z c2; intro c2; try simp only [noR] at c2) | (have z := (c3 : Dm); clear z c3; intro c3; try simp only [noR] at c3) | (have z := (c4 : Dm); clear z c4; intro c4; try simp only [noR] at c4) | (have z := (c5 : Dm); clear z c5; intro c5; try simp only [noR] at c5) | (have z := (c6 : Dm); clear z c6; intro c6; try simp only [noR] at c6)) <;> (try simp -implicitDefEqProofs -dsimp (maxSteps := 2000000) (disch := (first | exact dz | fail)) only [go_sem, c6, c5, c4, c3, c2, c1, h0', h1, h2, h8, h9, h10, h0, hid, hlt, hmid, hn])))) <;> (try with_reducible and_intros) <;> (first | exact fz | skip)
    · have hlt' : ltB n.path k = true := by
        unfold cmpL at c1
        split at c1
        · assumption
        · split at c1 <;> omega
      refine ⟨j - ((i + j) / 2 + 1), by omega, (i + j) / 2 + 1, j, rfl, rfl, by omega, by omega, fun x a hx ha => ?_, hhi, rfl⟩
      rcases Nat.lt_or_ge x ((i + j) / 2) with hx2 | hx2
      · exact ltB_trans (hs.get hx2 ha hn) hlt'
      · obtain rfl : x = (i + j) / 2 := by omega
        rw [hn] at ha; cases ha; exact hlt'
    · have hge : ltB n.path k = false := by
        cases hq : ltB n.path k with
        | false => rfl
        | true => rw [cmpL, hq] at c1; simp at c1
      refine ⟨(i + j) / 2 - i, by omega, i, (i + j) / 2, rfl, rfl, by omega, by omega, hlo, fun x a hx ha => ?_, rfl⟩
      rcases Nat.eq_or_lt_of_le hx with rfl | hx2
      · rw [hn] at ha; cases ha; exact hge
      · cases hq : ltB a.path k with
        | false => rfl
        | true => rw [ltB_trans (hs.get hx2 hn ha) hq] at hge; cases hge
  · obtain rfl : i = j := by omega
    have hlow := lowB_eq (t := t.l) (k := k) hjl hlo hhi
    have hfind : ∀ n, t.l[i]? = some n → (decide (cmpL n.path k = 0)) = (getL t.l k).isSome := by
      intro n hn
      have hge := hhi i n (Nat.le_refl _) hn
      by_cases hp : n.path = k
      · rw [← hp, getL_of hs hn]; simp [cmpL, ltB_irr]
      · have h1 : cmpL n.path k = 1 := by simp [cmpL, hge, hp]
        cases hg : getL t.l k with
        | none => simp [h1]
        | some a =>
          have h2 := lowB_get hs hg
          rw [hlow, hn] at h2
          cases h2
          exact (hp (getL_some hg).2).elim
    (have c1 : Dm := ⟨⟩; have c2 : Dm := ⟨⟩; have c3 : Dm := ⟨⟩; have c4 : Dm := ⟨⟩; have c5 : Dm := ⟨⟩; have c6 : Dm := ⟨⟩) <;> (try simp -implicitDefEqProofs -dsimp (maxSteps := 2000000) (disch := (first | exact dz | fail)) only [go_sem, h0', h1, h2, h8, h9, h10, h0, hid, hlt]) <;> (repeat' (first | ((with_reducible refine ds_and ?_ ?_); focus exact kz) | ((with_reducible refine And.intro ?_ ?_); focus exact oz) | ((with_reducible refine pc_and ?_ ?_); focus exact pz) | ((first | with_reducible refine gIf_t ?_ ?_ | with_reducible refine gIf_f ?_ ?_ | with_reducible refine ite_t ?_ ?_ | with_reducible refine ite_p ?_ ?_) <;> (first | (have z := (c1 : Dm); clear z c1; intro c1; try simp only [noR] at c1) | (have z := (c2 : Dm); clear z c2; intro c2; try simp only [noR] at c2) | (have z := (c3 : Dm); clear z c3; intro c3; try simp only [noR] at c3) | (have z := (c4 : Dm); clear z c4; intro c4; try simp only [noR] at c4) | (have z := (c5 : Dm); clear z c5; intro c5; try simp only [noR] at c5) | (have z := (c6 : Dm); clear z c6; intro c6; try simp only [noR] at c6)) <;> (try simp -implicitDefEqProofs -dsimp (maxSteps := 2000000) (disch := (first | exact dz | fail)) only [go_sem, c6, c5, c4, c3, c2, c1, h0', h1, h2, h8, h9, h10, h0, hid, hlt])))) <;> (try with_reducible and_intros) <;> (first | exact fz | skip)
    · have hn := List.getElem?_eq_getElem (show i < t.l.length by omega)
      rw [hlow, hfind _ hn]
    · rw [hlow]
      cases hg : getL t.l k with
      | none => rfl
      | some a =>
        have h2 := lowB_get hs hg
        have := (List.getElem?_eq_some_iff.1 h2).1
        omega
theorem place_ok (t : Sl Nd) (k : List UInt8) (hs : Srt t.l) (ht : t.l.length < 4294967296) (hf : Fits en m.length) :
    WC Tryd.prog pol en (.func 63) [slf ndC t, tx k, .clo (.func 64) [] []] m fun v m' => v = .tup [I (lowB t.l k), bo (getL t.l k).isSome] ∧ m' = m := by
  have h0 := fun (ver : Nat) (en : Env) (m : Mem) Q (hf : Fits en (m ++ [Ob.cells ver [.clo (.func 64) [] []]]).length) => (search_ok (m := m ++ [.cells ver [.clo (.func 64) [] []]]) (en := en) t k hs ht (id := m.length) (ver := ver) (by rw [getM0]; rfl) hf).rule Q
  refine callPur Tryd.func63 rfl rfl Tryd.ntmps63 Tryd.results63 ?_
  (have hq1 : Dm := ⟨⟩; have hq2 : Dm := ⟨⟩; have hq3 : Dm := ⟨⟩; have hq4 : Dm := ⟨⟩; have hq5 : Dm := ⟨⟩; have hq6 : Dm := ⟨⟩) <;> (try simp -implicitDefEqProofs -dsimp (maxSteps := 2000000) (disch := (first | exact dz | fail)) only [go_sem, h0]) <;> (repeat' (first | ((with_reducible refine ds_and ?_ ?_); focus exact kz) | ((with_reducible refine And.intro ?_ ?_); focus exact oz) | ((with_reducible refine pc_and ?_ ?_); focus exact pz) | ((first | with_reducible refine gIf_t ?_ ?_ | with_reducible refine gIf_f ?_ ?_ | with_reducible refine ite_t ?_ ?_ | with_reducible refine ite_p ?_ ?_) <;> (first | (have z := (hq1 : Dm); clear z hq1; intro hq1; try simp only [noR] at hq1) | (have z := (hq2 : Dm); clear z hq2; intro hq2; try simp only [noR] at hq2) | (have z := (hq3 : Dm); clear z hq3; intro hq3; try simp only [noR] at hq3) | (have z := (hq4 : Dm); clear z hq4; intro hq4; try simp only [noR] at hq4) | (have z := (hq5 : Dm); clear z hq5; intro hq5; try simp only [noR] at hq5) | (have z := (hq6 : Dm); clear z hq6; intro hq6; try simp only [noR] at hq6)) <;> (try simp -implicitDefEqProofs -dsimp (maxSteps := 2000000) (disch := (first | exact dz | fail)) only [go_sem, hq6, hq5, hq4, hq3, hq2, hq1, h0])))) <;> (try with_reducible and_intros) <;> (first | exact fz | skip)
end
end Go.Proofs.YtcmjidnbbfcbjaaDoor.V
/- Names and paths of the program; no condition. -/
namespace Go.Proofs.YtcmjidnbbfcbjaaDoor.V
open Go
set_option linter.unusedVariables false
set_option linter.unusedSimpArgs false
set_option maxRecDepth 100000
set_option maxHeartbeats 4000000
noncomputable section
variable {en : Env} {m : Mem}
theorem dec_lo {s : List UInt8} {i : Nat} {c : UInt8} (h : s[i]? = some c) (hc : c.toNat < 128) : Utf8.decode ⟨⟨s⟩⟩ i = (c.toNat, 1) := by
  obtain ⟨hi, he⟩ := List.getElem?_eq_some_iff.1 h
  have hg : (⟨⟨s⟩⟩ : ByteArray)[i]'hi = c := he
  rw [decode_ascii ⟨⟨s⟩⟩ i hi (by rw [hg]; exact hc), hg]
theorem dec_hi {s : List UInt8} {i : Nat} {c : UInt8} (h : s[i]? = some c) (hc : 128 ≤ c.toNat) : 128 ≤ (Utf8.decode ⟨⟨s⟩⟩ i).1 ∧ (Utf8.decode ⟨⟨s⟩⟩ i).1 ≤ 2147483647 ∧ 1 ≤ (Utf8.decode ⟨⟨s⟩⟩ i).2 := by
  obtain ⟨hi, he⟩ := List.getElem?_eq_some_iff.1 h
  have hg : (⟨⟨s⟩⟩ : ByteArray)[i]'hi = c := he
  have := decode_high ⟨⟨s⟩⟩ i hi (by rw [hg]; exact hc)
  exact ⟨this.1, decode_le _ _, this.2⟩
theorem okB_lt {c : UInt8} (h : okB c = true) : c.toNat < 128 := by
  simp only [okB, decide_eq_true_eq] at h; omega
theorem okB_iff (c : UInt8) : okB c = true ↔ ((c.toNat : Int) = 45 ∨ (c.toNat : Int) = 46 ∨ (48 ≤ (c.toNat : Int) ∧ (c.toNat : Int) ≤ 57) ∨ (97 ≤ (c.toNat : Int) ∧ (c.toNat : Int) ≤ 122)) := by
  simp only [okB, decide_eq_true_eq]; omega
theorem name_bad {s : List UInt8} {i : Nat} {c : UInt8} (h : s[i]? = some c) (hc : okB c = false) : nameB s = false := by
  have : s.all okB = false := by rw [List.all_eq_false]; exact ⟨c, List.mem_of_getElem? h, by simp [hc]⟩
  simp [nameB, this]
theorem layName_ok (s : List UInt8) (hs : s.length ≤ 4294967296) (hf : Fits en m.length) : WC Tryd.prog pol en (.func 70) [tx s] m fun v m' => v = bo (nameB s) ∧ m' = m := by
  refine callPur Tryd.func70 rfl rfl Tryd.ntmps70 Tryd.results70 ?_
  (have hq1 : Dm := ⟨⟩; have hq2 : Dm := ⟨⟩; have hq3 : Dm := ⟨⟩; have hq4 : Dm := ⟨⟩; have hq5 : Dm := ⟨⟩; have hq6 : Dm := ⟨⟩) <;> (try simp -implicitDefEqProofs -dsimp (maxSteps := 2000000) (disch := (first | exact dz | fail)) only [go_sem, ]) <;> (repeat' (first | ((with_reducible refine ds_and ?_ ?_); focus exact kz) | ((with_reducible refine And.intro ?_ ?_); focus exact oz) | ((with_reducible refine pc_and ?_ ?_); focus exact pz) | ((first | with_reducible refine gIf_t ?_ ?_ | with_reducible refine gIf_f ?_ ?_ | with_reducible refine ite_t ?_ ?_ | with_reducible refine ite_p ?_ ?_) <;> (first | (have z := (hq1 : Dm); clear z hq1; intro hq1; try simp only [noR] at hq1) | (have z := (hq2 : Dm); clear z hq2; intro hq2; try simp only [noR] at hq2) | (have z := (hq3 : Dm); clear z hq3; intro hq3; try simp only [noR] at hq3) | (have z := (hq4 : Dm); clear z hq4; intro hq4; try simp only [noR] at hq4) | (have z := (hq5 : Dm); clear z hq5; intro hq5; try simp only [noR] at hq5) | (have z := (hq6 : Dm); clear z hq6; intro hq6; try simp only [noR] at hq6)) <;> (try simp -implicitDefEqProofs -dsimp (maxSteps := 2000000) (disch := (first | exact dz | fail)) only [go_sem, hq6, hq5, hq4, hq3, hq2, hq1])))) <;> (try with_reducible and_intros) <;> (first | exact fz | skip)
  refine loopF (fun k ts m' => ∃ (i : Nat), ts.length = 35 ∧ tg ts 0 = tx s ∧ tg ts 6 = .it m.length ∧ m' = m ++ [.iter ⟨⟨s⟩⟩ i] ∧ (s.take i).all okB = true ∧ i ≤ s.length ∧ k = s.length - i) s.length ⟨0, rfl, rfl, rfl, rfl, rfl, by omega, by omega⟩ ?_
  rintro k ts m' ⟨i, hl, h0, h6, rfl, hg, hi, rfl⟩
  rw [expandT hl]
  by_cases hlt : i < s.length
  · obtain ⟨c, hc⟩ : ∃ c, s[i]? = some c := ⟨_, List.getElem?_eq_getElem hlt⟩
    have no : okB c = false → nameB s = false := name_bad hc
    have yes : okB c = true → (s.take (i + 1)).all okB = true := fun h => by rw [List.take_add_one, hc, List.all_append, hg]; simp [h]
    by_cases hlo : c.toNat < 128
    · have hd := dec_lo hc hlo
      have yes' : ((c.toNat : Int) = 45 ∨ (c.toNat : Int) = 46 ∨ (48 ≤ (c.toNat : Int) ∧ (c.toNat : Int) ≤ 57) ∨ (97 ≤ (c.toNat : Int) ∧ (c.toNat : Int) ≤ 122)) → ∃ k', k' < s.length - i ∧ ∃ i_1, m ++ [Ob.iter ⟨⟨s⟩⟩ (i + 1)] = m ++ [Ob.iter ⟨⟨s⟩⟩ i_1] ∧ (s.take i_1).all okB = true ∧ i_1 ≤ s.length ∧ k' = s.length - i_1 :=
        fun h => ⟨_, by omega, i + 1, rfl, yes ((okB_iff c).2 h), by omega, rfl⟩
      have no' : ¬((c.toNat : Int) = 45 ∨ (c.toNat : Int) = 46 ∨ (48 ≤ (c.toNat : Int) ∧ (c.toNat : Int) ≤ 57) ∨ (97 ≤ (c.toNat : Int) ∧ (c.toNat : Int) ≤ 122)) → AV.sc (.bool false) = bo (nameB s) :=
        fun h => by rw [no (by cases hq : okB c with | false => rfl | true => exact (h ((okB_iff c).1 hq)).elim)]
      (have c1 : Dm := ⟨⟩; have c2 : Dm := ⟨⟩; have c3 : Dm := ⟨⟩; have c4 : Dm := ⟨⟩; have c5 : Dm := ⟨⟩; have c6 : Dm := ⟨⟩; have c7 : Dm := ⟨⟩; have c8 : Dm := ⟨⟩) <;> (try simp -implicitDefEqProofs -dsimp (maxSteps := 2000000) (disch := (first | exact dz | fail)) only [go_sem, h0, h6, hlt, hd]) <;> (repeat' (first | ((with_reducible refine ds_and ?_ ?_); focus exact kz) | ((with_reducible refine And.intro ?_ ?_); focus exact oz) | ((with_reducible refine pc_and ?_ ?_); focus exact pz) | ((first | with_reducible refine gIf_t ?_ ?_ | with_reducible refine gIf_f ?_ ?_ | with_reducible refine ite_t ?_ ?_ | with_reducible refine ite_p ?_ ?_) <;> (first | (have z := (c1 : Dm); clear z c1; intro c1; try simp only [noR] at c1) | (have z := (c2 : Dm); clear z c2; intro c2; try simp only [noR] at c2) | (have z := (c3 : Dm); clear z c3; intro c3; try simp only [noR] at c3) | (have z := (c4 : Dm); clear z c4; intro c4; try simp only [noR] at c4) | (have z := (c5 : Dm); clear z c5; intro c5; try simp only [noR] at c5) | (have z := (c6 : Dm); clear z c6; intro c6; try simp only [noR] at c6) | (have z := (c7 : Dm); clear z c7; intro c7; try simp only [noR] at c7) | (have z := (c8 : Dm); clear z c8; intro c8; try simp only [noR] at c8)) <;> (try simp -implicitDefEqProofs -dsimp (maxSteps := 2000000) (disch := (first | exact dz | fail)) only [go_sem, c8, c7, c6, c5, c4, c3, c2, c1, h0, h6, hlt, hd])))) <;> (try with_reducible and_intros) <;> (first | exact fz | skip)
      all_goals first | exact yes' (by omega) | exact no' (by omega)
    · have hd := dec_hi hc (by omega)
      have hno := no (by cases hq : okB c with | false => rfl | true => have := okB_lt hq; omega)
      (have c1 : Dm := ⟨⟩; have c2 : Dm := ⟨⟩; have c3 : Dm := ⟨⟩; have c4 : Dm := ⟨⟩; have c5 : Dm := ⟨⟩; have c6 : Dm := ⟨⟩; have c7 : Dm := ⟨⟩; have c8 : Dm := ⟨⟩) <;> (try simp -implicitDefEqProofs -dsimp (maxSteps := 2000000) (disch := (first | exact dz | fail)) only [go_sem, h0, h6, hlt, hno]) <;> (repeat' (first | ((with_reducible refine ds_and ?_ ?_); focus exact kz) | ((with_reducible refine And.intro ?_ ?_); focus exact oz) | ((with_reducible refine pc_and ?_ ?_); focus exact pz) | ((first | with_reducible refine gIf_t ?_ ?_ | with_reducible refine gIf_f ?_ ?_ | with_reducible refine ite_t ?_ ?_ | with_reducible refine ite_p ?_ ?_) <;> (first | (have z := (c1 : Dm); clear z c1; intro c1; try simp only [noR] at c1) | (have z := (c2 : Dm); clear z c2; intro c2; try simp only [noR] at c2) | (have z := (c3 : Dm); clear z c3; intro c3; try simp only [noR] at c3) | (have z := (c4 : Dm); clear z c4; intro c4; try simp only [noR] at c4) | (have z := (c5 : Dm); clear z c5; intro c5; try simp only [noR] at c5) | (have z := (c6 : Dm); clear z c6; intro c6; try simp only [noR] at c6) | (have z := (c7 : Dm); clear z c7; intro c7; try simp only [noR] at c7) | (have z := (c8 : Dm); clear z c8; intro c8; try simp only [noR] at c8)) <;> (try simp -implicitDefEqProofs -dsimp (maxSteps := 2000000) (disch := (first | exact dz | fail)) only [go_sem, c8, c7, c6, c5, c4, c3, c2, c1, h0, h6, hlt, hno])))) <;> (try with_reducible and_intros) <;> (first | exact fz | skip)
      all_goals (exfalso; omega)
  · rw [List.take_of_length_le (by omega)] at hg
    (have c1 : Dm := ⟨⟩; have c2 : Dm := ⟨⟩; have c3 : Dm := ⟨⟩; have c4 : Dm := ⟨⟩; have c5 : Dm := ⟨⟩; have c6 : Dm := ⟨⟩; have c7 : Dm := ⟨⟩; have c8 : Dm := ⟨⟩) <;> (try simp -implicitDefEqProofs -dsimp (maxSteps := 2000000) (disch := (first | exact dz | fail)) only [go_sem, h0, h6, hlt]) <;> (repeat' (first | ((with_reducible refine ds_and ?_ ?_); focus exact kz) | ((with_reducible refine And.intro ?_ ?_); focus exact oz) | ((with_reducible refine pc_and ?_ ?_); focus exact pz) | ((first | with_reducible refine gIf_t ?_ ?_ | with_reducible refine gIf_f ?_ ?_ | with_reducible refine ite_t ?_ ?_ | with_reducible refine ite_p ?_ ?_) <;> (first | (have z := (c1 : Dm); clear z c1; intro c1; try simp only [noR] at c1) | (have z := (c2 : Dm); clear z c2; intro c2; try simp only [noR] at c2) | (have z := (c3 : Dm); clear z c3; intro c3; try simp only [noR] at c3) | (have z := (c4 : Dm); clear z c4; intro c4; try simp only [noR] at c4) | (have z := (c5 : Dm); clear z c5; intro c5; try simp only [noR] at c5) | (have z := (c6 : Dm); clear z c6; intro c6; try simp only [noR] at c6) | (have z := (c7 : Dm); clear z c7; intro c7; try simp only [noR] at c7) | (have z := (c8 : Dm); clear z c8; intro c8; try simp only [noR] at c8)) <;> (try simp -implicitDefEqProofs -dsimp (maxSteps := 2000000) (disch := (first | exact dz | fail)) only [go_sem, c8, c7, c6, c5, c4, c3, c2, c1, h0, h6, hlt])))) <;> (try with_reducible and_intros) <;> (first | exact fz | skip)
    · have : 0 < s.length := List.length_pos_iff.2 c1
      have e : (decide ((s.length : Int) ≤ 7)) = nameB s := by
        rw [Bool.eq_iff_iff]; simp [nameB, hg]; omega
      rw [e]
    · rfl
theorem layName_eq (s : List UInt8) (Q : AV → Mem → Prop) (hs : s.length ≤ 4294967296) (hf : Fits en m.length) : WC Tryd.prog pol en (.func 70) [tx s] m Q = Q (bo (nameB s)) m := (layName_ok s hs hf).rule Q
theorem notName_eq (s : List UInt8) (Q : AV → Mem → Prop) (hs : s.length ≤ 4294967296) (hf : Fits en m.length) : WC Tryd.prog pol en (.func 69) [tx s] m Q = Q (bo (!nameB s)) m := by
  refine WC.rule ?_ Q
  refine callPur Tryd.func69 rfl rfl Tryd.ntmps69 Tryd.results69 ?_
  (have hq1 : Dm := ⟨⟩; have hq2 : Dm := ⟨⟩; have hq3 : Dm := ⟨⟩; have hq4 : Dm := ⟨⟩; have hq5 : Dm := ⟨⟩; have hq6 : Dm := ⟨⟩) <;> (try simp -implicitDefEqProofs -dsimp (maxSteps := 2000000) (disch := (first | exact dz | fail)) only [go_sem, layName_eq]) <;> (repeat' (first | ((with_reducible refine ds_and ?_ ?_); focus exact kz) | ((with_reducible refine And.intro ?_ ?_); focus exact oz) | ((with_reducible refine pc_and ?_ ?_); focus exact pz) | ((first | with_reducible refine gIf_t ?_ ?_ | with_reducible refine gIf_f ?_ ?_ | with_reducible refine ite_t ?_ ?_ | with_reducible refine ite_p ?_ ?_) <;> (first | (have z := (hq1 : Dm); clear z hq1; intro hq1; try simp only [noR] at hq1) | (have z := (hq2 : Dm); clear z hq2; intro hq2; try simp only [noR] at hq2) | (have z := (hq3 : Dm); clear z hq3; intro hq3; try simp only [noR] at hq3) | (have z := (hq4 : Dm); clear z hq4; intro hq4; try simp only [noR] at hq4) | (have z := (hq5 : Dm); clear z hq5; intro hq5; try simp only [noR] at hq5) | (have z := (hq6 : Dm); clear z hq6; intro hq6; try simp only [noR] at hq6)) <;> (try simp -implicitDefEqProofs -dsimp (maxSteps := 2000000) (disch := (first | exact dz | fail)) only [go_sem, hq6, hq5, hq4, hq3, hq2, hq1, layName_eq])))) <;> (try with_reducible and_intros) <;> (first | exact fz | skip)
/-- Where the first text is that is no name. -/
def badAt (l : List (List UInt8)) : Int := match l.findIdx? (fun s => !nameB s) with | some i => i | none => -1
theorem badAt_iff (l : List (List UInt8)) : 0 ≤ badAt l ↔ l.all nameB = false := by
  unfold badAt
  cases h : l.findIdx? (fun s => !nameB s) with
  | none =>
    rw [List.findIdx?_eq_none_iff] at h
    simp only [List.all_eq_false]
    constructor
    · intro h1; omega
    · rintro ⟨s, hs, h1⟩
      have := h s hs
      simp at this; rw [this] at h1; exact (h1 rfl).elim
  | some i =>
    rw [List.findIdx?_eq_some_iff_getElem] at h
    obtain ⟨hi, h1, _⟩ := h
    simp only [List.all_eq_false]
    constructor
    · intro _; exact ⟨l[i], List.getElem_mem hi, by simpa using h1⟩
    · intro _; omega
theorem indexNames_ok {l : List (List UInt8)} {id ver : Nat} (hid : m[id]? = some (.cells ver (l.map tx))) (hl : l.length < 4294967296) (hs : ∀ s ∈ l, s.length ≤ 4294967296) (hf : Fits en m.length) :
    WC Tryd.prog pol en (.func 78) [.own id ver 0 l.length 1, .clo (.func 69) [] []] m fun v m' => v = I (badAt l) ∧ m' = m := by
  refine callPur Tryd.func78 rfl rfl Tryd.ntmps78 Tryd.results78 ?_
  (have hq1 : Dm := ⟨⟩; have hq2 : Dm := ⟨⟩; have hq3 : Dm := ⟨⟩; have hq4 : Dm := ⟨⟩; have hq5 : Dm := ⟨⟩; have hq6 : Dm := ⟨⟩) <;> (try simp -implicitDefEqProofs -dsimp (maxSteps := 2000000) (disch := (first | exact dz | fail)) only [go_sem, ]) <;> (repeat' (first | ((with_reducible refine ds_and ?_ ?_); focus exact kz) | ((with_reducible refine And.intro ?_ ?_); focus exact oz) | ((with_reducible refine pc_and ?_ ?_); focus exact pz) | ((first | with_reducible refine gIf_t ?_ ?_ | with_reducible refine gIf_f ?_ ?_ | with_reducible refine ite_t ?_ ?_ | with_reducible refine ite_p ?_ ?_) <;> (first | (have z := (hq1 : Dm); clear z hq1; intro hq1; try simp only [noR] at hq1) | (have z := (hq2 : Dm); clear z hq2; intro hq2; try simp only [noR] at hq2) | (have z := (hq3 : Dm); clear z hq3; intro hq3; try simp only [noR] at hq3) | (have z := (hq4 : Dm); clear z hq4; intro hq4; try simp only [noR] at hq4) | (have z := (hq5 : Dm); clear z hq5; intro hq5; try simp only [noR] at hq5) | (have z := (hq6 : Dm); clear z hq6; intro hq6; try simp only [noR] at hq6)) <;> (try simp -implicitDefEqProofs -dsimp (maxSteps := 2000000) (disch := (first | exact dz | fail)) only [go_sem, hq6, hq5, hq4, hq3, hq2, hq1])))) <;> (try with_reducible and_intros) <;> (first | exact fz | skip)
  refine loopF (fun k ts m' => ∃ (i : Nat), ts.length = 19 ∧ tg ts 0 = .own id ver 0 l.length 1 ∧ tg ts 1 = .clo (.func 69) [] [] ∧ tg ts 7 = I l.length ∧ tg ts 8 = I i ∧ m' = m ∧ (∀ j s, j < i → l[j]? = some s → nameB s = true) ∧ i ≤ l.length ∧ k = l.length - i) l.length ⟨0, rfl, rfl, rfl, rfl, rfl, rfl, fun j s hj => by omega, by omega, by omega⟩ ?_
  rintro k ts m' ⟨i, hln, h0, h1, h7, h8, rfl, hg, hi, rfl⟩
  rw [expandT hln]
  by_cases hlt : (i : Int) < (l.length : Int)
  · obtain ⟨s, hsi⟩ : ∃ s, l[i]? = some s := ⟨_, List.getElem?_eq_getElem (by omega)⟩
    have hsl := hs s (List.mem_of_getElem? hsi)
    (have c1 : Dm := ⟨⟩; have c2 : Dm := ⟨⟩; have c3 : Dm := ⟨⟩; have c4 : Dm := ⟨⟩; have c5 : Dm := ⟨⟩; have c6 : Dm := ⟨⟩) <;> (try simp -implicitDefEqProofs -dsimp (maxSteps := 2000000) (disch := (first | exact dz | fail)) only [go_sem, h0, h1, h7, h8, hlt, hid, List.getElem?_map, hsi, notName_eq]) <;> (repeat' (first | ((with_reducible refine ds_and ?_ ?_); focus exact kz) | ((with_reducible refine And.intro ?_ ?_); focus exact oz) | ((with_reducible refine pc_and ?_ ?_); focus exact pz) | ((first | with_reducible refine gIf_t ?_ ?_ | with_reducible refine gIf_f ?_ ?_ | with_reducible refine ite_t ?_ ?_ | with_reducible refine ite_p ?_ ?_) <;> (first | (have z := (c1 : Dm); clear z c1; intro c1; try simp only [noR] at c1) | (have z := (c2 : Dm); clear z c2; intro c2; try simp only [noR] at c2) | (have z := (c3 : Dm); clear z c3; intro c3; try simp only [noR] at c3) | (have z := (c4 : Dm); clear z c4; intro c4; try simp only [noR] at c4) | (have z := (c5 : Dm); clear z c5; intro c5; try simp only [noR] at c5) | (have z := (c6 : Dm); clear z c6; intro c6; try simp only [noR] at c6)) <;> (try simp -implicitDefEqProofs -dsimp (maxSteps := 2000000) (disch := (first | exact dz | fail)) only [go_sem, c6, c5, c4, c3, c2, c1, h0, h1, h7, h8, hlt, hid, List.getElem?_map, hsi, notName_eq])))) <;> (try with_reducible and_intros) <;> (first | exact fz | skip)
    · have : badAt l = i := by
        have hf2 : l.findIdx? (fun s => !nameB s) = some i := by
          rw [List.findIdx?_eq_some_iff_getElem]
          refine ⟨by omega, ?_, fun j hj => ?_⟩
          · have : l[i] = s := (List.getElem?_eq_some_iff.1 hsi).2
            rw [this]; simpa using c1
          · have := hg j _ hj (List.getElem?_eq_getElem (by omega))
            simp [this]
        unfold badAt
        rw [hf2]
      rw [this]
    · refine ⟨_, by omega, i + 1, rfl, fun j s' hj hs' => ?_, by omega, rfl⟩
      rcases Nat.lt_or_ge j i with h | h
      · exact hg j s' h hs'
      · obtain rfl : j = i := by omega
        rw [hsi] at hs'; cases hs'; simpa using c1
  · (have c1 : Dm := ⟨⟩; have c2 : Dm := ⟨⟩; have c3 : Dm := ⟨⟩; have c4 : Dm := ⟨⟩; have c5 : Dm := ⟨⟩; have c6 : Dm := ⟨⟩) <;> (try simp -implicitDefEqProofs -dsimp (maxSteps := 2000000) (disch := (first | exact dz | fail)) only [go_sem, h0, h1, h7, h8, hlt]) <;> (repeat' (first | ((with_reducible refine ds_and ?_ ?_); focus exact kz) | ((with_reducible refine And.intro ?_ ?_); focus exact oz) | ((with_reducible refine pc_and ?_ ?_); focus exact pz) | ((first | with_reducible refine gIf_t ?_ ?_ | with_reducible refine gIf_f ?_ ?_ | with_reducible refine ite_t ?_ ?_ | with_reducible refine ite_p ?_ ?_) <;> (first | (have z := (c1 : Dm); clear z c1; intro c1; try simp only [noR] at c1) | (have z := (c2 : Dm); clear z c2; intro c2; try simp only [noR] at c2) | (have z := (c3 : Dm); clear z c3; intro c3; try simp only [noR] at c3) | (have z := (c4 : Dm); clear z c4; intro c4; try simp only [noR] at c4) | (have z := (c5 : Dm); clear z c5; intro c5; try simp only [noR] at c5) | (have z := (c6 : Dm); clear z c6; intro c6; try simp only [noR] at c6)) <;> (try simp -implicitDefEqProofs -dsimp (maxSteps := 2000000) (disch := (first | exact dz | fail)) only [go_sem, c6, c5, c4, c3, c2, c1, h0, h1, h7, h8, hlt])))) <;> (try with_reducible and_intros) <;> (first | exact fz | skip)
    have : badAt l = -1 := by
      unfold badAt
      rw [List.findIdx?_eq_none_iff.2]
      intro s hs
      obtain ⟨j, hj⟩ := List.getElem?_of_mem hs
      have := hg j s (by have := (List.getElem?_eq_some_iff.1 hj).1; omega) hj
      simp [this]
    rw [this]
theorem containsNames_eq {l : List (List UInt8)} {id ver n : Nat} (Q : AV → Mem → Prop) (hid : m[id]? = some (.cells ver (l.map tx))) (hn : n = l.length) (hl : l.length < 4294967296) (hs : ∀ s ∈ l, s.length ≤ 4294967296) (hf : Fits en m.length) :
    WC Tryd.prog pol en (.func 68) [.own id ver 0 n 1, .clo (.func 69) [] []] m Q = Q (bo (!l.all nameB)) m := by
  subst hn
  refine WC.rule ?_ Q
  have h0 := fun (en : Env) Q (hf : Fits en m.length) => (indexNames_ok (m := m) (en := en) hid hl hs hf).rule Q
  refine callPur Tryd.func68 rfl rfl Tryd.ntmps68 Tryd.results68 ?_
  (have hq1 : Dm := ⟨⟩; have hq2 : Dm := ⟨⟩; have hq3 : Dm := ⟨⟩; have hq4 : Dm := ⟨⟩; have hq5 : Dm := ⟨⟩; have hq6 : Dm := ⟨⟩) <;> (try simp -implicitDefEqProofs -dsimp (maxSteps := 2000000) (disch := (first | exact dz | fail)) only [go_sem, h0]) <;> (repeat' (first | ((with_reducible refine ds_and ?_ ?_); focus exact kz) | ((with_reducible refine And.intro ?_ ?_); focus exact oz) | ((with_reducible refine pc_and ?_ ?_); focus exact pz) | ((first | with_reducible refine gIf_t ?_ ?_ | with_reducible refine gIf_f ?_ ?_ | with_reducible refine ite_t ?_ ?_ | with_reducible refine ite_p ?_ ?_) <;> (first | (have z := (hq1 : Dm); clear z hq1; intro hq1; try simp only [noR] at hq1) | (have z := (hq2 : Dm); clear z hq2; intro hq2; try simp only [noR] at hq2) | (have z := (hq3 : Dm); clear z hq3; intro hq3; try simp only [noR] at hq3) | (have z := (hq4 : Dm); clear z hq4; intro hq4; try simp only [noR] at hq4) | (have z := (hq5 : Dm); clear z hq5; intro hq5; try simp only [noR] at hq5) | (have z := (hq6 : Dm); clear z hq6; intro hq6; try simp only [noR] at hq6)) <;> (try simp -implicitDefEqProofs -dsimp (maxSteps := 2000000) (disch := (first | exact dz | fail)) only [go_sem, hq6, hq5, hq4, hq3, hq2, hq1, h0])))) <;> (try with_reducible and_intros) <;> (first | exact fz | skip)
  have h := badAt_iff l
  cases hq : l.all nameB with
  | true => have : ¬0 ≤ badAt l := fun h1 => by rw [h.1 h1] at hq; cases hq
            simp [this]
  | false => have : 0 ≤ badAt l := h.2 hq
             simp [this]
end
end Go.Proofs.YtcmjidnbbfcbjaaDoor.V
/- Paths' names, of the program; no condition. -/
namespace Go.Proofs.YtcmjidnbbfcbjaaDoor.V
open Go
set_option linter.unusedVariables false
set_option linter.unusedSimpArgs false
set_option maxRecDepth 100000
set_option maxHeartbeats 4000000
noncomputable section
variable {en : Env} {m : Mem}
theorem encL_lo {c : UInt8} (h : c.toNat < 128) : encL (c.toNat : Int) = [c] := by
  have hv : Utf8.valid (c.toNat : Int) = true := by simp [Utf8.valid]; omega
  simp [encL, Utf8.encode, hv, h]
theorem encL_hi {n : Int} (h : 128 ≤ n) : (encL n).length ≤ 4 ∧ ∃ b ∈ encL n, 128 ≤ b.toNat := by
  unfold encL Utf8.encode
  simp only
  generalize hc : (if Utf8.valid n = true then n.toNat else Utf8.runeError) = c
  have hge : 128 ≤ c := by
    subst hc
    split
    · omega
    · simp [Utf8.runeError]
  rw [if_neg (by omega)]
  split
  · refine ⟨by simp, UInt8.ofNat (0xC0 + c / 64), by simp, ?_⟩
    rw [UInt8.toNat_ofNat']; omega
  · split
    · refine ⟨by simp, UInt8.ofNat (0x80 + c % 64), by simp, ?_⟩
      rw [UInt8.toNat_ofNat']; omega
    · refine ⟨by simp, UInt8.ofNat (0x80 + c % 64), by simp, ?_⟩
      rw [UInt8.toNat_ofNat']; omega
theorem stepS_ne (o : List (List UInt8)) (c : UInt8) (h : o ≠ []) : stepS o c ≠ [] := by
  unfold stepS; split
  · simp
  · intro e; have := congrArg List.length e; simp at this; exact h this
theorem mem_last {o : List (List UInt8)} (h : o ≠ []) (y : List UInt8) : y ∈ o.set (o.length - 1) y := by
  have : 0 < o.length := List.length_pos_iff.2 h
  rw [List.mem_iff_getElem?]
  exact ⟨o.length - 1, by rw [List.getElem?_set_self (by omega)]⟩
theorem stepS_keep {o : List (List UInt8)} {c x : UInt8} (h : ∃ s ∈ o, x ∈ s) : ∃ s ∈ stepS o c, x ∈ s := by
  obtain ⟨s, hs, hx⟩ := h
  unfold stepS
  split
  · exact ⟨s, by simp [hs], hx⟩
  · obtain ⟨i, hi⟩ := List.getElem?_of_mem hs
    have hlt := (List.getElem?_eq_some_iff.1 hi).1
    by_cases he : i = o.length - 1
    · refine ⟨o.getD (o.length - 1) [] ++ [c], mem_last (by rintro rfl; simp at hs) _, ?_⟩
      rw [List.getD_eq_getElem?_getD, ← he, hi]; simp [hx]
    · refine ⟨s, ?_, hx⟩
      rw [List.mem_iff_getElem?]
      exact ⟨i, by rw [List.getElem?_set_ne (by omega)]; exact hi⟩
theorem fold_keep {x : UInt8} : ∀ (l : List UInt8) (o : List (List UInt8)), (∃ s ∈ o, x ∈ s) → ∃ s ∈ l.foldl stepS o, x ∈ s
  | [], _, h => h
  | c :: l, o, h => fold_keep l (stepS o c) (stepS_keep h)
theorem fold_mem {x : UInt8} : ∀ (l : List UInt8) (o : List (List UInt8)), o ≠ [] → x ∈ l → x = 47 ∨ ∃ s ∈ l.foldl stepS o, x ∈ s
  | [], _, _, h => by simp at h
  | c :: l, o, ho, h => by
    rw [List.mem_cons] at h
    rcases h with rfl | h
    · by_cases h47 : x = 47
      · exact Or.inl h47
      · right
        refine fold_keep l _ ⟨o.getD (o.length - 1) [] ++ [x], ?_, by simp⟩
        rw [stepS, if_neg h47]; exact mem_last ho _
    · exact fold_mem l (stepS o c) (stepS_ne o c ho) h
def tot (o : List (List UInt8)) : Nat := (o.map fun s => s.length + 1).sum
theorem tot_append (a b : List (List UInt8)) : tot (a ++ b) = tot a + tot b := by simp [tot]
theorem stepS_tot {o : List (List UInt8)} (c : UInt8) (h : o ≠ []) : tot (stepS o c) = tot o + 1 := by
  unfold stepS
  split
  · rw [tot_append]; rfl
  · obtain ⟨o', a, rfl⟩ : ∃ o' a, o = o' ++ [a] := ⟨o.dropLast, o.getLast h, (List.dropLast_concat_getLast h).symm⟩
    have e : (o' ++ [a]).length - 1 = o'.length := by simp
    rw [e, List.set_append_right _ _ (Nat.le_refl _), Nat.sub_self, List.set_cons_zero, List.getD_eq_getElem?_getD, List.getElem?_append_right (Nat.le_refl _), Nat.sub_self]
    rw [tot_append, tot_append]
    simp [tot]; omega
theorem fold_tot : ∀ (l : List UInt8) (o : List (List UInt8)), o ≠ [] → tot (l.foldl stepS o) = tot o + l.length
  | [], _, _ => rfl
  | c :: l, o, h => by rw [List.foldl_cons, fold_tot l _ (stepS_ne o c h), stepS_tot c h, List.length_cons]; omega
theorem segs_cons {p : List UInt8} (h : p.head? = some 47) : ∃ l, p = 47 :: l ∧ segs p = l.foldl stepS [[]] := by
  cases p with
  | nil => simp at h
  | cons c l => simp at h; subst h; exact ⟨l, rfl, rfl⟩
theorem segs_tot {p : List UInt8} (h : p.head? = some 47) : tot (segs p) = p.length := by
  obtain ⟨l, rfl, e⟩ := segs_cons h
  rw [e, fold_tot l _ (by simp)]; simp [tot]; omega
theorem segs_mem {p : List UInt8} (h : p.head? = some 47) {x : UInt8} (hx : x ∈ p) : x = 47 ∨ ∃ s ∈ segs p, x ∈ s := by
  obtain ⟨l, rfl, e⟩ := segs_cons h
  rw [List.mem_cons] at hx
  rcases hx with rfl | hx
  · exact Or.inl rfl
  · rw [e]; exact fold_mem l _ (by simp) hx
theorem segs_ne {p : List UInt8} (h : p.head? = some 47) : segs p ≠ [] := by
  intro e
  have h1 := segs_tot h
  rw [e] at h1
  cases p <;> simp_all [tot]
theorem tot_le : ∀ (o : List (List UInt8)), o.all nameB = true → tot o ≤ o.length * 8
  | [], _ => by simp [tot]
  | s :: o, h => by
    rw [List.all_cons, Bool.and_eq_true] at h
    have h1 := tot_le o h.2
    have h2 : s.length ≤ 7 := by have := h.1; simp only [nameB, Bool.and_eq_true, decide_eq_true_eq] at this; omega
    have e : tot (s :: o) = (s.length + 1) + tot o := by simp [tot]
    rw [e, List.length_cons, Nat.succ_mul]; omega
/-- What the program tells of a text, cut at its '/'. -/
theorem splitL_yes {p : List UInt8} (hne : p ≠ [47]) (h : p.head? = some 47) (hn : (segs p).all nameB = true) (hl : (segs p).length ≤ 4) : splitL p = some (segs p) := by
  rw [splitL, if_neg hne, if_pos]
  refine ⟨?_, h, hn, hl⟩
  have h1 := segs_tot h
  have h2 := tot_le _ hn
  omega
theorem splitL_no {p : List UInt8} (hne : p ≠ [47]) (h : ¬(p.head? = some 47 ∧ (segs p).all nameB = true ∧ (segs p).length ≤ 4)) : splitL p = none := by
  rw [splitL, if_neg hne, if_neg]
  rintro ⟨_, h1, h2, h3⟩
  exact h ⟨h1, h2, h3⟩
theorem splitL_hi {p : List UInt8} (hne : p ≠ [47]) (h : ∃ x ∈ p, 128 ≤ x.toNat) : splitL p = none := by
  refine splitL_no hne ?_
  rintro ⟨h1, h2, _⟩
  obtain ⟨x, hx, h128⟩ := h
  rcases segs_mem h1 hx with rfl | ⟨s, hs, hxs⟩
  · simp at h128
  · rw [List.all_eq_true] at h2
    have := h2 s hs
    simp only [nameB, Bool.and_eq_true, List.all_eq_true] at this
    have := okB_lt (this.1 x hxs)
    omega
theorem nameB_hi {o : List (List UInt8)} (h : ∃ s ∈ o, ∃ x ∈ s, 128 ≤ x.toNat) : o.all nameB = false := by
  obtain ⟨s, hs, x, hx, h128⟩ := h
  rw [List.all_eq_false]
  refine ⟨s, hs, fun hq => ?_⟩
  simp only [nameB, Bool.and_eq_true, List.all_eq_true] at hq
  have := okB_lt (hq.1 x hx)
  omega
end
end Go.Proofs.YtcmjidnbbfcbjaaDoor.V
/- The program's Split of a path; no condition. -/
namespace Go.Proofs.YtcmjidnbbfcbjaaDoor.V
open Go
set_option linter.unusedVariables false
set_option linter.unusedSimpArgs false
set_option maxRecDepth 100000
set_option maxHeartbeats 4000000
noncomputable section
variable {en : Env} {m : Mem}
structure SpS (p : List UInt8) (i c : Nat) (o : List (List UInt8)) : Prop where
  ci : c ≤ i
  cp : c ≤ p.length
  ol : o.length ≤ c
  sl : ∀ s ∈ o, s.length ≤ 4 * c
  st : (i ≤ p.length ∧ o = segs (p.take i) ∧ (i = 0 ∨ p.head? = some 47 ∧ o ≠ [])) ∨ (0 < i ∧ o ≠ [] ∧ (∃ s ∈ o, ∃ x ∈ s, 128 ≤ x.toNat) ∧ (∃ x ∈ p, 128 ≤ x.toNat))
theorem SpS.slash {p : List UInt8} {i c : Nat} {o : List (List UInt8)} (h : SpS p i c o) (hc : p[i]? = some 47) : SpS p (i + 1) (c + 1) (o ++ [[]]) := by
  have hi : i < p.length := (List.getElem?_eq_some_iff.1 hc).1
  obtain ⟨h1, h2, h3, h4, h5⟩ := h
  refine ⟨by omega, by omega, by simp; omega, fun s hs => ?_, ?_⟩
  · rw [List.mem_append] at hs
    rcases hs with hs | hs
    · have := h4 s hs; omega
    · simp at hs; subst hs; simp
  · rcases h5 with ⟨a, b, d⟩ | ⟨a, b, ⟨s, hs, d⟩, e⟩
    · left
      refine ⟨by omega, ?_, Or.inr ⟨?_, by simp⟩⟩
      · rw [segs_take hc, stepS, if_pos rfl, b]
      · rcases d with rfl | d
        · rw [List.head?_eq_getElem?]; exact hc
        · exact d.1
    · right; exact ⟨by omega, by simp, ⟨s, by simp [hs], d⟩, e⟩
theorem set_len {o : List (List UInt8)} {c : Nat} {y : List UInt8} (h4 : ∀ s ∈ o, s.length ≤ 4 * c) (hy : y.length ≤ 4) : ∀ s ∈ o.set (o.length - 1) (o.getD (o.length - 1) [] ++ y), s.length ≤ 4 * (c + 1) := by
  intro s hs
  rcases List.mem_or_eq_of_mem_set hs with hs | rfl
  · have := h4 s hs; omega
  · have : (o.getD (o.length - 1) []).length ≤ 4 * c := by
      rw [List.getD_eq_getElem?_getD]
      cases hq : o[o.length - 1]? with
      | none => simp
      | some a => exact h4 a (List.mem_of_getElem? hq)
    rw [List.length_append]; omega
theorem hi_keep {o : List (List UInt8)} {y : List UInt8} (h : ∃ s ∈ o, ∃ x ∈ s, 128 ≤ x.toNat) : ∃ s ∈ o.set (o.length - 1) (o.getD (o.length - 1) [] ++ y), ∃ x ∈ s, 128 ≤ x.toNat := by
  obtain ⟨s, hs, x, hx, h128⟩ := h
  obtain ⟨i, hi⟩ := List.getElem?_of_mem hs
  have hlt := (List.getElem?_eq_some_iff.1 hi).1
  by_cases he : i = o.length - 1
  · refine ⟨o.getD (o.length - 1) [] ++ y, mem_last (by rintro rfl; simp at hs) _, x, ?_, h128⟩
    rw [List.getD_eq_getElem?_getD, ← he, hi]; simp [hx]
  · refine ⟨s, ?_, x, hx, h128⟩
    rw [List.mem_iff_getElem?]
    exact ⟨i, by rw [List.getElem?_set_ne (by omega)]; exact hi⟩
theorem SpS.lo {p : List UInt8} {i c : Nat} {o : List (List UInt8)} (h : SpS p i c o) {b : UInt8} (hc : p[i]? = some b) (h47 : b ≠ 47) (ho : o ≠ []) : SpS p (i + 1) (c + 1) (o.set (o.length - 1) (o.getD (o.length - 1) [] ++ [b])) := by
  have hi : i < p.length := (List.getElem?_eq_some_iff.1 hc).1
  obtain ⟨h1, h2, h3, h4, h5⟩ := h
  refine ⟨by omega, by omega, by simp; omega, set_len h4 (by simp), ?_⟩
  have hne : o.set (o.length - 1) (o.getD (o.length - 1) [] ++ [b]) ≠ [] := by intro e; have := congrArg List.length e; simp at this; exact ho this
  rcases h5 with ⟨a, b', d⟩ | ⟨a, b', d, e⟩
  · left
    refine ⟨by omega, ?_, Or.inr ⟨?_, hne⟩⟩
    · rw [segs_take hc, stepS, if_neg h47, ← b']
    · rcases d with rfl | d
      · exact (ho (by rw [b']; rfl)).elim
      · exact d.1
  · right; exact ⟨by omega, hne, hi_keep d, e⟩
theorem SpS.hi {p : List UInt8} {i c w : Nat} {o : List (List UInt8)} (h : SpS p i c o) {b : UInt8} (hc : p[i]? = some b) (hb : 128 ≤ b.toNat) (hw : 1 ≤ w) (ho : o ≠ []) {y : List UInt8} (hy : y.length ≤ 4) (hy2 : ∃ x ∈ y, 128 ≤ x.toNat) : SpS p (i + w) (c + 1) (o.set (o.length - 1) (o.getD (o.length - 1) [] ++ y)) := by
  have hi : i < p.length := (List.getElem?_eq_some_iff.1 hc).1
  obtain ⟨h1, h2, h3, h4, h5⟩ := h
  refine ⟨by omega, by omega, by simp; omega, set_len h4 hy, Or.inr ⟨by omega, ?_, ?_, b, List.mem_of_getElem? hc, hb⟩⟩
  · intro e; have := congrArg List.length e; simp at this; exact ho this
  · obtain ⟨x, hx, h128⟩ := hy2
    exact ⟨_, mem_last ho _, x, by simp [hx], h128⟩
theorem treeSplit_ok (p : List UInt8) (hp : p.length ≤ 1073741824) (hf : Fits en m.length) : WC Tryd.prog pol en (.func 61) [tx p] m fun v m' => v = splitA (splitL p) ∧ m' = m := by
  refine callPur Tryd.func61 rfl rfl Tryd.ntmps61 Tryd.results61 ?_
  (have hq1 : Dm := ⟨⟩; have hq2 : Dm := ⟨⟩; have hq3 : Dm := ⟨⟩; have hq4 : Dm := ⟨⟩; have hq5 : Dm := ⟨⟩; have hq6 : Dm := ⟨⟩) <;> (try simp -implicitDefEqProofs -dsimp (maxSteps := 2000000) (disch := (first | exact dz | fail)) only [go_sem, ]) <;> (repeat' (first | ((with_reducible refine ds_and ?_ ?_); focus exact kz) | ((with_reducible refine And.intro ?_ ?_); focus exact oz) | ((with_reducible refine pc_and ?_ ?_); focus exact pz) | ((first | with_reducible refine gIf_t ?_ ?_ | with_reducible refine gIf_f ?_ ?_ | with_reducible refine ite_t ?_ ?_ | with_reducible refine ite_p ?_ ?_) <;> (first | (have z := (hq1 : Dm); clear z hq1; intro hq1; try simp only [noR] at hq1) | (have z := (hq2 : Dm); clear z hq2; intro hq2; try simp only [noR] at hq2) | (have z := (hq3 : Dm); clear z hq3; intro hq3; try simp only [noR] at hq3) | (have z := (hq4 : Dm); clear z hq4; intro hq4; try simp only [noR] at hq4) | (have z := (hq5 : Dm); clear z hq5; intro hq5; try simp only [noR] at hq5) | (have z := (hq6 : Dm); clear z hq6; intro hq6; try simp only [noR] at hq6)) <;> (try simp -implicitDefEqProofs -dsimp (maxSteps := 2000000) (disch := (first | exact dz | fail)) only [go_sem, hq6, hq5, hq4, hq3, hq2, hq1])))) <;> (try with_reducible and_intros) <;> (first | exact fz | skip)
  · simp [splitL, hq1, splitA, sl]
  refine loopF (fun k ts m' => ∃ (i c : Nat) (o : List (List UInt8)) (v : AV), ts.length = 50 ∧ tg ts 0 = tx p ∧ tg ts 4 = kv v ∧ tg ts 12 = .it m.length ∧ SpS p i c o ∧ ((o = [] ∧ v = .lst 0 [] true ∧ m' = m ++ [.iter ⟨⟨p⟩⟩ i]) ∨ (o ≠ [] ∧ ∃ ver, v = .own (m.length + 1) ver 0 o.length 1 ∧ m' = m ++ [.iter ⟨⟨p⟩⟩ i, .cells ver (o.map tx)])) ∧ k = p.length - i) p.length ⟨0, 0, [], _, rfl, rfl, rfl, rfl, ⟨by omega, by omega, by simp, by simp, Or.inl ⟨by omega, rfl, Or.inl rfl⟩⟩, Or.inl ⟨rfl, rfl, rfl⟩, by omega⟩ ?_
  rintro k ts m' ⟨i, c, o, v, hl, h0, h4, h12, hs, hv, rfl⟩
  rw [expandT hl]
  by_cases hlt : i < p.length
  · obtain ⟨b, hb⟩ : ∃ b, p[i]? = some b := ⟨_, List.getElem?_eq_getElem hlt⟩
    have hol := hs.ol
    have hcp := hs.cp
    by_cases hlo : b.toNat < 128
    · have hd := dec_lo hb hlo
      have he := encL_lo hlo
      have hb47 : (b.toNat : Int) = 47 → p[i]? = some 47 := fun h => by rw [hb, u8_47.1 h]
      rcases hv with ⟨rfl, rfl, rfl⟩ | ⟨ho, ver, rfl, rfl⟩
      · obtain rfl : i = 0 := by
          rcases hs.st with ⟨_, _, h | h⟩ | h
          · exact h
          · exact (h.2 rfl).elim
          · exact (h.2.1 rfl).elim
        (have e1 : Dm := ⟨⟩; have e2 : Dm := ⟨⟩; have e3 : Dm := ⟨⟩; have e4 : Dm := ⟨⟩; have e5 : Dm := ⟨⟩; have e6 : Dm := ⟨⟩) <;> (try simp -implicitDefEqProofs -dsimp (maxSteps := 2000000) (disch := (first | exact dz | fail)) only [go_sem, h0, h4, h12, hlt, hd, he, kv]) <;> (repeat' (first | ((with_reducible refine ds_and ?_ ?_); focus exact kz) | ((with_reducible refine And.intro ?_ ?_); focus exact oz) | ((with_reducible refine pc_and ?_ ?_); focus exact pz) | ((first | with_reducible refine gIf_t ?_ ?_ | with_reducible refine gIf_f ?_ ?_ | with_reducible refine ite_t ?_ ?_ | with_reducible refine ite_p ?_ ?_) <;> (first | (have z := (e1 : Dm); clear z e1; intro e1; try simp only [noR] at e1) | (have z := (e2 : Dm); clear z e2; intro e2; try simp only [noR] at e2) | (have z := (e3 : Dm); clear z e3; intro e3; try simp only [noR] at e3) | (have z := (e4 : Dm); clear z e4; intro e4; try simp only [noR] at e4) | (have z := (e5 : Dm); clear z e5; intro e5; try simp only [noR] at e5) | (have z := (e6 : Dm); clear z e6; intro e6; try simp only [noR] at e6)) <;> (try simp -implicitDefEqProofs -dsimp (maxSteps := 2000000) (disch := (first | exact dz | fail)) only [go_sem, e6, e5, e4, e3, e2, e1, h0, h4, h12, hlt, hd, he, kv])))) <;> (try with_reducible and_intros) <;> (first | exact fz | skip)
        · exact ⟨_, by omega, 1, c + 1, [[]], _, rfl, hs.slash (hb47 e1), Or.inr ⟨by simp, _, rfl, rfl⟩, rfl⟩
        · rw [splitL_no hq1]
          · rfl
          · rintro ⟨h, _⟩
            rw [List.head?_eq_getElem?, hb] at h
            exact e1 (by cases h; rfl)
      · have hsl : 0 < o.length := List.length_pos_iff.2 ho
        have hi0 : ¬(i : Int) = 0 := by
          intro h
          rcases hs.st with ⟨_, h2, _⟩ | h2
          · rw [show i = 0 by omega] at h2; exact ho h2
          · omega
        have hw : IntKind.i64.wrap ((o.length : Int) - 1) = ((o.length - 1 : Nat) : Int) := by rw [i64w (by omega)]; omega
        have hget : o[o.length - 1]? = some (o.getD (o.length - 1) []) := by
          rw [List.getD_eq_getElem?_getD, List.getElem?_eq_getElem (by omega)]; rfl
        have hgl : (o.getD (o.length - 1) []).length ≤ 4294967296 := by have := hs.sl _ (List.mem_of_getElem? hget); omega
        (have e1 : Dm := ⟨⟩; have e2 : Dm := ⟨⟩; have e3 : Dm := ⟨⟩; have e4 : Dm := ⟨⟩; have e5 : Dm := ⟨⟩; have e6 : Dm := ⟨⟩) <;> (try simp -implicitDefEqProofs -dsimp (maxSteps := 2000000) (disch := (first | exact dz | fail)) only [go_sem, h0, h4, h12, hlt, hd, he, kv, hi0, hw, List.getElem?_map, hget]) <;> (repeat' (first | ((with_reducible refine ds_and ?_ ?_); focus exact kz) | ((with_reducible refine And.intro ?_ ?_); focus exact oz) | ((with_reducible refine pc_and ?_ ?_); focus exact pz) | ((first | with_reducible refine gIf_t ?_ ?_ | with_reducible refine gIf_f ?_ ?_ | with_reducible refine ite_t ?_ ?_ | with_reducible refine ite_p ?_ ?_) <;> (first | (have z := (e1 : Dm); clear z e1; intro e1; try simp only [noR] at e1) | (have z := (e2 : Dm); clear z e2; intro e2; try simp only [noR] at e2) | (have z := (e3 : Dm); clear z e3; intro e3; try simp only [noR] at e3) | (have z := (e4 : Dm); clear z e4; intro e4; try simp only [noR] at e4) | (have z := (e5 : Dm); clear z e5; intro e5; try simp only [noR] at e5) | (have z := (e6 : Dm); clear z e6; intro e6; try simp only [noR] at e6)) <;> (try simp -implicitDefEqProofs -dsimp (maxSteps := 2000000) (disch := (first | exact dz | fail)) only [go_sem, e6, e5, e4, e3, e2, e1, h0, h4, h12, hlt, hd, he, kv, hi0, hw, List.getElem?_map, hget])))) <;> (try with_reducible and_intros) <;> (first | exact fz | skip)
        · exact ⟨_, by omega, i + 1, c + 1, o ++ [[]], _, rfl, hs.slash (hb47 e1), Or.inr ⟨by simp, nextV 10 ver, by simp, by simp⟩, rfl⟩
        · refine ⟨_, by omega, i + 1, c + 1, _, _, rfl, hs.lo hb (fun h => e1 (u8_47.2 h)) ho, Or.inr ⟨?_, ver, by simp, ?_⟩, rfl⟩
          · intro e; have := congrArg List.length e; simp at this; exact ho this
          · simp [List.map_set]
    · have hd := dec_hi hb (by omega)
      have hen := encL_hi (n := ((Utf8.decode ⟨⟨p⟩⟩ i).1 : Int)) (by omega)
      rcases hv with ⟨rfl, rfl, rfl⟩ | ⟨ho, ver, rfl, rfl⟩
      · obtain rfl : i = 0 := by
          rcases hs.st with ⟨_, _, h | h⟩ | h
          · exact h
          · exact (h.2 rfl).elim
          · exact (h.2.1 rfl).elim
        (have e1 : Dm := ⟨⟩; have e2 : Dm := ⟨⟩; have e3 : Dm := ⟨⟩; have e4 : Dm := ⟨⟩; have e5 : Dm := ⟨⟩; have e6 : Dm := ⟨⟩) <;> (try simp -implicitDefEqProofs -dsimp (maxSteps := 2000000) (disch := (first | exact dz | fail)) only [go_sem, h0, h4, h12, hlt, kv]) <;> (repeat' (first | ((with_reducible refine ds_and ?_ ?_); focus exact kz) | ((with_reducible refine And.intro ?_ ?_); focus exact oz) | ((with_reducible refine pc_and ?_ ?_); focus exact pz) | ((first | with_reducible refine gIf_t ?_ ?_ | with_reducible refine gIf_f ?_ ?_ | with_reducible refine ite_t ?_ ?_ | with_reducible refine ite_p ?_ ?_) <;> (first | (have z := (e1 : Dm); clear z e1; intro e1; try simp only [noR] at e1) | (have z := (e2 : Dm); clear z e2; intro e2; try simp only [noR] at e2) | (have z := (e3 : Dm); clear z e3; intro e3; try simp only [noR] at e3) | (have z := (e4 : Dm); clear z e4; intro e4; try simp only [noR] at e4) | (have z := (e5 : Dm); clear z e5; intro e5; try simp only [noR] at e5) | (have z := (e6 : Dm); clear z e6; intro e6; try simp only [noR] at e6)) <;> (try simp -implicitDefEqProofs -dsimp (maxSteps := 2000000) (disch := (first | exact dz | fail)) only [go_sem, e6, e5, e4, e3, e2, e1, h0, h4, h12, hlt, kv])))) <;> (try with_reducible and_intros) <;> (first | exact fz | skip)
        · rw [splitL_no hq1]
          · rfl
          · rintro ⟨h, _⟩
            rw [List.head?_eq_getElem?, hb] at h
            cases h; simp at hlo
      · have hsl : 0 < o.length := List.length_pos_iff.2 ho
        have hi0 : ¬(i : Int) = 0 := by
          intro h
          rcases hs.st with ⟨_, h2, _⟩ | h2
          · rw [show i = 0 by omega] at h2; exact ho h2
          · omega
        have hw : IntKind.i64.wrap ((o.length : Int) - 1) = ((o.length - 1 : Nat) : Int) := by rw [i64w (by omega)]; omega
        have hget : o[o.length - 1]? = some (o.getD (o.length - 1) []) := by
          rw [List.getD_eq_getElem?_getD, List.getElem?_eq_getElem (by omega)]; rfl
        have hgl : (o.getD (o.length - 1) []).length ≤ 4294967296 := by have := hs.sl _ (List.mem_of_getElem? hget); omega
        have hel := hen.1
        (have e1 : Dm := ⟨⟩; have e2 : Dm := ⟨⟩; have e3 : Dm := ⟨⟩; have e4 : Dm := ⟨⟩; have e5 : Dm := ⟨⟩; have e6 : Dm := ⟨⟩) <;> (try simp -implicitDefEqProofs -dsimp (maxSteps := 2000000) (disch := (first | exact dz | fail)) only [go_sem, h0, h4, h12, hlt, kv, hi0, hw, List.getElem?_map, hget]) <;> (repeat' (first | ((with_reducible refine ds_and ?_ ?_); focus exact kz) | ((with_reducible refine And.intro ?_ ?_); focus exact oz) | ((with_reducible refine pc_and ?_ ?_); focus exact pz) | ((first | with_reducible refine gIf_t ?_ ?_ | with_reducible refine gIf_f ?_ ?_ | with_reducible refine ite_t ?_ ?_ | with_reducible refine ite_p ?_ ?_) <;> (first | (have z := (e1 : Dm); clear z e1; intro e1; try simp only [noR] at e1) | (have z := (e2 : Dm); clear z e2; intro e2; try simp only [noR] at e2) | (have z := (e3 : Dm); clear z e3; intro e3; try simp only [noR] at e3) | (have z := (e4 : Dm); clear z e4; intro e4; try simp only [noR] at e4) | (have z := (e5 : Dm); clear z e5; intro e5; try simp only [noR] at e5) | (have z := (e6 : Dm); clear z e6; intro e6; try simp only [noR] at e6)) <;> (try simp -implicitDefEqProofs -dsimp (maxSteps := 2000000) (disch := (first | exact dz | fail)) only [go_sem, e6, e5, e4, e3, e2, e1, h0, h4, h12, hlt, kv, hi0, hw, List.getElem?_map, hget])))) <;> (try with_reducible and_intros) <;> (first | exact fz | skip)
        · refine ⟨p.length - (i + (Utf8.decode ⟨⟨p⟩⟩ i).2), by omega, i + (Utf8.decode ⟨⟨p⟩⟩ i).2, c + 1, _, _, rfl, hs.hi hb (by omega) hd.2.2 ho hen.1 hen.2, Or.inr ⟨?_, ver, by simp, ?_⟩, rfl⟩
          · intro e; have := congrArg List.length e; simp at this; exact ho this
          · simp [List.map_set]
  · have hol := hs.ol
    have hcp := hs.cp
    rcases hv with ⟨rfl, rfl, rfl⟩ | ⟨ho, ver, rfl, rfl⟩
    · (have e1 : Dm := ⟨⟩; have e2 : Dm := ⟨⟩; have e3 : Dm := ⟨⟩; have e4 : Dm := ⟨⟩; have e5 : Dm := ⟨⟩; have e6 : Dm := ⟨⟩) <;> (try simp -implicitDefEqProofs -dsimp (maxSteps := 2000000) (disch := (first | exact dz | fail)) only [go_sem, h0, h4, h12, hlt, kv]) <;> (repeat' (first | ((with_reducible refine ds_and ?_ ?_); focus exact kz) | ((with_reducible refine And.intro ?_ ?_); focus exact oz) | ((with_reducible refine pc_and ?_ ?_); focus exact pz) | ((first | with_reducible refine gIf_t ?_ ?_ | with_reducible refine gIf_f ?_ ?_ | with_reducible refine ite_t ?_ ?_ | with_reducible refine ite_p ?_ ?_) <;> (first | (have z := (e1 : Dm); clear z e1; intro e1; try simp only [noR] at e1) | (have z := (e2 : Dm); clear z e2; intro e2; try simp only [noR] at e2) | (have z := (e3 : Dm); clear z e3; intro e3; try simp only [noR] at e3) | (have z := (e4 : Dm); clear z e4; intro e4; try simp only [noR] at e4) | (have z := (e5 : Dm); clear z e5; intro e5; try simp only [noR] at e5) | (have z := (e6 : Dm); clear z e6; intro e6; try simp only [noR] at e6)) <;> (try simp -implicitDefEqProofs -dsimp (maxSteps := 2000000) (disch := (first | exact dz | fail)) only [go_sem, e6, e5, e4, e3, e2, e1, h0, h4, h12, hlt, kv])))) <;> (try with_reducible and_intros) <;> (first | exact fz | skip)
      rw [splitL_no hq1]
      · rfl
      · rintro ⟨h, _⟩
        rcases hs.st with ⟨h1, h2, h3⟩ | h2
        · rcases h3 with rfl | h3
          · rw [List.eq_nil_of_length_eq_zero (show p.length = 0 by omega)] at h; simp at h
          · exact h3.2 rfl
        · exact h2.2.1 rfl
    · have hsl2 : ∀ s ∈ o, s.length ≤ 4294967296 := fun s h => by have := hs.sl s h; omega
      have hid : (m ++ [Ob.iter ⟨⟨p⟩⟩ i, Ob.cells ver (o.map tx)])[m.length + 1]? = some (.cells ver (o.map tx)) := by rw [getM]; rfl
      have hcn := fun (en : Env) Q (hf) => containsNames_eq (en := en) (l := o) Q hid rfl (by omega) hsl2 hf
      have hol1 : 0 < o.length := List.length_pos_iff.2 ho
      have hA : o.all nameB = true → p.head? = some 47 ∧ o = segs p := by
        intro h
        rcases hs.st with ⟨h1, h2, h3⟩ | h2
        · rw [List.take_of_length_le (by omega)] at h2
          rcases h3 with rfl | h3
          · rw [List.eq_nil_of_length_eq_zero (show p.length = 0 by omega)] at h2; exact (ho h2).elim
          · exact ⟨h3.1, h2⟩
        · rw [nameB_hi h2.2.2.1] at h; cases h
      have hB : ¬(o.all nameB = true ∧ o.length ≤ 4) → splitL p = none := by
        intro h
        rcases hs.st with ⟨h1, h2, h3⟩ | h2
        · rw [List.take_of_length_le (by omega)] at h2
          refine splitL_no hq1 fun h4 => h ?_
          rw [h2]; exact h4.2
        · exact splitL_hi hq1 h2.2.2.2
      have hfr := fun (b : Nat) (hb : b ≤ m.length + 1) (d : Nat) (k : AV → Prop) => frzQ_own (m := m ++ [Ob.iter ⟨⟨p⟩⟩ i, Ob.cells ver (o.map tx)]) (b := b) (d := d) (ver := ver) clean_tx tx_ifc o hid hb k
      have hyes : o.all nameB = true → o.length ≤ 4 → splitA (splitL p) = .tup [sl tx ⟨false, false, o⟩, errA 0] := by
        intro h1 h2
        obtain ⟨h3, h4⟩ := hA h1
        rw [splitL_yes hq1 h3 (by rw [← h4]; exact h1) (by rw [← h4]; exact h2), ← h4]
        simp [splitA, sl, ho]
      (have e1 : Dm := ⟨⟩; have e2 : Dm := ⟨⟩; have e3 : Dm := ⟨⟩; have e4 : Dm := ⟨⟩; have e5 : Dm := ⟨⟩; have e6 : Dm := ⟨⟩) <;> (try simp -implicitDefEqProofs -dsimp (maxSteps := 2000000) (disch := (first | exact dz | fail)) only [go_sem, h0, h4, h12, hlt, kv, hcn, hfr _ (show m.length ≤ m.length + 1 by omega) 5]) <;> (repeat' (first | ((with_reducible refine ds_and ?_ ?_); focus exact kz) | ((with_reducible refine And.intro ?_ ?_); focus exact oz) | ((with_reducible refine pc_and ?_ ?_); focus exact pz) | ((first | with_reducible refine gIf_t ?_ ?_ | with_reducible refine gIf_f ?_ ?_ | with_reducible refine ite_t ?_ ?_ | with_reducible refine ite_p ?_ ?_) <;> (first | (have z := (e1 : Dm); clear z e1; intro e1; try simp only [noR] at e1) | (have z := (e2 : Dm); clear z e2; intro e2; try simp only [noR] at e2) | (have z := (e3 : Dm); clear z e3; intro e3; try simp only [noR] at e3) | (have z := (e4 : Dm); clear z e4; intro e4; try simp only [noR] at e4) | (have z := (e5 : Dm); clear z e5; intro e5; try simp only [noR] at e5) | (have z := (e6 : Dm); clear z e6; intro e6; try simp only [noR] at e6)) <;> (try simp -implicitDefEqProofs -dsimp (maxSteps := 2000000) (disch := (first | exact dz | fail)) only [go_sem, e6, e5, e4, e3, e2, e1, h0, h4, h12, hlt, kv, hcn, hfr _ (show m.length ≤ m.length + 1 by omega) 5])))) <;> (try with_reducible and_intros) <;> (first | exact fz | skip)
      · rw [hB (by omega)]; rfl
      · rw [hB (by simp [e3])]; rfl
      · exact (hyes (by simpa using e3) (by omega)).symm
end
end Go.Proofs.YtcmjidnbbfcbjaaDoor.V
/- Trees that are right, of the reference; no condition. -/
namespace Go.Proofs.YtcmjidnbbfcbjaaDoor.V
open Go
set_option linter.unusedVariables false
set_option linter.unusedSimpArgs false
set_option maxRecDepth 100000
set_option maxHeartbeats 4000000
noncomputable section
variable {en : Env} {m : Mem}
/-- The functions that are known so far. -/
def fs1 : List FuncId := [28, 44, 43, 14, 11, 65,
  61, 62, 63, 51, 10]
abbrev L1.pol : Pol := layer Tryd.prog V.pol fs1
namespace L1
theorem get_eq (t : Sl Nd) (p : List UInt8) (m : Mem) (Q : AV → Mem → Prop) (ht : t.l.length < 4294967296) : WC Tryd.prog pol en (.func 28) [slf ndC t, tx p] m Q = Q (getA (getL t.l p)) m := lift (fun m => get_ok t p ht (fits0 _)) rfl m Q
theorem up_eq (p : List UInt8) (m : Mem) (Q : AV → Mem → Prop) (hp : p.length ≤ 9223372036854775807) : WC Tryd.prog pol en (.func 44) [tx p] m Q = Q (.tup [tx (upL p).1, tx (upL p).2]) m := lift (fun m => up_ok p hp (fits0 _)) rfl m Q
theorem split_eq (p : List UInt8) (m : Mem) (Q : AV → Mem → Prop) (hp : p.length ≤ 9223372036854775807) : WC Tryd.prog pol en (.func 43) [tx p] m Q = Q (splitA (splitL p)) m := lift (fun m => split_ok p hp (fits0 _)) rfl m Q
theorem sameTexts_eq (x y : Sl (List UInt8)) (m : Mem) (Q : AV → Mem → Prop) (hx : x.l.length < 4294967296) : WC Tryd.prog pol en (.func 14) [sl tx x, sl tx y] m Q = Q (bo (decide (x.l = y.l))) m := lift (fun m => sameTexts_ok x y hx (fits0 _)) rfl m Q
theorem sameOps_eq (x y : Sl Pn) (m : Mem) (Q : AV → Mem → Prop) (hx : x.l.length < 4294967296) : WC Tryd.prog pol en (.func 11) [slf opC x, slf opC y] m Q = Q (bo (decide (x.l = y.l))) m := lift (fun m => sameOps_ok x y hx (fits0 _)) rfl m Q
theorem treeSplit_eq (p : List UInt8) (m : Mem) (Q : AV → Mem → Prop) (hp : p.length ≤ 1073741824) : WC Tryd.prog pol en (.func 61) [tx p] m Q = Q (splitA (splitL p)) m := lift (fun m => treeSplit_ok p hp (fits0 _)) rfl m Q
theorem parts_eq (p : List UInt8) (m : Mem) (Q : AV → Mem → Prop) (hp : p.length < 4611686018427387904) : WC Tryd.prog pol en (.func 62) [tx p] m Q = Q (.tup [tx (partsL p).1, tx (partsL p).2]) m := lift (fun m => parts_ok p hp (fits0 _)) rfl m Q
theorem place_eq (t : Sl Nd) (k : List UInt8) (m : Mem) (Q : AV → Mem → Prop) (hs : Srt t.l) (ht : t.l.length < 4294967296) : WC Tryd.prog pol en (.func 63) [slf ndC t, tx k, .clo (.func 64) [] []] m Q = Q (.tup [I (lowB t.l k), bo (getL t.l k).isSome]) m := lift (fun m => place_ok t k hs ht (fits0 _)) rfl m Q
theorem treeNew_eq (m : Mem) (Q : AV → Mem → Prop) : WC Tryd.prog pol en (.func 51) [] m Q = Q (slf ndC ⟨false, true, [root0]⟩) m := lift (fun m => treeNew_ok (fits0 _)) rfl m Q
end L1
/-- Nodes whose texts are not too long for the machine. -/
structure FitT (l : List Nd) : Prop where
  len : l.length ≤ 1048576
  path : ∀ n ∈ l, n.path.length ≤ 1048576
  first : ∀ n ∈ l, n.first.length ≤ 1048576
  data : ∀ n ∈ l, n.data.length ≤ 1048576
def root : Nd := ⟨[47], true, [], [47]⟩
theorem rootEq (a : Nd) : (decide (a.path = [47]) && (a.dir == true && (decide (a.data = []) && decide (a.first = [47])))) = decide (a = root) := ndEq a root
def leB (a b : List UInt8) : Bool := ltB a b || decide (a = b)
def nodeOk (t : List Nd) (i : Nat) (n q : Nd) : Bool :=
  (splitL n.path).isSome && (!leB n.path q.path && ((match getL (t.take i) (upL n.path).1 with | some d => d.dir | none => false) &&
  (if n.dir = true then decide (n.data = []) && decide (n.first = n.path)
   else decide (n.data.length ≤ 256) && (match getL (t.take (i + 1)) n.first with | some x => !x.dir && (decide (x.first = n.first) && decide (x.data = n.data)) | none => false))))
def okAt (t : List Nd) (i : Nat) : Bool := i == 0 || (match t[i]?, t[i - 1]? with | some n, some q => nodeOk t i n q | _, _ => false)
def rightL (t : List Nd) : Bool := decide (1 ≤ t.length) && (decide (t.length ≤ 512) && (decide (t[0]? = some root) && (List.range t.length).all (okAt t)))
theorem right_no {t : List Nd} {i : Nat} (hi : i < t.length) (h : okAt t i = false) : rightL t = false := by
  have : (List.range t.length).all (okAt t) = false := by
    rw [List.all_eq_false]; exact ⟨i, by simpa using hi, by simp [h]⟩
  simp [rightL, this]
theorem upAt_len (p : List UInt8) : ∀ i, (upAt p i).1.length ≤ p.length
  | 0 => by unfold upAt; split <;> simp; omega
  | i + 1 => by
    unfold upAt
    split
    · exact List.length_take_le' _ _
    · exact upAt_len p i
theorem upL_len (p : List UInt8) : (upL p).1.length ≤ p.length := upAt_len p _
end
end Go.Proofs.YtcmjidnbbfcbjaaDoor.V
namespace Go.Proofs.YtcmjidnbbfcbjaaDoor.V.L1
open Go V
set_option linter.unusedVariables false
set_option linter.unusedSimpArgs false
set_option maxRecDepth 100000
set_option maxHeartbeats 4000000
noncomputable section
variable {en : Env} {m : Mem}
theorem right_ok (t : Sl Nd) (ht : FitT t.l) (hf : Fits en m.length) : WC Tryd.prog pol en (.func 25) [slf ndC t] m fun v m' => v = bo (rightL t.l) ∧ m' = m := by
  have htl := ht.len
  refine callPur Tryd.func25 rfl rfl Tryd.ntmps25 Tryd.results25 ?_
  (have hq1 : Dm := ⟨⟩; have hq2 : Dm := ⟨⟩; have hq3 : Dm := ⟨⟩; have hq4 : Dm := ⟨⟩; have hq5 : Dm := ⟨⟩; have hq6 : Dm := ⟨⟩) <;> (try simp -implicitDefEqProofs -dsimp (maxSteps := 2000000) (disch := (first | exact dz | fail)) only [go_sem, rootEq]) <;> (repeat' (first | ((with_reducible refine ds_and ?_ ?_); focus exact kz) | ((with_reducible refine And.intro ?_ ?_); focus exact oz) | ((with_reducible refine pc_and ?_ ?_); focus exact pz) | ((first | with_reducible refine gIf_t ?_ ?_ | with_reducible refine gIf_f ?_ ?_ | with_reducible refine ite_t ?_ ?_ | with_reducible refine ite_p ?_ ?_) <;> (first | (have z := (hq1 : Dm); clear z hq1; intro hq1; try simp only [noR] at hq1) | (have z := (hq2 : Dm); clear z hq2; intro hq2; try simp only [noR] at hq2) | (have z := (hq3 : Dm); clear z hq3; intro hq3; try simp only [noR] at hq3) | (have z := (hq4 : Dm); clear z hq4; intro hq4; try simp only [noR] at hq4) | (have z := (hq5 : Dm); clear z hq5; intro hq5; try simp only [noR] at hq5) | (have z := (hq6 : Dm); clear z hq6; intro hq6; try simp only [noR] at hq6)) <;> (try simp -implicitDefEqProofs -dsimp (maxSteps := 2000000) (disch := (first | exact dz | fail)) only [go_sem, hq6, hq5, hq4, hq3, hq2, hq1, rootEq])))) <;> (try with_reducible and_intros) <;> (first | exact fz | skip)
  · simp [bo, rightL]; omega
  · simp [bo, rightL]; omega
  · have : t.l[0]? ≠ some root := by rw [List.getElem?_eq_getElem (by omega)]; simpa using hq3
    simp [bo, rightL, this]
  refine loopF (fun k ts m' => ∃ (i : Nat) (l : Mem), ts.length = 126 ∧ tg ts 0 = slf ndC t ∧ tg ts 3 = I i ∧ m' = m ++ l ∧ (List.range i).all (okAt t.l) = true ∧ 1 ≤ i ∧ i ≤ t.l.length ∧ k = t.l.length - i) (t.l.length - 1) ⟨1, [], rfl, rfl, rfl, by simp, rfl, by omega, by omega, rfl⟩ ?_
  rintro k ts m' ⟨i, l, hl, h0, h3, rfl, hok, h1i, hi, rfl⟩
  rw [expandT hl]
  by_cases hlt : (i : Int) < (t.l.length : Int)
  · have hi' : i < t.l.length := by omega
    obtain ⟨n, hn⟩ : ∃ n, t.l[i]? = some n := ⟨_, List.getElem?_eq_getElem hi'⟩
    obtain ⟨q, hq⟩ : ∃ q, t.l[i - 1]? = some q := ⟨_, List.getElem?_eq_getElem (by omega)⟩
    have hnm := List.mem_of_getElem? hn
    have hp := ht.path n hnm
    have hw : IntKind.i64.wrap ((i : Int) - 1) = ((i - 1 : Nat) : Int) := by rw [i64w (by omega)]; omega
    have hat : okAt t.l i = nodeOk t.l i n q := by
      have : (i == 0) = false := by simp; omega
      simp [okAt, hn, hq, this]
    have bad : nodeOk t.l i n q = false → rightL t.l = false := fun h => right_no hi' (by rw [hat, h])
    have good : nodeOk t.l i n q = true → (List.range (i + 1)).all (okAt t.l) = true := fun h => by
      rw [List.range_succ, List.all_append, hok]; simp [hat, h]
    obtain ⟨B, hB⟩ : ∃ B, m.length + l.length = B := ⟨_, rfl⟩
    have hBk : ∀ k, m.length + (l.length + k) = B + k := fun k => by omega
    cases hsp : splitL n.path with
    | none =>
      (have c1 : Dm := ⟨⟩; have c2 : Dm := ⟨⟩; have c3 : Dm := ⟨⟩; have c4 : Dm := ⟨⟩; have c5 : Dm := ⟨⟩; have c6 : Dm := ⟨⟩) <;> (try simp -implicitDefEqProofs -dsimp (maxSteps := 2000000) (disch := (first | exact dz | fail)) only [go_sem, h0, h3, hlt, hn, hq, hw, split_eq, hsp, splitA]) <;> (repeat' (first | ((with_reducible refine ds_and ?_ ?_); focus exact kz) | ((with_reducible refine And.intro ?_ ?_); focus exact oz) | ((with_reducible refine pc_and ?_ ?_); focus exact pz) | ((first | with_reducible refine gIf_t ?_ ?_ | with_reducible refine gIf_f ?_ ?_ | with_reducible refine ite_t ?_ ?_ | with_reducible refine ite_p ?_ ?_) <;> (first | (have z := (c1 : Dm); clear z c1; intro c1; try simp only [noR] at c1) | (have z := (c2 : Dm); clear z c2; intro c2; try simp only [noR] at c2) | (have z := (c3 : Dm); clear z c3; intro c3; try simp only [noR] at c3) | (have z := (c4 : Dm); clear z c4; intro c4; try simp only [noR] at c4) | (have z := (c5 : Dm); clear z c5; intro c5; try simp only [noR] at c5) | (have z := (c6 : Dm); clear z c6; intro c6; try simp only [noR] at c6)) <;> (try simp -implicitDefEqProofs -dsimp (maxSteps := 2000000) (disch := (first | exact dz | fail)) only [go_sem, c6, c5, c4, c3, c2, c1, h0, h3, hlt, hn, hq, hw, split_eq, hsp, splitA])))) <;> (try with_reducible and_intros) <;> (first | exact fz | skip)
      rw [bad (by simp [nodeOk, hsp])]
    | some names =>
      have hul : (upL n.path).1.length ≤ 9223372036854775807 := by have := upL_len n.path; omega
      have hfl := ht.first n hnm
      (have c1 : Dm := ⟨⟩; have c2 : Dm := ⟨⟩; have c3 : Dm := ⟨⟩; have c4 : Dm := ⟨⟩; have c5 : Dm := ⟨⟩; have c6 : Dm := ⟨⟩; have c7 : Dm := ⟨⟩; have c8 : Dm := ⟨⟩; have c9 : Dm := ⟨⟩; have c10 : Dm := ⟨⟩) <;> (try simp -implicitDefEqProofs -dsimp (maxSteps := 2000000) (disch := (first | exact dz | fail)) only [go_sem, h0, h3, hlt, hn, hq, hw, split_eq, hsp, splitA, up_eq, get_eq, getA]) <;> (repeat' (first | ((with_reducible refine ds_and ?_ ?_); focus exact kz) | ((with_reducible refine And.intro ?_ ?_); focus exact oz) | ((with_reducible refine pc_and ?_ ?_); focus exact pz) | ((first | with_reducible refine gIf_t ?_ ?_ | with_reducible refine gIf_f ?_ ?_ | with_reducible refine ite_t ?_ ?_ | with_reducible refine ite_p ?_ ?_) <;> (first | (have z := (c1 : Dm); clear z c1; intro c1; try simp only [noR] at c1) | (have z := (c2 : Dm); clear z c2; intro c2; try simp only [noR] at c2) | (have z := (c3 : Dm); clear z c3; intro c3; try simp only [noR] at c3) | (have z := (c4 : Dm); clear z c4; intro c4; try simp only [noR] at c4) | (have z := (c5 : Dm); clear z c5; intro c5; try simp only [noR] at c5) | (have z := (c6 : Dm); clear z c6; intro c6; try simp only [noR] at c6) | (have z := (c7 : Dm); clear z c7; intro c7; try simp only [noR] at c7) | (have z := (c8 : Dm); clear z c8; intro c8; try simp only [noR] at c8) | (have z := (c9 : Dm); clear z c9; intro c9; try simp only [noR] at c9) | (have z := (c10 : Dm); clear z c10; intro c10; try simp only [noR] at c10)) <;> (try simp -implicitDefEqProofs -dsimp (maxSteps := 2000000) (disch := (first | exact dz | fail)) only [go_sem, c10, c9, c8, c7, c6, c5, c4, c3, c2, c1, h0, h3, hlt, hn, hq, hw, split_eq, hsp, splitA, up_eq, get_eq, getA])))) <;> (try with_reducible and_intros) <;> (first | exact fz | skip)
      · rw [bad (by simp [nodeOk, leB, c1])]
      · rw [bad (by rw [nodeOk]; cases hg : getL (t.l.take i) (upL n.path).1 <;> simp_all)]
      · rw [bad (by rw [nodeOk]; cases hg : getL (t.l.take i) (upL n.path).1 <;> simp_all)]
      · rw [bad (by simp [nodeOk, c4, c5])]
      · rw [bad (by simp [nodeOk, c4, c6])]
      · refine ⟨t.l.length - (i + 1), by omega, i + 1, _, rfl, rfl, good ?_, by omega, by omega, rfl⟩
        rw [nodeOk]; cases hg : getL (t.l.take i) (upL n.path).1 <;> simp_all [leB]
      · rw [bad (by simp [nodeOk, c4]; intros; omega)]
      · rw [bad (by rw [nodeOk]; cases hg : getL (t.l.take (i + 1)) n.first <;> simp_all)]
      · rw [bad (by rw [nodeOk]; cases hg : getL (t.l.take (i + 1)) n.first <;> simp_all)]
      · rw [bad (by rw [nodeOk]; cases hg : getL (t.l.take (i + 1)) n.first <;> simp_all)]
      · rw [bad (by rw [nodeOk]; cases hg : getL (t.l.take (i + 1)) n.first <;> simp_all)]
      · refine ⟨t.l.length - (i + 1), by omega, i + 1, _, rfl, rfl, good ?_, by omega, by omega, rfl⟩
        rw [nodeOk]; cases hg : getL (t.l.take i) (upL n.path).1 <;> cases hg2 : getL (t.l.take (i + 1)) n.first <;> simp_all [leB]
        omega
  · (have c1 : Dm := ⟨⟩; have c2 : Dm := ⟨⟩; have c3 : Dm := ⟨⟩; have c4 : Dm := ⟨⟩; have c5 : Dm := ⟨⟩; have c6 : Dm := ⟨⟩) <;> (try simp -implicitDefEqProofs -dsimp (maxSteps := 2000000) (disch := (first | exact dz | fail)) only [go_sem, h0, h3, hlt]) <;> (repeat' (first | ((with_reducible refine ds_and ?_ ?_); focus exact kz) | ((with_reducible refine And.intro ?_ ?_); focus exact oz) | ((with_reducible refine pc_and ?_ ?_); focus exact pz) | ((first | with_reducible refine gIf_t ?_ ?_ | with_reducible refine gIf_f ?_ ?_ | with_reducible refine ite_t ?_ ?_ | with_reducible refine ite_p ?_ ?_) <;> (first | (have z := (c1 : Dm); clear z c1; intro c1; try simp only [noR] at c1) | (have z := (c2 : Dm); clear z c2; intro c2; try simp only [noR] at c2) | (have z := (c3 : Dm); clear z c3; intro c3; try simp only [noR] at c3) | (have z := (c4 : Dm); clear z c4; intro c4; try simp only [noR] at c4) | (have z := (c5 : Dm); clear z c5; intro c5; try simp only [noR] at c5) | (have z := (c6 : Dm); clear z c6; intro c6; try simp only [noR] at c6)) <;> (try simp -implicitDefEqProofs -dsimp (maxSteps := 2000000) (disch := (first | exact dz | fail)) only [go_sem, c6, c5, c4, c3, c2, c1, h0, h3, hlt])))) <;> (try with_reducible and_intros) <;> (first | exact fz | skip)
    have hi2 : i = t.l.length := by omega
    subst hi2
    have h2 : t.l[0]? = some root := by rw [List.getElem?_eq_getElem (by omega), hq3]
    have : t.l.length ≤ 512 := by omega
    have h3 : rightL t.l = true := by simp only [rightL, Bool.and_eq_true, decide_eq_true_eq]; exact ⟨h1i, this, h2, hok⟩
    rw [h3]
end
end Go.Proofs.YtcmjidnbbfcbjaaDoor.V.L1
/- Plain facts of trees that are right; no condition. -/
namespace Go.Proofs.YtcmjidnbbfcbjaaDoor.V
open Go
set_option linter.unusedVariables false
set_option linter.unusedSimpArgs false
set_option maxRecDepth 100000
set_option maxHeartbeats 4000000
noncomputable section
variable {en : Env} {m : Mem}
theorem right_facts {t : List Nd} (h : rightL t = true) : 1 ≤ t.length ∧ t.length ≤ 512 ∧ t[0]? = some root ∧ ∀ i n q, t[i + 1]? = some n → t[i]? = some q → nodeOk t (i + 1) n q = true := by
  simp only [rightL, Bool.and_eq_true, decide_eq_true_eq, List.all_eq_true] at h
  obtain ⟨h1, h2, h3, h4⟩ := h
  refine ⟨h1, h2, h3, fun i n q hn hq => ?_⟩
  have hi : i + 1 < t.length := (List.getElem?_eq_some_iff.1 hn).1
  have := h4 (i + 1) (by simpa using hi)
  simpa [okAt, hn, hq] using this
theorem node_cases {t : List Nd} (h : rightL t = true) {i : Nat} {n : Nd} (hn : t[i]? = some n) : (i = 0 ∧ n = root) ∨ (∃ k q, i = k + 1 ∧ t[k]? = some q ∧ nodeOk t i n q = true) := by
  obtain ⟨h1, h2, h3, h4⟩ := right_facts h
  cases i with
  | zero => left; rw [h3] at hn; cases hn; exact ⟨rfl, rfl⟩
  | succ k =>
    right
    have hk : k < t.length := by have := (List.getElem?_eq_some_iff.1 hn).1; omega
    exact ⟨k, t[k], rfl, List.getElem?_eq_getElem hk, h4 k n _ hn (List.getElem?_eq_getElem hk)⟩
theorem right_data {t : List Nd} (h : rightL t = true) : ∀ n ∈ t, n.data.length ≤ 256 := by
  intro n hn
  obtain ⟨i, hi⟩ := List.getElem?_of_mem hn
  rcases node_cases h hi with ⟨_, rfl⟩ | ⟨k, q, rfl, _, hk⟩
  · simp [root]
  · simp only [nodeOk, Bool.and_eq_true] at hk
    obtain ⟨_, _, _, hk⟩ := hk
    split at hk
    · simp only [Bool.and_eq_true, decide_eq_true_eq] at hk; simp [hk.1]
    · simp only [Bool.and_eq_true, decide_eq_true_eq] at hk; exact hk.1
theorem flatMap_step {α β : Type} {t : List α} {i : Nat} {a : α} (h : t[i]? = some a) (g : α → List β) : (t.take (i + 1)).flatMap g = (t.take i).flatMap g ++ g a := by
  rw [List.take_add_one, h, List.flatMap_append]; simp
theorem flatMap_le {α β : Type} (g : α → List β) (B : Nat) : ∀ (l : List α), (∀ x ∈ l, (g x).length ≤ B) → (l.flatMap g).length ≤ l.length * B
  | [], _ => by simp
  | a :: l, h => by
    have h1 := flatMap_le g B l fun x hx => h x (by simp [hx])
    have h2 := h a (by simp)
    rw [List.flatMap_cons, List.length_append, List.length_cons, Nat.succ_mul]; omega
end
end Go.Proofs.YtcmjidnbbfcbjaaDoor.V
/- What is kept, of the reference; no condition. -/
namespace Go.Proofs.YtcmjidnbbfcbjaaDoor.V
open Go
set_option linter.unusedVariables false
set_option linter.unusedSimpArgs false
set_option maxRecDepth 100000
set_option maxHeartbeats 4000000
noncomputable section
variable {en : Env} {m : Mem}
def sameF (n : Nd) (x : Nd) : Bool := !x.dir && decide (x.first = n.first)
def linksL (t : List Nd) (p : List UInt8) : List (List UInt8) :=
  match getL t p with
  | some n => if (!n.dir && rightL t) = true then (t.filter (sameF n)).map (·.path) else []
  | none => []
theorem filter_stepP {α : Type} {t : List α} {i : Nat} {a : α} (h : t[i]? = some a) {p : α → Bool} : (t.take (i + 1)).filter p = (t.take i).filter p ++ (if p a = true then [a] else []) := by
  rw [List.take_add_one, h, List.filter_append]
  congr 1
  simp only [Option.toList_some, List.filter_cons, List.filter_nil]
theorem filter_step {α : Type} {t : List α} {i : Nat} {a : α} (h : t[i]? = some a) (p : α → Bool) : (t.take (i + 1)).filter p = (t.take i).filter p ++ (if p a = true then [a] else []) := by
  rw [List.take_add_one, h, List.filter_append]
  congr 1
  simp only [Option.toList_some, List.filter_cons, List.filter_nil]
theorem filterLe {α : Type} (t : List α) (i : Nat) (p : α → Bool) : ((t.take i).filter p).length ≤ t.length := Nat.le_trans (List.length_filter_le _ _) (by simp; omega)
theorem zero {i : Nat} {t : List Nd} {P : Prop} {p : Nd → Bool} (hpos : 0 < i → P) (h : ¬P) : ((t.take i).filter p).map (·.path) = [] := by
  rcases Nat.eq_zero_or_pos i with rfl | hi
  · rfl
  · exact (h (hpos hi)).elim
end
end Go.Proofs.YtcmjidnbbfcbjaaDoor.V
namespace Go.Proofs.YtcmjidnbbfcbjaaDoor.V.L1
open Go V
set_option linter.unusedVariables false
set_option linter.unusedSimpArgs false
set_option maxRecDepth 100000
set_option maxHeartbeats 4000000
noncomputable section
variable {en : Env} {m : Mem}
theorem links_ok (t : Sl Nd) (p : List UInt8) (ht : FitT t.l) (hf : Fits en m.length) : WC Tryd.prog pol en (.func 27) [slf ndC t, tx p] m fun v m' => v = sl tx ⟨true, false, linksL t.l p⟩ ∧ m' = m := by
  have htl := ht.len
  have hrt := fun (en : Env) (m : Mem) Q (hf : Fits en m.length) => (right_ok (m := m) (en := en) t ht hf).rule Q
  refine callPur Tryd.func27 rfl rfl Tryd.ntmps27 Tryd.results27 ?_
  (have hq1 : Dm := ⟨⟩; have hq2 : Dm := ⟨⟩; have hq3 : Dm := ⟨⟩; have hq4 : Dm := ⟨⟩; have hq5 : Dm := ⟨⟩; have hq6 : Dm := ⟨⟩) <;> (try simp -implicitDefEqProofs -dsimp (maxSteps := 2000000) (disch := (first | exact dz | fail)) only [go_sem, get_eq, getA]) <;> (repeat' (first | ((with_reducible refine ds_and ?_ ?_); focus exact kz) | ((with_reducible refine And.intro ?_ ?_); focus exact oz) | ((with_reducible refine pc_and ?_ ?_); focus exact pz) | ((first | with_reducible refine gIf_t ?_ ?_ | with_reducible refine gIf_f ?_ ?_ | with_reducible refine ite_t ?_ ?_ | with_reducible refine ite_p ?_ ?_) <;> (first | (have z := (hq1 : Dm); clear z hq1; intro hq1; try simp only [noR] at hq1) | (have z := (hq2 : Dm); clear z hq2; intro hq2; try simp only [noR] at hq2) | (have z := (hq3 : Dm); clear z hq3; intro hq3; try simp only [noR] at hq3) | (have z := (hq4 : Dm); clear z hq4; intro hq4; try simp only [noR] at hq4) | (have z := (hq5 : Dm); clear z hq5; intro hq5; try simp only [noR] at hq5) | (have z := (hq6 : Dm); clear z hq6; intro hq6; try simp only [noR] at hq6)) <;> (try simp -implicitDefEqProofs -dsimp (maxSteps := 2000000) (disch := (first | exact dz | fail)) only [go_sem, hq6, hq5, hq4, hq3, hq2, hq1, get_eq, getA])))) <;> (try with_reducible and_intros) <;> (first | exact fz | skip)
  generalize hg : getL t.l p = o
  generalize hc : Ob.cells (tagT 47) [tx (o.getD nd0).path, AV.sc (Value.bool (o.getD nd0).dir), tx (o.getD nd0).data, tx (o.getD nd0).first] = c
  refine loopF (fun k ts m' => ∃ (i : Nat) (v : AV), ts.length = 58 ∧ tg ts 0 = slf ndC t ∧ tg ts 5 = .ptr m.length (tagT 47) 0 ∧ tg ts 6 = bo o.isSome ∧ tg ts 7 = kv v ∧ tg ts 8 = I i ∧ Rw tx (m ++ [c]) (((t.l.take i).filter (sameF (o.getD nd0))).map (·.path)) v m' ∧ (0 < i → o.isSome = true ∧ (o.getD nd0).dir = false ∧ rightL t.l = true) ∧ i ≤ t.l.length ∧ k = t.l.length - i) t.l.length ⟨0, _, rfl, rfl, rfl, rfl, rfl, rfl, Rw.nil, by omega, by omega, by omega⟩ ?_
  rintro k ts m' ⟨i, v, hl, h0, h5, h6, h7, h8, hr, hpos, hi, rfl⟩
  rw [expandT hl]
  have hm0 : m'[m.length]? = some c := by rw [hr.old (by simp), getM0]; rfl
  have hle := hr.le
  have hfl := filterLe t.l i (sameF (o.getD nd0))
  rw [List.length_append, List.length_singleton] at hle
  subst hc
  by_cases hlt : (i : Int) < (t.l.length : Int)
  · obtain ⟨x, hx⟩ : ∃ x, t.l[i]? = some x := ⟨_, List.getElem?_eq_getElem (by omega)⟩
    have hst := filter_step hx (sameF (o.getD nd0))
    (have c1 : Dm := ⟨⟩; have c2 : Dm := ⟨⟩; have c3 : Dm := ⟨⟩; have c4 : Dm := ⟨⟩; have c5 : Dm := ⟨⟩; have c6 : Dm := ⟨⟩) <;> (try simp -implicitDefEqProofs -dsimp (maxSteps := 2000000) (disch := (first | exact dz | fail)) only [go_sem, h0, h5, h6, h7, h8, hm0, hlt, hrt, hx, hr.frz clean_tx tx_ifc (show m.length ≤ _ by simp)]) <;> (repeat' (first | ((with_reducible refine ds_and ?_ ?_); focus exact kz) | ((with_reducible refine And.intro ?_ ?_); focus exact oz) | ((with_reducible refine pc_and ?_ ?_); focus exact pz) | ((first | with_reducible refine gIf_t ?_ ?_ | with_reducible refine gIf_f ?_ ?_ | with_reducible refine ite_t ?_ ?_ | with_reducible refine ite_p ?_ ?_) <;> (first | (have z := (c1 : Dm); clear z c1; intro c1; try simp only [noR] at c1) | (have z := (c2 : Dm); clear z c2; intro c2; try simp only [noR] at c2) | (have z := (c3 : Dm); clear z c3; intro c3; try simp only [noR] at c3) | (have z := (c4 : Dm); clear z c4; intro c4; try simp only [noR] at c4) | (have z := (c5 : Dm); clear z c5; intro c5; try simp only [noR] at c5) | (have z := (c6 : Dm); clear z c6; intro c6; try simp only [noR] at c6)) <;> (try simp -implicitDefEqProofs -dsimp (maxSteps := 2000000) (disch := (first | exact dz | fail)) only [go_sem, c6, c5, c4, c3, c2, c1, h0, h5, h6, h7, h8, hm0, hlt, hrt, hx, hr.frz clean_tx tx_ifc (show m.length ≤ _ by simp)])))) <;> (try with_reducible and_intros) <;> (first | exact fz | skip)
    · rw [c2] at hr
      have hsf : sameF (o.getD nd0) x = true := by simp [sameF, c4, c5]
      refine hr.app x.path (Fits.upPur hf (by simp)) (by simp) (by simp only [List.length_map]; omega) ?_
      intro r v' m'' hr'
      rw [if_pos hsf] at hst
      (have d1 : Dm := ⟨⟩; have d2 : Dm := ⟨⟩; have d3 : Dm := ⟨⟩; have d4 : Dm := ⟨⟩; have d5 : Dm := ⟨⟩; have d6 : Dm := ⟨⟩) <;> (try simp -implicitDefEqProofs -dsimp (maxSteps := 2000000) (disch := (first | exact dz | fail)) only [go_sem, c1, c2, c3]) <;> (repeat' (first | ((with_reducible refine ds_and ?_ ?_); focus exact kz) | ((with_reducible refine And.intro ?_ ?_); focus exact oz) | ((with_reducible refine pc_and ?_ ?_); focus exact pz) | ((first | with_reducible refine gIf_t ?_ ?_ | with_reducible refine gIf_f ?_ ?_ | with_reducible refine ite_t ?_ ?_ | with_reducible refine ite_p ?_ ?_) <;> (first | (have z := (d1 : Dm); clear z d1; intro d1; try simp only [noR] at d1) | (have z := (d2 : Dm); clear z d2; intro d2; try simp only [noR] at d2) | (have z := (d3 : Dm); clear z d3; intro d3; try simp only [noR] at d3) | (have z := (d4 : Dm); clear z d4; intro d4; try simp only [noR] at d4) | (have z := (d5 : Dm); clear z d5; intro d5; try simp only [noR] at d5) | (have z := (d6 : Dm); clear z d6; intro d6; try simp only [noR] at d6)) <;> (try simp -implicitDefEqProofs -dsimp (maxSteps := 2000000) (disch := (first | exact dz | fail)) only [go_sem, d6, d5, d4, d3, d2, d1, c1, c2, c3])))) <;> (try with_reducible and_intros) <;> (first | exact fz | skip)
      refine ⟨_, by omega, i + 1, v', rfl, rfl, ?_, fun _ => trivial, by omega, rfl⟩
      rw [hst, List.map_append]; exact hr'
    · rw [c2] at hr
      rw [if_neg (by simp [sameF, c5])] at hst
      refine ⟨_, by omega, i + 1, v, rfl, rfl, ?_, fun _ => trivial, by omega, rfl⟩
      rw [hst, List.append_nil]; exact hr
    · rw [c2] at hr
      rw [if_neg (by simp [sameF, c4])] at hst
      refine ⟨_, by omega, i + 1, v, rfl, rfl, ?_, fun _ => trivial, by omega, rfl⟩
      rw [hst, List.append_nil]; exact hr
    · rw [zero hpos fun h => by rw [h.2.2] at c3; cases c3]
      rw [linksL, hg]; cases o <;> simp_all
    · rw [zero hpos fun h => by rw [h.2.1] at c2; cases c2]
      rw [linksL, hg]; cases o <;> simp_all
    · rw [zero hpos fun h => by rw [h.1] at c1; cases c1]
      rw [linksL, hg]; cases o <;> simp_all
  · have hi2 : i = t.l.length := by omega
    (have c1 : Dm := ⟨⟩; have c2 : Dm := ⟨⟩; have c3 : Dm := ⟨⟩; have c4 : Dm := ⟨⟩; have c5 : Dm := ⟨⟩; have c6 : Dm := ⟨⟩) <;> (try simp -implicitDefEqProofs -dsimp (maxSteps := 2000000) (disch := (first | exact dz | fail)) only [go_sem, h0, h5, h6, h7, h8, hm0, hlt, hrt, hr.frz clean_tx tx_ifc (show m.length ≤ _ by simp)]) <;> (repeat' (first | ((with_reducible refine ds_and ?_ ?_); focus exact kz) | ((with_reducible refine And.intro ?_ ?_); focus exact oz) | ((with_reducible refine pc_and ?_ ?_); focus exact pz) | ((first | with_reducible refine gIf_t ?_ ?_ | with_reducible refine gIf_f ?_ ?_ | with_reducible refine ite_t ?_ ?_ | with_reducible refine ite_p ?_ ?_) <;> (first | (have z := (c1 : Dm); clear z c1; intro c1; try simp only [noR] at c1) | (have z := (c2 : Dm); clear z c2; intro c2; try simp only [noR] at c2) | (have z := (c3 : Dm); clear z c3; intro c3; try simp only [noR] at c3) | (have z := (c4 : Dm); clear z c4; intro c4; try simp only [noR] at c4) | (have z := (c5 : Dm); clear z c5; intro c5; try simp only [noR] at c5) | (have z := (c6 : Dm); clear z c6; intro c6; try simp only [noR] at c6)) <;> (try simp -implicitDefEqProofs -dsimp (maxSteps := 2000000) (disch := (first | exact dz | fail)) only [go_sem, c6, c5, c4, c3, c2, c1, h0, h5, h6, h7, h8, hm0, hlt, hrt, hr.frz clean_tx tx_ifc (show m.length ≤ _ by simp)])))) <;> (try with_reducible and_intros) <;> (first | exact fz | skip)
    · rw [linksL, hg]; cases o <;> simp_all
    · rw [show t.l = t.l.take i by rw [List.take_of_length_le (by omega)], zero hpos fun h => by rw [h.2.2] at c3; cases c3]
      rw [List.take_of_length_le (by omega), linksL, hg]; cases o <;> simp_all
    · rw [show t.l = t.l.take i by rw [List.take_of_length_le (by omega)], zero hpos fun h => by rw [h.2.1] at c2; cases c2]
      rw [List.take_of_length_le (by omega), linksL, hg]; cases o <;> simp_all
    · rw [show t.l = t.l.take i by rw [List.take_of_length_le (by omega)], zero hpos fun h => by rw [h.1] at c1; cases c1]
      rw [List.take_of_length_le (by omega), linksL, hg]; cases o <;> simp_all
end
end Go.Proofs.YtcmjidnbbfcbjaaDoor.V.L1
namespace Go.Proofs.YtcmjidnbbfcbjaaDoor.V
open Go
set_option linter.unusedVariables false
set_option linter.unusedSimpArgs false
set_option maxRecDepth 100000
set_option maxHeartbeats 4000000
noncomputable section
variable {en : Env} {m : Mem}
def keptB (a b : List Nd) (p : List UInt8) : Bool :=
  match getL a p, getL b p with
  | some x, some y => (x.dir == y.dir) && (x.dir || decide (linksL a p = linksL b p))
  | _, _ => false
def keptL (a b : List Nd) : List (List UInt8) := (a.filter fun n => keptB a b n.path).map (·.path)
theorem linksLen (t : List Nd) (p : List UInt8) : (linksL t p).length ≤ t.length := by
  unfold linksL
  split
  · split
    · rw [List.length_map]; exact List.length_filter_le _ _
    · simp
  · simp
end
end Go.Proofs.YtcmjidnbbfcbjaaDoor.V
namespace Go.Proofs.YtcmjidnbbfcbjaaDoor.V.L1
open Go V
set_option linter.unusedVariables false
set_option linter.unusedSimpArgs false
set_option maxRecDepth 100000
set_option maxHeartbeats 4000000
noncomputable section
variable {en : Env} {m : Mem}
theorem kept_ok (a b : Sl Nd) (p : List UInt8) (ha : FitT a.l) (hb : FitT b.l) (hf : Fits en m.length) : WC Tryd.prog pol en (.func 26) [slf ndC a, slf ndC b, tx p] m fun v m' => v = bo (keptB a.l b.l p) ∧ m' = m := by
  have hal := ha.len
  have hbl := hb.len
  have hla := fun (en : Env) (m : Mem) Q (hf : Fits en m.length) => (links_ok (m := m) (en := en) a p ha hf).rule Q
  have hlb := fun (en : Env) (m : Mem) Q (hf : Fits en m.length) => (links_ok (m := m) (en := en) b p hb hf).rule Q
  have hll := linksLen a.l p
  refine callPur Tryd.func26 rfl rfl Tryd.ntmps26 Tryd.results26 ?_
  (have hq1 : Dm := ⟨⟩; have hq2 : Dm := ⟨⟩; have hq3 : Dm := ⟨⟩; have hq4 : Dm := ⟨⟩; have hq5 : Dm := ⟨⟩; have hq6 : Dm := ⟨⟩) <;> (try simp -implicitDefEqProofs -dsimp (maxSteps := 2000000) (disch := (first | exact dz | fail)) only [go_sem, get_eq, getA, hla, hlb, sameTexts_eq]) <;> (repeat' (first | ((with_reducible refine ds_and ?_ ?_); focus exact kz) | ((with_reducible refine And.intro ?_ ?_); focus exact oz) | ((with_reducible refine pc_and ?_ ?_); focus exact pz) | ((first | with_reducible refine gIf_t ?_ ?_ | with_reducible refine gIf_f ?_ ?_ | with_reducible refine ite_t ?_ ?_ | with_reducible refine ite_p ?_ ?_) <;> (first | (have z := (hq1 : Dm); clear z hq1; intro hq1; try simp only [noR] at hq1) | (have z := (hq2 : Dm); clear z hq2; intro hq2; try simp only [noR] at hq2) | (have z := (hq3 : Dm); clear z hq3; intro hq3; try simp only [noR] at hq3) | (have z := (hq4 : Dm); clear z hq4; intro hq4; try simp only [noR] at hq4) | (have z := (hq5 : Dm); clear z hq5; intro hq5; try simp only [noR] at hq5) | (have z := (hq6 : Dm); clear z hq6; intro hq6; try simp only [noR] at hq6)) <;> (try simp -implicitDefEqProofs -dsimp (maxSteps := 2000000) (disch := (first | exact dz | fail)) only [go_sem, hq6, hq5, hq4, hq3, hq2, hq1, get_eq, getA, hla, hlb, sameTexts_eq])))) <;> (try with_reducible and_intros) <;> (first | exact fz | skip)
  all_goals rw [keptB]
  all_goals cases hga : getL a.l p <;> cases hgb : getL b.l p <;> simp_all
def keptA (o : Bool) (l : List (List UInt8)) : AV := if o = true then .tup [sl tx ⟨true, false, l⟩, errA 0] else .tup [.nilS, errA 3]
theorem keptAll_ok (a b : Sl Nd) (ha : FitT a.l) (hb : FitT b.l) (hf : Fits en m.length) : WC Tryd.prog pol en (.func 9) [slf ndC a, slf ndC b] m fun v m' => v = keptA (rightL a.l && rightL b.l) (keptL a.l b.l) ∧ m' = m := by
  have hal := ha.len
  have hra := fun (en : Env) (m : Mem) Q (hf : Fits en m.length) => (right_ok (m := m) (en := en) a ha hf).rule Q
  have hrb := fun (en : Env) (m : Mem) Q (hf : Fits en m.length) => (right_ok (m := m) (en := en) b hb hf).rule Q
  have hk := fun (p : List UInt8) (en : Env) (m : Mem) Q (hf : Fits en m.length) => (kept_ok (m := m) (en := en) a b p ha hb hf).rule Q
  refine callPur Tryd.func9 rfl rfl Tryd.ntmps9 Tryd.results9 ?_
  (have hq1 : Dm := ⟨⟩; have hq2 : Dm := ⟨⟩; have hq3 : Dm := ⟨⟩; have hq4 : Dm := ⟨⟩; have hq5 : Dm := ⟨⟩; have hq6 : Dm := ⟨⟩) <;> (try simp -implicitDefEqProofs -dsimp (maxSteps := 2000000) (disch := (first | exact dz | fail)) only [go_sem, hra, hrb]) <;> (repeat' (first | ((with_reducible refine ds_and ?_ ?_); focus exact kz) | ((with_reducible refine And.intro ?_ ?_); focus exact oz) | ((with_reducible refine pc_and ?_ ?_); focus exact pz) | ((first | with_reducible refine gIf_t ?_ ?_ | with_reducible refine gIf_f ?_ ?_ | with_reducible refine ite_t ?_ ?_ | with_reducible refine ite_p ?_ ?_) <;> (first | (have z := (hq1 : Dm); clear z hq1; intro hq1; try simp only [noR] at hq1) | (have z := (hq2 : Dm); clear z hq2; intro hq2; try simp only [noR] at hq2) | (have z := (hq3 : Dm); clear z hq3; intro hq3; try simp only [noR] at hq3) | (have z := (hq4 : Dm); clear z hq4; intro hq4; try simp only [noR] at hq4) | (have z := (hq5 : Dm); clear z hq5; intro hq5; try simp only [noR] at hq5) | (have z := (hq6 : Dm); clear z hq6; intro hq6; try simp only [noR] at hq6)) <;> (try simp -implicitDefEqProofs -dsimp (maxSteps := 2000000) (disch := (first | exact dz | fail)) only [go_sem, hq6, hq5, hq4, hq3, hq2, hq1, hra, hrb])))) <;> (try with_reducible and_intros) <;> (first | exact fz | skip)
  · simp [keptA, hq1]
  · simp [keptA, hq2]
  refine loopF (fun k ts m' => ∃ (i : Nat) (v : AV), ts.length = 39 ∧ tg ts 0 = slf ndC a ∧ tg ts 1 = slf ndC b ∧ tg ts 6 = kv v ∧ tg ts 7 = I i ∧ RwC 1 m.length (((a.l.take i).filter (fun n => keptB a.l b.l n.path)).map (·.path)).length ((((a.l.take i).filter (fun n => keptB a.l b.l n.path)).map (·.path)).map tx) v m' ∧ i ≤ a.l.length ∧ k = a.l.length - i) a.l.length ⟨0, _, rfl, rfl, rfl, rfl, rfl, RwC.nil (Nat.le_refl _), by omega, by omega⟩ ?_
  rintro k ts m' ⟨i, v, hl, h0, h1, h6, h7, hr, hi, rfl⟩
  rw [expandT hl]
  have hle := hr.le
  have hfl := filterLe a.l i (fun n => keptB a.l b.l n.path)
  by_cases hlt : (i : Int) < (a.l.length : Int)
  · obtain ⟨x, hx⟩ : ∃ x, a.l[i]? = some x := ⟨_, List.getElem?_eq_getElem (by omega)⟩
    have hst := filter_step hx (fun n => keptB a.l b.l n.path)
    (have c1 : Dm := ⟨⟩; have c2 : Dm := ⟨⟩; have c3 : Dm := ⟨⟩; have c4 : Dm := ⟨⟩; have c5 : Dm := ⟨⟩; have c6 : Dm := ⟨⟩) <;> (try simp -implicitDefEqProofs -dsimp (maxSteps := 2000000) (disch := (first | exact dz | fail)) only [go_sem, h0, h1, h6, h7, hlt, hk, hx]) <;> (repeat' (first | ((with_reducible refine ds_and ?_ ?_); focus exact kz) | ((with_reducible refine And.intro ?_ ?_); focus exact oz) | ((with_reducible refine pc_and ?_ ?_); focus exact pz) | ((first | with_reducible refine gIf_t ?_ ?_ | with_reducible refine gIf_f ?_ ?_ | with_reducible refine ite_t ?_ ?_ | with_reducible refine ite_p ?_ ?_) <;> (first | (have z := (c1 : Dm); clear z c1; intro c1; try simp only [noR] at c1) | (have z := (c2 : Dm); clear z c2; intro c2; try simp only [noR] at c2) | (have z := (c3 : Dm); clear z c3; intro c3; try simp only [noR] at c3) | (have z := (c4 : Dm); clear z c4; intro c4; try simp only [noR] at c4) | (have z := (c5 : Dm); clear z c5; intro c5; try simp only [noR] at c5) | (have z := (c6 : Dm); clear z c6; intro c6; try simp only [noR] at c6)) <;> (try simp -implicitDefEqProofs -dsimp (maxSteps := 2000000) (disch := (first | exact dz | fail)) only [go_sem, c6, c5, c4, c3, c2, c1, h0, h1, h6, h7, hlt, hk, hx])))) <;> (try with_reducible and_intros) <;> (first | exact fz | skip)
    · refine hr.app1 x.path (Fits.upPur hf (by omega)) (by simp) (by simp only [List.length_map]; omega) ?_
      intro r v' m'' hr' _ _ hrs
      rw [if_pos c1] at hst
      (have d1 : Dm := ⟨⟩; have d2 : Dm := ⟨⟩; have d3 : Dm := ⟨⟩; have d4 : Dm := ⟨⟩; have d5 : Dm := ⟨⟩; have d6 : Dm := ⟨⟩) <;> (try simp -implicitDefEqProofs -dsimp (maxSteps := 2000000) (disch := (first | exact dz | fail)) only [go_sem, ]) <;> (repeat' (first | ((with_reducible refine ds_and ?_ ?_); focus exact kz) | ((with_reducible refine And.intro ?_ ?_); focus exact oz) | ((with_reducible refine pc_and ?_ ?_); focus exact pz) | ((first | with_reducible refine gIf_t ?_ ?_ | with_reducible refine gIf_f ?_ ?_ | with_reducible refine ite_t ?_ ?_ | with_reducible refine ite_p ?_ ?_) <;> (first | (have z := (d1 : Dm); clear z d1; intro d1; try simp only [noR] at d1) | (have z := (d2 : Dm); clear z d2; intro d2; try simp only [noR] at d2) | (have z := (d3 : Dm); clear z d3; intro d3; try simp only [noR] at d3) | (have z := (d4 : Dm); clear z d4; intro d4; try simp only [noR] at d4) | (have z := (d5 : Dm); clear z d5; intro d5; try simp only [noR] at d5) | (have z := (d6 : Dm); clear z d6; intro d6; try simp only [noR] at d6)) <;> (try simp -implicitDefEqProofs -dsimp (maxSteps := 2000000) (disch := (first | exact dz | fail)) only [go_sem, d6, d5, d4, d3, d2, d1])))) <;> (try with_reducible and_intros) <;> (first | exact fz | skip)
      refine ⟨_, by omega, i + 1, v', rfl, rfl, ?_, by omega, rfl⟩
      rw [hst]; simpa using hr'
    · rw [if_neg (by simp [c1])] at hst
      refine ⟨_, by omega, i + 1, v, rfl, rfl, ?_, by omega, rfl⟩
      rw [hst, List.append_nil]; simpa using hr
  · (have c1 : Dm := ⟨⟩; have c2 : Dm := ⟨⟩; have c3 : Dm := ⟨⟩; have c4 : Dm := ⟨⟩; have c5 : Dm := ⟨⟩; have c6 : Dm := ⟨⟩) <;> (try simp -implicitDefEqProofs -dsimp (maxSteps := 2000000) (disch := (first | exact dz | fail)) only [go_sem, h0, h1, h6, h7, hlt, hr.frz1 clean_tx tx_ifc (Nat.le_refl _)]) <;> (repeat' (first | ((with_reducible refine ds_and ?_ ?_); focus exact kz) | ((with_reducible refine And.intro ?_ ?_); focus exact oz) | ((with_reducible refine pc_and ?_ ?_); focus exact pz) | ((first | with_reducible refine gIf_t ?_ ?_ | with_reducible refine gIf_f ?_ ?_ | with_reducible refine ite_t ?_ ?_ | with_reducible refine ite_p ?_ ?_) <;> (first | (have z := (c1 : Dm); clear z c1; intro c1; try simp only [noR] at c1) | (have z := (c2 : Dm); clear z c2; intro c2; try simp only [noR] at c2) | (have z := (c3 : Dm); clear z c3; intro c3; try simp only [noR] at c3) | (have z := (c4 : Dm); clear z c4; intro c4; try simp only [noR] at c4) | (have z := (c5 : Dm); clear z c5; intro c5; try simp only [noR] at c5) | (have z := (c6 : Dm); clear z c6; intro c6; try simp only [noR] at c6)) <;> (try simp -implicitDefEqProofs -dsimp (maxSteps := 2000000) (disch := (first | exact dz | fail)) only [go_sem, c6, c5, c4, c3, c2, c1, h0, h1, h6, h7, hlt, hr.frz1 clean_tx tx_ifc (Nat.le_refl _)])))) <;> (try with_reducible and_intros) <;> (first | exact fz | skip)
    simp [keptA, keptL, hq1, hq2]
end
end Go.Proofs.YtcmjidnbbfcbjaaDoor.V.L1
namespace Go.Proofs.YtcmjidnbbfcbjaaDoor.V
open Go
set_option linter.unusedVariables false
set_option linter.unusedSimpArgs false
set_option maxRecDepth 100000
set_option maxHeartbeats 4000000
noncomputable section
variable {en : Env} {m : Mem}
def sizeL (l : List Pn) : Nat := ((l.filter fun o => decide (o.kind = 7)).map fun o => o.data.length).sum
theorem size_step {l : List Pn} {i : Nat} {o : Pn} (h : l[i]? = some o) : sizeL (l.take (i + 1)) = sizeL (l.take i) + (if o.kind = 7 then o.data.length else 0) := by
  unfold sizeL
  rw [filter_stepP h, List.map_append, List.sum_append]
  by_cases hk : o.kind = 7 <;> simp [hk]
theorem size_le {l : List Pn} {B : Nat} (h : ∀ o ∈ l, o.data.length ≤ B) : sizeL l ≤ l.length * B := by
  induction l with
  | nil => simp [sizeL]
  | cons o l ih =>
    have h1 := ih fun o h' => h o (by simp [h'])
    have h2 := h o (by simp)
    rw [List.length_cons, Nat.succ_mul]
    unfold sizeL at *
    rw [List.filter_cons]
    split
    · simp only [List.map_cons, List.sum_cons]; omega
    · omega
structure FitO (l : List Pn) : Prop where
  len : l.length < 2147483648
  data : ∀ o ∈ l, o.data.length ≤ 2147483648
end
end Go.Proofs.YtcmjidnbbfcbjaaDoor.V
namespace Go.Proofs.YtcmjidnbbfcbjaaDoor.V.L1
open Go V
set_option linter.unusedVariables false
set_option linter.unusedSimpArgs false
set_option maxRecDepth 100000
set_option maxHeartbeats 4000000
noncomputable section
variable {en : Env} {m : Mem}
theorem size_ok (x : Sl Pn) (hx : FitO x.l) (hf : Fits en m.length) : WC Tryd.prog pol en (.func 13) [slf opC x] m fun v m' => v = I (sizeL x.l) ∧ m' = m := by
  have hxl := hx.len
  refine callPur Tryd.func13 rfl rfl Tryd.ntmps13 Tryd.results13 ?_
  (have hq1 : Dm := ⟨⟩; have hq2 : Dm := ⟨⟩; have hq3 : Dm := ⟨⟩; have hq4 : Dm := ⟨⟩; have hq5 : Dm := ⟨⟩; have hq6 : Dm := ⟨⟩) <;> (try simp -implicitDefEqProofs -dsimp (maxSteps := 2000000) (disch := (first | exact dz | fail)) only [go_sem, ]) <;> (repeat' (first | ((with_reducible refine ds_and ?_ ?_); focus exact kz) | ((with_reducible refine And.intro ?_ ?_); focus exact oz) | ((with_reducible refine pc_and ?_ ?_); focus exact pz) | ((first | with_reducible refine gIf_t ?_ ?_ | with_reducible refine gIf_f ?_ ?_ | with_reducible refine ite_t ?_ ?_ | with_reducible refine ite_p ?_ ?_) <;> (first | (have z := (hq1 : Dm); clear z hq1; intro hq1; try simp only [noR] at hq1) | (have z := (hq2 : Dm); clear z hq2; intro hq2; try simp only [noR] at hq2) | (have z := (hq3 : Dm); clear z hq3; intro hq3; try simp only [noR] at hq3) | (have z := (hq4 : Dm); clear z hq4; intro hq4; try simp only [noR] at hq4) | (have z := (hq5 : Dm); clear z hq5; intro hq5; try simp only [noR] at hq5) | (have z := (hq6 : Dm); clear z hq6; intro hq6; try simp only [noR] at hq6)) <;> (try simp -implicitDefEqProofs -dsimp (maxSteps := 2000000) (disch := (first | exact dz | fail)) only [go_sem, hq6, hq5, hq4, hq3, hq2, hq1])))) <;> (try with_reducible and_intros) <;> (first | exact fz | skip)
  refine loopF (fun k ts m' => ∃ (i : Nat), ts.length = 26 ∧ tg ts 0 = slf opC x ∧ tg ts 3 = I (sizeL (x.l.take i)) ∧ tg ts 4 = I i ∧ m' = m ∧ i ≤ x.l.length ∧ k = x.l.length - i) x.l.length ⟨0, rfl, rfl, rfl, rfl, rfl, by omega, by omega⟩ ?_
  rintro k ts m' ⟨i, hl, h0, h3, h4, rfl, hi, rfl⟩
  rw [expandT hl]
  by_cases hlt : (i : Int) < (x.l.length : Int)
  · obtain ⟨o, ho⟩ : ∃ o, x.l[i]? = some o := ⟨_, List.getElem?_eq_getElem (by omega)⟩
    have hst := size_step ho
    have hb : sizeL (x.l.take i) ≤ 2147483648 * 2147483648 := by
      refine Nat.le_trans (size_le (B := 2147483648) fun o h => hx.data o (List.mem_of_mem_take h)) (Nat.mul_le_mul_right _ ?_)
      simp; omega
    have hd := hx.data o (List.mem_of_getElem? ho)
    (have c1 : Dm := ⟨⟩; have c2 : Dm := ⟨⟩; have c3 : Dm := ⟨⟩; have c4 : Dm := ⟨⟩; have c5 : Dm := ⟨⟩; have c6 : Dm := ⟨⟩) <;> (try simp -implicitDefEqProofs -dsimp (maxSteps := 2000000) (disch := (first | exact dz | fail)) only [go_sem, h0, h3, h4, hlt, ho]) <;> (repeat' (first | ((with_reducible refine ds_and ?_ ?_); focus exact kz) | ((with_reducible refine And.intro ?_ ?_); focus exact oz) | ((with_reducible refine pc_and ?_ ?_); focus exact pz) | ((first | with_reducible refine gIf_t ?_ ?_ | with_reducible refine gIf_f ?_ ?_ | with_reducible refine ite_t ?_ ?_ | with_reducible refine ite_p ?_ ?_) <;> (first | (have z := (c1 : Dm); clear z c1; intro c1; try simp only [noR] at c1) | (have z := (c2 : Dm); clear z c2; intro c2; try simp only [noR] at c2) | (have z := (c3 : Dm); clear z c3; intro c3; try simp only [noR] at c3) | (have z := (c4 : Dm); clear z c4; intro c4; try simp only [noR] at c4) | (have z := (c5 : Dm); clear z c5; intro c5; try simp only [noR] at c5) | (have z := (c6 : Dm); clear z c6; intro c6; try simp only [noR] at c6)) <;> (try simp -implicitDefEqProofs -dsimp (maxSteps := 2000000) (disch := (first | exact dz | fail)) only [go_sem, c6, c5, c4, c3, c2, c1, h0, h3, h4, hlt, ho])))) <;> (try with_reducible and_intros) <;> (first | exact fz | skip)
    · rw [if_pos c1] at hst
      refine ⟨_, by omega, i + 1, ?_, rfl, by omega, rfl⟩
      rw [hst]; simp
    · rw [if_neg c1] at hst
      exact ⟨_, by omega, i + 1, by rw [hst]; rfl, rfl, by omega, rfl⟩
  · (have c1 : Dm := ⟨⟩; have c2 : Dm := ⟨⟩; have c3 : Dm := ⟨⟩; have c4 : Dm := ⟨⟩; have c5 : Dm := ⟨⟩; have c6 : Dm := ⟨⟩) <;> (try simp -implicitDefEqProofs -dsimp (maxSteps := 2000000) (disch := (first | exact dz | fail)) only [go_sem, h0, h3, h4, hlt]) <;> (repeat' (first | ((with_reducible refine ds_and ?_ ?_); focus exact kz) | ((with_reducible refine And.intro ?_ ?_); focus exact oz) | ((with_reducible refine pc_and ?_ ?_); focus exact pz) | ((first | with_reducible refine gIf_t ?_ ?_ | with_reducible refine gIf_f ?_ ?_ | with_reducible refine ite_t ?_ ?_ | with_reducible refine ite_p ?_ ?_) <;> (first | (have z := (c1 : Dm); clear z c1; intro c1; try simp only [noR] at c1) | (have z := (c2 : Dm); clear z c2; intro c2; try simp only [noR] at c2) | (have z := (c3 : Dm); clear z c3; intro c3; try simp only [noR] at c3) | (have z := (c4 : Dm); clear z c4; intro c4; try simp only [noR] at c4) | (have z := (c5 : Dm); clear z c5; intro c5; try simp only [noR] at c5) | (have z := (c6 : Dm); clear z c6; intro c6; try simp only [noR] at c6)) <;> (try simp -implicitDefEqProofs -dsimp (maxSteps := 2000000) (disch := (first | exact dz | fail)) only [go_sem, c6, c5, c4, c3, c2, c1, h0, h3, h4, hlt])))) <;> (try with_reducible and_intros) <;> (first | exact fz | skip)
end
end Go.Proofs.YtcmjidnbbfcbjaaDoor.V.L1
/- What two trees differ by, of the reference; no condition. -/
namespace Go.Proofs.YtcmjidnbbfcbjaaDoor.V
open Go
set_option linter.unusedVariables false
set_option linter.unusedSimpArgs false
set_option maxRecDepth 100000
set_option maxHeartbeats 4000000
noncomputable section
variable {en : Env} {m : Mem}
def pn (k : Int) (p : List UInt8) : Pn := ⟨k, p, [], 0, []⟩
def g1 (a b : List Nd) (n : Nd) : List Pn := if (!n.dir && !keptB a b n.path) = true then [pn 4 n.path] else []
def g2 (a b : List Nd) (n : Nd) : List Pn := if (n.dir && !keptB a b n.path) = true then [pn 5 n.path] else []
def g3 (a b : List Nd) (n : Nd) : List Pn := if (n.dir && !keptB a b n.path) = true then [pn 2 n.path] else []
def lk1 (p q : List UInt8) : Pn := ⟨3, p, q, 0, []⟩
def g4 (a b : List Nd) (n : Nd) : List Pn := if (n.dir || (!decide (n.first = n.path) || keptB a b n.path)) = true then [] else pn 1 n.path :: ((linksL b n.path).drop 1).map (lk1 n.path)
def piece (p d : List UInt8) (k : Nat) : Pn := ⟨7, p, [], (k * 64 : Nat), (d.drop (k * 64)).take 64⟩
def pieces (p d : List UInt8) : List Pn := (List.range ((d.length + 63) / 64)).map (piece p d)
def wasL (a b : List Nd) (n : Nd) : List UInt8 := if keptB a b n.path = true then ((getL a n.path).getD nd0).data else []
def rewL (p was is : List UInt8) : List Pn := if was = is then [] else (if was = [] then [] else [pn 8 p]) ++ pieces p is
def g5 (a b : List Nd) (n : Nd) : List Pn := if (n.dir || !decide (n.first = n.path)) = true then [] else rewL n.path (wasL a b n) n.data
def diffL (a b : List Nd) : List Pn := a.flatMap (g1 a b) ++ a.reverse.flatMap (g2 a b) ++ b.flatMap (g3 a b) ++ b.flatMap (g4 a b) ++ b.flatMap (g5 a b)
theorem g1_le (a b : List Nd) (n : Nd) : (g1 a b n).length ≤ 1 := by unfold g1; split <;> simp
theorem g2_le (a b : List Nd) (n : Nd) : (g2 a b n).length ≤ 1 := by unfold g2; split <;> simp
theorem g3_le (a b : List Nd) (n : Nd) : (g3 a b n).length ≤ 1 := by unfold g3; split <;> simp
theorem g4_le (a b : List Nd) (n : Nd) : (g4 a b n).length ≤ 1 + b.length := by
  unfold g4; split
  · simp
  · have := linksLen b n.path
    simp; omega
theorem rewL_le (p was is : List UInt8) (h : is.length ≤ 256) : (rewL p was is).length ≤ 6 := by
  unfold rewL pieces
  split
  · simp
  · split <;> simp <;> omega
theorem pieces_len (p d : List UInt8) : (pieces p d).length = (d.length + 63) / 64 := by simp [pieces]
theorem pieces_step {p d : List UInt8} {j : Nat} (h : j * 64 < d.length) : (pieces p d).take (j + 1) = (pieces p d).take j ++ [piece p d j] := by
  rw [List.take_add_one]
  congr 1
  have : (pieces p d)[j]? = some (piece p d j) := by
    unfold pieces
    rw [List.getElem?_map, List.getElem?_range (by omega)]; rfl
  rw [this]; rfl
def diffA (o : Bool) (l : List Pn) : AV := if o = true then .tup [slf opC ⟨true, false, l⟩, errA 0] else .tup [.nilS, errA 3]
end
end Go.Proofs.YtcmjidnbbfcbjaaDoor.V
namespace Go.Proofs.YtcmjidnbbfcbjaaDoor.V.L1
open Go V
set_option linter.unusedVariables false
set_option linter.unusedSimpArgs false
set_option maxRecDepth 100000
set_option maxHeartbeats 4000000
noncomputable section
variable {en : Env} {m : Mem}
theorem diff_ok (a b : Sl Nd) (ha : FitT a.l) (hb : FitT b.l) (hf : Fits en m.length) : WC Tryd.prog pol en (.func 7) [slf ndC a, slf ndC b] m fun v m' => v = diffA (rightL a.l && rightL b.l) (diffL a.l b.l) ∧ m' = m := by
  have hal := ha.len
  have hbl := hb.len
  have hra := fun (en : Env) (m : Mem) Q (hf : Fits en m.length) => (right_ok (m := m) (en := en) a ha hf).rule Q
  have hrb := fun (en : Env) (m : Mem) Q (hf : Fits en m.length) => (right_ok (m := m) (en := en) b hb hf).rule Q
  have hk := fun (p : List UInt8) (en : Env) (m : Mem) Q (hf : Fits en m.length) => (kept_ok (m := m) (en := en) a b p ha hb hf).rule Q
  have hlb := fun (p : List UInt8) (en : Env) (m : Mem) Q (hf : Fits en m.length) => (links_ok (m := m) (en := en) b p hb hf).rule Q
  refine callPur Tryd.func7 rfl rfl Tryd.ntmps7 Tryd.results7 ?_
  (have hq1 : Dm := ⟨⟩; have hq2 : Dm := ⟨⟩; have hq3 : Dm := ⟨⟩; have hq4 : Dm := ⟨⟩; have hq5 : Dm := ⟨⟩; have hq6 : Dm := ⟨⟩) <;> (try simp -implicitDefEqProofs -dsimp (maxSteps := 2000000) (disch := (first | exact dz | fail)) only [go_sem, hra, hrb]) <;> (repeat' (first | ((with_reducible refine ds_and ?_ ?_); focus exact kz) | ((with_reducible refine And.intro ?_ ?_); focus exact oz) | ((with_reducible refine pc_and ?_ ?_); focus exact pz) | ((first | with_reducible refine gIf_t ?_ ?_ | with_reducible refine gIf_f ?_ ?_ | with_reducible refine ite_t ?_ ?_ | with_reducible refine ite_p ?_ ?_) <;> (first | (have z := (hq1 : Dm); clear z hq1; intro hq1; try simp only [noR] at hq1) | (have z := (hq2 : Dm); clear z hq2; intro hq2; try simp only [noR] at hq2) | (have z := (hq3 : Dm); clear z hq3; intro hq3; try simp only [noR] at hq3) | (have z := (hq4 : Dm); clear z hq4; intro hq4; try simp only [noR] at hq4) | (have z := (hq5 : Dm); clear z hq5; intro hq5; try simp only [noR] at hq5) | (have z := (hq6 : Dm); clear z hq6; intro hq6; try simp only [noR] at hq6)) <;> (try simp -implicitDefEqProofs -dsimp (maxSteps := 2000000) (disch := (first | exact dz | fail)) only [go_sem, hq6, hq5, hq4, hq3, hq2, hq1, hra, hrb])))) <;> (try with_reducible and_intros) <;> (first | exact fz | skip)
  · simp [diffA, hq1]
  · simp [diffA, hq2]
  obtain ⟨_, ha512, _⟩ := right_facts hq1
  obtain ⟨_, hb512, _⟩ := right_facts hq2
  refine loopF (fun k ts m' => ∃ (i : Nat) (v : AV), ts.length = 298 ∧ tg ts 0 = slf ndC a ∧ tg ts 1 = slf ndC b ∧ tg ts 6 = kv v ∧ tg ts 7 = I i ∧ RW opC m.length ((a.l.take i).flatMap (g1 a.l b.l)) v m' ∧ i ≤ a.l.length ∧ k = a.l.length - i) a.l.length ⟨0, _, rfl, rfl, rfl, rfl, rfl, RW.nil (Nat.le_refl _), by omega, by omega⟩ ?_
  rintro k ts m' ⟨i, v, hl, h0, h1, h6, h7, hr, hi, rfl⟩
  rw [expandT hl]
  have hle := hr.le
  have hfl := flatMap_le (g1 a.l b.l) 1 (a.l.take i) (fun x _ => g1_le _ _ x)
  have htl : (a.l.take i).length ≤ 512 := by simp; omega
  by_cases hlt : (i : Int) < (a.l.length : Int)
  · obtain ⟨x, hx⟩ : ∃ x, a.l[i]? = some x := ⟨_, List.getElem?_eq_getElem (by omega)⟩
    have hst := flatMap_step hx (g1 a.l b.l)
    (have c1 : Dm := ⟨⟩; have c2 : Dm := ⟨⟩; have c3 : Dm := ⟨⟩; have c4 : Dm := ⟨⟩; have c5 : Dm := ⟨⟩; have c6 : Dm := ⟨⟩) <;> (try simp -implicitDefEqProofs -dsimp (maxSteps := 2000000) (disch := (first | exact dz | fail)) only [go_sem, h0, h1, h6, h7, hlt, hk, hx]) <;> (repeat' (first | ((with_reducible refine ds_and ?_ ?_); focus exact kz) | ((with_reducible refine And.intro ?_ ?_); focus exact oz) | ((with_reducible refine pc_and ?_ ?_); focus exact pz) | ((first | with_reducible refine gIf_t ?_ ?_ | with_reducible refine gIf_f ?_ ?_ | with_reducible refine ite_t ?_ ?_ | with_reducible refine ite_p ?_ ?_) <;> (first | (have z := (c1 : Dm); clear z c1; intro c1; try simp only [noR] at c1) | (have z := (c2 : Dm); clear z c2; intro c2; try simp only [noR] at c2) | (have z := (c3 : Dm); clear z c3; intro c3; try simp only [noR] at c3) | (have z := (c4 : Dm); clear z c4; intro c4; try simp only [noR] at c4) | (have z := (c5 : Dm); clear z c5; intro c5; try simp only [noR] at c5) | (have z := (c6 : Dm); clear z c6; intro c6; try simp only [noR] at c6)) <;> (try simp -implicitDefEqProofs -dsimp (maxSteps := 2000000) (disch := (first | exact dz | fail)) only [go_sem, c6, c5, c4, c3, c2, c1, h0, h1, h6, h7, hlt, hk, hx])))) <;> (try with_reducible and_intros) <;> (first | exact fz | skip)
    · refine hr.app (pn 4 x.path) rfl (Fits.upPur hf (by omega)) (by simp) (by omega) (by omega) ?_
      intro r v' m'' hr' _ _ hrs
      have hg : g1 a.l b.l x = [pn 4 x.path] := by simp [g1, c1, c2]
      (have d1 : Dm := ⟨⟩; have d2 : Dm := ⟨⟩; have d3 : Dm := ⟨⟩; have d4 : Dm := ⟨⟩; have d5 : Dm := ⟨⟩; have d6 : Dm := ⟨⟩) <;> (try simp -implicitDefEqProofs -dsimp (maxSteps := 2000000) (disch := (first | exact dz | fail)) only [go_sem, ]) <;> (repeat' (first | ((with_reducible refine ds_and ?_ ?_); focus exact kz) | ((with_reducible refine And.intro ?_ ?_); focus exact oz) | ((with_reducible refine pc_and ?_ ?_); focus exact pz) | ((first | with_reducible refine gIf_t ?_ ?_ | with_reducible refine gIf_f ?_ ?_ | with_reducible refine ite_t ?_ ?_ | with_reducible refine ite_p ?_ ?_) <;> (first | (have z := (d1 : Dm); clear z d1; intro d1; try simp only [noR] at d1) | (have z := (d2 : Dm); clear z d2; intro d2; try simp only [noR] at d2) | (have z := (d3 : Dm); clear z d3; intro d3; try simp only [noR] at d3) | (have z := (d4 : Dm); clear z d4; intro d4; try simp only [noR] at d4) | (have z := (d5 : Dm); clear z d5; intro d5; try simp only [noR] at d5) | (have z := (d6 : Dm); clear z d6; intro d6; try simp only [noR] at d6)) <;> (try simp -implicitDefEqProofs -dsimp (maxSteps := 2000000) (disch := (first | exact dz | fail)) only [go_sem, d6, d5, d4, d3, d2, d1])))) <;> (try with_reducible and_intros) <;> (first | exact fz | skip)
      refine ⟨_, by omega, i + 1, v', rfl, rfl, ?_, by omega, rfl⟩
      rw [hst, hg]; exact hr'
    · have hg : g1 a.l b.l x = [] := by simp [g1, c1, c2]
      refine ⟨_, by omega, i + 1, v, rfl, rfl, ?_, by omega, rfl⟩
      rw [hst, hg, List.append_nil]; exact hr
    · have hg : g1 a.l b.l x = [] := by simp [g1, c1]
      refine ⟨_, by omega, i + 1, v, rfl, rfl, ?_, by omega, rfl⟩
      rw [hst, hg, List.append_nil]; exact hr
  rw [List.take_of_length_le (by omega)] at hr hfl
  have hw1 : IntKind.i64.wrap ((a.l.length : Int) - 1) = (a.l.length : Int) - 1 := i64w (by omega)
  (have c1 : Dm := ⟨⟩; have c2 : Dm := ⟨⟩; have c3 : Dm := ⟨⟩; have c4 : Dm := ⟨⟩; have c5 : Dm := ⟨⟩; have c6 : Dm := ⟨⟩) <;> (try simp -implicitDefEqProofs -dsimp (maxSteps := 2000000) (disch := (first | exact dz | fail)) only [go_sem, h0, h1, h6, h7, hlt, hw1]) <;> (repeat' (first | ((with_reducible refine ds_and ?_ ?_); focus exact kz) | ((with_reducible refine And.intro ?_ ?_); focus exact oz) | ((with_reducible refine pc_and ?_ ?_); focus exact pz) | ((first | with_reducible refine gIf_t ?_ ?_ | with_reducible refine gIf_f ?_ ?_ | with_reducible refine ite_t ?_ ?_ | with_reducible refine ite_p ?_ ?_) <;> (first | (have z := (c1 : Dm); clear z c1; intro c1; try simp only [noR] at c1) | (have z := (c2 : Dm); clear z c2; intro c2; try simp only [noR] at c2) | (have z := (c3 : Dm); clear z c3; intro c3; try simp only [noR] at c3) | (have z := (c4 : Dm); clear z c4; intro c4; try simp only [noR] at c4) | (have z := (c5 : Dm); clear z c5; intro c5; try simp only [noR] at c5) | (have z := (c6 : Dm); clear z c6; intro c6; try simp only [noR] at c6)) <;> (try simp -implicitDefEqProofs -dsimp (maxSteps := 2000000) (disch := (first | exact dz | fail)) only [go_sem, c6, c5, c4, c3, c2, c1, h0, h1, h6, h7, hlt, hw1]))))
  clear hl h0 h1 h6 h7 hi hlt hle
  generalize hA : a.l.flatMap (g1 a.l b.l) = A at hr hfl
  refine loopF (fun k ts m' => ∃ (i : Nat) (v : AV), ts.length = 298 ∧ tg ts 0 = slf ndC a ∧ tg ts 1 = slf ndC b ∧ tg ts 6 = kv v ∧ tg ts 8 = I ((i : Int) - 1) ∧ RW opC m.length (A ++ (a.l.reverse.take (a.l.length - i)).flatMap (g2 a.l b.l)) v m' ∧ i ≤ a.l.length ∧ k = i) a.l.length ⟨a.l.length, _, rfl, rfl, rfl, rfl, rfl, by rw [Nat.sub_self, List.take_zero, List.flatMap_nil, List.append_nil]; exact hr, by omega, by omega⟩ ?_
  clear hr v m'
  rintro k ts m' ⟨i, v, hl, h0, h1, h6, h8, hr, hi, rfl⟩
  rw [expandT hl]
  have hle := hr.le
  have hfl2 := flatMap_le (g2 a.l b.l) 1 (a.l.reverse.take (a.l.length - k)) (fun x _ => g2_le _ _ x)
  have htl2 : (a.l.reverse.take (a.l.length - k)).length ≤ 512 := by simp; omega
  by_cases hlt : ((k : Int) - 1) ≥ 0
  · obtain ⟨j, rfl⟩ : ∃ j, k = j + 1 := ⟨k - 1, by omega⟩
    have ej : ((j + 1 : Nat) : Int) - 1 = (j : Int) := by omega
    rw [ej] at h8 hlt
    obtain ⟨x, hx⟩ : ∃ x, a.l[j]? = some x := ⟨_, List.getElem?_eq_getElem (by omega)⟩
    have hxr : a.l.reverse[a.l.length - (j + 1)]? = some x := by
      rw [List.getElem?_reverse (by omega), ← hx]; congr 1; omega
    have hst := flatMap_step hxr (g2 a.l b.l)
    have e1 : a.l.length - (j + 1) + 1 = a.l.length - j := by omega
    rw [e1] at hst
    have hwj : IntKind.i64.wrap ((j : Int) - 1) = (j : Int) - 1 := i64w (by omega)
    have hjl : (j : Int) < (a.l.length : Int) := by omega
    (have c1 : Dm := ⟨⟩; have c2 : Dm := ⟨⟩; have c3 : Dm := ⟨⟩; have c4 : Dm := ⟨⟩; have c5 : Dm := ⟨⟩; have c6 : Dm := ⟨⟩) <;> (try simp -implicitDefEqProofs -dsimp (maxSteps := 2000000) (disch := (first | exact dz | fail)) only [go_sem, h0, h1, h6, h8, hlt, hk, hx, hwj]) <;> (repeat' (first | ((with_reducible refine ds_and ?_ ?_); focus exact kz) | ((with_reducible refine And.intro ?_ ?_); focus exact oz) | ((with_reducible refine pc_and ?_ ?_); focus exact pz) | ((first | with_reducible refine gIf_t ?_ ?_ | with_reducible refine gIf_f ?_ ?_ | with_reducible refine ite_t ?_ ?_ | with_reducible refine ite_p ?_ ?_) <;> (first | (have z := (c1 : Dm); clear z c1; intro c1; try simp only [noR] at c1) | (have z := (c2 : Dm); clear z c2; intro c2; try simp only [noR] at c2) | (have z := (c3 : Dm); clear z c3; intro c3; try simp only [noR] at c3) | (have z := (c4 : Dm); clear z c4; intro c4; try simp only [noR] at c4) | (have z := (c5 : Dm); clear z c5; intro c5; try simp only [noR] at c5) | (have z := (c6 : Dm); clear z c6; intro c6; try simp only [noR] at c6)) <;> (try simp -implicitDefEqProofs -dsimp (maxSteps := 2000000) (disch := (first | exact dz | fail)) only [go_sem, c6, c5, c4, c3, c2, c1, h0, h1, h6, h8, hlt, hk, hx, hwj])))) <;> (try with_reducible and_intros) <;> (first | exact fz | skip)
    · refine hr.app (pn 5 x.path) rfl (Fits.upPur hf (by omega)) (by simp) (by rw [List.length_append]; omega) (by omega) ?_
      intro r v' m'' hr' _ _ hrs
      have hg : g2 a.l b.l x = [pn 5 x.path] := by simp [g2, c1, c2]
      (have d1 : Dm := ⟨⟩; have d2 : Dm := ⟨⟩; have d3 : Dm := ⟨⟩; have d4 : Dm := ⟨⟩; have d5 : Dm := ⟨⟩; have d6 : Dm := ⟨⟩) <;> (try simp -implicitDefEqProofs -dsimp (maxSteps := 2000000) (disch := (first | exact dz | fail)) only [go_sem, hwj]) <;> (repeat' (first | ((with_reducible refine ds_and ?_ ?_); focus exact kz) | ((with_reducible refine And.intro ?_ ?_); focus exact oz) | ((with_reducible refine pc_and ?_ ?_); focus exact pz) | ((first | with_reducible refine gIf_t ?_ ?_ | with_reducible refine gIf_f ?_ ?_ | with_reducible refine ite_t ?_ ?_ | with_reducible refine ite_p ?_ ?_) <;> (first | (have z := (d1 : Dm); clear z d1; intro d1; try simp only [noR] at d1) | (have z := (d2 : Dm); clear z d2; intro d2; try simp only [noR] at d2) | (have z := (d3 : Dm); clear z d3; intro d3; try simp only [noR] at d3) | (have z := (d4 : Dm); clear z d4; intro d4; try simp only [noR] at d4) | (have z := (d5 : Dm); clear z d5; intro d5; try simp only [noR] at d5) | (have z := (d6 : Dm); clear z d6; intro d6; try simp only [noR] at d6)) <;> (try simp -implicitDefEqProofs -dsimp (maxSteps := 2000000) (disch := (first | exact dz | fail)) only [go_sem, d6, d5, d4, d3, d2, d1, hwj])))) <;> (try with_reducible and_intros) <;> (first | exact fz | skip)
      refine ⟨j, by omega, j, v', rfl, rfl, ?_, by omega, rfl⟩
      rw [hst, hg, ← List.append_assoc]; exact hr'
    · have hg : g2 a.l b.l x = [] := by simp [g2, c1, c2]
      refine ⟨j, by omega, j, v, rfl, rfl, ?_, by omega, rfl⟩
      rw [hst, hg, List.append_nil]; exact hr
    · have hg : g2 a.l b.l x = [] := by simp [g2, c1]
      refine ⟨j, by omega, j, v, rfl, rfl, ?_, by omega, rfl⟩
      rw [hst, hg, List.append_nil]; exact hr
  rw [show k = 0 by omega, Nat.sub_zero, List.take_of_length_le (by simp)] at hr hfl2
  (have c1 : Dm := ⟨⟩; have c2 : Dm := ⟨⟩; have c3 : Dm := ⟨⟩; have c4 : Dm := ⟨⟩; have c5 : Dm := ⟨⟩; have c6 : Dm := ⟨⟩) <;> (try simp -implicitDefEqProofs -dsimp (maxSteps := 2000000) (disch := (first | exact dz | fail)) only [go_sem, h0, h1, h6, h8, hlt]) <;> (repeat' (first | ((with_reducible refine ds_and ?_ ?_); focus exact kz) | ((with_reducible refine And.intro ?_ ?_); focus exact oz) | ((with_reducible refine pc_and ?_ ?_); focus exact pz) | ((first | with_reducible refine gIf_t ?_ ?_ | with_reducible refine gIf_f ?_ ?_ | with_reducible refine ite_t ?_ ?_ | with_reducible refine ite_p ?_ ?_) <;> (first | (have z := (c1 : Dm); clear z c1; intro c1; try simp only [noR] at c1) | (have z := (c2 : Dm); clear z c2; intro c2; try simp only [noR] at c2) | (have z := (c3 : Dm); clear z c3; intro c3; try simp only [noR] at c3) | (have z := (c4 : Dm); clear z c4; intro c4; try simp only [noR] at c4) | (have z := (c5 : Dm); clear z c5; intro c5; try simp only [noR] at c5) | (have z := (c6 : Dm); clear z c6; intro c6; try simp only [noR] at c6)) <;> (try simp -implicitDefEqProofs -dsimp (maxSteps := 2000000) (disch := (first | exact dz | fail)) only [go_sem, c6, c5, c4, c3, c2, c1, h0, h1, h6, h8, hlt]))))
  clear hl h0 h1 h6 h8 hi hlt hle
  have hAl : (A ++ a.l.reverse.flatMap (g2 a.l b.l)).length ≤ 1024 := by rw [List.length_append]; rw [List.length_reverse] at hfl2; omega
  generalize hA2 : A ++ a.l.reverse.flatMap (g2 a.l b.l) = A2 at hr hAl
  clear hfl hfl2
  refine loopF (fun k ts m' => ∃ (i : Nat) (v : AV), ts.length = 298 ∧ tg ts 0 = slf ndC a ∧ tg ts 1 = slf ndC b ∧ tg ts 6 = kv v ∧ tg ts 9 = I i ∧ RW opC m.length (A2 ++ (b.l.take i).flatMap (g3 a.l b.l)) v m' ∧ i ≤ b.l.length ∧ k = b.l.length - i) b.l.length ⟨0, _, rfl, rfl, rfl, rfl, rfl, by rw [List.take_zero, List.flatMap_nil, List.append_nil]; exact hr, by omega, by omega⟩ ?_
  clear hr v m'
  rintro k ts m' ⟨i, v, hl, h0, h1, h6, h9, hr, hi, rfl⟩
  rw [expandT hl]
  have hle := hr.le
  have hfl := flatMap_le (g3 a.l b.l) 1 (b.l.take i) (fun x _ => g3_le _ _ x)
  have htl : (b.l.take i).length ≤ 512 := by simp; omega
  by_cases hlt : (i : Int) < (b.l.length : Int)
  · obtain ⟨x, hx⟩ : ∃ x, b.l[i]? = some x := ⟨_, List.getElem?_eq_getElem (by omega)⟩
    have hst := flatMap_step hx (g3 a.l b.l)
    (have c1 : Dm := ⟨⟩; have c2 : Dm := ⟨⟩; have c3 : Dm := ⟨⟩; have c4 : Dm := ⟨⟩; have c5 : Dm := ⟨⟩; have c6 : Dm := ⟨⟩) <;> (try simp -implicitDefEqProofs -dsimp (maxSteps := 2000000) (disch := (first | exact dz | fail)) only [go_sem, h0, h1, h6, h9, hlt, hk, hx]) <;> (repeat' (first | ((with_reducible refine ds_and ?_ ?_); focus exact kz) | ((with_reducible refine And.intro ?_ ?_); focus exact oz) | ((with_reducible refine pc_and ?_ ?_); focus exact pz) | ((first | with_reducible refine gIf_t ?_ ?_ | with_reducible refine gIf_f ?_ ?_ | with_reducible refine ite_t ?_ ?_ | with_reducible refine ite_p ?_ ?_) <;> (first | (have z := (c1 : Dm); clear z c1; intro c1; try simp only [noR] at c1) | (have z := (c2 : Dm); clear z c2; intro c2; try simp only [noR] at c2) | (have z := (c3 : Dm); clear z c3; intro c3; try simp only [noR] at c3) | (have z := (c4 : Dm); clear z c4; intro c4; try simp only [noR] at c4) | (have z := (c5 : Dm); clear z c5; intro c5; try simp only [noR] at c5) | (have z := (c6 : Dm); clear z c6; intro c6; try simp only [noR] at c6)) <;> (try simp -implicitDefEqProofs -dsimp (maxSteps := 2000000) (disch := (first | exact dz | fail)) only [go_sem, c6, c5, c4, c3, c2, c1, h0, h1, h6, h9, hlt, hk, hx])))) <;> (try with_reducible and_intros) <;> (first | exact fz | skip)
    · refine hr.app (pn 2 x.path) rfl (Fits.upPur hf (by omega)) (by simp) (by rw [List.length_append]; omega) (by omega) ?_
      intro r v' m'' hr' _ _ hrs
      have hg : g3 a.l b.l x = [pn 2 x.path] := by simp [g3, c1, c2]
      (have d1 : Dm := ⟨⟩; have d2 : Dm := ⟨⟩; have d3 : Dm := ⟨⟩; have d4 : Dm := ⟨⟩; have d5 : Dm := ⟨⟩; have d6 : Dm := ⟨⟩) <;> (try simp -implicitDefEqProofs -dsimp (maxSteps := 2000000) (disch := (first | exact dz | fail)) only [go_sem, ]) <;> (repeat' (first | ((with_reducible refine ds_and ?_ ?_); focus exact kz) | ((with_reducible refine And.intro ?_ ?_); focus exact oz) | ((with_reducible refine pc_and ?_ ?_); focus exact pz) | ((first | with_reducible refine gIf_t ?_ ?_ | with_reducible refine gIf_f ?_ ?_ | with_reducible refine ite_t ?_ ?_ | with_reducible refine ite_p ?_ ?_) <;> (first | (have z := (d1 : Dm); clear z d1; intro d1; try simp only [noR] at d1) | (have z := (d2 : Dm); clear z d2; intro d2; try simp only [noR] at d2) | (have z := (d3 : Dm); clear z d3; intro d3; try simp only [noR] at d3) | (have z := (d4 : Dm); clear z d4; intro d4; try simp only [noR] at d4) | (have z := (d5 : Dm); clear z d5; intro d5; try simp only [noR] at d5) | (have z := (d6 : Dm); clear z d6; intro d6; try simp only [noR] at d6)) <;> (try simp -implicitDefEqProofs -dsimp (maxSteps := 2000000) (disch := (first | exact dz | fail)) only [go_sem, d6, d5, d4, d3, d2, d1])))) <;> (try with_reducible and_intros) <;> (first | exact fz | skip)
      refine ⟨_, by omega, i + 1, v', rfl, rfl, ?_, by omega, rfl⟩
      rw [hst, hg, ← List.append_assoc]; exact hr'
    · have hg : g3 a.l b.l x = [] := by simp [g3, c1, c2]
      refine ⟨_, by omega, i + 1, v, rfl, rfl, ?_, by omega, rfl⟩
      rw [hst, hg, List.append_nil]; exact hr
    · have hg : g3 a.l b.l x = [] := by simp [g3, c1]
      refine ⟨_, by omega, i + 1, v, rfl, rfl, ?_, by omega, rfl⟩
      rw [hst, hg, List.append_nil]; exact hr
  rw [List.take_of_length_le (by omega)] at hr hfl
  (have c1 : Dm := ⟨⟩; have c2 : Dm := ⟨⟩; have c3 : Dm := ⟨⟩; have c4 : Dm := ⟨⟩; have c5 : Dm := ⟨⟩; have c6 : Dm := ⟨⟩) <;> (try simp -implicitDefEqProofs -dsimp (maxSteps := 2000000) (disch := (first | exact dz | fail)) only [go_sem, h0, h1, h6, h9, hlt]) <;> (repeat' (first | ((with_reducible refine ds_and ?_ ?_); focus exact kz) | ((with_reducible refine And.intro ?_ ?_); focus exact oz) | ((with_reducible refine pc_and ?_ ?_); focus exact pz) | ((first | with_reducible refine gIf_t ?_ ?_ | with_reducible refine gIf_f ?_ ?_ | with_reducible refine ite_t ?_ ?_ | with_reducible refine ite_p ?_ ?_) <;> (first | (have z := (c1 : Dm); clear z c1; intro c1; try simp only [noR] at c1) | (have z := (c2 : Dm); clear z c2; intro c2; try simp only [noR] at c2) | (have z := (c3 : Dm); clear z c3; intro c3; try simp only [noR] at c3) | (have z := (c4 : Dm); clear z c4; intro c4; try simp only [noR] at c4) | (have z := (c5 : Dm); clear z c5; intro c5; try simp only [noR] at c5) | (have z := (c6 : Dm); clear z c6; intro c6; try simp only [noR] at c6)) <;> (try simp -implicitDefEqProofs -dsimp (maxSteps := 2000000) (disch := (first | exact dz | fail)) only [go_sem, c6, c5, c4, c3, c2, c1, h0, h1, h6, h9, hlt]))))
  clear hl h0 h1 h6 h9 hi hlt hle
  have hAl2 : (A2 ++ b.l.flatMap (g3 a.l b.l)).length ≤ 1536 := by rw [List.length_append]; omega
  generalize hA3 : A2 ++ b.l.flatMap (g3 a.l b.l) = A3 at hr hAl2
  clear hfl
  refine loopF (fun k ts m' => ∃ (i : Nat) (v : AV), ts.length = 298 ∧ tg ts 0 = slf ndC a ∧ tg ts 1 = slf ndC b ∧ tg ts 6 = kv v ∧ tg ts 10 = I i ∧ RW opC m.length (A3 ++ (b.l.take i).flatMap (g4 a.l b.l)) v m' ∧ i ≤ b.l.length ∧ k = b.l.length - i) b.l.length ⟨0, _, rfl, rfl, rfl, rfl, rfl, by rw [List.take_zero, List.flatMap_nil, List.append_nil]; exact hr, by omega, by omega⟩ ?_
  clear hr v m'
  rintro k ts m' ⟨i, v, hl, h0, h1, h6, h10, hr, hi, rfl⟩
  rw [expandT hl]
  have hle := hr.le
  have hfl := flatMap_le (g4 a.l b.l) 513 (b.l.take i) (fun x _ => Nat.le_trans (g4_le _ _ x) (by omega))
  have htl : (b.l.take i).length * 513 ≤ 512 * 513 := Nat.mul_le_mul_right _ (by simp; omega)
  by_cases hlt : (i : Int) < (b.l.length : Int)
  · obtain ⟨x, hx⟩ : ∃ x, b.l[i]? = some x := ⟨_, List.getElem?_eq_getElem (by omega)⟩
    have hst := flatMap_step hx (g4 a.l b.l)
    have hll := linksLen b.l x.path
    have h4n : (x.dir || (!decide (x.first = x.path) || keptB a.l b.l x.path)) = true → g4 a.l b.l x = [] := fun h => by rw [g4, if_pos h]
    (have c1 : Dm := ⟨⟩; have c2 : Dm := ⟨⟩; have c3 : Dm := ⟨⟩; have c4 : Dm := ⟨⟩; have c5 : Dm := ⟨⟩; have c6 : Dm := ⟨⟩) <;> (try simp -implicitDefEqProofs -dsimp (maxSteps := 2000000) (disch := (first | exact dz | fail)) only [go_sem, h0, h1, h6, h10, hlt, hk, hx]) <;> (repeat' (first | ((with_reducible refine ds_and ?_ ?_); focus exact kz) | ((with_reducible refine And.intro ?_ ?_); focus exact oz) | ((with_reducible refine pc_and ?_ ?_); focus exact pz) | ((first | with_reducible refine gIf_t ?_ ?_ | with_reducible refine gIf_f ?_ ?_ | with_reducible refine ite_t ?_ ?_ | with_reducible refine ite_p ?_ ?_) <;> (first | (have z := (c1 : Dm); clear z c1; intro c1; try simp only [noR] at c1) | (have z := (c2 : Dm); clear z c2; intro c2; try simp only [noR] at c2) | (have z := (c3 : Dm); clear z c3; intro c3; try simp only [noR] at c3) | (have z := (c4 : Dm); clear z c4; intro c4; try simp only [noR] at c4) | (have z := (c5 : Dm); clear z c5; intro c5; try simp only [noR] at c5) | (have z := (c6 : Dm); clear z c6; intro c6; try simp only [noR] at c6)) <;> (try simp -implicitDefEqProofs -dsimp (maxSteps := 2000000) (disch := (first | exact dz | fail)) only [go_sem, c6, c5, c4, c3, c2, c1, h0, h1, h6, h10, hlt, hk, hx])))) <;> (try with_reducible and_intros) <;> (first | exact fz | skip)
    · refine ⟨_, by omega, i + 1, v, rfl, rfl, ?_, by omega, rfl⟩
      rw [hst, h4n (by simp [c1]), List.append_nil]; exact hr
    · refine ⟨_, by omega, i + 1, v, rfl, rfl, ?_, by omega, rfl⟩
      rw [hst, h4n (by simp [c2]), List.append_nil]; exact hr
    · refine ⟨_, by omega, i + 1, v, rfl, rfl, ?_, by omega, rfl⟩
      rw [hst, h4n (by simp [c3]), List.append_nil]; exact hr
    · have h4y : g4 a.l b.l x = pn 1 x.path :: ((linksL b.l x.path).drop 1).map (lk1 x.path) := by rw [g4, if_neg (by simp [c1, c2, c3])]
      refine hr.app (pn 1 x.path) rfl (Fits.upPur hf (by omega)) (by simp) (by rw [List.length_append]; omega) (by omega) ?_
      intro r v' m'' hr' _ _ hrs
      have hle2 := hr'.le
      (have d1 : Dm := ⟨⟩; have d2 : Dm := ⟨⟩; have d3 : Dm := ⟨⟩; have d4 : Dm := ⟨⟩; have d5 : Dm := ⟨⟩; have d6 : Dm := ⟨⟩) <;> (try simp -implicitDefEqProofs -dsimp (maxSteps := 2000000) (disch := (first | exact dz | fail)) only [go_sem, hlt, hx, hlb]) <;> (repeat' (first | ((with_reducible refine ds_and ?_ ?_); focus exact kz) | ((with_reducible refine And.intro ?_ ?_); focus exact oz) | ((with_reducible refine pc_and ?_ ?_); focus exact pz) | ((first | with_reducible refine gIf_t ?_ ?_ | with_reducible refine gIf_f ?_ ?_ | with_reducible refine ite_t ?_ ?_ | with_reducible refine ite_p ?_ ?_) <;> (first | (have z := (d1 : Dm); clear z d1; intro d1; try simp only [noR] at d1) | (have z := (d2 : Dm); clear z d2; intro d2; try simp only [noR] at d2) | (have z := (d3 : Dm); clear z d3; intro d3; try simp only [noR] at d3) | (have z := (d4 : Dm); clear z d4; intro d4; try simp only [noR] at d4) | (have z := (d5 : Dm); clear z d5; intro d5; try simp only [noR] at d5) | (have z := (d6 : Dm); clear z d6; intro d6; try simp only [noR] at d6)) <;> (try simp -implicitDefEqProofs -dsimp (maxSteps := 2000000) (disch := (first | exact dz | fail)) only [go_sem, d6, d5, d4, d3, d2, d1, hlt, hx, hlb])))) <;> (try with_reducible and_intros) <;> (first | exact fz | skip)
      generalize hL : linksL b.l x.path = L at h4y hll
      generalize hD : A3 ++ (b.l.take i).flatMap (g4 a.l b.l) ++ [pn 1 x.path] = D at hr'
      have hDl : D.length ≤ 300000 := by rw [← hD, List.length_append, List.length_append, List.length_singleton]; omega
      clear hr hrs r
      refine loopF (fun k ts m' => ∃ (j : Nat) (v : AV), ts.length = 298 ∧ tg ts 0 = slf ndC a ∧ tg ts 1 = slf ndC b ∧ tg ts 6 = kv v ∧ tg ts 10 = I i ∧ tg ts 11 = sl tx ⟨true, false, L⟩ ∧ tg ts 12 = I j ∧ RW opC m.length (D ++ ((L.take j).drop 1).map (lk1 x.path)) v m' ∧ 1 ≤ j ∧ k = L.length - j) (L.length - 1) ⟨1, _, rfl, rfl, rfl, rfl, rfl, rfl, rfl, by rw [show (L.take 1).drop 1 = [] by cases L <;> simp, List.map_nil, List.append_nil]; exact hr', by omega, rfl⟩ ?_
      clear hr' v'
      rintro k ts mm ⟨j, v, hl, h0, h1, h6, h10, h11, h12, hr, hj, rfl⟩
      rw [expandT hl]
      have hle := hr.le
      have hlj : ((L.take j).drop 1).length ≤ L.length := by simp; omega
      by_cases hlt2 : (j : Int) < (L.length : Int)
      · obtain ⟨s, hs⟩ : ∃ s, L[j]? = some s := ⟨_, List.getElem?_eq_getElem (by omega)⟩
        have hstep : (L.take (j + 1)).drop 1 = (L.take j).drop 1 ++ [s] := by
          rw [List.take_add_one, hs, List.drop_append_of_le_length (by simp; omega)]; rfl
        (have e1 : Dm := ⟨⟩; have e2 : Dm := ⟨⟩; have e3 : Dm := ⟨⟩; have e4 : Dm := ⟨⟩; have e5 : Dm := ⟨⟩; have e6 : Dm := ⟨⟩) <;> (try simp -implicitDefEqProofs -dsimp (maxSteps := 2000000) (disch := (first | exact dz | fail)) only [go_sem, h0, h1, h6, h10, h11, h12, hlt2, hlt, hx, hs]) <;> (repeat' (first | ((with_reducible refine ds_and ?_ ?_); focus exact kz) | ((with_reducible refine And.intro ?_ ?_); focus exact oz) | ((with_reducible refine pc_and ?_ ?_); focus exact pz) | ((first | with_reducible refine gIf_t ?_ ?_ | with_reducible refine gIf_f ?_ ?_ | with_reducible refine ite_t ?_ ?_ | with_reducible refine ite_p ?_ ?_) <;> (first | (have z := (e1 : Dm); clear z e1; intro e1; try simp only [noR] at e1) | (have z := (e2 : Dm); clear z e2; intro e2; try simp only [noR] at e2) | (have z := (e3 : Dm); clear z e3; intro e3; try simp only [noR] at e3) | (have z := (e4 : Dm); clear z e4; intro e4; try simp only [noR] at e4) | (have z := (e5 : Dm); clear z e5; intro e5; try simp only [noR] at e5) | (have z := (e6 : Dm); clear z e6; intro e6; try simp only [noR] at e6)) <;> (try simp -implicitDefEqProofs -dsimp (maxSteps := 2000000) (disch := (first | exact dz | fail)) only [go_sem, e6, e5, e4, e3, e2, e1, h0, h1, h6, h10, h11, h12, hlt2, hlt, hx, hs])))) <;> (try with_reducible and_intros) <;> (first | exact fz | skip)
        refine hr.app (lk1 x.path s) rfl (Fits.upPur hf (by omega)) (by simp) (by rw [List.length_append, List.length_map]; omega) (by omega) ?_
        intro r v' m3 hr' _ _ hrs
        (have f1 : Dm := ⟨⟩; have f2 : Dm := ⟨⟩; have f3 : Dm := ⟨⟩; have f4 : Dm := ⟨⟩; have f5 : Dm := ⟨⟩; have f6 : Dm := ⟨⟩) <;> (try simp -implicitDefEqProofs -dsimp (maxSteps := 2000000) (disch := (first | exact dz | fail)) only [go_sem, ]) <;> (repeat' (first | ((with_reducible refine ds_and ?_ ?_); focus exact kz) | ((with_reducible refine And.intro ?_ ?_); focus exact oz) | ((with_reducible refine pc_and ?_ ?_); focus exact pz) | ((first | with_reducible refine gIf_t ?_ ?_ | with_reducible refine gIf_f ?_ ?_ | with_reducible refine ite_t ?_ ?_ | with_reducible refine ite_p ?_ ?_) <;> (first | (have z := (f1 : Dm); clear z f1; intro f1; try simp only [noR] at f1) | (have z := (f2 : Dm); clear z f2; intro f2; try simp only [noR] at f2) | (have z := (f3 : Dm); clear z f3; intro f3; try simp only [noR] at f3) | (have z := (f4 : Dm); clear z f4; intro f4; try simp only [noR] at f4) | (have z := (f5 : Dm); clear z f5; intro f5; try simp only [noR] at f5) | (have z := (f6 : Dm); clear z f6; intro f6; try simp only [noR] at f6)) <;> (try simp -implicitDefEqProofs -dsimp (maxSteps := 2000000) (disch := (first | exact dz | fail)) only [go_sem, f6, f5, f4, f3, f2, f1])))) <;> (try with_reducible and_intros) <;> (first | exact fz | skip)
        refine ⟨_, by omega, j + 1, v', rfl, rfl, ?_, by omega, rfl⟩
        rw [hstep, List.map_append, ← List.append_assoc]; exact hr'
      · (have e1 : Dm := ⟨⟩; have e2 : Dm := ⟨⟩; have e3 : Dm := ⟨⟩; have e4 : Dm := ⟨⟩; have e5 : Dm := ⟨⟩; have e6 : Dm := ⟨⟩) <;> (try simp -implicitDefEqProofs -dsimp (maxSteps := 2000000) (disch := (first | exact dz | fail)) only [go_sem, h0, h1, h6, h10, h11, h12, hlt2]) <;> (repeat' (first | ((with_reducible refine ds_and ?_ ?_); focus exact kz) | ((with_reducible refine And.intro ?_ ?_); focus exact oz) | ((with_reducible refine pc_and ?_ ?_); focus exact pz) | ((first | with_reducible refine gIf_t ?_ ?_ | with_reducible refine gIf_f ?_ ?_ | with_reducible refine ite_t ?_ ?_ | with_reducible refine ite_p ?_ ?_) <;> (first | (have z := (e1 : Dm); clear z e1; intro e1; try simp only [noR] at e1) | (have z := (e2 : Dm); clear z e2; intro e2; try simp only [noR] at e2) | (have z := (e3 : Dm); clear z e3; intro e3; try simp only [noR] at e3) | (have z := (e4 : Dm); clear z e4; intro e4; try simp only [noR] at e4) | (have z := (e5 : Dm); clear z e5; intro e5; try simp only [noR] at e5) | (have z := (e6 : Dm); clear z e6; intro e6; try simp only [noR] at e6)) <;> (try simp -implicitDefEqProofs -dsimp (maxSteps := 2000000) (disch := (first | exact dz | fail)) only [go_sem, e6, e5, e4, e3, e2, e1, h0, h1, h6, h10, h11, h12, hlt2])))) <;> (try with_reducible and_intros) <;> (first | exact fz | skip)
        refine ⟨_, by omega, i + 1, v, rfl, rfl, ?_, by omega, rfl⟩
        rw [hst, h4y, ← List.append_assoc, List.append_cons, hD]
        rw [List.take_of_length_le (by omega)] at hr; exact hr
  rw [List.take_of_length_le (by omega)] at hr hfl
  (have c1 : Dm := ⟨⟩; have c2 : Dm := ⟨⟩; have c3 : Dm := ⟨⟩; have c4 : Dm := ⟨⟩; have c5 : Dm := ⟨⟩; have c6 : Dm := ⟨⟩) <;> (try simp -implicitDefEqProofs -dsimp (maxSteps := 2000000) (disch := (first | exact dz | fail)) only [go_sem, h0, h1, h6, h10, hlt]) <;> (repeat' (first | ((with_reducible refine ds_and ?_ ?_); focus exact kz) | ((with_reducible refine And.intro ?_ ?_); focus exact oz) | ((with_reducible refine pc_and ?_ ?_); focus exact pz) | ((first | with_reducible refine gIf_t ?_ ?_ | with_reducible refine gIf_f ?_ ?_ | with_reducible refine ite_t ?_ ?_ | with_reducible refine ite_p ?_ ?_) <;> (first | (have z := (c1 : Dm); clear z c1; intro c1; try simp only [noR] at c1) | (have z := (c2 : Dm); clear z c2; intro c2; try simp only [noR] at c2) | (have z := (c3 : Dm); clear z c3; intro c3; try simp only [noR] at c3) | (have z := (c4 : Dm); clear z c4; intro c4; try simp only [noR] at c4) | (have z := (c5 : Dm); clear z c5; intro c5; try simp only [noR] at c5) | (have z := (c6 : Dm); clear z c6; intro c6; try simp only [noR] at c6)) <;> (try simp -implicitDefEqProofs -dsimp (maxSteps := 2000000) (disch := (first | exact dz | fail)) only [go_sem, c6, c5, c4, c3, c2, c1, h0, h1, h6, h10, hlt]))))
  clear hl h0 h1 h6 h10 hi hlt hle
  have hAl3 : (A3 ++ b.l.flatMap (g4 a.l b.l)).length ≤ 300000 := by rw [List.length_append]; omega
  generalize hA4 : A3 ++ b.l.flatMap (g4 a.l b.l) = A4 at hr hAl3
  clear hfl htl
  refine loopF (fun k ts m' => ∃ (i : Nat) (v : AV), ts.length = 298 ∧ tg ts 0 = slf ndC a ∧ tg ts 1 = slf ndC b ∧ tg ts 6 = kv v ∧ tg ts 13 = I i ∧ RW opC m.length (A4 ++ (b.l.take i).flatMap (g5 a.l b.l)) v m' ∧ i ≤ b.l.length ∧ k = b.l.length - i) b.l.length ⟨0, _, rfl, rfl, rfl, rfl, rfl, by rw [List.take_zero, List.flatMap_nil, List.append_nil]; exact hr, by omega, by omega⟩ ?_
  clear hr v m'
  rintro k ts m' ⟨i, v, hl, h0, h1, h6, h13, hr, hi, rfl⟩
  rw [expandT hl]
  have hle := hr.le
  have hfl := flatMap_le (g5 a.l b.l) 6 (b.l.take i) (fun x hx => by
    unfold g5
    split
    · simp
    · exact rewL_le _ _ _ (right_data hq2 x (List.mem_of_mem_take hx)))
  have htl : (b.l.take i).length ≤ 512 := by simp; omega
  by_cases hlt : (i : Int) < (b.l.length : Int)
  · obtain ⟨x, hx⟩ : ∃ x, b.l[i]? = some x := ⟨_, List.getElem?_eq_getElem (by omega)⟩
    have hst := flatMap_step hx (g5 a.l b.l)
    have hdx := right_data hq2 x (List.mem_of_getElem? hx)
    have h5n : (x.dir || !decide (x.first = x.path)) = true → g5 a.l b.l x = [] := fun h => by rw [g5, if_pos h]
    have h5r : x.dir = false → x.first = x.path → g5 a.l b.l x = rewL x.path (wasL a.l b.l x) x.data := fun h1 h2 => by rw [g5, if_neg (by simp [h1, h2])]
    (have c1 : Dm := ⟨⟩; have c2 : Dm := ⟨⟩; have c3 : Dm := ⟨⟩; have c4 : Dm := ⟨⟩; have c5 : Dm := ⟨⟩; have c6 : Dm := ⟨⟩) <;> (try simp -implicitDefEqProofs -dsimp (maxSteps := 2000000) (disch := (first | exact dz | fail)) only [go_sem, h0, h1, h6, h13, hlt, hk, hx, get_eq, getA]) <;> (repeat' (first | ((with_reducible refine ds_and ?_ ?_); focus exact kz) | ((with_reducible refine And.intro ?_ ?_); focus exact oz) | ((with_reducible refine pc_and ?_ ?_); focus exact pz) | ((first | with_reducible refine gIf_t ?_ ?_ | with_reducible refine gIf_f ?_ ?_ | with_reducible refine ite_t ?_ ?_ | with_reducible refine ite_p ?_ ?_) <;> (first | (have z := (c1 : Dm); clear z c1; intro c1; try simp only [noR] at c1) | (have z := (c2 : Dm); clear z c2; intro c2; try simp only [noR] at c2) | (have z := (c3 : Dm); clear z c3; intro c3; try simp only [noR] at c3) | (have z := (c4 : Dm); clear z c4; intro c4; try simp only [noR] at c4) | (have z := (c5 : Dm); clear z c5; intro c5; try simp only [noR] at c5) | (have z := (c6 : Dm); clear z c6; intro c6; try simp only [noR] at c6)) <;> (try simp -implicitDefEqProofs -dsimp (maxSteps := 2000000) (disch := (first | exact dz | fail)) only [go_sem, c6, c5, c4, c3, c2, c1, h0, h1, h6, h13, hlt, hk, hx, get_eq, getA])))) <;> (try with_reducible and_intros) <;> (first | exact fz | skip)
    · refine ⟨_, by omega, i + 1, v, rfl, rfl, ?_, by omega, rfl⟩
      rw [hst, h5n (by simp [c1]), List.append_nil]; exact hr
    · refine ⟨_, by omega, i + 1, v, rfl, rfl, ?_, by omega, rfl⟩
      rw [hst, h5n (by simp [c2]), List.append_nil]; exact hr
    · refine ⟨_, by omega, i + 1, v, rfl, rfl, ?_, by omega, rfl⟩
      have e : g5 a.l b.l x = [] := by rw [h5r c1 c2, rewL, if_pos (by rw [wasL, if_pos c3, c4])]
      rw [hst, e, List.append_nil]; exact hr.push _
    · have h5y : g5 a.l b.l x = [pn 8 x.path] ++ pieces x.path x.data := by
        rw [h5r c1 c2, rewL, wasL, if_pos c3, if_neg c4, if_neg c5]
      refine (hr.push [_]).app (pn 8 x.path) rfl (Fits.upPur hf (by omega)) (by simp) (by rw [List.length_append]; omega) (by omega) ?_
      intro r v' m'' hD _ _ hrs
      (have d1 : Dm := ⟨⟩; have d2 : Dm := ⟨⟩; have d3 : Dm := ⟨⟩; have d4 : Dm := ⟨⟩; have d5 : Dm := ⟨⟩; have d6 : Dm := ⟨⟩) <;> (try simp -implicitDefEqProofs -dsimp (maxSteps := 2000000) (disch := (first | exact dz | fail)) only [go_sem, ]) <;> (repeat' (first | ((with_reducible refine ds_and ?_ ?_); focus exact kz) | ((with_reducible refine And.intro ?_ ?_); focus exact oz) | ((with_reducible refine pc_and ?_ ?_); focus exact pz) | ((first | with_reducible refine gIf_t ?_ ?_ | with_reducible refine gIf_f ?_ ?_ | with_reducible refine ite_t ?_ ?_ | with_reducible refine ite_p ?_ ?_) <;> (first | (have z := (d1 : Dm); clear z d1; intro d1; try simp only [noR] at d1) | (have z := (d2 : Dm); clear z d2; intro d2; try simp only [noR] at d2) | (have z := (d3 : Dm); clear z d3; intro d3; try simp only [noR] at d3) | (have z := (d4 : Dm); clear z d4; intro d4; try simp only [noR] at d4) | (have z := (d5 : Dm); clear z d5; intro d5; try simp only [noR] at d5) | (have z := (d6 : Dm); clear z d6; intro d6; try simp only [noR] at d6)) <;> (try simp -implicitDefEqProofs -dsimp (maxSteps := 2000000) (disch := (first | exact dz | fail)) only [go_sem, d6, d5, d4, d3, d2, d1])))) <;> (try with_reducible and_intros) <;> (first | exact fz | skip)
      obtain ⟨D, hD, hDl, hDD⟩ : ∃ D, RW opC m.length D v' m'' ∧ D.length ≤ 310000 ∧ A4 ++ (b.l.take i).flatMap (g5 a.l b.l) ++ g5 a.l b.l x = D ++ pieces x.path x.data :=
        ⟨_, hD, by rw [List.length_append, List.length_append, List.length_singleton]; omega, by rw [h5y, List.append_assoc, List.append_assoc, List.append_assoc]⟩
      clear hr hrs
      refine loopF (fun k ts m' => ∃ (j o : Nat) (v : AV), ts.length = 298 ∧ tg ts 0 = slf ndC a ∧ tg ts 1 = slf ndC b ∧ tg ts 6 = kv v ∧ tg ts 13 = I i ∧ tg ts 17 = I o ∧ RW opC m.length (D ++ (pieces x.path x.data).take j) v m' ∧ o = j * 64 ∧ o < x.data.length + 64 ∧ k = x.data.length + 64 - o) (x.data.length + 64) ⟨0, 0, _, rfl, rfl, rfl, rfl, rfl, rfl, by rw [List.take_zero, List.append_nil]; exact hD, by omega, by omega, by omega⟩ ?_
      rintro k ts mm ⟨j, o, v, hl, h0, h1, h6, h13, h17, hr, ho, hox, rfl⟩
      rw [expandT hl]
      have hle := hr.le
      have hpl : ((pieces x.path x.data).take j).length ≤ 6 := by rw [List.length_take, pieces_len]; omega
      by_cases hlt2 : (o : Int) < (x.data.length : Int)
      · have hstep := pieces_step (p := x.path) (d := x.data) (j := j) (by omega)
        (have e1 : Dm := ⟨⟩; have e2 : Dm := ⟨⟩; have e3 : Dm := ⟨⟩; have e4 : Dm := ⟨⟩; have e5 : Dm := ⟨⟩; have e6 : Dm := ⟨⟩) <;> (try simp -implicitDefEqProofs -dsimp (maxSteps := 2000000) (disch := (first | exact dz | fail)) only [go_sem, h0, h1, h6, h13, h17, hlt2, hlt, hx]) <;> (repeat' (first | ((with_reducible refine ds_and ?_ ?_); focus exact kz) | ((with_reducible refine And.intro ?_ ?_); focus exact oz) | ((with_reducible refine pc_and ?_ ?_); focus exact pz) | ((first | with_reducible refine gIf_t ?_ ?_ | with_reducible refine gIf_f ?_ ?_ | with_reducible refine ite_t ?_ ?_ | with_reducible refine ite_p ?_ ?_) <;> (first | (have z := (e1 : Dm); clear z e1; intro e1; try simp only [noR] at e1) | (have z := (e2 : Dm); clear z e2; intro e2; try simp only [noR] at e2) | (have z := (e3 : Dm); clear z e3; intro e3; try simp only [noR] at e3) | (have z := (e4 : Dm); clear z e4; intro e4; try simp only [noR] at e4) | (have z := (e5 : Dm); clear z e5; intro e5; try simp only [noR] at e5) | (have z := (e6 : Dm); clear z e6; intro e6; try simp only [noR] at e6)) <;> (try simp -implicitDefEqProofs -dsimp (maxSteps := 2000000) (disch := (first | exact dz | fail)) only [go_sem, e6, e5, e4, e3, e2, e1, h0, h1, h6, h13, h17, hlt2, hlt, hx])))) <;> (try with_reducible and_intros) <;> (first | exact fz | skip)
        · refine hr.app (piece x.path x.data j) ?_ (Fits.upPur hf (by omega)) (by simp) (by rw [List.length_append]; omega) (by omega) ?_
          · simp only [opC, piece, ← ho, List.cons.injEq, and_true, true_and]
            rw [List.take_of_length_le (by simp; omega)]
          intro r v' m3 hr' _ _ hrs
          (have f1 : Dm := ⟨⟩; have f2 : Dm := ⟨⟩; have f3 : Dm := ⟨⟩; have f4 : Dm := ⟨⟩; have f5 : Dm := ⟨⟩; have f6 : Dm := ⟨⟩) <;> (try simp -implicitDefEqProofs -dsimp (maxSteps := 2000000) (disch := (first | exact dz | fail)) only [go_sem, ]) <;> (repeat' (first | ((with_reducible refine ds_and ?_ ?_); focus exact kz) | ((with_reducible refine And.intro ?_ ?_); focus exact oz) | ((with_reducible refine pc_and ?_ ?_); focus exact pz) | ((first | with_reducible refine gIf_t ?_ ?_ | with_reducible refine gIf_f ?_ ?_ | with_reducible refine ite_t ?_ ?_ | with_reducible refine ite_p ?_ ?_) <;> (first | (have z := (f1 : Dm); clear z f1; intro f1; try simp only [noR] at f1) | (have z := (f2 : Dm); clear z f2; intro f2; try simp only [noR] at f2) | (have z := (f3 : Dm); clear z f3; intro f3; try simp only [noR] at f3) | (have z := (f4 : Dm); clear z f4; intro f4; try simp only [noR] at f4) | (have z := (f5 : Dm); clear z f5; intro f5; try simp only [noR] at f5) | (have z := (f6 : Dm); clear z f6; intro f6; try simp only [noR] at f6)) <;> (try simp -implicitDefEqProofs -dsimp (maxSteps := 2000000) (disch := (first | exact dz | fail)) only [go_sem, f6, f5, f4, f3, f2, f1])))) <;> (try with_reducible and_intros) <;> (first | exact fz | skip)
          refine ⟨_, ?_, j + 1, o + 64, v', rfl, rfl, ?_, by omega, by omega, rfl⟩
          · omega
          · rw [hstep, ← List.append_assoc]; exact hr'
        · refine hr.app (piece x.path x.data j) ?_ (Fits.upPur hf (by omega)) (by simp) (by rw [List.length_append]; omega) (by omega) ?_
          · simp only [opC, piece, ← ho, List.cons.injEq, and_true, true_and]
            rw [show ((o : Int) + 64).toNat - o = 64 by omega]
          intro r v' m3 hr' _ _ hrs
          (have f1 : Dm := ⟨⟩; have f2 : Dm := ⟨⟩; have f3 : Dm := ⟨⟩; have f4 : Dm := ⟨⟩; have f5 : Dm := ⟨⟩; have f6 : Dm := ⟨⟩) <;> (try simp -implicitDefEqProofs -dsimp (maxSteps := 2000000) (disch := (first | exact dz | fail)) only [go_sem, ]) <;> (repeat' (first | ((with_reducible refine ds_and ?_ ?_); focus exact kz) | ((with_reducible refine And.intro ?_ ?_); focus exact oz) | ((with_reducible refine pc_and ?_ ?_); focus exact pz) | ((first | with_reducible refine gIf_t ?_ ?_ | with_reducible refine gIf_f ?_ ?_ | with_reducible refine ite_t ?_ ?_ | with_reducible refine ite_p ?_ ?_) <;> (first | (have z := (f1 : Dm); clear z f1; intro f1; try simp only [noR] at f1) | (have z := (f2 : Dm); clear z f2; intro f2; try simp only [noR] at f2) | (have z := (f3 : Dm); clear z f3; intro f3; try simp only [noR] at f3) | (have z := (f4 : Dm); clear z f4; intro f4; try simp only [noR] at f4) | (have z := (f5 : Dm); clear z f5; intro f5; try simp only [noR] at f5) | (have z := (f6 : Dm); clear z f6; intro f6; try simp only [noR] at f6)) <;> (try simp -implicitDefEqProofs -dsimp (maxSteps := 2000000) (disch := (first | exact dz | fail)) only [go_sem, f6, f5, f4, f3, f2, f1])))) <;> (try with_reducible and_intros) <;> (first | exact fz | skip)
          refine ⟨_, ?_, j + 1, o + 64, v', rfl, rfl, ?_, by omega, by omega, rfl⟩
          · omega
          · rw [hstep, ← List.append_assoc]; exact hr'
      · (have e1 : Dm := ⟨⟩; have e2 : Dm := ⟨⟩; have e3 : Dm := ⟨⟩; have e4 : Dm := ⟨⟩; have e5 : Dm := ⟨⟩; have e6 : Dm := ⟨⟩) <;> (try simp -implicitDefEqProofs -dsimp (maxSteps := 2000000) (disch := (first | exact dz | fail)) only [go_sem, h0, h1, h6, h13, h17, hlt2, hlt, hx]) <;> (repeat' (first | ((with_reducible refine ds_and ?_ ?_); focus exact kz) | ((with_reducible refine And.intro ?_ ?_); focus exact oz) | ((with_reducible refine pc_and ?_ ?_); focus exact pz) | ((first | with_reducible refine gIf_t ?_ ?_ | with_reducible refine gIf_f ?_ ?_ | with_reducible refine ite_t ?_ ?_ | with_reducible refine ite_p ?_ ?_) <;> (first | (have z := (e1 : Dm); clear z e1; intro e1; try simp only [noR] at e1) | (have z := (e2 : Dm); clear z e2; intro e2; try simp only [noR] at e2) | (have z := (e3 : Dm); clear z e3; intro e3; try simp only [noR] at e3) | (have z := (e4 : Dm); clear z e4; intro e4; try simp only [noR] at e4) | (have z := (e5 : Dm); clear z e5; intro e5; try simp only [noR] at e5) | (have z := (e6 : Dm); clear z e6; intro e6; try simp only [noR] at e6)) <;> (try simp -implicitDefEqProofs -dsimp (maxSteps := 2000000) (disch := (first | exact dz | fail)) only [go_sem, e6, e5, e4, e3, e2, e1, h0, h1, h6, h13, h17, hlt2, hlt, hx])))) <;> (try with_reducible and_intros) <;> (first | exact fz | skip)
        refine ⟨_, by omega, i + 1, v, rfl, rfl, ?_, by omega, rfl⟩
        rw [hst, ← List.append_assoc, hDD]
        rw [List.take_of_length_le (by rw [pieces_len]; omega)] at hr; exact hr
    · have h5y : g5 a.l b.l x = [] ++ pieces x.path x.data := by
        rw [h5r c1 c2, rewL, wasL, if_pos c3, if_neg c4, if_pos c5]
      obtain ⟨D, hD, hDl, hDD⟩ : ∃ D, (∀ l, RW opC m.length D v (m' ++ l)) ∧ D.length ≤ 310000 ∧ A4 ++ (b.l.take i).flatMap (g5 a.l b.l) ++ g5 a.l b.l x = D ++ pieces x.path x.data :=
        ⟨_, hr.push, by rw [List.length_append]; omega, by rw [h5y, List.nil_append]⟩
      clear hr
      refine loopF (fun k ts m' => ∃ (j o : Nat) (v : AV), ts.length = 298 ∧ tg ts 0 = slf ndC a ∧ tg ts 1 = slf ndC b ∧ tg ts 6 = kv v ∧ tg ts 13 = I i ∧ tg ts 17 = I o ∧ RW opC m.length (D ++ (pieces x.path x.data).take j) v m' ∧ o = j * 64 ∧ o < x.data.length + 64 ∧ k = x.data.length + 64 - o) (x.data.length + 64) ⟨0, 0, _, rfl, rfl, rfl, rfl, rfl, rfl, by rw [List.take_zero, List.append_nil]; exact hD _, by omega, by omega, by omega⟩ ?_
      rintro k ts mm ⟨j, o, v, hl, h0, h1, h6, h13, h17, hr, ho, hox, rfl⟩
      rw [expandT hl]
      have hle := hr.le
      have hpl : ((pieces x.path x.data).take j).length ≤ 6 := by rw [List.length_take, pieces_len]; omega
      by_cases hlt2 : (o : Int) < (x.data.length : Int)
      · have hstep := pieces_step (p := x.path) (d := x.data) (j := j) (by omega)
        (have e1 : Dm := ⟨⟩; have e2 : Dm := ⟨⟩; have e3 : Dm := ⟨⟩; have e4 : Dm := ⟨⟩; have e5 : Dm := ⟨⟩; have e6 : Dm := ⟨⟩) <;> (try simp -implicitDefEqProofs -dsimp (maxSteps := 2000000) (disch := (first | exact dz | fail)) only [go_sem, h0, h1, h6, h13, h17, hlt2, hlt, hx]) <;> (repeat' (first | ((with_reducible refine ds_and ?_ ?_); focus exact kz) | ((with_reducible refine And.intro ?_ ?_); focus exact oz) | ((with_reducible refine pc_and ?_ ?_); focus exact pz) | ((first | with_reducible refine gIf_t ?_ ?_ | with_reducible refine gIf_f ?_ ?_ | with_reducible refine ite_t ?_ ?_ | with_reducible refine ite_p ?_ ?_) <;> (first | (have z := (e1 : Dm); clear z e1; intro e1; try simp only [noR] at e1) | (have z := (e2 : Dm); clear z e2; intro e2; try simp only [noR] at e2) | (have z := (e3 : Dm); clear z e3; intro e3; try simp only [noR] at e3) | (have z := (e4 : Dm); clear z e4; intro e4; try simp only [noR] at e4) | (have z := (e5 : Dm); clear z e5; intro e5; try simp only [noR] at e5) | (have z := (e6 : Dm); clear z e6; intro e6; try simp only [noR] at e6)) <;> (try simp -implicitDefEqProofs -dsimp (maxSteps := 2000000) (disch := (first | exact dz | fail)) only [go_sem, e6, e5, e4, e3, e2, e1, h0, h1, h6, h13, h17, hlt2, hlt, hx])))) <;> (try with_reducible and_intros) <;> (first | exact fz | skip)
        · refine hr.app (piece x.path x.data j) ?_ (Fits.upPur hf (by omega)) (by simp) (by rw [List.length_append]; omega) (by omega) ?_
          · simp only [opC, piece, ← ho, List.cons.injEq, and_true, true_and]
            rw [List.take_of_length_le (by simp; omega)]
          intro r v' m3 hr' _ _ hrs
          (have f1 : Dm := ⟨⟩; have f2 : Dm := ⟨⟩; have f3 : Dm := ⟨⟩; have f4 : Dm := ⟨⟩; have f5 : Dm := ⟨⟩; have f6 : Dm := ⟨⟩) <;> (try simp -implicitDefEqProofs -dsimp (maxSteps := 2000000) (disch := (first | exact dz | fail)) only [go_sem, ]) <;> (repeat' (first | ((with_reducible refine ds_and ?_ ?_); focus exact kz) | ((with_reducible refine And.intro ?_ ?_); focus exact oz) | ((with_reducible refine pc_and ?_ ?_); focus exact pz) | ((first | with_reducible refine gIf_t ?_ ?_ | with_reducible refine gIf_f ?_ ?_ | with_reducible refine ite_t ?_ ?_ | with_reducible refine ite_p ?_ ?_) <;> (first | (have z := (f1 : Dm); clear z f1; intro f1; try simp only [noR] at f1) | (have z := (f2 : Dm); clear z f2; intro f2; try simp only [noR] at f2) | (have z := (f3 : Dm); clear z f3; intro f3; try simp only [noR] at f3) | (have z := (f4 : Dm); clear z f4; intro f4; try simp only [noR] at f4) | (have z := (f5 : Dm); clear z f5; intro f5; try simp only [noR] at f5) | (have z := (f6 : Dm); clear z f6; intro f6; try simp only [noR] at f6)) <;> (try simp -implicitDefEqProofs -dsimp (maxSteps := 2000000) (disch := (first | exact dz | fail)) only [go_sem, f6, f5, f4, f3, f2, f1])))) <;> (try with_reducible and_intros) <;> (first | exact fz | skip)
          refine ⟨_, ?_, j + 1, o + 64, v', rfl, rfl, ?_, by omega, by omega, rfl⟩
          · omega
          · rw [hstep, ← List.append_assoc]; exact hr'
        · refine hr.app (piece x.path x.data j) ?_ (Fits.upPur hf (by omega)) (by simp) (by rw [List.length_append]; omega) (by omega) ?_
          · simp only [opC, piece, ← ho, List.cons.injEq, and_true, true_and]
            rw [show ((o : Int) + 64).toNat - o = 64 by omega]
          intro r v' m3 hr' _ _ hrs
          (have f1 : Dm := ⟨⟩; have f2 : Dm := ⟨⟩; have f3 : Dm := ⟨⟩; have f4 : Dm := ⟨⟩; have f5 : Dm := ⟨⟩; have f6 : Dm := ⟨⟩) <;> (try simp -implicitDefEqProofs -dsimp (maxSteps := 2000000) (disch := (first | exact dz | fail)) only [go_sem, ]) <;> (repeat' (first | ((with_reducible refine ds_and ?_ ?_); focus exact kz) | ((with_reducible refine And.intro ?_ ?_); focus exact oz) | ((with_reducible refine pc_and ?_ ?_); focus exact pz) | ((first | with_reducible refine gIf_t ?_ ?_ | with_reducible refine gIf_f ?_ ?_ | with_reducible refine ite_t ?_ ?_ | with_reducible refine ite_p ?_ ?_) <;> (first | (have z := (f1 : Dm); clear z f1; intro f1; try simp only [noR] at f1) | (have z := (f2 : Dm); clear z f2; intro f2; try simp only [noR] at f2) | (have z := (f3 : Dm); clear z f3; intro f3; try simp only [noR] at f3) | (have z := (f4 : Dm); clear z f4; intro f4; try simp only [noR] at f4) | (have z := (f5 : Dm); clear z f5; intro f5; try simp only [noR] at f5) | (have z := (f6 : Dm); clear z f6; intro f6; try simp only [noR] at f6)) <;> (try simp -implicitDefEqProofs -dsimp (maxSteps := 2000000) (disch := (first | exact dz | fail)) only [go_sem, f6, f5, f4, f3, f2, f1])))) <;> (try with_reducible and_intros) <;> (first | exact fz | skip)
          refine ⟨_, ?_, j + 1, o + 64, v', rfl, rfl, ?_, by omega, by omega, rfl⟩
          · omega
          · rw [hstep, ← List.append_assoc]; exact hr'
      · (have e1 : Dm := ⟨⟩; have e2 : Dm := ⟨⟩; have e3 : Dm := ⟨⟩; have e4 : Dm := ⟨⟩; have e5 : Dm := ⟨⟩; have e6 : Dm := ⟨⟩) <;> (try simp -implicitDefEqProofs -dsimp (maxSteps := 2000000) (disch := (first | exact dz | fail)) only [go_sem, h0, h1, h6, h13, h17, hlt2, hlt, hx]) <;> (repeat' (first | ((with_reducible refine ds_and ?_ ?_); focus exact kz) | ((with_reducible refine And.intro ?_ ?_); focus exact oz) | ((with_reducible refine pc_and ?_ ?_); focus exact pz) | ((first | with_reducible refine gIf_t ?_ ?_ | with_reducible refine gIf_f ?_ ?_ | with_reducible refine ite_t ?_ ?_ | with_reducible refine ite_p ?_ ?_) <;> (first | (have z := (e1 : Dm); clear z e1; intro e1; try simp only [noR] at e1) | (have z := (e2 : Dm); clear z e2; intro e2; try simp only [noR] at e2) | (have z := (e3 : Dm); clear z e3; intro e3; try simp only [noR] at e3) | (have z := (e4 : Dm); clear z e4; intro e4; try simp only [noR] at e4) | (have z := (e5 : Dm); clear z e5; intro e5; try simp only [noR] at e5) | (have z := (e6 : Dm); clear z e6; intro e6; try simp only [noR] at e6)) <;> (try simp -implicitDefEqProofs -dsimp (maxSteps := 2000000) (disch := (first | exact dz | fail)) only [go_sem, e6, e5, e4, e3, e2, e1, h0, h1, h6, h13, h17, hlt2, hlt, hx])))) <;> (try with_reducible and_intros) <;> (first | exact fz | skip)
        refine ⟨_, by omega, i + 1, v, rfl, rfl, ?_, by omega, rfl⟩
        rw [hst, ← List.append_assoc, hDD]
        rw [List.take_of_length_le (by rw [pieces_len]; omega)] at hr; exact hr
    · refine ⟨_, by omega, i + 1, v, rfl, rfl, ?_, by omega, rfl⟩
      have e : g5 a.l b.l x = [] := by rw [h5r c1 c2, rewL, wasL, if_neg (by simp [c3] : ¬keptB a.l b.l x.path = true), if_pos c4]
      rw [hst, e, List.append_nil]; exact hr
    · have h5y : g5 a.l b.l x = [] ++ pieces x.path x.data := by
        rw [h5r c1 c2, rewL, wasL, if_neg (by simp [c3] : ¬keptB a.l b.l x.path = true), if_neg c4, if_pos rfl]
      obtain ⟨D, hD, hDl, hDD⟩ : ∃ D, RW opC m.length D v m' ∧ D.length ≤ 310000 ∧ A4 ++ (b.l.take i).flatMap (g5 a.l b.l) ++ g5 a.l b.l x = D ++ pieces x.path x.data :=
        ⟨_, hr, by rw [List.length_append]; omega, by rw [h5y, List.nil_append]⟩
      clear hr
      refine loopF (fun k ts m' => ∃ (j o : Nat) (v : AV), ts.length = 298 ∧ tg ts 0 = slf ndC a ∧ tg ts 1 = slf ndC b ∧ tg ts 6 = kv v ∧ tg ts 13 = I i ∧ tg ts 17 = I o ∧ RW opC m.length (D ++ (pieces x.path x.data).take j) v m' ∧ o = j * 64 ∧ o < x.data.length + 64 ∧ k = x.data.length + 64 - o) (x.data.length + 64) ⟨0, 0, _, rfl, rfl, rfl, rfl, rfl, rfl, by rw [List.take_zero, List.append_nil]; exact hD, by omega, by omega, by omega⟩ ?_
      rintro k ts mm ⟨j, o, v, hl, h0, h1, h6, h13, h17, hr, ho, hox, rfl⟩
      rw [expandT hl]
      have hle := hr.le
      have hpl : ((pieces x.path x.data).take j).length ≤ 6 := by rw [List.length_take, pieces_len]; omega
      by_cases hlt2 : (o : Int) < (x.data.length : Int)
      · have hstep := pieces_step (p := x.path) (d := x.data) (j := j) (by omega)
        (have e1 : Dm := ⟨⟩; have e2 : Dm := ⟨⟩; have e3 : Dm := ⟨⟩; have e4 : Dm := ⟨⟩; have e5 : Dm := ⟨⟩; have e6 : Dm := ⟨⟩) <;> (try simp -implicitDefEqProofs -dsimp (maxSteps := 2000000) (disch := (first | exact dz | fail)) only [go_sem, h0, h1, h6, h13, h17, hlt2, hlt, hx]) <;> (repeat' (first | ((with_reducible refine ds_and ?_ ?_); focus exact kz) | ((with_reducible refine And.intro ?_ ?_); focus exact oz) | ((with_reducible refine pc_and ?_ ?_); focus exact pz) | ((first | with_reducible refine gIf_t ?_ ?_ | with_reducible refine gIf_f ?_ ?_ | with_reducible refine ite_t ?_ ?_ | with_reducible refine ite_p ?_ ?_) <;> (first | (have z := (e1 : Dm); clear z e1; intro e1; try simp only [noR] at e1) | (have z := (e2 : Dm); clear z e2; intro e2; try simp only [noR] at e2) | (have z := (e3 : Dm); clear z e3; intro e3; try simp only [noR] at e3) | (have z := (e4 : Dm); clear z e4; intro e4; try simp only [noR] at e4) | (have z := (e5 : Dm); clear z e5; intro e5; try simp only [noR] at e5) | (have z := (e6 : Dm); clear z e6; intro e6; try simp only [noR] at e6)) <;> (try simp -implicitDefEqProofs -dsimp (maxSteps := 2000000) (disch := (first | exact dz | fail)) only [go_sem, e6, e5, e4, e3, e2, e1, h0, h1, h6, h13, h17, hlt2, hlt, hx])))) <;> (try with_reducible and_intros) <;> (first | exact fz | skip)
        · refine hr.app (piece x.path x.data j) ?_ (Fits.upPur hf (by omega)) (by simp) (by rw [List.length_append]; omega) (by omega) ?_
          · simp only [opC, piece, ← ho, List.cons.injEq, and_true, true_and]
            rw [List.take_of_length_le (by simp; omega)]
          intro r v' m3 hr' _ _ hrs
          (have f1 : Dm := ⟨⟩; have f2 : Dm := ⟨⟩; have f3 : Dm := ⟨⟩; have f4 : Dm := ⟨⟩; have f5 : Dm := ⟨⟩; have f6 : Dm := ⟨⟩) <;> (try simp -implicitDefEqProofs -dsimp (maxSteps := 2000000) (disch := (first | exact dz | fail)) only [go_sem, ]) <;> (repeat' (first | ((with_reducible refine ds_and ?_ ?_); focus exact kz) | ((with_reducible refine And.intro ?_ ?_); focus exact oz) | ((with_reducible refine pc_and ?_ ?_); focus exact pz) | ((first | with_reducible refine gIf_t ?_ ?_ | with_reducible refine gIf_f ?_ ?_ | with_reducible refine ite_t ?_ ?_ | with_reducible refine ite_p ?_ ?_) <;> (first | (have z := (f1 : Dm); clear z f1; intro f1; try simp only [noR] at f1) | (have z := (f2 : Dm); clear z f2; intro f2; try simp only [noR] at f2) | (have z := (f3 : Dm); clear z f3; intro f3; try simp only [noR] at f3) | (have z := (f4 : Dm); clear z f4; intro f4; try simp only [noR] at f4) | (have z := (f5 : Dm); clear z f5; intro f5; try simp only [noR] at f5) | (have z := (f6 : Dm); clear z f6; intro f6; try simp only [noR] at f6)) <;> (try simp -implicitDefEqProofs -dsimp (maxSteps := 2000000) (disch := (first | exact dz | fail)) only [go_sem, f6, f5, f4, f3, f2, f1])))) <;> (try with_reducible and_intros) <;> (first | exact fz | skip)
          refine ⟨_, ?_, j + 1, o + 64, v', rfl, rfl, ?_, by omega, by omega, rfl⟩
          · omega
          · rw [hstep, ← List.append_assoc]; exact hr'
        · refine hr.app (piece x.path x.data j) ?_ (Fits.upPur hf (by omega)) (by simp) (by rw [List.length_append]; omega) (by omega) ?_
          · simp only [opC, piece, ← ho, List.cons.injEq, and_true, true_and]
            rw [show ((o : Int) + 64).toNat - o = 64 by omega]
          intro r v' m3 hr' _ _ hrs
          (have f1 : Dm := ⟨⟩; have f2 : Dm := ⟨⟩; have f3 : Dm := ⟨⟩; have f4 : Dm := ⟨⟩; have f5 : Dm := ⟨⟩; have f6 : Dm := ⟨⟩) <;> (try simp -implicitDefEqProofs -dsimp (maxSteps := 2000000) (disch := (first | exact dz | fail)) only [go_sem, ]) <;> (repeat' (first | ((with_reducible refine ds_and ?_ ?_); focus exact kz) | ((with_reducible refine And.intro ?_ ?_); focus exact oz) | ((with_reducible refine pc_and ?_ ?_); focus exact pz) | ((first | with_reducible refine gIf_t ?_ ?_ | with_reducible refine gIf_f ?_ ?_ | with_reducible refine ite_t ?_ ?_ | with_reducible refine ite_p ?_ ?_) <;> (first | (have z := (f1 : Dm); clear z f1; intro f1; try simp only [noR] at f1) | (have z := (f2 : Dm); clear z f2; intro f2; try simp only [noR] at f2) | (have z := (f3 : Dm); clear z f3; intro f3; try simp only [noR] at f3) | (have z := (f4 : Dm); clear z f4; intro f4; try simp only [noR] at f4) | (have z := (f5 : Dm); clear z f5; intro f5; try simp only [noR] at f5) | (have z := (f6 : Dm); clear z f6; intro f6; try simp only [noR] at f6)) <;> (try simp -implicitDefEqProofs -dsimp (maxSteps := 2000000) (disch := (first | exact dz | fail)) only [go_sem, f6, f5, f4, f3, f2, f1])))) <;> (try with_reducible and_intros) <;> (first | exact fz | skip)
          refine ⟨_, ?_, j + 1, o + 64, v', rfl, rfl, ?_, by omega, by omega, rfl⟩
          · omega
          · rw [hstep, ← List.append_assoc]; exact hr'
      · (have e1 : Dm := ⟨⟩; have e2 : Dm := ⟨⟩; have e3 : Dm := ⟨⟩; have e4 : Dm := ⟨⟩; have e5 : Dm := ⟨⟩; have e6 : Dm := ⟨⟩) <;> (try simp -implicitDefEqProofs -dsimp (maxSteps := 2000000) (disch := (first | exact dz | fail)) only [go_sem, h0, h1, h6, h13, h17, hlt2, hlt, hx]) <;> (repeat' (first | ((with_reducible refine ds_and ?_ ?_); focus exact kz) | ((with_reducible refine And.intro ?_ ?_); focus exact oz) | ((with_reducible refine pc_and ?_ ?_); focus exact pz) | ((first | with_reducible refine gIf_t ?_ ?_ | with_reducible refine gIf_f ?_ ?_ | with_reducible refine ite_t ?_ ?_ | with_reducible refine ite_p ?_ ?_) <;> (first | (have z := (e1 : Dm); clear z e1; intro e1; try simp only [noR] at e1) | (have z := (e2 : Dm); clear z e2; intro e2; try simp only [noR] at e2) | (have z := (e3 : Dm); clear z e3; intro e3; try simp only [noR] at e3) | (have z := (e4 : Dm); clear z e4; intro e4; try simp only [noR] at e4) | (have z := (e5 : Dm); clear z e5; intro e5; try simp only [noR] at e5) | (have z := (e6 : Dm); clear z e6; intro e6; try simp only [noR] at e6)) <;> (try simp -implicitDefEqProofs -dsimp (maxSteps := 2000000) (disch := (first | exact dz | fail)) only [go_sem, e6, e5, e4, e3, e2, e1, h0, h1, h6, h13, h17, hlt2, hlt, hx])))) <;> (try with_reducible and_intros) <;> (first | exact fz | skip)
        refine ⟨_, by omega, i + 1, v, rfl, rfl, ?_, by omega, rfl⟩
        rw [hst, ← List.append_assoc, hDD]
        rw [List.take_of_length_le (by rw [pieces_len]; omega)] at hr; exact hr
  rw [List.take_of_length_le (by omega)] at hr hfl
  (have c1 : Dm := ⟨⟩; have c2 : Dm := ⟨⟩; have c3 : Dm := ⟨⟩; have c4 : Dm := ⟨⟩; have c5 : Dm := ⟨⟩; have c6 : Dm := ⟨⟩) <;> (try simp -implicitDefEqProofs -dsimp (maxSteps := 2000000) (disch := (first | exact dz | fail)) only [go_sem, h0, h1, h6, h13, hlt, hr.frz (Nat.le_refl _)]) <;> (repeat' (first | ((with_reducible refine ds_and ?_ ?_); focus exact kz) | ((with_reducible refine And.intro ?_ ?_); focus exact oz) | ((with_reducible refine pc_and ?_ ?_); focus exact pz) | ((first | with_reducible refine gIf_t ?_ ?_ | with_reducible refine gIf_f ?_ ?_ | with_reducible refine ite_t ?_ ?_ | with_reducible refine ite_p ?_ ?_) <;> (first | (have z := (c1 : Dm); clear z c1; intro c1; try simp only [noR] at c1) | (have z := (c2 : Dm); clear z c2; intro c2; try simp only [noR] at c2) | (have z := (c3 : Dm); clear z c3; intro c3; try simp only [noR] at c3) | (have z := (c4 : Dm); clear z c4; intro c4; try simp only [noR] at c4) | (have z := (c5 : Dm); clear z c5; intro c5; try simp only [noR] at c5) | (have z := (c6 : Dm); clear z c6; intro c6; try simp only [noR] at c6)) <;> (try simp -implicitDefEqProofs -dsimp (maxSteps := 2000000) (disch := (first | exact dz | fail)) only [go_sem, c6, c5, c4, c3, c2, c1, h0, h1, h6, h13, hlt, hr.frz (Nat.le_refl _)])))) <;> (try with_reducible and_intros) <;> (first | exact fz | skip)
  rw [diffA, hq2, if_pos rfl, diffL, hA, hA2, hA3, hA4]
end
end Go.Proofs.YtcmjidnbbfcbjaaDoor.V.L1
