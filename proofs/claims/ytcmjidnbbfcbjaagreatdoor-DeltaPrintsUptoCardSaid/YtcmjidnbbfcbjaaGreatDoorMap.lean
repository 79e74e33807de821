/- Parts of the proof, joined (Z8, Z9, ZA, Z81, Z82, Z83, Z84, Z85, Z86, Z8r, ZB, Z91, Z92, Z93, Z94, Z9r, ZC, ZL); no condition. -/
import Derived.Test.YtcmjidnbbfcbjaaGreatDoorMam
import Derived.Test.YtcmjidnbbfcbjaaGreatDoorMao
import Derived.Test.YtcmjidnbbfcbjaaGreatDoorMah
import Derived.Test.YtcmjidnbbfcbjaaGreatDoorMan
import Derived.Test.YtcmjidnbbfcbjaaGreatDoorMal
/- The operation that a line says, of the program; no condition. -/
namespace Go.Proofs.YtcmjidnbbfcbjaaGreatDoor.V.L1
open Go V
set_option linter.unusedVariables false
set_option linter.unusedSimpArgs false
set_option maxRecDepth 100000
set_option maxHeartbeats 4000000
noncomputable section
variable {en : Env} {m : Mem}
theorem words_eq (k : Int) (m : Mem) (Q : AV → Mem → Prop) : WC Tryz.prog pol en (.func 81) [.sc (.int .u8 k)] m Q = Q (tx (wordL k)) m := lift (fun m => words_ok k (fits0 _)) rfl m Q
theorem word_eq (k : Int) (m : Mem) (Q : AV → Mem → Prop) (hk : 0 ≤ k ∧ k ≤ 255) : WC Tryz.prog pol en (.func 84) [.sc (.int .u8 k)] m Q = Q (tx (wordL k)) m := lift (fun m => word_ok k hk (fits0 _)) rfl m Q
theorem number_eq (s : List UInt8) (m : Mem) (Q : AV → Mem → Prop) (hs : s.length ≤ 1073741824) : WC Tryz.prog pol en (.func 91) [tx s] m Q = Q (I (numL s)) m := lift (fun m => number_ok s hs (fits0 _)) rfl m Q
theorem fields_eq (s : List UInt8) (m : Mem) (Q : AV → Mem → Prop) (hs : s.length ≤ 1073741824) : WC Tryz.prog pol en (.func 88) [tx s] m Q = Q (sl tx ⟨false, false, cutL 32 s⟩) m := lift (fun m => fields_ok s hs (fits0 _)) rfl m Q
theorem stringsSplit_eq (s : List UInt8) (c : UInt8) (m : Mem) (Q : AV → Mem → Prop) (hs : s.length ≤ 1073741824) : WC Tryz.prog pol en (.func 59) [tx s, tx [c]] m Q = Q (sl tx ⟨false, false, cutL c s⟩) m := lift (fun m => split_ok' s c hs (fits0 _)) rfl m Q
theorem cutSuffix_eq (s p : List UInt8) (m : Mem) (Q : AV → Mem → Prop) (hs : s.length < 4611686018427387904) (hp : p.length < 4611686018427387904) : WC Tryz.prog pol en (.func 58) [tx s, tx p] m Q = Q (if isSuf p s = true then .tup [tx (s.take (s.length - p.length)), .sc (.bool true)] else .tup [tx s, .sc (.bool false)]) m := lift (fun m => cutSuffix_ok s p hs hp) rfl m Q
theorem unquote_eq (s : List UInt8) (m : Mem) (Q : AV → Mem → Prop) (hs : s.length ≤ 1000000000) : WC Tryz.prog pol en (.func 90) [tx s] m Q = Q (ansO (unqL s)) m := lift (fun m => unquote_ok s hs (fits0 _)) rfl m Q
theorem refUnquote_eq (s : List UInt8) (m : Mem) (Q : AV → Mem → Prop) (hs : s.length ≤ 100000000) : WC Tryz.prog pol en (.func 92) [tx s] m Q = Q (ansO (unqL s)) m := lift (fun m => refUnquote_ok s hs (fits0 _)) rfl m Q
theorem line_eq (o : Pn) (m : Mem) (Q : AV → Mem → Prop) (hr : rightOpB o = true) (hp : o.path.length ≤ 1100000) (hq : o.other.length ≤ 1100000) (hd : o.data.length ≤ 1100000) : WC Tryz.prog pol en (.func 53) [.agg (opC o)] m Q = Q (tx (lineL o)) m := lift (fun m => line_ok o hr hp hq hd (fits0 _)) rfl m Q
theorem refLine_eq (o : Pn) (m : Mem) (Q : AV → Mem → Prop) (hr : rightOpB o = true) (hp : o.path.length ≤ 1100000) (hq : o.other.length ≤ 1100000) (hd : o.data.length ≤ 1100000) : WC Tryz.prog pol en (.func 57) [.agg (opC o)] m Q = Q (tx (lineL o)) m := lift (fun m => refLine_ok o hr hp hq hd (fits0 _)) rfl m Q
theorem itoa_eq (n : Int) (h : -9223372036854775808 ≤ n ∧ n ≤ 9223372036854775807) (Q : AV → Mem → Prop) : WC Tryz.prog pol en (.func 82) [I n] m Q = Q (tx (itoaL n)) m := by
  refine WC.rule (v0 := tx (itoaL n)) (m0 := m) ?_ Q
  refine wcallD (d := dItoa) rfl ?_ ⟨rfl, rfl⟩
  simp only [dItoa]
  rw [if_pos h, fInt_id, spine_eq, itoaK_eq h.1 h.2, itoaL_lib]
/-- What a text is as a number. -/
def atoiA (s : List UInt8) : AV := match Lib.atoiAll s with
  | .ok n => .tup [.sc (.int .i64 n), .nilI]
  | .syntax => numErr 176 ⟨⟨s⟩⟩ 0 (errG errS)
  | .range => numErr 176 ⟨⟨s⟩⟩ (Lib.atoiSat s) (errG errR)
theorem atoi_eq (s : List UInt8) (hs : s.length ≤ 281474976710656) (Q : AV → Mem → Prop) : WC Tryz.prog pol en (.func 89) [tx s] m Q = Q (atoiA s) m := by
  refine WC.rule (v0 := atoiA s) (m0 := m) ?_ Q
  refine wcallD (d := dAtoi 176 (errG errS) (errG errR)) rfl ?_ ⟨rfl, rfl⟩
  simp only [dAtoi]
  rw [if_pos (show (⟨⟨s⟩⟩ : ByteArray).size ≤ 281474976710656 from hs)]
  unfold atoiA
  show (match Lib.atoiAll s with | _ => _) = _
  cases Lib.atoiAll s <;> rfl
theorem atoi_all : ∀ k < 257, Lib.atoiAll (natK 20 k) = .ok (k : Int) := by decide
theorem atoi_itoa {k : Int} (h0 : 0 ≤ k) (h : k ≤ 256) : Lib.atoiAll (itoaL k) = .ok k := by
  have e : itoaL k = natK 20 k.toNat := by
    rw [itoaL, if_neg (by omega), natL_dec, natK_eq 20 _ (by omega) (by omega)]
    congr 1; omega
  rw [e, atoi_all _ (by omega)]
  congr 1; omega
theorem itoa_no {w : List UInt8} {n : Int} (hat : Lib.atoiAll w = .ok n) (h : itoaL n ≠ w) : ∀ k : Int, 0 ≤ k → k ≤ 256 → itoaL k ≠ w := fun k h0 h1 e => by
  have := atoi_itoa h0 h1
  rw [e, hat] at this
  cases this
  exact h e
def kindTo (w : List UInt8) (n : Nat) : Int := ((List.range n).map (· + 1)).foldl (kindStep w) 0
theorem kindTo_succ (w : List UInt8) (n : Nat) : kindTo w (n + 1) = kindStep w (kindTo w n) (n + 1) := by
  simp [kindTo, List.range_succ]
theorem kindTo_8 (w : List UInt8) : kindTo w 8 = kindL w := rfl
theorem rightOp0_eq (k n : Int) (p q d : List UInt8) (en : Env) (m : Mem) (Q : AV → Mem → Prop) (hp : p.length ≤ 1073741824) (hq : q.length ≤ 1073741824) (hd : d.length ≤ 1073741824) (hf : Fits en m.length) : WC Tryz.prog pol en (.func 51) [.agg [.sc (.int .u8 k), tx p, tx q, I n, tx d]] m Q = Q (bo (rightOpB ⟨k, p, q, n, d⟩)) m := (rightOp0_ok ⟨k, p, q, n, d⟩ hp hq hd hf).rule Q
theorem cut_mem_len {c : UInt8} : ∀ {s w : List UInt8}, w ∈ cutL c s → w.length ≤ s.length
  | [], w, h => by simp [cutL] at h; subst h; simp
  | b :: l, w, h => by
    obtain ⟨w0, ws, e⟩ := cut_cons c l
    have ih := fun x (hx : x ∈ cutL c l) => cut_mem_len hx
    rw [cutL, e] at h
    rw [e] at ih
    split at h
    · rcases List.mem_cons.1 h with rfl | h
      · simp
      · have := ih _ h; simp; omega
    · rcases List.mem_cons.1 h with rfl | h
      · have := ih w0 (by simp); simp; omega
      · have := ih _ (List.mem_cons_of_mem _ h); simp; omega
theorem read_leaf {s : List UInt8} (o : Pn) (h : readL s = if rightOpB o = true then some o else none) : ∃ o' : Pn, AV.tup [.agg (opC o), bo (rightOpB o)] = .tup [.agg (opC o'), bo (readL s).isSome] ∧ ∀ x, readL s = some x → o' = x := by
  refine ⟨o, ?_, fun x hx => ?_⟩
  · rw [h]; cases rightOpB o <;> rfl
  · rw [h] at hx
    split at hx
    · exact Option.some.inj hx
    · cases hx
theorem read_none {s : List UInt8} (o : Pn) (h : readL s = none) : ∃ o' : Pn, AV.tup [.agg (opC o), .sc (.bool false)] = .tup [.agg (opC o'), bo (readL s).isSome] ∧ ∀ x, readL s = some x → o' = x :=
  ⟨o, by rw [h]; rfl, fun x hx => by rw [h] at hx; cases hx⟩
end
end Go.Proofs.YtcmjidnbbfcbjaaGreatDoor.V.L1
/- The operation that a line says, of the reference; no condition. -/
namespace Go.Proofs.YtcmjidnbbfcbjaaGreatDoor.V.L1
open Go V
set_option linter.unusedVariables false
set_option linter.unusedSimpArgs false
set_option maxRecDepth 100000
set_option maxHeartbeats 4000000
noncomputable section
variable {en : Env} {m : Mem}
theorem rightOpR_eq (k n : Int) (p q d : List UInt8) (en : Env) (m : Mem) (Q : AV → Mem → Prop) (hp : p.length ≤ 1073741824) (hq : q.length ≤ 1073741824) (hd : d.length ≤ 1073741824) (hf : Fits en m.length) : WC Tryz.prog pol en (.func 56) [.agg [.sc (.int .u8 k), tx p, tx q, I n, tx d]] m Q = Q (bo (rightOpB ⟨k, p, q, n, d⟩)) m := (rightOp_ok ⟨k, p, q, n, d⟩ hp hq hd hf).rule Q
theorem refLine_eq' (k n : Int) (p q d : List UInt8) (m : Mem) (Q : AV → Mem → Prop) (hr : rightOpB ⟨k, p, q, n, d⟩ = true) (hp : p.length ≤ 1100000) (hq : q.length ≤ 1100000) (hd : d.length ≤ 1100000) : WC Tryz.prog pol en (.func 57) [.agg [.sc (.int .u8 k), tx p, tx q, I n, tx d]] m Q = Q (tx (lineL ⟨k, p, q, n, d⟩)) m := refLine_eq ⟨k, p, q, n, d⟩ m Q hr hp hq hd
theorem isS_and {s : List UInt8} {o : Pn} (hc : candL (cutL 32 s) = o) : (readL s).isSome = (rightOpB o && decide (lineL o = s)) := by
  unfold readL
  rw [hc]
  by_cases h : rightOpB o = true ∧ lineL o = s
  · rw [if_pos h, h.1, h.2]; simp
  · rw [if_neg h]
    cases hr : rightOpB o with
    | false => rfl
    | true => simp [hr] at h ⊢; exact h
theorem num_le (w : List UInt8) : numL w ≤ 999 := by
  unfold numL
  split
  · omega
  · rename_i h
    have key : ∀ (l : List UInt8) (n m k : Nat), n < 10 ^ k → numGo l n = some m → m < 10 ^ (k + l.length) := by
      intro l
      induction l with
      | nil => intro n m k hn h; simp [numGo] at h; subst h; simpa using hn
      | cons c l ih =>
        intro n m k hn h
        unfold numGo at h
        split at h
        · have := ih _ m (k + 1) (by rw [Nat.pow_succ]; omega) h
          rwa [List.length_cons, show k + (l.length + 1) = k + 1 + l.length by omega]
        · cases h
    cases hg : numGo w 0 with
    | none => simp
    | some m =>
      have h1 := key w 0 m 0 (by simp) hg
      have h2 : 10 ^ (0 + w.length) ≤ 10 ^ 3 := Nat.pow_le_pow_right (by omega) (by omega)
      simp; omega
end
end Go.Proofs.YtcmjidnbbfcbjaaGreatDoor.V.L1
/- Operations as lines; no condition. -/
namespace Go.Proofs.YtcmjidnbbfcbjaaGreatDoor.V
open Go
set_option linter.unusedVariables false
set_option linter.unusedSimpArgs false
set_option maxRecDepth 100000
set_option maxHeartbeats 4000000
noncomputable section
variable {en : Env} {m : Mem}
theorem lines_take {l : List Pn} {i : Nat} {o : Pn} (h : l[i]? = some o) : linesL (l.take (i + 1)) = linesL (l.take i) ++ (lineL o ++ [10]) := by
  unfold linesL
  rw [List.take_add_one, h, List.flatMap_append]; simp
theorem allR_take {l : List Pn} {i : Nat} {o : Pn} (h : l[i]? = some o) (ha : (l.take i).all rightOpB = true) (hr : rightOpB o = true) : (l.take (i + 1)).all rightOpB = true := by
  rw [List.take_add_one, h, List.all_append, ha]; simp [hr]
theorem print_no {l : List Pn} {i : Nat} {o : Pn} (h : l[i]? = some o) (hr : rightOpB o = false) : printL l = none := by
  unfold printL
  rw [if_neg]
  rintro ⟨_, h1⟩
  rw [List.all_eq_true] at h1
  rw [h1 o (List.mem_of_getElem? h)] at hr
  cases hr
/-- Operations whose texts are short enough. -/
structure FitP (l : List Pn) : Prop where
  path : ∀ o ∈ l, o.path.length ≤ 1100000
  other : ∀ o ∈ l, o.other.length ≤ 1100000
  data : ∀ o ∈ l, o.data.length ≤ 1100000
theorem lines_len {l : List Pn} (hf : FitP l) : ∀ i, i ≤ l.length → (l.take i).all rightOpB = true → (linesL (l.take i)).length ≤ i * 6000001
  | 0, _, _ => by simp [linesL]
  | i + 1, h, ha => by
    have hi : l[i]? = some l[i] := List.getElem?_eq_getElem (by omega)
    have hm : l[i] ∈ l := List.getElem_mem _
    rw [List.take_add_one, hi, List.all_append, Bool.and_eq_true] at ha
    have hr : rightOpB l[i] = true := by simpa using ha.2
    have h1 := lines_len hf i (by omega) ha.1
    have h2 := line_len hr (hf.path _ hm) (hf.other _ hm) (hf.data _ hm)
    rw [lines_take hi, List.length_append, List.length_append, List.length_singleton, Nat.succ_mul]; omega
end
end Go.Proofs.YtcmjidnbbfcbjaaGreatDoor.V
namespace Go.Proofs.YtcmjidnbbfcbjaaGreatDoor.V.L1
open Go V
set_option linter.unusedVariables false
set_option linter.unusedSimpArgs false
set_option maxRecDepth 100000
set_option maxHeartbeats 4000000
noncomputable section
variable {en : Env} {m : Mem}
theorem line_eq' (k n : Int) (p q d : List UInt8) (m : Mem) (Q : AV → Mem → Prop) (hr : rightOpB ⟨k, p, q, n, d⟩ = true) (hp : p.length ≤ 1100000) (hq : q.length ≤ 1100000) (hd : d.length ≤ 1100000) : WC Tryz.prog pol en (.func 53) [.agg [.sc (.int .u8 k), tx p, tx q, I n, tx d]] m Q = Q (tx (lineL ⟨k, p, q, n, d⟩)) m := line_eq ⟨k, p, q, n, d⟩ m Q hr hp hq hd
theorem print_ok (t : Sl Pn) (ht : t.l.length ≤ 1048576) (hft : FitP t.l) (hf : Fits en m.length) : WC Tryz.prog pol en (.func 21) [slf opC t] m fun v m' => v = ansO (printL t.l) ∧ m' = m := by
  refine callPur Tryz.func21 rfl rfl Tryz.ntmps21 Tryz.results21 ?_
  by_cases h512 : (512 : Int) < (t.l.length : Int)
  · (have c1 : Dm := ⟨⟩; have c2 : Dm := ⟨⟩; have c3 : Dm := ⟨⟩; have c4 : Dm := ⟨⟩; have c5 : Dm := ⟨⟩; have c6 : Dm := ⟨⟩) <;> (try simp -implicitDefEqProofs -dsimp (maxSteps := 2000000) (disch := (first | exact dz | fail)) only [go_sem, aR, h512]) <;> (repeat' (first | ((with_reducible refine ds_and ?_ ?_); focus exact kz) | ((with_reducible refine And.intro ?_ ?_); focus exact oz) | ((with_reducible refine pc_and ?_ ?_); focus exact pz) | ((with_reducible first | refine gIf_t ?_ ?_ | refine gIf_f ?_ ?_ | refine ite_t ?_ ?_ | refine ite_p ?_ ?_) <;> (first | (have z := (c1 : Dm); clear z c1; intro c1; try simp only [noR] at c1) | (have z := (c2 : Dm); clear z c2; intro c2; try simp only [noR] at c2) | (have z := (c3 : Dm); clear z c3; intro c3; try simp only [noR] at c3) | (have z := (c4 : Dm); clear z c4; intro c4; try simp only [noR] at c4) | (have z := (c5 : Dm); clear z c5; intro c5; try simp only [noR] at c5) | (have z := (c6 : Dm); clear z c6; intro c6; try simp only [noR] at c6)) <;> (try simp -implicitDefEqProofs -dsimp (maxSteps := 2000000) (disch := (first | exact dz | fail)) only [go_sem, aR, c6, c5, c4, c3, c2, c1, h512])))) <;> (try with_reducible and_intros) <;> (first | exact fz | skip)
    rw [printL, if_neg (by omega)]; rfl
  (have c1 : Dm := ⟨⟩; have c2 : Dm := ⟨⟩; have c3 : Dm := ⟨⟩; have c4 : Dm := ⟨⟩; have c5 : Dm := ⟨⟩; have c6 : Dm := ⟨⟩) <;> (try simp -implicitDefEqProofs -dsimp (maxSteps := 2000000) (disch := (first | exact dz | fail)) only [go_sem, aR, h512]) <;> (repeat' (first | ((with_reducible refine ds_and ?_ ?_); focus exact kz) | ((with_reducible refine And.intro ?_ ?_); focus exact oz) | ((with_reducible refine pc_and ?_ ?_); focus exact pz) | ((with_reducible first | refine gIf_t ?_ ?_ | refine gIf_f ?_ ?_ | refine ite_t ?_ ?_ | refine ite_p ?_ ?_) <;> (first | (have z := (c1 : Dm); clear z c1; intro c1; try simp only [noR] at c1) | (have z := (c2 : Dm); clear z c2; intro c2; try simp only [noR] at c2) | (have z := (c3 : Dm); clear z c3; intro c3; try simp only [noR] at c3) | (have z := (c4 : Dm); clear z c4; intro c4; try simp only [noR] at c4) | (have z := (c5 : Dm); clear z c5; intro c5; try simp only [noR] at c5) | (have z := (c6 : Dm); clear z c6; intro c6; try simp only [noR] at c6)) <;> (try simp -implicitDefEqProofs -dsimp (maxSteps := 2000000) (disch := (first | exact dz | fail)) only [go_sem, aR, c6, c5, c4, c3, c2, c1, h512])))) <;> (try with_reducible and_intros) <;> (first | exact fz | skip)
  have hf' : Fits ⟨m.length :: en.bases, m.length⟩ m.length := hf.pur
  have hb' : (⟨m.length :: en.bases, m.length⟩ : Env).bar ≤ m.length := Nat.le_refl _
  refine loopF (fun k ts m' => ∃ i : Nat, ts.length = 25 ∧ tg ts 4 = .ptr m.length tB 0 ∧ tg ts 10 = slf opC t ∧ tg ts 11 = I t.l.length ∧ tg ts 12 = I i ∧ BldG m.length m.length (linesL (t.l.take i)) m' ∧ m.length ≤ m'.length ∧ (t.l.take i).all rightOpB = true ∧ i ≤ t.l.length ∧ k = t.l.length - i) t.l.length ⟨0, rfl, rfl, rfl, rfl, rfl, .nil .nilP (by rw [getM0]; rfl) (.inl rfl) (Nat.le_refl _) rfl, by simp, by simp, by omega, by omega⟩ ?_
  rintro k ts m' ⟨i, hl, h4, h10, h11, h12, hB, hm, ha, hi, rfl⟩
  rw [expandT hl]
  have hll := lines_len hft i hi ha
  by_cases hlt : (i : Int) < (t.l.length : Int)
  · obtain ⟨o, ho⟩ : ∃ o, t.l[i]? = some o := ⟨_, List.getElem?_eq_getElem (by omega)⟩
    have hmem := List.mem_of_getElem? ho
    have hp := hft.path _ hmem
    have hq := hft.other _ hmem
    have hd := hft.data _ hmem
    cases hr : rightOpB o with
    | false =>
      (have c1 : Dm := ⟨⟩; have c2 : Dm := ⟨⟩; have c3 : Dm := ⟨⟩; have c4 : Dm := ⟨⟩; have c5 : Dm := ⟨⟩; have c6 : Dm := ⟨⟩) <;> (try simp -implicitDefEqProofs -dsimp (maxSteps := 2000000) (disch := (first | exact dz | fail)) only [go_sem, aR, h4, h10, h11, h12, hlt, ho, rightOp0_eq, hr]) <;> (repeat' (first | ((with_reducible refine ds_and ?_ ?_); focus exact kz) | ((with_reducible refine And.intro ?_ ?_); focus exact oz) | ((with_reducible refine pc_and ?_ ?_); focus exact pz) | ((with_reducible first | refine gIf_t ?_ ?_ | refine gIf_f ?_ ?_ | refine ite_t ?_ ?_ | refine ite_p ?_ ?_) <;> (first | (have z := (c1 : Dm); clear z c1; intro c1; try simp only [noR] at c1) | (have z := (c2 : Dm); clear z c2; intro c2; try simp only [noR] at c2) | (have z := (c3 : Dm); clear z c3; intro c3; try simp only [noR] at c3) | (have z := (c4 : Dm); clear z c4; intro c4; try simp only [noR] at c4) | (have z := (c5 : Dm); clear z c5; intro c5; try simp only [noR] at c5) | (have z := (c6 : Dm); clear z c6; intro c6; try simp only [noR] at c6)) <;> (try simp -implicitDefEqProofs -dsimp (maxSteps := 2000000) (disch := (first | exact dz | fail)) only [go_sem, aR, c6, c5, c4, c3, c2, c1, h4, h10, h11, h12, hlt, ho, rightOp0_eq, hr])))) <;> (try with_reducible and_intros) <;> (first | exact fz | skip)
      rw [print_no ho hr]; rfl
    | true =>
      have hln := line_len hr hp hq hd
      (have c1 : Dm := ⟨⟩; have c2 : Dm := ⟨⟩; have c3 : Dm := ⟨⟩; have c4 : Dm := ⟨⟩; have c5 : Dm := ⟨⟩; have c6 : Dm := ⟨⟩) <;> (try simp -implicitDefEqProofs -dsimp (maxSteps := 2000000) (disch := (first | exact dz | fail)) only [go_sem, aR, h4, h10, h11, h12, hlt, ho, rightOp0_eq, hr, line_eq']) <;> (repeat' (first | ((with_reducible refine ds_and ?_ ?_); focus exact kz) | ((with_reducible refine And.intro ?_ ?_); focus exact oz) | ((with_reducible refine pc_and ?_ ?_); focus exact pz) | ((with_reducible first | refine gIf_t ?_ ?_ | refine gIf_f ?_ ?_ | refine ite_t ?_ ?_ | refine ite_p ?_ ?_) <;> (first | (have z := (c1 : Dm); clear z c1; intro c1; try simp only [noR] at c1) | (have z := (c2 : Dm); clear z c2; intro c2; try simp only [noR] at c2) | (have z := (c3 : Dm); clear z c3; intro c3; try simp only [noR] at c3) | (have z := (c4 : Dm); clear z c4; intro c4; try simp only [noR] at c4) | (have z := (c5 : Dm); clear z c5; intro c5; try simp only [noR] at c5) | (have z := (c6 : Dm); clear z c6; intro c6; try simp only [noR] at c6)) <;> (try simp -implicitDefEqProofs -dsimp (maxSteps := 2000000) (disch := (first | exact dz | fail)) only [go_sem, aR, c6, c5, c4, c3, c2, c1, h4, h10, h11, h12, hlt, ho, rightOp0_eq, hr, line_eq'])))) <;> (try with_reducible and_intros) <;> (first | exact fz | skip)
      refine (writeStringG (s := lineL o) hB.up hf' hb' (by omega)).mono ?_
      rintro _ m2 ⟨rfl, hB2, hm2⟩
      simp only [List.length_append] at hm2
      (have c1 : Dm := ⟨⟩; have c2 : Dm := ⟨⟩; have c3 : Dm := ⟨⟩; have c4 : Dm := ⟨⟩; have c5 : Dm := ⟨⟩; have c6 : Dm := ⟨⟩) <;> (try simp -implicitDefEqProofs -dsimp (maxSteps := 2000000) (disch := (first | exact dz | fail)) only [go_sem, aR, ]) <;> (repeat' (first | ((with_reducible refine ds_and ?_ ?_); focus exact kz) | ((with_reducible refine And.intro ?_ ?_); focus exact oz) | ((with_reducible refine pc_and ?_ ?_); focus exact pz) | ((with_reducible first | refine gIf_t ?_ ?_ | refine gIf_f ?_ ?_ | refine ite_t ?_ ?_ | refine ite_p ?_ ?_) <;> (first | (have z := (c1 : Dm); clear z c1; intro c1; try simp only [noR] at c1) | (have z := (c2 : Dm); clear z c2; intro c2; try simp only [noR] at c2) | (have z := (c3 : Dm); clear z c3; intro c3; try simp only [noR] at c3) | (have z := (c4 : Dm); clear z c4; intro c4; try simp only [noR] at c4) | (have z := (c5 : Dm); clear z c5; intro c5; try simp only [noR] at c5) | (have z := (c6 : Dm); clear z c6; intro c6; try simp only [noR] at c6)) <;> (try simp -implicitDefEqProofs -dsimp (maxSteps := 2000000) (disch := (first | exact dz | fail)) only [go_sem, aR, c6, c5, c4, c3, c2, c1])))) <;> (try with_reducible and_intros) <;> (first | exact fz | skip)
      refine (writeByteG (c := 10) hB2 hf' hb' (by rw [List.length_append]; omega)).mono ?_
      rintro _ m3 ⟨rfl, hB3, hm3⟩
      (have c1 : Dm := ⟨⟩; have c2 : Dm := ⟨⟩; have c3 : Dm := ⟨⟩; have c4 : Dm := ⟨⟩; have c5 : Dm := ⟨⟩; have c6 : Dm := ⟨⟩) <;> (try simp -implicitDefEqProofs -dsimp (maxSteps := 2000000) (disch := (first | exact dz | fail)) only [go_sem, aR, ]) <;> (repeat' (first | ((with_reducible refine ds_and ?_ ?_); focus exact kz) | ((with_reducible refine And.intro ?_ ?_); focus exact oz) | ((with_reducible refine pc_and ?_ ?_); focus exact pz) | ((with_reducible first | refine gIf_t ?_ ?_ | refine gIf_f ?_ ?_ | refine ite_t ?_ ?_ | refine ite_p ?_ ?_) <;> (first | (have z := (c1 : Dm); clear z c1; intro c1; try simp only [noR] at c1) | (have z := (c2 : Dm); clear z c2; intro c2; try simp only [noR] at c2) | (have z := (c3 : Dm); clear z c3; intro c3; try simp only [noR] at c3) | (have z := (c4 : Dm); clear z c4; intro c4; try simp only [noR] at c4) | (have z := (c5 : Dm); clear z c5; intro c5; try simp only [noR] at c5) | (have z := (c6 : Dm); clear z c6; intro c6; try simp only [noR] at c6)) <;> (try simp -implicitDefEqProofs -dsimp (maxSteps := 2000000) (disch := (first | exact dz | fail)) only [go_sem, aR, c6, c5, c4, c3, c2, c1])))) <;> (try with_reducible and_intros) <;> (first | exact fz | skip)
      exact ⟨t.l.length - (i + 1), by omega, i + 1, rfl, by rw [lines_take ho, ← List.append_assoc]; exact hB3, by omega, allR_take ho ha hr, by omega, rfl⟩
  · have hit : t.l.take i = t.l := List.take_of_length_le (by omega)
    rw [hit] at hB ha hll
    (have c1 : Dm := ⟨⟩; have c2 : Dm := ⟨⟩; have c3 : Dm := ⟨⟩; have c4 : Dm := ⟨⟩; have c5 : Dm := ⟨⟩; have c6 : Dm := ⟨⟩) <;> (try simp -implicitDefEqProofs -dsimp (maxSteps := 2000000) (disch := (first | exact dz | fail)) only [go_sem, aR, h4, h10, h11, h12, hlt]) <;> (repeat' (first | ((with_reducible refine ds_and ?_ ?_); focus exact kz) | ((with_reducible refine And.intro ?_ ?_); focus exact oz) | ((with_reducible refine pc_and ?_ ?_); focus exact pz) | ((with_reducible first | refine gIf_t ?_ ?_ | refine gIf_f ?_ ?_ | refine ite_t ?_ ?_ | refine ite_p ?_ ?_) <;> (first | (have z := (c1 : Dm); clear z c1; intro c1; try simp only [noR] at c1) | (have z := (c2 : Dm); clear z c2; intro c2; try simp only [noR] at c2) | (have z := (c3 : Dm); clear z c3; intro c3; try simp only [noR] at c3) | (have z := (c4 : Dm); clear z c4; intro c4; try simp only [noR] at c4) | (have z := (c5 : Dm); clear z c5; intro c5; try simp only [noR] at c5) | (have z := (c6 : Dm); clear z c6; intro c6; try simp only [noR] at c6)) <;> (try simp -implicitDefEqProofs -dsimp (maxSteps := 2000000) (disch := (first | exact dz | fail)) only [go_sem, aR, c6, c5, c4, c3, c2, c1, h4, h10, h11, h12, hlt])))) <;> (try with_reducible and_intros) <;> (first | exact fz | skip)
    refine (stringG hB hf' hb' (by omega)).mono ?_
    rintro _ m3 ⟨rfl, hm3⟩
    (have c1 : Dm := ⟨⟩; have c2 : Dm := ⟨⟩; have c3 : Dm := ⟨⟩; have c4 : Dm := ⟨⟩; have c5 : Dm := ⟨⟩; have c6 : Dm := ⟨⟩) <;> (try simp -implicitDefEqProofs -dsimp (maxSteps := 2000000) (disch := (first | exact dz | fail)) only [go_sem, aR, ]) <;> (repeat' (first | ((with_reducible refine ds_and ?_ ?_); focus exact kz) | ((with_reducible refine And.intro ?_ ?_); focus exact oz) | ((with_reducible refine pc_and ?_ ?_); focus exact pz) | ((with_reducible first | refine gIf_t ?_ ?_ | refine gIf_f ?_ ?_ | refine ite_t ?_ ?_ | refine ite_p ?_ ?_) <;> (first | (have z := (c1 : Dm); clear z c1; intro c1; try simp only [noR] at c1) | (have z := (c2 : Dm); clear z c2; intro c2; try simp only [noR] at c2) | (have z := (c3 : Dm); clear z c3; intro c3; try simp only [noR] at c3) | (have z := (c4 : Dm); clear z c4; intro c4; try simp only [noR] at c4) | (have z := (c5 : Dm); clear z c5; intro c5; try simp only [noR] at c5) | (have z := (c6 : Dm); clear z c6; intro c6; try simp only [noR] at c6)) <;> (try simp -implicitDefEqProofs -dsimp (maxSteps := 2000000) (disch := (first | exact dz | fail)) only [go_sem, aR, c6, c5, c4, c3, c2, c1])))) <;> (try with_reducible and_intros) <;> (first | exact fz | skip)
    rw [printL, if_pos ⟨by omega, ha⟩]; rfl
theorem refPrint_ok (t : Sl Pn) (ht : t.l.length ≤ 1048576) (hft : FitP t.l) (hf : Fits en m.length) : WC Tryz.prog pol en (.func 22) [slf opC t] m fun v m' => v = ansO (printL t.l) ∧ m' = m := by
  refine callPur Tryz.func22 rfl rfl Tryz.ntmps22 Tryz.results22 ?_
  by_cases h512 : (512 : Int) < (t.l.length : Int)
  · (have c1 : Dm := ⟨⟩; have c2 : Dm := ⟨⟩; have c3 : Dm := ⟨⟩; have c4 : Dm := ⟨⟩; have c5 : Dm := ⟨⟩; have c6 : Dm := ⟨⟩) <;> (try simp -implicitDefEqProofs -dsimp (maxSteps := 2000000) (disch := (first | exact dz | fail)) only [go_sem, aR, h512]) <;> (repeat' (first | ((with_reducible refine ds_and ?_ ?_); focus exact kz) | ((with_reducible refine And.intro ?_ ?_); focus exact oz) | ((with_reducible refine pc_and ?_ ?_); focus exact pz) | ((with_reducible first | refine gIf_t ?_ ?_ | refine gIf_f ?_ ?_ | refine ite_t ?_ ?_ | refine ite_p ?_ ?_) <;> (first | (have z := (c1 : Dm); clear z c1; intro c1; try simp only [noR] at c1) | (have z := (c2 : Dm); clear z c2; intro c2; try simp only [noR] at c2) | (have z := (c3 : Dm); clear z c3; intro c3; try simp only [noR] at c3) | (have z := (c4 : Dm); clear z c4; intro c4; try simp only [noR] at c4) | (have z := (c5 : Dm); clear z c5; intro c5; try simp only [noR] at c5) | (have z := (c6 : Dm); clear z c6; intro c6; try simp only [noR] at c6)) <;> (try simp -implicitDefEqProofs -dsimp (maxSteps := 2000000) (disch := (first | exact dz | fail)) only [go_sem, aR, c6, c5, c4, c3, c2, c1, h512])))) <;> (try with_reducible and_intros) <;> (first | exact fz | skip)
    rw [printL, if_neg (by omega)]; rfl
  (have c1 : Dm := ⟨⟩; have c2 : Dm := ⟨⟩; have c3 : Dm := ⟨⟩; have c4 : Dm := ⟨⟩; have c5 : Dm := ⟨⟩; have c6 : Dm := ⟨⟩) <;> (try simp -implicitDefEqProofs -dsimp (maxSteps := 2000000) (disch := (first | exact dz | fail)) only [go_sem, aR, h512]) <;> (repeat' (first | ((with_reducible refine ds_and ?_ ?_); focus exact kz) | ((with_reducible refine And.intro ?_ ?_); focus exact oz) | ((with_reducible refine pc_and ?_ ?_); focus exact pz) | ((with_reducible first | refine gIf_t ?_ ?_ | refine gIf_f ?_ ?_ | refine ite_t ?_ ?_ | refine ite_p ?_ ?_) <;> (first | (have z := (c1 : Dm); clear z c1; intro c1; try simp only [noR] at c1) | (have z := (c2 : Dm); clear z c2; intro c2; try simp only [noR] at c2) | (have z := (c3 : Dm); clear z c3; intro c3; try simp only [noR] at c3) | (have z := (c4 : Dm); clear z c4; intro c4; try simp only [noR] at c4) | (have z := (c5 : Dm); clear z c5; intro c5; try simp only [noR] at c5) | (have z := (c6 : Dm); clear z c6; intro c6; try simp only [noR] at c6)) <;> (try simp -implicitDefEqProofs -dsimp (maxSteps := 2000000) (disch := (first | exact dz | fail)) only [go_sem, aR, c6, c5, c4, c3, c2, c1, h512])))) <;> (try with_reducible and_intros) <;> (first | exact fz | skip)
  refine loopF (fun k ts m' => ∃ i : Nat, ts.length = 30 ∧ tg ts 0 = slf opC t ∧ tg ts 4 = tx (linesL (t.l.take i)) ∧ tg ts 5 = I i ∧ m' = m ∧ (t.l.take i).all rightOpB = true ∧ i ≤ t.l.length ∧ k = t.l.length - i) t.l.length ⟨0, rfl, rfl, rfl, rfl, rfl, by simp, by omega, by omega⟩ ?_
  rintro k ts m' ⟨i, hl, h0, h4, h5, rfl, ha, hi, rfl⟩
  rw [expandT hl]
  have hll := lines_len hft i hi ha
  by_cases hlt : (i : Int) < (t.l.length : Int)
  · obtain ⟨o, ho⟩ : ∃ o, t.l[i]? = some o := ⟨_, List.getElem?_eq_getElem (by omega)⟩
    have hmem := List.mem_of_getElem? ho
    have hp := hft.path _ hmem
    have hq := hft.other _ hmem
    have hd := hft.data _ hmem
    cases hr : rightOpB o with
    | false =>
      (have c1 : Dm := ⟨⟩; have c2 : Dm := ⟨⟩; have c3 : Dm := ⟨⟩; have c4 : Dm := ⟨⟩; have c5 : Dm := ⟨⟩; have c6 : Dm := ⟨⟩) <;> (try simp -implicitDefEqProofs -dsimp (maxSteps := 2000000) (disch := (first | exact dz | fail)) only [go_sem, aR, h0, h4, h5, hlt, ho, rightOpR_eq, hr]) <;> (repeat' (first | ((with_reducible refine ds_and ?_ ?_); focus exact kz) | ((with_reducible refine And.intro ?_ ?_); focus exact oz) | ((with_reducible refine pc_and ?_ ?_); focus exact pz) | ((with_reducible first | refine gIf_t ?_ ?_ | refine gIf_f ?_ ?_ | refine ite_t ?_ ?_ | refine ite_p ?_ ?_) <;> (first | (have z := (c1 : Dm); clear z c1; intro c1; try simp only [noR] at c1) | (have z := (c2 : Dm); clear z c2; intro c2; try simp only [noR] at c2) | (have z := (c3 : Dm); clear z c3; intro c3; try simp only [noR] at c3) | (have z := (c4 : Dm); clear z c4; intro c4; try simp only [noR] at c4) | (have z := (c5 : Dm); clear z c5; intro c5; try simp only [noR] at c5) | (have z := (c6 : Dm); clear z c6; intro c6; try simp only [noR] at c6)) <;> (try simp -implicitDefEqProofs -dsimp (maxSteps := 2000000) (disch := (first | exact dz | fail)) only [go_sem, aR, c6, c5, c4, c3, c2, c1, h0, h4, h5, hlt, ho, rightOpR_eq, hr])))) <;> (try with_reducible and_intros) <;> (first | exact fz | skip)
      rw [print_no ho hr]; rfl
    | true =>
      have hln := line_len hr hp hq hd
      have hln' : (lineL ⟨o.kind, o.path, o.other, o.off, o.data⟩).length ≤ 6000000 := hln
      (have c1 : Dm := ⟨⟩; have c2 : Dm := ⟨⟩; have c3 : Dm := ⟨⟩; have c4 : Dm := ⟨⟩; have c5 : Dm := ⟨⟩; have c6 : Dm := ⟨⟩) <;> (try simp -implicitDefEqProofs -dsimp (maxSteps := 2000000) (disch := (first | exact dz | fail)) only [go_sem, aR, h0, h4, h5, hlt, ho, rightOpR_eq, hr, refLine_eq']) <;> (repeat' (first | ((with_reducible refine ds_and ?_ ?_); focus exact kz) | ((with_reducible refine And.intro ?_ ?_); focus exact oz) | ((with_reducible refine pc_and ?_ ?_); focus exact pz) | ((with_reducible first | refine gIf_t ?_ ?_ | refine gIf_f ?_ ?_ | refine ite_t ?_ ?_ | refine ite_p ?_ ?_) <;> (first | (have z := (c1 : Dm); clear z c1; intro c1; try simp only [noR] at c1) | (have z := (c2 : Dm); clear z c2; intro c2; try simp only [noR] at c2) | (have z := (c3 : Dm); clear z c3; intro c3; try simp only [noR] at c3) | (have z := (c4 : Dm); clear z c4; intro c4; try simp only [noR] at c4) | (have z := (c5 : Dm); clear z c5; intro c5; try simp only [noR] at c5) | (have z := (c6 : Dm); clear z c6; intro c6; try simp only [noR] at c6)) <;> (try simp -implicitDefEqProofs -dsimp (maxSteps := 2000000) (disch := (first | exact dz | fail)) only [go_sem, aR, c6, c5, c4, c3, c2, c1, h0, h4, h5, hlt, ho, rightOpR_eq, hr, refLine_eq'])))) <;> (try with_reducible and_intros) <;> (first | exact fz | skip)
      exact ⟨t.l.length - (i + 1), by omega, i + 1, by rw [lines_take ho], rfl, allR_take ho ha hr, by omega, rfl⟩
  · have hit : t.l.take i = t.l := List.take_of_length_le (by omega)
    rw [hit] at h4 ha
    (have c1 : Dm := ⟨⟩; have c2 : Dm := ⟨⟩; have c3 : Dm := ⟨⟩; have c4 : Dm := ⟨⟩; have c5 : Dm := ⟨⟩; have c6 : Dm := ⟨⟩) <;> (try simp -implicitDefEqProofs -dsimp (maxSteps := 2000000) (disch := (first | exact dz | fail)) only [go_sem, aR, h0, h4, h5, hlt]) <;> (repeat' (first | ((with_reducible refine ds_and ?_ ?_); focus exact kz) | ((with_reducible refine And.intro ?_ ?_); focus exact oz) | ((with_reducible refine pc_and ?_ ?_); focus exact pz) | ((with_reducible first | refine gIf_t ?_ ?_ | refine gIf_f ?_ ?_ | refine ite_t ?_ ?_ | refine ite_p ?_ ?_) <;> (first | (have z := (c1 : Dm); clear z c1; intro c1; try simp only [noR] at c1) | (have z := (c2 : Dm); clear z c2; intro c2; try simp only [noR] at c2) | (have z := (c3 : Dm); clear z c3; intro c3; try simp only [noR] at c3) | (have z := (c4 : Dm); clear z c4; intro c4; try simp only [noR] at c4) | (have z := (c5 : Dm); clear z c5; intro c5; try simp only [noR] at c5) | (have z := (c6 : Dm); clear z c6; intro c6; try simp only [noR] at c6)) <;> (try simp -implicitDefEqProofs -dsimp (maxSteps := 2000000) (disch := (first | exact dz | fail)) only [go_sem, aR, c6, c5, c4, c3, c2, c1, h0, h4, h5, hlt])))) <;> (try with_reducible and_intros) <;> (first | exact fz | skip)
    rw [printL, if_pos ⟨by omega, ha⟩]; rfl
end
end Go.Proofs.YtcmjidnbbfcbjaaGreatDoor.V.L1
/- The operation that a line says, of the program: one, two words; no condition. -/
namespace Go.Proofs.YtcmjidnbbfcbjaaGreatDoor.V.L1
open Go V
set_option linter.unusedVariables false
set_option linter.unusedSimpArgs false
set_option maxRecDepth 100000
set_option maxHeartbeats 4000000
noncomputable section
variable {en : Env} {m : Mem}
theorem read1_ok (s : List UInt8) (w : List UInt8) (hc : cutL 32 s = [w]) (hs : s.length ≤ 1000000) (hf : Fits en m.length) : WC Tryz.prog pol en (.func 60) [tx s] m fun v m' => ∃ o : Pn, v = .tup [.agg (opC o), bo (readL s).isSome] ∧ (∀ x, readL s = some x → o = x) ∧ m' = m := by
  refine callPur Tryz.func60 rfl rfl Tryz.ntmps60 Tryz.results60 ?_
  (have hq1 : Dm := ⟨⟩; have hq2 : Dm := ⟨⟩; have hq3 : Dm := ⟨⟩; have hq4 : Dm := ⟨⟩; have hq5 : Dm := ⟨⟩; have hq6 : Dm := ⟨⟩) <;> (try simp -implicitDefEqProofs -dsimp (maxSteps := 2000000) (disch := (first | exact dz | fail)) only [go_sem, aR, fields_eq, hc]) <;> (repeat' (first | ((with_reducible refine ds_and ?_ ?_); focus exact kz) | ((with_reducible refine And.intro ?_ ?_); focus exact oz) | ((with_reducible refine pc_and ?_ ?_); focus exact pz) | ((with_reducible first | refine gIf_t ?_ ?_ | refine gIf_f ?_ ?_ | refine ite_t ?_ ?_ | refine ite_p ?_ ?_) <;> (first | (have z := (hq1 : Dm); clear z hq1; intro hq1; try simp only [noR] at hq1) | (have z := (hq2 : Dm); clear z hq2; intro hq2; try simp only [noR] at hq2) | (have z := (hq3 : Dm); clear z hq3; intro hq3; try simp only [noR] at hq3) | (have z := (hq4 : Dm); clear z hq4; intro hq4; try simp only [noR] at hq4) | (have z := (hq5 : Dm); clear z hq5; intro hq5; try simp only [noR] at hq5) | (have z := (hq6 : Dm); clear z hq6; intro hq6; try simp only [noR] at hq6)) <;> (try simp -implicitDefEqProofs -dsimp (maxSteps := 2000000) (disch := (first | exact dz | fail)) only [go_sem, aR, hq6, hq5, hq4, hq3, hq2, hq1, fields_eq, hc])))) <;> (try with_reducible and_intros) <;> (first | exact fz | skip)
  refine loopF (fun k ts m' => ∃ (j : Nat), ts.length = 119 ∧ tg ts 0 = tx s ∧ tg ts 2 = .ptr m.length (tagT 55) 0 ∧ tg ts 3 = bo false ∧ tg ts 4 = sl tx ⟨false, false, [w]⟩ ∧ tg ts 5 = .sc (.int .u8 (j + 1 : Nat)) ∧
    m' = m ++ [.cells (tagT 55) [.sc (.int .u8 (kindTo w j)), tx [], tx [], I 0, tx []]] ∧ j ≤ 8 ∧ k = 8 - j) 8 ⟨0, rfl, rfl, rfl, rfl, rfl, rfl, rfl, by omega, by omega⟩ ?_
  rintro k ts m' ⟨j, hl, h0, h2, h3, h4, h5, rfl, hj, rfl⟩
  rw [expandT hl]
  by_cases h8 : ((j + 1 : Nat) : Int) ≤ 8
  · (have c1 : Dm := ⟨⟩; have c2 : Dm := ⟨⟩; have c3 : Dm := ⟨⟩; have c4 : Dm := ⟨⟩; have c5 : Dm := ⟨⟩; have c6 : Dm := ⟨⟩) <;> (try simp -implicitDefEqProofs -dsimp (maxSteps := 2000000) (disch := (first | exact dz | fail)) only [go_sem, aR, h0, h2, h3, h4, h5, h8, words_eq]) <;> (repeat' (first | ((with_reducible refine ds_and ?_ ?_); focus exact kz) | ((with_reducible refine And.intro ?_ ?_); focus exact oz) | ((with_reducible refine pc_and ?_ ?_); focus exact pz) | ((with_reducible first | refine gIf_t ?_ ?_ | refine gIf_f ?_ ?_ | refine ite_t ?_ ?_ | refine ite_p ?_ ?_) <;> (first | (have z := (c1 : Dm); clear z c1; intro c1; try simp only [noR] at c1) | (have z := (c2 : Dm); clear z c2; intro c2; try simp only [noR] at c2) | (have z := (c3 : Dm); clear z c3; intro c3; try simp only [noR] at c3) | (have z := (c4 : Dm); clear z c4; intro c4; try simp only [noR] at c4) | (have z := (c5 : Dm); clear z c5; intro c5; try simp only [noR] at c5) | (have z := (c6 : Dm); clear z c6; intro c6; try simp only [noR] at c6)) <;> (try simp -implicitDefEqProofs -dsimp (maxSteps := 2000000) (disch := (first | exact dz | fail)) only [go_sem, aR, c6, c5, c4, c3, c2, c1, h0, h2, h3, h4, h5, h8, words_eq])))) <;> (try with_reducible and_intros) <;> (first | exact fz | skip)
    · exact ⟨8 - (j + 1), by omega, j + 1, rfl, by rw [kindTo_succ, kindStep, if_pos rfl], by omega, rfl⟩
    · exact ⟨8 - (j + 1), by omega, j + 1, rfl, by rw [kindTo_succ, kindStep, if_neg c1], by omega, rfl⟩
  · obtain rfl : j = 8 := by omega
    have hlen : ∀ x ∈ [w], x.length ≤ 1000000 := fun x hx => by
      rw [← hc] at hx
      have := cut_mem_len hx; omega
    have hkc : 0 ≤ kindL w ∧ kindL w ≤ 8 := by
      rcases kind_cases w with ⟨h, _⟩ | ⟨h1, h2, _⟩ <;> omega
    have hn : readL s = none := read_bad (by rw [hc]; simp) (by rw [hc]; simp) (by rw [hc]; simp)
    (have c1 : Dm := ⟨⟩; have c2 : Dm := ⟨⟩; have c3 : Dm := ⟨⟩; have c4 : Dm := ⟨⟩; have c5 : Dm := ⟨⟩; have c6 : Dm := ⟨⟩; have c7 : Dm := ⟨⟩; have c8 : Dm := ⟨⟩; have c9 : Dm := ⟨⟩; have c10 : Dm := ⟨⟩; have c11 : Dm := ⟨⟩; have c12 : Dm := ⟨⟩) <;> (try simp -implicitDefEqProofs -dsimp (maxSteps := 2000000) (disch := (first | exact dz | fail)) only [go_sem, aR, h0, h2, h3, h4, h5, h8, words_eq, kindTo_8]) <;> (repeat' (first | ((with_reducible refine ds_and ?_ ?_); focus exact kz) | ((with_reducible refine And.intro ?_ ?_); focus exact oz) | ((with_reducible refine pc_and ?_ ?_); focus exact pz) | ((with_reducible first | refine gIf_t ?_ ?_ | refine gIf_f ?_ ?_ | refine ite_t ?_ ?_ | refine ite_p ?_ ?_) <;> (first | (have z := (c1 : Dm); clear z c1; intro c1; try simp only [noR] at c1) | (have z := (c2 : Dm); clear z c2; intro c2; try simp only [noR] at c2) | (have z := (c3 : Dm); clear z c3; intro c3; try simp only [noR] at c3) | (have z := (c4 : Dm); clear z c4; intro c4; try simp only [noR] at c4) | (have z := (c5 : Dm); clear z c5; intro c5; try simp only [noR] at c5) | (have z := (c6 : Dm); clear z c6; intro c6; try simp only [noR] at c6) | (have z := (c7 : Dm); clear z c7; intro c7; try simp only [noR] at c7) | (have z := (c8 : Dm); clear z c8; intro c8; try simp only [noR] at c8) | (have z := (c9 : Dm); clear z c9; intro c9; try simp only [noR] at c9) | (have z := (c10 : Dm); clear z c10; intro c10; try simp only [noR] at c10) | (have z := (c11 : Dm); clear z c11; intro c11; try simp only [noR] at c11) | (have z := (c12 : Dm); clear z c12; intro c12; try simp only [noR] at c12)) <;> (try simp -implicitDefEqProofs -dsimp (maxSteps := 2000000) (disch := (first | exact dz | fail)) only [go_sem, aR, c12, c11, c10, c9, c8, c7, c6, c5, c4, c3, c2, c1, h0, h2, h3, h4, h5, h8, words_eq, kindTo_8])))) <;> (try with_reducible and_intros) <;> (first | exact fz | skip)
    all_goals exact read_none ⟨0, [], [], 0, []⟩ hn
theorem read2_ok (s : List UInt8) (w w1 : List UInt8) (hc : cutL 32 s = [w, w1]) (hs : s.length ≤ 1000000) (hf : Fits en m.length) : WC Tryz.prog pol en (.func 60) [tx s] m fun v m' => ∃ o : Pn, v = .tup [.agg (opC o), bo (readL s).isSome] ∧ (∀ x, readL s = some x → o = x) ∧ m' = m := by
  refine callPur Tryz.func60 rfl rfl Tryz.ntmps60 Tryz.results60 ?_
  (have hq1 : Dm := ⟨⟩; have hq2 : Dm := ⟨⟩; have hq3 : Dm := ⟨⟩; have hq4 : Dm := ⟨⟩; have hq5 : Dm := ⟨⟩; have hq6 : Dm := ⟨⟩) <;> (try simp -implicitDefEqProofs -dsimp (maxSteps := 2000000) (disch := (first | exact dz | fail)) only [go_sem, aR, fields_eq, hc]) <;> (repeat' (first | ((with_reducible refine ds_and ?_ ?_); focus exact kz) | ((with_reducible refine And.intro ?_ ?_); focus exact oz) | ((with_reducible refine pc_and ?_ ?_); focus exact pz) | ((with_reducible first | refine gIf_t ?_ ?_ | refine gIf_f ?_ ?_ | refine ite_t ?_ ?_ | refine ite_p ?_ ?_) <;> (first | (have z := (hq1 : Dm); clear z hq1; intro hq1; try simp only [noR] at hq1) | (have z := (hq2 : Dm); clear z hq2; intro hq2; try simp only [noR] at hq2) | (have z := (hq3 : Dm); clear z hq3; intro hq3; try simp only [noR] at hq3) | (have z := (hq4 : Dm); clear z hq4; intro hq4; try simp only [noR] at hq4) | (have z := (hq5 : Dm); clear z hq5; intro hq5; try simp only [noR] at hq5) | (have z := (hq6 : Dm); clear z hq6; intro hq6; try simp only [noR] at hq6)) <;> (try simp -implicitDefEqProofs -dsimp (maxSteps := 2000000) (disch := (first | exact dz | fail)) only [go_sem, aR, hq6, hq5, hq4, hq3, hq2, hq1, fields_eq, hc])))) <;> (try with_reducible and_intros) <;> (first | exact fz | skip)
  refine loopF (fun k ts m' => ∃ (j : Nat), ts.length = 119 ∧ tg ts 0 = tx s ∧ tg ts 2 = .ptr m.length (tagT 55) 0 ∧ tg ts 3 = bo false ∧ tg ts 4 = sl tx ⟨false, false, [w, w1]⟩ ∧ tg ts 5 = .sc (.int .u8 (j + 1 : Nat)) ∧
    m' = m ++ [.cells (tagT 55) [.sc (.int .u8 (kindTo w j)), tx [], tx [], I 0, tx []]] ∧ j ≤ 8 ∧ k = 8 - j) 8 ⟨0, rfl, rfl, rfl, rfl, rfl, rfl, rfl, by omega, by omega⟩ ?_
  rintro k ts m' ⟨j, hl, h0, h2, h3, h4, h5, rfl, hj, rfl⟩
  rw [expandT hl]
  by_cases h8 : ((j + 1 : Nat) : Int) ≤ 8
  · (have c1 : Dm := ⟨⟩; have c2 : Dm := ⟨⟩; have c3 : Dm := ⟨⟩; have c4 : Dm := ⟨⟩; have c5 : Dm := ⟨⟩; have c6 : Dm := ⟨⟩) <;> (try simp -implicitDefEqProofs -dsimp (maxSteps := 2000000) (disch := (first | exact dz | fail)) only [go_sem, aR, h0, h2, h3, h4, h5, h8, words_eq]) <;> (repeat' (first | ((with_reducible refine ds_and ?_ ?_); focus exact kz) | ((with_reducible refine And.intro ?_ ?_); focus exact oz) | ((with_reducible refine pc_and ?_ ?_); focus exact pz) | ((with_reducible first | refine gIf_t ?_ ?_ | refine gIf_f ?_ ?_ | refine ite_t ?_ ?_ | refine ite_p ?_ ?_) <;> (first | (have z := (c1 : Dm); clear z c1; intro c1; try simp only [noR] at c1) | (have z := (c2 : Dm); clear z c2; intro c2; try simp only [noR] at c2) | (have z := (c3 : Dm); clear z c3; intro c3; try simp only [noR] at c3) | (have z := (c4 : Dm); clear z c4; intro c4; try simp only [noR] at c4) | (have z := (c5 : Dm); clear z c5; intro c5; try simp only [noR] at c5) | (have z := (c6 : Dm); clear z c6; intro c6; try simp only [noR] at c6)) <;> (try simp -implicitDefEqProofs -dsimp (maxSteps := 2000000) (disch := (first | exact dz | fail)) only [go_sem, aR, c6, c5, c4, c3, c2, c1, h0, h2, h3, h4, h5, h8, words_eq])))) <;> (try with_reducible and_intros) <;> (first | exact fz | skip)
    · exact ⟨8 - (j + 1), by omega, j + 1, rfl, by rw [kindTo_succ, kindStep, if_pos rfl], by omega, rfl⟩
    · exact ⟨8 - (j + 1), by omega, j + 1, rfl, by rw [kindTo_succ, kindStep, if_neg c1], by omega, rfl⟩
  · obtain rfl : j = 8 := by omega
    have hlen : ∀ x ∈ [w, w1], x.length ≤ 1000000 := fun x hx => by
      rw [← hc] at hx
      have := cut_mem_len hx; omega
    have hkc : 0 ≤ kindL w ∧ kindL w ≤ 8 := by
      rcases kind_cases w with ⟨h, _⟩ | ⟨h1, h2, _⟩ <;> omega
    have hl1 := hlen w1 (by simp)
    have hn : (kindL w = 3 ∨ kindL w = 6 ∨ kindL w = 7) → readL s = none := fun h => read_bad (by rw [hc]; simp; omega) (by rw [hc]; simp) (by rw [hc]; simp)
    have hy : ¬(kindL w = 3 ∨ kindL w = 6 ∨ kindL w = 7) → readL s = _ := fun h => read_one hc (by omega)
    (have c1 : Dm := ⟨⟩; have c2 : Dm := ⟨⟩; have c3 : Dm := ⟨⟩; have c4 : Dm := ⟨⟩; have c5 : Dm := ⟨⟩; have c6 : Dm := ⟨⟩; have c7 : Dm := ⟨⟩; have c8 : Dm := ⟨⟩; have c9 : Dm := ⟨⟩; have c10 : Dm := ⟨⟩; have c11 : Dm := ⟨⟩; have c12 : Dm := ⟨⟩) <;> (try simp -implicitDefEqProofs -dsimp (maxSteps := 2000000) (disch := (first | exact dz | fail)) only [go_sem, aR, h0, h2, h3, h4, h5, h8, words_eq, kindTo_8, rightOp0_eq]) <;> (repeat' (first | ((with_reducible refine ds_and ?_ ?_); focus exact kz) | ((with_reducible refine And.intro ?_ ?_); focus exact oz) | ((with_reducible refine pc_and ?_ ?_); focus exact pz) | ((with_reducible first | refine gIf_t ?_ ?_ | refine gIf_f ?_ ?_ | refine ite_t ?_ ?_ | refine ite_p ?_ ?_) <;> (first | (have z := (c1 : Dm); clear z c1; intro c1; try simp only [noR] at c1) | (have z := (c2 : Dm); clear z c2; intro c2; try simp only [noR] at c2) | (have z := (c3 : Dm); clear z c3; intro c3; try simp only [noR] at c3) | (have z := (c4 : Dm); clear z c4; intro c4; try simp only [noR] at c4) | (have z := (c5 : Dm); clear z c5; intro c5; try simp only [noR] at c5) | (have z := (c6 : Dm); clear z c6; intro c6; try simp only [noR] at c6) | (have z := (c7 : Dm); clear z c7; intro c7; try simp only [noR] at c7) | (have z := (c8 : Dm); clear z c8; intro c8; try simp only [noR] at c8) | (have z := (c9 : Dm); clear z c9; intro c9; try simp only [noR] at c9) | (have z := (c10 : Dm); clear z c10; intro c10; try simp only [noR] at c10) | (have z := (c11 : Dm); clear z c11; intro c11; try simp only [noR] at c11) | (have z := (c12 : Dm); clear z c12; intro c12; try simp only [noR] at c12)) <;> (try simp -implicitDefEqProofs -dsimp (maxSteps := 2000000) (disch := (first | exact dz | fail)) only [go_sem, aR, c12, c11, c10, c9, c8, c7, c6, c5, c4, c3, c2, c1, h0, h2, h3, h4, h5, h8, words_eq, kindTo_8, rightOp0_eq])))) <;> (try with_reducible and_intros) <;> (first | exact fz | skip)
    all_goals first | exact read_none ⟨0, [], [], 0, []⟩ (hn (by omega)) | exact read_leaf _ (hy (by omega))
end
end Go.Proofs.YtcmjidnbbfcbjaaGreatDoor.V.L1
/- The operation that a line says, of the program: three words; no condition. -/
namespace Go.Proofs.YtcmjidnbbfcbjaaGreatDoor.V.L1
open Go V
set_option linter.unusedVariables false
set_option linter.unusedSimpArgs false
set_option maxRecDepth 100000
set_option maxHeartbeats 4000000
noncomputable section
variable {en : Env} {m : Mem}
theorem read3_ok (s : List UInt8) (w w1 w2 : List UInt8) (hc : cutL 32 s = [w, w1, w2]) (hs : s.length ≤ 1000000) (hf : Fits en m.length) : WC Tryz.prog pol en (.func 60) [tx s] m fun v m' => ∃ o : Pn, v = .tup [.agg (opC o), bo (readL s).isSome] ∧ (∀ x, readL s = some x → o = x) ∧ m' = m := by
  refine callPur Tryz.func60 rfl rfl Tryz.ntmps60 Tryz.results60 ?_
  (have hq1 : Dm := ⟨⟩; have hq2 : Dm := ⟨⟩; have hq3 : Dm := ⟨⟩; have hq4 : Dm := ⟨⟩; have hq5 : Dm := ⟨⟩; have hq6 : Dm := ⟨⟩) <;> (try simp -implicitDefEqProofs -dsimp (maxSteps := 2000000) (disch := (first | exact dz | fail)) only [go_sem, aR, fields_eq, hc]) <;> (repeat' (first | ((with_reducible refine ds_and ?_ ?_); focus exact kz) | ((with_reducible refine And.intro ?_ ?_); focus exact oz) | ((with_reducible refine pc_and ?_ ?_); focus exact pz) | ((with_reducible first | refine gIf_t ?_ ?_ | refine gIf_f ?_ ?_ | refine ite_t ?_ ?_ | refine ite_p ?_ ?_) <;> (first | (have z := (hq1 : Dm); clear z hq1; intro hq1; try simp only [noR] at hq1) | (have z := (hq2 : Dm); clear z hq2; intro hq2; try simp only [noR] at hq2) | (have z := (hq3 : Dm); clear z hq3; intro hq3; try simp only [noR] at hq3) | (have z := (hq4 : Dm); clear z hq4; intro hq4; try simp only [noR] at hq4) | (have z := (hq5 : Dm); clear z hq5; intro hq5; try simp only [noR] at hq5) | (have z := (hq6 : Dm); clear z hq6; intro hq6; try simp only [noR] at hq6)) <;> (try simp -implicitDefEqProofs -dsimp (maxSteps := 2000000) (disch := (first | exact dz | fail)) only [go_sem, aR, hq6, hq5, hq4, hq3, hq2, hq1, fields_eq, hc])))) <;> (try with_reducible and_intros) <;> (first | exact fz | skip)
  refine loopF (fun k ts m' => ∃ (j : Nat), ts.length = 119 ∧ tg ts 0 = tx s ∧ tg ts 2 = .ptr m.length (tagT 55) 0 ∧ tg ts 3 = bo false ∧ tg ts 4 = sl tx ⟨false, false, [w, w1, w2]⟩ ∧ tg ts 5 = .sc (.int .u8 (j + 1 : Nat)) ∧
    m' = m ++ [.cells (tagT 55) [.sc (.int .u8 (kindTo w j)), tx [], tx [], I 0, tx []]] ∧ j ≤ 8 ∧ k = 8 - j) 8 ⟨0, rfl, rfl, rfl, rfl, rfl, rfl, rfl, by omega, by omega⟩ ?_
  rintro k ts m' ⟨j, hl, h0, h2, h3, h4, h5, rfl, hj, rfl⟩
  rw [expandT hl]
  by_cases h8 : ((j + 1 : Nat) : Int) ≤ 8
  · (have c1 : Dm := ⟨⟩; have c2 : Dm := ⟨⟩; have c3 : Dm := ⟨⟩; have c4 : Dm := ⟨⟩; have c5 : Dm := ⟨⟩; have c6 : Dm := ⟨⟩) <;> (try simp -implicitDefEqProofs -dsimp (maxSteps := 2000000) (disch := (first | exact dz | fail)) only [go_sem, aR, h0, h2, h3, h4, h5, h8, words_eq]) <;> (repeat' (first | ((with_reducible refine ds_and ?_ ?_); focus exact kz) | ((with_reducible refine And.intro ?_ ?_); focus exact oz) | ((with_reducible refine pc_and ?_ ?_); focus exact pz) | ((with_reducible first | refine gIf_t ?_ ?_ | refine gIf_f ?_ ?_ | refine ite_t ?_ ?_ | refine ite_p ?_ ?_) <;> (first | (have z := (c1 : Dm); clear z c1; intro c1; try simp only [noR] at c1) | (have z := (c2 : Dm); clear z c2; intro c2; try simp only [noR] at c2) | (have z := (c3 : Dm); clear z c3; intro c3; try simp only [noR] at c3) | (have z := (c4 : Dm); clear z c4; intro c4; try simp only [noR] at c4) | (have z := (c5 : Dm); clear z c5; intro c5; try simp only [noR] at c5) | (have z := (c6 : Dm); clear z c6; intro c6; try simp only [noR] at c6)) <;> (try simp -implicitDefEqProofs -dsimp (maxSteps := 2000000) (disch := (first | exact dz | fail)) only [go_sem, aR, c6, c5, c4, c3, c2, c1, h0, h2, h3, h4, h5, h8, words_eq])))) <;> (try with_reducible and_intros) <;> (first | exact fz | skip)
    · exact ⟨8 - (j + 1), by omega, j + 1, rfl, by rw [kindTo_succ, kindStep, if_pos rfl], by omega, rfl⟩
    · exact ⟨8 - (j + 1), by omega, j + 1, rfl, by rw [kindTo_succ, kindStep, if_neg c1], by omega, rfl⟩
  · obtain rfl : j = 8 := by omega
    have hlen : ∀ x ∈ [w, w1, w2], x.length ≤ 1000000 := fun x hx => by
      rw [← hc] at hx
      have := cut_mem_len hx; omega
    have hkc : 0 ≤ kindL w ∧ kindL w ≤ 8 := by
      rcases kind_cases w with ⟨h, _⟩ | ⟨h1, h2, _⟩ <;> omega
    have hl1 := hlen w1 (by simp)
    have hl2 := hlen w2 (by simp)
    have hn : ¬(kindL w = 3 ∨ kindL w = 6) → readL s = none := fun h => read_bad (by rw [hc]; simp) (by rw [hc]; simp; omega) (by rw [hc]; simp)
    have hy : (kindL w = 3 ∨ kindL w = 6) → readL s = _ := fun h => read_two hc h
    (have c1 : Dm := ⟨⟩; have c2 : Dm := ⟨⟩; have c3 : Dm := ⟨⟩; have c4 : Dm := ⟨⟩; have c5 : Dm := ⟨⟩; have c6 : Dm := ⟨⟩; have c7 : Dm := ⟨⟩; have c8 : Dm := ⟨⟩; have c9 : Dm := ⟨⟩; have c10 : Dm := ⟨⟩; have c11 : Dm := ⟨⟩; have c12 : Dm := ⟨⟩) <;> (try simp -implicitDefEqProofs -dsimp (maxSteps := 2000000) (disch := (first | exact dz | fail)) only [go_sem, aR, h0, h2, h3, h4, h5, h8, words_eq, kindTo_8, rightOp0_eq]) <;> (repeat' (first | ((with_reducible refine ds_and ?_ ?_); focus exact kz) | ((with_reducible refine And.intro ?_ ?_); focus exact oz) | ((with_reducible refine pc_and ?_ ?_); focus exact pz) | ((with_reducible first | refine gIf_t ?_ ?_ | refine gIf_f ?_ ?_ | refine ite_t ?_ ?_ | refine ite_p ?_ ?_) <;> (first | (have z := (c1 : Dm); clear z c1; intro c1; try simp only [noR] at c1) | (have z := (c2 : Dm); clear z c2; intro c2; try simp only [noR] at c2) | (have z := (c3 : Dm); clear z c3; intro c3; try simp only [noR] at c3) | (have z := (c4 : Dm); clear z c4; intro c4; try simp only [noR] at c4) | (have z := (c5 : Dm); clear z c5; intro c5; try simp only [noR] at c5) | (have z := (c6 : Dm); clear z c6; intro c6; try simp only [noR] at c6) | (have z := (c7 : Dm); clear z c7; intro c7; try simp only [noR] at c7) | (have z := (c8 : Dm); clear z c8; intro c8; try simp only [noR] at c8) | (have z := (c9 : Dm); clear z c9; intro c9; try simp only [noR] at c9) | (have z := (c10 : Dm); clear z c10; intro c10; try simp only [noR] at c10) | (have z := (c11 : Dm); clear z c11; intro c11; try simp only [noR] at c11) | (have z := (c12 : Dm); clear z c12; intro c12; try simp only [noR] at c12)) <;> (try simp -implicitDefEqProofs -dsimp (maxSteps := 2000000) (disch := (first | exact dz | fail)) only [go_sem, aR, c12, c11, c10, c9, c8, c7, c6, c5, c4, c3, c2, c1, h0, h2, h3, h4, h5, h8, words_eq, kindTo_8, rightOp0_eq])))) <;> (try with_reducible and_intros) <;> (first | exact fz | skip)
    all_goals first | exact read_none ⟨0, [], [], 0, []⟩ (hn (by omega)) | exact read_leaf ⟨3, w1, w2, 0, []⟩ (by rw [hy (.inl c2), c2]) | exact read_leaf ⟨6, w1, w2, 0, []⟩ (by rw [hy (.inr c3), c3])
end
end Go.Proofs.YtcmjidnbbfcbjaaGreatDoor.V.L1
/- The operation that a line says, of the program: four words, a number; no condition. -/
namespace Go.Proofs.YtcmjidnbbfcbjaaGreatDoor.V.L1
open Go V
set_option linter.unusedVariables false
set_option linter.unusedSimpArgs false
set_option maxRecDepth 100000
set_option maxHeartbeats 4000000
noncomputable section
variable {en : Env} {m : Mem}
theorem read4_ok (s : List UInt8) (w w1 w2 w3 d : List UInt8) (n : Int) (hc : cutL 32 s = [w, w1, w2, w3]) (hat : Lib.atoiAll w2 = .ok n) (hu : unqL w3 = some d) (hs : s.length ≤ 1000000) (hf : Fits en m.length) : WC Tryz.prog pol en (.func 60) [tx s] m fun v m' => ∃ o : Pn, v = .tup [.agg (opC o), bo (readL s).isSome] ∧ (∀ x, readL s = some x → o = x) ∧ m' = m := by
  refine callPur Tryz.func60 rfl rfl Tryz.ntmps60 Tryz.results60 ?_
  (have hq1 : Dm := ⟨⟩; have hq2 : Dm := ⟨⟩; have hq3 : Dm := ⟨⟩; have hq4 : Dm := ⟨⟩; have hq5 : Dm := ⟨⟩; have hq6 : Dm := ⟨⟩) <;> (try simp -implicitDefEqProofs -dsimp (maxSteps := 2000000) (disch := (first | exact dz | fail)) only [go_sem, aR, fields_eq, hc]) <;> (repeat' (first | ((with_reducible refine ds_and ?_ ?_); focus exact kz) | ((with_reducible refine And.intro ?_ ?_); focus exact oz) | ((with_reducible refine pc_and ?_ ?_); focus exact pz) | ((with_reducible first | refine gIf_t ?_ ?_ | refine gIf_f ?_ ?_ | refine ite_t ?_ ?_ | refine ite_p ?_ ?_) <;> (first | (have z := (hq1 : Dm); clear z hq1; intro hq1; try simp only [noR] at hq1) | (have z := (hq2 : Dm); clear z hq2; intro hq2; try simp only [noR] at hq2) | (have z := (hq3 : Dm); clear z hq3; intro hq3; try simp only [noR] at hq3) | (have z := (hq4 : Dm); clear z hq4; intro hq4; try simp only [noR] at hq4) | (have z := (hq5 : Dm); clear z hq5; intro hq5; try simp only [noR] at hq5) | (have z := (hq6 : Dm); clear z hq6; intro hq6; try simp only [noR] at hq6)) <;> (try simp -implicitDefEqProofs -dsimp (maxSteps := 2000000) (disch := (first | exact dz | fail)) only [go_sem, aR, hq6, hq5, hq4, hq3, hq2, hq1, fields_eq, hc])))) <;> (try with_reducible and_intros) <;> (first | exact fz | skip)
  refine loopF (fun k ts m' => ∃ (j : Nat), ts.length = 119 ∧ tg ts 0 = tx s ∧ tg ts 2 = .ptr m.length (tagT 55) 0 ∧ tg ts 3 = bo false ∧ tg ts 4 = sl tx ⟨false, false, [w, w1, w2, w3]⟩ ∧ tg ts 5 = .sc (.int .u8 (j + 1 : Nat)) ∧
    m' = m ++ [.cells (tagT 55) [.sc (.int .u8 (kindTo w j)), tx [], tx [], I 0, tx []]] ∧ j ≤ 8 ∧ k = 8 - j) 8 ⟨0, rfl, rfl, rfl, rfl, rfl, rfl, rfl, by omega, by omega⟩ ?_
  rintro k ts m' ⟨j, hl, h0, h2, h3, h4, h5, rfl, hj, rfl⟩
  rw [expandT hl]
  by_cases h8 : ((j + 1 : Nat) : Int) ≤ 8
  · (have c1 : Dm := ⟨⟩; have c2 : Dm := ⟨⟩; have c3 : Dm := ⟨⟩; have c4 : Dm := ⟨⟩; have c5 : Dm := ⟨⟩; have c6 : Dm := ⟨⟩) <;> (try simp -implicitDefEqProofs -dsimp (maxSteps := 2000000) (disch := (first | exact dz | fail)) only [go_sem, aR, h0, h2, h3, h4, h5, h8, words_eq]) <;> (repeat' (first | ((with_reducible refine ds_and ?_ ?_); focus exact kz) | ((with_reducible refine And.intro ?_ ?_); focus exact oz) | ((with_reducible refine pc_and ?_ ?_); focus exact pz) | ((with_reducible first | refine gIf_t ?_ ?_ | refine gIf_f ?_ ?_ | refine ite_t ?_ ?_ | refine ite_p ?_ ?_) <;> (first | (have z := (c1 : Dm); clear z c1; intro c1; try simp only [noR] at c1) | (have z := (c2 : Dm); clear z c2; intro c2; try simp only [noR] at c2) | (have z := (c3 : Dm); clear z c3; intro c3; try simp only [noR] at c3) | (have z := (c4 : Dm); clear z c4; intro c4; try simp only [noR] at c4) | (have z := (c5 : Dm); clear z c5; intro c5; try simp only [noR] at c5) | (have z := (c6 : Dm); clear z c6; intro c6; try simp only [noR] at c6)) <;> (try simp -implicitDefEqProofs -dsimp (maxSteps := 2000000) (disch := (first | exact dz | fail)) only [go_sem, aR, c6, c5, c4, c3, c2, c1, h0, h2, h3, h4, h5, h8, words_eq])))) <;> (try with_reducible and_intros) <;> (first | exact fz | skip)
    · exact ⟨8 - (j + 1), by omega, j + 1, rfl, by rw [kindTo_succ, kindStep, if_pos rfl], by omega, rfl⟩
    · exact ⟨8 - (j + 1), by omega, j + 1, rfl, by rw [kindTo_succ, kindStep, if_neg c1], by omega, rfl⟩
  · obtain rfl : j = 8 := by omega
    have hlen : ∀ x ∈ [w, w1, w2, w3], x.length ≤ 1000000 := fun x hx => by
      rw [← hc] at hx
      have := cut_mem_len hx; omega
    have hkc : 0 ≤ kindL w ∧ kindL w ≤ 8 := by
      rcases kind_cases w with ⟨h, _⟩ | ⟨h1, h2, _⟩ <;> omega
    have hl1 := hlen w1 (by simp)
    have hl2 := hlen w2 (by simp)
    have hl3 := hlen w3 (by simp)
    have hn : ¬ kindL w = 7 → readL s = none := fun h => read_bad (by rw [hc]; simp) (by rw [hc]; simp) (by rw [hc]; simp; omega)
    have hnb := Lib.atoiAll_bounds hat
    have hdl : d.length ≤ 1100000 := by
      have h1 := congrArg List.length (unq_some hu)
      have h2 := enc_ge d
      simp [quoteL] at h1; omega
    (have c1 : Dm := ⟨⟩; have c2 : Dm := ⟨⟩; have c3 : Dm := ⟨⟩; have c4 : Dm := ⟨⟩; have c5 : Dm := ⟨⟩; have c6 : Dm := ⟨⟩; have c7 : Dm := ⟨⟩; have c8 : Dm := ⟨⟩; have c9 : Dm := ⟨⟩; have c10 : Dm := ⟨⟩; have c11 : Dm := ⟨⟩; have c12 : Dm := ⟨⟩) <;> (try simp -implicitDefEqProofs -dsimp (maxSteps := 2000000) (disch := (first | exact dz | fail)) only [go_sem, aR, h0, h2, h3, h4, h5, h8, words_eq, kindTo_8, atoi_eq, atoiA, hat, unquote_eq, hu, ansO, itoa_eq, rightOp0_eq]) <;> (repeat' (first | ((with_reducible refine ds_and ?_ ?_); focus exact kz) | ((with_reducible refine And.intro ?_ ?_); focus exact oz) | ((with_reducible refine pc_and ?_ ?_); focus exact pz) | ((with_reducible first | refine gIf_t ?_ ?_ | refine gIf_f ?_ ?_ | refine ite_t ?_ ?_ | refine ite_p ?_ ?_) <;> (first | (have z := (c1 : Dm); clear z c1; intro c1; try simp only [noR] at c1) | (have z := (c2 : Dm); clear z c2; intro c2; try simp only [noR] at c2) | (have z := (c3 : Dm); clear z c3; intro c3; try simp only [noR] at c3) | (have z := (c4 : Dm); clear z c4; intro c4; try simp only [noR] at c4) | (have z := (c5 : Dm); clear z c5; intro c5; try simp only [noR] at c5) | (have z := (c6 : Dm); clear z c6; intro c6; try simp only [noR] at c6) | (have z := (c7 : Dm); clear z c7; intro c7; try simp only [noR] at c7) | (have z := (c8 : Dm); clear z c8; intro c8; try simp only [noR] at c8) | (have z := (c9 : Dm); clear z c9; intro c9; try simp only [noR] at c9) | (have z := (c10 : Dm); clear z c10; intro c10; try simp only [noR] at c10) | (have z := (c11 : Dm); clear z c11; intro c11; try simp only [noR] at c11) | (have z := (c12 : Dm); clear z c12; intro c12; try simp only [noR] at c12)) <;> (try simp -implicitDefEqProofs -dsimp (maxSteps := 2000000) (disch := (first | exact dz | fail)) only [go_sem, aR, c12, c11, c10, c9, c8, c7, c6, c5, c4, c3, c2, c1, h0, h2, h3, h4, h5, h8, words_eq, kindTo_8, atoi_eq, atoiA, hat, unquote_eq, hu, ansO, itoa_eq, rightOp0_eq])))) <;> (try with_reducible and_intros) <;> (first | exact fz | skip)
    all_goals first | exact read_none ⟨0, [], [], 0, []⟩ (hn (by omega)) | exact read_none ⟨0, [], [], 0, []⟩ (read_write_no hc c1 (.inl (itoa_no hat c3))) | exact read_leaf ⟨7, w1, [], n, d⟩ (read_write hc c1 c3 hu)
end
end Go.Proofs.YtcmjidnbbfcbjaaGreatDoor.V.L1
/- The operation that a line says, of the program: four words, no quotes; no condition. -/
namespace Go.Proofs.YtcmjidnbbfcbjaaGreatDoor.V.L1
open Go V
set_option linter.unusedVariables false
set_option linter.unusedSimpArgs false
set_option maxRecDepth 100000
set_option maxHeartbeats 4000000
noncomputable section
variable {en : Env} {m : Mem}
theorem read4n_ok (s : List UInt8) (w w1 w2 w3 : List UInt8) (n : Int) (hc : cutL 32 s = [w, w1, w2, w3]) (hat : Lib.atoiAll w2 = .ok n) (hu : unqL w3 = none) (hs : s.length ≤ 1000000) (hf : Fits en m.length) : WC Tryz.prog pol en (.func 60) [tx s] m fun v m' => ∃ o : Pn, v = .tup [.agg (opC o), bo (readL s).isSome] ∧ (∀ x, readL s = some x → o = x) ∧ m' = m := by
  refine callPur Tryz.func60 rfl rfl Tryz.ntmps60 Tryz.results60 ?_
  (have hq1 : Dm := ⟨⟩; have hq2 : Dm := ⟨⟩; have hq3 : Dm := ⟨⟩; have hq4 : Dm := ⟨⟩; have hq5 : Dm := ⟨⟩; have hq6 : Dm := ⟨⟩) <;> (try simp -implicitDefEqProofs -dsimp (maxSteps := 2000000) (disch := (first | exact dz | fail)) only [go_sem, aR, fields_eq, hc]) <;> (repeat' (first | ((with_reducible refine ds_and ?_ ?_); focus exact kz) | ((with_reducible refine And.intro ?_ ?_); focus exact oz) | ((with_reducible refine pc_and ?_ ?_); focus exact pz) | ((with_reducible first | refine gIf_t ?_ ?_ | refine gIf_f ?_ ?_ | refine ite_t ?_ ?_ | refine ite_p ?_ ?_) <;> (first | (have z := (hq1 : Dm); clear z hq1; intro hq1; try simp only [noR] at hq1) | (have z := (hq2 : Dm); clear z hq2; intro hq2; try simp only [noR] at hq2) | (have z := (hq3 : Dm); clear z hq3; intro hq3; try simp only [noR] at hq3) | (have z := (hq4 : Dm); clear z hq4; intro hq4; try simp only [noR] at hq4) | (have z := (hq5 : Dm); clear z hq5; intro hq5; try simp only [noR] at hq5) | (have z := (hq6 : Dm); clear z hq6; intro hq6; try simp only [noR] at hq6)) <;> (try simp -implicitDefEqProofs -dsimp (maxSteps := 2000000) (disch := (first | exact dz | fail)) only [go_sem, aR, hq6, hq5, hq4, hq3, hq2, hq1, fields_eq, hc])))) <;> (try with_reducible and_intros) <;> (first | exact fz | skip)
  refine loopF (fun k ts m' => ∃ (j : Nat), ts.length = 119 ∧ tg ts 0 = tx s ∧ tg ts 2 = .ptr m.length (tagT 55) 0 ∧ tg ts 3 = bo false ∧ tg ts 4 = sl tx ⟨false, false, [w, w1, w2, w3]⟩ ∧ tg ts 5 = .sc (.int .u8 (j + 1 : Nat)) ∧
    m' = m ++ [.cells (tagT 55) [.sc (.int .u8 (kindTo w j)), tx [], tx [], I 0, tx []]] ∧ j ≤ 8 ∧ k = 8 - j) 8 ⟨0, rfl, rfl, rfl, rfl, rfl, rfl, rfl, by omega, by omega⟩ ?_
  rintro k ts m' ⟨j, hl, h0, h2, h3, h4, h5, rfl, hj, rfl⟩
  rw [expandT hl]
  by_cases h8 : ((j + 1 : Nat) : Int) ≤ 8
  · (have c1 : Dm := ⟨⟩; have c2 : Dm := ⟨⟩; have c3 : Dm := ⟨⟩; have c4 : Dm := ⟨⟩; have c5 : Dm := ⟨⟩; have c6 : Dm := ⟨⟩) <;> (try simp -implicitDefEqProofs -dsimp (maxSteps := 2000000) (disch := (first | exact dz | fail)) only [go_sem, aR, h0, h2, h3, h4, h5, h8, words_eq]) <;> (repeat' (first | ((with_reducible refine ds_and ?_ ?_); focus exact kz) | ((with_reducible refine And.intro ?_ ?_); focus exact oz) | ((with_reducible refine pc_and ?_ ?_); focus exact pz) | ((with_reducible first | refine gIf_t ?_ ?_ | refine gIf_f ?_ ?_ | refine ite_t ?_ ?_ | refine ite_p ?_ ?_) <;> (first | (have z := (c1 : Dm); clear z c1; intro c1; try simp only [noR] at c1) | (have z := (c2 : Dm); clear z c2; intro c2; try simp only [noR] at c2) | (have z := (c3 : Dm); clear z c3; intro c3; try simp only [noR] at c3) | (have z := (c4 : Dm); clear z c4; intro c4; try simp only [noR] at c4) | (have z := (c5 : Dm); clear z c5; intro c5; try simp only [noR] at c5) | (have z := (c6 : Dm); clear z c6; intro c6; try simp only [noR] at c6)) <;> (try simp -implicitDefEqProofs -dsimp (maxSteps := 2000000) (disch := (first | exact dz | fail)) only [go_sem, aR, c6, c5, c4, c3, c2, c1, h0, h2, h3, h4, h5, h8, words_eq])))) <;> (try with_reducible and_intros) <;> (first | exact fz | skip)
    · exact ⟨8 - (j + 1), by omega, j + 1, rfl, by rw [kindTo_succ, kindStep, if_pos rfl], by omega, rfl⟩
    · exact ⟨8 - (j + 1), by omega, j + 1, rfl, by rw [kindTo_succ, kindStep, if_neg c1], by omega, rfl⟩
  · obtain rfl : j = 8 := by omega
    have hlen : ∀ x ∈ [w, w1, w2, w3], x.length ≤ 1000000 := fun x hx => by
      rw [← hc] at hx
      have := cut_mem_len hx; omega
    have hkc : 0 ≤ kindL w ∧ kindL w ≤ 8 := by
      rcases kind_cases w with ⟨h, _⟩ | ⟨h1, h2, _⟩ <;> omega
    have hl1 := hlen w1 (by simp)
    have hl2 := hlen w2 (by simp)
    have hl3 := hlen w3 (by simp)
    have hn : ¬ kindL w = 7 → readL s = none := fun h => read_bad (by rw [hc]; simp) (by rw [hc]; simp) (by rw [hc]; simp; omega)
    have hnb := Lib.atoiAll_bounds hat
    (have c1 : Dm := ⟨⟩; have c2 : Dm := ⟨⟩; have c3 : Dm := ⟨⟩; have c4 : Dm := ⟨⟩; have c5 : Dm := ⟨⟩; have c6 : Dm := ⟨⟩; have c7 : Dm := ⟨⟩; have c8 : Dm := ⟨⟩; have c9 : Dm := ⟨⟩; have c10 : Dm := ⟨⟩; have c11 : Dm := ⟨⟩; have c12 : Dm := ⟨⟩) <;> (try simp -implicitDefEqProofs -dsimp (maxSteps := 2000000) (disch := (first | exact dz | fail)) only [go_sem, aR, h0, h2, h3, h4, h5, h8, words_eq, kindTo_8, atoi_eq, atoiA, hat, unquote_eq, hu, ansO, itoa_eq, rightOp0_eq]) <;> (repeat' (first | ((with_reducible refine ds_and ?_ ?_); focus exact kz) | ((with_reducible refine And.intro ?_ ?_); focus exact oz) | ((with_reducible refine pc_and ?_ ?_); focus exact pz) | ((with_reducible first | refine gIf_t ?_ ?_ | refine gIf_f ?_ ?_ | refine ite_t ?_ ?_ | refine ite_p ?_ ?_) <;> (first | (have z := (c1 : Dm); clear z c1; intro c1; try simp only [noR] at c1) | (have z := (c2 : Dm); clear z c2; intro c2; try simp only [noR] at c2) | (have z := (c3 : Dm); clear z c3; intro c3; try simp only [noR] at c3) | (have z := (c4 : Dm); clear z c4; intro c4; try simp only [noR] at c4) | (have z := (c5 : Dm); clear z c5; intro c5; try simp only [noR] at c5) | (have z := (c6 : Dm); clear z c6; intro c6; try simp only [noR] at c6) | (have z := (c7 : Dm); clear z c7; intro c7; try simp only [noR] at c7) | (have z := (c8 : Dm); clear z c8; intro c8; try simp only [noR] at c8) | (have z := (c9 : Dm); clear z c9; intro c9; try simp only [noR] at c9) | (have z := (c10 : Dm); clear z c10; intro c10; try simp only [noR] at c10) | (have z := (c11 : Dm); clear z c11; intro c11; try simp only [noR] at c11) | (have z := (c12 : Dm); clear z c12; intro c12; try simp only [noR] at c12)) <;> (try simp -implicitDefEqProofs -dsimp (maxSteps := 2000000) (disch := (first | exact dz | fail)) only [go_sem, aR, c12, c11, c10, c9, c8, c7, c6, c5, c4, c3, c2, c1, h0, h2, h3, h4, h5, h8, words_eq, kindTo_8, atoi_eq, atoiA, hat, unquote_eq, hu, ansO, itoa_eq, rightOp0_eq])))) <;> (try with_reducible and_intros) <;> (first | exact fz | skip)
    all_goals first | exact read_none ⟨0, [], [], 0, []⟩ (hn (by omega)) | exact read_none ⟨0, [], [], 0, []⟩ (read_write_no hc c1 (.inr hu))
end
end Go.Proofs.YtcmjidnbbfcbjaaGreatDoor.V.L1
/- The operation that a line says, of the program: four words, no number; no condition. -/
namespace Go.Proofs.YtcmjidnbbfcbjaaGreatDoor.V.L1
open Go V
set_option linter.unusedVariables false
set_option linter.unusedSimpArgs false
set_option maxRecDepth 100000
set_option maxHeartbeats 4000000
noncomputable section
variable {en : Env} {m : Mem}
theorem read4e_ok (s : List UInt8) (w w1 w2 w3 : List UInt8) (n : Int) (t : TypeId) (ev : AV) (te : TypeId) (hc : cutL 32 s = [w, w1, w2, w3]) (hat : atoiA w2 = numErr te ⟨⟨w2⟩⟩ n (.ifc t ev)) (hno : ∀ n : Int, 0 ≤ n → n ≤ 256 → itoaL n ≠ w2) (hs : s.length ≤ 1000000) (hf : Fits en m.length) : WC Tryz.prog pol en (.func 60) [tx s] m fun v m' => ∃ o : Pn, v = .tup [.agg (opC o), bo (readL s).isSome] ∧ (∀ x, readL s = some x → o = x) ∧ m' = m := by
  refine callPur Tryz.func60 rfl rfl Tryz.ntmps60 Tryz.results60 ?_
  (have hq1 : Dm := ⟨⟩; have hq2 : Dm := ⟨⟩; have hq3 : Dm := ⟨⟩; have hq4 : Dm := ⟨⟩; have hq5 : Dm := ⟨⟩; have hq6 : Dm := ⟨⟩) <;> (try simp -implicitDefEqProofs -dsimp (maxSteps := 2000000) (disch := (first | exact dz | fail)) only [go_sem, aR, fields_eq, hc]) <;> (repeat' (first | ((with_reducible refine ds_and ?_ ?_); focus exact kz) | ((with_reducible refine And.intro ?_ ?_); focus exact oz) | ((with_reducible refine pc_and ?_ ?_); focus exact pz) | ((with_reducible first | refine gIf_t ?_ ?_ | refine gIf_f ?_ ?_ | refine ite_t ?_ ?_ | refine ite_p ?_ ?_) <;> (first | (have z := (hq1 : Dm); clear z hq1; intro hq1; try simp only [noR] at hq1) | (have z := (hq2 : Dm); clear z hq2; intro hq2; try simp only [noR] at hq2) | (have z := (hq3 : Dm); clear z hq3; intro hq3; try simp only [noR] at hq3) | (have z := (hq4 : Dm); clear z hq4; intro hq4; try simp only [noR] at hq4) | (have z := (hq5 : Dm); clear z hq5; intro hq5; try simp only [noR] at hq5) | (have z := (hq6 : Dm); clear z hq6; intro hq6; try simp only [noR] at hq6)) <;> (try simp -implicitDefEqProofs -dsimp (maxSteps := 2000000) (disch := (first | exact dz | fail)) only [go_sem, aR, hq6, hq5, hq4, hq3, hq2, hq1, fields_eq, hc])))) <;> (try with_reducible and_intros) <;> (first | exact fz | skip)
  refine loopF (fun k ts m' => ∃ (j : Nat), ts.length = 119 ∧ tg ts 0 = tx s ∧ tg ts 2 = .ptr m.length (tagT 55) 0 ∧ tg ts 3 = bo false ∧ tg ts 4 = sl tx ⟨false, false, [w, w1, w2, w3]⟩ ∧ tg ts 5 = .sc (.int .u8 (j + 1 : Nat)) ∧
    m' = m ++ [.cells (tagT 55) [.sc (.int .u8 (kindTo w j)), tx [], tx [], I 0, tx []]] ∧ j ≤ 8 ∧ k = 8 - j) 8 ⟨0, rfl, rfl, rfl, rfl, rfl, rfl, rfl, by omega, by omega⟩ ?_
  rintro k ts m' ⟨j, hl, h0, h2, h3, h4, h5, rfl, hj, rfl⟩
  rw [expandT hl]
  by_cases h8 : ((j + 1 : Nat) : Int) ≤ 8
  · (have c1 : Dm := ⟨⟩; have c2 : Dm := ⟨⟩; have c3 : Dm := ⟨⟩; have c4 : Dm := ⟨⟩; have c5 : Dm := ⟨⟩; have c6 : Dm := ⟨⟩) <;> (try simp -implicitDefEqProofs -dsimp (maxSteps := 2000000) (disch := (first | exact dz | fail)) only [go_sem, aR, h0, h2, h3, h4, h5, h8, words_eq]) <;> (repeat' (first | ((with_reducible refine ds_and ?_ ?_); focus exact kz) | ((with_reducible refine And.intro ?_ ?_); focus exact oz) | ((with_reducible refine pc_and ?_ ?_); focus exact pz) | ((with_reducible first | refine gIf_t ?_ ?_ | refine gIf_f ?_ ?_ | refine ite_t ?_ ?_ | refine ite_p ?_ ?_) <;> (first | (have z := (c1 : Dm); clear z c1; intro c1; try simp only [noR] at c1) | (have z := (c2 : Dm); clear z c2; intro c2; try simp only [noR] at c2) | (have z := (c3 : Dm); clear z c3; intro c3; try simp only [noR] at c3) | (have z := (c4 : Dm); clear z c4; intro c4; try simp only [noR] at c4) | (have z := (c5 : Dm); clear z c5; intro c5; try simp only [noR] at c5) | (have z := (c6 : Dm); clear z c6; intro c6; try simp only [noR] at c6)) <;> (try simp -implicitDefEqProofs -dsimp (maxSteps := 2000000) (disch := (first | exact dz | fail)) only [go_sem, aR, c6, c5, c4, c3, c2, c1, h0, h2, h3, h4, h5, h8, words_eq])))) <;> (try with_reducible and_intros) <;> (first | exact fz | skip)
    · exact ⟨8 - (j + 1), by omega, j + 1, rfl, by rw [kindTo_succ, kindStep, if_pos rfl], by omega, rfl⟩
    · exact ⟨8 - (j + 1), by omega, j + 1, rfl, by rw [kindTo_succ, kindStep, if_neg c1], by omega, rfl⟩
  · obtain rfl : j = 8 := by omega
    have hlen : ∀ x ∈ [w, w1, w2, w3], x.length ≤ 1000000 := fun x hx => by
      rw [← hc] at hx
      have := cut_mem_len hx; omega
    have hkc : 0 ≤ kindL w ∧ kindL w ≤ 8 := by
      rcases kind_cases w with ⟨h, _⟩ | ⟨h1, h2, _⟩ <;> omega
    have hl1 := hlen w1 (by simp)
    have hl2 := hlen w2 (by simp)
    have hl3 := hlen w3 (by simp)
    have hn : ¬ kindL w = 7 → readL s = none := fun h => read_bad (by rw [hc]; simp) (by rw [hc]; simp) (by rw [hc]; simp; omega)
    have hr7 : kindL w = 7 → readL s = none := fun h => read_write_no hc h (.inl hno)
    cases hu : unqL w3 with
    | none =>
      (have c1 : Dm := ⟨⟩; have c2 : Dm := ⟨⟩; have c3 : Dm := ⟨⟩; have c4 : Dm := ⟨⟩; have c5 : Dm := ⟨⟩; have c6 : Dm := ⟨⟩; have c7 : Dm := ⟨⟩; have c8 : Dm := ⟨⟩; have c9 : Dm := ⟨⟩; have c10 : Dm := ⟨⟩; have c11 : Dm := ⟨⟩; have c12 : Dm := ⟨⟩) <;> (try simp -implicitDefEqProofs -dsimp (maxSteps := 2000000) (disch := (first | exact dz | fail)) only [go_sem, aR, h0, h2, h3, h4, h5, h8, words_eq, kindTo_8, atoi_eq, hat, unquote_eq, hu, ansO, numErr, rightOp0_eq]) <;> (repeat' (first | ((with_reducible refine ds_and ?_ ?_); focus exact kz) | ((with_reducible refine And.intro ?_ ?_); focus exact oz) | ((with_reducible refine pc_and ?_ ?_); focus exact pz) | ((with_reducible first | refine gIf_t ?_ ?_ | refine gIf_f ?_ ?_ | refine ite_t ?_ ?_ | refine ite_p ?_ ?_) <;> (first | (have z := (c1 : Dm); clear z c1; intro c1; try simp only [noR] at c1) | (have z := (c2 : Dm); clear z c2; intro c2; try simp only [noR] at c2) | (have z := (c3 : Dm); clear z c3; intro c3; try simp only [noR] at c3) | (have z := (c4 : Dm); clear z c4; intro c4; try simp only [noR] at c4) | (have z := (c5 : Dm); clear z c5; intro c5; try simp only [noR] at c5) | (have z := (c6 : Dm); clear z c6; intro c6; try simp only [noR] at c6) | (have z := (c7 : Dm); clear z c7; intro c7; try simp only [noR] at c7) | (have z := (c8 : Dm); clear z c8; intro c8; try simp only [noR] at c8) | (have z := (c9 : Dm); clear z c9; intro c9; try simp only [noR] at c9) | (have z := (c10 : Dm); clear z c10; intro c10; try simp only [noR] at c10) | (have z := (c11 : Dm); clear z c11; intro c11; try simp only [noR] at c11) | (have z := (c12 : Dm); clear z c12; intro c12; try simp only [noR] at c12)) <;> (try simp -implicitDefEqProofs -dsimp (maxSteps := 2000000) (disch := (first | exact dz | fail)) only [go_sem, aR, c12, c11, c10, c9, c8, c7, c6, c5, c4, c3, c2, c1, h0, h2, h3, h4, h5, h8, words_eq, kindTo_8, atoi_eq, hat, unquote_eq, hu, ansO, numErr, rightOp0_eq])))) <;> (try with_reducible and_intros) <;> (first | exact fz | skip)
      all_goals first | exact read_none ⟨0, [], [], 0, []⟩ (hn (by omega)) | exact read_none ⟨0, [], [], 0, []⟩ (hr7 (by omega)) | trace_state
    | some d =>
      (have c1 : Dm := ⟨⟩; have c2 : Dm := ⟨⟩; have c3 : Dm := ⟨⟩; have c4 : Dm := ⟨⟩; have c5 : Dm := ⟨⟩; have c6 : Dm := ⟨⟩; have c7 : Dm := ⟨⟩; have c8 : Dm := ⟨⟩; have c9 : Dm := ⟨⟩; have c10 : Dm := ⟨⟩; have c11 : Dm := ⟨⟩; have c12 : Dm := ⟨⟩) <;> (try simp -implicitDefEqProofs -dsimp (maxSteps := 2000000) (disch := (first | exact dz | fail)) only [go_sem, aR, h0, h2, h3, h4, h5, h8, words_eq, kindTo_8, atoi_eq, hat, unquote_eq, hu, ansO, numErr, rightOp0_eq]) <;> (repeat' (first | ((with_reducible refine ds_and ?_ ?_); focus exact kz) | ((with_reducible refine And.intro ?_ ?_); focus exact oz) | ((with_reducible refine pc_and ?_ ?_); focus exact pz) | ((with_reducible first | refine gIf_t ?_ ?_ | refine gIf_f ?_ ?_ | refine ite_t ?_ ?_ | refine ite_p ?_ ?_) <;> (first | (have z := (c1 : Dm); clear z c1; intro c1; try simp only [noR] at c1) | (have z := (c2 : Dm); clear z c2; intro c2; try simp only [noR] at c2) | (have z := (c3 : Dm); clear z c3; intro c3; try simp only [noR] at c3) | (have z := (c4 : Dm); clear z c4; intro c4; try simp only [noR] at c4) | (have z := (c5 : Dm); clear z c5; intro c5; try simp only [noR] at c5) | (have z := (c6 : Dm); clear z c6; intro c6; try simp only [noR] at c6) | (have z := (c7 : Dm); clear z c7; intro c7; try simp only [noR] at c7) | (have z := (c8 : Dm); clear z c8; intro c8; try simp only [noR] at c8) | (have z := (c9 : Dm); clear z c9; intro c9; try simp only [noR] at c9) | (have z := (c10 : Dm); clear z c10; intro c10; try simp only [noR] at c10) | (have z := (c11 : Dm); clear z c11; intro c11; try simp only [noR] at c11) | (have z := (c12 : Dm); clear z c12; intro c12; try simp only [noR] at c12)) <;> (try simp -implicitDefEqProofs -dsimp (maxSteps := 2000000) (disch := (first | exact dz | fail)) only [go_sem, aR, c12, c11, c10, c9, c8, c7, c6, c5, c4, c3, c2, c1, h0, h2, h3, h4, h5, h8, words_eq, kindTo_8, atoi_eq, hat, unquote_eq, hu, ansO, numErr, rightOp0_eq])))) <;> (try with_reducible and_intros) <;> (first | exact fz | skip)
      all_goals first | exact read_none ⟨0, [], [], 0, []⟩ (hn (by omega)) | exact read_none ⟨0, [], [], 0, []⟩ (hr7 (by omega)) | trace_state
end
end Go.Proofs.YtcmjidnbbfcbjaaGreatDoor.V.L1
/- The operation that a line says, of the program: more words; no condition. -/
namespace Go.Proofs.YtcmjidnbbfcbjaaGreatDoor.V.L1
open Go V
set_option linter.unusedVariables false
set_option linter.unusedSimpArgs false
set_option maxRecDepth 100000
set_option maxHeartbeats 4000000
noncomputable section
variable {en : Env} {m : Mem}
theorem read5_ok (s : List UInt8) (w w1 w2 w3 w4 : List UInt8) (ws : List (List UInt8)) (hc : cutL 32 s = w :: w1 :: w2 :: w3 :: w4 :: ws) (hs : s.length ≤ 1000000) (hf : Fits en m.length) : WC Tryz.prog pol en (.func 60) [tx s] m fun v m' => ∃ o : Pn, v = .tup [.agg (opC o), bo (readL s).isSome] ∧ (∀ x, readL s = some x → o = x) ∧ m' = m := by
  refine callPur Tryz.func60 rfl rfl Tryz.ntmps60 Tryz.results60 ?_
  (have hq1 : Dm := ⟨⟩; have hq2 : Dm := ⟨⟩; have hq3 : Dm := ⟨⟩; have hq4 : Dm := ⟨⟩; have hq5 : Dm := ⟨⟩; have hq6 : Dm := ⟨⟩) <;> (try simp -implicitDefEqProofs -dsimp (maxSteps := 2000000) (disch := (first | exact dz | fail)) only [go_sem, aR, fields_eq, hc]) <;> (repeat' (first | ((with_reducible refine ds_and ?_ ?_); focus exact kz) | ((with_reducible refine And.intro ?_ ?_); focus exact oz) | ((with_reducible refine pc_and ?_ ?_); focus exact pz) | ((with_reducible first | refine gIf_t ?_ ?_ | refine gIf_f ?_ ?_ | refine ite_t ?_ ?_ | refine ite_p ?_ ?_) <;> (first | (have z := (hq1 : Dm); clear z hq1; intro hq1; try simp only [noR] at hq1) | (have z := (hq2 : Dm); clear z hq2; intro hq2; try simp only [noR] at hq2) | (have z := (hq3 : Dm); clear z hq3; intro hq3; try simp only [noR] at hq3) | (have z := (hq4 : Dm); clear z hq4; intro hq4; try simp only [noR] at hq4) | (have z := (hq5 : Dm); clear z hq5; intro hq5; try simp only [noR] at hq5) | (have z := (hq6 : Dm); clear z hq6; intro hq6; try simp only [noR] at hq6)) <;> (try simp -implicitDefEqProofs -dsimp (maxSteps := 2000000) (disch := (first | exact dz | fail)) only [go_sem, aR, hq6, hq5, hq4, hq3, hq2, hq1, fields_eq, hc])))) <;> (try with_reducible and_intros) <;> (first | exact fz | skip)
  refine loopF (fun k ts m' => ∃ (j : Nat), ts.length = 119 ∧ tg ts 0 = tx s ∧ tg ts 2 = .ptr m.length (tagT 55) 0 ∧ tg ts 3 = bo false ∧ tg ts 4 = sl tx ⟨false, false, w :: w1 :: w2 :: w3 :: w4 :: ws⟩ ∧ tg ts 5 = .sc (.int .u8 (j + 1 : Nat)) ∧
    m' = m ++ [.cells (tagT 55) [.sc (.int .u8 (kindTo w j)), tx [], tx [], I 0, tx []]] ∧ j ≤ 8 ∧ k = 8 - j) 8 ⟨0, rfl, rfl, rfl, rfl, rfl, rfl, rfl, by omega, by omega⟩ ?_
  rintro k ts m' ⟨j, hl, h0, h2, h3, h4, h5, rfl, hj, rfl⟩
  rw [expandT hl]
  by_cases h8 : ((j + 1 : Nat) : Int) ≤ 8
  · (have c1 : Dm := ⟨⟩; have c2 : Dm := ⟨⟩; have c3 : Dm := ⟨⟩; have c4 : Dm := ⟨⟩; have c5 : Dm := ⟨⟩; have c6 : Dm := ⟨⟩) <;> (try simp -implicitDefEqProofs -dsimp (maxSteps := 2000000) (disch := (first | exact dz | fail)) only [go_sem, aR, h0, h2, h3, h4, h5, h8, words_eq]) <;> (repeat' (first | ((with_reducible refine ds_and ?_ ?_); focus exact kz) | ((with_reducible refine And.intro ?_ ?_); focus exact oz) | ((with_reducible refine pc_and ?_ ?_); focus exact pz) | ((with_reducible first | refine gIf_t ?_ ?_ | refine gIf_f ?_ ?_ | refine ite_t ?_ ?_ | refine ite_p ?_ ?_) <;> (first | (have z := (c1 : Dm); clear z c1; intro c1; try simp only [noR] at c1) | (have z := (c2 : Dm); clear z c2; intro c2; try simp only [noR] at c2) | (have z := (c3 : Dm); clear z c3; intro c3; try simp only [noR] at c3) | (have z := (c4 : Dm); clear z c4; intro c4; try simp only [noR] at c4) | (have z := (c5 : Dm); clear z c5; intro c5; try simp only [noR] at c5) | (have z := (c6 : Dm); clear z c6; intro c6; try simp only [noR] at c6)) <;> (try simp -implicitDefEqProofs -dsimp (maxSteps := 2000000) (disch := (first | exact dz | fail)) only [go_sem, aR, c6, c5, c4, c3, c2, c1, h0, h2, h3, h4, h5, h8, words_eq])))) <;> (try with_reducible and_intros) <;> (first | exact fz | skip)
    · exact ⟨8 - (j + 1), by omega, j + 1, rfl, by rw [kindTo_succ, kindStep, if_pos rfl], by omega, rfl⟩
    · exact ⟨8 - (j + 1), by omega, j + 1, rfl, by rw [kindTo_succ, kindStep, if_neg c1], by omega, rfl⟩
  · obtain rfl : j = 8 := by omega
    have hlen : ∀ x ∈ w :: w1 :: w2 :: w3 :: w4 :: ws, x.length ≤ 1000000 := fun x hx => by
      rw [← hc] at hx
      have := cut_mem_len hx; omega
    have hkc : 0 ≤ kindL w ∧ kindL w ≤ 8 := by
      rcases kind_cases w with ⟨h, _⟩ | ⟨h1, h2, _⟩ <;> omega
    have hn : readL s = none := read_bad (by rw [hc]; simp) (by rw [hc]; simp) (by rw [hc]; simp)
    have q4 : ¬ ((ws.length + 1 + 1 + 1 + 1 + 1 : Nat) : Int) = 4 := by omega
    have q3 : ¬ ((ws.length + 1 + 1 + 1 + 1 + 1 : Nat) : Int) = 3 := by omega
    have q2 : ¬ ((ws.length + 1 + 1 + 1 + 1 + 1 : Nat) : Int) = 2 := by omega
    (have c1 : Dm := ⟨⟩; have c2 : Dm := ⟨⟩; have c3 : Dm := ⟨⟩; have c4 : Dm := ⟨⟩; have c5 : Dm := ⟨⟩; have c6 : Dm := ⟨⟩; have c7 : Dm := ⟨⟩; have c8 : Dm := ⟨⟩; have c9 : Dm := ⟨⟩; have c10 : Dm := ⟨⟩; have c11 : Dm := ⟨⟩; have c12 : Dm := ⟨⟩) <;> (try simp -implicitDefEqProofs -dsimp (maxSteps := 2000000) (disch := (first | exact dz | fail)) only [go_sem, aR, h0, h2, h3, h4, h5, h8, words_eq, kindTo_8, q4, q3, q2]) <;> (repeat' (first | ((with_reducible refine ds_and ?_ ?_); focus exact kz) | ((with_reducible refine And.intro ?_ ?_); focus exact oz) | ((with_reducible refine pc_and ?_ ?_); focus exact pz) | ((with_reducible first | refine gIf_t ?_ ?_ | refine gIf_f ?_ ?_ | refine ite_t ?_ ?_ | refine ite_p ?_ ?_) <;> (first | (have z := (c1 : Dm); clear z c1; intro c1; try simp only [noR] at c1) | (have z := (c2 : Dm); clear z c2; intro c2; try simp only [noR] at c2) | (have z := (c3 : Dm); clear z c3; intro c3; try simp only [noR] at c3) | (have z := (c4 : Dm); clear z c4; intro c4; try simp only [noR] at c4) | (have z := (c5 : Dm); clear z c5; intro c5; try simp only [noR] at c5) | (have z := (c6 : Dm); clear z c6; intro c6; try simp only [noR] at c6) | (have z := (c7 : Dm); clear z c7; intro c7; try simp only [noR] at c7) | (have z := (c8 : Dm); clear z c8; intro c8; try simp only [noR] at c8) | (have z := (c9 : Dm); clear z c9; intro c9; try simp only [noR] at c9) | (have z := (c10 : Dm); clear z c10; intro c10; try simp only [noR] at c10) | (have z := (c11 : Dm); clear z c11; intro c11; try simp only [noR] at c11) | (have z := (c12 : Dm); clear z c12; intro c12; try simp only [noR] at c12)) <;> (try simp -implicitDefEqProofs -dsimp (maxSteps := 2000000) (disch := (first | exact dz | fail)) only [go_sem, aR, c12, c11, c10, c9, c8, c7, c6, c5, c4, c3, c2, c1, h0, h2, h3, h4, h5, h8, words_eq, kindTo_8, q4, q3, q2])))) <;> (try with_reducible and_intros) <;> (first | exact fz | skip)
    all_goals first | exact read_none ⟨0, [], [], 0, []⟩ hn | trace_state
end
end Go.Proofs.YtcmjidnbbfcbjaaGreatDoor.V.L1
/- The operation that a line says, of the program; no condition. -/
namespace Go.Proofs.YtcmjidnbbfcbjaaGreatDoor.V.L1
open Go V
set_option linter.unusedVariables false
set_option linter.unusedSimpArgs false
set_option maxRecDepth 100000
set_option maxHeartbeats 4000000
noncomputable section
variable {en : Env} {m : Mem}
theorem read_ok (s : List UInt8) (hs : s.length ≤ 1000000) (hf : Fits en m.length) : WC Tryz.prog pol en (.func 60) [tx s] m fun v m' => ∃ o : Pn, v = .tup [.agg (opC o), bo (readL s).isSome] ∧ (∀ x, readL s = some x → o = x) ∧ m' = m := by
  obtain ⟨w, ws, hc⟩ := cut_cons 32 s
  have hno : ∀ w : List UInt8, (∀ n, Lib.atoiAll w ≠ .ok n) → ∀ n : Int, 0 ≤ n → n ≤ 256 → itoaL n ≠ w := fun w h n h0 h1 e => by
    have := atoi_itoa h0 h1
    rw [e] at this
    exact h n this
  rcases ws with _ | ⟨w1, _ | ⟨w2, _ | ⟨w3, _ | ⟨w4, ws⟩⟩⟩⟩
  · exact read1_ok s w hc hs hf
  · exact read2_ok s w w1 hc hs hf
  · exact read3_ok s w w1 w2 hc hs hf
  · cases hat : Lib.atoiAll w2 with
    | ok n =>
      cases hu : unqL w3 with
      | none => exact read4n_ok s w w1 w2 w3 n hc hat hu hs hf
      | some d => exact read4_ok s w w1 w2 w3 d n hc hat hu hs hf
    | «syntax» => exact read4e_ok s w w1 w2 w3 0 _ _ 176 hc (by rw [atoiA, hat]; rfl) (hno w2 (by rw [hat]; simp)) hs hf
    | range => exact read4e_ok s w w1 w2 w3 _ _ _ 176 hc (by rw [atoiA, hat]; rfl) (hno w2 (by rw [hat]; simp)) hs hf
  · exact read5_ok s w w1 w2 w3 w4 ws hc hs hf
end
end Go.Proofs.YtcmjidnbbfcbjaaGreatDoor.V.L1
/- The operations that lines say, of the program; no condition. -/
namespace Go.Proofs.YtcmjidnbbfcbjaaGreatDoor.V
open Go
set_option linter.unusedVariables false
set_option linter.unusedSimpArgs false
set_option maxRecDepth 100000
set_option maxHeartbeats 4000000
noncomputable section
variable {en : Env} {m : Mem}
def zeroOp : Pn := ⟨0, [], [], 0, []⟩
theorem zero_flat (n : Nat) : (List.replicate n (opC zeroOp)).flatten = (List.replicate n zeroOp).flatMap opC := by
  induction n with
  | zero => rfl
  | succ n ih => rw [List.replicate_succ, List.flatten_cons, ih, List.replicate_succ, List.flatMap_cons]
theorem suf_nl {s : List UInt8} : isSuf [10] s = true ↔ ∃ t, s = t ++ [10] := by
  constructor
  · intro h; exact suf_one h
  · rintro ⟨t, rfl⟩; simp [isSuf]
/-- What is read so far. -/
def Reads (ls : List (List UInt8)) (L : List Pn) (i : Nat) : Prop := ∀ (j : Nat) s, j < i → ls[j]? = some s → ∃ o, readL s = some o ∧ L[j]? = some o
end
end Go.Proofs.YtcmjidnbbfcbjaaGreatDoor.V
namespace Go.Proofs.YtcmjidnbbfcbjaaGreatDoor.V.L1
open Go V
set_option linter.unusedVariables false
set_option linter.unusedSimpArgs false
set_option maxRecDepth 100000
set_option maxHeartbeats 4000000
noncomputable section
variable {en : Env} {m : Mem}
theorem parse_len {t : List UInt8} (h : ¬ (512 : Int) < ((cutL 10 t).length : Int)) : parseL (t ++ [10]) = readsL (cutL 10 t) := by
  rw [parse_nl, if_pos (by omega)]
theorem parse_ok (s : List UInt8) (hs : s.length ≤ 1000000) (hf : Fits en m.length) : WC Tryz.prog pol en (.func 23) [tx s] m fun v m' => ∃ x : Sl Pn, v = .tup [slf opC x, I (if (parseL s).isSome = true then 0 else 3)] ∧ x.l = (parseL s).getD [] ∧ m' = m := by
  refine callPur Tryz.func23 rfl rfl Tryz.ntmps23 Tryz.results23 ?_
  by_cases h0 : s = []
  · (have c1 : Dm := ⟨⟩; have c2 : Dm := ⟨⟩; have c3 : Dm := ⟨⟩; have c4 : Dm := ⟨⟩; have c5 : Dm := ⟨⟩; have c6 : Dm := ⟨⟩) <;> (try simp -implicitDefEqProofs -dsimp (maxSteps := 2000000) (disch := (first | exact dz | fail)) only [go_sem, aR, h0]) <;> (repeat' (first | ((with_reducible refine ds_and ?_ ?_); focus exact kz) | ((with_reducible refine And.intro ?_ ?_); focus exact oz) | ((with_reducible refine pc_and ?_ ?_); focus exact pz) | ((with_reducible first | refine gIf_t ?_ ?_ | refine gIf_f ?_ ?_ | refine ite_t ?_ ?_ | refine ite_p ?_ ?_) <;> (first | (have z := (c1 : Dm); clear z c1; intro c1; try simp only [noR] at c1) | (have z := (c2 : Dm); clear z c2; intro c2; try simp only [noR] at c2) | (have z := (c3 : Dm); clear z c3; intro c3; try simp only [noR] at c3) | (have z := (c4 : Dm); clear z c4; intro c4; try simp only [noR] at c4) | (have z := (c5 : Dm); clear z c5; intro c5; try simp only [noR] at c5) | (have z := (c6 : Dm); clear z c6; intro c6; try simp only [noR] at c6)) <;> (try simp -implicitDefEqProofs -dsimp (maxSteps := 2000000) (disch := (first | exact dz | fail)) only [go_sem, aR, c6, c5, c4, c3, c2, c1, h0])))) <;> (try with_reducible and_intros) <;> (first | exact fz | skip)
    exact ⟨⟨true, false, []⟩, rfl, rfl⟩
  by_cases hnl : ∃ t, s = t ++ [10]
  · obtain ⟨t, rfl⟩ := hnl
    have hsuf : isSuf [10] (t ++ [10]) = true := suf_nl.2 ⟨t, rfl⟩
    have htk : (t ++ [10]).take (t.length + 1 - 1) = t := by simp
    have hcl := cut_len 10 t
    have hcm := fun x (hx : x ∈ cutL 10 t) => cut_mem_len hx
    rw [List.length_append, List.length_singleton] at hs
    by_cases h512 : (512 : Int) < ((cutL 10 t).length : Int)
    · (have c1 : Dm := ⟨⟩; have c2 : Dm := ⟨⟩; have c3 : Dm := ⟨⟩; have c4 : Dm := ⟨⟩; have c5 : Dm := ⟨⟩; have c6 : Dm := ⟨⟩) <;> (try simp -implicitDefEqProofs -dsimp (maxSteps := 2000000) (disch := (first | exact dz | fail)) only [go_sem, aR, h0, hsuf, cutSuffix_eq, htk, stringsSplit_eq, h512]) <;> (repeat' (first | ((with_reducible refine ds_and ?_ ?_); focus exact kz) | ((with_reducible refine And.intro ?_ ?_); focus exact oz) | ((with_reducible refine pc_and ?_ ?_); focus exact pz) | ((with_reducible first | refine gIf_t ?_ ?_ | refine gIf_f ?_ ?_ | refine ite_t ?_ ?_ | refine ite_p ?_ ?_) <;> (first | (have z := (c1 : Dm); clear z c1; intro c1; try simp only [noR] at c1) | (have z := (c2 : Dm); clear z c2; intro c2; try simp only [noR] at c2) | (have z := (c3 : Dm); clear z c3; intro c3; try simp only [noR] at c3) | (have z := (c4 : Dm); clear z c4; intro c4; try simp only [noR] at c4) | (have z := (c5 : Dm); clear z c5; intro c5; try simp only [noR] at c5) | (have z := (c6 : Dm); clear z c6; intro c6; try simp only [noR] at c6)) <;> (try simp -implicitDefEqProofs -dsimp (maxSteps := 2000000) (disch := (first | exact dz | fail)) only [go_sem, aR, c6, c5, c4, c3, c2, c1, h0, hsuf, cutSuffix_eq, htk, stringsSplit_eq, h512])))) <;> (try with_reducible and_intros) <;> (first | exact fz | skip)
      have hp : parseL (t ++ [10]) = none := by rw [parse_nl, if_neg (by omega)]
      exact ⟨⟨true, false, []⟩, by rw [hp]; rfl, by rw [hp]; rfl⟩
    · have hz : (List.replicate (cutL 10 t).length [AV.sc (.int .u8 0), AV.sc (.string ⟨⟨[]⟩⟩), AV.sc (.string ⟨⟨[]⟩⟩), AV.sc (.int .i64 0), AV.sc (.string ⟨⟨[]⟩⟩)]).flatten = (List.replicate (cutL 10 t).length zeroOp).flatMap opC := zero_flat _
      have hlf := flat_leaf (f := opC) (List.replicate (cutL 10 t).length zeroOp)
      (have c1 : Dm := ⟨⟩; have c2 : Dm := ⟨⟩; have c3 : Dm := ⟨⟩; have c4 : Dm := ⟨⟩; have c5 : Dm := ⟨⟩; have c6 : Dm := ⟨⟩) <;> (try simp -implicitDefEqProofs -dsimp (maxSteps := 2000000) (disch := (first | exact dz | fail)) only [go_sem, aR, h0, hsuf, cutSuffix_eq, htk, stringsSplit_eq, h512, hz, hlf]) <;> (repeat' (first | ((with_reducible refine ds_and ?_ ?_); focus exact kz) | ((with_reducible refine And.intro ?_ ?_); focus exact oz) | ((with_reducible refine pc_and ?_ ?_); focus exact pz) | ((with_reducible first | refine gIf_t ?_ ?_ | refine gIf_f ?_ ?_ | refine ite_t ?_ ?_ | refine ite_p ?_ ?_) <;> (first | (have z := (c1 : Dm); clear z c1; intro c1; try simp only [noR] at c1) | (have z := (c2 : Dm); clear z c2; intro c2; try simp only [noR] at c2) | (have z := (c3 : Dm); clear z c3; intro c3; try simp only [noR] at c3) | (have z := (c4 : Dm); clear z c4; intro c4; try simp only [noR] at c4) | (have z := (c5 : Dm); clear z c5; intro c5; try simp only [noR] at c5) | (have z := (c6 : Dm); clear z c6; intro c6; try simp only [noR] at c6)) <;> (try simp -implicitDefEqProofs -dsimp (maxSteps := 2000000) (disch := (first | exact dz | fail)) only [go_sem, aR, c6, c5, c4, c3, c2, c1, h0, hsuf, cutSuffix_eq, htk, stringsSplit_eq, h512, hz, hlf])))) <;> (try with_reducible and_intros) <;> (first | exact fz | skip)
      rw [parse_len h512]
      have hc0 : cutL 10 t ≠ [] := cut_ne 10 t
      generalize cutL 10 t = ls at hcl h512 hz hlf hcm hc0
      have hl0 : 0 < ls.length := List.length_pos_iff.2 hc0
      refine loopF (fun k ts m' => ∃ (i : Nat) (L : List Pn), ts.length = 48 ∧ tg ts 5 = bo true ∧ tg ts 7 = .own m.length (tagT 55) 0 ls.length 5 ∧ tg ts 29 = sl tx ⟨false, false, ls⟩ ∧ tg ts 30 = I ls.length ∧ tg ts 31 = I i ∧
        m' = m ++ [.cells (tagT 55) (L.flatMap opC)] ∧ L.length = ls.length ∧ Reads ls L i ∧ i ≤ ls.length ∧ k = ls.length - i) ls.length ⟨0, _, rfl, rfl, rfl, rfl, rfl, rfl, rfl, by simp, fun j s h => by omega, by omega, by omega⟩ ?_
      rintro k ts m' ⟨i, L, hl, h5, h7, h29, h30, h31, rfl, hL, hr, hi, rfl⟩
      rw [expandT hl]
      by_cases hlt : (i : Int) < (ls.length : Int)
      · obtain ⟨w, hw⟩ : ∃ w, ls[i]? = some w := ⟨_, List.getElem?_eq_getElem (by omega)⟩
        have hwl := hcm w (List.mem_of_getElem? hw)
        (have c1 : Dm := ⟨⟩; have c2 : Dm := ⟨⟩; have c3 : Dm := ⟨⟩; have c4 : Dm := ⟨⟩; have c5 : Dm := ⟨⟩; have c6 : Dm := ⟨⟩) <;> (try simp -implicitDefEqProofs -dsimp (maxSteps := 2000000) (disch := (first | exact dz | fail)) only [go_sem, aR, h5, h7, h29, h30, h31, hlt, hw]) <;> (repeat' (first | ((with_reducible refine ds_and ?_ ?_); focus exact kz) | ((with_reducible refine And.intro ?_ ?_); focus exact oz) | ((with_reducible refine pc_and ?_ ?_); focus exact pz) | ((with_reducible first | refine gIf_t ?_ ?_ | refine gIf_f ?_ ?_ | refine ite_t ?_ ?_ | refine ite_p ?_ ?_) <;> (first | (have z := (c1 : Dm); clear z c1; intro c1; try simp only [noR] at c1) | (have z := (c2 : Dm); clear z c2; intro c2; try simp only [noR] at c2) | (have z := (c3 : Dm); clear z c3; intro c3; try simp only [noR] at c3) | (have z := (c4 : Dm); clear z c4; intro c4; try simp only [noR] at c4) | (have z := (c5 : Dm); clear z c5; intro c5; try simp only [noR] at c5) | (have z := (c6 : Dm); clear z c6; intro c6; try simp only [noR] at c6)) <;> (try simp -implicitDefEqProofs -dsimp (maxSteps := 2000000) (disch := (first | exact dz | fail)) only [go_sem, aR, c6, c5, c4, c3, c2, c1, h5, h7, h29, h30, h31, hlt, hw])))) <;> (try with_reducible and_intros) <;> (first | exact fz | skip)
        refine (read_ok w (by omega) (Fits.up hf.pur (by simp))).mono ?_
        rintro v m' ⟨o, rfl, ho, rfl⟩
        have hfs := flat_set (f := opC) (l := L) (i := i) (by omega) o
        have hfl := flat_len (f := opC) L
        cases hrd : readL w with
        | none =>
          (have c1 : Dm := ⟨⟩; have c2 : Dm := ⟨⟩; have c3 : Dm := ⟨⟩; have c4 : Dm := ⟨⟩; have c5 : Dm := ⟨⟩; have c6 : Dm := ⟨⟩) <;> (try simp -implicitDefEqProofs -dsimp (maxSteps := 2000000) (disch := (first | exact dz | fail)) only [go_sem, aR, hfs, hfl, hL, Option.isSome_none]) <;> (repeat' (first | ((with_reducible refine ds_and ?_ ?_); focus exact kz) | ((with_reducible refine And.intro ?_ ?_); focus exact oz) | ((with_reducible refine pc_and ?_ ?_); focus exact pz) | ((with_reducible first | refine gIf_t ?_ ?_ | refine gIf_f ?_ ?_ | refine ite_t ?_ ?_ | refine ite_p ?_ ?_) <;> (first | (have z := (c1 : Dm); clear z c1; intro c1; try simp only [noR] at c1) | (have z := (c2 : Dm); clear z c2; intro c2; try simp only [noR] at c2) | (have z := (c3 : Dm); clear z c3; intro c3; try simp only [noR] at c3) | (have z := (c4 : Dm); clear z c4; intro c4; try simp only [noR] at c4) | (have z := (c5 : Dm); clear z c5; intro c5; try simp only [noR] at c5) | (have z := (c6 : Dm); clear z c6; intro c6; try simp only [noR] at c6)) <;> (try simp -implicitDefEqProofs -dsimp (maxSteps := 2000000) (disch := (first | exact dz | fail)) only [go_sem, aR, c6, c5, c4, c3, c2, c1, hfs, hfl, hL, Option.isSome_none])))) <;> (try with_reducible and_intros) <;> (first | exact fz | skip)
          exact ⟨⟨true, false, []⟩, by rw [reads_bad hw hrd]; rfl, by rw [reads_bad hw hrd]; rfl⟩
        | some o' =>
          obtain rfl := ho o' hrd
          (have c1 : Dm := ⟨⟩; have c2 : Dm := ⟨⟩; have c3 : Dm := ⟨⟩; have c4 : Dm := ⟨⟩; have c5 : Dm := ⟨⟩; have c6 : Dm := ⟨⟩) <;> (try simp -implicitDefEqProofs -dsimp (maxSteps := 2000000) (disch := (first | exact dz | fail)) only [go_sem, aR, hfs, hfl, hL, Option.isSome_some]) <;> (repeat' (first | ((with_reducible refine ds_and ?_ ?_); focus exact kz) | ((with_reducible refine And.intro ?_ ?_); focus exact oz) | ((with_reducible refine pc_and ?_ ?_); focus exact pz) | ((with_reducible first | refine gIf_t ?_ ?_ | refine gIf_f ?_ ?_ | refine ite_t ?_ ?_ | refine ite_p ?_ ?_) <;> (first | (have z := (c1 : Dm); clear z c1; intro c1; try simp only [noR] at c1) | (have z := (c2 : Dm); clear z c2; intro c2; try simp only [noR] at c2) | (have z := (c3 : Dm); clear z c3; intro c3; try simp only [noR] at c3) | (have z := (c4 : Dm); clear z c4; intro c4; try simp only [noR] at c4) | (have z := (c5 : Dm); clear z c5; intro c5; try simp only [noR] at c5) | (have z := (c6 : Dm); clear z c6; intro c6; try simp only [noR] at c6)) <;> (try simp -implicitDefEqProofs -dsimp (maxSteps := 2000000) (disch := (first | exact dz | fail)) only [go_sem, aR, c6, c5, c4, c3, c2, c1, hfs, hfl, hL, Option.isSome_some])))) <;> (try with_reducible and_intros) <;> (first | exact fz | skip)
          refine ⟨ls.length - (i + 1), by omega, i + 1, L.set i o, rfl, by rw [← hfs]; rfl, by simp [hL], fun j s hj hs => ?_, by omega, rfl⟩
          by_cases hji : j = i
          · subst hji
            rw [hw] at hs; cases hs
            exact ⟨o, hrd, by rw [List.getElem?_set_self (by omega)]⟩
          · obtain ⟨o2, h1, h2⟩ := hr j s (by omega) hs
            exact ⟨o2, h1, by rw [List.getElem?_set_ne (by omega)]; exact h2⟩
      · have hrl : readsL ls = some L := reads_good hL fun j s o hs ho => by
          have hj := (List.getElem?_eq_some_iff.1 hs).1
          obtain ⟨o2, h1, h2⟩ := hr j s (by omega) hs
          rw [ho] at h2; cases h2; exact h1
        have hfl := flat_len (f := opC) L
        (have c1 : Dm := ⟨⟩; have c2 : Dm := ⟨⟩; have c3 : Dm := ⟨⟩; have c4 : Dm := ⟨⟩; have c5 : Dm := ⟨⟩; have c6 : Dm := ⟨⟩) <;> (try simp -implicitDefEqProofs -dsimp (maxSteps := 2000000) (disch := (first | exact dz | fail)) only [go_sem, aR, h5, h7, h29, h30, h31, hlt]) <;> (repeat' (first | ((with_reducible refine ds_and ?_ ?_); focus exact kz) | ((with_reducible refine And.intro ?_ ?_); focus exact oz) | ((with_reducible refine pc_and ?_ ?_); focus exact pz) | ((with_reducible first | refine gIf_t ?_ ?_ | refine gIf_f ?_ ?_ | refine ite_t ?_ ?_ | refine ite_p ?_ ?_) <;> (first | (have z := (c1 : Dm); clear z c1; intro c1; try simp only [noR] at c1) | (have z := (c2 : Dm); clear z c2; intro c2; try simp only [noR] at c2) | (have z := (c3 : Dm); clear z c3; intro c3; try simp only [noR] at c3) | (have z := (c4 : Dm); clear z c4; intro c4; try simp only [noR] at c4) | (have z := (c5 : Dm); clear z c5; intro c5; try simp only [noR] at c5) | (have z := (c6 : Dm); clear z c6; intro c6; try simp only [noR] at c6)) <;> (try simp -implicitDefEqProofs -dsimp (maxSteps := 2000000) (disch := (first | exact dz | fail)) only [go_sem, aR, c6, c5, c4, c3, c2, c1, h5, h7, h29, h30, h31, hlt])))) <;> (try with_reducible and_intros) <;> (first | exact fz | skip)
        have hrw : RwC 5 m.length L.length (L.flatMap opC) (.own m.length (tagT 55) 0 ls.length 5) (m ++ [.cells (tagT 55) (L.flatMap opC)]) := ⟨by simp, Or.inr ⟨by omega, m.length, tagT 55, by rw [hL], Nat.le_refl _, by rw [getM0]; rfl, hfl⟩⟩
        refine Eq.mpr (RwC.frzF hrw (Nat.le_refl _) 5 _) ?_
        (have hq1 : Dm := ⟨⟩; have hq2 : Dm := ⟨⟩; have hq3 : Dm := ⟨⟩; have hq4 : Dm := ⟨⟩; have hq5 : Dm := ⟨⟩; have hq6 : Dm := ⟨⟩) <;> (try simp -implicitDefEqProofs -dsimp (maxSteps := 2000000) (disch := (first | exact dz | fail)) only [go_sem, aR, ]) <;> (repeat' (first | ((with_reducible refine ds_and ?_ ?_); focus exact kz) | ((with_reducible refine And.intro ?_ ?_); focus exact oz) | ((with_reducible refine pc_and ?_ ?_); focus exact pz) | ((with_reducible first | refine gIf_t ?_ ?_ | refine gIf_f ?_ ?_ | refine ite_t ?_ ?_ | refine ite_p ?_ ?_) <;> (first | (have z := (hq1 : Dm); clear z hq1; intro hq1; try simp only [noR] at hq1) | (have z := (hq2 : Dm); clear z hq2; intro hq2; try simp only [noR] at hq2) | (have z := (hq3 : Dm); clear z hq3; intro hq3; try simp only [noR] at hq3) | (have z := (hq4 : Dm); clear z hq4; intro hq4; try simp only [noR] at hq4) | (have z := (hq5 : Dm); clear z hq5; intro hq5; try simp only [noR] at hq5) | (have z := (hq6 : Dm); clear z hq6; intro hq6; try simp only [noR] at hq6)) <;> (try simp -implicitDefEqProofs -dsimp (maxSteps := 2000000) (disch := (first | exact dz | fail)) only [go_sem, aR, hq6, hq5, hq4, hq3, hq2, hq1])))) <;> (try with_reducible and_intros) <;> (first | exact fz | skip)
        exact ⟨⟨true, false, L⟩, by rw [hrl]; rfl, by rw [hrl]; rfl⟩
  · have hsuf : isSuf [10] s = false := by
      cases h : isSuf [10] s with
      | false => rfl
      | true => exact (hnl (suf_nl.1 h)).elim
    (have c1 : Dm := ⟨⟩; have c2 : Dm := ⟨⟩; have c3 : Dm := ⟨⟩; have c4 : Dm := ⟨⟩; have c5 : Dm := ⟨⟩; have c6 : Dm := ⟨⟩) <;> (try simp -implicitDefEqProofs -dsimp (maxSteps := 2000000) (disch := (first | exact dz | fail)) only [go_sem, aR, h0, hsuf, cutSuffix_eq, stringsSplit_eq]) <;> (repeat' (first | ((with_reducible refine ds_and ?_ ?_); focus exact kz) | ((with_reducible refine And.intro ?_ ?_); focus exact oz) | ((with_reducible refine pc_and ?_ ?_); focus exact pz) | ((with_reducible first | refine gIf_t ?_ ?_ | refine gIf_f ?_ ?_ | refine ite_t ?_ ?_ | refine ite_p ?_ ?_) <;> (first | (have z := (c1 : Dm); clear z c1; intro c1; try simp only [noR] at c1) | (have z := (c2 : Dm); clear z c2; intro c2; try simp only [noR] at c2) | (have z := (c3 : Dm); clear z c3; intro c3; try simp only [noR] at c3) | (have z := (c4 : Dm); clear z c4; intro c4; try simp only [noR] at c4) | (have z := (c5 : Dm); clear z c5; intro c5; try simp only [noR] at c5) | (have z := (c6 : Dm); clear z c6; intro c6; try simp only [noR] at c6)) <;> (try simp -implicitDefEqProofs -dsimp (maxSteps := 2000000) (disch := (first | exact dz | fail)) only [go_sem, aR, c6, c5, c4, c3, c2, c1, h0, hsuf, cutSuffix_eq, stringsSplit_eq])))) <;> (try with_reducible and_intros) <;> (first | exact fz | skip)
    have hp : parseL s = none := parse_no h0 fun t e => hnl ⟨t, e⟩
    exact ⟨⟨true, false, []⟩, by rw [hp]; rfl, by rw [hp]; rfl⟩
end
end Go.Proofs.YtcmjidnbbfcbjaaGreatDoor.V.L1
/- The operation that a line says, of the reference: one, two words; no condition. -/
namespace Go.Proofs.YtcmjidnbbfcbjaaGreatDoor.V.L1
open Go V
set_option linter.unusedVariables false
set_option linter.unusedSimpArgs false
set_option maxRecDepth 100000
set_option maxHeartbeats 4000000
noncomputable section
variable {en : Env} {m : Mem}
theorem line1_ok (s : List UInt8) (w : List UInt8) (hc : cutL 32 s = [w]) (hs : s.length ≤ 1000000) (hf : Fits en m.length) : WC Tryz.prog pol en (.func 61) [tx s] m fun v m' => v = .tup [.agg (opC ⟨kindL w, [], [], 0, []⟩), bo (readL s).isSome] ∧ m' = m := by
  have hlen : ∀ x ∈ [w], x.length ≤ 1000000 := fun x hx => by
    rw [← hc] at hx
    have := cut_mem_len hx; omega
  have hi := isS_and (s := s) (o := ⟨kindL w, [], [], 0, []⟩) (by rw [hc]; simp [candL])
  refine callPur Tryz.func61 rfl rfl Tryz.ntmps61 Tryz.results61 ?_
  (have hq1 : Dm := ⟨⟩; have hq2 : Dm := ⟨⟩; have hq3 : Dm := ⟨⟩; have hq4 : Dm := ⟨⟩; have hq5 : Dm := ⟨⟩; have hq6 : Dm := ⟨⟩) <;> (try simp -implicitDefEqProofs -dsimp (maxSteps := 2000000) (disch := (first | exact dz | fail)) only [go_sem, aR, stringsSplit_eq, hc]) <;> (repeat' (first | ((with_reducible refine ds_and ?_ ?_); focus exact kz) | ((with_reducible refine And.intro ?_ ?_); focus exact oz) | ((with_reducible refine pc_and ?_ ?_); focus exact pz) | ((with_reducible first | refine gIf_t ?_ ?_ | refine gIf_f ?_ ?_ | refine ite_t ?_ ?_ | refine ite_p ?_ ?_) <;> (first | (have z := (hq1 : Dm); clear z hq1; intro hq1; try simp only [noR] at hq1) | (have z := (hq2 : Dm); clear z hq2; intro hq2; try simp only [noR] at hq2) | (have z := (hq3 : Dm); clear z hq3; intro hq3; try simp only [noR] at hq3) | (have z := (hq4 : Dm); clear z hq4; intro hq4; try simp only [noR] at hq4) | (have z := (hq5 : Dm); clear z hq5; intro hq5; try simp only [noR] at hq5) | (have z := (hq6 : Dm); clear z hq6; intro hq6; try simp only [noR] at hq6)) <;> (try simp -implicitDefEqProofs -dsimp (maxSteps := 2000000) (disch := (first | exact dz | fail)) only [go_sem, aR, hq6, hq5, hq4, hq3, hq2, hq1, stringsSplit_eq, hc])))) <;> (try with_reducible and_intros) <;> (first | exact fz | skip)
  refine loopF (fun k ts m' => ∃ (j : Nat), ts.length = 60 ∧ tg ts 0 = tx s ∧ tg ts 2 = .ptr m.length (tagT 55) 0 ∧ tg ts 3 = bo false ∧ tg ts 4 = sl tx ⟨false, false, [w]⟩ ∧ tg ts 5 = .ptr (m.length + 1) (tagT 55) 0 ∧ tg ts 6 = .sc (.int .u8 (j + 1 : Nat)) ∧
    m' = m ++ [.cells (tagT 55) [.sc (.int .u8 0), tx [], tx [], I 0, tx []], .cells (tagT 55) [.sc (.int .u8 (kindTo w j)), tx [], tx [], I 0, tx []]] ∧ j ≤ 8 ∧ k = 8 - j) 8 ⟨0, rfl, rfl, rfl, rfl, rfl, rfl, rfl, rfl, by omega, by omega⟩ ?_
  rintro k ts m' ⟨j, hl, h0, h2, h3, h4, h5, h6, rfl, hj, rfl⟩
  rw [expandT hl]
  by_cases h8 : ((j + 1 : Nat) : Int) ≤ 8
  · (have c1 : Dm := ⟨⟩; have c2 : Dm := ⟨⟩; have c3 : Dm := ⟨⟩; have c4 : Dm := ⟨⟩; have c5 : Dm := ⟨⟩; have c6 : Dm := ⟨⟩) <;> (try simp -implicitDefEqProofs -dsimp (maxSteps := 2000000) (disch := (first | exact dz | fail)) only [go_sem, aR, h0, h2, h3, h4, h5, h6, h8, word_eq]) <;> (repeat' (first | ((with_reducible refine ds_and ?_ ?_); focus exact kz) | ((with_reducible refine And.intro ?_ ?_); focus exact oz) | ((with_reducible refine pc_and ?_ ?_); focus exact pz) | ((with_reducible first | refine gIf_t ?_ ?_ | refine gIf_f ?_ ?_ | refine ite_t ?_ ?_ | refine ite_p ?_ ?_) <;> (first | (have z := (c1 : Dm); clear z c1; intro c1; try simp only [noR] at c1) | (have z := (c2 : Dm); clear z c2; intro c2; try simp only [noR] at c2) | (have z := (c3 : Dm); clear z c3; intro c3; try simp only [noR] at c3) | (have z := (c4 : Dm); clear z c4; intro c4; try simp only [noR] at c4) | (have z := (c5 : Dm); clear z c5; intro c5; try simp only [noR] at c5) | (have z := (c6 : Dm); clear z c6; intro c6; try simp only [noR] at c6)) <;> (try simp -implicitDefEqProofs -dsimp (maxSteps := 2000000) (disch := (first | exact dz | fail)) only [go_sem, aR, c6, c5, c4, c3, c2, c1, h0, h2, h3, h4, h5, h6, h8, word_eq])))) <;> (try with_reducible and_intros) <;> (first | exact fz | skip)
    · exact ⟨8 - (j + 1), by omega, j + 1, rfl, by rw [kindTo_succ, kindStep, if_pos rfl], by omega, rfl⟩
    · exact ⟨8 - (j + 1), by omega, j + 1, rfl, by rw [kindTo_succ, kindStep, if_neg c1], by omega, rfl⟩
  · obtain rfl : j = 8 := by omega
    have hkc : 0 ≤ kindL w ∧ kindL w ≤ 8 := by
      rcases kind_cases w with ⟨h, _⟩ | ⟨h1, h2, _⟩ <;> omega
    (have c1 : Dm := ⟨⟩; have c2 : Dm := ⟨⟩; have c3 : Dm := ⟨⟩; have c4 : Dm := ⟨⟩; have c5 : Dm := ⟨⟩; have c6 : Dm := ⟨⟩) <;> (try simp -implicitDefEqProofs -dsimp (maxSteps := 2000000) (disch := (first | exact dz | fail)) only [go_sem, aR, h0, h2, h3, h4, h5, h6, h8, kindTo_8, rightOpR_eq, refLine_eq', hc]) <;> (repeat' (first | ((with_reducible refine ds_and ?_ ?_); focus exact kz) | ((with_reducible refine And.intro ?_ ?_); focus exact oz) | ((with_reducible refine pc_and ?_ ?_); focus exact pz) | ((with_reducible first | refine gIf_t ?_ ?_ | refine gIf_f ?_ ?_ | refine ite_t ?_ ?_ | refine ite_p ?_ ?_) <;> (first | (have z := (c1 : Dm); clear z c1; intro c1; try simp only [noR] at c1) | (have z := (c2 : Dm); clear z c2; intro c2; try simp only [noR] at c2) | (have z := (c3 : Dm); clear z c3; intro c3; try simp only [noR] at c3) | (have z := (c4 : Dm); clear z c4; intro c4; try simp only [noR] at c4) | (have z := (c5 : Dm); clear z c5; intro c5; try simp only [noR] at c5) | (have z := (c6 : Dm); clear z c6; intro c6; try simp only [noR] at c6)) <;> (try simp -implicitDefEqProofs -dsimp (maxSteps := 2000000) (disch := (first | exact dz | fail)) only [go_sem, aR, c6, c5, c4, c3, c2, c1, h0, h2, h3, h4, h5, h6, h8, kindTo_8, rightOpR_eq, refLine_eq', hc])))) <;> (try with_reducible and_intros) <;> (first | exact fz | skip)
    all_goals first | (rw [hi]; simp [bo, *]) | (clear hlen hf; trace_state)
theorem line2_ok (s : List UInt8) (w w1 : List UInt8) (hc : cutL 32 s = [w, w1]) (hs : s.length ≤ 1000000) (hf : Fits en m.length) : WC Tryz.prog pol en (.func 61) [tx s] m fun v m' => v = .tup [.agg (opC ⟨kindL w, w1, [], 0, []⟩), bo (readL s).isSome] ∧ m' = m := by
  have hlen : ∀ x ∈ [w, w1], x.length ≤ 1000000 := fun x hx => by
    rw [← hc] at hx
    have := cut_mem_len hx; omega
  have hl1 := hlen w1 (by simp)
  have hi := isS_and (s := s) (o := ⟨kindL w, w1, [], 0, []⟩) (by rw [hc]; simp [candL])
  refine callPur Tryz.func61 rfl rfl Tryz.ntmps61 Tryz.results61 ?_
  (have hq1 : Dm := ⟨⟩; have hq2 : Dm := ⟨⟩; have hq3 : Dm := ⟨⟩; have hq4 : Dm := ⟨⟩; have hq5 : Dm := ⟨⟩; have hq6 : Dm := ⟨⟩) <;> (try simp -implicitDefEqProofs -dsimp (maxSteps := 2000000) (disch := (first | exact dz | fail)) only [go_sem, aR, stringsSplit_eq, hc]) <;> (repeat' (first | ((with_reducible refine ds_and ?_ ?_); focus exact kz) | ((with_reducible refine And.intro ?_ ?_); focus exact oz) | ((with_reducible refine pc_and ?_ ?_); focus exact pz) | ((with_reducible first | refine gIf_t ?_ ?_ | refine gIf_f ?_ ?_ | refine ite_t ?_ ?_ | refine ite_p ?_ ?_) <;> (first | (have z := (hq1 : Dm); clear z hq1; intro hq1; try simp only [noR] at hq1) | (have z := (hq2 : Dm); clear z hq2; intro hq2; try simp only [noR] at hq2) | (have z := (hq3 : Dm); clear z hq3; intro hq3; try simp only [noR] at hq3) | (have z := (hq4 : Dm); clear z hq4; intro hq4; try simp only [noR] at hq4) | (have z := (hq5 : Dm); clear z hq5; intro hq5; try simp only [noR] at hq5) | (have z := (hq6 : Dm); clear z hq6; intro hq6; try simp only [noR] at hq6)) <;> (try simp -implicitDefEqProofs -dsimp (maxSteps := 2000000) (disch := (first | exact dz | fail)) only [go_sem, aR, hq6, hq5, hq4, hq3, hq2, hq1, stringsSplit_eq, hc])))) <;> (try with_reducible and_intros) <;> (first | exact fz | skip)
  refine loopF (fun k ts m' => ∃ (j : Nat), ts.length = 60 ∧ tg ts 0 = tx s ∧ tg ts 2 = .ptr m.length (tagT 55) 0 ∧ tg ts 3 = bo false ∧ tg ts 4 = sl tx ⟨false, false, [w, w1]⟩ ∧ tg ts 5 = .ptr (m.length + 1) (tagT 55) 0 ∧ tg ts 6 = .sc (.int .u8 (j + 1 : Nat)) ∧
    m' = m ++ [.cells (tagT 55) [.sc (.int .u8 0), tx [], tx [], I 0, tx []], .cells (tagT 55) [.sc (.int .u8 (kindTo w j)), tx [], tx [], I 0, tx []]] ∧ j ≤ 8 ∧ k = 8 - j) 8 ⟨0, rfl, rfl, rfl, rfl, rfl, rfl, rfl, rfl, by omega, by omega⟩ ?_
  rintro k ts m' ⟨j, hl, h0, h2, h3, h4, h5, h6, rfl, hj, rfl⟩
  rw [expandT hl]
  by_cases h8 : ((j + 1 : Nat) : Int) ≤ 8
  · (have c1 : Dm := ⟨⟩; have c2 : Dm := ⟨⟩; have c3 : Dm := ⟨⟩; have c4 : Dm := ⟨⟩; have c5 : Dm := ⟨⟩; have c6 : Dm := ⟨⟩) <;> (try simp -implicitDefEqProofs -dsimp (maxSteps := 2000000) (disch := (first | exact dz | fail)) only [go_sem, aR, h0, h2, h3, h4, h5, h6, h8, word_eq]) <;> (repeat' (first | ((with_reducible refine ds_and ?_ ?_); focus exact kz) | ((with_reducible refine And.intro ?_ ?_); focus exact oz) | ((with_reducible refine pc_and ?_ ?_); focus exact pz) | ((with_reducible first | refine gIf_t ?_ ?_ | refine gIf_f ?_ ?_ | refine ite_t ?_ ?_ | refine ite_p ?_ ?_) <;> (first | (have z := (c1 : Dm); clear z c1; intro c1; try simp only [noR] at c1) | (have z := (c2 : Dm); clear z c2; intro c2; try simp only [noR] at c2) | (have z := (c3 : Dm); clear z c3; intro c3; try simp only [noR] at c3) | (have z := (c4 : Dm); clear z c4; intro c4; try simp only [noR] at c4) | (have z := (c5 : Dm); clear z c5; intro c5; try simp only [noR] at c5) | (have z := (c6 : Dm); clear z c6; intro c6; try simp only [noR] at c6)) <;> (try simp -implicitDefEqProofs -dsimp (maxSteps := 2000000) (disch := (first | exact dz | fail)) only [go_sem, aR, c6, c5, c4, c3, c2, c1, h0, h2, h3, h4, h5, h6, h8, word_eq])))) <;> (try with_reducible and_intros) <;> (first | exact fz | skip)
    · exact ⟨8 - (j + 1), by omega, j + 1, rfl, by rw [kindTo_succ, kindStep, if_pos rfl], by omega, rfl⟩
    · exact ⟨8 - (j + 1), by omega, j + 1, rfl, by rw [kindTo_succ, kindStep, if_neg c1], by omega, rfl⟩
  · obtain rfl : j = 8 := by omega
    have hkc : 0 ≤ kindL w ∧ kindL w ≤ 8 := by
      rcases kind_cases w with ⟨h, _⟩ | ⟨h1, h2, _⟩ <;> omega
    (have c1 : Dm := ⟨⟩; have c2 : Dm := ⟨⟩; have c3 : Dm := ⟨⟩; have c4 : Dm := ⟨⟩; have c5 : Dm := ⟨⟩; have c6 : Dm := ⟨⟩) <;> (try simp -implicitDefEqProofs -dsimp (maxSteps := 2000000) (disch := (first | exact dz | fail)) only [go_sem, aR, h0, h2, h3, h4, h5, h6, h8, kindTo_8, rightOpR_eq, refLine_eq', hc]) <;> (repeat' (first | ((with_reducible refine ds_and ?_ ?_); focus exact kz) | ((with_reducible refine And.intro ?_ ?_); focus exact oz) | ((with_reducible refine pc_and ?_ ?_); focus exact pz) | ((with_reducible first | refine gIf_t ?_ ?_ | refine gIf_f ?_ ?_ | refine ite_t ?_ ?_ | refine ite_p ?_ ?_) <;> (first | (have z := (c1 : Dm); clear z c1; intro c1; try simp only [noR] at c1) | (have z := (c2 : Dm); clear z c2; intro c2; try simp only [noR] at c2) | (have z := (c3 : Dm); clear z c3; intro c3; try simp only [noR] at c3) | (have z := (c4 : Dm); clear z c4; intro c4; try simp only [noR] at c4) | (have z := (c5 : Dm); clear z c5; intro c5; try simp only [noR] at c5) | (have z := (c6 : Dm); clear z c6; intro c6; try simp only [noR] at c6)) <;> (try simp -implicitDefEqProofs -dsimp (maxSteps := 2000000) (disch := (first | exact dz | fail)) only [go_sem, aR, c6, c5, c4, c3, c2, c1, h0, h2, h3, h4, h5, h6, h8, kindTo_8, rightOpR_eq, refLine_eq', hc])))) <;> (try with_reducible and_intros) <;> (first | exact fz | skip)
    all_goals first | (rw [hi]; simp [bo, *]) | (clear hlen hf; trace_state)
end
end Go.Proofs.YtcmjidnbbfcbjaaGreatDoor.V.L1
/- The operation that a line says, of the reference: three words; no condition. -/
namespace Go.Proofs.YtcmjidnbbfcbjaaGreatDoor.V.L1
open Go V
set_option linter.unusedVariables false
set_option linter.unusedSimpArgs false
set_option maxRecDepth 100000
set_option maxHeartbeats 4000000
noncomputable section
variable {en : Env} {m : Mem}
theorem line3_ok (s : List UInt8) (w w1 w2 : List UInt8) (hc : cutL 32 s = [w, w1, w2]) (hs : s.length ≤ 1000000) (hf : Fits en m.length) : WC Tryz.prog pol en (.func 61) [tx s] m fun v m' => v = .tup [.agg (opC ⟨kindL w, w1, w2, 0, []⟩), bo (readL s).isSome] ∧ m' = m := by
  have hlen : ∀ x ∈ [w, w1, w2], x.length ≤ 1000000 := fun x hx => by
    rw [← hc] at hx
    have := cut_mem_len hx; omega
  have hl1 := hlen w1 (by simp)
  have hl2 := hlen w2 (by simp)
  have hi := isS_and (s := s) (o := ⟨kindL w, w1, w2, 0, []⟩) (by rw [hc]; simp [candL])
  refine callPur Tryz.func61 rfl rfl Tryz.ntmps61 Tryz.results61 ?_
  (have hq1 : Dm := ⟨⟩; have hq2 : Dm := ⟨⟩; have hq3 : Dm := ⟨⟩; have hq4 : Dm := ⟨⟩; have hq5 : Dm := ⟨⟩; have hq6 : Dm := ⟨⟩) <;> (try simp -implicitDefEqProofs -dsimp (maxSteps := 2000000) (disch := (first | exact dz | fail)) only [go_sem, aR, stringsSplit_eq, hc]) <;> (repeat' (first | ((with_reducible refine ds_and ?_ ?_); focus exact kz) | ((with_reducible refine And.intro ?_ ?_); focus exact oz) | ((with_reducible refine pc_and ?_ ?_); focus exact pz) | ((with_reducible first | refine gIf_t ?_ ?_ | refine gIf_f ?_ ?_ | refine ite_t ?_ ?_ | refine ite_p ?_ ?_) <;> (first | (have z := (hq1 : Dm); clear z hq1; intro hq1; try simp only [noR] at hq1) | (have z := (hq2 : Dm); clear z hq2; intro hq2; try simp only [noR] at hq2) | (have z := (hq3 : Dm); clear z hq3; intro hq3; try simp only [noR] at hq3) | (have z := (hq4 : Dm); clear z hq4; intro hq4; try simp only [noR] at hq4) | (have z := (hq5 : Dm); clear z hq5; intro hq5; try simp only [noR] at hq5) | (have z := (hq6 : Dm); clear z hq6; intro hq6; try simp only [noR] at hq6)) <;> (try simp -implicitDefEqProofs -dsimp (maxSteps := 2000000) (disch := (first | exact dz | fail)) only [go_sem, aR, hq6, hq5, hq4, hq3, hq2, hq1, stringsSplit_eq, hc])))) <;> (try with_reducible and_intros) <;> (first | exact fz | skip)
  refine loopF (fun k ts m' => ∃ (j : Nat), ts.length = 60 ∧ tg ts 0 = tx s ∧ tg ts 2 = .ptr m.length (tagT 55) 0 ∧ tg ts 3 = bo false ∧ tg ts 4 = sl tx ⟨false, false, [w, w1, w2]⟩ ∧ tg ts 5 = .ptr (m.length + 1) (tagT 55) 0 ∧ tg ts 6 = .sc (.int .u8 (j + 1 : Nat)) ∧
    m' = m ++ [.cells (tagT 55) [.sc (.int .u8 0), tx [], tx [], I 0, tx []], .cells (tagT 55) [.sc (.int .u8 (kindTo w j)), tx [], tx [], I 0, tx []]] ∧ j ≤ 8 ∧ k = 8 - j) 8 ⟨0, rfl, rfl, rfl, rfl, rfl, rfl, rfl, rfl, by omega, by omega⟩ ?_
  rintro k ts m' ⟨j, hl, h0, h2, h3, h4, h5, h6, rfl, hj, rfl⟩
  rw [expandT hl]
  by_cases h8 : ((j + 1 : Nat) : Int) ≤ 8
  · (have c1 : Dm := ⟨⟩; have c2 : Dm := ⟨⟩; have c3 : Dm := ⟨⟩; have c4 : Dm := ⟨⟩; have c5 : Dm := ⟨⟩; have c6 : Dm := ⟨⟩) <;> (try simp -implicitDefEqProofs -dsimp (maxSteps := 2000000) (disch := (first | exact dz | fail)) only [go_sem, aR, h0, h2, h3, h4, h5, h6, h8, word_eq]) <;> (repeat' (first | ((with_reducible refine ds_and ?_ ?_); focus exact kz) | ((with_reducible refine And.intro ?_ ?_); focus exact oz) | ((with_reducible refine pc_and ?_ ?_); focus exact pz) | ((with_reducible first | refine gIf_t ?_ ?_ | refine gIf_f ?_ ?_ | refine ite_t ?_ ?_ | refine ite_p ?_ ?_) <;> (first | (have z := (c1 : Dm); clear z c1; intro c1; try simp only [noR] at c1) | (have z := (c2 : Dm); clear z c2; intro c2; try simp only [noR] at c2) | (have z := (c3 : Dm); clear z c3; intro c3; try simp only [noR] at c3) | (have z := (c4 : Dm); clear z c4; intro c4; try simp only [noR] at c4) | (have z := (c5 : Dm); clear z c5; intro c5; try simp only [noR] at c5) | (have z := (c6 : Dm); clear z c6; intro c6; try simp only [noR] at c6)) <;> (try simp -implicitDefEqProofs -dsimp (maxSteps := 2000000) (disch := (first | exact dz | fail)) only [go_sem, aR, c6, c5, c4, c3, c2, c1, h0, h2, h3, h4, h5, h6, h8, word_eq])))) <;> (try with_reducible and_intros) <;> (first | exact fz | skip)
    · exact ⟨8 - (j + 1), by omega, j + 1, rfl, by rw [kindTo_succ, kindStep, if_pos rfl], by omega, rfl⟩
    · exact ⟨8 - (j + 1), by omega, j + 1, rfl, by rw [kindTo_succ, kindStep, if_neg c1], by omega, rfl⟩
  · obtain rfl : j = 8 := by omega
    have hkc : 0 ≤ kindL w ∧ kindL w ≤ 8 := by
      rcases kind_cases w with ⟨h, _⟩ | ⟨h1, h2, _⟩ <;> omega
    (have c1 : Dm := ⟨⟩; have c2 : Dm := ⟨⟩; have c3 : Dm := ⟨⟩; have c4 : Dm := ⟨⟩; have c5 : Dm := ⟨⟩; have c6 : Dm := ⟨⟩) <;> (try simp -implicitDefEqProofs -dsimp (maxSteps := 2000000) (disch := (first | exact dz | fail)) only [go_sem, aR, h0, h2, h3, h4, h5, h6, h8, kindTo_8, rightOpR_eq, refLine_eq', hc]) <;> (repeat' (first | ((with_reducible refine ds_and ?_ ?_); focus exact kz) | ((with_reducible refine And.intro ?_ ?_); focus exact oz) | ((with_reducible refine pc_and ?_ ?_); focus exact pz) | ((with_reducible first | refine gIf_t ?_ ?_ | refine gIf_f ?_ ?_ | refine ite_t ?_ ?_ | refine ite_p ?_ ?_) <;> (first | (have z := (c1 : Dm); clear z c1; intro c1; try simp only [noR] at c1) | (have z := (c2 : Dm); clear z c2; intro c2; try simp only [noR] at c2) | (have z := (c3 : Dm); clear z c3; intro c3; try simp only [noR] at c3) | (have z := (c4 : Dm); clear z c4; intro c4; try simp only [noR] at c4) | (have z := (c5 : Dm); clear z c5; intro c5; try simp only [noR] at c5) | (have z := (c6 : Dm); clear z c6; intro c6; try simp only [noR] at c6)) <;> (try simp -implicitDefEqProofs -dsimp (maxSteps := 2000000) (disch := (first | exact dz | fail)) only [go_sem, aR, c6, c5, c4, c3, c2, c1, h0, h2, h3, h4, h5, h6, h8, kindTo_8, rightOpR_eq, refLine_eq', hc])))) <;> (try with_reducible and_intros) <;> (first | exact fz | skip)
    all_goals first | (rw [hi]; simp [bo, *]) | (clear hlen hf; trace_state)
end
end Go.Proofs.YtcmjidnbbfcbjaaGreatDoor.V.L1
/- The operation that a line says, of the reference: four words; no condition. -/
namespace Go.Proofs.YtcmjidnbbfcbjaaGreatDoor.V.L1
open Go V
set_option linter.unusedVariables false
set_option linter.unusedSimpArgs false
set_option maxRecDepth 100000
set_option maxHeartbeats 4000000
noncomputable section
variable {en : Env} {m : Mem}
theorem line4_ok (s : List UInt8) (w w1 w2 w3 : List UInt8) (hc : cutL 32 s = [w, w1, w2, w3]) (hs : s.length ≤ 1000000) (hf : Fits en m.length) : WC Tryz.prog pol en (.func 61) [tx s] m fun v m' => v = .tup [.agg (opC ⟨kindL w, w1, [], (numL w2 : Int), (unqL w3).getD []⟩), bo (readL s).isSome] ∧ m' = m := by
  have hlen : ∀ x ∈ [w, w1, w2, w3], x.length ≤ 1000000 := fun x hx => by
    rw [← hc] at hx
    have := cut_mem_len hx; omega
  have hl1 := hlen w1 (by simp)
  have hl2 := hlen w2 (by simp)
  have hl3 := hlen w3 (by simp)
  have hdl : ((unqL w3).getD []).length ≤ 1000000 := by
    cases hu : unqL w3 with
    | none => simp
    | some d =>
      have h1 := congrArg List.length (unq_some hu)
      have h2 := enc_ge d
      simp [quoteL] at h1 ⊢; omega
  have hnl := num_le w2
  have ha : ansO (unqL w3) = .tup [tx ((unqL w3).getD []), I (if (unqL w3).isSome = true then 0 else 3)] := by
    cases unqL w3 <;> rfl
  have hi := isS_and (s := s) (o := ⟨kindL w, w1, [], (numL w2 : Int), (unqL w3).getD []⟩) (by rw [hc]; simp [candL])
  refine callPur Tryz.func61 rfl rfl Tryz.ntmps61 Tryz.results61 ?_
  (have hq1 : Dm := ⟨⟩; have hq2 : Dm := ⟨⟩; have hq3 : Dm := ⟨⟩; have hq4 : Dm := ⟨⟩; have hq5 : Dm := ⟨⟩; have hq6 : Dm := ⟨⟩) <;> (try simp -implicitDefEqProofs -dsimp (maxSteps := 2000000) (disch := (first | exact dz | fail)) only [go_sem, aR, stringsSplit_eq, hc]) <;> (repeat' (first | ((with_reducible refine ds_and ?_ ?_); focus exact kz) | ((with_reducible refine And.intro ?_ ?_); focus exact oz) | ((with_reducible refine pc_and ?_ ?_); focus exact pz) | ((with_reducible first | refine gIf_t ?_ ?_ | refine gIf_f ?_ ?_ | refine ite_t ?_ ?_ | refine ite_p ?_ ?_) <;> (first | (have z := (hq1 : Dm); clear z hq1; intro hq1; try simp only [noR] at hq1) | (have z := (hq2 : Dm); clear z hq2; intro hq2; try simp only [noR] at hq2) | (have z := (hq3 : Dm); clear z hq3; intro hq3; try simp only [noR] at hq3) | (have z := (hq4 : Dm); clear z hq4; intro hq4; try simp only [noR] at hq4) | (have z := (hq5 : Dm); clear z hq5; intro hq5; try simp only [noR] at hq5) | (have z := (hq6 : Dm); clear z hq6; intro hq6; try simp only [noR] at hq6)) <;> (try simp -implicitDefEqProofs -dsimp (maxSteps := 2000000) (disch := (first | exact dz | fail)) only [go_sem, aR, hq6, hq5, hq4, hq3, hq2, hq1, stringsSplit_eq, hc])))) <;> (try with_reducible and_intros) <;> (first | exact fz | skip)
  refine loopF (fun k ts m' => ∃ (j : Nat), ts.length = 60 ∧ tg ts 0 = tx s ∧ tg ts 2 = .ptr m.length (tagT 55) 0 ∧ tg ts 3 = bo false ∧ tg ts 4 = sl tx ⟨false, false, [w, w1, w2, w3]⟩ ∧ tg ts 5 = .ptr (m.length + 1) (tagT 55) 0 ∧ tg ts 6 = .sc (.int .u8 (j + 1 : Nat)) ∧
    m' = m ++ [.cells (tagT 55) [.sc (.int .u8 0), tx [], tx [], I 0, tx []], .cells (tagT 55) [.sc (.int .u8 (kindTo w j)), tx [], tx [], I 0, tx []]] ∧ j ≤ 8 ∧ k = 8 - j) 8 ⟨0, rfl, rfl, rfl, rfl, rfl, rfl, rfl, rfl, by omega, by omega⟩ ?_
  rintro k ts m' ⟨j, hl, h0, h2, h3, h4, h5, h6, rfl, hj, rfl⟩
  rw [expandT hl]
  by_cases h8 : ((j + 1 : Nat) : Int) ≤ 8
  · (have c1 : Dm := ⟨⟩; have c2 : Dm := ⟨⟩; have c3 : Dm := ⟨⟩; have c4 : Dm := ⟨⟩; have c5 : Dm := ⟨⟩; have c6 : Dm := ⟨⟩) <;> (try simp -implicitDefEqProofs -dsimp (maxSteps := 2000000) (disch := (first | exact dz | fail)) only [go_sem, aR, h0, h2, h3, h4, h5, h6, h8, word_eq]) <;> (repeat' (first | ((with_reducible refine ds_and ?_ ?_); focus exact kz) | ((with_reducible refine And.intro ?_ ?_); focus exact oz) | ((with_reducible refine pc_and ?_ ?_); focus exact pz) | ((with_reducible first | refine gIf_t ?_ ?_ | refine gIf_f ?_ ?_ | refine ite_t ?_ ?_ | refine ite_p ?_ ?_) <;> (first | (have z := (c1 : Dm); clear z c1; intro c1; try simp only [noR] at c1) | (have z := (c2 : Dm); clear z c2; intro c2; try simp only [noR] at c2) | (have z := (c3 : Dm); clear z c3; intro c3; try simp only [noR] at c3) | (have z := (c4 : Dm); clear z c4; intro c4; try simp only [noR] at c4) | (have z := (c5 : Dm); clear z c5; intro c5; try simp only [noR] at c5) | (have z := (c6 : Dm); clear z c6; intro c6; try simp only [noR] at c6)) <;> (try simp -implicitDefEqProofs -dsimp (maxSteps := 2000000) (disch := (first | exact dz | fail)) only [go_sem, aR, c6, c5, c4, c3, c2, c1, h0, h2, h3, h4, h5, h6, h8, word_eq])))) <;> (try with_reducible and_intros) <;> (first | exact fz | skip)
    · exact ⟨8 - (j + 1), by omega, j + 1, rfl, by rw [kindTo_succ, kindStep, if_pos rfl], by omega, rfl⟩
    · exact ⟨8 - (j + 1), by omega, j + 1, rfl, by rw [kindTo_succ, kindStep, if_neg c1], by omega, rfl⟩
  · obtain rfl : j = 8 := by omega
    have hkc : 0 ≤ kindL w ∧ kindL w ≤ 8 := by
      rcases kind_cases w with ⟨h, _⟩ | ⟨h1, h2, _⟩ <;> omega
    (have c1 : Dm := ⟨⟩; have c2 : Dm := ⟨⟩; have c3 : Dm := ⟨⟩; have c4 : Dm := ⟨⟩; have c5 : Dm := ⟨⟩; have c6 : Dm := ⟨⟩) <;> (try simp -implicitDefEqProofs -dsimp (maxSteps := 2000000) (disch := (first | exact dz | fail)) only [go_sem, aR, h0, h2, h3, h4, h5, h6, h8, kindTo_8, rightOpR_eq, refLine_eq', number_eq, refUnquote_eq, ha]) <;> (repeat' (first | ((with_reducible refine ds_and ?_ ?_); focus exact kz) | ((with_reducible refine And.intro ?_ ?_); focus exact oz) | ((with_reducible refine pc_and ?_ ?_); focus exact pz) | ((with_reducible first | refine gIf_t ?_ ?_ | refine gIf_f ?_ ?_ | refine ite_t ?_ ?_ | refine ite_p ?_ ?_) <;> (first | (have z := (c1 : Dm); clear z c1; intro c1; try simp only [noR] at c1) | (have z := (c2 : Dm); clear z c2; intro c2; try simp only [noR] at c2) | (have z := (c3 : Dm); clear z c3; intro c3; try simp only [noR] at c3) | (have z := (c4 : Dm); clear z c4; intro c4; try simp only [noR] at c4) | (have z := (c5 : Dm); clear z c5; intro c5; try simp only [noR] at c5) | (have z := (c6 : Dm); clear z c6; intro c6; try simp only [noR] at c6)) <;> (try simp -implicitDefEqProofs -dsimp (maxSteps := 2000000) (disch := (first | exact dz | fail)) only [go_sem, aR, c6, c5, c4, c3, c2, c1, h0, h2, h3, h4, h5, h6, h8, kindTo_8, rightOpR_eq, refLine_eq', number_eq, refUnquote_eq, ha])))) <;> (try with_reducible and_intros) <;> (first | exact fz | skip)
    all_goals first | (rw [hi]; simp [bo, *]) | (clear hlen hf; trace_state)
end
end Go.Proofs.YtcmjidnbbfcbjaaGreatDoor.V.L1
/- The operation that a line says, of the reference: more words; no condition. -/
namespace Go.Proofs.YtcmjidnbbfcbjaaGreatDoor.V.L1
open Go V
set_option linter.unusedVariables false
set_option linter.unusedSimpArgs false
set_option maxRecDepth 100000
set_option maxHeartbeats 4000000
noncomputable section
variable {en : Env} {m : Mem}
theorem line5_ok (s : List UInt8) (w w1 w2 w3 w4 : List UInt8) (ws : List (List UInt8)) (hc : cutL 32 s = w :: w1 :: w2 :: w3 :: w4 :: ws) (hs : s.length ≤ 1000000) (hf : Fits en m.length) : WC Tryz.prog pol en (.func 61) [tx s] m fun v m' => v = .tup [.agg (opC ⟨kindL w, w1, [], 0, []⟩), bo (readL s).isSome] ∧ m' = m := by
  have hlen : ∀ x ∈ w :: w1 :: w2 :: w3 :: w4 :: ws, x.length ≤ 1000000 := fun x hx => by
    rw [← hc] at hx
    have := cut_mem_len hx; omega
  have q1 : (1 : Int) < ((ws.length + 1 + 1 + 1 + 1 + 1 : Nat) : Int) := by omega
  have q3 : ¬ ((ws.length + 1 + 1 + 1 + 1 + 1 : Nat) : Int) = 3 := by omega
  have q4 : ¬ ((ws.length + 1 + 1 + 1 + 1 + 1 : Nat) : Int) = 4 := by omega
  have hl1 := hlen w1 (by simp)
  have hi := isS_and (s := s) (o := ⟨kindL w, w1, [], 0, []⟩) (by rw [hc]; simp [candL])
  refine callPur Tryz.func61 rfl rfl Tryz.ntmps61 Tryz.results61 ?_
  (have hq1 : Dm := ⟨⟩; have hq2 : Dm := ⟨⟩; have hq3 : Dm := ⟨⟩; have hq4 : Dm := ⟨⟩; have hq5 : Dm := ⟨⟩; have hq6 : Dm := ⟨⟩) <;> (try simp -implicitDefEqProofs -dsimp (maxSteps := 2000000) (disch := (first | exact dz | fail)) only [go_sem, aR, stringsSplit_eq, hc]) <;> (repeat' (first | ((with_reducible refine ds_and ?_ ?_); focus exact kz) | ((with_reducible refine And.intro ?_ ?_); focus exact oz) | ((with_reducible refine pc_and ?_ ?_); focus exact pz) | ((with_reducible first | refine gIf_t ?_ ?_ | refine gIf_f ?_ ?_ | refine ite_t ?_ ?_ | refine ite_p ?_ ?_) <;> (first | (have z := (hq1 : Dm); clear z hq1; intro hq1; try simp only [noR] at hq1) | (have z := (hq2 : Dm); clear z hq2; intro hq2; try simp only [noR] at hq2) | (have z := (hq3 : Dm); clear z hq3; intro hq3; try simp only [noR] at hq3) | (have z := (hq4 : Dm); clear z hq4; intro hq4; try simp only [noR] at hq4) | (have z := (hq5 : Dm); clear z hq5; intro hq5; try simp only [noR] at hq5) | (have z := (hq6 : Dm); clear z hq6; intro hq6; try simp only [noR] at hq6)) <;> (try simp -implicitDefEqProofs -dsimp (maxSteps := 2000000) (disch := (first | exact dz | fail)) only [go_sem, aR, hq6, hq5, hq4, hq3, hq2, hq1, stringsSplit_eq, hc])))) <;> (try with_reducible and_intros) <;> (first | exact fz | skip)
  refine loopF (fun k ts m' => ∃ (j : Nat), ts.length = 60 ∧ tg ts 0 = tx s ∧ tg ts 2 = .ptr m.length (tagT 55) 0 ∧ tg ts 3 = bo false ∧ tg ts 4 = sl tx ⟨false, false, w :: w1 :: w2 :: w3 :: w4 :: ws⟩ ∧ tg ts 5 = .ptr (m.length + 1) (tagT 55) 0 ∧ tg ts 6 = .sc (.int .u8 (j + 1 : Nat)) ∧
    m' = m ++ [.cells (tagT 55) [.sc (.int .u8 0), tx [], tx [], I 0, tx []], .cells (tagT 55) [.sc (.int .u8 (kindTo w j)), tx [], tx [], I 0, tx []]] ∧ j ≤ 8 ∧ k = 8 - j) 8 ⟨0, rfl, rfl, rfl, rfl, rfl, rfl, rfl, rfl, by omega, by omega⟩ ?_
  rintro k ts m' ⟨j, hl, h0, h2, h3, h4, h5, h6, rfl, hj, rfl⟩
  rw [expandT hl]
  by_cases h8 : ((j + 1 : Nat) : Int) ≤ 8
  · (have c1 : Dm := ⟨⟩; have c2 : Dm := ⟨⟩; have c3 : Dm := ⟨⟩; have c4 : Dm := ⟨⟩; have c5 : Dm := ⟨⟩; have c6 : Dm := ⟨⟩) <;> (try simp -implicitDefEqProofs -dsimp (maxSteps := 2000000) (disch := (first | exact dz | fail)) only [go_sem, aR, h0, h2, h3, h4, h5, h6, h8, word_eq]) <;> (repeat' (first | ((with_reducible refine ds_and ?_ ?_); focus exact kz) | ((with_reducible refine And.intro ?_ ?_); focus exact oz) | ((with_reducible refine pc_and ?_ ?_); focus exact pz) | ((with_reducible first | refine gIf_t ?_ ?_ | refine gIf_f ?_ ?_ | refine ite_t ?_ ?_ | refine ite_p ?_ ?_) <;> (first | (have z := (c1 : Dm); clear z c1; intro c1; try simp only [noR] at c1) | (have z := (c2 : Dm); clear z c2; intro c2; try simp only [noR] at c2) | (have z := (c3 : Dm); clear z c3; intro c3; try simp only [noR] at c3) | (have z := (c4 : Dm); clear z c4; intro c4; try simp only [noR] at c4) | (have z := (c5 : Dm); clear z c5; intro c5; try simp only [noR] at c5) | (have z := (c6 : Dm); clear z c6; intro c6; try simp only [noR] at c6)) <;> (try simp -implicitDefEqProofs -dsimp (maxSteps := 2000000) (disch := (first | exact dz | fail)) only [go_sem, aR, c6, c5, c4, c3, c2, c1, h0, h2, h3, h4, h5, h6, h8, word_eq])))) <;> (try with_reducible and_intros) <;> (first | exact fz | skip)
    · exact ⟨8 - (j + 1), by omega, j + 1, rfl, by rw [kindTo_succ, kindStep, if_pos rfl], by omega, rfl⟩
    · exact ⟨8 - (j + 1), by omega, j + 1, rfl, by rw [kindTo_succ, kindStep, if_neg c1], by omega, rfl⟩
  · obtain rfl : j = 8 := by omega
    have hkc : 0 ≤ kindL w ∧ kindL w ≤ 8 := by
      rcases kind_cases w with ⟨h, _⟩ | ⟨h1, h2, _⟩ <;> omega
    (have c1 : Dm := ⟨⟩; have c2 : Dm := ⟨⟩; have c3 : Dm := ⟨⟩; have c4 : Dm := ⟨⟩; have c5 : Dm := ⟨⟩; have c6 : Dm := ⟨⟩) <;> (try simp -implicitDefEqProofs -dsimp (maxSteps := 2000000) (disch := (first | exact dz | fail)) only [go_sem, aR, h0, h2, h3, h4, h5, h6, h8, kindTo_8, rightOpR_eq, refLine_eq', q1, q3, q4]) <;> (repeat' (first | ((with_reducible refine ds_and ?_ ?_); focus exact kz) | ((with_reducible refine And.intro ?_ ?_); focus exact oz) | ((with_reducible refine pc_and ?_ ?_); focus exact pz) | ((with_reducible first | refine gIf_t ?_ ?_ | refine gIf_f ?_ ?_ | refine ite_t ?_ ?_ | refine ite_p ?_ ?_) <;> (first | (have z := (c1 : Dm); clear z c1; intro c1; try simp only [noR] at c1) | (have z := (c2 : Dm); clear z c2; intro c2; try simp only [noR] at c2) | (have z := (c3 : Dm); clear z c3; intro c3; try simp only [noR] at c3) | (have z := (c4 : Dm); clear z c4; intro c4; try simp only [noR] at c4) | (have z := (c5 : Dm); clear z c5; intro c5; try simp only [noR] at c5) | (have z := (c6 : Dm); clear z c6; intro c6; try simp only [noR] at c6)) <;> (try simp -implicitDefEqProofs -dsimp (maxSteps := 2000000) (disch := (first | exact dz | fail)) only [go_sem, aR, c6, c5, c4, c3, c2, c1, h0, h2, h3, h4, h5, h6, h8, kindTo_8, rightOpR_eq, refLine_eq', q1, q3, q4])))) <;> (try with_reducible and_intros) <;> (first | exact fz | skip)
    all_goals first | (rw [hi]; simp [bo, *]) | (clear hlen hf; trace_state)
end
end Go.Proofs.YtcmjidnbbfcbjaaGreatDoor.V.L1
/- The operation that a line says, of the reference; no condition. -/
namespace Go.Proofs.YtcmjidnbbfcbjaaGreatDoor.V.L1
open Go V
set_option linter.unusedVariables false
set_option linter.unusedSimpArgs false
set_option maxRecDepth 100000
set_option maxHeartbeats 4000000
noncomputable section
variable {en : Env} {m : Mem}
theorem readLine_ok (s : List UInt8) (hs : s.length ≤ 1000000) (hf : Fits en m.length) : WC Tryz.prog pol en (.func 61) [tx s] m fun v m' => v = .tup [.agg (opC (candL (cutL 32 s))), bo (readL s).isSome] ∧ m' = m := by
  obtain ⟨w, ws, hc⟩ := cut_cons 32 s
  rcases ws with _ | ⟨w1, _ | ⟨w2, _ | ⟨w3, _ | ⟨w4, ws⟩⟩⟩⟩
  · rw [show candL (cutL 32 s) = ⟨kindL w, [], [], 0, []⟩ by rw [hc]; simp [candL]]; exact line1_ok s w hc hs hf
  · rw [show candL (cutL 32 s) = ⟨kindL w, w1, [], 0, []⟩ by rw [hc]; simp [candL]]; exact line2_ok s w w1 hc hs hf
  · rw [show candL (cutL 32 s) = ⟨kindL w, w1, w2, 0, []⟩ by rw [hc]; simp [candL]]; exact line3_ok s w w1 w2 hc hs hf
  · rw [show candL (cutL 32 s) = ⟨kindL w, w1, [], (numL w2 : Int), (unqL w3).getD []⟩ by rw [hc]; simp [candL]]; exact line4_ok s w w1 w2 w3 hc hs hf
  · rw [show candL (cutL 32 s) = ⟨kindL w, w1, [], 0, []⟩ by rw [hc]; simp [candL]]; exact line5_ok s w w1 w2 w3 w4 ws hc hs hf
end
end Go.Proofs.YtcmjidnbbfcbjaaGreatDoor.V.L1
/- The operations that lines say, of the reference; no condition. -/
namespace Go.Proofs.YtcmjidnbbfcbjaaGreatDoor.V
open Go
set_option linter.unusedVariables false
set_option linter.unusedSimpArgs false
set_option maxRecDepth 100000
set_option maxHeartbeats 4000000
noncomputable section
variable {en : Env} {m : Mem}
theorem parse_all (s : List UInt8) : parseL s = if (cutL 10 s).getLast? = some [] ∧ (cutL 10 s).length ≤ 513 then readsL (cutL 10 s).dropLast else none := by
  unfold parseL
  by_cases h : s = []
  · subst h; simp [cutL, readsL]
  · rw [if_neg h]
theorem reads_some {s : List UInt8} {o : Pn} (h : readL s = some o) : o = candL (cutL 32 s) := by
  unfold readL at h
  split at h
  · exact (Option.some.inj h).symm
  · cases h
end
end Go.Proofs.YtcmjidnbbfcbjaaGreatDoor.V
namespace Go.Proofs.YtcmjidnbbfcbjaaGreatDoor.V.L1
open Go V
set_option linter.unusedVariables false
set_option linter.unusedSimpArgs false
set_option maxRecDepth 100000
set_option maxHeartbeats 4000000
noncomputable section
variable {en : Env} {m : Mem}
theorem refParse_ok (s : List UInt8) (hs : s.length ≤ 1000000) (hf : Fits en m.length) : WC Tryz.prog pol en (.func 25) [tx s] m fun v m' => ∃ x : Sl Pn, v = .tup [slf opC x, I (if (parseL s).isSome = true then 0 else 3)] ∧ x.l = (parseL s).getD [] ∧ m' = m := by
  have hcl := cut_len 10 s
  have hcm := fun x (hx : x ∈ cutL 10 s) => cut_mem_len hx
  have hc0 : cutL 10 s ≠ [] := cut_ne 10 s
  refine callPur Tryz.func25 rfl rfl Tryz.ntmps25 Tryz.results25 ?_
  rw [parse_all]
  have hq : ∀ en m Q, WC Tryz.prog pol en (.func 59) [tx s, tx [10]] m Q = Q (sl tx ⟨false, false, cutL 10 s⟩) m := fun en m Q => stringsSplit_eq s 10 m Q (by omega)
  generalize cutL 10 s = ls at *
  have hl0 : 0 < ls.length := List.length_pos_iff.2 hc0
  have hw : IntKind.i64.wrap ((ls.length : Int) - 1) = ((ls.length - 1 : Nat) : Int) := by rw [i64w (by omega)]; omega
  obtain ⟨z, hz⟩ : ∃ z, ls[ls.length - 1]? = some z := ⟨_, List.getElem?_eq_getElem (by omega)⟩
  have hzl : ls.getLast? = some z := by rw [List.getLast?_eq_getElem?]; exact hz
  have hdl : ls.dropLast.length = ls.length - 1 := List.length_dropLast
  by_cases h513 : (513 : Int) < (ls.length : Int)
  · (have c1 : Dm := ⟨⟩; have c2 : Dm := ⟨⟩; have c3 : Dm := ⟨⟩; have c4 : Dm := ⟨⟩; have c5 : Dm := ⟨⟩; have c6 : Dm := ⟨⟩) <;> (try simp -implicitDefEqProofs -dsimp (maxSteps := 2000000) (disch := (first | exact dz | fail)) only [go_sem, aR, hq, h513]) <;> (repeat' (first | ((with_reducible refine ds_and ?_ ?_); focus exact kz) | ((with_reducible refine And.intro ?_ ?_); focus exact oz) | ((with_reducible refine pc_and ?_ ?_); focus exact pz) | ((with_reducible first | refine gIf_t ?_ ?_ | refine gIf_f ?_ ?_ | refine ite_t ?_ ?_ | refine ite_p ?_ ?_) <;> (first | (have z := (c1 : Dm); clear z c1; intro c1; try simp only [noR] at c1) | (have z := (c2 : Dm); clear z c2; intro c2; try simp only [noR] at c2) | (have z := (c3 : Dm); clear z c3; intro c3; try simp only [noR] at c3) | (have z := (c4 : Dm); clear z c4; intro c4; try simp only [noR] at c4) | (have z := (c5 : Dm); clear z c5; intro c5; try simp only [noR] at c5) | (have z := (c6 : Dm); clear z c6; intro c6; try simp only [noR] at c6)) <;> (try simp -implicitDefEqProofs -dsimp (maxSteps := 2000000) (disch := (first | exact dz | fail)) only [go_sem, aR, c6, c5, c4, c3, c2, c1, hq, h513])))) <;> (try with_reducible and_intros) <;> (first | exact fz | skip)
    have hp : (if ls.getLast? = some [] ∧ ls.length ≤ 513 then readsL ls.dropLast else none) = none := if_neg fun h => by omega
    exact ⟨⟨true, false, []⟩, by rw [hp]; rfl, by rw [hp]; rfl⟩
  by_cases hz0 : z = []
  · subst hz0
    have hp : (if ls.getLast? = some [] ∧ ls.length ≤ 513 then readsL ls.dropLast else none) = readsL ls.dropLast := if_pos ⟨hzl, by omega⟩
    rw [hp]
    have hdg : ∀ j, j < ls.length - 1 → ls.dropLast[j]? = ls[j]? := fun j hj => by rw [List.getElem?_dropLast, if_pos hj]
    have hf' : Fits ⟨m.length :: en.bases, m.length⟩ m.length := hf.pur
    (have c1 : Dm := ⟨⟩; have c2 : Dm := ⟨⟩; have c3 : Dm := ⟨⟩; have c4 : Dm := ⟨⟩; have c5 : Dm := ⟨⟩; have c6 : Dm := ⟨⟩) <;> (try simp -implicitDefEqProofs -dsimp (maxSteps := 2000000) (disch := (first | exact dz | fail)) only [go_sem, aR, hq, h513, hw, hz]) <;> (repeat' (first | ((with_reducible refine ds_and ?_ ?_); focus exact kz) | ((with_reducible refine And.intro ?_ ?_); focus exact oz) | ((with_reducible refine pc_and ?_ ?_); focus exact pz) | ((with_reducible first | refine gIf_t ?_ ?_ | refine gIf_f ?_ ?_ | refine ite_t ?_ ?_ | refine ite_p ?_ ?_) <;> (first | (have z := (c1 : Dm); clear z c1; intro c1; try simp only [noR] at c1) | (have z := (c2 : Dm); clear z c2; intro c2; try simp only [noR] at c2) | (have z := (c3 : Dm); clear z c3; intro c3; try simp only [noR] at c3) | (have z := (c4 : Dm); clear z c4; intro c4; try simp only [noR] at c4) | (have z := (c5 : Dm); clear z c5; intro c5; try simp only [noR] at c5) | (have z := (c6 : Dm); clear z c6; intro c6; try simp only [noR] at c6)) <;> (try simp -implicitDefEqProofs -dsimp (maxSteps := 2000000) (disch := (first | exact dz | fail)) only [go_sem, aR, c6, c5, c4, c3, c2, c1, hq, h513, hw, hz])))) <;> (try with_reducible and_intros) <;> (first | exact fz | skip)
    refine loopF (fun k ts m' => ∃ (i : Nat) (L : List Pn) (v : AV), ts.length = 45 ∧ tg ts 4 = sl tx ⟨false, false, ls⟩ ∧ tg ts 5 = kv v ∧ tg ts 6 = I i ∧ RW opC m.length L v m' ∧ L.length = i ∧ Reads ls L i ∧ i + 1 ≤ ls.length ∧ k = ls.length - 1 - i) (ls.length - 1) ⟨0, [], _, rfl, rfl, rfl, rfl, RW.nil (Nat.le_refl _), rfl, fun j s h => by omega, by omega, by omega⟩ ?_
    rintro k ts m' ⟨i, L, v, hl, h4, h5, h6, hR, hL, hr, hi, rfl⟩
    have hml := hR.le
    rw [expandT hl]
    by_cases hlt : (i : Int) < ((ls.length - 1 : Nat) : Int)
    · obtain ⟨w, hww⟩ : ∃ w, ls[i]? = some w := ⟨_, List.getElem?_eq_getElem (by omega)⟩
      have hwl := hcm w (List.mem_of_getElem? hww)
      (have c1 : Dm := ⟨⟩; have c2 : Dm := ⟨⟩; have c3 : Dm := ⟨⟩; have c4 : Dm := ⟨⟩; have c5 : Dm := ⟨⟩; have c6 : Dm := ⟨⟩) <;> (try simp -implicitDefEqProofs -dsimp (maxSteps := 2000000) (disch := (first | exact dz | fail)) only [go_sem, aR, h4, h5, h6, hw, hlt, hww]) <;> (repeat' (first | ((with_reducible refine ds_and ?_ ?_); focus exact kz) | ((with_reducible refine And.intro ?_ ?_); focus exact oz) | ((with_reducible refine pc_and ?_ ?_); focus exact pz) | ((with_reducible first | refine gIf_t ?_ ?_ | refine gIf_f ?_ ?_ | refine ite_t ?_ ?_ | refine ite_p ?_ ?_) <;> (first | (have z := (c1 : Dm); clear z c1; intro c1; try simp only [noR] at c1) | (have z := (c2 : Dm); clear z c2; intro c2; try simp only [noR] at c2) | (have z := (c3 : Dm); clear z c3; intro c3; try simp only [noR] at c3) | (have z := (c4 : Dm); clear z c4; intro c4; try simp only [noR] at c4) | (have z := (c5 : Dm); clear z c5; intro c5; try simp only [noR] at c5) | (have z := (c6 : Dm); clear z c6; intro c6; try simp only [noR] at c6)) <;> (try simp -implicitDefEqProofs -dsimp (maxSteps := 2000000) (disch := (first | exact dz | fail)) only [go_sem, aR, c6, c5, c4, c3, c2, c1, h4, h5, h6, hw, hlt, hww])))) <;> (try with_reducible and_intros) <;> (first | exact fz | skip)
      refine (readLine_ok w (by omega) (Fits.up hf' hml)).mono ?_
      rintro _ _ ⟨rfl, rfl⟩
      cases hrd : readL w with
      | none =>
        (have c1 : Dm := ⟨⟩; have c2 : Dm := ⟨⟩; have c3 : Dm := ⟨⟩; have c4 : Dm := ⟨⟩; have c5 : Dm := ⟨⟩; have c6 : Dm := ⟨⟩) <;> (try simp -implicitDefEqProofs -dsimp (maxSteps := 2000000) (disch := (first | exact dz | fail)) only [go_sem, aR, Option.isSome_none]) <;> (repeat' (first | ((with_reducible refine ds_and ?_ ?_); focus exact kz) | ((with_reducible refine And.intro ?_ ?_); focus exact oz) | ((with_reducible refine pc_and ?_ ?_); focus exact pz) | ((with_reducible first | refine gIf_t ?_ ?_ | refine gIf_f ?_ ?_ | refine ite_t ?_ ?_ | refine ite_p ?_ ?_) <;> (first | (have z := (c1 : Dm); clear z c1; intro c1; try simp only [noR] at c1) | (have z := (c2 : Dm); clear z c2; intro c2; try simp only [noR] at c2) | (have z := (c3 : Dm); clear z c3; intro c3; try simp only [noR] at c3) | (have z := (c4 : Dm); clear z c4; intro c4; try simp only [noR] at c4) | (have z := (c5 : Dm); clear z c5; intro c5; try simp only [noR] at c5) | (have z := (c6 : Dm); clear z c6; intro c6; try simp only [noR] at c6)) <;> (try simp -implicitDefEqProofs -dsimp (maxSteps := 2000000) (disch := (first | exact dz | fail)) only [go_sem, aR, c6, c5, c4, c3, c2, c1, Option.isSome_none])))) <;> (try with_reducible and_intros) <;> (first | exact fz | skip)
        have hb := reads_bad (l := ls.dropLast) (i := i) (s := w) (by rw [hdg i (by omega)]; exact hww) hrd
        exact ⟨⟨true, false, []⟩, by rw [hb]; rfl, by rw [hb]; rfl⟩
      | some o =>
        have hco := reads_some hrd
        (have c1 : Dm := ⟨⟩; have c2 : Dm := ⟨⟩; have c3 : Dm := ⟨⟩; have c4 : Dm := ⟨⟩; have c5 : Dm := ⟨⟩; have c6 : Dm := ⟨⟩) <;> (try simp -implicitDefEqProofs -dsimp (maxSteps := 2000000) (disch := (first | exact dz | fail)) only [go_sem, aR, Option.isSome_some]) <;> (repeat' (first | ((with_reducible refine ds_and ?_ ?_); focus exact kz) | ((with_reducible refine And.intro ?_ ?_); focus exact oz) | ((with_reducible refine pc_and ?_ ?_); focus exact pz) | ((with_reducible first | refine gIf_t ?_ ?_ | refine gIf_f ?_ ?_ | refine ite_t ?_ ?_ | refine ite_p ?_ ?_) <;> (first | (have z := (c1 : Dm); clear z c1; intro c1; try simp only [noR] at c1) | (have z := (c2 : Dm); clear z c2; intro c2; try simp only [noR] at c2) | (have z := (c3 : Dm); clear z c3; intro c3; try simp only [noR] at c3) | (have z := (c4 : Dm); clear z c4; intro c4; try simp only [noR] at c4) | (have z := (c5 : Dm); clear z c5; intro c5; try simp only [noR] at c5) | (have z := (c6 : Dm); clear z c6; intro c6; try simp only [noR] at c6)) <;> (try simp -implicitDefEqProofs -dsimp (maxSteps := 2000000) (disch := (first | exact dz | fail)) only [go_sem, aR, c6, c5, c4, c3, c2, c1, Option.isSome_some])))) <;> (try with_reducible and_intros) <;> (first | exact fz | skip)
        refine (hR.push _).app (candL (cutL 32 w)) rfl (Fits.upPur hf (Nat.le_refl _)) (Nat.le_refl _) (by omega) (by omega) ?_
        intro r v' m'' hr' _ _ hrs
        (have d1 : Dm := ⟨⟩; have d2 : Dm := ⟨⟩; have d3 : Dm := ⟨⟩; have d4 : Dm := ⟨⟩; have d5 : Dm := ⟨⟩; have d6 : Dm := ⟨⟩) <;> (try simp -implicitDefEqProofs -dsimp (maxSteps := 2000000) (disch := (first | exact dz | fail)) only [go_sem, aR, ]) <;> (repeat' (first | ((with_reducible refine ds_and ?_ ?_); focus exact kz) | ((with_reducible refine And.intro ?_ ?_); focus exact oz) | ((with_reducible refine pc_and ?_ ?_); focus exact pz) | ((with_reducible first | refine gIf_t ?_ ?_ | refine gIf_f ?_ ?_ | refine ite_t ?_ ?_ | refine ite_p ?_ ?_) <;> (first | (have z := (d1 : Dm); clear z d1; intro d1; try simp only [noR] at d1) | (have z := (d2 : Dm); clear z d2; intro d2; try simp only [noR] at d2) | (have z := (d3 : Dm); clear z d3; intro d3; try simp only [noR] at d3) | (have z := (d4 : Dm); clear z d4; intro d4; try simp only [noR] at d4) | (have z := (d5 : Dm); clear z d5; intro d5; try simp only [noR] at d5) | (have z := (d6 : Dm); clear z d6; intro d6; try simp only [noR] at d6)) <;> (try simp -implicitDefEqProofs -dsimp (maxSteps := 2000000) (disch := (first | exact dz | fail)) only [go_sem, aR, d6, d5, d4, d3, d2, d1])))) <;> (try with_reducible and_intros) <;> (first | exact fz | skip)
        refine ⟨ls.length - 1 - (i + 1), by omega, i + 1, L ++ [candL (cutL 32 w)], v', rfl, rfl, hr', by simp [hL], fun j s hj hs => ?_, by omega, rfl⟩
        by_cases hji : j = i
        · subst hji
          rw [hww] at hs; cases hs
          exact ⟨o, hrd, by rw [List.getElem?_append_right (by omega), hL, Nat.sub_self, hco]; rfl⟩
        · obtain ⟨o2, h1, h2⟩ := hr j s (by omega) hs
          exact ⟨o2, h1, by rw [List.getElem?_append_left (by omega)]; exact h2⟩
    · have hrl : readsL ls.dropLast = some L := reads_good (by omega) fun j s o hs ho => by
        have hj := (List.getElem?_eq_some_iff.1 hs).1
        rw [hdg j (by omega)] at hs
        obtain ⟨o2, h1, h2⟩ := hr j s (by omega) hs
        rw [ho] at h2; cases h2; exact h1
      rw [hrl]
      (have c1 : Dm := ⟨⟩; have c2 : Dm := ⟨⟩; have c3 : Dm := ⟨⟩; have c4 : Dm := ⟨⟩; have c5 : Dm := ⟨⟩; have c6 : Dm := ⟨⟩) <;> (try simp -implicitDefEqProofs -dsimp (maxSteps := 2000000) (disch := (first | exact dz | fail)) only [go_sem, aR, h4, h5, h6, hw, hlt, hR.frz]) <;> (repeat' (first | ((with_reducible refine ds_and ?_ ?_); focus exact kz) | ((with_reducible refine And.intro ?_ ?_); focus exact oz) | ((with_reducible refine pc_and ?_ ?_); focus exact pz) | ((with_reducible first | refine gIf_t ?_ ?_ | refine gIf_f ?_ ?_ | refine ite_t ?_ ?_ | refine ite_p ?_ ?_) <;> (first | (have z := (c1 : Dm); clear z c1; intro c1; try simp only [noR] at c1) | (have z := (c2 : Dm); clear z c2; intro c2; try simp only [noR] at c2) | (have z := (c3 : Dm); clear z c3; intro c3; try simp only [noR] at c3) | (have z := (c4 : Dm); clear z c4; intro c4; try simp only [noR] at c4) | (have z := (c5 : Dm); clear z c5; intro c5; try simp only [noR] at c5) | (have z := (c6 : Dm); clear z c6; intro c6; try simp only [noR] at c6)) <;> (try simp -implicitDefEqProofs -dsimp (maxSteps := 2000000) (disch := (first | exact dz | fail)) only [go_sem, aR, c6, c5, c4, c3, c2, c1, h4, h5, h6, hw, hlt, hR.frz])))) <;> (try with_reducible and_intros) <;> (first | exact fz | skip)
      exact ⟨_, rfl, rfl⟩
  · have hp : (if ls.getLast? = some [] ∧ ls.length ≤ 513 then readsL ls.dropLast else none) = none := if_neg (by rw [hzl]; simp [hz0])
    rw [hp]
    (have c1 : Dm := ⟨⟩; have c2 : Dm := ⟨⟩; have c3 : Dm := ⟨⟩; have c4 : Dm := ⟨⟩; have c5 : Dm := ⟨⟩; have c6 : Dm := ⟨⟩) <;> (try simp -implicitDefEqProofs -dsimp (maxSteps := 2000000) (disch := (first | exact dz | fail)) only [go_sem, aR, hq, h513, hw, hz, hz0]) <;> (repeat' (first | ((with_reducible refine ds_and ?_ ?_); focus exact kz) | ((with_reducible refine And.intro ?_ ?_); focus exact oz) | ((with_reducible refine pc_and ?_ ?_); focus exact pz) | ((with_reducible first | refine gIf_t ?_ ?_ | refine gIf_f ?_ ?_ | refine ite_t ?_ ?_ | refine ite_p ?_ ?_) <;> (first | (have z := (c1 : Dm); clear z c1; intro c1; try simp only [noR] at c1) | (have z := (c2 : Dm); clear z c2; intro c2; try simp only [noR] at c2) | (have z := (c3 : Dm); clear z c3; intro c3; try simp only [noR] at c3) | (have z := (c4 : Dm); clear z c4; intro c4; try simp only [noR] at c4) | (have z := (c5 : Dm); clear z c5; intro c5; try simp only [noR] at c5) | (have z := (c6 : Dm); clear z c6; intro c6; try simp only [noR] at c6)) <;> (try simp -implicitDefEqProofs -dsimp (maxSteps := 2000000) (disch := (first | exact dz | fail)) only [go_sem, aR, c6, c5, c4, c3, c2, c1, hq, h513, hw, hz, hz0])))) <;> (try with_reducible and_intros) <;> (first | exact fz | skip)
    exact ⟨⟨true, false, []⟩, rfl, rfl⟩
end
end Go.Proofs.YtcmjidnbbfcbjaaGreatDoor.V.L1
/- DeltaPrints in the VM; no condition. -/
namespace Go.Proofs.YtcmjidnbbfcbjaaGreatDoor.V
open Go
set_option linter.unusedVariables false
set_option linter.unusedSimpArgs false
set_option maxRecDepth 100000
set_option maxHeartbeats 4000000
noncomputable section
variable {en : Env} {m : Mem}
theorem FitP.some {t : Sl Pn} (h : FitP t.l) : FitP (if 40 < t.l.length then t.sub 0 40 else t).l := by
  split
  · have hm : ∀ o ∈ (t.sub 0 40).l, o ∈ t.l := fun o ho => by
      simp only [Sl.sub] at ho
      exact List.mem_of_mem_drop (List.mem_of_mem_take ho)
    exact ⟨fun o ho => h.path o (hm o ho), fun o ho => h.other o (hm o ho), fun o ho => h.data o (hm o ho)⟩
  · exact h
theorem some_len {t : Sl Pn} (h : t.l.length ≤ 1048576) : (if 40 < t.l.length then t.sub 0 40 else t).l.length ≤ 1048576 := by
  split
  · simp [Sl.sub]; omega
  · exact h
theorem reads_len : ∀ {ls : List (List UInt8)} {os : List Pn}, readsL ls = some os → os.length = ls.length
  | [], os, h => by simp [readsL] at h; subst h; rfl
  | s :: ls, os, h => by
    unfold readsL at h
    split at h
    · rename_i o os' h1 h2
      cases h
      simp [reads_len h2]
    · cases h
theorem parse_few {s : List UInt8} {os : List Pn} (h : parseL s = some os) : os.length ≤ 513 := by
  rw [parse_all] at h
  split at h
  · have := reads_len h
    rw [List.length_dropLast] at this
    omega
  · cases h
end
end Go.Proofs.YtcmjidnbbfcbjaaGreatDoor.V
namespace Go.Proofs.YtcmjidnbbfcbjaaGreatDoor.V.L1
open Go V
set_option linter.unusedVariables false
set_option linter.unusedSimpArgs false
set_option maxRecDepth 100000
set_option maxHeartbeats 4000000
noncomputable section
variable {en : Env} {m : Mem}
theorem live_eq (m : Mem) (Q : AV → Mem → Prop) : WC Tryz.prog pol en (.func 13) [] m Q = Q (.sc (.bool true)) m := lift (fun m => live_ok) rfl m Q
theorem someL_ok (t : Sl Pn) (ht : t.l.length ≤ 1048576) (hf : Fits en m.length) : WC Tryz.prog pol en (.func 10) [slf opC t] m fun v m' => v = slf opC (if 40 < t.l.length then t.sub 0 40 else t) ∧ m' = m := by
  refine callPur Tryz.func10 rfl rfl Tryz.ntmps10 Tryz.results10 ?_
  by_cases h : (40 : Int) < (t.l.length : Int)
  · rw [if_pos (by omega)]
    (have hq1 : Dm := ⟨⟩; have hq2 : Dm := ⟨⟩; have hq3 : Dm := ⟨⟩; have hq4 : Dm := ⟨⟩; have hq5 : Dm := ⟨⟩; have hq6 : Dm := ⟨⟩) <;> (try simp -implicitDefEqProofs -dsimp (maxSteps := 2000000) (disch := (first | exact dz | fail)) only [go_sem, aR, h]) <;> (repeat' (first | ((with_reducible refine ds_and ?_ ?_); focus exact kz) | ((with_reducible refine And.intro ?_ ?_); focus exact oz) | ((with_reducible refine pc_and ?_ ?_); focus exact pz) | ((with_reducible first | refine gIf_t ?_ ?_ | refine gIf_f ?_ ?_ | refine ite_t ?_ ?_ | refine ite_p ?_ ?_) <;> (first | (have z := (hq1 : Dm); clear z hq1; intro hq1; try simp only [noR] at hq1) | (have z := (hq2 : Dm); clear z hq2; intro hq2; try simp only [noR] at hq2) | (have z := (hq3 : Dm); clear z hq3; intro hq3; try simp only [noR] at hq3) | (have z := (hq4 : Dm); clear z hq4; intro hq4; try simp only [noR] at hq4) | (have z := (hq5 : Dm); clear z hq5; intro hq5; try simp only [noR] at hq5) | (have z := (hq6 : Dm); clear z hq6; intro hq6; try simp only [noR] at hq6)) <;> (try simp -implicitDefEqProofs -dsimp (maxSteps := 2000000) (disch := (first | exact dz | fail)) only [go_sem, aR, hq6, hq5, hq4, hq3, hq2, hq1, h])))) <;> (try with_reducible and_intros) <;> (first | exact fz | skip)
  · rw [if_neg (by omega)]
    (have hq1 : Dm := ⟨⟩; have hq2 : Dm := ⟨⟩; have hq3 : Dm := ⟨⟩; have hq4 : Dm := ⟨⟩; have hq5 : Dm := ⟨⟩; have hq6 : Dm := ⟨⟩) <;> (try simp -implicitDefEqProofs -dsimp (maxSteps := 2000000) (disch := (first | exact dz | fail)) only [go_sem, aR, h]) <;> (repeat' (first | ((with_reducible refine ds_and ?_ ?_); focus exact kz) | ((with_reducible refine And.intro ?_ ?_); focus exact oz) | ((with_reducible refine pc_and ?_ ?_); focus exact pz) | ((with_reducible first | refine gIf_t ?_ ?_ | refine gIf_f ?_ ?_ | refine ite_t ?_ ?_ | refine ite_p ?_ ?_) <;> (first | (have z := (hq1 : Dm); clear z hq1; intro hq1; try simp only [noR] at hq1) | (have z := (hq2 : Dm); clear z hq2; intro hq2; try simp only [noR] at hq2) | (have z := (hq3 : Dm); clear z hq3; intro hq3; try simp only [noR] at hq3) | (have z := (hq4 : Dm); clear z hq4; intro hq4; try simp only [noR] at hq4) | (have z := (hq5 : Dm); clear z hq5; intro hq5; try simp only [noR] at hq5) | (have z := (hq6 : Dm); clear z hq6; intro hq6; try simp only [noR] at hq6)) <;> (try simp -implicitDefEqProofs -dsimp (maxSteps := 2000000) (disch := (first | exact dz | fail)) only [go_sem, aR, hq6, hq5, hq4, hq3, hq2, hq1, h])))) <;> (try with_reducible and_intros) <;> (first | exact fz | skip)
theorem shortL_ok (s : List UInt8) : WC Tryz.prog pol en (.func 24) [tx s] m fun v m' => v = tx (s.take 2000) ∧ m' = m := by
  refine callPur Tryz.func24 rfl rfl Tryz.ntmps24 Tryz.results24 ?_
  by_cases h : (2000 : Int) < (s.length : Int)
  · (have hq1 : Dm := ⟨⟩; have hq2 : Dm := ⟨⟩; have hq3 : Dm := ⟨⟩; have hq4 : Dm := ⟨⟩; have hq5 : Dm := ⟨⟩; have hq6 : Dm := ⟨⟩) <;> (try simp -implicitDefEqProofs -dsimp (maxSteps := 2000000) (disch := (first | exact dz | fail)) only [go_sem, aR, h]) <;> (repeat' (first | ((with_reducible refine ds_and ?_ ?_); focus exact kz) | ((with_reducible refine And.intro ?_ ?_); focus exact oz) | ((with_reducible refine pc_and ?_ ?_); focus exact pz) | ((with_reducible first | refine gIf_t ?_ ?_ | refine gIf_f ?_ ?_ | refine ite_t ?_ ?_ | refine ite_p ?_ ?_) <;> (first | (have z := (hq1 : Dm); clear z hq1; intro hq1; try simp only [noR] at hq1) | (have z := (hq2 : Dm); clear z hq2; intro hq2; try simp only [noR] at hq2) | (have z := (hq3 : Dm); clear z hq3; intro hq3; try simp only [noR] at hq3) | (have z := (hq4 : Dm); clear z hq4; intro hq4; try simp only [noR] at hq4) | (have z := (hq5 : Dm); clear z hq5; intro hq5; try simp only [noR] at hq5) | (have z := (hq6 : Dm); clear z hq6; intro hq6; try simp only [noR] at hq6)) <;> (try simp -implicitDefEqProofs -dsimp (maxSteps := 2000000) (disch := (first | exact dz | fail)) only [go_sem, aR, hq6, hq5, hq4, hq3, hq2, hq1, h])))) <;> (try with_reducible and_intros) <;> (first | exact fz | skip)
  · have e : s.take 2000 = s := List.take_of_length_le (by omega)
    (have hq1 : Dm := ⟨⟩; have hq2 : Dm := ⟨⟩; have hq3 : Dm := ⟨⟩; have hq4 : Dm := ⟨⟩; have hq5 : Dm := ⟨⟩; have hq6 : Dm := ⟨⟩) <;> (try simp -implicitDefEqProofs -dsimp (maxSteps := 2000000) (disch := (first | exact dz | fail)) only [go_sem, aR, h, e]) <;> (repeat' (first | ((with_reducible refine ds_and ?_ ?_); focus exact kz) | ((with_reducible refine And.intro ?_ ?_); focus exact oz) | ((with_reducible refine pc_and ?_ ?_); focus exact pz) | ((with_reducible first | refine gIf_t ?_ ?_ | refine gIf_f ?_ ?_ | refine ite_t ?_ ?_ | refine ite_p ?_ ?_) <;> (first | (have z := (hq1 : Dm); clear z hq1; intro hq1; try simp only [noR] at hq1) | (have z := (hq2 : Dm); clear z hq2; intro hq2; try simp only [noR] at hq2) | (have z := (hq3 : Dm); clear z hq3; intro hq3; try simp only [noR] at hq3) | (have z := (hq4 : Dm); clear z hq4; intro hq4; try simp only [noR] at hq4) | (have z := (hq5 : Dm); clear z hq5; intro hq5; try simp only [noR] at hq5) | (have z := (hq6 : Dm); clear z hq6; intro hq6; try simp only [noR] at hq6)) <;> (try simp -implicitDefEqProofs -dsimp (maxSteps := 2000000) (disch := (first | exact dz | fail)) only [go_sem, aR, hq6, hq5, hq4, hq3, hq2, hq1, h, e])))) <;> (try with_reducible and_intros) <;> (first | exact fz | skip)
theorem prints_law (t : Sl Pn) (s : List UInt8) (ht : t.l.length ≤ 1048576) (hP : FitP t.l) (hO : FitO t.l) (hf : Fits en m.length) : WC Tryz.prog pol en (.func 7) [slf opC t, tx s] m fun v m' => v = .sc (.bool true) ∧ m' = m := by
  refine callPur Tryz.func7 rfl rfl Tryz.ntmps7 Tryz.results7 ?_
  have h1 := fun (en : Env) (m : Mem) Q (hf : Fits en m.length) => (someL_ok (m := m) (en := en) t ht hf).rule Q
  have h2 := fun (en : Env) (m : Mem) Q => (shortL_ok (m := m) (en := en) s).rule Q
  have s1 := fun (en : Env) (m : Mem) Q (hf : Fits en m.length) => (size0_ok (m := m) (en := en) t hO hf).rule Q
  have s2 := fun (en : Env) (m : Mem) Q (hf : Fits en m.length) => (size_ok (m := m) (en := en) t hO hf).rule Q
  have hP' := hP.some
  have ht' := some_len ht
  generalize (if 40 < t.l.length then t.sub 0 40 else t) = t' at h1 hP' ht'
  have hs : (s.take 2000).length ≤ 2000 := by simp; omega
  generalize s.take 2000 = s' at h2 hs
  have p1 := fun (en : Env) (m : Mem) Q (hf : Fits en m.length) => (print_ok (m := m) (en := en) t' ht' hP' hf).rule Q
  have p2 := fun (en : Env) (m : Mem) Q (hf : Fits en m.length) => (refPrint_ok (m := m) (en := en) t' ht' hP' hf).rule Q
  have key : ∀ x y : Sl Pn, x.l = (parseL s').getD [] → y.l = (parseL s').getD [] → ∀ en m Q, WC Tryz.prog pol en (.func 26) [slf opC x, slf opC y] m Q = Q (bo true) m := fun x y hx hy en m Q => by
    have hl : x.l.length < 4294967296 := by
      rw [hx]
      cases hp : parseL s' with
      | none => simp
      | some os => have := parse_few hp; simp; omega
    rw [sameOps_eq x y m Q hl, hx, hy]; simp
  cases hp : printL t'.l with
  | none =>
    (have c1 : Dm := ⟨⟩; have c2 : Dm := ⟨⟩; have c3 : Dm := ⟨⟩; have c4 : Dm := ⟨⟩; have c5 : Dm := ⟨⟩; have c6 : Dm := ⟨⟩) <;> (try simp -implicitDefEqProofs -dsimp (maxSteps := 2000000) (disch := (first | exact dz | fail)) only [go_sem, aR, h1, h2, p1, p2, hp, ansO]) <;> (repeat' (first | ((with_reducible refine ds_and ?_ ?_); focus exact kz) | ((with_reducible refine And.intro ?_ ?_); focus exact oz) | ((with_reducible refine pc_and ?_ ?_); focus exact pz) | ((with_reducible first | refine gIf_t ?_ ?_ | refine gIf_f ?_ ?_ | refine ite_t ?_ ?_ | refine ite_p ?_ ?_) <;> (first | (have z := (c1 : Dm); clear z c1; intro c1; try simp only [noR] at c1) | (have z := (c2 : Dm); clear z c2; intro c2; try simp only [noR] at c2) | (have z := (c3 : Dm); clear z c3; intro c3; try simp only [noR] at c3) | (have z := (c4 : Dm); clear z c4; intro c4; try simp only [noR] at c4) | (have z := (c5 : Dm); clear z c5; intro c5; try simp only [noR] at c5) | (have z := (c6 : Dm); clear z c6; intro c6; try simp only [noR] at c6)) <;> (try simp -implicitDefEqProofs -dsimp (maxSteps := 2000000) (disch := (first | exact dz | fail)) only [go_sem, aR, c6, c5, c4, c3, c2, c1, h1, h2, p1, p2, hp, ansO])))) <;> (try with_reducible and_intros) <;> (first | exact fz | skip)
    refine (parse_ok s' (by omega) hf.pur).mono ?_
    rintro _ _ ⟨x, rfl, hx, rfl⟩
    (have c1 : Dm := ⟨⟩; have c2 : Dm := ⟨⟩; have c3 : Dm := ⟨⟩; have c4 : Dm := ⟨⟩; have c5 : Dm := ⟨⟩; have c6 : Dm := ⟨⟩) <;> (try simp -implicitDefEqProofs -dsimp (maxSteps := 2000000) (disch := (first | exact dz | fail)) only [go_sem, aR, h2]) <;> (repeat' (first | ((with_reducible refine ds_and ?_ ?_); focus exact kz) | ((with_reducible refine And.intro ?_ ?_); focus exact oz) | ((with_reducible refine pc_and ?_ ?_); focus exact pz) | ((with_reducible first | refine gIf_t ?_ ?_ | refine gIf_f ?_ ?_ | refine ite_t ?_ ?_ | refine ite_p ?_ ?_) <;> (first | (have z := (c1 : Dm); clear z c1; intro c1; try simp only [noR] at c1) | (have z := (c2 : Dm); clear z c2; intro c2; try simp only [noR] at c2) | (have z := (c3 : Dm); clear z c3; intro c3; try simp only [noR] at c3) | (have z := (c4 : Dm); clear z c4; intro c4; try simp only [noR] at c4) | (have z := (c5 : Dm); clear z c5; intro c5; try simp only [noR] at c5) | (have z := (c6 : Dm); clear z c6; intro c6; try simp only [noR] at c6)) <;> (try simp -implicitDefEqProofs -dsimp (maxSteps := 2000000) (disch := (first | exact dz | fail)) only [go_sem, aR, c6, c5, c4, c3, c2, c1, h2])))) <;> (try with_reducible and_intros) <;> (first | exact fz | skip)
    refine (refParse_ok s' (by omega) hf.pur).mono ?_
    rintro _ _ ⟨y, rfl, hy, rfl⟩
    (have c1 : Dm := ⟨⟩; have c2 : Dm := ⟨⟩; have c3 : Dm := ⟨⟩; have c4 : Dm := ⟨⟩; have c5 : Dm := ⟨⟩; have c6 : Dm := ⟨⟩) <;> (try simp -implicitDefEqProofs -dsimp (maxSteps := 2000000) (disch := (first | exact dz | fail)) only [go_sem, aR, live_eq, key x y hx hy, s1, s2]) <;> (repeat' (first | ((with_reducible refine ds_and ?_ ?_); focus exact kz) | ((with_reducible refine And.intro ?_ ?_); focus exact oz) | ((with_reducible refine pc_and ?_ ?_); focus exact pz) | ((with_reducible first | refine gIf_t ?_ ?_ | refine gIf_f ?_ ?_ | refine ite_t ?_ ?_ | refine ite_p ?_ ?_) <;> (first | (have z := (c1 : Dm); clear z c1; intro c1; try simp only [noR] at c1) | (have z := (c2 : Dm); clear z c2; intro c2; try simp only [noR] at c2) | (have z := (c3 : Dm); clear z c3; intro c3; try simp only [noR] at c3) | (have z := (c4 : Dm); clear z c4; intro c4; try simp only [noR] at c4) | (have z := (c5 : Dm); clear z c5; intro c5; try simp only [noR] at c5) | (have z := (c6 : Dm); clear z c6; intro c6; try simp only [noR] at c6)) <;> (try simp -implicitDefEqProofs -dsimp (maxSteps := 2000000) (disch := (first | exact dz | fail)) only [go_sem, aR, c6, c5, c4, c3, c2, c1, live_eq, key x y hx hy, s1, s2])))) <;> (try with_reducible and_intros) <;> (first | exact fz | skip)
    all_goals trace_state
  | some w =>
    (have c1 : Dm := ⟨⟩; have c2 : Dm := ⟨⟩; have c3 : Dm := ⟨⟩; have c4 : Dm := ⟨⟩; have c5 : Dm := ⟨⟩; have c6 : Dm := ⟨⟩) <;> (try simp -implicitDefEqProofs -dsimp (maxSteps := 2000000) (disch := (first | exact dz | fail)) only [go_sem, aR, h1, h2, p1, p2, hp, ansO]) <;> (repeat' (first | ((with_reducible refine ds_and ?_ ?_); focus exact kz) | ((with_reducible refine And.intro ?_ ?_); focus exact oz) | ((with_reducible refine pc_and ?_ ?_); focus exact pz) | ((with_reducible first | refine gIf_t ?_ ?_ | refine gIf_f ?_ ?_ | refine ite_t ?_ ?_ | refine ite_p ?_ ?_) <;> (first | (have z := (c1 : Dm); clear z c1; intro c1; try simp only [noR] at c1) | (have z := (c2 : Dm); clear z c2; intro c2; try simp only [noR] at c2) | (have z := (c3 : Dm); clear z c3; intro c3; try simp only [noR] at c3) | (have z := (c4 : Dm); clear z c4; intro c4; try simp only [noR] at c4) | (have z := (c5 : Dm); clear z c5; intro c5; try simp only [noR] at c5) | (have z := (c6 : Dm); clear z c6; intro c6; try simp only [noR] at c6)) <;> (try simp -implicitDefEqProofs -dsimp (maxSteps := 2000000) (disch := (first | exact dz | fail)) only [go_sem, aR, c6, c5, c4, c3, c2, c1, h1, h2, p1, p2, hp, ansO])))) <;> (try with_reducible and_intros) <;> (first | exact fz | skip)
    refine (parse_ok s' (by omega) hf.pur).mono ?_
    rintro _ _ ⟨x, rfl, hx, rfl⟩
    (have c1 : Dm := ⟨⟩; have c2 : Dm := ⟨⟩; have c3 : Dm := ⟨⟩; have c4 : Dm := ⟨⟩; have c5 : Dm := ⟨⟩; have c6 : Dm := ⟨⟩) <;> (try simp -implicitDefEqProofs -dsimp (maxSteps := 2000000) (disch := (first | exact dz | fail)) only [go_sem, aR, h2]) <;> (repeat' (first | ((with_reducible refine ds_and ?_ ?_); focus exact kz) | ((with_reducible refine And.intro ?_ ?_); focus exact oz) | ((with_reducible refine pc_and ?_ ?_); focus exact pz) | ((with_reducible first | refine gIf_t ?_ ?_ | refine gIf_f ?_ ?_ | refine ite_t ?_ ?_ | refine ite_p ?_ ?_) <;> (first | (have z := (c1 : Dm); clear z c1; intro c1; try simp only [noR] at c1) | (have z := (c2 : Dm); clear z c2; intro c2; try simp only [noR] at c2) | (have z := (c3 : Dm); clear z c3; intro c3; try simp only [noR] at c3) | (have z := (c4 : Dm); clear z c4; intro c4; try simp only [noR] at c4) | (have z := (c5 : Dm); clear z c5; intro c5; try simp only [noR] at c5) | (have z := (c6 : Dm); clear z c6; intro c6; try simp only [noR] at c6)) <;> (try simp -implicitDefEqProofs -dsimp (maxSteps := 2000000) (disch := (first | exact dz | fail)) only [go_sem, aR, c6, c5, c4, c3, c2, c1, h2])))) <;> (try with_reducible and_intros) <;> (first | exact fz | skip)
    refine (refParse_ok s' (by omega) hf.pur).mono ?_
    rintro _ _ ⟨y, rfl, hy, rfl⟩
    (have c1 : Dm := ⟨⟩; have c2 : Dm := ⟨⟩; have c3 : Dm := ⟨⟩; have c4 : Dm := ⟨⟩; have c5 : Dm := ⟨⟩; have c6 : Dm := ⟨⟩) <;> (try simp -implicitDefEqProofs -dsimp (maxSteps := 2000000) (disch := (first | exact dz | fail)) only [go_sem, aR, live_eq, key x y hx hy, s1, s2]) <;> (repeat' (first | ((with_reducible refine ds_and ?_ ?_); focus exact kz) | ((with_reducible refine And.intro ?_ ?_); focus exact oz) | ((with_reducible refine pc_and ?_ ?_); focus exact pz) | ((with_reducible first | refine gIf_t ?_ ?_ | refine gIf_f ?_ ?_ | refine ite_t ?_ ?_ | refine ite_p ?_ ?_) <;> (first | (have z := (c1 : Dm); clear z c1; intro c1; try simp only [noR] at c1) | (have z := (c2 : Dm); clear z c2; intro c2; try simp only [noR] at c2) | (have z := (c3 : Dm); clear z c3; intro c3; try simp only [noR] at c3) | (have z := (c4 : Dm); clear z c4; intro c4; try simp only [noR] at c4) | (have z := (c5 : Dm); clear z c5; intro c5; try simp only [noR] at c5) | (have z := (c6 : Dm); clear z c6; intro c6; try simp only [noR] at c6)) <;> (try simp -implicitDefEqProofs -dsimp (maxSteps := 2000000) (disch := (first | exact dz | fail)) only [go_sem, aR, c6, c5, c4, c3, c2, c1, live_eq, key x y hx hy, s1, s2])))) <;> (try with_reducible and_intros) <;> (first | exact fz | skip)
    all_goals trace_state
end
end Go.Proofs.YtcmjidnbbfcbjaaGreatDoor.V.L1
