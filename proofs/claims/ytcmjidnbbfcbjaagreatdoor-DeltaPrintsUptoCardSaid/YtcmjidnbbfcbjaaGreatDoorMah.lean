/- Parts of the proof, joined (V46); no condition. -/
import Derived.Test.YtcmjidnbbfcbjaaGreatDoorMag
import Derived.KernelRfl
/- Short words for the walks: the rules in one set; what closes side goals; no condition. -/
namespace Go.Proofs.YtcmjidnbbfcbjaaGreatDoor.V
open Go
attribute [go_sem] String.reduceBEq Nat.reduceAdd Nat.reduceSub Nat.reduceLT Nat.reduceLeDiff Int.reduceToNat Int.reduceLE Int.reduceLT Int.reduceAdd Int.reduceSub Int.reduceEq Int.reduceNe Int.reduceMul Nat.reduceMul Int.reduceNeg Nat.reduceEqDiff reduceIte
attribute [go_sem] Int.toNat_natCast X.exit.injEq if_true if_false Bool.not_true Bool.not_false Bool.false_eq_true Bool.true_eq_false true_and and_true Nat.zero_add Nat.mul_one Nat.add_zero List.length_set
attribute [go_sem 2000] need_of strR_addD u8w atS_txD slT_hiD slT_loD slT_bothD need_true need_and WOf_need i64w u64w at_getD idxR_slD idxR_slf idxF_some idxS_one get_setN get_setS get_appL bld1_true plan_buildD natSucc
attribute [go_sem ↓] ibin_shlD ibin_shrD
theorem noR : (∀ (p : Prop) [Decidable p], (decide p = true) = p) ∧ (∀ (p : Prop) [Decidable p], (decide p = false) = ¬p) ∧ (∀ b : Bool, ((!b) = true) = (b = false)) ∧ (∀ b : Bool, ((!b) = false) = (b = true)) ∧
    (∀ {α : Type} [BEq α] [LawfulBEq α] (a b : α), ((a == b) = true) = (a = b)) ∧ (∀ {α : Type} [BEq α] [LawfulBEq α] (a b : α), ((a != b) = true) = ¬(a = b)) ∧ (∀ {α : Type} (a b : α), (a ≠ b) = ¬(a = b)) ∧ (∀ {α : Type} [BEq α] [LawfulBEq α] (a b : α), ((a == b) = false) = ¬(a = b)) ∧
    (∀ {α : Type} [BEq α] [LawfulBEq α] (a b : α), ((a != b) = false) = (a = b)) ∧ (∀ b : Bool, (¬(b = true)) = (b = false)) ∧ (∀ b : Bool, (¬(b = false)) = (b = true)) ∧ (∀ (p : Prop) [Decidable p], (¬¬p) = p) := by
  refine ⟨?_, ?_, ?_, ?_, ?_, ?_, ?_, ?_, ?_, ?_, ?_, ?_⟩ <;> intros <;> simp
theorem aR : (∀ {en : Env} {n id : Nat} {low : Nat → Bool}, Fits en n → n ≤ id → okTo ⟨n :: en.bases, n⟩ id low = True) ∧ (∀ {en : Env} {n id : Nat} {low : Nat → Bool}, Fits en n → en.bar ≤ n → n ≤ id → okTo en id low = True) ∧
    (∀ {n w : Nat}, n ≤ 4294967296 → 0 < w ∧ w ≤ 64 → (roomOk n w = true) = True) ∧ (∀ {α : Type} {l : List α} {n : Nat}, l.length ≤ n → l.take n = l) ∧ (∀ {α β : Type} (f : α → β) (l : List α), (l.map f).length = l.length) ∧
    (∀ n : Nat, n - 0 = n) ∧ (∀ {α : Type} (a b : α), (a ≠ b) = ¬(a = b)) ∧ ((¬True) = False) ∧ ((¬False) = True) :=
  ⟨okToP, okToO, roomD, takeD, by simp, by simp, by simp, by simp, by simp⟩
/-- Nothing: its name is free. -/
structure Dm : Prop where
theorem kz {p : Prop} (h : p := by kernel_rfl) : p := h
theorem oz {p : Prop} (h : p := by omega) : p := h
theorem dz {p : Prop} (h : p := by first | exact Fits.upPur (by assumption) (by first | omega | (simp only [List.length_append, List.length_cons, List.length_nil, List.length_set]; omega)) | exact Fits.up (by assumption) (by first | omega | (simp only [List.length_append, List.length_cons, List.length_nil, List.length_set]; omega)) | omega | (simp only [sub_l, List.length_map, List.length_take, List.length_drop, List.length_set, List.length_append, List.length_cons, List.length_nil]; omega) | assumption) : p := h
theorem vz {p : Prop} (h : p := by first | omega | (simp only [List.length_set, List.length_append, List.length_cons, List.length_nil]; omega)) : p := h
theorem pz {p : Prop} (h : p := by first | ((simp only [hB, hBk]; clear hBk hB; revert B; first | refine peace_all ?_ ?_ | refine peace_all0 ?_ ?_) <;> (first | kernel_rfl | (intro; kernel_rfl))) | (rcases hrs with ⟨_, _, _, _, _, _, _, rfl⟩ | ⟨_, _, _, _, _, rfl⟩ | ⟨_, rfl⟩ <;> kernel_rfl) | kernel_rfl) : p := h
theorem fz {p : Prop} (h : p := by first | with_reducible rfl | omega | with_reducible assumption | exact True.intro | ((with_reducible refine ds_t ?_); kernel_rfl) | ((with_reducible refine pc_t ?_); kernel_rfl)) : p := h
theorem fzb {p : Prop} (h : p := by first | with_reducible rfl | omega | with_reducible assumption | exact True.intro | ((with_reducible refine ds_t ?_); kernel_rfl)) : p := h
end Go.Proofs.YtcmjidnbbfcbjaaGreatDoor.V
