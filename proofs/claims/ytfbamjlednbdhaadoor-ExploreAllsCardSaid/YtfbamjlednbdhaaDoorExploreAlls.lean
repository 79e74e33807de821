/- Parts of the proof, joined (C1); no condition. -/
import Derived.Test.YtfbamjlednbdhaaDoorCards
import Derived.Test.YtfbamjlednbdhaaDoorTie
import Derived.Test.YtfbamjlednbdhaaDoorMd
import Derived.Test.YtfbamjlednbdhaaDoorMe
import Derived.Deep.DeepHandedRow
/- ExploreAlls holds: the card, tied to the program's text; no condition. -/
namespace Go.Proofs.YtfbamjlednbdhaaDoor.V
open Go Go.ChangeShapes Go.WideShapes Go.RowKit Go.Deep
set_option linter.unusedVariables false
set_option maxRecDepth 100000
noncomputable section
theorem own : ownKnob Tryd.prog.godebug = none := by kernel_rfl
theorem laidOut : laidOutB Tryd.prog = true := by kernel_rfl
theorem goodP : GoodP Tryd.prog pol := by
  refine ⟨fun f fn hf => ?_, by kernel_rfl, ?_⟩
  · have h : (Tryd.prog.funcs.toList.all fun fn => !(fn.name == "runtime.NumGoroutine")) = true := by kernel_rfl
    rw [List.all_eq_true] at h
    have := h fn (by rw [Array.mem_toList_iff]; exact Array.mem_of_getElem? hf)
    simpa using this
  · intro g cs h n
    unfold pol at h
    simp only at h
    split at h
    · cases h
      rw [lowL_iff]
      intro v hv
      simp only [List.mem_map] at hv
      obtain ⟨z, _, rfl⟩ := hv
      rfl
    · cases h
theorem gTab : Tryd.prog.globalNamed "math/bits.deBruijn64tab" = some 1 := by kernel_rfl
theorem gTabType : (Tryd.prog.globals[1]?).map (·.type) = some 76 := by kernel_rfl
theorem cells76 : Tryd.prog.cellsOf 76 = 64 := by kernel_rfl
theorem cells5 : Tryd.prog.cellsOf 5 = 1 := by kernel_rfl
theorem table {W : World} (h : laidMetH Tryd.prog Rows.exploreAllsRow.laid W) : Lib.TabIs Tryd.prog W "math/bits.deBruijn64tab" .u8 tab64 := by
  have h1 : laidMet Tryd.prog Rows.exploreAllsRow.laid W := h
  exact Lib.tabIs_of_head (rest := []) gTab gTabType Tryd.underlying76 Tryd.underlying5 cells5 cells76 h1.tail
theorem mi0 {W : World} (h : laidMetH Tryd.prog Rows.exploreAllsRow.laid W) : MI pol (E0 W) := by
  refine ⟨rfl, fun i j b p q hi => by simp at hi, fun id o ho => by simp at ho, fun g cs hg => ?_⟩
  unfold pol at hg
  simp only at hg
  split at hg
  · rename_i hg1
    subst hg1
    cases hg
    have ht := table h
    simp only [Rep]
    refine ⟨⟨1, 0, none⟩, tab64.map fun z => .int .u8 z, rfl, rfl, by rw [List.all_map, List.all_eq_true]; intro z _; rfl, ?_, fun i u hu => ⟨not_live0 _ _, ?_⟩⟩
    · rw [RepL_iff]
      refine ⟨by simp, fun i c u hc hu => ?_⟩
      simp only [List.getElem?_map, Option.map_eq_some_iff] at hc hu
      obtain ⟨z, hz, rfl⟩ := hc
      obtain ⟨z', hz', rfl⟩ := hu
      rw [hz] at hz'
      cases hz'
      exact rep_i _ _ _
    · simp only [List.getElem?_map, Option.map_eq_some_iff] at hu
      obtain ⟨z, hz, rfl⟩ := hu
      have hi := (List.getElem?_eq_some_iff.1 hz).1
      have := ht.cell gTab i hi
      rw [List.getD_eq_getElem?_getD, hz] at this
      simpa using this
  · cases hg
theorem ps22 : Tryd.prog.readableRec 22 = true ∧ 22 < Tryd.prog.types.size := ⟨by kernel_rfl, of_decide_eq_true (by kernel_rfl)⟩
theorem ps3 : Tryd.prog.readableRec 3 = true ∧ 3 < Tryd.prog.types.size := ⟨by kernel_rfl, of_decide_eq_true (by kernel_rfl)⟩
theorem cells22 : Tryd.prog.cellsOf 34 = 1 := by kernel_rfl
theorem cells3 : Tryd.prog.cellsOf 3 = 1 := by kernel_rfl
end
end Go.Proofs.YtfbamjlednbdhaaDoor.V
namespace Go.Proofs.YtfbamjlednbdhaaDoor.exploreAlls
open Go Go.ChangeShapes Go.WideShapes Go.RowKit Go.Deep V
set_option maxRecDepth 100000
theorem contract (H : Type) (enc : TypeId × Value → H) (W : World) (base : Nat) (args : Array Value) (ds gs : List (DataW H)) (before : List MemPlace)
    (hval : ∀ (j : Nat) t v, Tryd.f4.params[j]? = some t → args[j]? = some v → Value.okWide Tryd.prog W .any base t v)
    (hW : DataW.Whole enc Tryd.prog Tryd.f4.params.toList Rows.exploreAllsSpec.vars false W args.toList ds gs before) (hL : laidMetH Tryd.prog Rows.exploreAllsRow.laid W) :
    Calls Tryd.prog 4 args W fun e W' => ∃ v, e = .returned v ∧ Rows.exploreAllsSpec.post enc Tryd.prog Tryd.f4 false true false false W args v W' := by
  have hW' := hW
  obtain ⟨p, q, hA0, hV, rfl, hfz, hnd⟩ := hW
  have hA : DataW.TrodAll enc Tryd.prog W 0 (fun _ => true) true Tryd.f4.params.toList args.toList ds p := hA0
  rw [Tryd.params4] at hA hval
  obtain ⟨v0, vs0, d0, ds0, p0, q0, hargs, rfl, rfl, h0, r0⟩ := trodAll_cons hA
  obtain ⟨v1, vs1, d1, ds1, p1, q1, rfl, rfl, rfl, h1, r1⟩ := trodAll_cons r0
  obtain ⟨rfl, rfl, rfl⟩ := trodAll_nil r1
  obtain rfl : args = #[v0, v1] := by cases args; simp_all
  obtain ⟨a0, len0, cap0, rfl⟩ := okWide_slice Tryd.underlying22 (hval 0 22 v0 rfl rfl)
  obtain ⟨x, hx⟩ := open_LL Tryd.underlying22 Tryd.underlying34 Tryd.underlying3 cells22 cells3 h0
  obtain ⟨n, rfl, rfl, rfl, _⟩ := open_int Tryd.underlying3 (hval 1 3 v1 rfl rfl) h1
  exact law_contract (fn := Tryd.f4) goodP laidOut (by intro t ht; rw [Tryd.params4] at ht; simp at ht; rcases ht with rfl | rfl <;> first | exact ps22 | exact ps3) rfl rfl Tryd.underlying4 rfl hW' (mi0 hL) (RepL.cons hx (RepL.cons (rep_i W .i64 n) RepL.nil)) (alls_law x n)
def tab32 : List Int := [0, 1, 28, 2, 29, 14, 24, 3, 30, 22, 20, 15, 25, 17, 4, 8, 31, 27, 13, 23, 21, 19, 16, 7, 26, 12, 18, 6, 11, 5, 10, 9]
def lay (zs : List Int) : Obj → Obj
  | .cells _ t frozen => .cells (zs.map fun z => Value.int .u8 z).toArray t frozen
  | o => o
/-- A world for the witness: the tables hold what their initialisers lay. -/
noncomputable def laidWorld (os : Os) : World :=
  { World.holding Tryd.prog os ⟨#[], #[], []⟩ with heap := ((World.holding Tryd.prog os ⟨#[], #[], []⟩).heap.modify 0 (lay tab32)).modify 1 (lay tab64) }
theorem laid_met (os : Os) : laidMet Tryd.prog Rows.exploreAllsRow.laid ((laidWorld os).forCall (fun _ _ => 0) ⟨#[], #[.slice none 0 0, .int .i64 0], []⟩).memory :=
  laidMet_of_run' 8 (by kernel_rfl) (by kernel_rfl)
theorem reads (os : Os) {H : Type} (enc : TypeId × Value → H) : ∃ places, DataW.whole enc Tryd.prog ((laidWorld os).forCall (fun _ _ => 0) ⟨#[], #[.slice none 0 0, .int .i64 0], []⟩).memory Tryd.f4.params.toList Rows.exploreAllsSpec.vars false #[Value.slice none 0 0, Value.int .i64 0].toList 8 = some ([.nil, .lit (.int .i64 0)], [], places) :=
  ⟨[], by kernel_rfl⟩
theorem lifted (os : Os) (started : os.Started) (H : Type) (enc : TypeId × Value → H) (F : Stop.Interp) :
    ReturnsInHanded {} Tryd.checked os 4 .any ((OpenSpec.ofChange Rows.exploreAllsSpec).preRow enc Tryd.prog Tryd.f4 Rows.exploreAllsRow.domain false Rows.exploreAllsRow.laid) (((OpenSpec.ofChange Rows.exploreAllsSpec).at F).post enc Tryd.prog Tryd.f4 false true false false) := by
  obtain ⟨places, hx⟩ := reads os enc
  refine returnsInHanded_of_row (C := Tryd.checked) (s := OpenSpec.ofChange Rows.exploreAllsSpec) own started (by kernel_rfl) Tryd.func4
    (witness_row_at (enc := enc) (C := Tryd.checked) false (laidWorld os) #[.slice none 0 0, .int .i64 0] rfl (by kernel_rfl) (by kernel_rfl) (by kernel_rfl)
      (OpenSpec.preRow_of_cond 8 hx (by kernel_rfl) (fun k hk => by cases hk) (by kernel_rfl) (laid_met os))) ?_
  intro W base args ds gs before hval hW _ _ _ hL _ _
  exact contract H enc W base args ds gs before hval hW hL
theorem said : Rows.ExploreAllsSaid :=
  OpenClaim.holds_of_cond 4 Tryd.f4 rfl rfl rfl rfl rfl rfl rfl ⟨rfl, rfl, rfl, rfl, rfl⟩ rfl rfl rfl rfl rfl (by kernel_rfl) Tryd.func4 (by kernel_rfl)
    (of_decide_eq_true (by kernel_rfl)) (by unfold Func.isWrapper; first | (rw [if_pos (by decide +kernel)]; kernel_rfl) | (rw [if_neg (by decide +kernel)]; exact ⟨rfl, rfl⟩))
    (fun os started H enc _ F => by rw [OpenClaim.pre_eq_preRow]; exact lifted os started H enc F)
theorem plain (f : FuncId) (fn : Func) (hf : Tryd.pinned.checked.prog.funcNamed "selvedge/selvedgelaw23.ExploreAlls" = some f) (hfn : Tryd.pinned.checked.prog.funcs[f]? = some fn) :
    false = Tryd.pinned.checked.prog.looks [] ∧ ∀ (j : Nat) t, fn.params[j]? = some t → Tryd.pinned.checked.prog.wantsStandIn t = false := by
  obtain rfl : f = 4 := Option.some.inj ((show Tryd.prog.funcNamed "selvedge/selvedgelaw23.ExploreAlls" = some 4 by kernel_rfl).symm.trans hf) |>.symm
  obtain rfl : fn = Tryd.f4 := (Option.some.inj (Tryd.func4.symm.trans hfn)).symm
  refine ⟨by kernel_rfl, fun j t ht => ?_⟩
  rw [Tryd.params4] at ht
  have ht := Array.mem_of_getElem? ht
  simp at ht
  rcases ht with rfl | rfl
  · exact (show Tryd.prog.wantsStandIn 22 = false by kernel_rfl)
  · exact (show Tryd.prog.wantsStandIn 3 = false by kernel_rfl)
end Go.Proofs.YtfbamjlednbdhaaDoor.exploreAlls
namespace Go.Proofs.YtfbamjlednbdhaaDoor
open Go Go.Proofs.YtfbamjlednbdhaaDoor.exploreAlls
theorem exploreAlls_holds : Rows.ExploreAllsCardSaid :=
  Claim7.holds_tied_plain_at .later [] _ _ _ _ said (fun _ h => by cases h) (by kernel_rfl) (fun _ h => by cases h) exploreAlls_row_tie rfl ⟨rfl, rfl⟩ (by kernel_rfl) rfl plain (by kernel_rfl)
end Go.Proofs.YtfbamjlednbdhaaDoor
