/- Parts of the proof, joined (QT3, T6); no condition. -/
import Derived.Test.YtcmjidnbbfcbjaaGreatDoorCards
import Derived.Test.YtcmjidnbbfcbjaaGreatDoorTie
import Derived.Test.YtcmjidnbbfcbjaaGreatDoorMal
import Derived.Test.YtcmjidnbbfcbjaaGreatDoorMao
import Derived.Lib.Bytealg
import Derived.Stop.LaidErr
import Derived.Test.YtcmjidnbbfcbjaaGreatDoorMai
import Derived.Deep.DeepHandedRow
/- What the cards of this seat share: the program's closed facts, the tables; no condition. -/
namespace Go.Proofs.YtcmjidnbbfcbjaaGreatDoor.V
open Go Go.Shelf Go.ChangeShapes Go.WideShapes Go.RowKit Go.Deep
set_option linter.unusedVariables false
set_option maxRecDepth 100000
noncomputable section
theorem own : ownKnob Tryz.prog.godebug = none := by kernel_rfl
theorem laidOut : laidOutB Tryz.prog = true := by kernel_rfl
/-- The one type of that name. -/
theorem typeE : ∀ u, Tryz.prog.typeName? 3 u = some "*errors.errorString" → u = 211 := by
  intro u hu
  have star : "*" ++ "errors.errorString" = "*errors.errorString" := by decide
  exact typeName_ptr_named (nm := "errors.errorString") (by rw [star]; kernel_rfl) (by kernel_rfl) (by decide) u (by rw [star]; exact hu)
theorem dirAll {p : FuncId → DirF → Prop} (h1 : p 116 dSame) (h2 : p 177 (dRaw 5)) (h3 : p 156 (dNum countI)) (h4 : p 192 (dNum Lib.indexByte)) (h5 : p 82 dItoa)
    (h6 : p 89 (dAtoi 176 (errG errS) (errG errR))) : ∀ f d, pol.dir f = some d → p f d := by
  intro f d h
  unfold pol at h
  simp only at h
  repeat' split at h
  · rename_i e; obtain rfl := isF_eq e; cases h; exact h1
  · rename_i e; obtain rfl := isF_eq e; cases h; exact h2
  · rename_i e; obtain rfl := isF_eq e; cases h; exact h3
  · rename_i e; obtain rfl := isF_eq e; cases h; exact h4
  · rename_i e; obtain rfl := isF_eq e; cases h; exact h5
  · rename_i e; obtain rfl := isF_eq e; cases h; exact h6
  · cases h
theorem gTab : Tryz.prog.globalNamed "internal/strconv.uint64pow10" = some 3 := by kernel_rfl
theorem gTabType : (Tryz.prog.globals[3]?).map (·.type) = some 202 := by kernel_rfl
theorem cells20 : Tryz.prog.cellsOf 202 = 20 := by kernel_rfl
theorem cellsU : Tryz.prog.cellsOf 169 = 1 := by kernel_rfl
theorem goodP : GoodP Tryz.prog pol := by
  refine ⟨fun f fn hf => ?_, by kernel_rfl, ?_, ?_, ?_, ?_, ?_⟩
  · have h : (Tryz.prog.funcs.toList.all fun fn => !(fn.name == "runtime.NumGoroutine")) = true := by kernel_rfl
    rw [List.all_eq_true] at h
    have := h fn (by rw [Array.mem_toList_iff]; exact Array.mem_of_getElem? hf)
    simpa using this
  · intro g cs h n
    unfold pol at h
    simp only at h
    repeat' split at h
    · cases h
      rw [lowL_iff]
      intro v hv
      simp only [List.mem_map] at hv
      obtain ⟨z, _, rfl⟩ := hv
      rfl
    · cases h; rfl
    · cases h; rfl
    · cases h
  · exact dirAll (p := fun f d => DirOk Tryz.prog pol f d) (dSame_ok Tryz.func116 rfl (by kernel_rfl) (by kernel_rfl) (by kernel_rfl) rfl)
      (dRaw_ok Tryz.func177 rfl (by kernel_rfl) (by kernel_rfl) (by kernel_rfl) Tryz.underlying83 (by simp [show pol.mode 177 = .opn from rfl]))
      (dNum_ok Tryz.func156 rfl (by kernel_rfl) (by kernel_rfl) (by kernel_rfl) (fun s c w => Lib.run_countString s c w) rfl)
      (dNum_ok Tryz.func192 rfl (by kernel_rfl) (by kernel_rfl) (by kernel_rfl) (fun s c w => Lib.run_indexByteString s c w) rfl)
      (dItoa_ok (pol := pol) laysItoa gTab rfl rfl) (dAtoi_ok (pol := pol) laysAtoi rfl rfl ⟨_, _, rfl⟩ ⟨_, _, rfl⟩ rfl)
  · exact dirAll (p := fun f d => DirKeep d) dSame_keep (dRaw_keep _) (dNum_keep _) (dNum_keep _) dItoa_keep (dAtoi_keep _ _ _)
  · intro f hf
    have : f = 177 := Nat.eq_of_beq_eq_true hf
    subst this; rfl
  · intro f hf
    have hf : (isF f 82 || isF f 89) = true := hf
    rw [Bool.or_eq_true] at hf
    rcases hf with hf | hf
    · obtain rfl := isF_eq hf
      refine ⟨dItoa, rfl, fun en args m v m' h => ?_⟩
      obtain ⟨n, rfl, h0, h1, rfl, rfl⟩ := dItoa_inv h
      refine ⟨rfl, fun en2 m2 => ?_⟩
      simp only [dItoa]
      rw [if_pos ⟨h0, h1⟩, fInt_id, spine_eq, itoaK_eq h0 h1]
    · obtain rfl := isF_eq hf
      refine ⟨_, rfl, fun en args m v m' h => ?_⟩
      obtain ⟨s, rfl, hs, rfl, hc⟩ := dAtoi_inv h
      refine ⟨rfl, fun en2 m2 => ?_⟩
      simp only [dAtoi]
      rw [if_pos hs]
      rcases hc with ⟨n, hn, rfl⟩ | ⟨hn, rfl⟩ | ⟨hn, rfl⟩ <;> simp only [hn]
noncomputable def laidTabs : List (String × DataW Unit) := [("math/bits.deBruijn32tab", Rows.laid_math_bits_deBruijn32tab), ("math/bits.deBruijn64tab", Rows.laid_math_bits_deBruijn64tab), ("internal/strconv.uint64pow10", Rows.laid_internal_strconv_uint64pow10), ("unicode/utf8.acceptRanges", Rows.laid_unicode_utf8_acceptRanges), ("strconv.ErrRange", Rows.laid_strconv_ErrRange), ("strconv.ErrSyntax", Rows.laid_strconv_ErrSyntax), ("unicode/utf8.first", Rows.laid_unicode_utf8_first)]
theorem table {W : World} (h : laidMetH Tryz.prog laidTabs W) : Lib.TabIs Tryz.prog W "internal/strconv.uint64pow10" .u64 pow10 := by
  have h1 : laidMet Tryz.prog laidTabs W := h
  exact Lib.tabIs_of_head gTab gTabType Tryz.underlying202 Tryz.underlying169 cellsU cells20 h1.tail.tail
/-- A table that is laid. -/
theorem grep_tab {W : World} {k : IntKind} {zs : List Int} {s : String} {g : Nat} (hg : Tryz.prog.globalNamed s = some g) (h : Lib.TabIs Tryz.prog W s k zs) : GRep (E0 W) g (zs.map fun z => .sc (.int k z)) := by
  unfold Lib.TabIs at h
  have hv := h
  unfold World.var? at hv
  rw [hg] at hv
  simp only [Option.bind_some] at hv
  split at hv
  case h_2 => cases hv
  rename_i cs t fz hh
  cases hv
  refine ⟨?_, fun _ => ⟨_, t, fz, hh, by simp⟩⟩
  simp only [Rep]
  refine ⟨⟨g, 0, none⟩, zs.map fun z => .int k z, rfl, rfl, by rw [List.all_map, List.all_eq_true]; intro z _; rfl, ?_, fun i u hu => ⟨not_live0 _ _, ?_⟩⟩
  · rw [RepL_iff]
    refine ⟨by simp, fun i c u hc hu => ?_⟩
    simp only [List.getElem?_map, Option.map_eq_some_iff] at hc hu
    obtain ⟨z, hz, rfl⟩ := hc
    obtain ⟨z', hz', rfl⟩ := hu
    rw [hz] at hz'
    cases hz'
    exact rep_i _ _ _
  · show World.cell? W _ = _
    simp only [World.cell?, hh, Nat.zero_add]
    simpa using hu
/-- An error that is laid. -/
theorem grep_err {W : World} {s : String} {g : Nat} {l : List UInt8} {r : List (String × DataW Unit)} (h : laidMet Tryz.prog ((s, .iface "*errors.errorString" (.ptr (.agg [.lit (.string l)]))) :: r) W) (hg : Tryz.prog.globalNamed s = some g) (ht : (Tryz.prog.globals[g]?).map (·.type) = some 88) : GRep (E0 W) g [errG l] := by
  obtain ⟨a, s', hv, hc, rfl, _⟩ := laid_sentinel h hg ht Tryz.underlying88 (fun u hu => typeE u hu) Tryz.underlying211 Tryz.underlying213 rfl rfl Tryz.underlying9 (by kernel_rfl) (by kernel_rfl)
  unfold World.var? at hv
  rw [hg] at hv
  simp only [Option.bind_some] at hv
  split at hv
  case h_2 => cases hv
  rename_i cs t fz hh
  cases hv
  have hsp := World.cell?_spot hc
  have hr : Rep (E0 W) (errG s'.data.toList) (.iface 211 (.pointer (some a))) := by
    unfold errG
    simp only [Rep, RepL]
    refine ⟨_, rfl, a, [.string s'], rfl, hsp, rfl, ⟨_, _, rfl, ⟨rfl, rfl⟩, rfl⟩, fun i u hu => ⟨not_live0 _ _, ?_⟩⟩
    cases i with
    | zero =>
      cases hu
      obtain ⟨b, o, sp⟩ := a
      simp only at hsp
      subst hsp
      exact hc
    | succ i => simp at hu
  refine ⟨?_, fun _ => ⟨_, t, fz, hh, rfl⟩⟩
  simp only [Rep, RepL] at hr ⊢
  refine ⟨⟨g, 0, none⟩, [.iface 211 (.pointer (some a))], rfl, rfl, rfl, ⟨_, _, rfl, hr, rfl⟩, fun i u hu => ⟨not_live0 _ _, ?_⟩⟩
  cases i with
  | zero =>
    cases hu
    show World.cell? W _ = _
    simp only [World.cell?, hh]
    rfl
  | succ i => simp at hu
theorem mi0 {W : World} (h : laidMetH Tryz.prog laidTabs W) : MI pol (E0 W) := by
  have h1 : laidMet Tryz.prog laidTabs W := h
  refine ⟨rfl, fun i j b p q hi => by simp at hi, fun id o ho => by simp at ho, fun g cs hg => ?_⟩
  unfold pol at hg
  simp only at hg
  repeat' split at hg
  · rename_i hg1
    subst hg1
    cases hg
    exact grep_tab gTab (table h)
  · rename_i hg1
    obtain ⟨_, rfl⟩ := hg1
    cases hg
    exact grep_err h1.tail.tail.tail.tail.tail (by kernel_rfl) (by kernel_rfl)
  · rename_i hg1
    obtain ⟨_, rfl⟩ := hg1
    cases hg
    exact grep_err h1.tail.tail.tail.tail (by kernel_rfl) (by kernel_rfl)
  · cases hg
theorem psS : Tryz.prog.readableRec 9 = true ∧ 9 < Tryz.prog.types.size := ⟨by kernel_rfl, of_decide_eq_true (by kernel_rfl)⟩
theorem psN : Tryz.prog.readableRec 23 = true ∧ 23 < Tryz.prog.types.size := ⟨by kernel_rfl, of_decide_eq_true (by kernel_rfl)⟩
/-- A datum's cells, as values. -/
def valsD (d : DataW Unit) : List Value := (cellsD d).filterMap fun | .sc v => some v | _ => none
noncomputable def lay (vs : List Value) : Obj → Obj
  | .cells _ t frozen => .cells vs.toArray t frozen
  | o => o
/-- A world for the witness: the tables hold what their initialisers lay. -/
noncomputable def world0 (os : Os) : World := World.holding Tryz.prog os ⟨#[.cells #[.string ⟨⟨errS⟩⟩] 213 (0, 0), .cells #[.string ⟨⟨errR⟩⟩] 213 (0, 0)], #[], []⟩
noncomputable def laidWorld (os : Os) : World :=
  { world0 os with heap := ((((((((world0 os).heap.modify 6 (lay (valsD Rows.laid_math_bits_deBruijn32tab))).modify 7 (lay (valsD Rows.laid_math_bits_deBruijn64tab))).modify 3 (lay (valsD Rows.laid_internal_strconv_uint64pow10))).modify
    5 (lay (valsD Rows.laid_unicode_utf8_acceptRanges))).modify 4 (lay (valsD Rows.laid_unicode_utf8_first))).modify 1 (lay [.iface 211 (.pointer (some ⟨(world0 os).heap.size - 2, 0, none⟩))])).modify 2 (lay [.iface 211 (.pointer (some ⟨(world0 os).heap.size - 1, 0, none⟩))])) }
end
end Go.Proofs.YtcmjidnbbfcbjaaGreatDoor.V
/- The layer of known functions is sound; no condition. -/
namespace Go.Proofs.YtcmjidnbbfcbjaaGreatDoor.V
open Go
theorem inF_mem {f : Nat} : ∀ {l : List Nat}, inF f l = true → f ∈ l
  | [], h => by cases h
  | a :: l, h => by
    simp only [inF, Bool.or_eq_true] at h
    rcases h with h | h
    · simp [Nat.eq_of_beq_eq_true h]
    · simp [inF_mem h]
theorem L1.goodP : GoodP Tryz.prog L1.pol := by
  refine layer_good V.goodP fun f hf => ?_
  have h : (fs1.all fun f => (V.pol.dir f).isNone) = true := by kernel_rfl
  simpa using List.all_eq_true.1 h f (inF_mem hf)
end Go.Proofs.YtcmjidnbbfcbjaaGreatDoor.V
