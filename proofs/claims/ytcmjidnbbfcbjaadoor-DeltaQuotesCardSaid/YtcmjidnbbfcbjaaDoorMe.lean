/- Parts of the proof, joined (T1, T2, QT3); no condition. -/
import Derived.Test.YtcmjidnbbfcbjaaDoorMn
import Derived.Carry
import Derived.RowKit
import Derived.OpenShut
import Derived.Deep.Matrix
import Derived.Lib.LaidTab
import Derived.Stop.LaidErr
import Derived.Test.YtcmjidnbbfcbjaaDoorCards
import Derived.Test.YtcmjidnbbfcbjaaDoorTie
import Derived.Test.YtcmjidnbbfcbjaaDoorMd
import Derived.Deep.DeepHandedRow
/- From the VM's run of a law to what the given statement asks of the model's run; no condition. -/
namespace Go.Proofs.YtcmjidnbbfcbjaaDoor.V
open Go Go.ChangeShapes Go.WideShapes Go.RowKit Go.Deep
set_option linter.unusedVariables false
set_option linter.unusedSimpArgs false
noncomputable section
variable {P : Program} {pol : Pol}
theorem below_of {W : World} {E' : En} (x : Ext ⟨W, [], []⟩ E') : Below W.heap.size W E'.w :=
  ⟨x.os, x.tape, x.output, x.size, fun k hk => (x.old k hk (by rintro ⟨id, p, h⟩; simp at h)).2⟩
theorem calls_top (hG : GoodP P pol) {f : FuncId} (hd : pol.dir f = none) {args : List AV} {Q : AV → Mem → Prop} (h : WC P pol ⟨[], 0⟩ (.func f) args [] Q) {W : World} {us : List Value} (hM : MI pol ⟨W, [], []⟩) (hus : RepL ⟨W, [], []⟩ args us) :
    Calls P f us.toArray W fun e w' => ∃ v u E', e = .returned u ∧ Below W.heap.size W w' ∧ Q v E'.m ∧ Rep E' v u := by
  obtain ⟨v, m', ⟨N, hN⟩, hQ⟩ := h
  have hc : callF P pol (vrun P pol N) ⟨[], 0⟩ f args [] = some (v, m') := hN (N + 1) (by omega)
  refine (callF_ok (vm_ok hG N).2 (vrun_keep hG.dirKeep N).2 hG.glob hd hc (E := ⟨W, [], []⟩) rfl hM hus).mono ?_
  rintro e w' ⟨u, E', rfl, rfl, hm, _, x, hr⟩
  exact ⟨v, u, E', rfl, below_of x, by rw [hm]; exact hQ, hr⟩
variable {H : Type} {enc : TypeId × Value → H}
theorem trodAll_below (hl : laidOutB P = true) {W W' : World} (hb : Below W.heap.size W W') : ∀ (ts : List TypeId), (∀ t ∈ ts, P.readableRec t = true ∧ t < P.types.size) → ∀ (vs : List Value) (ds : List (DataW H)) (ps : List MemPlace), (∀ x ∈ ps, x.block < W.heap.size) →
    DataW.TrodAll enc P W 0 (fun _ => true) true ts vs ds ps → DataW.TrodAll enc P W' 0 (fun b => decide (b < W.heap.size)) true ts vs ds ps
  | [], _, vs, ds, ps, _, h => by
    obtain ⟨rfl, rfl, rfl⟩ := trodAll_nil h
    exact h
  | t :: ts, ht, vs, ds, ps, hlt, h => by
    obtain ⟨v, vs', d, ds', p, q, rfl, rfl, rfl, h0, h1⟩ := trodAll_cons h
    obtain ⟨h2, h3⟩ := ht t (by simp)
    exact trodAll_cons_mk (Below.trod hl h2 h3 h0 hb fun x hx => hlt x (by simp [hx])) (trodAll_below hl hb ts (fun t h => ht t (by simp [h])) _ _ _ (fun x hx => hlt x (by simp [hx])) h1)
/-- A law: it answers 'true', and what is handed to it stays. -/
theorem law_contract {s : ChangeSpec} {f : FuncId} {fn : Func} (hd : pol.dir f = none) (hG : GoodP P pol) (hl : laidOutB P = true) (hps : ∀ t ∈ fn.params.toList, P.readableRec t = true ∧ t < P.types.size) (hvars : s.vars = []) {tb : TypeId} (hres : fn.resultTypes = #[tb]) (htb : P.underlying tb = some .bool)
    {W : World} {args : Array Value} {ds gs : List (DataW H)} {before : List MemPlace} (hfn : s.fn H ds = { results := [.lit (.bool true)], args := ds })
    (hW : DataW.Whole enc P fn.params.toList s.vars false W args.toList ds gs before) {avs : List AV} (hM : MI pol ⟨W, [], []⟩) (hus : RepL ⟨W, [], []⟩ avs args.toList) (hvm : WC P pol ⟨[], 0⟩ (.func f) avs [] fun v m' => v = .sc (.bool true) ∧ m' = []) :
    Calls P f args W fun e W' => ∃ v, e = .returned v ∧ s.post enc P fn false true false false W args v W' := by
  have hc := calls_top hG hd hvm hM hus
  rw [show args.toList.toArray = args by simp] at hc
  refine hc.mono ?_
  rintro e W' ⟨v, u, E', rfl, hb, ⟨rfl, _⟩, hr⟩
  simp only [Rep] at hr
  obtain ⟨rfl, _⟩ := hr
  have hlt := hW.lt
  have hW' := hW
  obtain ⟨p, q, hA, hV, rfl, hfz, hnd⟩ := hW
  rw [hvars] at hV
  obtain ⟨rfl, rfl⟩ := trodVars_none hV
  refine ⟨_, rfl, ds, [], _, [], p, [], hW', ?_, ?_, ?_, hb.frame _, fun h => by cases h⟩
  · rw [List.append_nil, hfn, hres]
    exact trodAll_cons_mk (shut_bool htb _) trodAll_mk0
  · rw [List.append_nil, hfn]
    exact trodAll_below hl hb _ hps _ _ _ (fun x hx => hlt x (by simp [hx])) hA
  · rw [List.append_nil, hfn, hvars]; rfl
end
end Go.Proofs.YtcmjidnbbfcbjaaDoor.V
/- What is handed to a law, as values of the VM; no condition. -/
namespace Go.Proofs.YtcmjidnbbfcbjaaDoor.V
open Go Go.ChangeShapes Go.WideShapes Go.RowKit Go.Deep
set_option linter.unusedVariables false
set_option linter.unusedSimpArgs false
noncomputable section
variable {P : Program} {pol : Pol} {H : Type} {enc : TypeId × Value → H}
abbrev E0 (W : World) : En := ⟨W, [], []⟩
theorem not_live0 (W : World) (b : Nat) : ¬ (E0 W).live b := by rintro ⟨id, p, h⟩; simp at h
theorem spot_add {a : Addr} {n : Nat} (h : (a.add n).spot = none) : a.spot = none ∨ (a.add n).block ≠ a.block ∨ True := Or.inr (Or.inr trivial)
theorem rep_lst {W : World} {a : Addr} {n cap : Nat} {cs : List AV} (hn : n ≤ cap) (hlen : cs.length = n) (hleaf : cs.all AV.leaf = true)
    (hspot : ∀ i, i < cap → ∃ u, W.cell? (a.add i) = some u) (h : ∀ i c, cs[i]? = some c → ∃ u, W.cell? (a.add i) = some u ∧ Rep (E0 W) c u) : Rep (E0 W) (.lst n cs false) (.slice (some a) n cap) := by
  have hsp : a.spot = none ∨ cap = 0 := by
    rcases Nat.eq_zero_or_pos cap with h0 | h0
    · exact Or.inr h0
    · obtain ⟨u, hu⟩ := hspot 0 h0
      have := World.cell?_spot hu
      left
      simpa [Addr.add] using this
  have hex : ∀ k, ∃ us : List Value, us.length = min k n ∧ (∀ i u, us[i]? = some u → W.cell? (a.add i) = some u) ∧ RepL (E0 W) (cs.take k) us := by
    intro k
    induction k with
    | zero => exact ⟨[], by simp, by simp, by simpa using RepL.nil⟩
    | succ k ih =>
      obtain ⟨us, h1, h2, h3⟩ := ih
      cases hc : cs[k]? with
      | none =>
        have hk : cs.length ≤ k := by simpa using hc
        refine ⟨us, by omega, h2, ?_⟩
        rw [List.take_of_length_le (by omega)]; rwa [List.take_of_length_le (by omega)] at h3
      | some c =>
        have hk : k < cs.length := (List.getElem?_eq_some_iff.1 hc).1
        obtain ⟨u, hu, hr⟩ := h k c hc
        refine ⟨us ++ [u], by simp; omega, fun i u' hi => ?_, ?_⟩
        · rw [List.getElem?_append] at hi
          split at hi
          · exact h2 i u' hi
          · rename_i hlt
            have : i - us.length = 0 := by
              rcases Nat.eq_zero_or_pos (i - us.length) with h0 | h0
              · exact h0
              · rw [List.getElem?_eq_none (by simp; omega)] at hi; cases hi
            rw [this] at hi
            simp only [List.getElem?_cons_zero, Option.some.injEq] at hi
            subst hi
            rw [show i = k by omega]; exact hu
        · rw [List.take_add_one, hc]
          exact h3.append (RepL.cons hr RepL.nil)
  obtain ⟨us, h1, h2, h3⟩ := hex n
  rw [List.take_of_length_le (by omega)] at h3
  simp only [Rep]
  refine ⟨a, cap, us, rfl, hn, hsp, (fun h => by cases h), hleaf, h3, fun i u hu => ⟨not_live0 _ _, ?_⟩⟩
  have hi := (List.getElem?_eq_some_iff.1 hu).1
  have h4 := h2 i u hu
  have := addr_add' a (hsp.resolve_right (by omega)) i
  rwa [this] at h4
theorem rep_i (W : World) (k : IntKind) (n : Int) : Rep (E0 W) (.sc (.int k n)) (.int k n) := by simp only [Rep]; exact ⟨trivial, rfl⟩
theorem rep_tx (W : World) (s : ByteArray) : Rep (E0 W) (.sc (.string ⟨⟨s.data.toList⟩⟩)) (.string s) := by simp only [Rep]; exact ⟨trivial, rfl⟩
theorem rep_nilS (W : World) : Rep (E0 W) .nilS (.slice none 0 0) := by simp only [Rep]
/-- '[][]int'. -/
theorem open_LL {t e q : TypeId} {W : World} {a0 : Option Addr} {len0 cap0 : Nat} {d : DataW H} {ps : List MemPlace} (ht : P.underlying t = some (.slice e)) (he : P.underlying e = some (.slice q)) (hq : P.underlying q = some (.int .i64)) (ce : P.cellsOf e = 1) (cq : P.cellsOf q = 1)
    (h : DataW.Trod enc P W 0 (fun _ => true) true t (.slice a0 len0 cap0) d ps) : ∃ x : Sl (Sl Int), Rep (E0 W) (sl (sl I) x) (.slice a0 len0 cap0) := by
  obtain ⟨fuel, hf⟩ := h
  rcases open_int_rows ht he hq ce cq hf with ⟨hcs, _⟩ | ⟨a, len, cap, A, L, C, Z, hcs, _, hl, hm, hx, hrows⟩
  · simp [Value.cells] at hcs
    obtain ⟨rfl, rfl, rfl⟩ := hcs
    exact ⟨⟨true, false, []⟩, rep_nilS W⟩
  · simp [Value.cells] at hcs
    obtain ⟨rfl, rfl, rfl⟩ := hcs
    refine ⟨⟨false, false, (List.range len0).map fun r => ⟨(A r).isNone, false, (Z r).take (L r)⟩⟩, ?_⟩
    have e1 : sl (sl I) (⟨false, false, (List.range len0).map fun r => ⟨(A r).isNone, false, (Z r).take (L r)⟩⟩ : Sl (Sl Int)) = .lst len0 ((List.range len0).map fun r => sl I (⟨(A r).isNone, false, (Z r).take (L r)⟩ : Sl Int)) false := by
      simp [sl, Function.comp_def]
    rw [e1]
    refine rep_lst hl (by simp) (by simp [leaf_sl]) (fun i hi => ⟨_, (hrows i hi).1⟩) fun i c hc => ?_
    simp only [List.getElem?_map, Option.map_eq_some_iff] at hc
    obtain ⟨i', hi', rfl⟩ := hc
    have hi : i < len0 := by have := (List.getElem?_eq_some_iff.1 hi').1; simpa using this
    have : i' = i := by rw [List.getElem?_range hi] at hi'; exact (Option.some.inj hi').symm
    subst this
    obtain ⟨h1, h2, h3, h4, h5, h6, h7⟩ := hrows i' (by omega)
    refine ⟨_, h1, ?_⟩
    cases hA : A i' with
    | none =>
      have hC := h6 hA
      have hL : L i' = 0 := by omega
      have hZ : Z i' = [] := List.eq_nil_of_length_eq_zero (by omega)
      rw [hC, hL, hZ]
      exact rep_nilS W
    | some a' =>
      obtain ⟨_, h8⟩ := h7 a' hA
      have hlen : ((Z i').take (L i')).length = L i' := by rw [List.length_take]; omega
      have e2 : sl I (⟨(some a' : Option Addr).isNone, false, (Z i').take (L i')⟩ : Sl Int) = .lst (L i') (((Z i').take (L i')).map I) false := by
        unfold sl; rw [if_neg (by simp), hlen]
      rw [e2]
      refine rep_lst h2 (by rw [List.length_map, hlen]) (by rw [List.all_map, List.all_eq_true]; intro z _; rfl) (fun j hj => ⟨_, h8 j hj⟩) fun j c hc => ?_
      simp only [List.getElem?_map, Option.map_eq_some_iff] at hc
      obtain ⟨z, hz, rfl⟩ := hc
      have hj : j < L i' := by have := (List.getElem?_eq_some_iff.1 hz).1; omega
      refine ⟨_, h8 j (by omega), ?_⟩
      rw [List.getElem?_take, if_pos hj] at hz
      rw [List.getD_eq_getElem?_getD, hz]
      exact rep_i W .i64 z
theorem wf_u8 {n : Int} (h : (Lit.int .u8 n).wf = true) : 0 ≤ n ∧ n ≤ 255 := by
  simp [Lit.wf, IntKind.min, IntKind.max, IntKind.bits, IntKind.signed] at h
  omega
end
end Go.Proofs.YtcmjidnbbfcbjaaDoor.V
/- What the cards of this seat share: the program's closed facts, the tables; no condition. -/
namespace Go.Proofs.YtcmjidnbbfcbjaaDoor.V
open Go Go.ChangeShapes Go.WideShapes Go.RowKit Go.Deep
set_option linter.unusedVariables false
set_option maxRecDepth 100000
noncomputable section
theorem own : ownKnob Tryd.prog.godebug = none := by kernel_rfl
theorem laidOut : laidOutB Tryd.prog = true := by kernel_rfl
theorem dirAll {p : FuncId → DirF → Prop} (h1 : p 60 dSame) (h2 : p 86 (dRaw 5)) : ∀ f d, pol.dir f = some d → p f d := by
  intro f d h
  unfold pol at h
  simp only at h
  split at h
  · rename_i e; subst e; cases h; exact h1
  · split at h
    · rename_i e; subst e; cases h; exact h2
    · cases h
theorem goodP : GoodP Tryd.prog pol := by
  refine ⟨fun f fn hf => ?_, by kernel_rfl, ?_, ?_, ?_, ?_⟩
  · have h : (Tryd.prog.funcs.toList.all fun fn => !(fn.name == "runtime.NumGoroutine")) = true := by kernel_rfl
    rw [List.all_eq_true] at h
    have := h fn (by rw [Array.mem_toList_iff]; exact Array.mem_of_getElem? hf)
    simpa using this
  · intro g cs h n
    unfold pol at h
    simp only at h
    split at h
    · cases h
      rw [lowL_iff]
      intro v hv
      simp only [List.mem_map] at hv
      obtain ⟨z, _, rfl⟩ := hv
      rfl
    · cases h
  · exact dirAll (p := fun f d => DirOk Tryd.prog pol f d) (dSame_ok Tryd.func60 rfl (by kernel_rfl) (by kernel_rfl) (by kernel_rfl) rfl)
      (dRaw_ok Tryd.func86 rfl (by kernel_rfl) (by kernel_rfl) (by kernel_rfl) Tryd.underlying64 (by simp [show pol.mode 86 = .opn from rfl]))
  · exact dirAll (p := fun f d => DirKeep d) dSame_keep (dRaw_keep _)
  · intro f hf
    have : f = 86 := Nat.eq_of_beq_eq_true hf
    subst this; rfl
theorem gTab : Tryd.prog.globalNamed "internal/strconv.uint64pow10" = some 1 := by kernel_rfl
theorem gTabType : (Tryd.prog.globals[1]?).map (·.type) = some 123 := by kernel_rfl
theorem cells20 : Tryd.prog.cellsOf 123 = 20 := by kernel_rfl
theorem cellsU : Tryd.prog.cellsOf 115 = 1 := by kernel_rfl
noncomputable def laidTabs : List (String × DataW Unit) := [("math/bits.deBruijn32tab", Rows.laid_math_bits_deBruijn32tab), ("math/bits.deBruijn64tab", Rows.laid_math_bits_deBruijn64tab), ("internal/strconv.uint64pow10", Rows.laid_internal_strconv_uint64pow10)]
theorem table {W : World} (h : laidMetH Tryd.prog laidTabs W) : Lib.TabIs Tryd.prog W "internal/strconv.uint64pow10" .u64 pow10 := by
  have h1 : laidMet Tryd.prog laidTabs W := h
  exact Lib.tabIs_of_head (rest := []) gTab gTabType Tryd.underlying123 Tryd.underlying115 cellsU cells20 h1.tail.tail
theorem mi0 {W : World} (h : laidMetH Tryd.prog laidTabs W) : MI pol (E0 W) := by
  refine ⟨rfl, fun i j b p q hi => by simp at hi, fun id o ho => by simp at ho, fun g cs hg => ?_⟩
  unfold pol at hg
  simp only at hg
  split at hg
  · rename_i hg1
    subst hg1
    cases hg
    have ht := table h
    simp only [Rep]
    refine ⟨⟨1, 0, none⟩, pow10.map fun z => .int .u64 z, rfl, rfl, by rw [List.all_map, List.all_eq_true]; intro z _; rfl, ?_, fun i u hu => ⟨not_live0 _ _, ?_⟩⟩
    · rw [RepL_iff]
      refine ⟨by simp, fun i c u hc hu => ?_⟩
      simp only [List.getElem?_map, Option.map_eq_some_iff] at hc hu
      obtain ⟨z, hz, rfl⟩ := hc
      obtain ⟨z', hz', rfl⟩ := hu
      rw [hz] at hz'
      cases hz'
      exact rep_i _ _ _
    · simp only [List.getElem?_map, Option.map_eq_some_iff] at hu
      obtain ⟨z, hz, rfl⟩ := hu
      have hi := (List.getElem?_eq_some_iff.1 hz).1
      have := ht.cell gTab i hi
      rw [List.getD_eq_getElem?_getD, hz] at this
      simpa using this
  · cases hg
theorem psS : Tryd.prog.readableRec 9 = true ∧ 9 < Tryd.prog.types.size := ⟨by kernel_rfl, of_decide_eq_true (by kernel_rfl)⟩
theorem psN : Tryd.prog.readableRec 22 = true ∧ 22 < Tryd.prog.types.size := ⟨by kernel_rfl, of_decide_eq_true (by kernel_rfl)⟩
def tab32 : List Int := [0, 1, 28, 2, 29, 14, 24, 3, 30, 22, 20, 15, 25, 17, 4, 8, 31, 27, 13, 23, 21, 19, 16, 7, 26, 12, 18, 6, 11, 5, 10, 9]
def tab64 : List Int := [0,1,56,2,57,49,28,3,61,58,42,50,38,29,17,4,62,47,59,36,45,43,51,22,53,39,33,30,24,18,12,5,63,55,48,27,60,41,37,16,46,35,44,21,52,32,23,11,54,26,40,15,34,20,31,10,25,14,19,9,13,8,7,6]
noncomputable def lay (k : IntKind) (zs : List Int) : Obj → Obj
  | .cells _ t frozen => .cells (zs.map fun z => Value.int k z).toArray t frozen
  | o => o
/-- A world for the witness: the tables hold what their initialisers lay. -/
noncomputable def laidWorld (os : Os) : World :=
  { World.holding Tryd.prog os ⟨#[], #[], []⟩ with heap := (((World.holding Tryd.prog os ⟨#[], #[], []⟩).heap.modify 2 (lay .u8 tab32)).modify 3 (lay .u8 tab64)).modify 1 (lay .u64 pow10) }
theorem fits0 : Fits ⟨[], 0⟩ ([] : Mem).length := fun B hB => by cases hB
end
end Go.Proofs.YtcmjidnbbfcbjaaDoor.V
