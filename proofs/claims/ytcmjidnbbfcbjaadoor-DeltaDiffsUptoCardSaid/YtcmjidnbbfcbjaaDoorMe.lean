/- Parts of the proof, joined (T1, T2, QT3, T4, T5, T6); no condition. -/
import Derived.Test.YtcmjidnbbfcbjaaDoorMn
import Derived.Carry
import Derived.RowKit
import Derived.OpenShut
import Derived.Deep.Matrix
import Derived.Lib.LaidTab
import Derived.Stop.LaidErr
import Derived.Test.YtcmjidnbbfcbjaaDoorCards
import Derived.Test.YtcmjidnbbfcbjaaDoorTie
import Derived.Test.YtcmjidnbbfcbjaaDoorMd
import Derived.Deep.DeepHandedRow
import Derived.ChangeArms
import Derived.Test.YtcmjidnbbfcbjaaDoorMg
import Derived.Test.YtcmjidnbbfcbjaaDoorRows
/- From the VM's run of a law to what the given statement asks of the model's run; no condition. -/
namespace Go.Proofs.YtcmjidnbbfcbjaaDoor.V
open Go Go.ChangeShapes Go.WideShapes Go.RowKit Go.Deep
set_option linter.unusedVariables false
set_option linter.unusedSimpArgs false
noncomputable section
variable {P : Program} {pol : Pol}
theorem below_of {W : World} {E' : En} (x : Ext ⟨W, [], []⟩ E') : Below W.heap.size W E'.w :=
  ⟨x.os, x.tape, x.output, x.size, fun k hk => (x.old k hk (by rintro ⟨id, p, h⟩; simp at h)).2⟩
theorem calls_top (hG : GoodP P pol) {f : FuncId} (hd : pol.dir f = none) {args : List AV} {Q : AV → Mem → Prop} (h : WC P pol ⟨[], 0⟩ (.func f) args [] Q) {W : World} {us : List Value} (hM : MI pol ⟨W, [], []⟩) (hus : RepL ⟨W, [], []⟩ args us) :
    Calls P f us.toArray W fun e w' => ∃ v u E', e = .returned u ∧ Below W.heap.size W w' ∧ Q v E'.m ∧ Rep E' v u := by
  obtain ⟨v, m', ⟨N, hN⟩, hQ⟩ := h
  have hc : callF P pol (vrun P pol N) ⟨[], 0⟩ f args [] = some (v, m') := hN (N + 1) (by omega)
  refine (callF_ok (vm_ok hG N).2 (vrun_keep hG.dirKeep N).2 hG.glob hd hc (E := ⟨W, [], []⟩) rfl hM hus).mono ?_
  rintro e w' ⟨u, E', rfl, rfl, hm, _, x, hr⟩
  exact ⟨v, u, E', rfl, below_of x, by rw [hm]; exact hQ, hr⟩
variable {H : Type} {enc : TypeId × Value → H}
theorem trodAll_below (hl : laidOutB P = true) {W W' : World} (hb : Below W.heap.size W W') : ∀ (ts : List TypeId), (∀ t ∈ ts, P.readableRec t = true ∧ t < P.types.size) → ∀ (vs : List Value) (ds : List (DataW H)) (ps : List MemPlace), (∀ x ∈ ps, x.block < W.heap.size) →
    DataW.TrodAll enc P W 0 (fun _ => true) true ts vs ds ps → DataW.TrodAll enc P W' 0 (fun b => decide (b < W.heap.size)) true ts vs ds ps
  | [], _, vs, ds, ps, _, h => by
    obtain ⟨rfl, rfl, rfl⟩ := trodAll_nil h
    exact h
  | t :: ts, ht, vs, ds, ps, hlt, h => by
    obtain ⟨v, vs', d, ds', p, q, rfl, rfl, rfl, h0, h1⟩ := trodAll_cons h
    obtain ⟨h2, h3⟩ := ht t (by simp)
    exact trodAll_cons_mk (Below.trod hl h2 h3 h0 hb fun x hx => hlt x (by simp [hx])) (trodAll_below hl hb ts (fun t h => ht t (by simp [h])) _ _ _ (fun x hx => hlt x (by simp [hx])) h1)
/-- A law: it answers 'true', and what is handed to it stays. -/
theorem law_contract {s : ChangeSpec} {f : FuncId} {fn : Func} (hd : pol.dir f = none) (hG : GoodP P pol) (hl : laidOutB P = true) (hps : ∀ t ∈ fn.params.toList, P.readableRec t = true ∧ t < P.types.size) (hvars : s.vars = []) {tb : TypeId} (hres : fn.resultTypes = #[tb]) (htb : P.underlying tb = some .bool)
    {W : World} {args : Array Value} {ds gs : List (DataW H)} {before : List MemPlace} (hfn : s.fn H ds = { results := [.lit (.bool true)], args := ds })
    (hW : DataW.Whole enc P fn.params.toList s.vars false W args.toList ds gs before) {avs : List AV} (hM : MI pol ⟨W, [], []⟩) (hus : RepL ⟨W, [], []⟩ avs args.toList) (hvm : WC P pol ⟨[], 0⟩ (.func f) avs [] fun v m' => v = .sc (.bool true) ∧ m' = []) :
    Calls P f args W fun e W' => ∃ v, e = .returned v ∧ s.post enc P fn false true false false W args v W' := by
  have hc := calls_top hG hd hvm hM hus
  rw [show args.toList.toArray = args by simp] at hc
  refine hc.mono ?_
  rintro e W' ⟨v, u, E', rfl, hb, ⟨rfl, _⟩, hr⟩
  simp only [Rep] at hr
  obtain ⟨rfl, _⟩ := hr
  have hlt := hW.lt
  have hW' := hW
  obtain ⟨p, q, hA, hV, rfl, hfz, hnd⟩ := hW
  rw [hvars] at hV
  obtain ⟨rfl, rfl⟩ := trodVars_none hV
  refine ⟨_, rfl, ds, [], _, [], p, [], hW', ?_, ?_, ?_, hb.frame _, fun h => by cases h⟩
  · rw [List.append_nil, hfn, hres]
    exact trodAll_cons_mk (shut_bool htb _) trodAll_mk0
  · rw [List.append_nil, hfn]
    exact trodAll_below hl hb _ hps _ _ _ (fun x hx => hlt x (by simp [hx])) hA
  · rw [List.append_nil, hfn, hvars]; rfl
end
end Go.Proofs.YtcmjidnbbfcbjaaDoor.V
/- What is handed to a law, as values of the VM; no condition. -/
namespace Go.Proofs.YtcmjidnbbfcbjaaDoor.V
open Go Go.ChangeShapes Go.WideShapes Go.RowKit Go.Deep
set_option linter.unusedVariables false
set_option linter.unusedSimpArgs false
noncomputable section
variable {P : Program} {pol : Pol} {H : Type} {enc : TypeId × Value → H}
abbrev E0 (W : World) : En := ⟨W, [], []⟩
theorem not_live0 (W : World) (b : Nat) : ¬ (E0 W).live b := by rintro ⟨id, p, h⟩; simp at h
theorem spot_add {a : Addr} {n : Nat} (h : (a.add n).spot = none) : a.spot = none ∨ (a.add n).block ≠ a.block ∨ True := Or.inr (Or.inr trivial)
theorem rep_lst {W : World} {a : Addr} {n cap : Nat} {cs : List AV} (hn : n ≤ cap) (hlen : cs.length = n) (hleaf : cs.all AV.leaf = true)
    (hspot : ∀ i, i < cap → ∃ u, W.cell? (a.add i) = some u) (h : ∀ i c, cs[i]? = some c → ∃ u, W.cell? (a.add i) = some u ∧ Rep (E0 W) c u) : Rep (E0 W) (.lst n cs false) (.slice (some a) n cap) := by
  have hsp : a.spot = none ∨ cap = 0 := by
    rcases Nat.eq_zero_or_pos cap with h0 | h0
    · exact Or.inr h0
    · obtain ⟨u, hu⟩ := hspot 0 h0
      have := World.cell?_spot hu
      left
      simpa [Addr.add] using this
  have hex : ∀ k, ∃ us : List Value, us.length = min k n ∧ (∀ i u, us[i]? = some u → W.cell? (a.add i) = some u) ∧ RepL (E0 W) (cs.take k) us := by
    intro k
    induction k with
    | zero => exact ⟨[], by simp, by simp, by simpa using RepL.nil⟩
    | succ k ih =>
      obtain ⟨us, h1, h2, h3⟩ := ih
      cases hc : cs[k]? with
      | none =>
        have hk : cs.length ≤ k := by simpa using hc
        refine ⟨us, by omega, h2, ?_⟩
        rw [List.take_of_length_le (by omega)]; rwa [List.take_of_length_le (by omega)] at h3
      | some c =>
        have hk : k < cs.length := (List.getElem?_eq_some_iff.1 hc).1
        obtain ⟨u, hu, hr⟩ := h k c hc
        refine ⟨us ++ [u], by simp; omega, fun i u' hi => ?_, ?_⟩
        · rw [List.getElem?_append] at hi
          split at hi
          · exact h2 i u' hi
          · rename_i hlt
            have : i - us.length = 0 := by
              rcases Nat.eq_zero_or_pos (i - us.length) with h0 | h0
              · exact h0
              · rw [List.getElem?_eq_none (by simp; omega)] at hi; cases hi
            rw [this] at hi
            simp only [List.getElem?_cons_zero, Option.some.injEq] at hi
            subst hi
            rw [show i = k by omega]; exact hu
        · rw [List.take_add_one, hc]
          exact h3.append (RepL.cons hr RepL.nil)
  obtain ⟨us, h1, h2, h3⟩ := hex n
  rw [List.take_of_length_le (by omega)] at h3
  simp only [Rep]
  refine ⟨a, cap, us, rfl, hn, hsp, (fun h => by cases h), hleaf, h3, fun i u hu => ⟨not_live0 _ _, ?_⟩⟩
  have hi := (List.getElem?_eq_some_iff.1 hu).1
  have h4 := h2 i u hu
  have := addr_add' a (hsp.resolve_right (by omega)) i
  rwa [this] at h4
theorem rep_i (W : World) (k : IntKind) (n : Int) : Rep (E0 W) (.sc (.int k n)) (.int k n) := by simp only [Rep]; exact ⟨trivial, rfl⟩
theorem rep_tx (W : World) (s : ByteArray) : Rep (E0 W) (.sc (.string ⟨⟨s.data.toList⟩⟩)) (.string s) := by simp only [Rep]; exact ⟨trivial, rfl⟩
theorem rep_nilS (W : World) : Rep (E0 W) .nilS (.slice none 0 0) := by simp only [Rep]
/-- '[][]int'. -/
theorem open_LL {t e q : TypeId} {W : World} {a0 : Option Addr} {len0 cap0 : Nat} {d : DataW H} {ps : List MemPlace} (ht : P.underlying t = some (.slice e)) (he : P.underlying e = some (.slice q)) (hq : P.underlying q = some (.int .i64)) (ce : P.cellsOf e = 1) (cq : P.cellsOf q = 1)
    (h : DataW.Trod enc P W 0 (fun _ => true) true t (.slice a0 len0 cap0) d ps) : ∃ x : Sl (Sl Int), Rep (E0 W) (sl (sl I) x) (.slice a0 len0 cap0) := by
  obtain ⟨fuel, hf⟩ := h
  rcases open_int_rows ht he hq ce cq hf with ⟨hcs, _⟩ | ⟨a, len, cap, A, L, C, Z, hcs, _, hl, hm, hx, hrows⟩
  · simp [Value.cells] at hcs
    obtain ⟨rfl, rfl, rfl⟩ := hcs
    exact ⟨⟨true, false, []⟩, rep_nilS W⟩
  · simp [Value.cells] at hcs
    obtain ⟨rfl, rfl, rfl⟩ := hcs
    refine ⟨⟨false, false, (List.range len0).map fun r => ⟨(A r).isNone, false, (Z r).take (L r)⟩⟩, ?_⟩
    have e1 : sl (sl I) (⟨false, false, (List.range len0).map fun r => ⟨(A r).isNone, false, (Z r).take (L r)⟩⟩ : Sl (Sl Int)) = .lst len0 ((List.range len0).map fun r => sl I (⟨(A r).isNone, false, (Z r).take (L r)⟩ : Sl Int)) false := by
      simp [sl, Function.comp_def]
    rw [e1]
    refine rep_lst hl (by simp) (by simp [leaf_sl]) (fun i hi => ⟨_, (hrows i hi).1⟩) fun i c hc => ?_
    simp only [List.getElem?_map, Option.map_eq_some_iff] at hc
    obtain ⟨i', hi', rfl⟩ := hc
    have hi : i < len0 := by have := (List.getElem?_eq_some_iff.1 hi').1; simpa using this
    have : i' = i := by rw [List.getElem?_range hi] at hi'; exact (Option.some.inj hi').symm
    subst this
    obtain ⟨h1, h2, h3, h4, h5, h6, h7⟩ := hrows i' (by omega)
    refine ⟨_, h1, ?_⟩
    cases hA : A i' with
    | none =>
      have hC := h6 hA
      have hL : L i' = 0 := by omega
      have hZ : Z i' = [] := List.eq_nil_of_length_eq_zero (by omega)
      rw [hC, hL, hZ]
      exact rep_nilS W
    | some a' =>
      obtain ⟨_, h8⟩ := h7 a' hA
      have hlen : ((Z i').take (L i')).length = L i' := by rw [List.length_take]; omega
      have e2 : sl I (⟨(some a' : Option Addr).isNone, false, (Z i').take (L i')⟩ : Sl Int) = .lst (L i') (((Z i').take (L i')).map I) false := by
        unfold sl; rw [if_neg (by simp), hlen]
      rw [e2]
      refine rep_lst h2 (by rw [List.length_map, hlen]) (by rw [List.all_map, List.all_eq_true]; intro z _; rfl) (fun j hj => ⟨_, h8 j hj⟩) fun j c hc => ?_
      simp only [List.getElem?_map, Option.map_eq_some_iff] at hc
      obtain ⟨z, hz, rfl⟩ := hc
      have hj : j < L i' := by have := (List.getElem?_eq_some_iff.1 hz).1; omega
      refine ⟨_, h8 j (by omega), ?_⟩
      rw [List.getElem?_take, if_pos hj] at hz
      rw [List.getD_eq_getElem?_getD, hz]
      exact rep_i W .i64 z
theorem wf_u8 {n : Int} (h : (Lit.int .u8 n).wf = true) : 0 ≤ n ∧ n ≤ 255 := by
  simp [Lit.wf, IntKind.min, IntKind.max, IntKind.bits, IntKind.signed] at h
  omega
end
end Go.Proofs.YtcmjidnbbfcbjaaDoor.V
/- What the cards of this seat share: the program's closed facts, the tables; no condition. -/
namespace Go.Proofs.YtcmjidnbbfcbjaaDoor.V
open Go Go.ChangeShapes Go.WideShapes Go.RowKit Go.Deep
set_option linter.unusedVariables false
set_option maxRecDepth 100000
noncomputable section
theorem own : ownKnob Tryd.prog.godebug = none := by kernel_rfl
theorem laidOut : laidOutB Tryd.prog = true := by kernel_rfl
theorem dirAll {p : FuncId → DirF → Prop} (h1 : p 60 dSame) (h2 : p 86 (dRaw 5)) : ∀ f d, pol.dir f = some d → p f d := by
  intro f d h
  unfold pol at h
  simp only at h
  split at h
  · rename_i e; subst e; cases h; exact h1
  · split at h
    · rename_i e; subst e; cases h; exact h2
    · cases h
theorem goodP : GoodP Tryd.prog pol := by
  refine ⟨fun f fn hf => ?_, by kernel_rfl, ?_, ?_, ?_, ?_, fun f hf => by cases hf⟩
  · have h : (Tryd.prog.funcs.toList.all fun fn => !(fn.name == "runtime.NumGoroutine")) = true := by kernel_rfl
    rw [List.all_eq_true] at h
    have := h fn (by rw [Array.mem_toList_iff]; exact Array.mem_of_getElem? hf)
    simpa using this
  · intro g cs h n
    unfold pol at h
    simp only at h
    split at h
    · cases h
      rw [lowL_iff]
      intro v hv
      simp only [List.mem_map] at hv
      obtain ⟨z, _, rfl⟩ := hv
      rfl
    · cases h
  · exact dirAll (p := fun f d => DirOk Tryd.prog pol f d) (dSame_ok Tryd.func60 rfl (by kernel_rfl) (by kernel_rfl) (by kernel_rfl) rfl)
      (dRaw_ok Tryd.func86 rfl (by kernel_rfl) (by kernel_rfl) (by kernel_rfl) Tryd.underlying64 (by simp [show pol.mode 86 = .opn from rfl]))
  · exact dirAll (p := fun f d => DirKeep d) dSame_keep (dRaw_keep _)
  · intro f hf
    have : f = 86 := Nat.eq_of_beq_eq_true hf
    subst this; rfl
theorem gTab : Tryd.prog.globalNamed "internal/strconv.uint64pow10" = some 1 := by kernel_rfl
theorem gTabType : (Tryd.prog.globals[1]?).map (·.type) = some 123 := by kernel_rfl
theorem cells20 : Tryd.prog.cellsOf 123 = 20 := by kernel_rfl
theorem cellsU : Tryd.prog.cellsOf 115 = 1 := by kernel_rfl
noncomputable def laidTabs : List (String × DataW Unit) := [("math/bits.deBruijn32tab", Rows.laid_math_bits_deBruijn32tab), ("math/bits.deBruijn64tab", Rows.laid_math_bits_deBruijn64tab), ("internal/strconv.uint64pow10", Rows.laid_internal_strconv_uint64pow10)]
theorem table {W : World} (h : laidMetH Tryd.prog laidTabs W) : Lib.TabIs Tryd.prog W "internal/strconv.uint64pow10" .u64 pow10 := by
  have h1 : laidMet Tryd.prog laidTabs W := h
  exact Lib.tabIs_of_head (rest := []) gTab gTabType Tryd.underlying123 Tryd.underlying115 cellsU cells20 h1.tail.tail
theorem mi0 {W : World} (h : laidMetH Tryd.prog laidTabs W) : MI pol (E0 W) := by
  refine ⟨rfl, fun i j b p q hi => by simp at hi, fun id o ho => by simp at ho, fun g cs hg => ?_⟩
  unfold pol at hg
  simp only at hg
  split at hg
  · rename_i hg1
    subst hg1
    cases hg
    have ht := table h
    simp only [Rep]
    refine ⟨⟨1, 0, none⟩, pow10.map fun z => .int .u64 z, rfl, rfl, by rw [List.all_map, List.all_eq_true]; intro z _; rfl, ?_, fun i u hu => ⟨not_live0 _ _, ?_⟩⟩
    · rw [RepL_iff]
      refine ⟨by simp, fun i c u hc hu => ?_⟩
      simp only [List.getElem?_map, Option.map_eq_some_iff] at hc hu
      obtain ⟨z, hz, rfl⟩ := hc
      obtain ⟨z', hz', rfl⟩ := hu
      rw [hz] at hz'
      cases hz'
      exact rep_i _ _ _
    · simp only [List.getElem?_map, Option.map_eq_some_iff] at hu
      obtain ⟨z, hz, rfl⟩ := hu
      have hi := (List.getElem?_eq_some_iff.1 hz).1
      have := ht.cell gTab i hi
      rw [List.getD_eq_getElem?_getD, hz] at this
      simpa using this
  · cases hg
theorem psS : Tryd.prog.readableRec 9 = true ∧ 9 < Tryd.prog.types.size := ⟨by kernel_rfl, of_decide_eq_true (by kernel_rfl)⟩
theorem psN : Tryd.prog.readableRec 22 = true ∧ 22 < Tryd.prog.types.size := ⟨by kernel_rfl, of_decide_eq_true (by kernel_rfl)⟩
def tab32 : List Int := [0, 1, 28, 2, 29, 14, 24, 3, 30, 22, 20, 15, 25, 17, 4, 8, 31, 27, 13, 23, 21, 19, 16, 7, 26, 12, 18, 6, 11, 5, 10, 9]
def tab64 : List Int := [0,1,56,2,57,49,28,3,61,58,42,50,38,29,17,4,62,47,59,36,45,43,51,22,53,39,33,30,24,18,12,5,63,55,48,27,60,41,37,16,46,35,44,21,52,32,23,11,54,26,40,15,34,20,31,10,25,14,19,9,13,8,7,6]
noncomputable def lay (k : IntKind) (zs : List Int) : Obj → Obj
  | .cells _ t frozen => .cells (zs.map fun z => Value.int k z).toArray t frozen
  | o => o
/-- A world for the witness: the tables hold what their initialisers lay. -/
noncomputable def laidWorld (os : Os) : World :=
  { World.holding Tryd.prog os ⟨#[], #[], []⟩ with heap := (((World.holding Tryd.prog os ⟨#[], #[], []⟩).heap.modify 2 (lay .u8 tab32)).modify 3 (lay .u8 tab64)).modify 1 (lay .u64 pow10) }
end
end Go.Proofs.YtcmjidnbbfcbjaaDoor.V
/- Whatever plain data is handed to a law, as values of the VM; no condition. -/
namespace Go.Proofs.YtcmjidnbbfcbjaaDoor.V
open Go Go.ChangeShapes Go.WideShapes Go.RowKit Go.Deep
set_option linter.unusedVariables false
set_option linter.unusedSimpArgs false
noncomputable section
variable {P : Program} {pol : Pol} {H : Type} {enc : TypeId × Value → H}
mutual
/-- What plain data is in cells. -/
def cellsD : DataW H → List AV
  | .lit (.bool b) => [.sc (.bool b)]
  | .lit (.int k n) => [.sc (.int k n)]
  | .lit (.string l) => [.sc (.string ⟨⟨l⟩⟩)]
  | .nil => [.nilS]
  | .slice es _ => [.lst es.length (cellsDs es) false]
  | .agg ps => cellsDs ps
  | _ => [und]
def cellsDs : List (DataW H) → List AV
  | [] => []
  | d :: ds => cellsD d ++ cellsDs ds
end
theorem cellsDs_flat : ∀ l : List (DataW H), cellsDs l = (l.map cellsD).flatten
  | [] => rfl
  | d :: l => by rw [cellsDs, cellsDs_flat l]; rfl
/-- Types of plain data: no pointer, no map. -/
def plainT (P : Program) : Nat → TypeId → Bool
  | 0, _ => false
  | n + 1, t => match P.underlying t with
    | some .bool | some (.int _) | some .string => P.cellsOf t == 1
    | some (.slice e) => P.cellsOf t == 1 && decide (0 < P.cellsOf e) && plainT P n e
    | some (.struct fs) => fs.toList.foldl (fun o f => match o with | some k => if f.offset = k ∧ plainT P n f.type = true then some (k + P.cellsOf f.type) else none | none => none) (some 0) == some (P.cellsOf t)
    | _ => false
theorem rep_rows {W : World} {a : Addr} {n cap c : Nat} {L : List (List AV)} (hn : n ≤ cap) (hlen : L.length = n) (hc : ∀ l ∈ L, l.length = c) (hleaf : L.flatten.all AV.leaf = true) (hspot : a.spot = none ∨ cap = 0)
    (h : ∀ i l, L[i]? = some l → ∃ us : List Value, (∀ j u, us[j]? = some u → W.cell? (a.add (i * c + j)) = some u) ∧ RepL (E0 W) l us) : Rep (E0 W) (.lst n L.flatten false) (.slice (some a) n cap) := by
  have hex : ∀ k, k ≤ n → ∃ us : List Value, us.length = k * c ∧ (∀ i u, us[i]? = some u → W.cell? (a.add i) = some u) ∧ RepL (E0 W) (L.take k).flatten us := by
    intro k
    induction k with
    | zero => intro _; exact ⟨[], by simp, by simp, by simpa using RepL.nil⟩
    | succ k ih =>
      intro hk
      obtain ⟨us, h1, h2, h3⟩ := ih (by omega)
      obtain ⟨l, hl⟩ : ∃ l, L[k]? = some l := ⟨_, List.getElem?_eq_getElem (by omega)⟩
      obtain ⟨vs, g1, g2⟩ := h k l hl
      have hvl : vs.length = c := by rw [← g2.length]; exact hc l (List.mem_of_getElem? hl)
      refine ⟨us ++ vs, by rw [List.length_append, h1, hvl, Nat.succ_mul], fun i u hi => ?_, ?_⟩
      · rw [List.getElem?_append] at hi
        split at hi
        · exact h2 i u hi
        · have := g1 _ _ hi
          rw [show k * c + (i - us.length) = i by omega] at this
          exact this
      · rw [List.take_add_one, hl, List.flatten_append]
        refine h3.append ?_
        simpa using g2
  obtain ⟨us, h1, h2, h3⟩ := hex n (Nat.le_refl _)
  rw [List.take_of_length_le (by omega)] at h3
  simp only [Rep]
  refine ⟨a, cap, us, rfl, hn, hspot, (fun h => by cases h), hleaf, h3, fun i u hu => ⟨not_live0 _ _, ?_⟩⟩
  have hi := (List.getElem?_eq_some_iff.1 hu).1
  have h4 := h2 i u hu
  rcases hspot with hs | h0
  · rwa [addr_add' a hs i] at h4
  · have : n = 0 := by omega
    subst this
    rw [h1] at hi; omega
theorem fields_open {W : World} {base : Nat} {held : Bool} {n m : Nat} {cs : List Value} (ih : ∀ t cs (x : DataW H × List MemPlace), plainT P n t = true → DataW.trod enc P W base (fun _ => true) held m t cs = some x → (cellsD x.1).length = P.cellsOf t ∧ (cellsD x.1).all AV.leaf = true ∧ RepL (E0 W) (cellsD x.1) cs) :
    ∀ (fs : List Field) (xs : List (DataW H × List MemPlace)) (o e : Nat), xs.length = fs.length → (∀ (i : Nat) (f : Field), fs[i]? = some f → DataW.trod enc P W base (fun _ => true) held m f.type ((cs.drop f.offset).take (P.cellsOf f.type)) = xs[i]?) →
      fs.foldl (fun o f => match o with | some k => if f.offset = k ∧ plainT P n f.type = true then some (k + P.cellsOf f.type) else none | none => none) (some o) = some e →
      o ≤ e ∧ (cellsDs (xs.map (·.1))).length = e - o ∧ (cellsDs (xs.map (·.1))).all AV.leaf = true ∧ RepL (E0 W) (cellsDs (xs.map (·.1))) ((cs.drop o).take (e - o))
  | [], xs, o, e, hl, _, hf => by
    have : xs = [] := List.eq_nil_of_length_eq_zero hl
    subst this
    simp only [List.foldl_nil, Option.some.injEq] at hf
    subst hf
    simp [cellsDs, RepL]
  | f :: fs, xs, o, e, hl, hx, hf => by
    obtain ⟨x, xs, rfl⟩ : ∃ x xs', xs = x :: xs' := by cases xs with | nil => simp at hl | cons x xs => exact ⟨x, xs, rfl⟩
    rw [List.foldl_cons] at hf
    simp only at hf
    have none_fold : ∀ l : List Field, l.foldl (fun o f => match o with | some k => if f.offset = k ∧ plainT P n f.type = true then some (k + P.cellsOf f.type) else none | none => none) (none : Option Nat) = none := by
      intro l; induction l with
      | nil => rfl
      | cons a l ih => rw [List.foldl_cons]; exact ih
    split at hf
    · rename_i h1
      obtain ⟨rfl, hp⟩ := h1
      have h0 := hx 0 f rfl
      obtain ⟨k1, k2, k3⟩ := ih f.type _ x hp h0
      obtain ⟨g1, g2, g3, g4⟩ := fields_open ih fs xs _ e (by simpa using hl) (fun i f hf => hx (i + 1) f (by simpa using hf)) hf
      have he : e - f.offset = P.cellsOf f.type + (e - (f.offset + P.cellsOf f.type)) := by omega
      refine ⟨by omega, by rw [List.map_cons, cellsDs, List.length_append, k1, g2]; omega, by rw [List.map_cons, cellsDs, List.all_append, k2, g3]; rfl, ?_⟩
      rw [List.map_cons, cellsDs, he, List.take_add, List.drop_drop]
      exact k3.append g4
    · rw [none_fold] at hf; cases hf
theorem plain_open {W : World} {base : Nat} {held : Bool} : ∀ (n t m : Nat) (cs : List Value) (x : DataW H × List MemPlace), plainT P n t = true → DataW.trod enc P W base (fun _ => true) held m t cs = some x →
    (cellsD x.1).length = P.cellsOf t ∧ (cellsD x.1).all AV.leaf = true ∧ RepL (E0 W) (cellsD x.1) cs
  | 0, t, m, cs, x, h, _ => by cases h
  | n + 1, t, m, cs, x, h, hx => by
    unfold plainT at h
    split at h
    · rename_i ht
      obtain ⟨b, rfl, rfl⟩ := DataW.trod_bool ht hx
      exact ⟨(by simpa using h : P.cellsOf t = 1).symm, rfl, RepL.cons (by simp only [Rep]; exact ⟨trivial, rfl⟩) RepL.nil⟩
    · rename_i k ht
      obtain ⟨z, rfl, rfl, _⟩ := DataW.trod_int ht hx
      exact ⟨(by simpa using h : P.cellsOf t = 1).symm, rfl, RepL.cons (rep_i _ _ _) RepL.nil⟩
    · rename_i ht
      obtain ⟨s, rfl, rfl, _⟩ := DataW.trod_string ht hx
      exact ⟨(by simpa using h : P.cellsOf t = 1).symm, rfl, RepL.cons (rep_tx _ _) RepL.nil⟩
    · rename_i e ht
      simp only [Bool.and_eq_true, decide_eq_true_eq, beq_iff_eq] at h
      obtain ⟨⟨h1, h2⟩, h3⟩ := h
      rcases DataW.trod_slice ht hx with ⟨rfl, rfl⟩ | ⟨a, len, cap, elems, rest, k, rfl, rfl, rfl, hb, hl, hm, hlen, hel, hsp, _⟩
      · exact ⟨h1.symm, rfl, RepL.cons (rep_nilS _) RepL.nil⟩
      · refine ⟨h1.symm, rfl, RepL.cons ?_ RepL.nil⟩
        have each : ∀ i (y : DataW H × List MemPlace), elems[i]? = some y → ∃ us : List Value, W.cells? base (a.add (i * P.cellsOf e)) (P.cellsOf e) = some us ∧ (cellsD y.1).length = P.cellsOf e ∧ (cellsD y.1).all AV.leaf = true ∧ RepL (E0 W) (cellsD y.1) us := fun i y hy => by
          have hi : i < len := by rw [← hlen]; exact (List.getElem?_eq_some_iff.1 hy).1
          have := hel i hi
          rw [hy] at this
          obtain ⟨us, g1, g2⟩ := Option.bind_eq_some_iff.1 this
          exact ⟨us, g1, plain_open n e k us y h3 g2⟩
        rw [cellsDs_flat, List.map_map, List.length_map, hlen]
        refine rep_rows (c := P.cellsOf e) hl (by simp [hlen]) ?_ ?_ ?_ ?_
        · intro l hl
          rw [List.mem_map] at hl
          obtain ⟨y, hy, rfl⟩ := hl
          obtain ⟨i, hi⟩ := List.getElem?_of_mem hy
          obtain ⟨_, _, g, _⟩ := each i y hi
          exact g
        · rw [List.all_eq_true]
          intro c hc
          rw [List.mem_flatten] at hc
          obtain ⟨l, hl, hc⟩ := hc
          rw [List.mem_map] at hl
          obtain ⟨y, hy, rfl⟩ := hl
          obtain ⟨i, hi⟩ := List.getElem?_of_mem hy
          obtain ⟨_, _, _, g, _⟩ := each i y hi
          exact List.all_eq_true.1 g c hc
        · rcases Nat.eq_zero_or_pos cap with h0 | h0
          · exact Or.inr h0
          · left
            have hread : ∃ us : List Value, W.cells? base (a.add (0 * P.cellsOf e)) (P.cellsOf e) = some us := by
              rcases Nat.eq_zero_or_pos len with hz | hz
              · obtain ⟨hr1, hr2⟩ := hsp rfl
                have := hr2 0 (by omega)
                rw [hz, Nat.zero_add, List.getElem?_eq_getElem (by omega)] at this
                obtain ⟨us, g1, _⟩ := Option.bind_eq_some_iff.1 this
                exact ⟨us, g1⟩
              · have := hel 0 hz
                rw [List.getElem?_eq_getElem (by omega)] at this
                obtain ⟨us, g1, _⟩ := Option.bind_eq_some_iff.1 this
                exact ⟨us, g1⟩
            obtain ⟨us, hu⟩ := hread
            obtain ⟨_, hul, huc⟩ := World.cells?_some hu
            have := huc 0 h2
            rw [List.getElem?_eq_getElem (by omega)] at this
            have := World.cell?_spot this
            simpa [Addr.add] using this
        · intro i l hil
          rw [List.getElem?_map, Option.map_eq_some_iff] at hil
          obtain ⟨y, hy, rfl⟩ := hil
          obtain ⟨us, g1, _, _, g3⟩ := each i y hy
          obtain ⟨_, hul, huc⟩ := World.cells?_some g1
          refine ⟨us, fun j u hj => ?_, g3⟩
          have hj' := (List.getElem?_eq_some_iff.1 hj).1
          have := huc j (by omega)
          rw [add_add] at this
          rw [this, hj]
    · rename_i fs ht
      rw [beq_iff_eq] at h
      obtain ⟨xs, k, rfl, rfl, hl, hxl, hf⟩ := DataW.trod_struct ht hx
      obtain ⟨_, g1, g2, g3⟩ := fields_open (n := n) (m := k) (cs := cs) (fun t cs x hp hx => plain_open n t k cs x hp hx) fs.toList xs 0 _ (by simpa using hxl) (fun i f hi => hf i f (by simpa using hi)) h
      simp only [cellsD, Nat.sub_zero, List.drop_zero] at g1 g2 g3 ⊢
      rw [List.take_of_length_le (by omega)] at g3
      exact ⟨g1, g2, g3⟩
    · cases h
/-- What a datum says of an argument that is no struct. -/
theorem plain_arg {W : World} {t : TypeId} {v : Value} {d : DataW H} {ps : List MemPlace} (n : Nat) (hp : plainT P n t = true) (hv : ∀ cs, v ≠ .agg cs) (h : DataW.Trod enc P W 0 (fun _ => true) true t v d ps) : ∃ c, cellsD d = [c] ∧ Rep (E0 W) c v := by
  obtain ⟨m, hm⟩ := h
  obtain ⟨_, _, g⟩ := plain_open n t m _ _ hp hm
  have : v.cells.toList = [v] := by cases v <;> first | rfl | exact absurd rfl (hv _)
  rw [this] at g
  have hl := g.length
  match hc : cellsD d, hl with
  | [c], _ =>
    rw [hc] at g
    obtain ⟨u, hu, hr⟩ := g.get (i := 0) rfl
    simp only [List.getElem?_cons_zero, Option.some.injEq] at hu
    subst hu
    exact ⟨c, rfl, hr⟩
end
end Go.Proofs.YtcmjidnbbfcbjaaDoor.V
/- Nodes that are handed to a law; no condition. -/
namespace Go.Proofs.YtcmjidnbbfcbjaaDoor.V
open Go Go.ChangeShapes Go.WideShapes Go.RowKit Go.Deep
set_option linter.unusedVariables false
set_option linter.unusedSimpArgs false
set_option maxRecDepth 100000
noncomputable section
variable {P : Program} {pol : Pol} {H : Type} {enc : TypeId × Value → H}
theorem slice_datum {α : Type} {g : α → DataW H} {W : World} {base m : Nat} {held : Bool} {sp : Nat → Bool} {t e : TypeId} {cs : List Value} {x : DataW H × List MemPlace} (ht : P.underlying t = some (.slice e))
    (he : ∀ m cs (x : DataW H × List MemPlace), DataW.trod enc P W base sp held m e cs = some x → ∃ a, x.1 = g a) (h : DataW.trod enc P W base sp held m t cs = some x) : x.1 = .nil ∨ ∃ (l : List α) (spare : List (DataW H)), x.1 = .slice (l.map g) spare := by
  rcases DataW.trod_slice ht h with ⟨_, rfl⟩ | ⟨a, len, cap, elems, rest, k, rfl, rfl, rfl, hb, hl, hm, hlen, hel, hsp, _⟩
  · exact Or.inl rfl
  · right
    have each : ∀ (l : List (DataW H × List MemPlace)), (∀ y ∈ l, ∃ a, y.1 = g a) → ∃ l' : List α, l.map (·.1) = l'.map g := by
      intro l
      induction l with
      | nil => intro _; exact ⟨[], rfl⟩
      | cons y l ih =>
        intro h
        obtain ⟨a, ha⟩ := h y (by simp)
        obtain ⟨l', hl'⟩ := ih fun y hy => h y (by simp [hy])
        exact ⟨a :: l', by simp [ha, hl']⟩
    obtain ⟨l', hl'⟩ := each elems fun y hy => by
      obtain ⟨i, hi⟩ := List.getElem?_of_mem hy
      have hi' : i < len := by rw [← hlen]; exact (List.getElem?_eq_some_iff.1 hi).1
      have := hel i hi'
      rw [hi] at this
      obtain ⟨us, _, g2⟩ := Option.bind_eq_some_iff.1 this
      exact he k us y g2
    exact ⟨l', _, by rw [← hl']⟩
theorem bulk_map {α : Type} (g : α → DataW H) (l : List α) : l.length ≤ Rows.uptoBulkAll (l.map g) + l.length ∧ ∀ a ∈ l, Rows.uptoBulk (g a) ≤ Rows.uptoBulkAll (l.map g) := by
  refine ⟨by omega, ?_⟩
  induction l with
  | nil => intro a ha; simp at ha
  | cons b l ih =>
    intro a ha
    rw [List.map_cons, Rows.uptoBulkAll]
    rcases List.mem_cons.1 ha with rfl | ha
    · omega
    · have := ih a ha; omega
theorem bulk_len {α : Type} (g : α → DataW H) (hg : ∀ a, 1 ≤ Rows.uptoBulk (g a)) (l : List α) : l.length ≤ Rows.uptoBulkAll (l.map g) := by
  induction l with
  | nil => simp
  | cons b l ih => rw [List.map_cons, Rows.uptoBulkAll, List.length_cons]; have := hg b; omega
def ndD (n : Nd) : DataW H := .agg [.lit (.string n.path), .lit (.bool n.dir), .lit (.string n.data), .lit (.string n.first)]
theorem cells_ndD (n : Nd) : cellsD (ndD n : DataW H) = ndC n := by simp [ndD, cellsD, cellsDs, ndC]
theorem cells_map {α : Type} {f : α → List AV} {g : α → DataW H} (h : ∀ a, cellsD (g a) = f a) : ∀ l : List α, cellsDs (l.map g) = l.flatMap f
  | [] => rfl
  | a :: l => by rw [List.map_cons, cellsDs, h, cells_map h l, List.flatMap_cons]
theorem node_datum {W : World} {base m : Nat} {held : Bool} {sp : Nat → Bool} {cs : List Value} {x : DataW H × List MemPlace} (h : DataW.trod enc Tryd.prog W base sp held m 47 cs = some x) : ∃ n : Nd, x.1 = ndD n := by
  obtain ⟨xs, k, rfl, rfl, hl, hxl, hf⟩ := DataW.trod_struct Tryd.underlying47 h
  match xs, hxl with
  | [x0, x1, x2, x3], _ =>
    obtain ⟨s0, _, h0, _⟩ := DataW.trod_string Tryd.underlying9 (hf 0 _ rfl)
    obtain ⟨s1, _, h1⟩ := DataW.trod_bool Tryd.underlying4 (hf 1 _ rfl)
    obtain ⟨s2, _, h2, _⟩ := DataW.trod_string Tryd.underlying9 (hf 2 _ rfl)
    obtain ⟨s3, _, h3, _⟩ := DataW.trod_string Tryd.underlying9 (hf 3 _ rfl)
    exact ⟨⟨s0.data.toList, s1, s2.data.toList, s3.data.toList⟩, by simp [h0, h1, h2, h3, ndD]⟩
theorem plainNd : plainT Tryd.prog 3 22 = true := by kernel_rfl
/-- Nodes that are handed to a law. -/
theorem open_nodes {W : World} {a0 : Option Addr} {len0 cap0 : Nat} {d : DataW H} {ps : List MemPlace} (h : DataW.Trod enc Tryd.prog W 0 (fun _ => true) true 22 (.slice a0 len0 cap0) d ps) :
    ∃ x : Sl Nd, Rep (E0 W) (slf ndC x) (.slice a0 len0 cap0) ∧ (Rows.uptoBulk d ≤ 1048576 → FitT x.l) := by
  obtain ⟨c, hc, hr⟩ := plain_arg 3 plainNd (fun _ h => by cases h) h
  obtain ⟨m, hm⟩ := h
  rcases slice_datum Tryd.underlying22 (fun m cs x h => node_datum h) hm with hd | ⟨l, spare, hd⟩
  · simp only at hd
    subst hd
    simp only [cellsD, List.cons.injEq, and_true] at hc
    subst hc
    exact ⟨⟨true, false, []⟩, hr, fun _ => ⟨by simp, by simp, by simp, by simp⟩⟩
  · simp only at hd
    subst hd
    simp only [cellsD, List.cons.injEq, and_true, List.length_map, cells_map cells_ndD] at hc
    subst hc
    refine ⟨⟨false, false, l⟩, hr, fun hb => ?_⟩
    rw [Rows.uptoBulk] at hb
    have h1 := bulk_len (H := H) ndD (fun n => by simp [ndD, Rows.uptoBulk]) l
    have h2 := (bulk_map (H := H) ndD l).2
    have h3 : ∀ n : Nd, Rows.uptoBulk (ndD n : DataW H) = n.path.length + 1 + (1 + (n.data.length + 1 + (n.first.length + 1))) + 1 := fun n => by simp [ndD, Rows.uptoBulk, Rows.uptoBulkAll]
    refine ⟨by simp only; omega, fun n hn => ?_, fun n hn => ?_, fun n hn => ?_⟩ <;> (have := h2 n hn; rw [h3] at this; omega)
theorem bulk2 {d0 d1 : DataW H} (h : Rows.uptoSmall H [d0, d1] = true) : Rows.uptoBulk d0 ≤ 1048576 ∧ Rows.uptoBulk d1 ≤ 1048576 := by
  have h : Rows.uptoBulkAll [d0, d1] ≤ 1048576 := of_decide_eq_true h
  have e : Rows.uptoBulkAll [d0, d1] = Rows.uptoBulk d0 + (Rows.uptoBulk d1 + 0) := by simp only [Rows.uptoBulkAll]
  omega
end
end Go.Proofs.YtcmjidnbbfcbjaaDoor.V
/- The layer of known functions is sound; no condition. -/
namespace Go.Proofs.YtcmjidnbbfcbjaaDoor.V
open Go
theorem inF_mem {f : Nat} : ∀ {l : List Nat}, inF f l = true → f ∈ l
  | [], h => by cases h
  | a :: l, h => by
    simp only [inF, Bool.or_eq_true] at h
    rcases h with h | h
    · simp [Nat.eq_of_beq_eq_true h]
    · simp [inF_mem h]
theorem L1.goodP : GoodP Tryd.prog L1.pol := by
  refine layer_good V.goodP fun f hf => ?_
  have h : (fs1.all fun f => (V.pol.dir f).isNone) = true := by kernel_rfl
  simpa using List.all_eq_true.1 h f (inF_mem hf)
end Go.Proofs.YtcmjidnbbfcbjaaDoor.V
