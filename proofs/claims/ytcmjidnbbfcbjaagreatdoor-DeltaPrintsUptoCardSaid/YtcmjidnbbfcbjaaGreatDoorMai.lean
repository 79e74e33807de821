/- Parts of the proof, joined (T1, T2, T4); no condition. -/
import Derived.Test.YtcmjidnbbfcbjaaGreatDoorMae
import Derived.Carry
import Derived.RowKit
import Derived.OpenShut
import Derived.Deep.Matrix
import Derived.Lib.LaidTab
import Derived.Stop.LaidErr
import Derived.ChangeArms
/- From the VM's run of a law to what the given statement asks of the model's run; no condition. -/
namespace Go.Proofs.YtcmjidnbbfcbjaaGreatDoor.V
open Go Go.ChangeShapes Go.WideShapes Go.RowKit Go.Deep
set_option linter.unusedVariables false
set_option linter.unusedSimpArgs false
noncomputable section
variable {P : Program} {pol : Pol}
theorem below_of {W : World} {E' : En} (x : Ext ⟨W, [], []⟩ E') : Below W.heap.size W E'.w :=
  ⟨x.os, x.tape, x.output, x.size, fun k hk => (x.old k hk (by rintro ⟨id, p, h⟩; simp at h)).2⟩
theorem calls_top (hG : GoodP P pol) {f : FuncId} (hd : pol.dir f = none) {args : List AV} {Q : AV → Mem → Prop} (h : WC P pol ⟨[], 0⟩ (.func f) args [] Q) {W : World} {us : List Value} (hM : MI pol ⟨W, [], []⟩) (hus : RepL ⟨W, [], []⟩ args us) :
    Calls P f us.toArray W fun e w' => ∃ v u E', e = .returned u ∧ Below W.heap.size W w' ∧ Q v E'.m ∧ Rep E' v u := by
  obtain ⟨v, m', ⟨N, hN⟩, hQ⟩ := h
  have hc : callF P pol (vrun P pol N) ⟨[], 0⟩ f args [] = some (v, m') := hN (N + 1) (by omega)
  refine (callF_ok (vm_ok hG N).2 (vrun_keep hG.dirKeep N).2 hG.glob hd hc (E := ⟨W, [], []⟩) rfl hM hus).mono ?_
  rintro e w' ⟨u, E', rfl, rfl, hm, _, x, hr⟩
  exact ⟨v, u, E', rfl, below_of x, by rw [hm]; exact hQ, hr⟩
variable {H : Type} {enc : TypeId × Value → H}
theorem trodAll_below (hl : laidOutB P = true) {W W' : World} (hb : Below W.heap.size W W') : ∀ (ts : List TypeId), (∀ t ∈ ts, P.readableRec t = true ∧ t < P.types.size) → ∀ (vs : List Value) (ds : List (DataW H)) (ps : List MemPlace), (∀ x ∈ ps, x.block < W.heap.size) →
    DataW.TrodAll enc P W 0 (fun _ => true) true ts vs ds ps → DataW.TrodAll enc P W' 0 (fun b => decide (b < W.heap.size)) true ts vs ds ps
  | [], _, vs, ds, ps, _, h => by
    obtain ⟨rfl, rfl, rfl⟩ := trodAll_nil h
    exact h
  | t :: ts, ht, vs, ds, ps, hlt, h => by
    obtain ⟨v, vs', d, ds', p, q, rfl, rfl, rfl, h0, h1⟩ := trodAll_cons h
    obtain ⟨h2, h3⟩ := ht t (by simp)
    exact trodAll_cons_mk (Below.trod hl h2 h3 h0 hb fun x hx => hlt x (by simp [hx])) (trodAll_below hl hb ts (fun t h => ht t (by simp [h])) _ _ _ (fun x hx => hlt x (by simp [hx])) h1)
/-- A law: it answers 'true', and what is handed to it stays. -/
theorem law_contract {s : ChangeSpec} {f : FuncId} {fn : Func} (hd : pol.dir f = none) (hG : GoodP P pol) (hl : laidOutB P = true) (hps : ∀ t ∈ fn.params.toList, P.readableRec t = true ∧ t < P.types.size) (hvars : s.vars = []) {tb : TypeId} (hres : fn.resultTypes = #[tb]) (htb : P.underlying tb = some .bool)
    {W : World} {args : Array Value} {ds gs : List (DataW H)} {before : List MemPlace} (hfn : s.fn H ds = { results := [.lit (.bool true)], args := ds })
    (hW : DataW.Whole enc P fn.params.toList s.vars false W args.toList ds gs before) {avs : List AV} (hM : MI pol ⟨W, [], []⟩) (hus : RepL ⟨W, [], []⟩ avs args.toList) (hvm : WC P pol ⟨[], 0⟩ (.func f) avs [] fun v m' => v = .sc (.bool true) ∧ m' = []) :
    Calls P f args W fun e W' => ∃ v, e = .returned v ∧ s.post enc P fn false true false false W args v W' := by
  have hc := calls_top hG hd hvm hM hus
  rw [show args.toList.toArray = args by simp] at hc
  refine hc.mono ?_
  rintro e W' ⟨v, u, E', rfl, hb, ⟨rfl, _⟩, hr⟩
  simp only [Rep] at hr
  obtain ⟨rfl, _⟩ := hr
  have hlt := hW.lt
  have hW' := hW
  obtain ⟨p, q, hA, hV, rfl, hfz, hnd⟩ := hW
  rw [hvars] at hV
  obtain ⟨rfl, rfl⟩ := trodVars_none hV
  refine ⟨_, rfl, ds, [], _, [], p, [], hW', ?_, ?_, ?_, hb.frame _, fun h => by cases h⟩
  · rw [List.append_nil, hfn, hres]
    exact trodAll_cons_mk (shut_bool htb _) trodAll_mk0
  · rw [List.append_nil, hfn]
    exact trodAll_below hl hb _ hps _ _ _ (fun x hx => hlt x (by simp [hx])) hA
  · rw [List.append_nil, hfn, hvars]; rfl
end
end Go.Proofs.YtcmjidnbbfcbjaaGreatDoor.V
/- What is handed to a law, as values of the VM; no condition. -/
namespace Go.Proofs.YtcmjidnbbfcbjaaGreatDoor.V
open Go Go.ChangeShapes Go.WideShapes Go.RowKit Go.Deep
set_option linter.unusedVariables false
set_option linter.unusedSimpArgs false
noncomputable section
variable {P : Program} {pol : Pol} {H : Type} {enc : TypeId × Value → H}
abbrev E0 (W : World) : En := ⟨W, [], []⟩
theorem not_live0 (W : World) (b : Nat) : ¬ (E0 W).live b := by rintro ⟨id, p, h⟩; simp at h
theorem spot_add {a : Addr} {n : Nat} (h : (a.add n).spot = none) : a.spot = none ∨ (a.add n).block ≠ a.block ∨ True := Or.inr (Or.inr trivial)
theorem rep_lst {W : World} {a : Addr} {n cap : Nat} {cs : List AV} (hn : n ≤ cap) (hlen : cs.length = n) (hleaf : cs.all AV.leaf = true)
    (hspot : ∀ i, i < cap → ∃ u, W.cell? (a.add i) = some u) (h : ∀ i c, cs[i]? = some c → ∃ u, W.cell? (a.add i) = some u ∧ Rep (E0 W) c u) : Rep (E0 W) (.lst n cs false) (.slice (some a) n cap) := by
  have hsp : a.spot = none ∨ cap = 0 := by
    rcases Nat.eq_zero_or_pos cap with h0 | h0
    · exact Or.inr h0
    · obtain ⟨u, hu⟩ := hspot 0 h0
      have := World.cell?_spot hu
      left
      simpa [Addr.add] using this
  have hex : ∀ k, ∃ us : List Value, us.length = min k n ∧ (∀ i u, us[i]? = some u → W.cell? (a.add i) = some u) ∧ RepL (E0 W) (cs.take k) us := by
    intro k
    induction k with
    | zero => exact ⟨[], by simp, by simp, by simpa using RepL.nil⟩
    | succ k ih =>
      obtain ⟨us, h1, h2, h3⟩ := ih
      cases hc : cs[k]? with
      | none =>
        have hk : cs.length ≤ k := by simpa using hc
        refine ⟨us, by omega, h2, ?_⟩
        rw [List.take_of_length_le (by omega)]; rwa [List.take_of_length_le (by omega)] at h3
      | some c =>
        have hk : k < cs.length := (List.getElem?_eq_some_iff.1 hc).1
        obtain ⟨u, hu, hr⟩ := h k c hc
        refine ⟨us ++ [u], by simp; omega, fun i u' hi => ?_, ?_⟩
        · rw [List.getElem?_append] at hi
          split at hi
          · exact h2 i u' hi
          · rename_i hlt
            have : i - us.length = 0 := by
              rcases Nat.eq_zero_or_pos (i - us.length) with h0 | h0
              · exact h0
              · rw [List.getElem?_eq_none (by simp; omega)] at hi; cases hi
            rw [this] at hi
            simp only [List.getElem?_cons_zero, Option.some.injEq] at hi
            subst hi
            rw [show i = k by omega]; exact hu
        · rw [List.take_add_one, hc]
          exact h3.append (RepL.cons hr RepL.nil)
  obtain ⟨us, h1, h2, h3⟩ := hex n
  rw [List.take_of_length_le (by omega)] at h3
  simp only [Rep]
  refine ⟨a, cap, us, rfl, hn, hsp, (fun h => by cases h), hleaf, h3, fun i u hu => ⟨not_live0 _ _, ?_⟩⟩
  have hi := (List.getElem?_eq_some_iff.1 hu).1
  have h4 := h2 i u hu
  have := addr_add' a (hsp.resolve_right (by omega)) i
  rwa [this] at h4
theorem rep_i (W : World) (k : IntKind) (n : Int) : Rep (E0 W) (.sc (.int k n)) (.int k n) := by simp only [Rep]; exact ⟨trivial, rfl⟩
theorem rep_tx (W : World) (s : ByteArray) : Rep (E0 W) (.sc (.string ⟨⟨s.data.toList⟩⟩)) (.string s) := by simp only [Rep]; exact ⟨trivial, rfl⟩
theorem rep_nilS (W : World) : Rep (E0 W) .nilS (.slice none 0 0) := by simp only [Rep]
/-- '[][]int'. -/
theorem open_LL {t e q : TypeId} {W : World} {a0 : Option Addr} {len0 cap0 : Nat} {d : DataW H} {ps : List MemPlace} (ht : P.underlying t = some (.slice e)) (he : P.underlying e = some (.slice q)) (hq : P.underlying q = some (.int .i64)) (ce : P.cellsOf e = 1) (cq : P.cellsOf q = 1)
    (h : DataW.Trod enc P W 0 (fun _ => true) true t (.slice a0 len0 cap0) d ps) : ∃ x : Sl (Sl Int), Rep (E0 W) (sl (sl I) x) (.slice a0 len0 cap0) := by
  obtain ⟨fuel, hf⟩ := h
  rcases open_int_rows ht he hq ce cq hf with ⟨hcs, _⟩ | ⟨a, len, cap, A, L, C, Z, hcs, _, hl, hm, hx, hrows⟩
  · simp [Value.cells] at hcs
    obtain ⟨rfl, rfl, rfl⟩ := hcs
    exact ⟨⟨true, false, []⟩, rep_nilS W⟩
  · simp [Value.cells] at hcs
    obtain ⟨rfl, rfl, rfl⟩ := hcs
    refine ⟨⟨false, false, (List.range len0).map fun r => ⟨(A r).isNone, false, (Z r).take (L r)⟩⟩, ?_⟩
    have e1 : sl (sl I) (⟨false, false, (List.range len0).map fun r => ⟨(A r).isNone, false, (Z r).take (L r)⟩⟩ : Sl (Sl Int)) = .lst len0 ((List.range len0).map fun r => sl I (⟨(A r).isNone, false, (Z r).take (L r)⟩ : Sl Int)) false := by
      simp [sl, Function.comp_def]
    rw [e1]
    refine rep_lst hl (by simp) (by simp [leaf_sl]) (fun i hi => ⟨_, (hrows i hi).1⟩) fun i c hc => ?_
    simp only [List.getElem?_map, Option.map_eq_some_iff] at hc
    obtain ⟨i', hi', rfl⟩ := hc
    have hi : i < len0 := by have := (List.getElem?_eq_some_iff.1 hi').1; simpa using this
    have : i' = i := by rw [List.getElem?_range hi] at hi'; exact (Option.some.inj hi').symm
    subst this
    obtain ⟨h1, h2, h3, h4, h5, h6, h7⟩ := hrows i' (by omega)
    refine ⟨_, h1, ?_⟩
    cases hA : A i' with
    | none =>
      have hC := h6 hA
      have hL : L i' = 0 := by omega
      have hZ : Z i' = [] := List.eq_nil_of_length_eq_zero (by omega)
      rw [hC, hL, hZ]
      exact rep_nilS W
    | some a' =>
      obtain ⟨_, h8⟩ := h7 a' hA
      have hlen : ((Z i').take (L i')).length = L i' := by rw [List.length_take]; omega
      have e2 : sl I (⟨(some a' : Option Addr).isNone, false, (Z i').take (L i')⟩ : Sl Int) = .lst (L i') (((Z i').take (L i')).map I) false := by
        unfold sl; rw [if_neg (by simp), hlen]
      rw [e2]
      refine rep_lst h2 (by rw [List.length_map, hlen]) (by rw [List.all_map, List.all_eq_true]; intro z _; rfl) (fun j hj => ⟨_, h8 j hj⟩) fun j c hc => ?_
      simp only [List.getElem?_map, Option.map_eq_some_iff] at hc
      obtain ⟨z, hz, rfl⟩ := hc
      have hj : j < L i' := by have := (List.getElem?_eq_some_iff.1 hz).1; omega
      refine ⟨_, h8 j (by omega), ?_⟩
      rw [List.getElem?_take, if_pos hj] at hz
      rw [List.getD_eq_getElem?_getD, hz]
      exact rep_i W .i64 z
theorem wf_u8 {n : Int} (h : (Lit.int .u8 n).wf = true) : 0 ≤ n ∧ n ≤ 255 := by
  simp [Lit.wf, IntKind.min, IntKind.max, IntKind.bits, IntKind.signed] at h
  omega
end
end Go.Proofs.YtcmjidnbbfcbjaaGreatDoor.V
/- Whatever plain data is handed to a law, as values of the VM; no condition. -/
namespace Go.Proofs.YtcmjidnbbfcbjaaGreatDoor.V
open Go Go.ChangeShapes Go.WideShapes Go.RowKit Go.Deep
set_option linter.unusedVariables false
set_option linter.unusedSimpArgs false
noncomputable section
variable {P : Program} {pol : Pol} {H : Type} {enc : TypeId × Value → H}
mutual
/-- What plain data is in cells. -/
def cellsD : DataW H → List AV
  | .lit (.bool b) => [.sc (.bool b)]
  | .lit (.int k n) => [.sc (.int k n)]
  | .lit (.string l) => [.sc (.string ⟨⟨l⟩⟩)]
  | .nil => [.nilS]
  | .slice es _ => [.lst es.length (cellsDs es) false]
  | .agg ps => cellsDs ps
  | _ => [und]
def cellsDs : List (DataW H) → List AV
  | [] => []
  | d :: ds => cellsD d ++ cellsDs ds
end
theorem cellsDs_flat : ∀ l : List (DataW H), cellsDs l = (l.map cellsD).flatten
  | [] => rfl
  | d :: l => by rw [cellsDs, cellsDs_flat l]; rfl
/-- Types of plain data: no pointer, no map. -/
def plainT (P : Program) : Nat → TypeId → Bool
  | 0, _ => false
  | n + 1, t => match P.underlying t with
    | some .bool | some (.int _) | some .string => P.cellsOf t == 1
    | some (.slice e) => P.cellsOf t == 1 && decide (0 < P.cellsOf e) && plainT P n e
    | some (.struct fs) => fs.toList.foldl (fun o f => match o with | some k => if f.offset = k ∧ plainT P n f.type = true then some (k + P.cellsOf f.type) else none | none => none) (some 0) == some (P.cellsOf t)
    | _ => false
theorem rep_rows {W : World} {a : Addr} {n cap c : Nat} {L : List (List AV)} (hn : n ≤ cap) (hlen : L.length = n) (hc : ∀ l ∈ L, l.length = c) (hleaf : L.flatten.all AV.leaf = true) (hspot : a.spot = none ∨ cap = 0)
    (h : ∀ i l, L[i]? = some l → ∃ us : List Value, (∀ j u, us[j]? = some u → W.cell? (a.add (i * c + j)) = some u) ∧ RepL (E0 W) l us) : Rep (E0 W) (.lst n L.flatten false) (.slice (some a) n cap) := by
  have hex : ∀ k, k ≤ n → ∃ us : List Value, us.length = k * c ∧ (∀ i u, us[i]? = some u → W.cell? (a.add i) = some u) ∧ RepL (E0 W) (L.take k).flatten us := by
    intro k
    induction k with
    | zero => intro _; exact ⟨[], by simp, by simp, by simpa using RepL.nil⟩
    | succ k ih =>
      intro hk
      obtain ⟨us, h1, h2, h3⟩ := ih (by omega)
      obtain ⟨l, hl⟩ : ∃ l, L[k]? = some l := ⟨_, List.getElem?_eq_getElem (by omega)⟩
      obtain ⟨vs, g1, g2⟩ := h k l hl
      have hvl : vs.length = c := by rw [← g2.length]; exact hc l (List.mem_of_getElem? hl)
      refine ⟨us ++ vs, by rw [List.length_append, h1, hvl, Nat.succ_mul], fun i u hi => ?_, ?_⟩
      · rw [List.getElem?_append] at hi
        split at hi
        · exact h2 i u hi
        · have := g1 _ _ hi
          rw [show k * c + (i - us.length) = i by omega] at this
          exact this
      · rw [List.take_add_one, hl, List.flatten_append]
        refine h3.append ?_
        simpa using g2
  obtain ⟨us, h1, h2, h3⟩ := hex n (Nat.le_refl _)
  rw [List.take_of_length_le (by omega)] at h3
  simp only [Rep]
  refine ⟨a, cap, us, rfl, hn, hspot, (fun h => by cases h), hleaf, h3, fun i u hu => ⟨not_live0 _ _, ?_⟩⟩
  have hi := (List.getElem?_eq_some_iff.1 hu).1
  have h4 := h2 i u hu
  rcases hspot with hs | h0
  · rwa [addr_add' a hs i] at h4
  · have : n = 0 := by omega
    subst this
    rw [h1] at hi; omega
theorem fields_open {W : World} {base : Nat} {held : Bool} {n m : Nat} {cs : List Value} (ih : ∀ t cs (x : DataW H × List MemPlace), plainT P n t = true → DataW.trod enc P W base (fun _ => true) held m t cs = some x → (cellsD x.1).length = P.cellsOf t ∧ (cellsD x.1).all AV.leaf = true ∧ RepL (E0 W) (cellsD x.1) cs) :
    ∀ (fs : List Field) (xs : List (DataW H × List MemPlace)) (o e : Nat), xs.length = fs.length → (∀ (i : Nat) (f : Field), fs[i]? = some f → DataW.trod enc P W base (fun _ => true) held m f.type ((cs.drop f.offset).take (P.cellsOf f.type)) = xs[i]?) →
      fs.foldl (fun o f => match o with | some k => if f.offset = k ∧ plainT P n f.type = true then some (k + P.cellsOf f.type) else none | none => none) (some o) = some e →
      o ≤ e ∧ (cellsDs (xs.map (·.1))).length = e - o ∧ (cellsDs (xs.map (·.1))).all AV.leaf = true ∧ RepL (E0 W) (cellsDs (xs.map (·.1))) ((cs.drop o).take (e - o))
  | [], xs, o, e, hl, _, hf => by
    have : xs = [] := List.eq_nil_of_length_eq_zero hl
    subst this
    simp only [List.foldl_nil, Option.some.injEq] at hf
    subst hf
    simp [cellsDs, RepL]
  | f :: fs, xs, o, e, hl, hx, hf => by
    obtain ⟨x, xs, rfl⟩ : ∃ x xs', xs = x :: xs' := by cases xs with | nil => simp at hl | cons x xs => exact ⟨x, xs, rfl⟩
    rw [List.foldl_cons] at hf
    simp only at hf
    have none_fold : ∀ l : List Field, l.foldl (fun o f => match o with | some k => if f.offset = k ∧ plainT P n f.type = true then some (k + P.cellsOf f.type) else none | none => none) (none : Option Nat) = none := by
      intro l; induction l with
      | nil => rfl
      | cons a l ih => rw [List.foldl_cons]; exact ih
    split at hf
    · rename_i h1
      obtain ⟨rfl, hp⟩ := h1
      have h0 := hx 0 f rfl
      obtain ⟨k1, k2, k3⟩ := ih f.type _ x hp h0
      obtain ⟨g1, g2, g3, g4⟩ := fields_open ih fs xs _ e (by simpa using hl) (fun i f hf => hx (i + 1) f (by simpa using hf)) hf
      have he : e - f.offset = P.cellsOf f.type + (e - (f.offset + P.cellsOf f.type)) := by omega
      refine ⟨by omega, by rw [List.map_cons, cellsDs, List.length_append, k1, g2]; omega, by rw [List.map_cons, cellsDs, List.all_append, k2, g3]; rfl, ?_⟩
      rw [List.map_cons, cellsDs, he, List.take_add, List.drop_drop]
      exact k3.append g4
    · rw [none_fold] at hf; cases hf
theorem plain_open {W : World} {base : Nat} {held : Bool} : ∀ (n t m : Nat) (cs : List Value) (x : DataW H × List MemPlace), plainT P n t = true → DataW.trod enc P W base (fun _ => true) held m t cs = some x →
    (cellsD x.1).length = P.cellsOf t ∧ (cellsD x.1).all AV.leaf = true ∧ RepL (E0 W) (cellsD x.1) cs
  | 0, t, m, cs, x, h, _ => by cases h
  | n + 1, t, m, cs, x, h, hx => by
    unfold plainT at h
    split at h
    · rename_i ht
      obtain ⟨b, rfl, rfl⟩ := DataW.trod_bool ht hx
      exact ⟨(by simpa using h : P.cellsOf t = 1).symm, rfl, RepL.cons (by simp only [Rep]; exact ⟨trivial, rfl⟩) RepL.nil⟩
    · rename_i k ht
      obtain ⟨z, rfl, rfl, _⟩ := DataW.trod_int ht hx
      exact ⟨(by simpa using h : P.cellsOf t = 1).symm, rfl, RepL.cons (rep_i _ _ _) RepL.nil⟩
    · rename_i ht
      obtain ⟨s, rfl, rfl, _⟩ := DataW.trod_string ht hx
      exact ⟨(by simpa using h : P.cellsOf t = 1).symm, rfl, RepL.cons (rep_tx _ _) RepL.nil⟩
    · rename_i e ht
      simp only [Bool.and_eq_true, decide_eq_true_eq, beq_iff_eq] at h
      obtain ⟨⟨h1, h2⟩, h3⟩ := h
      rcases DataW.trod_slice ht hx with ⟨rfl, rfl⟩ | ⟨a, len, cap, elems, rest, k, rfl, rfl, rfl, hb, hl, hm, hlen, hel, hsp, _⟩
      · exact ⟨h1.symm, rfl, RepL.cons (rep_nilS _) RepL.nil⟩
      · refine ⟨h1.symm, rfl, RepL.cons ?_ RepL.nil⟩
        have each : ∀ i (y : DataW H × List MemPlace), elems[i]? = some y → ∃ us : List Value, W.cells? base (a.add (i * P.cellsOf e)) (P.cellsOf e) = some us ∧ (cellsD y.1).length = P.cellsOf e ∧ (cellsD y.1).all AV.leaf = true ∧ RepL (E0 W) (cellsD y.1) us := fun i y hy => by
          have hi : i < len := by rw [← hlen]; exact (List.getElem?_eq_some_iff.1 hy).1
          have := hel i hi
          rw [hy] at this
          obtain ⟨us, g1, g2⟩ := Option.bind_eq_some_iff.1 this
          exact ⟨us, g1, plain_open n e k us y h3 g2⟩
        rw [cellsDs_flat, List.map_map, List.length_map, hlen]
        refine rep_rows (c := P.cellsOf e) hl (by simp [hlen]) ?_ ?_ ?_ ?_
        · intro l hl
          rw [List.mem_map] at hl
          obtain ⟨y, hy, rfl⟩ := hl
          obtain ⟨i, hi⟩ := List.getElem?_of_mem hy
          obtain ⟨_, _, g, _⟩ := each i y hi
          exact g
        · rw [List.all_eq_true]
          intro c hc
          rw [List.mem_flatten] at hc
          obtain ⟨l, hl, hc⟩ := hc
          rw [List.mem_map] at hl
          obtain ⟨y, hy, rfl⟩ := hl
          obtain ⟨i, hi⟩ := List.getElem?_of_mem hy
          obtain ⟨_, _, _, g, _⟩ := each i y hi
          exact List.all_eq_true.1 g c hc
        · rcases Nat.eq_zero_or_pos cap with h0 | h0
          · exact Or.inr h0
          · left
            have hread : ∃ us : List Value, W.cells? base (a.add (0 * P.cellsOf e)) (P.cellsOf e) = some us := by
              rcases Nat.eq_zero_or_pos len with hz | hz
              · obtain ⟨hr1, hr2⟩ := hsp rfl
                have := hr2 0 (by omega)
                rw [hz, Nat.zero_add, List.getElem?_eq_getElem (by omega)] at this
                obtain ⟨us, g1, _⟩ := Option.bind_eq_some_iff.1 this
                exact ⟨us, g1⟩
              · have := hel 0 hz
                rw [List.getElem?_eq_getElem (by omega)] at this
                obtain ⟨us, g1, _⟩ := Option.bind_eq_some_iff.1 this
                exact ⟨us, g1⟩
            obtain ⟨us, hu⟩ := hread
            obtain ⟨_, hul, huc⟩ := World.cells?_some hu
            have := huc 0 h2
            rw [List.getElem?_eq_getElem (by omega)] at this
            have := World.cell?_spot this
            simpa [Addr.add] using this
        · intro i l hil
          rw [List.getElem?_map, Option.map_eq_some_iff] at hil
          obtain ⟨y, hy, rfl⟩ := hil
          obtain ⟨us, g1, _, _, g3⟩ := each i y hy
          obtain ⟨_, hul, huc⟩ := World.cells?_some g1
          refine ⟨us, fun j u hj => ?_, g3⟩
          have hj' := (List.getElem?_eq_some_iff.1 hj).1
          have := huc j (by omega)
          rw [add_add] at this
          rw [this, hj]
    · rename_i fs ht
      rw [beq_iff_eq] at h
      obtain ⟨xs, k, rfl, rfl, hl, hxl, hf⟩ := DataW.trod_struct ht hx
      obtain ⟨_, g1, g2, g3⟩ := fields_open (n := n) (m := k) (cs := cs) (fun t cs x hp hx => plain_open n t k cs x hp hx) fs.toList xs 0 _ (by simpa using hxl) (fun i f hi => hf i f (by simpa using hi)) h
      simp only [cellsD, Nat.sub_zero, List.drop_zero] at g1 g2 g3 ⊢
      rw [List.take_of_length_le (by omega)] at g3
      exact ⟨g1, g2, g3⟩
    · cases h
/-- What a datum says of an argument that is no struct. -/
theorem plain_arg {W : World} {t : TypeId} {v : Value} {d : DataW H} {ps : List MemPlace} (n : Nat) (hp : plainT P n t = true) (hv : ∀ cs, v ≠ .agg cs) (h : DataW.Trod enc P W 0 (fun _ => true) true t v d ps) : ∃ c, cellsD d = [c] ∧ Rep (E0 W) c v := by
  obtain ⟨m, hm⟩ := h
  obtain ⟨_, _, g⟩ := plain_open n t m _ _ hp hm
  have : v.cells.toList = [v] := by cases v <;> first | rfl | exact absurd rfl (hv _)
  rw [this] at g
  have hl := g.length
  match hc : cellsD d, hl with
  | [c], _ =>
    rw [hc] at g
    obtain ⟨u, hu, hr⟩ := g.get (i := 0) rfl
    simp only [List.getElem?_cons_zero, Option.some.injEq] at hu
    subst hu
    exact ⟨c, rfl, hr⟩
end
end Go.Proofs.YtcmjidnbbfcbjaaGreatDoor.V
