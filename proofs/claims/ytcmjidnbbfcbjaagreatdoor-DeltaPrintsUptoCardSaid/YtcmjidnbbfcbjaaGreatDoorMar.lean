/- Parts of the proof, joined (T5, T7); no condition. -/
import Derived.Test.YtcmjidnbbfcbjaaGreatDoorMai
import Derived.Test.YtcmjidnbbfcbjaaGreatDoorMal
import Derived.Test.YtcmjidnbbfcbjaaGreatDoorRows
/- Nodes that are handed to a law; no condition. -/
namespace Go.Proofs.YtcmjidnbbfcbjaaGreatDoor.V
open Go Go.ChangeShapes Go.WideShapes Go.RowKit Go.Deep
set_option linter.unusedVariables false
set_option linter.unusedSimpArgs false
set_option maxRecDepth 100000
noncomputable section
variable {P : Program} {pol : Pol} {H : Type} {enc : TypeId × Value → H}
theorem slice_datum {α : Type} {g : α → DataW H} {W : World} {base m : Nat} {held : Bool} {sp : Nat → Bool} {t e : TypeId} {cs : List Value} {x : DataW H × List MemPlace} (ht : P.underlying t = some (.slice e))
    (he : ∀ m cs (x : DataW H × List MemPlace), DataW.trod enc P W base sp held m e cs = some x → ∃ a, x.1 = g a) (h : DataW.trod enc P W base sp held m t cs = some x) : x.1 = .nil ∨ ∃ (l : List α) (spare : List (DataW H)), x.1 = .slice (l.map g) spare := by
  rcases DataW.trod_slice ht h with ⟨_, rfl⟩ | ⟨a, len, cap, elems, rest, k, rfl, rfl, rfl, hb, hl, hm, hlen, hel, hsp, _⟩
  · exact Or.inl rfl
  · right
    have each : ∀ (l : List (DataW H × List MemPlace)), (∀ y ∈ l, ∃ a, y.1 = g a) → ∃ l' : List α, l.map (·.1) = l'.map g := by
      intro l
      induction l with
      | nil => intro _; exact ⟨[], rfl⟩
      | cons y l ih =>
        intro h
        obtain ⟨a, ha⟩ := h y (by simp)
        obtain ⟨l', hl'⟩ := ih fun y hy => h y (by simp [hy])
        exact ⟨a :: l', by simp [ha, hl']⟩
    obtain ⟨l', hl'⟩ := each elems fun y hy => by
      obtain ⟨i, hi⟩ := List.getElem?_of_mem hy
      have hi' : i < len := by rw [← hlen]; exact (List.getElem?_eq_some_iff.1 hi).1
      have := hel i hi'
      rw [hi] at this
      obtain ⟨us, _, g2⟩ := Option.bind_eq_some_iff.1 this
      exact he k us y g2
    exact ⟨l', _, by rw [← hl']⟩
theorem bulk_map {α : Type} (g : α → DataW H) (l : List α) : l.length ≤ Rows.uptoBulkAll (l.map g) + l.length ∧ ∀ a ∈ l, Rows.uptoBulk (g a) ≤ Rows.uptoBulkAll (l.map g) := by
  refine ⟨by omega, ?_⟩
  induction l with
  | nil => intro a ha; simp at ha
  | cons b l ih =>
    intro a ha
    rw [List.map_cons, Rows.uptoBulkAll]
    rcases List.mem_cons.1 ha with rfl | ha
    · omega
    · have := ih a ha; omega
theorem bulk_len {α : Type} (g : α → DataW H) (hg : ∀ a, 1 ≤ Rows.uptoBulk (g a)) (l : List α) : l.length ≤ Rows.uptoBulkAll (l.map g) := by
  induction l with
  | nil => simp
  | cons b l ih => rw [List.map_cons, Rows.uptoBulkAll, List.length_cons]; have := hg b; omega
def ndD (n : Nd) : DataW H := .agg [.lit (.string n.path), .lit (.bool n.dir), .lit (.string n.data), .lit (.string n.first)]
theorem cells_ndD (n : Nd) : cellsD (ndD n : DataW H) = ndC n := by simp [ndD, cellsD, cellsDs, ndC]
theorem cells_map {α : Type} {f : α → List AV} {g : α → DataW H} (h : ∀ a, cellsD (g a) = f a) : ∀ l : List α, cellsDs (l.map g) = l.flatMap f
  | [] => rfl
  | a :: l => by rw [List.map_cons, cellsDs, h, cells_map h l, List.flatMap_cons]
theorem node_datum {W : World} {base m : Nat} {held : Bool} {sp : Nat → Bool} {cs : List Value} {x : DataW H × List MemPlace} (h : DataW.trod enc Tryz.prog W base sp held m 43 cs = some x) : ∃ n : Nd, x.1 = ndD n := by
  obtain ⟨xs, k, rfl, rfl, hl, hxl, hf⟩ := DataW.trod_struct Tryz.underlying43 h
  match xs, hxl with
  | [x0, x1, x2, x3], _ =>
    obtain ⟨s0, _, h0, _⟩ := DataW.trod_string Tryz.underlying9 (hf 0 _ rfl)
    obtain ⟨s1, _, h1⟩ := DataW.trod_bool Tryz.underlying4 (hf 1 _ rfl)
    obtain ⟨s2, _, h2, _⟩ := DataW.trod_string Tryz.underlying9 (hf 2 _ rfl)
    obtain ⟨s3, _, h3, _⟩ := DataW.trod_string Tryz.underlying9 (hf 3 _ rfl)
    exact ⟨⟨s0.data.toList, s1, s2.data.toList, s3.data.toList⟩, by simp [h0, h1, h2, h3, ndD]⟩
theorem plainNd : plainT Tryz.prog 3 23 = true := by kernel_rfl
/-- Nodes that are handed to a law. -/
theorem open_nodes {W : World} {a0 : Option Addr} {len0 cap0 : Nat} {d : DataW H} {ps : List MemPlace} (h : DataW.Trod enc Tryz.prog W 0 (fun _ => true) true 23 (.slice a0 len0 cap0) d ps) :
    ∃ x : Sl Nd, Rep (E0 W) (slf ndC x) (.slice a0 len0 cap0) ∧ (Rows.uptoBulk d ≤ 1048576 → FitT x.l) := by
  obtain ⟨c, hc, hr⟩ := plain_arg 3 plainNd (fun _ h => by cases h) h
  obtain ⟨m, hm⟩ := h
  rcases slice_datum Tryz.underlying23 (fun m cs x h => node_datum h) hm with hd | ⟨l, spare, hd⟩
  · simp only at hd
    subst hd
    simp only [cellsD, List.cons.injEq, and_true] at hc
    subst hc
    exact ⟨⟨true, false, []⟩, hr, fun _ => ⟨by simp, by simp, by simp, by simp⟩⟩
  · simp only at hd
    subst hd
    simp only [cellsD, List.cons.injEq, and_true, List.length_map, cells_map cells_ndD] at hc
    subst hc
    refine ⟨⟨false, false, l⟩, hr, fun hb => ?_⟩
    rw [Rows.uptoBulk] at hb
    have h1 := bulk_len (H := H) ndD (fun n => by simp [ndD, Rows.uptoBulk]) l
    have h2 := (bulk_map (H := H) ndD l).2
    have h3 : ∀ n : Nd, Rows.uptoBulk (ndD n : DataW H) = n.path.length + 1 + (1 + (n.data.length + 1 + (n.first.length + 1))) + 1 := fun n => by simp [ndD, Rows.uptoBulk, Rows.uptoBulkAll]
    refine ⟨by simp only; omega, fun n hn => ?_, fun n hn => ?_, fun n hn => ?_⟩ <;> (have := h2 n hn; rw [h3] at this; omega)
theorem bulk2 {d0 d1 : DataW H} (h : Rows.uptoSmall H [d0, d1] = true) : Rows.uptoBulk d0 ≤ 1048576 ∧ Rows.uptoBulk d1 ≤ 1048576 := by
  have h : Rows.uptoBulkAll [d0, d1] ≤ 1048576 := of_decide_eq_true h
  have e : Rows.uptoBulkAll [d0, d1] = Rows.uptoBulk d0 + (Rows.uptoBulk d1 + 0) := by simp only [Rows.uptoBulkAll]
  omega
end
end Go.Proofs.YtcmjidnbbfcbjaaGreatDoor.V
/- Operations that are handed to a law; no condition. -/
namespace Go.Proofs.YtcmjidnbbfcbjaaGreatDoor.V
open Go Go.ChangeShapes Go.WideShapes Go.RowKit Go.Deep
set_option linter.unusedVariables false
set_option linter.unusedSimpArgs false
set_option maxRecDepth 100000
noncomputable section
variable {H : Type} {enc : TypeId × Value → H}
/-- Operations whose texts are not too long for the machine. -/
structure FitQ (l : List Pn) : Prop where
  len : l.length ≤ 1048576
  path : ∀ o ∈ l, o.path.length ≤ 1048576
  other : ∀ o ∈ l, o.other.length ≤ 1048576
  data : ∀ o ∈ l, o.data.length ≤ 1048576
def pnD (o : Pn) : DataW H := .agg [.lit (.int .u8 o.kind), .lit (.string o.path), .lit (.string o.other), .lit (.int .i64 o.off), .lit (.string o.data)]
theorem cells_pnD (o : Pn) : cellsD (pnD o : DataW H) = opC o := by simp [pnD, cellsD, cellsDs, opC]
theorem op_datum {W : World} {base m : Nat} {held : Bool} {sp : Nat → Bool} {cs : List Value} {x : DataW H × List MemPlace} (h : DataW.trod enc Tryz.prog W base sp held m 55 cs = some x) : ∃ o : Pn, x.1 = pnD o := by
  obtain ⟨xs, k, rfl, rfl, hl, hxl, hf⟩ := DataW.trod_struct Tryz.underlying55 h
  match xs, hxl with
  | [x0, x1, x2, x3, x4], _ =>
    obtain ⟨n0, _, h0⟩ := DataW.trod_int Tryz.underlying53 (hf 0 _ rfl)
    obtain ⟨s1, _, h1, _⟩ := DataW.trod_string Tryz.underlying9 (hf 1 _ rfl)
    obtain ⟨s2, _, h2, _⟩ := DataW.trod_string Tryz.underlying9 (hf 2 _ rfl)
    obtain ⟨n3, _, h3⟩ := DataW.trod_int Tryz.underlying3 (hf 3 _ rfl)
    obtain ⟨s4, _, h4, _⟩ := DataW.trod_string Tryz.underlying9 (hf 4 _ rfl)
    exact ⟨⟨n0, s1.data.toList, s2.data.toList, n3, s4.data.toList⟩, by simp [h0, h1, h2, h3, h4, pnD]⟩
theorem plainPn : plainT Tryz.prog 3 22 = true := by kernel_rfl
/-- Operations that are handed to a law. -/
theorem open_ops {W : World} {a0 : Option Addr} {len0 cap0 : Nat} {d : DataW H} {ps : List MemPlace} (h : DataW.Trod enc Tryz.prog W 0 (fun _ => true) true 22 (.slice a0 len0 cap0) d ps) :
    ∃ x : Sl Pn, Rep (E0 W) (slf opC x) (.slice a0 len0 cap0) ∧ (Rows.uptoBulk d ≤ 1048576 → FitQ x.l) := by
  obtain ⟨c, hc, hr⟩ := plain_arg 3 plainPn (fun _ h => by cases h) h
  obtain ⟨m, hm⟩ := h
  rcases slice_datum Tryz.underlying22 (fun m cs x h => op_datum h) hm with hd | ⟨l, spare, hd⟩
  · simp only at hd
    subst hd
    simp only [cellsD, List.cons.injEq, and_true] at hc
    subst hc
    exact ⟨⟨true, false, []⟩, hr, fun _ => ⟨by simp, by simp, by simp, by simp⟩⟩
  · simp only at hd
    subst hd
    simp only [cellsD, List.cons.injEq, and_true, List.length_map, cells_map cells_pnD] at hc
    subst hc
    refine ⟨⟨false, false, l⟩, hr, fun hb => ?_⟩
    rw [Rows.uptoBulk] at hb
    have h1 := bulk_len (H := H) pnD (fun n => by simp [pnD, Rows.uptoBulk]) l
    have h2 := (bulk_map (H := H) pnD l).2
    have h3 : ∀ o : Pn, o.path.length ≤ Rows.uptoBulk (pnD o : DataW H) ∧ o.other.length ≤ Rows.uptoBulk (pnD o : DataW H) ∧ o.data.length ≤ Rows.uptoBulk (pnD o : DataW H) := fun o => by simp [pnD, Rows.uptoBulk, Rows.uptoBulkAll]; omega
    refine ⟨by simp only; omega, fun n hn => ?_, fun n hn => ?_, fun n hn => ?_⟩ <;> (have := h2 n hn; have := h3 n; omega)
theorem bulk1 {d0 : DataW H} (h : Rows.uptoSmall H [d0] = true) : Rows.uptoBulk d0 ≤ 1048576 := by
  have h : Rows.uptoBulkAll [d0] ≤ 1048576 := of_decide_eq_true h
  have e : Rows.uptoBulkAll [d0] = Rows.uptoBulk d0 + 0 := by simp only [Rows.uptoBulkAll]
  omega
theorem bulk3 {d0 d1 d2 : DataW H} (h : Rows.uptoSmall H [d0, d1, d2] = true) : Rows.uptoBulk d0 ≤ 1048576 ∧ Rows.uptoBulk d1 ≤ 1048576 ∧ Rows.uptoBulk d2 ≤ 1048576 := by
  have h : Rows.uptoBulkAll [d0, d1, d2] ≤ 1048576 := of_decide_eq_true h
  have e : Rows.uptoBulkAll [d0, d1, d2] = Rows.uptoBulk d0 + (Rows.uptoBulk d1 + (Rows.uptoBulk d2 + 0)) := by simp only [Rows.uptoBulkAll]
  omega
end
end Go.Proofs.YtcmjidnbbfcbjaaGreatDoor.V
