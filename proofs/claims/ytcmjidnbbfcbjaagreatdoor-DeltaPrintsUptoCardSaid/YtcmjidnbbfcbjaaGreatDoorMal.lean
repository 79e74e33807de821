/- Parts of the proof, joined (V49, Q0, D0, D1, D2, D3, D4, L1, EP, E1, E2, E3, E4, D5, D60, B1, B2, Q1, Q2, Q3); no condition. -/
import Derived.Test.YtcmjidnbbfcbjaaGreatDoorMak
import Derived.Below
import Derived.Deep.Draws
import Derived.Sort.Grow
import Derived.Lib.AtoiAll
import Derived.Lib.ItoaNum
import Derived.Lib.LaidTab
import Derived.Test.YtcmjidnbbfcbjaaGreatDoorMag
import Derived.Test.YtcmjidnbbfcbjaaGreatDoorMah
import Derived.Laws.RangeAny
/- Functions that the kit's shelf knows: from its contracts to the VM; no condition. -/
namespace Go.Proofs.YtcmjidnbbfcbjaaGreatDoor.V
open Go Go.RowKit
set_option linter.unusedVariables false
set_option linter.unusedSimpArgs false
noncomputable section
variable {P : Program} {pol : Pol}
theorem below_ext {E : En} (h : MI pol E) {w' : World} (hb : Below E.w.heap.size E.w w') : Ext E { E with w := w' } := by
  refine ⟨hb.os, hb.tape, hb.output, hb.size, fun b hl hn => ⟨hn, hb.block b hl⟩, fun id o ho => ⟨o, ho, keeps.refl o, fun _ => ⟨rfl, fun B p hB => bs_of_heap (hb.block B (h.blk hB))⟩⟩⟩
theorem below_mi {E : En} (h : MI pol E) {w' : World} (hb : Below E.w.heap.size E.w w') : MI pol { E with w := w' } := by
  have x := below_ext h hb
  refine ⟨h.len, h.inj, fun id o ho => ?_, fun g cs hg => (h.glob g cs hg).mono x⟩
  obtain ⟨B, p, hB, hr⟩ := h.ob id o ho
  exact ⟨B, p, hB, hr.mono x (hb.block B (h.blk hB))⟩
theorem grow_below (w : World) (k : Nat) (os : Array Obj) : Below w.heap.size w (Sort.grow (w.drewN k) os) := by
  refine ⟨rfl, rfl, rfl, ?_, fun b hb => ?_⟩
  · show w.heap.size ≤ (w.heap ++ os).size
    rw [Array.size_append]; omega
  · show (w.heap ++ os)[b]? = _
    rw [Array.getElem?_append_left hb]
/-- Nobody writes a new block that is not the VM's. -/
theorem below_cptr {E : En} (h : MI pol E) {w' : World} (hb : Below E.w.heap.size E.w w') {N : Nat} {c : Array Value} {t : TypeId} {fz : Nat × Nat} {cs : List AV} (hN : E.w.heap.size ≤ N) (hc : w'.heap[N]? = some (.cells c t fz)) (hl : cs.all AV.leaf = true) (hr : RepL { E with w := w' } cs c.toList) :
    Rep { E with w := w' } (.cptr cs) (.pointer (some ⟨N, 0, none⟩)) := by
  simp only [Rep]
  refine ⟨_, c.toList, rfl, rfl, hl, hr, fun i u hu => ⟨?_, ?_⟩⟩
  · rintro ⟨id, p, hB⟩
    have := h.blk hB
    simp only at this; omega
  · simp only [World.cell?, hc]
    simpa using hu
/-- From a contract of the kit's. -/
theorem dir_calls {f : FuncId} {d : DirF} (he : ∀ args w, (callFunc f args).run P w = .ok (.enter f args) w)
    (hok : ∀ en args m v m', d en args m = some (v, m') → ∀ E, E.m = m → MI pol E → ∀ us, RepL E args us → Calls P f us.toArray E.w fun e w' => ∃ E' u, e = .returned u ∧ E'.w = w' ∧ E'.m = m' ∧ MI pol E' ∧ Ext E E' ∧ Rep E' v u)
    (hp : pol.mode f = .pur → ∀ en args m v m', d en args m = some (v, m') → m' = m) (ha : pol.alo f = false) : DirOk P pol f d := by
  refine ⟨fun en args m v m' h E hm hM us hus => .inl ⟨.enter f us.toArray, _, he _ _, rfl, fun c cs => ?_⟩, hp, fun h => by rw [ha] at h; cases h⟩
  obtain ⟨e, w', fr, ⟨E', u, rfl, rfl, hm', hM', hx, hr⟩, hc, hfn, hlv⟩ := hok en args m v m' h E hm hM us hus (c :: cs)
  exact ⟨E', u, Steps.trans hc (Steps.one (step_leave_returned hlv)), hm', hM', hx, hr⟩
/-- A global's cell. -/
theorem glob_cell {E : En} (h : MI pol E) {g : Nat} {a : AV} (hg : pol.glob g = some [a]) : ∃ u, E.w.cell? ⟨g, 0, none⟩ = some u ∧ Rep E a u := by
  have hr := (h.glob g [a] hg).rep
  simp only [Rep] at hr
  obtain ⟨ad, us, h1, _, _, h2, h3⟩ := hr
  cases h1
  obtain ⟨u, us', rfl, h4, h5⟩ := h2
  exact ⟨u, (h3 0 u rfl).2, h4⟩
/-- A table. -/
theorem glob_tab {E : En} (h : MI pol E) {g : Nat} {s : String} {k : IntKind} {zs : List Int} (hn : P.globalNamed s = some g) (hz : zs ≠ []) (hg : pol.glob g = some (zs.map fun z => .sc (.int k z))) : Lib.TabIs P E.w s k zs := by
  have hG := h.glob g _ hg
  obtain ⟨c, t, fz, h1, h2⟩ := hG.whole (by simpa using hz)
  have hr := hG.rep
  simp only [Rep] at hr
  obtain ⟨ad, us, ha, _, _, hl, hh⟩ := hr
  cases ha
  unfold Lib.TabIs World.var?
  rw [hn]
  simp only [Option.bind_some, h1]
  congr 1
  have hlen := hl.length
  apply Array.ext
  · simp at h2 ⊢; exact h2
  · intro i hi hj
    simp only [List.size_toArray, List.length_map] at hj
    have hju : i < us.length := by rw [← hlen]; simpa using hj
    have h3 := (hh i us[i] (List.getElem?_eq_getElem hju)).2
    simp only [World.cell?, h1, Nat.zero_add] at h3
    rw [Array.getElem?_eq_getElem hi] at h3
    have h4 := Option.some.inj h3
    rw [h4]
    obtain ⟨u, hu, hr⟩ := hl.get (i := i) (c := .sc (.int k zs[i])) (by rw [List.getElem?_map, List.getElem?_eq_getElem hj]; rfl)
    rw [List.getElem?_eq_getElem hju] at hu
    cases hu
    simp only [Rep] at hr
    rw [hr.1]; simp
/-- Numbers in digits. -/
def natK : Nat → Nat → List UInt8
  | 0, _ => []
  | k + 1, n => if n < 10 then [UInt8.ofNat (48 + n)] else natK k (n / 10) ++ [UInt8.ofNat (48 + n % 10)]
theorem natK_eq : ∀ (k n : Nat), n < 10 ^ k → 0 < k → natK k n = Lib.decDigits n
  | 0, n, _, h => by omega
  | k + 1, n, h, _ => by
    rw [natK, Lib.decDigits]
    by_cases h1 : n < 10
    · rw [if_pos h1, dif_pos h1]
    · rw [if_neg h1, dif_neg h1]
      rw [Nat.pow_succ] at h
      by_cases hk : k = 0
      · subst hk; simp at h; omega
      · rw [natK_eq k (n / 10) (by omega) (by omega)]
def itoaK (n : Int) : List UInt8 := if n < 0 then 45 :: natK 20 n.natAbs else natK 20 n.natAbs
theorem itoaK_eq {n : Int} (h0 : -9223372036854775808 ≤ n) (h1 : n ≤ 9223372036854775807) : itoaK n = Lib.itoa n := by
  unfold itoaK Lib.itoa
  rw [natK_eq 20 _ (by omega) (by omega)]
  split
  · rfl
  · congr 1; omega
/-- A number as a text. -/
def dItoa : DirF := fun _ args m =>
  match args with
  | [.sc (.int .i64 n)] => if -9223372036854775808 ≤ n ∧ n ≤ 9223372036854775807 then fInt n fun n => spine (itoaK n) fun l => some (.sc (.string ⟨⟨l⟩⟩), m) else none
  | _ => none
theorem dItoa_inv {en : Env} {args : List AV} {m m' : Mem} {v : AV} (h : dItoa en args m = some (v, m')) : ∃ n : Int, args = [.sc (.int .i64 n)] ∧ -9223372036854775808 ≤ n ∧ n ≤ 9223372036854775807 ∧ v = .sc (.string ⟨⟨Lib.itoa n⟩⟩) ∧ m' = m := by
  unfold dItoa at h
  split at h
  · split at h
    case isFalse => cases h
    rename_i hc
    rw [fInt_id, spine_eq] at h
    cases h
    exact ⟨_, rfl, hc.1, hc.2, by rw [itoaK_eq hc.1 hc.2], rfl⟩
  · cases h
theorem dItoa_keep : DirKeep dItoa := by
  intro en args m v m' h
  obtain ⟨_, _, _, _, _, rfl⟩ := dItoa_inv h
  exact Keep.refl _ _
/-- A text as a number; what is none: an error. -/
def numErr (te : TypeId) (s : ByteArray) (n : Int) (ev : AV) : AV := .tup [.sc (.int .i64 n), .ifc te (.cptr [.sc (.string ⟨#[65, 116, 111, 105]⟩), .sc (.string s), ev])]
def dAtoi (te : TypeId) (es er : AV) : DirF := fun _ args m =>
  match args with
  | [.sc (.string s)] => if s.size ≤ 281474976710656 then (match Lib.atoiAll s.data.toList with
    | .ok v => some (.tup [.sc (.int .i64 v), .nilI], m)
    | .syntax => some (numErr te s 0 es, m)
    | .range => some (numErr te s (Lib.atoiSat s.data.toList) er, m)) else none
  | _ => none
theorem dAtoi_inv {te : TypeId} {es er : AV} {en : Env} {args : List AV} {m m' : Mem} {v : AV} (h : dAtoi te es er en args m = some (v, m')) : ∃ s : ByteArray, args = [.sc (.string s)] ∧ s.size ≤ 281474976710656 ∧ m' = m ∧
    ((∃ n, Lib.atoiAll s.data.toList = .ok n ∧ v = .tup [.sc (.int .i64 n), .nilI]) ∨ (Lib.atoiAll s.data.toList = .syntax ∧ v = numErr te s 0 es) ∨ (Lib.atoiAll s.data.toList = .range ∧ v = numErr te s (Lib.atoiSat s.data.toList) er)) := by
  unfold dAtoi at h
  split at h
  · split at h
    case isFalse => cases h
    rename_i hc
    split at h <;> cases h
    · rename_i n hn; exact ⟨_, rfl, hc, rfl, .inl ⟨_, hn, rfl⟩⟩
    · rename_i hn; exact ⟨_, rfl, hc, rfl, .inr (.inl ⟨hn, rfl⟩)⟩
    · rename_i hn; exact ⟨_, rfl, hc, rfl, .inr (.inr ⟨hn, rfl⟩)⟩
  · cases h
theorem dAtoi_keep (te : TypeId) (es er : AV) : DirKeep (dAtoi te es er) := by
  intro en args m v m' h
  obtain ⟨_, _, _, rfl, _⟩ := dAtoi_inv h
  exact Keep.refl _ _
theorem numErr_rep {E : En} (h : MI pol E) {w' : World} (hb : Below E.w.heap.size E.w w') {N : Nat} {te t : TypeId} {s : ByteArray} {n : Int} {ev : AV} {u : Value} (hl : ev.leaf = true) (hN : E.w.heap.size ≤ N) (hc : w'.heap[N]? = some (.cells #[.string ⟨#[65, 116, 111, 105]⟩, .string s, u] t (0, 0))) (hu : Rep E ev u) :
    Rep { E with w := w' } (numErr te s n ev) (.tuple #[.int .i64 n, .iface te (.pointer (some ⟨N, 0, none⟩))]) := by
  have hr := below_cptr h hb (cs := [.sc (.string ⟨#[65, 116, 111, 105]⟩), .sc (.string s), ev]) hN hc (by simp only [List.all_cons, List.all_nil, hl]; rfl) (RepL.cons (by simp [Rep, scalar]) (RepL.cons (by simp [Rep, scalar]) (RepL.cons (Rep.mono (below_ext h hb) _ _ hu) RepL.nil)))
  unfold numErr
  simp only [Rep, RepL] at hr ⊢
  exact ⟨[_, _], rfl, _, _, rfl, ⟨rfl, rfl⟩, _, _, rfl, ⟨_, rfl, hr⟩, rfl⟩
end
end Go.Proofs.YtcmjidnbbfcbjaaGreatDoor.V
/- How the VM runs the functions of this seat; no condition. -/
namespace Go.Proofs.YtcmjidnbbfcbjaaGreatDoor.V
open Go
set_option linter.unusedVariables false
set_option linter.unusedSimpArgs false
noncomputable section
def pow10 : List Int := [1,10,100,1000,10000,100000,1000000,10000000,100000000,1000000000,10000000000,100000000000,1000000000000,10000000000000,100000000000000,1000000000000000,10000000000000000,100000000000000000,1000000000000000000,10000000000000000000]
def inL (f : Nat) : List Nat → Bool
  | [] => false
  | a :: l => Nat.beq f a || inL f l
/-- It is this function, and this seat's program has it. -/
def isF (f k : Nat) : Bool := Nat.beq f k && Nat.blt k 1000000
theorem isF_eq {f k : Nat} (h : isF f k = true) : f = k := Nat.eq_of_beq_eq_true (by simp only [isF, Bool.and_eq_true] at h; exact h.1)
def opnL : List Nat := [54, 52, 55, 80, 118, 153, 177,
  64, 99, 65, 41, 31]
def mutL : List Nat := [33, 175, 176]
def clsL : List Nat := [83, 69, 70, 127, 128, 13]
/-- An error of the library's: its text behind a pointer. -/
def errG (l : List UInt8) : AV := .ifc 211 (.cptr [.sc (.string ⟨⟨l⟩⟩)])
/-- Does this seat's program know these errors? -/
def errOn : Bool := Nat.blt 1 1000000
def errS : List UInt8 := [105, 110, 118, 97, 108, 105, 100, 32, 115, 121, 110, 116, 97, 120]
def errR : List UInt8 := [118, 97, 108, 117, 101, 32, 111, 117, 116, 32, 111, 102, 32, 114, 97, 110, 103, 101]
/-- What the VM takes the tables to be, and how it runs each function. -/
def pol : Pol where
  glob g := if g = 3 then some (pow10.map fun n => .sc (.int .u64 n)) else if errOn = true ∧ g = 1 then some [errG errS] else if errOn = true ∧ g = 2 then some [errG errR] else none
  mode f := if inL f opnL then .opn else if inL f mutL then .mut else if inL f clsL then .cls else .pur
  alo f := Nat.beq f 177
  dir f := if isF f 116 = true then some dSame else if isF f 177 = true then some (dRaw 5) else if isF f 156 = true then some (dNum countI) else if isF f 192 = true then some (dNum Lib.indexByte) else if isF f 82 = true then some dItoa else if isF f 89 = true then some (dAtoi 176 (errG errS) (errG errR)) else none
  qui f := isF f 82 || isF f 89
abbrev en' (en : Env) (m : Mem) : Env := ⟨m.length :: en.bases, m.length⟩
variable {P : Program} {pol : Pol} {en : Env} {m : Mem}
theorem WC.eq {fn : Fn} {args : List AV} {v0 : AV} {m0 : Mem} {Q : AV → Mem → Prop} (h : WC P pol en fn args m fun v m' => v = v0 ∧ m' = m0) (k : Q v0 m0) : WC P pol en fn args m Q := h.mono fun v m' ⟨h1, h2⟩ => by rw [h1, h2]; exact k
/-- A function of one byte: by the kernel, 32 bytes at a time. -/
def byteRun (P : Program) (pol : Pol) (n : Nat) (f : FuncId) (j : Nat) : List (Option AV) := (List.range 32).map fun k : Nat => (callM P .pur (vrun P pol n) ⟨[], 0⟩ f [.sc (.int .u8 ((32 * j + k : Nat) : Int))] []).map (·.1)
def byteSay (g : Nat → AV) (j : Nat) : List (Option AV) := (List.range 32).map fun k : Nat => some (g (32 * j + k))
theorem byteFn {f : FuncId} {g : Nat → AV} (n : Nat) (hm : pol.mode f = .cls) (hd : pol.dir f = none) (hg : ∀ n, flat (g n) = true)
    (h0 : byteRun P pol n f 0 = byteSay g 0) (h1 : byteRun P pol n f 1 = byteSay g 1) (h2 : byteRun P pol n f 2 = byteSay g 2) (h3 : byteRun P pol n f 3 = byteSay g 3)
    (h4 : byteRun P pol n f 4 = byteSay g 4) (h5 : byteRun P pol n f 5 = byteSay g 5) (h6 : byteRun P pol n f 6 = byteSay g 6) (h7 : byteRun P pol n f 7 = byteSay g 7) (c : UInt8) :
    WC P pol en (.func f) [u8v c] m fun v m' => v = g c.toNat ∧ m' = m := by
  have hlt := c.toNat_lt
  have h : byteRun P pol n f (c.toNat / 32) = byteSay g (c.toNat / 32) := by
    have : c.toNat / 32 < 8 := by omega
    generalize c.toNat / 32 = j at this
    match j, this with
    | 0, _ => exact h0
    | 1, _ => exact h1
    | 2, _ => exact h2
    | 3, _ => exact h3
    | 4, _ => exact h4
    | 5, _ => exact h5
    | 6, _ => exact h6
    | 7, _ => exact h7
    | j + 8, h => omega
  have hk := congrArg (fun l => l[c.toNat % 32]?) h
  have hlt2 : c.toNat % 32 < 32 := by omega
  have he : 32 * (c.toNat / 32) + c.toNat % 32 = c.toNat := by omega
  simp only [byteRun, byteSay, List.getElem?_map, List.getElem?_range hlt2, Option.map_some, Option.some.injEq, he] at hk
  obtain ⟨⟨v, m1⟩, hv, h3⟩ := Option.map_eq_some_iff.1 hk
  simp only at h3
  subst h3
  refine WC.run (n + 1) (v := g c.toNat) (m' := m) ?_ ⟨rfl, rfl⟩
  show callF P pol (vrun P pol n) en f [u8v c] m = _
  unfold callF
  rw [hd, hm]
  have hfz : List.mapM (frz m 0 frzDepth) [u8v c] = some [u8v c] := rfl
  simp only [hfz, spine_eq, hv, hg, if_true]
end
end Go.Proofs.YtcmjidnbbfcbjaaGreatDoor.V
/- Nodes and operations as values; no condition. -/
namespace Go.Proofs.YtcmjidnbbfcbjaaGreatDoor.V
open Go
set_option linter.unusedVariables false
set_option linter.unusedSimpArgs false
noncomputable section
structure Nd where
  path : List UInt8
  dir : Bool
  data : List UInt8
  first : List UInt8
  deriving DecidableEq
abbrev bo (b : Bool) : AV := .sc (.bool b)
def ndC (a : Nd) : List AV := [tx a.path, .sc (.bool a.dir), tx a.data, tx a.first]
@[go_sem] theorem ndC_eq (a : Nd) : ndC a = [tx a.path, .sc (.bool a.dir), tx a.data, tx a.first] := rfl
theorem clean_ok {v : Value} : Clean (.sc v) ∧ ∀ t u, AV.sc v ≠ .ifc t u := ⟨clean_sc _, by simp⟩
instance : Wide ndC 4 where
  len _ := rfl
  pos := by omega
  clean a c hc := by
    simp only [ndC, List.mem_cons, List.not_mem_nil, or_false] at hc
    rcases hc with rfl | rfl | rfl | rfl <;> exact clean_ok
structure Pn where
  kind : Int
  path : List UInt8
  other : List UInt8
  off : Int
  data : List UInt8
  deriving DecidableEq
def opC (a : Pn) : List AV := [.sc (.int .u8 a.kind), tx a.path, tx a.other, I a.off, tx a.data]
@[go_sem] theorem opC_eq (a : Pn) : opC a = [.sc (.int .u8 a.kind), tx a.path, tx a.other, I a.off, tx a.data] := rfl
instance : Wide opC 5 where
  len _ := rfl
  pos := by omega
  clean a c hc := by
    simp only [opC, List.mem_cons, List.not_mem_nil, or_false] at hc
    rcases hc with rfl | rfl | rfl | rfl | rfl <;> exact clean_ok
def nd0 : Nd := ⟨[], false, [], []⟩
def op0 : Pn := ⟨0, [], [], 0, []⟩
/-- What stands at a path. -/
def getL (t : List Nd) (p : List UInt8) : Option Nd := t.find? fun n => decide (n.path = p)
def getA (r : Option Nd) : AV := .tup [.agg (ndC (r.getD nd0)), .sc (.bool r.isSome)]
theorem getL_step {t : List Nd} {p : List UInt8} {i : Nat} (hi : i < t.length) (h : getL (t.take i) p = none) (hp : t[i].path ≠ p) : getL (t.take (i + 1)) p = none := by
  unfold getL at *
  rw [List.take_add_one, List.getElem?_eq_getElem hi, List.find?_append, h]
  simp [hp]
theorem getL_found {t : List Nd} {p : List UInt8} {i : Nat} (hi : i < t.length) (h : getL (t.take i) p = none) (hp : t[i].path = p) : getL t p = some t[i] := by
  unfold getL at *
  have e : t.take i ++ t[i] :: t.drop (i + 1) = t := by rw [← List.drop_eq_getElem_cons hi, List.take_append_drop]
  have e2 : (t.take i ++ t[i] :: t.drop (i + 1)).find? (fun n => decide (n.path = p)) = some t[i] := by
    rw [List.find?_append, h, List.find?_cons_of_pos (by simp [hp])]; rfl
  rwa [e] at e2
end
end Go.Proofs.YtcmjidnbbfcbjaaGreatDoor.V
/- The reference's small functions of trees; no condition. -/
namespace Go.Proofs.YtcmjidnbbfcbjaaGreatDoor.V
open Go
set_option linter.unusedVariables false
set_option linter.unusedSimpArgs false
set_option maxRecDepth 100000
set_option maxHeartbeats 4000000
noncomputable section
variable {en : Env} {m : Mem}
theorem get_ok (t : Sl Nd) (p : List UInt8) (ht : t.l.length < 4294967296) (hf : Fits en m.length) : WC Tryz.prog pol en (.func 20) [slf ndC t, tx p] m fun v m' => v = getA (getL t.l p) ∧ m' = m := by
  refine callPur Tryz.func20 rfl rfl Tryz.ntmps20 Tryz.results20 ?_
  simp -implicitDefEqProofs -dsimp (disch := (first | exact vz | fail)) only [go_sem, ]
  refine loopF (fun k ts m' => ∃ (i : Nat), ts.length = 25 ∧ tg ts 0 = slf ndC t ∧ tg ts 1 = tx p ∧ tg ts 4 = .ptr m.length (tagT 43) 0 ∧ tg ts 6 = I i ∧ m' = m ++ [.cells (tagT 43) (ndC nd0)] ∧ getL (t.l.take i) p = none ∧ i ≤ t.l.length ∧ k = t.l.length - i) t.l.length ⟨0, rfl, rfl, rfl, rfl, rfl, rfl, rfl, by omega, by omega⟩ ?_
  rintro k ts m' ⟨i, hl, h0, h1, h4, h6, rfl, hg, hi, hk⟩
  rw [expandT hl]
  have hok := fun low => okTo_purT (en := en) hf (Nat.le_refl m.length) (low := low)
  by_cases hlt : (i : Int) < (t.l.length : Int)
  · have hi' : i < t.l.length := by omega
    by_cases hp : t.l[i].path = p
    · simp -implicitDefEqProofs -dsimp (disch := (first | exact vz | fail)) only [go_sem, h0, h1, h4, h6, hlt, hp, hok]
      rw [getL_found hi' hg hp, ← hp]; rfl
    · simp -implicitDefEqProofs -dsimp (disch := (first | exact vz | fail)) only [go_sem, h0, h1, h4, h6, hlt, hp, hok]
      exact ⟨_, by omega, i + 1, rfl, getL_step hi' hg hp, by omega, rfl⟩
  · simp -implicitDefEqProofs -dsimp (disch := (first | exact vz | fail)) only [go_sem, h0, h1, h4, h6, hlt, hok]
    rw [List.take_of_length_le (by omega)] at hg
    rw [hg]; rfl
end
end Go.Proofs.YtcmjidnbbfcbjaaGreatDoor.V
/- Names, paths, of the reference; no condition. -/
namespace Go.Proofs.YtcmjidnbbfcbjaaGreatDoor.V
open Go
set_option linter.unusedVariables false
set_option linter.unusedSimpArgs false
set_option maxRecDepth 100000
set_option maxHeartbeats 4000000
noncomputable section
variable {en : Env} {m : Mem}
def okB (c : UInt8) : Bool := decide ((97 ≤ c.toNat ∧ c.toNat ≤ 122) ∨ (48 ≤ c.toNat ∧ c.toNat ≤ 57) ∨ c.toNat = 45 ∨ c.toNat = 46)
def nameB (s : List UInt8) : Bool := s.all okB && decide (1 ≤ s.length ∧ s.length ≤ 7)
theorem name_ok (s : List UInt8) (hs : s.length ≤ 4294967296) (hf : Fits en m.length) : WC Tryz.prog pol en (.func 115) [tx s] m fun v m' => v = bo (nameB s) ∧ m' = m := by
  refine callPur Tryz.func115 rfl rfl Tryz.ntmps115 Tryz.results115 ?_
  simp -implicitDefEqProofs -dsimp (disch := (first | exact vz | fail)) only [go_sem, ]
  refine loopF (fun k ts m' => ∃ (i : Nat), ts.length = 45 ∧ tg ts 0 = tx s ∧ tg ts 3 = I i ∧ m' = m ∧ (s.take i).all okB = true ∧ i ≤ s.length ∧ k = s.length - i) s.length ⟨0, rfl, rfl, rfl, rfl, rfl, by omega, by omega⟩ ?_
  rintro k ts m' ⟨i, hl, h0, h3, rfl, hg, hi, hk⟩
  rw [expandT hl]
  by_cases hlt : (i : Int) < (s.length : Int)
  · have hi' : i < s.length := by omega
    obtain ⟨c, hc⟩ : ∃ c, s[i]? = some c := ⟨_, List.getElem?_eq_getElem hi'⟩
    have hb : (s.take (i + 1)).all okB = okB c := by rw [List.take_add_one, hc, List.all_append, hg]; simp
    have hn : okB c = false → bo (nameB s) = bo false := fun h => by
      have : s.all okB = false := by
        rw [List.all_eq_false]; exact ⟨c, List.mem_of_getElem? hc, by simp [h]⟩
      simp [nameB, this]
    have yes : okB c = true → ∃ k', k' < k ∧ ∃ i_1 : Nat, I (i + 1 : Nat) = I (i_1 : Nat) ∧ (s.take i_1).all okB = true ∧ i_1 ≤ s.length ∧ k' = s.length - i_1 := fun h => ⟨s.length - (i + 1), by omega, i + 1, rfl, by rw [hb]; exact h, by omega, rfl⟩
    have no : okB c = false → AV.sc (.bool false) = bo (nameB s) := fun h => (hn h).symm
    have A1 : ∀ {p : Prop}, p → p = True := fun h => eq_true h
    by_cases h1 : (c.toNat : Int) ≥ 97
    · by_cases h2 : (c.toNat : Int) ≤ 122
      · simp -implicitDefEqProofs -dsimp (disch := (first | exact vz | fail)) only [go_sem, h0, h3, hlt, hc, h1, h2]
        exact yes (by simp [okB]; omega)
      · have h3' : (c.toNat : Int) ≥ 48 := by omega
        have h4 : ¬ (c.toNat : Int) ≤ 57 := by omega
        have h5 : ¬ (c.toNat : Int) = 45 := by omega
        have h6 : ¬ (c.toNat : Int) = 46 := by omega
        simp -implicitDefEqProofs -dsimp (disch := (first | exact vz | fail)) only [go_sem, h0, h3, hlt, hc, h1, h2, h3', h4, h5, h6]
        exact no (by simp [okB]; omega)
    · by_cases h2 : (c.toNat : Int) ≥ 48
      · by_cases h4 : (c.toNat : Int) ≤ 57
        · simp -implicitDefEqProofs -dsimp (disch := (first | exact vz | fail)) only [go_sem, h0, h3, hlt, hc, h1, h2, h4]
          exact yes (by simp [okB]; omega)
        · have h5 : ¬ (c.toNat : Int) = 45 := by omega
          have h6 : ¬ (c.toNat : Int) = 46 := by omega
          simp -implicitDefEqProofs -dsimp (disch := (first | exact vz | fail)) only [go_sem, h0, h3, hlt, hc, h1, h2, h4, h5, h6]
          exact no (by simp [okB]; omega)
      · by_cases h5 : (c.toNat : Int) = 45
        · simp -implicitDefEqProofs -dsimp (disch := (first | exact vz | fail)) only [go_sem, h0, h3, hlt, hc, h1, h2, h5]
          exact yes (by simp [okB]; omega)
        · by_cases h6 : (c.toNat : Int) = 46
          · simp -implicitDefEqProofs -dsimp (disch := (first | exact vz | fail)) only [go_sem, h0, h3, hlt, hc, h1, h2, h5, h6]
            exact yes (by simp [okB]; omega)
          · simp -implicitDefEqProofs -dsimp (disch := (first | exact vz | fail)) only [go_sem, h0, h3, hlt, hc, h1, h2, h5, h6]
            exact no (by simp [okB]; omega)
  · rw [List.take_of_length_le (by omega)] at hg
    by_cases h1 : (s.length : Int) ≥ 1
    · by_cases h2 : (s.length : Int) ≤ 7
      · simp -implicitDefEqProofs -dsimp (disch := (first | exact vz | fail)) only [go_sem, h0, h3, hlt, h1, h2]
        simp [nameB, bo, hg]; omega
      · simp -implicitDefEqProofs -dsimp (disch := (first | exact vz | fail)) only [go_sem, h0, h3, hlt, h1, h2]
        simp [nameB, bo, hg]; omega
    · simp -implicitDefEqProofs -dsimp (disch := (first | exact vz | fail)) only [go_sem, h0, h3, hlt, h1]
      simp [nameB, bo, hg]; omega
end
end Go.Proofs.YtcmjidnbbfcbjaaGreatDoor.V
/- What stands ahead of a path's last name; texts, operations, nodes that are the same; no condition. -/
namespace Go.Proofs.YtcmjidnbbfcbjaaGreatDoor.V
open Go
set_option linter.unusedVariables false
set_option linter.unusedSimpArgs false
set_option maxRecDepth 100000
set_option maxHeartbeats 4000000
noncomputable section
variable {en : Env} {m : Mem}
def upAt (p : List UInt8) : Nat → List UInt8 × List UInt8
  | 0 => if 1 < p.length then ([47], p.drop 1) else ([], [])
  | i + 1 => if p[i + 1]? = some 47 then (p.take (i + 1), p.drop (i + 2)) else upAt p i
def upL (p : List UInt8) : List UInt8 × List UInt8 := upAt p (p.length - 1)
theorem u8_47 {c : UInt8} : ((c.toNat : Int) = 47) ↔ c = 47 := by
  constructor
  · intro h; apply UInt8.toNat_inj.1; exact_mod_cast h
  · rintro rfl; rfl
theorem up_ok (p : List UInt8) (hp : p.length ≤ 9223372036854775807) (hf : Fits en m.length) : WC Tryz.prog pol en (.func 50) [tx p] m fun v m' => v = .tup [tx (upL p).1, tx (upL p).2] ∧ m' = m := by
  refine callPur Tryz.func50 rfl rfl Tryz.ntmps50 Tryz.results50 ?_
  simp -implicitDefEqProofs -dsimp (disch := (first | exact vz | fail)) only [go_sem, ]
  refine loopF (fun k ts m' => ∃ (i : Nat), ts.length = 28 ∧ tg ts 0 = tx p ∧ tg ts 4 = I ((i : Int) - 1) ∧ m' = m ∧ upL p = upAt p (i - 1) ∧ i ≤ p.length ∧ k = i) p.length ⟨p.length, rfl, rfl, rfl, rfl, rfl, by omega, by omega⟩ ?_
  rintro k ts m' ⟨i, hl, h0, h4, rfl, hg, hi, rfl⟩
  rw [expandT hl]
  (have hq1 : Dm := ⟨⟩; have hq2 : Dm := ⟨⟩; have hq3 : Dm := ⟨⟩; have hq4 : Dm := ⟨⟩; have hq5 : Dm := ⟨⟩; have hq6 : Dm := ⟨⟩) <;> (try simp -implicitDefEqProofs -dsimp (maxSteps := 2000000) (disch := (first | exact dz | fail)) only [go_sem, aR, h0, h4]) <;> (repeat' (first | ((with_reducible refine ds_and ?_ ?_); focus exact kz) | ((with_reducible refine And.intro ?_ ?_); focus exact oz) | ((with_reducible refine pc_and ?_ ?_); focus exact pz) | ((with_reducible first | refine gIf_t ?_ ?_ | refine gIf_f ?_ ?_ | refine ite_t ?_ ?_ | refine ite_p ?_ ?_) <;> (first | (have z := (hq1 : Dm); clear z hq1; intro hq1; try simp only [noR] at hq1) | (have z := (hq2 : Dm); clear z hq2; intro hq2; try simp only [noR] at hq2) | (have z := (hq3 : Dm); clear z hq3; intro hq3; try simp only [noR] at hq3) | (have z := (hq4 : Dm); clear z hq4; intro hq4; try simp only [noR] at hq4) | (have z := (hq5 : Dm); clear z hq5; intro hq5; try simp only [noR] at hq5) | (have z := (hq6 : Dm); clear z hq6; intro hq6; try simp only [noR] at hq6)) <;> (try simp -implicitDefEqProofs -dsimp (maxSteps := 2000000) (disch := (first | exact dz | fail)) only [go_sem, aR, hq6, hq5, hq4, hq3, hq2, hq1, h0, h4])))) <;> (try with_reducible and_intros) <;> (first | exact fz | skip)
  · obtain ⟨j, rfl⟩ : ∃ j, k = j + 2 := ⟨k - 2, by omega⟩
    have e : ((((j + 2 : Nat) : Int) - 1).toNat) = j + 1 := by omega
    have e2 : ((((j + 2 : Nat) : Int) - 1 + 1).toNat) = j + 2 := by omega
    simp only [e, e2] at hq2 ⊢
    rw [hg, show j + 2 - 1 = j + 1 by omega, upAt, if_pos]
    rw [List.getElem?_eq_getElem (by omega), u8_47.1 hq2]
  · refine ⟨k - 1, by omega, k - 1, ?_, ?_, by omega, rfl⟩
    · congr 3; omega
    · obtain ⟨j, rfl⟩ : ∃ j, k = j + 2 := ⟨k - 2, by omega⟩
      have e : ((((j + 2 : Nat) : Int) - 1).toNat) = j + 1 := by omega
      simp only [e] at hq2 ⊢
      rw [hg, show j + 2 - 1 = j + 1 by omega, upAt, if_neg]
      · rfl
      · rw [List.getElem?_eq_getElem (by omega)]
        intro h; exact hq2 (u8_47.2 (Option.some.inj h))
  · rw [hg, show k - 1 = 0 by omega, upAt, if_pos (by omega)]
  · rw [hg, show k - 1 = 0 by omega, upAt, if_neg (by omega)]
theorem take_eq_step {α : Type} {x y : List α} {i : Nat} {a : α} (hx : x[i]? = some a) (hy : y[i]? = some a) (h : x.take i = y.take i) : x.take (i + 1) = y.take (i + 1) := by
  rw [List.take_add_one, List.take_add_one, h, hx, hy]
theorem same_no {α : Type} {x y : List α} {i : Nat} {hx : i < x.length} {hy : i < y.length} (h : ¬x[i] = y[i]) : ¬x = y := fun e => h (by subst e; rfl)
theorem same_step {α : Type} {x y : List α} {i : Nat} {hx : i < x.length} {hy : i < y.length} (h : x[i] = y[i]) (hg : x.take i = y.take i) : x.take (i + 1) = y.take (i + 1) :=
  take_eq_step (List.getElem?_eq_getElem hx) (by rw [List.getElem?_eq_getElem hy, h]) hg
theorem same_end {α : Type} {x y : List α} {i : Nat} (hl : (x.length : Int) = (y.length : Int)) (h : ¬(i : Int) < (x.length : Int)) (hg : x.take i = y.take i) : x = y := by
  rwa [List.take_of_length_le (by omega), List.take_of_length_le (by omega)] at hg
theorem pnEq (a b : Pn) : (a.kind == b.kind && (decide (a.path = b.path) && (decide (a.other = b.other) && (a.off == b.off && decide (a.data = b.data))))) = decide (a = b) := by
  cases a; cases b
  rw [Bool.eq_iff_iff]; simp
theorem ndEq (a b : Nd) : (decide (a.path = b.path) && (a.dir == b.dir && (decide (a.data = b.data) && decide (a.first = b.first)))) = decide (a = b) := by
  cases a; cases b
  rw [Bool.eq_iff_iff]; simp
theorem sameTexts_ok (x y : Sl (List UInt8)) (hx : x.l.length < 4294967296) (hf : Fits en m.length) : WC Tryz.prog pol en (.func 18) [sl tx x, sl tx y] m fun v m' => v = bo (decide (x.l = y.l)) ∧ m' = m := by
  refine callPur Tryz.func18 rfl rfl Tryz.ntmps18 Tryz.results18 ?_
  (have hq1 : Dm := ⟨⟩; have hq2 : Dm := ⟨⟩; have hq3 : Dm := ⟨⟩; have hq4 : Dm := ⟨⟩; have hq5 : Dm := ⟨⟩; have hq6 : Dm := ⟨⟩) <;> (try simp -implicitDefEqProofs -dsimp (maxSteps := 2000000) (disch := (first | exact dz | fail)) only [go_sem, aR, ]) <;> (repeat' (first | ((with_reducible refine ds_and ?_ ?_); focus exact kz) | ((with_reducible refine And.intro ?_ ?_); focus exact oz) | ((with_reducible refine pc_and ?_ ?_); focus exact pz) | ((with_reducible first | refine gIf_t ?_ ?_ | refine gIf_f ?_ ?_ | refine ite_t ?_ ?_ | refine ite_p ?_ ?_) <;> (first | (have z := (hq1 : Dm); clear z hq1; intro hq1; try simp only [noR] at hq1) | (have z := (hq2 : Dm); clear z hq2; intro hq2; try simp only [noR] at hq2) | (have z := (hq3 : Dm); clear z hq3; intro hq3; try simp only [noR] at hq3) | (have z := (hq4 : Dm); clear z hq4; intro hq4; try simp only [noR] at hq4) | (have z := (hq5 : Dm); clear z hq5; intro hq5; try simp only [noR] at hq5) | (have z := (hq6 : Dm); clear z hq6; intro hq6; try simp only [noR] at hq6)) <;> (try simp -implicitDefEqProofs -dsimp (maxSteps := 2000000) (disch := (first | exact dz | fail)) only [go_sem, aR, hq6, hq5, hq4, hq3, hq2, hq1])))) <;> (try with_reducible and_intros) <;> (first | exact fz | skip)
  · have : x.l ≠ y.l := fun e => by rw [e] at hq1; exact hq1 rfl
    simp [bo, this]
  refine loopF (fun k ts m' => ∃ (i : Nat), ts.length = 26 ∧ tg ts 0 = sl tx x ∧ tg ts 1 = sl tx y ∧ tg ts 5 = I i ∧ m' = m ∧ x.l.take i = y.l.take i ∧ i ≤ x.l.length ∧ k = x.l.length - i) x.l.length ⟨0, rfl, rfl, rfl, rfl, rfl, rfl, by omega, by omega⟩ ?_
  rintro k ts m' ⟨i, hl, h0, h1, h5, rfl, hg, hi, rfl⟩
  rw [expandT hl]
  (have c1 : Dm := ⟨⟩; have c2 : Dm := ⟨⟩; have c3 : Dm := ⟨⟩; have c4 : Dm := ⟨⟩; have c5 : Dm := ⟨⟩; have c6 : Dm := ⟨⟩) <;> (try simp -implicitDefEqProofs -dsimp (maxSteps := 2000000) (disch := (first | exact dz | fail)) only [go_sem, aR, h0, h1, h5, pnEq, ndEq]) <;> (repeat' (first | ((with_reducible refine ds_and ?_ ?_); focus exact kz) | ((with_reducible refine And.intro ?_ ?_); focus exact oz) | ((with_reducible refine pc_and ?_ ?_); focus exact pz) | ((with_reducible first | refine gIf_t ?_ ?_ | refine gIf_f ?_ ?_ | refine ite_t ?_ ?_ | refine ite_p ?_ ?_) <;> (first | (have z := (c1 : Dm); clear z c1; intro c1; try simp only [noR] at c1) | (have z := (c2 : Dm); clear z c2; intro c2; try simp only [noR] at c2) | (have z := (c3 : Dm); clear z c3; intro c3; try simp only [noR] at c3) | (have z := (c4 : Dm); clear z c4; intro c4; try simp only [noR] at c4) | (have z := (c5 : Dm); clear z c5; intro c5; try simp only [noR] at c5) | (have z := (c6 : Dm); clear z c6; intro c6; try simp only [noR] at c6)) <;> (try simp -implicitDefEqProofs -dsimp (maxSteps := 2000000) (disch := (first | exact dz | fail)) only [go_sem, aR, c6, c5, c4, c3, c2, c1, h0, h1, h5, pnEq, ndEq])))) <;> (try with_reducible and_intros) <;> (first | exact fz | skip)
  · simp [bo, same_no c2]
  · exact ⟨_, by omega, i + 1, rfl, same_step c2 hg, by omega, rfl⟩
  · simp [bo, same_end hq1 c1 hg]
theorem sameOps_ok (x y : Sl Pn) (hx : x.l.length < 4294967296) (hf : Fits en m.length) : WC Tryz.prog pol en (.func 26) [slf opC x, slf opC y] m fun v m' => v = bo (decide (x.l = y.l)) ∧ m' = m := by
  refine callPur Tryz.func26 rfl rfl Tryz.ntmps26 Tryz.results26 ?_
  (have hq1 : Dm := ⟨⟩; have hq2 : Dm := ⟨⟩; have hq3 : Dm := ⟨⟩; have hq4 : Dm := ⟨⟩; have hq5 : Dm := ⟨⟩; have hq6 : Dm := ⟨⟩) <;> (try simp -implicitDefEqProofs -dsimp (maxSteps := 2000000) (disch := (first | exact dz | fail)) only [go_sem, aR, ]) <;> (repeat' (first | ((with_reducible refine ds_and ?_ ?_); focus exact kz) | ((with_reducible refine And.intro ?_ ?_); focus exact oz) | ((with_reducible refine pc_and ?_ ?_); focus exact pz) | ((with_reducible first | refine gIf_t ?_ ?_ | refine gIf_f ?_ ?_ | refine ite_t ?_ ?_ | refine ite_p ?_ ?_) <;> (first | (have z := (hq1 : Dm); clear z hq1; intro hq1; try simp only [noR] at hq1) | (have z := (hq2 : Dm); clear z hq2; intro hq2; try simp only [noR] at hq2) | (have z := (hq3 : Dm); clear z hq3; intro hq3; try simp only [noR] at hq3) | (have z := (hq4 : Dm); clear z hq4; intro hq4; try simp only [noR] at hq4) | (have z := (hq5 : Dm); clear z hq5; intro hq5; try simp only [noR] at hq5) | (have z := (hq6 : Dm); clear z hq6; intro hq6; try simp only [noR] at hq6)) <;> (try simp -implicitDefEqProofs -dsimp (maxSteps := 2000000) (disch := (first | exact dz | fail)) only [go_sem, aR, hq6, hq5, hq4, hq3, hq2, hq1])))) <;> (try with_reducible and_intros) <;> (first | exact fz | skip)
  · have : x.l ≠ y.l := fun e => by rw [e] at hq1; exact hq1 rfl
    simp [bo, this]
  refine loopF (fun k ts m' => ∃ (i : Nat), ts.length = 26 ∧ tg ts 0 = slf opC x ∧ tg ts 1 = slf opC y ∧ tg ts 5 = I i ∧ m' = m ∧ x.l.take i = y.l.take i ∧ i ≤ x.l.length ∧ k = x.l.length - i) x.l.length ⟨0, rfl, rfl, rfl, rfl, rfl, rfl, by omega, by omega⟩ ?_
  rintro k ts m' ⟨i, hl, h0, h1, h5, rfl, hg, hi, rfl⟩
  rw [expandT hl]
  (have c1 : Dm := ⟨⟩; have c2 : Dm := ⟨⟩; have c3 : Dm := ⟨⟩; have c4 : Dm := ⟨⟩; have c5 : Dm := ⟨⟩; have c6 : Dm := ⟨⟩) <;> (try simp -implicitDefEqProofs -dsimp (maxSteps := 2000000) (disch := (first | exact dz | fail)) only [go_sem, aR, h0, h1, h5, pnEq, ndEq]) <;> (repeat' (first | ((with_reducible refine ds_and ?_ ?_); focus exact kz) | ((with_reducible refine And.intro ?_ ?_); focus exact oz) | ((with_reducible refine pc_and ?_ ?_); focus exact pz) | ((with_reducible first | refine gIf_t ?_ ?_ | refine gIf_f ?_ ?_ | refine ite_t ?_ ?_ | refine ite_p ?_ ?_) <;> (first | (have z := (c1 : Dm); clear z c1; intro c1; try simp only [noR] at c1) | (have z := (c2 : Dm); clear z c2; intro c2; try simp only [noR] at c2) | (have z := (c3 : Dm); clear z c3; intro c3; try simp only [noR] at c3) | (have z := (c4 : Dm); clear z c4; intro c4; try simp only [noR] at c4) | (have z := (c5 : Dm); clear z c5; intro c5; try simp only [noR] at c5) | (have z := (c6 : Dm); clear z c6; intro c6; try simp only [noR] at c6)) <;> (try simp -implicitDefEqProofs -dsimp (maxSteps := 2000000) (disch := (first | exact dz | fail)) only [go_sem, aR, c6, c5, c4, c3, c2, c1, h0, h1, h5, pnEq, ndEq])))) <;> (try with_reducible and_intros) <;> (first | exact fz | skip)
  · simp [bo, same_no c2]
  · exact ⟨_, by omega, i + 1, rfl, same_step c2 hg, by omega, rfl⟩
  · simp [bo, same_end hq1 c1 hg]
end
end Go.Proofs.YtcmjidnbbfcbjaaGreatDoor.V
/- Paths, of the reference; no condition. -/
namespace Go.Proofs.YtcmjidnbbfcbjaaGreatDoor.V
open Go
set_option linter.unusedVariables false
set_option linter.unusedSimpArgs false
set_option maxRecDepth 100000
set_option maxHeartbeats 4000000
noncomputable section
variable {en : Env} {m : Mem}
theorem name_eq (s : List UInt8) (Q : AV → Mem → Prop) (hs : s.length ≤ 4294967296) (hf : Fits en m.length) : WC Tryz.prog pol en (.func 115) [tx s] m Q = Q (bo (nameB s)) m := (name_ok s hs hf).rule Q
/-- The names of a text, cut at each '/'. -/
def stepS (out : List (List UInt8)) (c : UInt8) : List (List UInt8) := if c = 47 then out ++ [[]] else out.set (out.length - 1) (out.getD (out.length - 1) [] ++ [c])
def segs (p : List UInt8) : List (List UInt8) := p.foldl stepS []
def splitL (p : List UInt8) : Option (List (List UInt8)) :=
  if p = [47] then some [] else if p.length ≤ 64 ∧ p.head? = some 47 ∧ (segs p).all nameB = true ∧ (segs p).length ≤ 4 then some (segs p) else none
theorem segs_take {p : List UInt8} {i : Nat} {c : UInt8} (h : p[i]? = some c) : segs (p.take (i + 1)) = stepS (segs (p.take i)) c := by
  unfold segs
  rw [List.take_add_one, h, List.foldl_append]; rfl
theorem segs_len (p : List UInt8) : (segs p).length ≤ p.length := by
  have : ∀ (l : List UInt8) (o : List (List UInt8)), (l.foldl stepS o).length ≤ o.length + l.length := by
    intro l
    induction l with
    | nil => intro o; simp
    | cons c l ih =>
      intro o
      have h1 := ih (stepS o c)
      have h2 : (stepS o c).length ≤ o.length + 1 := by unfold stepS; split <;> simp
      simp only [List.foldl_cons, List.length_cons]; omega
  have h := this p []
  simpa [segs] using h
theorem segs_sum (p : List UInt8) : ∀ s ∈ segs p, s.length ≤ p.length := by
  have : ∀ (l : List UInt8) (o : List (List UInt8)) (k : Nat), (∀ s ∈ o, s.length ≤ k) → ∀ s ∈ l.foldl stepS o, s.length ≤ k + l.length := by
    intro l
    induction l with
    | nil => intro o k h; simpa using h
    | cons c l ih =>
      intro o k h
      have h1 : ∀ s ∈ stepS o c, s.length ≤ k + 1 := by
        intro s hs
        unfold stepS at hs
        split at hs
        · rw [List.mem_append] at hs
          rcases hs with hs | hs
          · have := h s hs; omega
          · simp at hs; subst hs; simp
        · rcases List.mem_or_eq_of_mem_set hs with hs | rfl
          · have := h s hs; omega
          · rw [List.length_append, List.length_singleton]
            have : (o.getD (o.length - 1) []).length ≤ k := by
              rw [List.getD_eq_getElem?_getD]
              cases hq : o[o.length - 1]? with
              | none => simp
              | some a => exact h a (List.mem_of_getElem? hq)
            omega
      have := ih (stepS o c) (k + 1) h1
      simp only [List.foldl_cons, List.length_cons]
      intro s hs
      have := this s hs; omega
  have h := this p [] 0 (by simp)
  intro s hs
  have := h s hs; omega
theorem split10_ok (p : List UInt8) (hp : p.length ≤ 9223372036854775807) (hf : Fits en m.length) : WC Tryz.prog pol en (.func 78) [tx p] m fun v m' => ∃ (l : List (List UInt8)) (b : Bool), v = .tup [sl tx ⟨true, false, l⟩, bo b] ∧ m' = m ∧ (if b = true then splitL p = some l else splitL p = none) := by
  refine callPur Tryz.func78 rfl rfl Tryz.ntmps78 Tryz.results78 ?_
  (have hq1 : Dm := ⟨⟩; have hq2 : Dm := ⟨⟩; have hq3 : Dm := ⟨⟩; have hq4 : Dm := ⟨⟩; have hq5 : Dm := ⟨⟩; have hq6 : Dm := ⟨⟩) <;> (try simp -implicitDefEqProofs -dsimp (maxSteps := 2000000) (disch := (first | exact dz | fail)) only [go_sem, aR, ]) <;> (repeat' (first | ((with_reducible refine ds_and ?_ ?_); focus exact kz) | ((with_reducible refine And.intro ?_ ?_); focus exact oz) | ((with_reducible refine pc_and ?_ ?_); focus exact pz) | ((with_reducible first | refine gIf_t ?_ ?_ | refine gIf_f ?_ ?_ | refine ite_t ?_ ?_ | refine ite_p ?_ ?_) <;> (first | (have z := (hq1 : Dm); clear z hq1; intro hq1; try simp only [noR] at hq1) | (have z := (hq2 : Dm); clear z hq2; intro hq2; try simp only [noR] at hq2) | (have z := (hq3 : Dm); clear z hq3; intro hq3; try simp only [noR] at hq3) | (have z := (hq4 : Dm); clear z hq4; intro hq4; try simp only [noR] at hq4) | (have z := (hq5 : Dm); clear z hq5; intro hq5; try simp only [noR] at hq5) | (have z := (hq6 : Dm); clear z hq6; intro hq6; try simp only [noR] at hq6)) <;> (try simp -implicitDefEqProofs -dsimp (maxSteps := 2000000) (disch := (first | exact dz | fail)) only [go_sem, aR, hq6, hq5, hq4, hq3, hq2, hq1])))) <;> (try with_reducible and_intros) <;> (first | exact fz | skip)
  · exact ⟨[], true, rfl, by simp [splitL, hq1]⟩
  · exact ⟨[], false, rfl, by simp [splitL, hq1]; omega⟩
  · exact ⟨[], false, rfl, by simp [splitL, hq3]⟩
  refine loopF (fun k ts m' => ∃ (i : Nat) (v : AV), ts.length = 61 ∧ tg ts 0 = tx p ∧ tg ts 4 = kv v ∧ tg ts 5 = I i ∧ Rw tx m (segs (p.take i)) v m' ∧ (i = 0 ∨ p.head? = some 47 ∧ segs (p.take i) ≠ []) ∧ i ≤ p.length ∧ k = p.length - i) p.length ⟨0, _, rfl, rfl, rfl, rfl, Or.inl ⟨rfl, rfl, rfl⟩, by omega, by omega, by omega⟩ ?_
  rintro k ts m' ⟨i, v, hl, h0, h4, h5, hr, hhd, hi, rfl⟩
  rw [expandT hl]
  have hp64 : p.length ≤ 64 := by omega
  have bad : p.head? ≠ some 47 → splitL p = none := fun h => by simp only [splitL, if_neg hq1]; rw [if_neg]; exact fun hc => h hc.2.1
  have hlen : (segs (p.take i)).length ≤ i := by have := segs_len (p.take i); simp at this; omega
  by_cases hlt : (i : Int) < (p.length : Int)
  · have hi' : i < p.length := by omega
    have hhead : i = 0 → p.head? = some p[i] := by intro h; subst h; rw [List.head?_eq_getElem?]; exact List.getElem?_eq_getElem hi'
    have hst := segs_take (List.getElem?_eq_getElem hi')
    rcases hr with ⟨hs, rfl, rfl⟩ | ⟨hs, ver, rfl, rfl⟩
    · have h0' : i = 0 := by
        rcases hhd with h | h
        · exact h
        · exact (h.2 hs).elim
      (have c1 : Dm := ⟨⟩; have c2 : Dm := ⟨⟩; have c3 : Dm := ⟨⟩; have c4 : Dm := ⟨⟩; have c5 : Dm := ⟨⟩; have c6 : Dm := ⟨⟩) <;> (try simp -implicitDefEqProofs -dsimp (maxSteps := 2000000) (disch := (first | exact dz | fail)) only [go_sem, aR, h0, h4, h5, kv]) <;> (repeat' (first | ((with_reducible refine ds_and ?_ ?_); focus exact kz) | ((with_reducible refine And.intro ?_ ?_); focus exact oz) | ((with_reducible refine pc_and ?_ ?_); focus exact pz) | ((with_reducible first | refine gIf_t ?_ ?_ | refine gIf_f ?_ ?_ | refine ite_t ?_ ?_ | refine ite_p ?_ ?_) <;> (first | (have z := (c1 : Dm); clear z c1; intro c1; try simp only [noR] at c1) | (have z := (c2 : Dm); clear z c2; intro c2; try simp only [noR] at c2) | (have z := (c3 : Dm); clear z c3; intro c3; try simp only [noR] at c3) | (have z := (c4 : Dm); clear z c4; intro c4; try simp only [noR] at c4) | (have z := (c5 : Dm); clear z c5; intro c5; try simp only [noR] at c5) | (have z := (c6 : Dm); clear z c6; intro c6; try simp only [noR] at c6)) <;> (try simp -implicitDefEqProofs -dsimp (maxSteps := 2000000) (disch := (first | exact dz | fail)) only [go_sem, aR, c6, c5, c4, c3, c2, c1, h0, h4, h5, kv])))) <;> (try with_reducible and_intros) <;> (first | exact fz | skip)
      · rw [u8_47] at c2
        refine ⟨_, by omega, i + 1, _, rfl, rfl, Rw.own ?_ ?_ ?_, Or.inr ⟨?_, ?_⟩, by omega, rfl⟩
        all_goals simp_all [stepS]
      · rw [u8_47] at c2
        exact ⟨[], false, rfl, bad (by rw [hhead h0']; simpa using c2)⟩
    · have hne : i ≠ 0 := by rintro rfl; simp [segs] at hs
      have hh47 : p.head? = some 47 := by
        rcases hhd with h | h
        · exact (hne h).elim
        · exact h.1
      have hsl : 0 < (segs (p.take i)).length := List.length_pos_iff.2 hs
      have hw : IntKind.i64.wrap (((segs (p.take i)).length : Int) - 1) = (((segs (p.take i)).length - 1 : Nat) : Int) := by rw [i64w (by omega)]; omega
      have hget : (segs (p.take i))[(segs (p.take i)).length - 1]? = some ((segs (p.take i)).getD ((segs (p.take i)).length - 1) []) := by
        rw [List.getD_eq_getElem?_getD, List.getElem?_eq_getElem (by omega)]; rfl
      have hgl : ((segs (p.take i)).getD ((segs (p.take i)).length - 1) []).length ≤ p.length := by
        have h2 := segs_sum (p.take i) _ (List.mem_of_getElem? hget)
        have : (p.take i).length ≤ p.length := List.length_take_le' i p
        omega
      have hpi : (p.drop i).take (i + 1 - i) = [p[i]] := by
        rw [List.drop_eq_getElem_cons hi', show i + 1 - i = 1 by omega]; rfl
      (have c1 : Dm := ⟨⟩; have c2 : Dm := ⟨⟩; have c3 : Dm := ⟨⟩; have c4 : Dm := ⟨⟩; have c5 : Dm := ⟨⟩; have c6 : Dm := ⟨⟩) <;> (try simp -implicitDefEqProofs -dsimp (maxSteps := 2000000) (disch := (first | exact dz | fail)) only [go_sem, aR, h0, h4, h5, kv, hw, List.getElem?_map, hget, atQ_some, hpi]) <;> (repeat' (first | ((with_reducible refine ds_and ?_ ?_); focus exact kz) | ((with_reducible refine And.intro ?_ ?_); focus exact oz) | ((with_reducible refine pc_and ?_ ?_); focus exact pz) | ((with_reducible first | refine gIf_t ?_ ?_ | refine gIf_f ?_ ?_ | refine ite_t ?_ ?_ | refine ite_p ?_ ?_) <;> (first | (have z := (c1 : Dm); clear z c1; intro c1; try simp only [noR] at c1) | (have z := (c2 : Dm); clear z c2; intro c2; try simp only [noR] at c2) | (have z := (c3 : Dm); clear z c3; intro c3; try simp only [noR] at c3) | (have z := (c4 : Dm); clear z c4; intro c4; try simp only [noR] at c4) | (have z := (c5 : Dm); clear z c5; intro c5; try simp only [noR] at c5) | (have z := (c6 : Dm); clear z c6; intro c6; try simp only [noR] at c6)) <;> (try simp -implicitDefEqProofs -dsimp (maxSteps := 2000000) (disch := (first | exact dz | fail)) only [go_sem, aR, c6, c5, c4, c3, c2, c1, h0, h4, h5, kv, hw, List.getElem?_map, hget, atQ_some, hpi])))) <;> (try with_reducible and_intros) <;> (first | exact fz | skip)
      · rw [u8_47] at c2
        refine ⟨_, by omega, i + 1, _, rfl, rfl, Rw.own ?_ ?_ ?_, Or.inr ⟨hh47, ?_⟩, by omega, rfl⟩
        all_goals rw [hst]; simp [stepS, c2]
      · rw [u8_47] at c2
        have e1 : stepS (segs (p.take i)) p[i] = (segs (p.take i)).set ((segs (p.take i)).length - 1) ((segs (p.take i)).getD ((segs (p.take i)).length - 1) [] ++ [p[i]]) := by simp [stepS, c2]
        refine ⟨_, by omega, i + 1, _, rfl, rfl, Rw.own ?_ ?_ ?_, Or.inr ⟨hh47, ?_⟩, by omega, rfl⟩
        all_goals rw [hst, e1]
        · intro e; have := congrArg List.length e; simp at this; exact hs this
        · simp
        · rw [List.map_set]
        · intro e; have := congrArg List.length e; simp at this; exact hs this
  · rw [List.take_of_length_le (by omega)] at hr hhd hlen
    have hh47 : p.head? = some 47 ∧ segs p ≠ [] := by
      rcases hhd with h | h
      · exact (hq3 (List.eq_nil_of_length_eq_zero (by omega))).elim
      · exact h
    (have c1 : Dm := ⟨⟩; have c2 : Dm := ⟨⟩; have c3 : Dm := ⟨⟩; have c4 : Dm := ⟨⟩; have c5 : Dm := ⟨⟩; have c6 : Dm := ⟨⟩) <;> (try simp -implicitDefEqProofs -dsimp (maxSteps := 2000000) (disch := (first | exact dz | fail)) only [go_sem, aR, h0, h4, h5, hr.len, hlt]) <;> (repeat' (first | ((with_reducible refine ds_and ?_ ?_); focus exact kz) | ((with_reducible refine And.intro ?_ ?_); focus exact oz) | ((with_reducible refine pc_and ?_ ?_); focus exact pz) | ((with_reducible first | refine gIf_t ?_ ?_ | refine gIf_f ?_ ?_ | refine ite_t ?_ ?_ | refine ite_p ?_ ?_) <;> (first | (have z := (c1 : Dm); clear z c1; intro c1; try simp only [noR] at c1) | (have z := (c2 : Dm); clear z c2; intro c2; try simp only [noR] at c2) | (have z := (c3 : Dm); clear z c3; intro c3; try simp only [noR] at c3) | (have z := (c4 : Dm); clear z c4; intro c4; try simp only [noR] at c4) | (have z := (c5 : Dm); clear z c5; intro c5; try simp only [noR] at c5) | (have z := (c6 : Dm); clear z c6; intro c6; try simp only [noR] at c6)) <;> (try simp -implicitDefEqProofs -dsimp (maxSteps := 2000000) (disch := (first | exact dz | fail)) only [go_sem, aR, c6, c5, c4, c3, c2, c1, h0, h4, h5, hr.len, hlt]))))
    refine loopF (fun k ts m'' => ∃ (j : Nat), ts.length = 61 ∧ tg ts 0 = tx p ∧ tg ts 4 = kv v ∧ tg ts 6 = I j ∧ m'' = m' ∧ ((segs p).take j).all nameB = true ∧ j ≤ (segs p).length ∧ k = (segs p).length - j) (segs p).length ⟨0, rfl, rfl, rfl, rfl, rfl, rfl, by omega, by omega⟩ ?_
    rintro k ts m'' ⟨j, hl, h0, h4, h6, rfl, hn, hj, rfl⟩
    rw [expandT hl]
    have hlen2 := segs_len p
    by_cases hjl : (j : Int) < ((segs p).length : Int)
    · rcases hr with ⟨hs, _⟩ | ⟨hs, ver, rfl, rfl⟩
      · exact (hh47.2 hs).elim
      obtain ⟨s, hsj⟩ : ∃ s, (segs p)[j]? = some s := ⟨_, List.getElem?_eq_getElem (by omega)⟩
      have hsl := segs_sum p s (List.mem_of_getElem? hsj)
      (have d1 : Dm := ⟨⟩; have d2 : Dm := ⟨⟩; have d3 : Dm := ⟨⟩; have d4 : Dm := ⟨⟩; have d5 : Dm := ⟨⟩; have d6 : Dm := ⟨⟩) <;> (try simp -implicitDefEqProofs -dsimp (maxSteps := 2000000) (disch := (first | exact dz | fail)) only [go_sem, aR, h0, h4, h6, kv, hjl, List.getElem?_map, hsj, atQ_some, name_eq, bo]) <;> (repeat' (first | ((with_reducible refine ds_and ?_ ?_); focus exact kz) | ((with_reducible refine And.intro ?_ ?_); focus exact oz) | ((with_reducible refine pc_and ?_ ?_); focus exact pz) | ((with_reducible first | refine gIf_t ?_ ?_ | refine gIf_f ?_ ?_ | refine ite_t ?_ ?_ | refine ite_p ?_ ?_) <;> (first | (have z := (d1 : Dm); clear z d1; intro d1; try simp only [noR] at d1) | (have z := (d2 : Dm); clear z d2; intro d2; try simp only [noR] at d2) | (have z := (d3 : Dm); clear z d3; intro d3; try simp only [noR] at d3) | (have z := (d4 : Dm); clear z d4; intro d4; try simp only [noR] at d4) | (have z := (d5 : Dm); clear z d5; intro d5; try simp only [noR] at d5) | (have z := (d6 : Dm); clear z d6; intro d6; try simp only [noR] at d6)) <;> (try simp -implicitDefEqProofs -dsimp (maxSteps := 2000000) (disch := (first | exact dz | fail)) only [go_sem, aR, d6, d5, d4, d3, d2, d1, h0, h4, h6, kv, hjl, List.getElem?_map, hsj, atQ_some, name_eq, bo])))) <;> (try with_reducible and_intros) <;> (first | exact fz | skip)
      · refine ⟨[], false, rfl, ?_⟩
        simp only [Bool.false_eq_true, if_false, splitL, if_neg hq1]
        rw [if_neg]
        rintro ⟨_, _, h, _⟩
        rw [List.all_eq_true] at h
        have := h s (List.mem_of_getElem? hsj)
        simp_all
      · refine ⟨_, by omega, j + 1, rfl, ?_, by omega, rfl⟩
        rw [List.take_add_one, hsj, List.all_append, hn]; simp [d1]
    · (have d1 : Dm := ⟨⟩; have d2 : Dm := ⟨⟩; have d3 : Dm := ⟨⟩; have d4 : Dm := ⟨⟩; have d5 : Dm := ⟨⟩; have d6 : Dm := ⟨⟩) <;> (try simp -implicitDefEqProofs -dsimp (maxSteps := 2000000) (disch := (first | exact dz | fail)) only [go_sem, aR, h0, h4, h6, hr.len, hr.frz clean_tx tx_ifc (Nat.le_refl _), hjl]) <;> (repeat' (first | ((with_reducible refine ds_and ?_ ?_); focus exact kz) | ((with_reducible refine And.intro ?_ ?_); focus exact oz) | ((with_reducible refine pc_and ?_ ?_); focus exact pz) | ((with_reducible first | refine gIf_t ?_ ?_ | refine gIf_f ?_ ?_ | refine ite_t ?_ ?_ | refine ite_p ?_ ?_) <;> (first | (have z := (d1 : Dm); clear z d1; intro d1; try simp only [noR] at d1) | (have z := (d2 : Dm); clear z d2; intro d2; try simp only [noR] at d2) | (have z := (d3 : Dm); clear z d3; intro d3; try simp only [noR] at d3) | (have z := (d4 : Dm); clear z d4; intro d4; try simp only [noR] at d4) | (have z := (d5 : Dm); clear z d5; intro d5; try simp only [noR] at d5) | (have z := (d6 : Dm); clear z d6; intro d6; try simp only [noR] at d6)) <;> (try simp -implicitDefEqProofs -dsimp (maxSteps := 2000000) (disch := (first | exact dz | fail)) only [go_sem, aR, d6, d5, d4, d3, d2, d1, h0, h4, h6, hr.len, hr.frz clean_tx tx_ifc (Nat.le_refl _), hjl])))) <;> (try with_reducible and_intros) <;> (first | exact fz | skip)
      rw [List.take_of_length_le (by omega)] at hn
      by_cases h4 : (segs p).length ≤ 4
      · refine ⟨segs p, true, ?_, ?_⟩
        · have : ((segs p).length : Int) ≤ 4 := by omega
          simp [bo, this]
        · simp only [if_true, splitL, if_neg hq1]; rw [if_pos ⟨hp64, hh47.1, hn, h4⟩]
      · refine ⟨segs p, false, ?_, ?_⟩
        · have : ¬((segs p).length : Int) ≤ 4 := by omega
          simp [bo, this]
        · simp only [Bool.false_eq_true, if_false, splitL, if_neg hq1]; rw [if_neg]; exact fun h => h4 h.2.2.2
abbrev errA (e : Int) : AV := .sc (.int .i64 e)
def splitA (o : Option (List (List UInt8))) : AV := match o with | some l => .tup [sl tx ⟨true, false, l⟩, errA 0] | none => .tup [.nilS, errA 3]
theorem split_ok (p : List UInt8) (hp : p.length ≤ 9223372036854775807) (hf : Fits en m.length) : WC Tryz.prog pol en (.func 49) [tx p] m fun v m' => v = splitA (splitL p) ∧ m' = m := by
  refine callPur Tryz.func49 rfl rfl Tryz.ntmps49 Tryz.results49 ?_
  simp -implicitDefEqProofs -dsimp (maxSteps := 2000000) (disch := (first | exact dz | fail)) only [go_sem, aR, ]
  refine (split10_ok p hp hf.pur).mono ?_
  rintro v m' ⟨l, b, rfl, rfl, hb⟩
  cases b
  · (have hq1 : Dm := ⟨⟩; have hq2 : Dm := ⟨⟩; have hq3 : Dm := ⟨⟩; have hq4 : Dm := ⟨⟩; have hq5 : Dm := ⟨⟩; have hq6 : Dm := ⟨⟩) <;> (try simp -implicitDefEqProofs -dsimp (maxSteps := 2000000) (disch := (first | exact dz | fail)) only [go_sem, aR, bo]) <;> (repeat' (first | ((with_reducible refine ds_and ?_ ?_); focus exact kz) | ((with_reducible refine And.intro ?_ ?_); focus exact oz) | ((with_reducible refine pc_and ?_ ?_); focus exact pz) | ((with_reducible first | refine gIf_t ?_ ?_ | refine gIf_f ?_ ?_ | refine ite_t ?_ ?_ | refine ite_p ?_ ?_) <;> (first | (have z := (hq1 : Dm); clear z hq1; intro hq1; try simp only [noR] at hq1) | (have z := (hq2 : Dm); clear z hq2; intro hq2; try simp only [noR] at hq2) | (have z := (hq3 : Dm); clear z hq3; intro hq3; try simp only [noR] at hq3) | (have z := (hq4 : Dm); clear z hq4; intro hq4; try simp only [noR] at hq4) | (have z := (hq5 : Dm); clear z hq5; intro hq5; try simp only [noR] at hq5) | (have z := (hq6 : Dm); clear z hq6; intro hq6; try simp only [noR] at hq6)) <;> (try simp -implicitDefEqProofs -dsimp (maxSteps := 2000000) (disch := (first | exact dz | fail)) only [go_sem, aR, hq6, hq5, hq4, hq3, hq2, hq1, bo]))))
    rw [hb]; rfl
  · (have hq1 : Dm := ⟨⟩; have hq2 : Dm := ⟨⟩; have hq3 : Dm := ⟨⟩; have hq4 : Dm := ⟨⟩; have hq5 : Dm := ⟨⟩; have hq6 : Dm := ⟨⟩) <;> (try simp -implicitDefEqProofs -dsimp (maxSteps := 2000000) (disch := (first | exact dz | fail)) only [go_sem, aR, bo, frzQ_sl clean_tx]) <;> (repeat' (first | ((with_reducible refine ds_and ?_ ?_); focus exact kz) | ((with_reducible refine And.intro ?_ ?_); focus exact oz) | ((with_reducible refine pc_and ?_ ?_); focus exact pz) | ((with_reducible first | refine gIf_t ?_ ?_ | refine gIf_f ?_ ?_ | refine ite_t ?_ ?_ | refine ite_p ?_ ?_) <;> (first | (have z := (hq1 : Dm); clear z hq1; intro hq1; try simp only [noR] at hq1) | (have z := (hq2 : Dm); clear z hq2; intro hq2; try simp only [noR] at hq2) | (have z := (hq3 : Dm); clear z hq3; intro hq3; try simp only [noR] at hq3) | (have z := (hq4 : Dm); clear z hq4; intro hq4; try simp only [noR] at hq4) | (have z := (hq5 : Dm); clear z hq5; intro hq5; try simp only [noR] at hq5) | (have z := (hq6 : Dm); clear z hq6; intro hq6; try simp only [noR] at hq6)) <;> (try simp -implicitDefEqProofs -dsimp (maxSteps := 2000000) (disch := (first | exact dz | fail)) only [go_sem, aR, hq6, hq5, hq4, hq3, hq2, hq1, bo, frzQ_sl clean_tx]))))
    rw [hb]; rfl
theorem split_eq (p : List UInt8) (Q : AV → Mem → Prop) (hp : p.length ≤ 9223372036854775807) (hf : Fits en m.length) : WC Tryz.prog pol en (.func 49) [tx p] m Q = Q (splitA (splitL p)) m := (split_ok p hp hf).rule Q
end
end Go.Proofs.YtcmjidnbbfcbjaaGreatDoor.V
/- strings.HasPrefix, HasSuffix, CutPrefix; no condition. -/
namespace Go.Proofs.YtcmjidnbbfcbjaaGreatDoor.V
open Go
set_option linter.unusedVariables false
set_option linter.unusedSimpArgs false
set_option maxRecDepth 100000
set_option maxHeartbeats 4000000
noncomputable section
variable {en : Env} {m : Mem}
def isPre (p s : List UInt8) : Bool := decide (s.take p.length = p)
def isSuf (p s : List UInt8) : Bool := decide (s.drop (s.length - p.length) = p)
theorem pre_len {p s : List UInt8} (h : isPre p s = true) : p.length ≤ s.length := by
  simp only [isPre, decide_eq_true_eq] at h
  have := congrArg List.length h
  simp at this; omega
theorem suf_len {p s : List UInt8} (h : isSuf p s = true) : p.length ≤ s.length := by
  simp only [isSuf, decide_eq_true_eq] at h
  have := congrArg List.length h
  simp at this; omega
theorem liteHasPrefix_ok (s p : List UInt8) (hs : s.length < 4611686018427387904) (hp : p.length < 4611686018427387904) : WC Tryz.prog pol en (.func 138) [tx s, tx p] m fun v m' => v = .sc (.bool (isPre p s)) ∧ m' = m := by
  refine callPur Tryz.func138 rfl rfl Tryz.ntmps138 Tryz.results138 ?_
  by_cases h : (p.length : Int) ≤ (s.length : Int)
  · simp -implicitDefEqProofs -dsimp (disch := (first | exact vz | fail)) only [go_sem, h]
    rfl
  · simp -implicitDefEqProofs -dsimp (disch := (first | exact vz | fail)) only [go_sem, h]
    have : isPre p s = false := by
      cases hq : isPre p s with
      | false => rfl
      | true => have := pre_len hq; omega
    rw [this]
theorem liteHasSuffix_ok (s p : List UInt8) (hs : s.length < 4611686018427387904) (hp : p.length < 4611686018427387904) : WC Tryz.prog pol en (.func 119) [tx s, tx p] m fun v m' => v = .sc (.bool (isSuf p s)) ∧ m' = m := by
  refine callPur Tryz.func119 rfl rfl Tryz.ntmps119 Tryz.results119 ?_
  by_cases h : (p.length : Int) ≤ (s.length : Int)
  · simp -implicitDefEqProofs -dsimp (disch := (first | exact vz | fail)) only [go_sem, h]
    rw [show ((s.length : Int) - (p.length : Int)).toNat = s.length - p.length by omega]; rfl
  · simp -implicitDefEqProofs -dsimp (disch := (first | exact vz | fail)) only [go_sem, h]
    have : isSuf p s = false := by
      cases hq : isSuf p s with
      | false => rfl
      | true => have := suf_len hq; omega
    rw [this]
theorem hasSuffix_ok (s p : List UInt8) (hs : s.length < 4611686018427387904) (hp : p.length < 4611686018427387904) : WC Tryz.prog pol en (.func 126) [tx s, tx p] m fun v m' => v = .sc (.bool (isSuf p s)) ∧ m' = m := by
  refine callPur Tryz.func126 rfl rfl Tryz.ntmps126 Tryz.results126 ?_
  simp -implicitDefEqProofs -dsimp (disch := (first | exact vz | fail)) only [go_sem, ]
  refine (liteHasSuffix_ok s p hs hp).mono ?_
  rintro _ _ ⟨rfl, rfl⟩
  simp -implicitDefEqProofs -dsimp (disch := (first | exact vz | fail)) only [go_sem, ]
theorem liteCutPrefix_ok (s p : List UInt8) (hs : s.length < 4611686018427387904) (hp : p.length < 4611686018427387904) : WC Tryz.prog pol en (.func 163) [tx s, tx p] m fun v m' => v = (if isPre p s = true then .tup [tx (s.drop p.length), .sc (.bool true)] else .tup [tx s, .sc (.bool false)]) ∧ m' = m := by
  refine callPur Tryz.func163 rfl rfl Tryz.ntmps163 Tryz.results163 ?_
  simp -implicitDefEqProofs -dsimp (disch := (first | exact vz | fail)) only [go_sem, ]
  refine (liteHasPrefix_ok s p hs hp).mono ?_
  rintro _ _ ⟨rfl, rfl⟩
  by_cases h : isPre p s = true
  · have := pre_len h
    simp -implicitDefEqProofs -dsimp (disch := (first | exact vz | fail)) only [go_sem, h]
  · simp -implicitDefEqProofs -dsimp (disch := (first | exact vz | fail)) only [go_sem, h]
theorem cutPrefix_ok (s p : List UInt8) (hs : s.length < 4611686018427387904) (hp : p.length < 4611686018427387904) : WC Tryz.prog pol en (.func 125) [tx s, tx p] m fun v m' => v = (if isPre p s = true then .tup [tx (s.drop p.length), .sc (.bool true)] else .tup [tx s, .sc (.bool false)]) ∧ m' = m := by
  refine callPur Tryz.func125 rfl rfl Tryz.ntmps125 Tryz.results125 ?_
  simp -implicitDefEqProofs -dsimp (disch := (first | exact vz | fail)) only [go_sem, ]
  refine (liteCutPrefix_ok s p hs hp).mono ?_
  rintro _ _ ⟨rfl, rfl⟩
  by_cases h : isPre p s = true
  · simp -implicitDefEqProofs -dsimp (disch := (first | exact vz | fail)) only [go_sem, h]
  · simp -implicitDefEqProofs -dsimp (disch := (first | exact vz | fail)) only [go_sem, h]
end
end Go.Proofs.YtcmjidnbbfcbjaaGreatDoor.V
/- Plain: the order of texts, nodes in order; no condition. -/
namespace Go.Proofs.YtcmjidnbbfcbjaaGreatDoor.V
open Go
set_option linter.unusedVariables false
set_option linter.unusedSimpArgs false
set_option maxRecDepth 100000
set_option maxHeartbeats 4000000
noncomputable section
variable {en : Env} {m : Mem}
theorem u8_lt {a b : UInt8} : a < b ↔ a.toNat < b.toNat := UInt8.lt_iff_toNat_lt
theorem ltB_cons (a b : UInt8) (x y : List UInt8) : ltB (a :: x) (b :: y) = (decide (a < b) || (a == b && ltB x y)) := rfl
theorem ltB_nil (x : List UInt8) : ltB x [] = false := by cases x <;> rfl
theorem ltB_nilc (b : UInt8) (y : List UInt8) : ltB [] (b :: y) = true := rfl
theorem ltB_irr : ∀ x : List UInt8, ltB x x = false
  | [] => rfl
  | a :: x => by rw [ltB_cons, ltB_irr x]; simp [u8_lt]
theorem ltB_trans : ∀ {x y z : List UInt8}, ltB x y = true → ltB y z = true → ltB x z = true
  | _, [], _, h, _ => by rw [ltB_nil] at h; cases h
  | _, _ :: _, [], _, h => by rw [ltB_nil] at h; cases h
  | [], _ :: _, _ :: _, _, _ => rfl
  | a :: x, b :: y, c :: z, h1, h2 => by
    rw [ltB_cons, Bool.or_eq_true, decide_eq_true_eq, Bool.and_eq_true, beq_iff_eq, u8_lt] at h1 h2 ⊢
    rcases h1 with h1 | ⟨rfl, h1⟩ <;> rcases h2 with h2 | ⟨rfl, h2⟩
    · left; omega
    · left; exact h1
    · left; exact h2
    · right; exact ⟨rfl, ltB_trans h1 h2⟩
theorem ltB_tri : ∀ (x y : List UInt8), ltB x y = true ∨ x = y ∨ ltB y x = true
  | [], [] => Or.inr (Or.inl rfl)
  | [], _ :: _ => Or.inl rfl
  | _ :: _, [] => Or.inr (Or.inr rfl)
  | a :: x, b :: y => by
    rw [ltB_cons, ltB_cons, Bool.or_eq_true, Bool.or_eq_true, decide_eq_true_eq, decide_eq_true_eq, Bool.and_eq_true, Bool.and_eq_true, beq_iff_eq, beq_iff_eq, u8_lt, u8_lt]
    rcases Nat.lt_trichotomy a.toNat b.toNat with h | h | h
    · left; left; exact h
    · obtain rfl := UInt8.toNat_inj.1 h
      rcases ltB_tri x y with h | rfl | h
      · left; right; exact ⟨rfl, h⟩
      · right; left; rfl
      · right; right; right; exact ⟨rfl, h⟩
    · right; right; left; exact h
theorem ltB_asymm {x y : List UInt8} (h : ltB x y = true) : ltB y x = false := by
  cases hq : ltB y x with
  | false => rfl
  | true => have := ltB_trans h hq; rw [ltB_irr] at this; cases this
theorem ltB_ne {x y : List UInt8} (h : ltB x y = true) : x ≠ y := by rintro rfl; rw [ltB_irr] at h; cases h
/-- In order, each path once. -/
def Srt (t : List Nd) : Prop := t.Pairwise fun a b => ltB a.path b.path = true
def lowB (t : List Nd) (k : List UInt8) : Nat := (t.filter fun n => ltB n.path k).length
theorem Srt.take {t : List Nd} (h : Srt t) (i : Nat) : Srt (t.take i) := h.sublist (List.take_sublist i t)
theorem Srt.get {t : List Nd} (h : Srt t) {i j : Nat} {a b : Nd} (hij : i < j) (ha : t[i]? = some a) (hb : t[j]? = some b) : ltB a.path b.path = true := by
  obtain ⟨hi, rfl⟩ := List.getElem?_eq_some_iff.1 ha
  obtain ⟨hj, rfl⟩ := List.getElem?_eq_some_iff.1 hb
  exact List.pairwise_iff_getElem.1 h i j hi hj hij
theorem lowB_eq {t : List Nd} {k : List UInt8} {i : Nat} (hi : i ≤ t.length) (h1 : ∀ j n, j < i → t[j]? = some n → ltB n.path k = true) (h2 : ∀ j n, i ≤ j → t[j]? = some n → ltB n.path k = false) : lowB t k = i := by
  unfold lowB
  have e : t = t.take i ++ t.drop i := (List.take_append_drop i t).symm
  rw [e, List.filter_append, List.filter_eq_self.2, List.filter_eq_nil_iff.2]
  · simp; omega
  · intro n hn
    obtain ⟨j, hj⟩ := List.getElem?_of_mem hn
    rw [List.getElem?_drop] at hj
    have := h2 (i + j) n (by omega) hj
    simp [this]
  · intro n hn
    obtain ⟨j, hj⟩ := List.getElem?_of_mem hn
    rw [List.getElem?_take] at hj
    split at hj
    · exact h1 j n (by assumption) hj
    · cases hj
theorem getL_some {t : List Nd} {p : List UInt8} {n : Nd} (h : getL t p = some n) : n ∈ t ∧ n.path = p := by
  have h1 := List.mem_of_find?_eq_some h
  have h2 := List.find?_some h
  exact ⟨h1, by simpa using h2⟩
theorem getL_none {t : List Nd} {p : List UInt8} (h : getL t p = none) : ∀ n ∈ t, n.path ≠ p := by
  intro n hn hp
  have := List.find?_eq_none.1 h n hn
  simp [hp] at this
theorem getL_of {t : List Nd} (hs : Srt t) {i : Nat} {n : Nd} (h : t[i]? = some n) : getL t n.path = some n := by
  cases hg : getL t n.path with
  | none => exact ((getL_none hg) n (List.mem_of_getElem? h) rfl).elim
  | some a =>
    obtain ⟨h1, h2⟩ := getL_some hg
    obtain ⟨j, hj⟩ := List.getElem?_of_mem h1
    rcases Nat.lt_trichotomy i j with hij | rfl | hij
    · have := hs.get hij h hj; rw [h2] at this; exact (ltB_ne this rfl).elim
    · rw [hj] at h; rw [h]
    · have := hs.get hij hj h; rw [h2] at this; exact (ltB_ne this rfl).elim
/-- Where a node stands. -/
theorem lowB_get {t : List Nd} (hs : Srt t) {p : List UInt8} {n : Nd} (h : getL t p = some n) : t[lowB t p]? = some n := by
  obtain ⟨h1, rfl⟩ := getL_some h
  obtain ⟨i, hi⟩ := List.getElem?_of_mem h1
  have hlt := (List.getElem?_eq_some_iff.1 hi).1
  rw [lowB_eq (i := i) (by omega)]
  · exact hi
  · intro j a hj ha; exact hs.get hj ha hi
  · intro j a hj ha
    rcases Nat.eq_or_lt_of_le hj with rfl | hj
    · rw [hi] at ha; cases ha; exact ltB_irr _
    · exact ltB_asymm (hs.get hj hi ha)
end
end Go.Proofs.YtcmjidnbbfcbjaaGreatDoor.V
/- Paths' parts, and where something stands in a tree; no condition. -/
namespace Go.Proofs.YtcmjidnbbfcbjaaGreatDoor.V
open Go
set_option linter.unusedVariables false
set_option linter.unusedSimpArgs false
set_option maxRecDepth 100000
set_option maxHeartbeats 4000000
noncomputable section
variable {en : Env} {m : Mem}
def root0 : Nd := ⟨[47], true, [], [47]⟩
def cmpL (a b : List UInt8) : Int := if ltB a b = true then -1 else if a = b then 0 else 1
theorem isNaN_ok (a : List UInt8) (hf : Fits en m.length) : WC Tryz.prog pol en (.func 166) [tx a] m fun v m' => v = bo false ∧ m' = m := by
  refine callPur Tryz.func166 rfl rfl Tryz.ntmps166 Tryz.results166 ?_
  (have hq1 : Dm := ⟨⟩; have hq2 : Dm := ⟨⟩; have hq3 : Dm := ⟨⟩; have hq4 : Dm := ⟨⟩; have hq5 : Dm := ⟨⟩; have hq6 : Dm := ⟨⟩) <;> (try simp -implicitDefEqProofs -dsimp (maxSteps := 2000000) (disch := (first | exact dz | fail)) only [go_sem, aR, decide_false]) <;> (repeat' (first | ((with_reducible refine ds_and ?_ ?_); focus exact kz) | ((with_reducible refine And.intro ?_ ?_); focus exact oz) | ((with_reducible refine pc_and ?_ ?_); focus exact pz) | ((with_reducible first | refine gIf_t ?_ ?_ | refine gIf_f ?_ ?_ | refine ite_t ?_ ?_ | refine ite_p ?_ ?_) <;> (first | (have z := (hq1 : Dm); clear z hq1; intro hq1; try simp only [noR] at hq1) | (have z := (hq2 : Dm); clear z hq2; intro hq2; try simp only [noR] at hq2) | (have z := (hq3 : Dm); clear z hq3; intro hq3; try simp only [noR] at hq3) | (have z := (hq4 : Dm); clear z hq4; intro hq4; try simp only [noR] at hq4) | (have z := (hq5 : Dm); clear z hq5; intro hq5; try simp only [noR] at hq5) | (have z := (hq6 : Dm); clear z hq6; intro hq6; try simp only [noR] at hq6)) <;> (try simp -implicitDefEqProofs -dsimp (maxSteps := 2000000) (disch := (first | exact dz | fail)) only [go_sem, aR, hq6, hq5, hq4, hq3, hq2, hq1, decide_false])))) <;> (try with_reducible and_intros) <;> (first | exact fz | skip)
theorem isNaN_eq (a : List UInt8) (Q : AV → Mem → Prop) (hf : Fits en m.length) : WC Tryz.prog pol en (.func 166) [tx a] m Q = Q (bo false) m := (isNaN_ok a hf).rule Q
theorem compare_ok (a b : List UInt8) (hf : Fits en m.length) : WC Tryz.prog pol en (.func 135) [tx a, tx b] m fun v m' => v = I (cmpL a b) ∧ m' = m := by
  refine callPur Tryz.func135 rfl rfl Tryz.ntmps135 Tryz.results135 ?_
  (have hq1 : Dm := ⟨⟩; have hq2 : Dm := ⟨⟩; have hq3 : Dm := ⟨⟩; have hq4 : Dm := ⟨⟩; have hq5 : Dm := ⟨⟩; have hq6 : Dm := ⟨⟩) <;> (try simp -implicitDefEqProofs -dsimp (maxSteps := 2000000) (disch := (first | exact dz | fail)) only [go_sem, aR, isNaN_eq]) <;> (repeat' (first | ((with_reducible refine ds_and ?_ ?_); focus exact kz) | ((with_reducible refine And.intro ?_ ?_); focus exact oz) | ((with_reducible refine pc_and ?_ ?_); focus exact pz) | ((with_reducible first | refine gIf_t ?_ ?_ | refine gIf_f ?_ ?_ | refine ite_t ?_ ?_ | refine ite_p ?_ ?_) <;> (first | (have z := (hq1 : Dm); clear z hq1; intro hq1; try simp only [noR] at hq1) | (have z := (hq2 : Dm); clear z hq2; intro hq2; try simp only [noR] at hq2) | (have z := (hq3 : Dm); clear z hq3; intro hq3; try simp only [noR] at hq3) | (have z := (hq4 : Dm); clear z hq4; intro hq4; try simp only [noR] at hq4) | (have z := (hq5 : Dm); clear z hq5; intro hq5; try simp only [noR] at hq5) | (have z := (hq6 : Dm); clear z hq6; intro hq6; try simp only [noR] at hq6)) <;> (try simp -implicitDefEqProofs -dsimp (maxSteps := 2000000) (disch := (first | exact dz | fail)) only [go_sem, aR, hq6, hq5, hq4, hq3, hq2, hq1, isNaN_eq])))) <;> (try with_reducible and_intros) <;> (first | exact fz | skip)
  · simp [cmpL, hq1]
  · have : a ≠ b := by simpa using hq2
    simp [cmpL, hq1, this]
  · have : a = b := by simpa using hq2
    subst this
    simp [cmpL, hq1]
def lastAt (s : List UInt8) (c : UInt8) : Nat → Int
  | 0 => -1
  | i + 1 => if s[i]? = some c then i else lastAt s c i
def lastI (s : List UInt8) (c : UInt8) : Int := lastAt s c s.length
theorem lastByte0_ok (s : List UInt8) (c : UInt8) (hs : s.length ≤ 9223372036854775807) (hf : Fits en m.length) : WC Tryz.prog pol en (.func 77) [tx s, u8v c] m fun v m' => v = I (lastI s c) ∧ m' = m := by
  refine callPur Tryz.func77 rfl rfl Tryz.ntmps77 Tryz.results77 ?_
  (have hq1 : Dm := ⟨⟩; have hq2 : Dm := ⟨⟩; have hq3 : Dm := ⟨⟩; have hq4 : Dm := ⟨⟩; have hq5 : Dm := ⟨⟩; have hq6 : Dm := ⟨⟩) <;> (try simp -implicitDefEqProofs -dsimp (maxSteps := 2000000) (disch := (first | exact dz | fail)) only [go_sem, aR, ]) <;> (repeat' (first | ((with_reducible refine ds_and ?_ ?_); focus exact kz) | ((with_reducible refine And.intro ?_ ?_); focus exact oz) | ((with_reducible refine pc_and ?_ ?_); focus exact pz) | ((with_reducible first | refine gIf_t ?_ ?_ | refine gIf_f ?_ ?_ | refine ite_t ?_ ?_ | refine ite_p ?_ ?_) <;> (first | (have z := (hq1 : Dm); clear z hq1; intro hq1; try simp only [noR] at hq1) | (have z := (hq2 : Dm); clear z hq2; intro hq2; try simp only [noR] at hq2) | (have z := (hq3 : Dm); clear z hq3; intro hq3; try simp only [noR] at hq3) | (have z := (hq4 : Dm); clear z hq4; intro hq4; try simp only [noR] at hq4) | (have z := (hq5 : Dm); clear z hq5; intro hq5; try simp only [noR] at hq5) | (have z := (hq6 : Dm); clear z hq6; intro hq6; try simp only [noR] at hq6)) <;> (try simp -implicitDefEqProofs -dsimp (maxSteps := 2000000) (disch := (first | exact dz | fail)) only [go_sem, aR, hq6, hq5, hq4, hq3, hq2, hq1])))) <;> (try with_reducible and_intros) <;> (first | exact fz | skip)
  refine loopF (fun k ts m' => ∃ (i : Nat), ts.length = 19 ∧ tg ts 0 = tx s ∧ tg ts 1 = u8v c ∧ tg ts 5 = I ((i : Int) - 1) ∧ m' = m ∧ lastI s c = lastAt s c i ∧ i ≤ s.length ∧ k = i) s.length ⟨s.length, rfl, rfl, rfl, rfl, rfl, rfl, by omega, by omega⟩ ?_
  rintro k ts m' ⟨i, hl, h0, h1, h5, rfl, hg, hi, rfl⟩
  rw [expandT hl]
  (have c1 : Dm := ⟨⟩; have c2 : Dm := ⟨⟩; have c3 : Dm := ⟨⟩; have c4 : Dm := ⟨⟩; have c5 : Dm := ⟨⟩; have c6 : Dm := ⟨⟩) <;> (try simp -implicitDefEqProofs -dsimp (maxSteps := 2000000) (disch := (first | exact dz | fail)) only [go_sem, aR, h0, h1, h5]) <;> (repeat' (first | ((with_reducible refine ds_and ?_ ?_); focus exact kz) | ((with_reducible refine And.intro ?_ ?_); focus exact oz) | ((with_reducible refine pc_and ?_ ?_); focus exact pz) | ((with_reducible first | refine gIf_t ?_ ?_ | refine gIf_f ?_ ?_ | refine ite_t ?_ ?_ | refine ite_p ?_ ?_) <;> (first | (have z := (c1 : Dm); clear z c1; intro c1; try simp only [noR] at c1) | (have z := (c2 : Dm); clear z c2; intro c2; try simp only [noR] at c2) | (have z := (c3 : Dm); clear z c3; intro c3; try simp only [noR] at c3) | (have z := (c4 : Dm); clear z c4; intro c4; try simp only [noR] at c4) | (have z := (c5 : Dm); clear z c5; intro c5; try simp only [noR] at c5) | (have z := (c6 : Dm); clear z c6; intro c6; try simp only [noR] at c6)) <;> (try simp -implicitDefEqProofs -dsimp (maxSteps := 2000000) (disch := (first | exact dz | fail)) only [go_sem, aR, c6, c5, c4, c3, c2, c1, h0, h1, h5])))) <;> (try with_reducible and_intros) <;> (first | exact fz | skip)
  · obtain ⟨j, rfl⟩ : ∃ j, k = j + 1 := ⟨k - 1, by omega⟩
    have e : ((((j + 1 : Nat) : Int) - 1).toNat) = j := by omega
    simp only [e] at c2
    rw [hg, lastAt, if_pos]
    · congr 3; omega
    · rw [List.getElem?_eq_getElem (by omega)]; exact congrArg some (UInt8.toNat_inj.1 (by exact_mod_cast c2))
  · obtain ⟨j, rfl⟩ : ∃ j, k = j + 1 := ⟨k - 1, by omega⟩
    have e : ((((j + 1 : Nat) : Int) - 1).toNat) = j := by omega
    simp only [e] at c2
    refine ⟨j, by omega, j, ?_, ?_, by omega, rfl⟩
    · congr 3; omega
    · rw [hg, lastAt, if_neg]
      rw [List.getElem?_eq_getElem (by omega)]
      intro h; exact c2 (by rw [Option.some.inj h])
  · rw [hg, show k = 0 by omega]; rfl
theorem lastByte_ok (s : List UInt8) (c : UInt8) (hs : s.length ≤ 9223372036854775807) (hf : Fits en m.length) : WC Tryz.prog pol en (.func 46) [tx s, u8v c] m fun v m' => v = I (lastI s c) ∧ m' = m := by
  have h0 := fun (en : Env) (m : Mem) Q (hf : Fits en m.length) => (lastByte0_ok (m := m) (en := en) s c hs hf).rule Q
  refine callPur Tryz.func46 rfl rfl Tryz.ntmps46 Tryz.results46 ?_
  (have hq1 : Dm := ⟨⟩; have hq2 : Dm := ⟨⟩; have hq3 : Dm := ⟨⟩; have hq4 : Dm := ⟨⟩; have hq5 : Dm := ⟨⟩; have hq6 : Dm := ⟨⟩) <;> (try simp -implicitDefEqProofs -dsimp (maxSteps := 2000000) (disch := (first | exact dz | fail)) only [go_sem, aR, h0]) <;> (repeat' (first | ((with_reducible refine ds_and ?_ ?_); focus exact kz) | ((with_reducible refine And.intro ?_ ?_); focus exact oz) | ((with_reducible refine pc_and ?_ ?_); focus exact pz) | ((with_reducible first | refine gIf_t ?_ ?_ | refine gIf_f ?_ ?_ | refine ite_t ?_ ?_ | refine ite_p ?_ ?_) <;> (first | (have z := (hq1 : Dm); clear z hq1; intro hq1; try simp only [noR] at hq1) | (have z := (hq2 : Dm); clear z hq2; intro hq2; try simp only [noR] at hq2) | (have z := (hq3 : Dm); clear z hq3; intro hq3; try simp only [noR] at hq3) | (have z := (hq4 : Dm); clear z hq4; intro hq4; try simp only [noR] at hq4) | (have z := (hq5 : Dm); clear z hq5; intro hq5; try simp only [noR] at hq5) | (have z := (hq6 : Dm); clear z hq6; intro hq6; try simp only [noR] at hq6)) <;> (try simp -implicitDefEqProofs -dsimp (maxSteps := 2000000) (disch := (first | exact dz | fail)) only [go_sem, aR, hq6, hq5, hq4, hq3, hq2, hq1, h0])))) <;> (try with_reducible and_intros) <;> (first | exact fz | skip)
def trimP (s p : List UInt8) : List UInt8 := if isPre p s = true then s.drop p.length else s
theorem trim0_ok (s p : List UInt8) (hs : s.length < 4611686018427387904) (hp : p.length < 4611686018427387904) (hf : Fits en m.length) : WC Tryz.prog pol en (.func 165) [tx s, tx p] m fun v m' => v = tx (trimP s p) ∧ m' = m := by
  have h0 := fun (en : Env) (m : Mem) Q => (liteHasPrefix_ok (m := m) (en := en) s p hs hp).rule Q
  refine callPur Tryz.func165 rfl rfl Tryz.ntmps165 Tryz.results165 ?_
  have hl : isPre p s = true → (p.length : Int) ≤ (s.length : Int) := fun h => by have := pre_len h; omega
  cases hq : isPre p s with
  | true =>
    have hl2 := hl hq
    (have hq1 : Dm := ⟨⟩; have hq2 : Dm := ⟨⟩; have hq3 : Dm := ⟨⟩; have hq4 : Dm := ⟨⟩; have hq5 : Dm := ⟨⟩; have hq6 : Dm := ⟨⟩) <;> (try simp -implicitDefEqProofs -dsimp (maxSteps := 2000000) (disch := (first | exact dz | fail)) only [go_sem, aR, h0, hq]) <;> (repeat' (first | ((with_reducible refine ds_and ?_ ?_); focus exact kz) | ((with_reducible refine And.intro ?_ ?_); focus exact oz) | ((with_reducible refine pc_and ?_ ?_); focus exact pz) | ((with_reducible first | refine gIf_t ?_ ?_ | refine gIf_f ?_ ?_ | refine ite_t ?_ ?_ | refine ite_p ?_ ?_) <;> (first | (have z := (hq1 : Dm); clear z hq1; intro hq1; try simp only [noR] at hq1) | (have z := (hq2 : Dm); clear z hq2; intro hq2; try simp only [noR] at hq2) | (have z := (hq3 : Dm); clear z hq3; intro hq3; try simp only [noR] at hq3) | (have z := (hq4 : Dm); clear z hq4; intro hq4; try simp only [noR] at hq4) | (have z := (hq5 : Dm); clear z hq5; intro hq5; try simp only [noR] at hq5) | (have z := (hq6 : Dm); clear z hq6; intro hq6; try simp only [noR] at hq6)) <;> (try simp -implicitDefEqProofs -dsimp (maxSteps := 2000000) (disch := (first | exact dz | fail)) only [go_sem, aR, hq6, hq5, hq4, hq3, hq2, hq1, h0, hq])))) <;> (try with_reducible and_intros) <;> (first | exact fz | skip)
    simp [trimP, hq]
  | false =>
    (have hq1 : Dm := ⟨⟩; have hq2 : Dm := ⟨⟩; have hq3 : Dm := ⟨⟩; have hq4 : Dm := ⟨⟩; have hq5 : Dm := ⟨⟩; have hq6 : Dm := ⟨⟩) <;> (try simp -implicitDefEqProofs -dsimp (maxSteps := 2000000) (disch := (first | exact dz | fail)) only [go_sem, aR, h0, hq]) <;> (repeat' (first | ((with_reducible refine ds_and ?_ ?_); focus exact kz) | ((with_reducible refine And.intro ?_ ?_); focus exact oz) | ((with_reducible refine pc_and ?_ ?_); focus exact pz) | ((with_reducible first | refine gIf_t ?_ ?_ | refine gIf_f ?_ ?_ | refine ite_t ?_ ?_ | refine ite_p ?_ ?_) <;> (first | (have z := (hq1 : Dm); clear z hq1; intro hq1; try simp only [noR] at hq1) | (have z := (hq2 : Dm); clear z hq2; intro hq2; try simp only [noR] at hq2) | (have z := (hq3 : Dm); clear z hq3; intro hq3; try simp only [noR] at hq3) | (have z := (hq4 : Dm); clear z hq4; intro hq4; try simp only [noR] at hq4) | (have z := (hq5 : Dm); clear z hq5; intro hq5; try simp only [noR] at hq5) | (have z := (hq6 : Dm); clear z hq6; intro hq6; try simp only [noR] at hq6)) <;> (try simp -implicitDefEqProofs -dsimp (maxSteps := 2000000) (disch := (first | exact dz | fail)) only [go_sem, aR, hq6, hq5, hq4, hq3, hq2, hq1, h0, hq])))) <;> (try with_reducible and_intros) <;> (first | exact fz | skip)
    simp [trimP, hq]
theorem trim_ok (s p : List UInt8) (hs : s.length < 4611686018427387904) (hp : p.length < 4611686018427387904) (hf : Fits en m.length) : WC Tryz.prog pol en (.func 132) [tx s, tx p] m fun v m' => v = tx (trimP s p) ∧ m' = m := by
  have h0 := fun (en : Env) (m : Mem) Q (hf : Fits en m.length) => (trim0_ok (m := m) (en := en) s p hs hp hf).rule Q
  refine callPur Tryz.func132 rfl rfl Tryz.ntmps132 Tryz.results132 ?_
  (have hq1 : Dm := ⟨⟩; have hq2 : Dm := ⟨⟩; have hq3 : Dm := ⟨⟩; have hq4 : Dm := ⟨⟩; have hq5 : Dm := ⟨⟩; have hq6 : Dm := ⟨⟩) <;> (try simp -implicitDefEqProofs -dsimp (maxSteps := 2000000) (disch := (first | exact dz | fail)) only [go_sem, aR, h0]) <;> (repeat' (first | ((with_reducible refine ds_and ?_ ?_); focus exact kz) | ((with_reducible refine And.intro ?_ ?_); focus exact oz) | ((with_reducible refine pc_and ?_ ?_); focus exact pz) | ((with_reducible first | refine gIf_t ?_ ?_ | refine gIf_f ?_ ?_ | refine ite_t ?_ ?_ | refine ite_p ?_ ?_) <;> (first | (have z := (hq1 : Dm); clear z hq1; intro hq1; try simp only [noR] at hq1) | (have z := (hq2 : Dm); clear z hq2; intro hq2; try simp only [noR] at hq2) | (have z := (hq3 : Dm); clear z hq3; intro hq3; try simp only [noR] at hq3) | (have z := (hq4 : Dm); clear z hq4; intro hq4; try simp only [noR] at hq4) | (have z := (hq5 : Dm); clear z hq5; intro hq5; try simp only [noR] at hq5) | (have z := (hq6 : Dm); clear z hq6; intro hq6; try simp only [noR] at hq6)) <;> (try simp -implicitDefEqProofs -dsimp (maxSteps := 2000000) (disch := (first | exact dz | fail)) only [go_sem, aR, hq6, hq5, hq4, hq3, hq2, hq1, h0])))) <;> (try with_reducible and_intros) <;> (first | exact fz | skip)
def partsL (p : List UInt8) : List UInt8 × List UInt8 := if lastI p 47 ≤ 0 then ([47], trimP p [47]) else (p.take (lastI p 47).toNat, p.drop ((lastI p 47).toNat + 1))
theorem lastAt_lt (s : List UInt8) (c : UInt8) : ∀ i, -1 ≤ lastAt s c i ∧ lastAt s c i < i ∧ (0 ≤ lastAt s c i → s[(lastAt s c i).toNat]? = some c)
  | 0 => by simp [lastAt]
  | i + 1 => by
    have := lastAt_lt s c i
    unfold lastAt
    split
    · refine ⟨by omega, by omega, fun _ => by simpa using ‹_›⟩
    · exact ⟨this.1, by omega, this.2.2⟩
theorem parts_ok (p : List UInt8) (hp : p.length < 4611686018427387904) (hf : Fits en m.length) : WC Tryz.prog pol en (.func 101) [tx p] m fun v m' => v = .tup [tx (partsL p).1, tx (partsL p).2] ∧ m' = m := by
  have h0 : ∀ (en : Env) (m : Mem) (Q : AV → Mem → Prop) (hf : Fits en m.length), WC Tryz.prog pol en (.func 46) [tx p, .sc (.int .u8 47)] m Q = Q (I (lastI p 47)) m := fun (en : Env) (m : Mem) Q (hf : Fits en m.length) => (lastByte_ok (m := m) (en := en) p 47 (by omega) hf).rule Q
  have h1 := fun (en : Env) (m : Mem) Q (hf : Fits en m.length) => (trim_ok (m := m) (en := en) p [47] hp (by decide) hf).rule Q
  have hl := lastAt_lt p 47 p.length
  have h47 : (47 : Int) = ((47 : UInt8).toNat : Int) := rfl
  refine callPur Tryz.func101 rfl rfl Tryz.ntmps101 Tryz.results101 ?_
  have e : lastAt p 47 p.length = lastI p 47 := rfl
  rw [e] at hl
  (have hq1 : Dm := ⟨⟩; have hq2 : Dm := ⟨⟩; have hq3 : Dm := ⟨⟩; have hq4 : Dm := ⟨⟩; have hq5 : Dm := ⟨⟩; have hq6 : Dm := ⟨⟩) <;> (try simp -implicitDefEqProofs -dsimp (maxSteps := 2000000) (disch := (first | exact dz | fail)) only [go_sem, aR, h0, h1]) <;> (repeat' (first | ((with_reducible refine ds_and ?_ ?_); focus exact kz) | ((with_reducible refine And.intro ?_ ?_); focus exact oz) | ((with_reducible refine pc_and ?_ ?_); focus exact pz) | ((with_reducible first | refine gIf_t ?_ ?_ | refine gIf_f ?_ ?_ | refine ite_t ?_ ?_ | refine ite_p ?_ ?_) <;> (first | (have z := (hq1 : Dm); clear z hq1; intro hq1; try simp only [noR] at hq1) | (have z := (hq2 : Dm); clear z hq2; intro hq2; try simp only [noR] at hq2) | (have z := (hq3 : Dm); clear z hq3; intro hq3; try simp only [noR] at hq3) | (have z := (hq4 : Dm); clear z hq4; intro hq4; try simp only [noR] at hq4) | (have z := (hq5 : Dm); clear z hq5; intro hq5; try simp only [noR] at hq5) | (have z := (hq6 : Dm); clear z hq6; intro hq6; try simp only [noR] at hq6)) <;> (try simp -implicitDefEqProofs -dsimp (maxSteps := 2000000) (disch := (first | exact dz | fail)) only [go_sem, aR, hq6, hq5, hq4, hq3, hq2, hq1, h0, h1])))) <;> (try with_reducible and_intros) <;> (first | exact fz | skip)
  · simp [partsL, hq1]
  · have e3 : (lastI p 47 + 1).toNat = (lastI p 47).toNat + 1 := by omega
    simp [partsL, hq1, e3]
theorem pathOf_ok (n : Nd) (hf : Fits en m.length) : WC Tryz.prog pol en (.func 103) [.agg [tx n.path, .sc (.bool n.dir), tx n.data, tx n.first]] m fun v m' => v = tx n.path ∧ m' = m := by
  refine callPur Tryz.func103 rfl rfl Tryz.ntmps103 Tryz.results103 ?_
  (have hq1 : Dm := ⟨⟩; have hq2 : Dm := ⟨⟩; have hq3 : Dm := ⟨⟩; have hq4 : Dm := ⟨⟩; have hq5 : Dm := ⟨⟩; have hq6 : Dm := ⟨⟩) <;> (try simp -implicitDefEqProofs -dsimp (maxSteps := 2000000) (disch := (first | exact dz | fail)) only [go_sem, aR, ]) <;> (repeat' (first | ((with_reducible refine ds_and ?_ ?_); focus exact kz) | ((with_reducible refine And.intro ?_ ?_); focus exact oz) | ((with_reducible refine pc_and ?_ ?_); focus exact pz) | ((with_reducible first | refine gIf_t ?_ ?_ | refine gIf_f ?_ ?_ | refine ite_t ?_ ?_ | refine ite_p ?_ ?_) <;> (first | (have z := (hq1 : Dm); clear z hq1; intro hq1; try simp only [noR] at hq1) | (have z := (hq2 : Dm); clear z hq2; intro hq2; try simp only [noR] at hq2) | (have z := (hq3 : Dm); clear z hq3; intro hq3; try simp only [noR] at hq3) | (have z := (hq4 : Dm); clear z hq4; intro hq4; try simp only [noR] at hq4) | (have z := (hq5 : Dm); clear z hq5; intro hq5; try simp only [noR] at hq5) | (have z := (hq6 : Dm); clear z hq6; intro hq6; try simp only [noR] at hq6)) <;> (try simp -implicitDefEqProofs -dsimp (maxSteps := 2000000) (disch := (first | exact dz | fail)) only [go_sem, aR, hq6, hq5, hq4, hq3, hq2, hq1])))) <;> (try with_reducible and_intros) <;> (first | exact fz | skip)
theorem treeNew_ok (hf : Fits en m.length) : WC Tryz.prog pol en (.func 66) [] m fun v m' => v = slf ndC ⟨false, true, [root0]⟩ ∧ m' = m := by
  refine callPur Tryz.func66 rfl rfl Tryz.ntmps66 Tryz.results66 ?_
  simp -implicitDefEqProofs -dsimp (maxSteps := 2000000) (disch := (first | exact dz | fail)) only [go_sem, aR, ]
  show frzQ m m.length 8 (slf ndC ⟨false, true, [root0]⟩) _
  rw [frzQ_slf (w := 4)]
  exact ⟨rfl, rfl⟩
/-- The comparison of a node's path with a text. -/
theorem place1_ok (n : Nd) (k : List UInt8) {id ver : Nat} (hid : m[id]? = some (.cells ver [.clo (.func 103) [] []])) (hf : Fits en m.length) : WC Tryz.prog pol en (.func 134) [.agg [tx n.path, .sc (.bool n.dir), tx n.data, tx n.first], tx k, .ptr id ver 0] m fun v m' => v = I (cmpL n.path k) ∧ m' = m := by
  have h0 := fun (en : Env) (m : Mem) Q (hf : Fits en m.length) => (pathOf_ok (m := m) (en := en) n hf).rule Q
  have h1 := fun (en : Env) (m : Mem) Q (hf : Fits en m.length) => (compare_ok (m := m) (en := en) n.path k hf).rule Q
  have hlt : id < m.length := (List.getElem?_eq_some_iff.1 hid).1
  have hid2 : ∀ l, (m ++ l)[id]? = some (.cells ver [.clo (.func 103) [] []]) := fun l => by rw [List.getElem?_append_left hlt]; exact hid
  refine callPur Tryz.func134 rfl rfl Tryz.ntmps134 Tryz.results134 ?_
  (have hq1 : Dm := ⟨⟩; have hq2 : Dm := ⟨⟩; have hq3 : Dm := ⟨⟩; have hq4 : Dm := ⟨⟩; have hq5 : Dm := ⟨⟩; have hq6 : Dm := ⟨⟩) <;> (try simp -implicitDefEqProofs -dsimp (maxSteps := 2000000) (disch := (first | exact dz | fail)) only [go_sem, aR, h0, h1, hid2]) <;> (repeat' (first | ((with_reducible refine ds_and ?_ ?_); focus exact kz) | ((with_reducible refine And.intro ?_ ?_); focus exact oz) | ((with_reducible refine pc_and ?_ ?_); focus exact pz) | ((with_reducible first | refine gIf_t ?_ ?_ | refine gIf_f ?_ ?_ | refine ite_t ?_ ?_ | refine ite_p ?_ ?_) <;> (first | (have z := (hq1 : Dm); clear z hq1; intro hq1; try simp only [noR] at hq1) | (have z := (hq2 : Dm); clear z hq2; intro hq2; try simp only [noR] at hq2) | (have z := (hq3 : Dm); clear z hq3; intro hq3; try simp only [noR] at hq3) | (have z := (hq4 : Dm); clear z hq4; intro hq4; try simp only [noR] at hq4) | (have z := (hq5 : Dm); clear z hq5; intro hq5; try simp only [noR] at hq5) | (have z := (hq6 : Dm); clear z hq6; intro hq6; try simp only [noR] at hq6)) <;> (try simp -implicitDefEqProofs -dsimp (maxSteps := 2000000) (disch := (first | exact dz | fail)) only [go_sem, aR, hq6, hq5, hq4, hq3, hq2, hq1, h0, h1, hid2])))) <;> (try with_reducible and_intros) <;> (first | exact fz | skip)
theorem search_ok (t : Sl Nd) (k : List UInt8) (hs : Srt t.l) (ht : t.l.length < 4294967296) {id ver : Nat} (hid : m[id]? = some (.cells ver [.clo (.func 103) [] []])) (hf : Fits en m.length) :
    WC Tryz.prog pol en (.func 133) [slf ndC t, tx k, .clo (.func 134) [] [.ptr id ver 0]] m fun v m' => v = .tup [I (lowB t.l k), bo (getL t.l k).isSome] ∧ m' = m := by
  have h0 := fun (n : Nd) (en : Env) (m : Mem) Q (hid) (hf : Fits en m.length) => (place1_ok (m := m) (en := en) n k (id := id) (ver := ver) hid hf).rule Q
  refine callPur Tryz.func133 rfl rfl Tryz.ntmps133 Tryz.results133 ?_
  (have hq1 : Dm := ⟨⟩; have hq2 : Dm := ⟨⟩; have hq3 : Dm := ⟨⟩; have hq4 : Dm := ⟨⟩; have hq5 : Dm := ⟨⟩; have hq6 : Dm := ⟨⟩) <;> (try simp -implicitDefEqProofs -dsimp (maxSteps := 2000000) (disch := (first | exact dz | fail)) only [go_sem, aR, ]) <;> (repeat' (first | ((with_reducible refine ds_and ?_ ?_); focus exact kz) | ((with_reducible refine And.intro ?_ ?_); focus exact oz) | ((with_reducible refine pc_and ?_ ?_); focus exact pz) | ((with_reducible first | refine gIf_t ?_ ?_ | refine gIf_f ?_ ?_ | refine ite_t ?_ ?_ | refine ite_p ?_ ?_) <;> (first | (have z := (hq1 : Dm); clear z hq1; intro hq1; try simp only [noR] at hq1) | (have z := (hq2 : Dm); clear z hq2; intro hq2; try simp only [noR] at hq2) | (have z := (hq3 : Dm); clear z hq3; intro hq3; try simp only [noR] at hq3) | (have z := (hq4 : Dm); clear z hq4; intro hq4; try simp only [noR] at hq4) | (have z := (hq5 : Dm); clear z hq5; intro hq5; try simp only [noR] at hq5) | (have z := (hq6 : Dm); clear z hq6; intro hq6; try simp only [noR] at hq6)) <;> (try simp -implicitDefEqProofs -dsimp (maxSteps := 2000000) (disch := (first | exact dz | fail)) only [go_sem, aR, hq6, hq5, hq4, hq3, hq2, hq1])))) <;> (try with_reducible and_intros) <;> (first | exact fz | skip)
  refine loopF (fun c ts m' => ∃ (i j : Nat), ts.length = 49 ∧ tg ts 0 = slf ndC t ∧ tg ts 1 = tx k ∧ tg ts 2 = .clo (.func 134) [] [.ptr id ver 0] ∧ tg ts 8 = I t.l.length ∧ tg ts 9 = I i ∧ tg ts 10 = I j ∧ m' = m ∧ i ≤ j ∧ j ≤ t.l.length ∧ (∀ x n, x < i → t.l[x]? = some n → ltB n.path k = true) ∧ (∀ x n, j ≤ x → t.l[x]? = some n → ltB n.path k = false) ∧ c = j - i) t.l.length ⟨0, t.l.length, rfl, rfl, rfl, rfl, rfl, rfl, rfl, rfl, by omega, by omega, by omega, fun x n hx hn => by have := (List.getElem?_eq_some_iff.1 hn).1; omega, by omega⟩ ?_
  rintro c ts m' ⟨i, j, hl, h0', h1, h2, h8, h9, h10, rfl, hij, hjl, hlo, hhi, rfl⟩
  rw [expandT hl]
  by_cases hlt : (i : Int) < (j : Int)
  · have hmid : IntKind.i64.wrap (shrK IntKind.u64 ((i : Int) + (j : Int)) 1) = (((i + j) / 2 : Nat) : Int) := by
      have e1 : shrK IntKind.u64 ((i : Int) + (j : Int)) 1 = (((i + j) / 2 : Nat) : Int) := by
        show ((i : Int) + (j : Int)).fdiv 2 = _
        rw [Int.fdiv_eq_ediv_of_nonneg _ (by omega)]; omega
      rw [e1, i64w (by omega)]
    obtain ⟨n, hn⟩ : ∃ n, t.l[(i + j) / 2]? = some n := ⟨_, List.getElem?_eq_getElem (by omega)⟩
    (have c1 : Dm := ⟨⟩; have c2 : Dm := ⟨⟩; have c3 : Dm := ⟨⟩; have c4 : Dm := ⟨⟩; have c5 : Dm := ⟨⟩; have c6 : Dm := ⟨⟩) <;> (try simp -implicitDefEqProofs -dsimp (maxSteps := 2000000) (disch := (first | exact dz | fail)) only [go_sem, aR, h0', h1, h2, h8, h9, h10, h0, hid, hlt, hmid, hn]) <;> (repeat' (first | ((with_reducible refine ds_and ?_ ?_); focus exact kz) | ((with_reducible refine And.intro ?_ ?_); focus exact oz) | ((with_reducible refine pc_and ?_ ?_); focus exact pz) | ((with_reducible first | refine gIf_t ?_ ?_ | refine gIf_f ?_ ?_ | refine ite_t ?_ ?_ | refine ite_p ?_ ?_) <;> (first | (have z := (c1 : Dm); clear z c1; intro c1; try simp only [noR] at c1) | (have z := (c2 : Dm); clear z c2; intro c2; try simp only [noR] at c2) | (have z := (c3 : Dm); clear z c3; intro c3; try simp only [noR] at c3) | (have z := (c4 : Dm); clear z c4; intro c4; try simp only [noR] at c4) | (have z := (c5 : Dm); clear z c5; intro c5; try simp only [noR] at c5) | (have z := (c6 : Dm); clear z c6; intro c6; try simp only [noR] at c6)) <;> (try simp -implicitDefEqProofs -dsimp (maxSteps := 2000000) (disch := (first | exact dz | fail)) only [go_sem, aR, c6, c5, c4, c3, c2, c1, h0', h1, h2, h8, h9, h10, h0, hid, hlt, hmid, hn])))) <;> (try with_reducible and_intros) <;> (first | exact fz | skip)
    · have hlt' : ltB n.path k = true := by
        unfold cmpL at c1
        split at c1
        · assumption
        · split at c1 <;> omega
      refine ⟨j - ((i + j) / 2 + 1), by omega, (i + j) / 2 + 1, j, rfl, rfl, by omega, by omega, fun x a hx ha => ?_, hhi, rfl⟩
      rcases Nat.lt_or_ge x ((i + j) / 2) with hx2 | hx2
      · exact ltB_trans (hs.get hx2 ha hn) hlt'
      · obtain rfl : x = (i + j) / 2 := by omega
        rw [hn] at ha; cases ha; exact hlt'
    · have hge : ltB n.path k = false := by
        cases hq : ltB n.path k with
        | false => rfl
        | true => rw [cmpL, hq] at c1; simp at c1
      refine ⟨(i + j) / 2 - i, by omega, i, (i + j) / 2, rfl, rfl, by omega, by omega, hlo, fun x a hx ha => ?_, rfl⟩
      rcases Nat.eq_or_lt_of_le hx with rfl | hx2
      · rw [hn] at ha; cases ha; exact hge
      · cases hq : ltB a.path k with
        | false => rfl
        | true => rw [ltB_trans (hs.get hx2 hn ha) hq] at hge; cases hge
  · obtain rfl : i = j := by omega
    have hlow := lowB_eq (t := t.l) (k := k) hjl hlo hhi
    have hfind : ∀ n, t.l[i]? = some n → (decide (cmpL n.path k = 0)) = (getL t.l k).isSome := by
      intro n hn
      have hge := hhi i n (Nat.le_refl _) hn
      by_cases hp : n.path = k
      · rw [← hp, getL_of hs hn]; simp [cmpL, ltB_irr]
      · have h1 : cmpL n.path k = 1 := by simp [cmpL, hge, hp]
        cases hg : getL t.l k with
        | none => simp [h1]
        | some a =>
          have h2 := lowB_get hs hg
          rw [hlow, hn] at h2
          cases h2
          exact (hp (getL_some hg).2).elim
    (have c1 : Dm := ⟨⟩; have c2 : Dm := ⟨⟩; have c3 : Dm := ⟨⟩; have c4 : Dm := ⟨⟩; have c5 : Dm := ⟨⟩; have c6 : Dm := ⟨⟩) <;> (try simp -implicitDefEqProofs -dsimp (maxSteps := 2000000) (disch := (first | exact dz | fail)) only [go_sem, aR, h0', h1, h2, h8, h9, h10, h0, hid, hlt]) <;> (repeat' (first | ((with_reducible refine ds_and ?_ ?_); focus exact kz) | ((with_reducible refine And.intro ?_ ?_); focus exact oz) | ((with_reducible refine pc_and ?_ ?_); focus exact pz) | ((with_reducible first | refine gIf_t ?_ ?_ | refine gIf_f ?_ ?_ | refine ite_t ?_ ?_ | refine ite_p ?_ ?_) <;> (first | (have z := (c1 : Dm); clear z c1; intro c1; try simp only [noR] at c1) | (have z := (c2 : Dm); clear z c2; intro c2; try simp only [noR] at c2) | (have z := (c3 : Dm); clear z c3; intro c3; try simp only [noR] at c3) | (have z := (c4 : Dm); clear z c4; intro c4; try simp only [noR] at c4) | (have z := (c5 : Dm); clear z c5; intro c5; try simp only [noR] at c5) | (have z := (c6 : Dm); clear z c6; intro c6; try simp only [noR] at c6)) <;> (try simp -implicitDefEqProofs -dsimp (maxSteps := 2000000) (disch := (first | exact dz | fail)) only [go_sem, aR, c6, c5, c4, c3, c2, c1, h0', h1, h2, h8, h9, h10, h0, hid, hlt])))) <;> (try with_reducible and_intros) <;> (first | exact fz | skip)
    · have hn := List.getElem?_eq_getElem (show i < t.l.length by omega)
      rw [hlow, hfind _ hn]
    · rw [hlow]
      cases hg : getL t.l k with
      | none => rfl
      | some a =>
        have h2 := lowB_get hs hg
        have := (List.getElem?_eq_some_iff.1 h2).1
        omega
theorem place_ok (t : Sl Nd) (k : List UInt8) (hs : Srt t.l) (ht : t.l.length < 4294967296) (hf : Fits en m.length) :
    WC Tryz.prog pol en (.func 102) [slf ndC t, tx k, .clo (.func 103) [] []] m fun v m' => v = .tup [I (lowB t.l k), bo (getL t.l k).isSome] ∧ m' = m := by
  have h0 := fun (ver : Nat) (en : Env) (m : Mem) Q (hf : Fits en (m ++ [Ob.cells ver [.clo (.func 103) [] []]]).length) => (search_ok (m := m ++ [.cells ver [.clo (.func 103) [] []]]) (en := en) t k hs ht (id := m.length) (ver := ver) (by rw [getM0]; rfl) hf).rule Q
  refine callPur Tryz.func102 rfl rfl Tryz.ntmps102 Tryz.results102 ?_
  (have hq1 : Dm := ⟨⟩; have hq2 : Dm := ⟨⟩; have hq3 : Dm := ⟨⟩; have hq4 : Dm := ⟨⟩; have hq5 : Dm := ⟨⟩; have hq6 : Dm := ⟨⟩) <;> (try simp -implicitDefEqProofs -dsimp (maxSteps := 2000000) (disch := (first | exact dz | fail)) only [go_sem, aR, h0]) <;> (repeat' (first | ((with_reducible refine ds_and ?_ ?_); focus exact kz) | ((with_reducible refine And.intro ?_ ?_); focus exact oz) | ((with_reducible refine pc_and ?_ ?_); focus exact pz) | ((with_reducible first | refine gIf_t ?_ ?_ | refine gIf_f ?_ ?_ | refine ite_t ?_ ?_ | refine ite_p ?_ ?_) <;> (first | (have z := (hq1 : Dm); clear z hq1; intro hq1; try simp only [noR] at hq1) | (have z := (hq2 : Dm); clear z hq2; intro hq2; try simp only [noR] at hq2) | (have z := (hq3 : Dm); clear z hq3; intro hq3; try simp only [noR] at hq3) | (have z := (hq4 : Dm); clear z hq4; intro hq4; try simp only [noR] at hq4) | (have z := (hq5 : Dm); clear z hq5; intro hq5; try simp only [noR] at hq5) | (have z := (hq6 : Dm); clear z hq6; intro hq6; try simp only [noR] at hq6)) <;> (try simp -implicitDefEqProofs -dsimp (maxSteps := 2000000) (disch := (first | exact dz | fail)) only [go_sem, aR, hq6, hq5, hq4, hq3, hq2, hq1, h0])))) <;> (try with_reducible and_intros) <;> (first | exact fz | skip)
end
end Go.Proofs.YtcmjidnbbfcbjaaGreatDoor.V
/- Names and paths of the program; no condition. -/
namespace Go.Proofs.YtcmjidnbbfcbjaaGreatDoor.V
open Go
set_option linter.unusedVariables false
set_option linter.unusedSimpArgs false
set_option maxRecDepth 100000
set_option maxHeartbeats 4000000
noncomputable section
variable {en : Env} {m : Mem}
theorem dec_lo {s : List UInt8} {i : Nat} {c : UInt8} (h : s[i]? = some c) (hc : c.toNat < 128) : Utf8.decode ⟨⟨s⟩⟩ i = (c.toNat, 1) := by
  obtain ⟨hi, he⟩ := List.getElem?_eq_some_iff.1 h
  have hg : (⟨⟨s⟩⟩ : ByteArray)[i]'hi = c := he
  rw [decode_ascii ⟨⟨s⟩⟩ i hi (by rw [hg]; exact hc), hg]
theorem dec_hi {s : List UInt8} {i : Nat} {c : UInt8} (h : s[i]? = some c) (hc : 128 ≤ c.toNat) : 128 ≤ (Utf8.decode ⟨⟨s⟩⟩ i).1 ∧ (Utf8.decode ⟨⟨s⟩⟩ i).1 ≤ 2147483647 ∧ 1 ≤ (Utf8.decode ⟨⟨s⟩⟩ i).2 := by
  obtain ⟨hi, he⟩ := List.getElem?_eq_some_iff.1 h
  have hg : (⟨⟨s⟩⟩ : ByteArray)[i]'hi = c := he
  have := decode_high ⟨⟨s⟩⟩ i hi (by rw [hg]; exact hc)
  exact ⟨this.1, decode_le _ _, this.2⟩
theorem okB_lt {c : UInt8} (h : okB c = true) : c.toNat < 128 := by
  simp only [okB, decide_eq_true_eq] at h; omega
theorem okB_iff (c : UInt8) : okB c = true ↔ ((c.toNat : Int) = 45 ∨ (c.toNat : Int) = 46 ∨ (48 ≤ (c.toNat : Int) ∧ (c.toNat : Int) ≤ 57) ∨ (97 ≤ (c.toNat : Int) ∧ (c.toNat : Int) ≤ 122)) := by
  simp only [okB, decide_eq_true_eq]; omega
theorem name_bad {s : List UInt8} {i : Nat} {c : UInt8} (h : s[i]? = some c) (hc : okB c = false) : nameB s = false := by
  have : s.all okB = false := by rw [List.all_eq_false]; exact ⟨c, List.mem_of_getElem? h, by simp [hc]⟩
  simp [nameB, this]
theorem layName_ok (s : List UInt8) (hs : s.length ≤ 4294967296) (hf : Fits en m.length) : WC Tryz.prog pol en (.func 131) [tx s] m fun v m' => v = bo (nameB s) ∧ m' = m := by
  refine callPur Tryz.func131 rfl rfl Tryz.ntmps131 Tryz.results131 ?_
  (have hq1 : Dm := ⟨⟩; have hq2 : Dm := ⟨⟩; have hq3 : Dm := ⟨⟩; have hq4 : Dm := ⟨⟩; have hq5 : Dm := ⟨⟩; have hq6 : Dm := ⟨⟩) <;> (try simp -implicitDefEqProofs -dsimp (maxSteps := 2000000) (disch := (first | exact dz | fail)) only [go_sem, aR, ]) <;> (repeat' (first | ((with_reducible refine ds_and ?_ ?_); focus exact kz) | ((with_reducible refine And.intro ?_ ?_); focus exact oz) | ((with_reducible refine pc_and ?_ ?_); focus exact pz) | ((with_reducible first | refine gIf_t ?_ ?_ | refine gIf_f ?_ ?_ | refine ite_t ?_ ?_ | refine ite_p ?_ ?_) <;> (first | (have z := (hq1 : Dm); clear z hq1; intro hq1; try simp only [noR] at hq1) | (have z := (hq2 : Dm); clear z hq2; intro hq2; try simp only [noR] at hq2) | (have z := (hq3 : Dm); clear z hq3; intro hq3; try simp only [noR] at hq3) | (have z := (hq4 : Dm); clear z hq4; intro hq4; try simp only [noR] at hq4) | (have z := (hq5 : Dm); clear z hq5; intro hq5; try simp only [noR] at hq5) | (have z := (hq6 : Dm); clear z hq6; intro hq6; try simp only [noR] at hq6)) <;> (try simp -implicitDefEqProofs -dsimp (maxSteps := 2000000) (disch := (first | exact dz | fail)) only [go_sem, aR, hq6, hq5, hq4, hq3, hq2, hq1])))) <;> (try with_reducible and_intros) <;> (first | exact fz | skip)
  refine loopF (fun k ts m' => ∃ (i : Nat), ts.length = 35 ∧ tg ts 0 = tx s ∧ tg ts 6 = .it m.length ∧ m' = m ++ [.iter ⟨⟨s⟩⟩ i] ∧ (s.take i).all okB = true ∧ i ≤ s.length ∧ k = s.length - i) s.length ⟨0, rfl, rfl, rfl, rfl, rfl, by omega, by omega⟩ ?_
  rintro k ts m' ⟨i, hl, h0, h6, rfl, hg, hi, rfl⟩
  rw [expandT hl]
  by_cases hlt : i < s.length
  · obtain ⟨c, hc⟩ : ∃ c, s[i]? = some c := ⟨_, List.getElem?_eq_getElem hlt⟩
    have no : okB c = false → nameB s = false := name_bad hc
    have yes : okB c = true → (s.take (i + 1)).all okB = true := fun h => by rw [List.take_add_one, hc, List.all_append, hg]; simp [h]
    by_cases hlo : c.toNat < 128
    · have hd := dec_lo hc hlo
      have yes' : ((c.toNat : Int) = 45 ∨ (c.toNat : Int) = 46 ∨ (48 ≤ (c.toNat : Int) ∧ (c.toNat : Int) ≤ 57) ∨ (97 ≤ (c.toNat : Int) ∧ (c.toNat : Int) ≤ 122)) → ∃ k', k' < s.length - i ∧ ∃ i_1, m ++ [Ob.iter ⟨⟨s⟩⟩ (i + 1)] = m ++ [Ob.iter ⟨⟨s⟩⟩ i_1] ∧ (s.take i_1).all okB = true ∧ i_1 ≤ s.length ∧ k' = s.length - i_1 :=
        fun h => ⟨_, by omega, i + 1, rfl, yes ((okB_iff c).2 h), by omega, rfl⟩
      have no' : ¬((c.toNat : Int) = 45 ∨ (c.toNat : Int) = 46 ∨ (48 ≤ (c.toNat : Int) ∧ (c.toNat : Int) ≤ 57) ∨ (97 ≤ (c.toNat : Int) ∧ (c.toNat : Int) ≤ 122)) → AV.sc (.bool false) = bo (nameB s) :=
        fun h => by rw [no (by cases hq : okB c with | false => rfl | true => exact (h ((okB_iff c).1 hq)).elim)]
      (have c1 : Dm := ⟨⟩; have c2 : Dm := ⟨⟩; have c3 : Dm := ⟨⟩; have c4 : Dm := ⟨⟩; have c5 : Dm := ⟨⟩; have c6 : Dm := ⟨⟩; have c7 : Dm := ⟨⟩; have c8 : Dm := ⟨⟩) <;> (try simp -implicitDefEqProofs -dsimp (maxSteps := 2000000) (disch := (first | exact dz | fail)) only [go_sem, aR, h0, h6, hlt, hd]) <;> (repeat' (first | ((with_reducible refine ds_and ?_ ?_); focus exact kz) | ((with_reducible refine And.intro ?_ ?_); focus exact oz) | ((with_reducible refine pc_and ?_ ?_); focus exact pz) | ((with_reducible first | refine gIf_t ?_ ?_ | refine gIf_f ?_ ?_ | refine ite_t ?_ ?_ | refine ite_p ?_ ?_) <;> (first | (have z := (c1 : Dm); clear z c1; intro c1; try simp only [noR] at c1) | (have z := (c2 : Dm); clear z c2; intro c2; try simp only [noR] at c2) | (have z := (c3 : Dm); clear z c3; intro c3; try simp only [noR] at c3) | (have z := (c4 : Dm); clear z c4; intro c4; try simp only [noR] at c4) | (have z := (c5 : Dm); clear z c5; intro c5; try simp only [noR] at c5) | (have z := (c6 : Dm); clear z c6; intro c6; try simp only [noR] at c6) | (have z := (c7 : Dm); clear z c7; intro c7; try simp only [noR] at c7) | (have z := (c8 : Dm); clear z c8; intro c8; try simp only [noR] at c8)) <;> (try simp -implicitDefEqProofs -dsimp (maxSteps := 2000000) (disch := (first | exact dz | fail)) only [go_sem, aR, c8, c7, c6, c5, c4, c3, c2, c1, h0, h6, hlt, hd])))) <;> (try with_reducible and_intros) <;> (first | exact fz | skip)
      all_goals first | exact yes' (by omega) | exact no' (by omega)
    · have hd := dec_hi hc (by omega)
      have hno := no (by cases hq : okB c with | false => rfl | true => have := okB_lt hq; omega)
      (have c1 : Dm := ⟨⟩; have c2 : Dm := ⟨⟩; have c3 : Dm := ⟨⟩; have c4 : Dm := ⟨⟩; have c5 : Dm := ⟨⟩; have c6 : Dm := ⟨⟩; have c7 : Dm := ⟨⟩; have c8 : Dm := ⟨⟩) <;> (try simp -implicitDefEqProofs -dsimp (maxSteps := 2000000) (disch := (first | exact dz | fail)) only [go_sem, aR, h0, h6, hlt, hno]) <;> (repeat' (first | ((with_reducible refine ds_and ?_ ?_); focus exact kz) | ((with_reducible refine And.intro ?_ ?_); focus exact oz) | ((with_reducible refine pc_and ?_ ?_); focus exact pz) | ((with_reducible first | refine gIf_t ?_ ?_ | refine gIf_f ?_ ?_ | refine ite_t ?_ ?_ | refine ite_p ?_ ?_) <;> (first | (have z := (c1 : Dm); clear z c1; intro c1; try simp only [noR] at c1) | (have z := (c2 : Dm); clear z c2; intro c2; try simp only [noR] at c2) | (have z := (c3 : Dm); clear z c3; intro c3; try simp only [noR] at c3) | (have z := (c4 : Dm); clear z c4; intro c4; try simp only [noR] at c4) | (have z := (c5 : Dm); clear z c5; intro c5; try simp only [noR] at c5) | (have z := (c6 : Dm); clear z c6; intro c6; try simp only [noR] at c6) | (have z := (c7 : Dm); clear z c7; intro c7; try simp only [noR] at c7) | (have z := (c8 : Dm); clear z c8; intro c8; try simp only [noR] at c8)) <;> (try simp -implicitDefEqProofs -dsimp (maxSteps := 2000000) (disch := (first | exact dz | fail)) only [go_sem, aR, c8, c7, c6, c5, c4, c3, c2, c1, h0, h6, hlt, hno])))) <;> (try with_reducible and_intros) <;> (first | exact fz | skip)
      all_goals (exfalso; omega)
  · rw [List.take_of_length_le (by omega)] at hg
    (have c1 : Dm := ⟨⟩; have c2 : Dm := ⟨⟩; have c3 : Dm := ⟨⟩; have c4 : Dm := ⟨⟩; have c5 : Dm := ⟨⟩; have c6 : Dm := ⟨⟩; have c7 : Dm := ⟨⟩; have c8 : Dm := ⟨⟩) <;> (try simp -implicitDefEqProofs -dsimp (maxSteps := 2000000) (disch := (first | exact dz | fail)) only [go_sem, aR, h0, h6, hlt]) <;> (repeat' (first | ((with_reducible refine ds_and ?_ ?_); focus exact kz) | ((with_reducible refine And.intro ?_ ?_); focus exact oz) | ((with_reducible refine pc_and ?_ ?_); focus exact pz) | ((with_reducible first | refine gIf_t ?_ ?_ | refine gIf_f ?_ ?_ | refine ite_t ?_ ?_ | refine ite_p ?_ ?_) <;> (first | (have z := (c1 : Dm); clear z c1; intro c1; try simp only [noR] at c1) | (have z := (c2 : Dm); clear z c2; intro c2; try simp only [noR] at c2) | (have z := (c3 : Dm); clear z c3; intro c3; try simp only [noR] at c3) | (have z := (c4 : Dm); clear z c4; intro c4; try simp only [noR] at c4) | (have z := (c5 : Dm); clear z c5; intro c5; try simp only [noR] at c5) | (have z := (c6 : Dm); clear z c6; intro c6; try simp only [noR] at c6) | (have z := (c7 : Dm); clear z c7; intro c7; try simp only [noR] at c7) | (have z := (c8 : Dm); clear z c8; intro c8; try simp only [noR] at c8)) <;> (try simp -implicitDefEqProofs -dsimp (maxSteps := 2000000) (disch := (first | exact dz | fail)) only [go_sem, aR, c8, c7, c6, c5, c4, c3, c2, c1, h0, h6, hlt])))) <;> (try with_reducible and_intros) <;> (first | exact fz | skip)
    · have : 0 < s.length := List.length_pos_iff.2 c1
      have e : (decide ((s.length : Int) ≤ 7)) = nameB s := by
        rw [Bool.eq_iff_iff]; simp [nameB, hg]; omega
      rw [e]
    · rfl
theorem layName_eq (s : List UInt8) (Q : AV → Mem → Prop) (hs : s.length ≤ 4294967296) (hf : Fits en m.length) : WC Tryz.prog pol en (.func 131) [tx s] m Q = Q (bo (nameB s)) m := (layName_ok s hs hf).rule Q
theorem notName_eq (s : List UInt8) (Q : AV → Mem → Prop) (hs : s.length ≤ 4294967296) (hf : Fits en m.length) : WC Tryz.prog pol en (.func 130) [tx s] m Q = Q (bo (!nameB s)) m := by
  refine WC.rule ?_ Q
  refine callPur Tryz.func130 rfl rfl Tryz.ntmps130 Tryz.results130 ?_
  (have hq1 : Dm := ⟨⟩; have hq2 : Dm := ⟨⟩; have hq3 : Dm := ⟨⟩; have hq4 : Dm := ⟨⟩; have hq5 : Dm := ⟨⟩; have hq6 : Dm := ⟨⟩) <;> (try simp -implicitDefEqProofs -dsimp (maxSteps := 2000000) (disch := (first | exact dz | fail)) only [go_sem, aR, layName_eq]) <;> (repeat' (first | ((with_reducible refine ds_and ?_ ?_); focus exact kz) | ((with_reducible refine And.intro ?_ ?_); focus exact oz) | ((with_reducible refine pc_and ?_ ?_); focus exact pz) | ((with_reducible first | refine gIf_t ?_ ?_ | refine gIf_f ?_ ?_ | refine ite_t ?_ ?_ | refine ite_p ?_ ?_) <;> (first | (have z := (hq1 : Dm); clear z hq1; intro hq1; try simp only [noR] at hq1) | (have z := (hq2 : Dm); clear z hq2; intro hq2; try simp only [noR] at hq2) | (have z := (hq3 : Dm); clear z hq3; intro hq3; try simp only [noR] at hq3) | (have z := (hq4 : Dm); clear z hq4; intro hq4; try simp only [noR] at hq4) | (have z := (hq5 : Dm); clear z hq5; intro hq5; try simp only [noR] at hq5) | (have z := (hq6 : Dm); clear z hq6; intro hq6; try simp only [noR] at hq6)) <;> (try simp -implicitDefEqProofs -dsimp (maxSteps := 2000000) (disch := (first | exact dz | fail)) only [go_sem, aR, hq6, hq5, hq4, hq3, hq2, hq1, layName_eq])))) <;> (try with_reducible and_intros) <;> (first | exact fz | skip)
/-- Where the first text is that is no name. -/
def badAt (l : List (List UInt8)) : Int := match l.findIdx? (fun s => !nameB s) with | some i => i | none => -1
theorem badAt_iff (l : List (List UInt8)) : 0 ≤ badAt l ↔ l.all nameB = false := by
  unfold badAt
  cases h : l.findIdx? (fun s => !nameB s) with
  | none =>
    rw [List.findIdx?_eq_none_iff] at h
    simp only [List.all_eq_false]
    constructor
    · intro h1; omega
    · rintro ⟨s, hs, h1⟩
      have := h s hs
      simp at this; rw [this] at h1; exact (h1 rfl).elim
  | some i =>
    rw [List.findIdx?_eq_some_iff_getElem] at h
    obtain ⟨hi, h1, _⟩ := h
    simp only [List.all_eq_false]
    constructor
    · intro _; exact ⟨l[i], List.getElem_mem hi, by simpa using h1⟩
    · intro _; omega
theorem indexNames_ok {l : List (List UInt8)} {id ver : Nat} (hid : m[id]? = some (.cells ver (l.map tx))) (hl : l.length < 4294967296) (hs : ∀ s ∈ l, s.length ≤ 4294967296) (hf : Fits en m.length) :
    WC Tryz.prog pol en (.func 164) [.own id ver 0 l.length 1, .clo (.func 130) [] []] m fun v m' => v = I (badAt l) ∧ m' = m := by
  refine callPur Tryz.func164 rfl rfl Tryz.ntmps164 Tryz.results164 ?_
  (have hq1 : Dm := ⟨⟩; have hq2 : Dm := ⟨⟩; have hq3 : Dm := ⟨⟩; have hq4 : Dm := ⟨⟩; have hq5 : Dm := ⟨⟩; have hq6 : Dm := ⟨⟩) <;> (try simp -implicitDefEqProofs -dsimp (maxSteps := 2000000) (disch := (first | exact dz | fail)) only [go_sem, aR, ]) <;> (repeat' (first | ((with_reducible refine ds_and ?_ ?_); focus exact kz) | ((with_reducible refine And.intro ?_ ?_); focus exact oz) | ((with_reducible refine pc_and ?_ ?_); focus exact pz) | ((with_reducible first | refine gIf_t ?_ ?_ | refine gIf_f ?_ ?_ | refine ite_t ?_ ?_ | refine ite_p ?_ ?_) <;> (first | (have z := (hq1 : Dm); clear z hq1; intro hq1; try simp only [noR] at hq1) | (have z := (hq2 : Dm); clear z hq2; intro hq2; try simp only [noR] at hq2) | (have z := (hq3 : Dm); clear z hq3; intro hq3; try simp only [noR] at hq3) | (have z := (hq4 : Dm); clear z hq4; intro hq4; try simp only [noR] at hq4) | (have z := (hq5 : Dm); clear z hq5; intro hq5; try simp only [noR] at hq5) | (have z := (hq6 : Dm); clear z hq6; intro hq6; try simp only [noR] at hq6)) <;> (try simp -implicitDefEqProofs -dsimp (maxSteps := 2000000) (disch := (first | exact dz | fail)) only [go_sem, aR, hq6, hq5, hq4, hq3, hq2, hq1])))) <;> (try with_reducible and_intros) <;> (first | exact fz | skip)
  refine loopF (fun k ts m' => ∃ (i : Nat), ts.length = 19 ∧ tg ts 0 = .own id ver 0 l.length 1 ∧ tg ts 1 = .clo (.func 130) [] [] ∧ tg ts 7 = I l.length ∧ tg ts 8 = I i ∧ m' = m ∧ (∀ j s, j < i → l[j]? = some s → nameB s = true) ∧ i ≤ l.length ∧ k = l.length - i) l.length ⟨0, rfl, rfl, rfl, rfl, rfl, rfl, fun j s hj => by omega, by omega, by omega⟩ ?_
  rintro k ts m' ⟨i, hln, h0, h1, h7, h8, rfl, hg, hi, rfl⟩
  rw [expandT hln]
  by_cases hlt : (i : Int) < (l.length : Int)
  · obtain ⟨s, hsi⟩ : ∃ s, l[i]? = some s := ⟨_, List.getElem?_eq_getElem (by omega)⟩
    have hsl := hs s (List.mem_of_getElem? hsi)
    (have c1 : Dm := ⟨⟩; have c2 : Dm := ⟨⟩; have c3 : Dm := ⟨⟩; have c4 : Dm := ⟨⟩; have c5 : Dm := ⟨⟩; have c6 : Dm := ⟨⟩) <;> (try simp -implicitDefEqProofs -dsimp (maxSteps := 2000000) (disch := (first | exact dz | fail)) only [go_sem, aR, h0, h1, h7, h8, hlt, hid, List.getElem?_map, hsi, notName_eq]) <;> (repeat' (first | ((with_reducible refine ds_and ?_ ?_); focus exact kz) | ((with_reducible refine And.intro ?_ ?_); focus exact oz) | ((with_reducible refine pc_and ?_ ?_); focus exact pz) | ((with_reducible first | refine gIf_t ?_ ?_ | refine gIf_f ?_ ?_ | refine ite_t ?_ ?_ | refine ite_p ?_ ?_) <;> (first | (have z := (c1 : Dm); clear z c1; intro c1; try simp only [noR] at c1) | (have z := (c2 : Dm); clear z c2; intro c2; try simp only [noR] at c2) | (have z := (c3 : Dm); clear z c3; intro c3; try simp only [noR] at c3) | (have z := (c4 : Dm); clear z c4; intro c4; try simp only [noR] at c4) | (have z := (c5 : Dm); clear z c5; intro c5; try simp only [noR] at c5) | (have z := (c6 : Dm); clear z c6; intro c6; try simp only [noR] at c6)) <;> (try simp -implicitDefEqProofs -dsimp (maxSteps := 2000000) (disch := (first | exact dz | fail)) only [go_sem, aR, c6, c5, c4, c3, c2, c1, h0, h1, h7, h8, hlt, hid, List.getElem?_map, hsi, notName_eq])))) <;> (try with_reducible and_intros) <;> (first | exact fz | skip)
    · have : badAt l = i := by
        have hf2 : l.findIdx? (fun s => !nameB s) = some i := by
          rw [List.findIdx?_eq_some_iff_getElem]
          refine ⟨by omega, ?_, fun j hj => ?_⟩
          · have : l[i] = s := (List.getElem?_eq_some_iff.1 hsi).2
            rw [this]; simpa using c1
          · have := hg j _ hj (List.getElem?_eq_getElem (by omega))
            simp [this]
        unfold badAt
        rw [hf2]
      rw [this]
    · refine ⟨_, by omega, i + 1, rfl, fun j s' hj hs' => ?_, by omega, rfl⟩
      rcases Nat.lt_or_ge j i with h | h
      · exact hg j s' h hs'
      · obtain rfl : j = i := by omega
        rw [hsi] at hs'; cases hs'; simpa using c1
  · (have c1 : Dm := ⟨⟩; have c2 : Dm := ⟨⟩; have c3 : Dm := ⟨⟩; have c4 : Dm := ⟨⟩; have c5 : Dm := ⟨⟩; have c6 : Dm := ⟨⟩) <;> (try simp -implicitDefEqProofs -dsimp (maxSteps := 2000000) (disch := (first | exact dz | fail)) only [go_sem, aR, h0, h1, h7, h8, hlt]) <;> (repeat' (first | ((with_reducible refine ds_and ?_ ?_); focus exact kz) | ((with_reducible refine And.intro ?_ ?_); focus exact oz) | ((with_reducible refine pc_and ?_ ?_); focus exact pz) | ((with_reducible first | refine gIf_t ?_ ?_ | refine gIf_f ?_ ?_ | refine ite_t ?_ ?_ | refine ite_p ?_ ?_) <;> (first | (have z := (c1 : Dm); clear z c1; intro c1; try simp only [noR] at c1) | (have z := (c2 : Dm); clear z c2; intro c2; try simp only [noR] at c2) | (have z := (c3 : Dm); clear z c3; intro c3; try simp only [noR] at c3) | (have z := (c4 : Dm); clear z c4; intro c4; try simp only [noR] at c4) | (have z := (c5 : Dm); clear z c5; intro c5; try simp only [noR] at c5) | (have z := (c6 : Dm); clear z c6; intro c6; try simp only [noR] at c6)) <;> (try simp -implicitDefEqProofs -dsimp (maxSteps := 2000000) (disch := (first | exact dz | fail)) only [go_sem, aR, c6, c5, c4, c3, c2, c1, h0, h1, h7, h8, hlt])))) <;> (try with_reducible and_intros) <;> (first | exact fz | skip)
    have : badAt l = -1 := by
      unfold badAt
      rw [List.findIdx?_eq_none_iff.2]
      intro s hs
      obtain ⟨j, hj⟩ := List.getElem?_of_mem hs
      have := hg j s (by have := (List.getElem?_eq_some_iff.1 hj).1; omega) hj
      simp [this]
    rw [this]
theorem containsNames_eq {l : List (List UInt8)} {id ver n : Nat} (Q : AV → Mem → Prop) (hid : m[id]? = some (.cells ver (l.map tx))) (hn : n = l.length) (hl : l.length < 4294967296) (hs : ∀ s ∈ l, s.length ≤ 4294967296) (hf : Fits en m.length) :
    WC Tryz.prog pol en (.func 129) [.own id ver 0 n 1, .clo (.func 130) [] []] m Q = Q (bo (!l.all nameB)) m := by
  subst hn
  refine WC.rule ?_ Q
  have h0 := fun (en : Env) Q (hf : Fits en m.length) => (indexNames_ok (m := m) (en := en) hid hl hs hf).rule Q
  refine callPur Tryz.func129 rfl rfl Tryz.ntmps129 Tryz.results129 ?_
  (have hq1 : Dm := ⟨⟩; have hq2 : Dm := ⟨⟩; have hq3 : Dm := ⟨⟩; have hq4 : Dm := ⟨⟩; have hq5 : Dm := ⟨⟩; have hq6 : Dm := ⟨⟩) <;> (try simp -implicitDefEqProofs -dsimp (maxSteps := 2000000) (disch := (first | exact dz | fail)) only [go_sem, aR, h0]) <;> (repeat' (first | ((with_reducible refine ds_and ?_ ?_); focus exact kz) | ((with_reducible refine And.intro ?_ ?_); focus exact oz) | ((with_reducible refine pc_and ?_ ?_); focus exact pz) | ((with_reducible first | refine gIf_t ?_ ?_ | refine gIf_f ?_ ?_ | refine ite_t ?_ ?_ | refine ite_p ?_ ?_) <;> (first | (have z := (hq1 : Dm); clear z hq1; intro hq1; try simp only [noR] at hq1) | (have z := (hq2 : Dm); clear z hq2; intro hq2; try simp only [noR] at hq2) | (have z := (hq3 : Dm); clear z hq3; intro hq3; try simp only [noR] at hq3) | (have z := (hq4 : Dm); clear z hq4; intro hq4; try simp only [noR] at hq4) | (have z := (hq5 : Dm); clear z hq5; intro hq5; try simp only [noR] at hq5) | (have z := (hq6 : Dm); clear z hq6; intro hq6; try simp only [noR] at hq6)) <;> (try simp -implicitDefEqProofs -dsimp (maxSteps := 2000000) (disch := (first | exact dz | fail)) only [go_sem, aR, hq6, hq5, hq4, hq3, hq2, hq1, h0])))) <;> (try with_reducible and_intros) <;> (first | exact fz | skip)
  have h := badAt_iff l
  cases hq : l.all nameB with
  | true => have : ¬0 ≤ badAt l := fun h1 => by rw [h.1 h1] at hq; cases hq
            simp [this]
  | false => have : 0 ≤ badAt l := h.2 hq
             simp [this]
end
end Go.Proofs.YtcmjidnbbfcbjaaGreatDoor.V
/- Paths' names, of the program; no condition. -/
namespace Go.Proofs.YtcmjidnbbfcbjaaGreatDoor.V
open Go
set_option linter.unusedVariables false
set_option linter.unusedSimpArgs false
set_option maxRecDepth 100000
set_option maxHeartbeats 4000000
noncomputable section
variable {en : Env} {m : Mem}
theorem encL_lo {c : UInt8} (h : c.toNat < 128) : encL (c.toNat : Int) = [c] := by
  have hv : Utf8.valid (c.toNat : Int) = true := by simp [Utf8.valid]; omega
  simp [encL, Utf8.encode, hv, h]
theorem encL_hi {n : Int} (h : 128 ≤ n) : (encL n).length ≤ 4 ∧ ∃ b ∈ encL n, 128 ≤ b.toNat := by
  unfold encL Utf8.encode
  simp only
  generalize hc : (if Utf8.valid n = true then n.toNat else Utf8.runeError) = c
  have hge : 128 ≤ c := by
    subst hc
    split
    · omega
    · simp [Utf8.runeError]
  rw [if_neg (by omega)]
  split
  · refine ⟨by simp, UInt8.ofNat (0xC0 + c / 64), by simp, ?_⟩
    rw [UInt8.toNat_ofNat']; omega
  · split
    · refine ⟨by simp, UInt8.ofNat (0x80 + c % 64), by simp, ?_⟩
      rw [UInt8.toNat_ofNat']; omega
    · refine ⟨by simp, UInt8.ofNat (0x80 + c % 64), by simp, ?_⟩
      rw [UInt8.toNat_ofNat']; omega
theorem stepS_ne (o : List (List UInt8)) (c : UInt8) (h : o ≠ []) : stepS o c ≠ [] := by
  unfold stepS; split
  · simp
  · intro e; have := congrArg List.length e; simp at this; exact h this
theorem mem_last {o : List (List UInt8)} (h : o ≠ []) (y : List UInt8) : y ∈ o.set (o.length - 1) y := by
  have : 0 < o.length := List.length_pos_iff.2 h
  rw [List.mem_iff_getElem?]
  exact ⟨o.length - 1, by rw [List.getElem?_set_self (by omega)]⟩
theorem stepS_keep {o : List (List UInt8)} {c x : UInt8} (h : ∃ s ∈ o, x ∈ s) : ∃ s ∈ stepS o c, x ∈ s := by
  obtain ⟨s, hs, hx⟩ := h
  unfold stepS
  split
  · exact ⟨s, by simp [hs], hx⟩
  · obtain ⟨i, hi⟩ := List.getElem?_of_mem hs
    have hlt := (List.getElem?_eq_some_iff.1 hi).1
    by_cases he : i = o.length - 1
    · refine ⟨o.getD (o.length - 1) [] ++ [c], mem_last (by rintro rfl; simp at hs) _, ?_⟩
      rw [List.getD_eq_getElem?_getD, ← he, hi]; simp [hx]
    · refine ⟨s, ?_, hx⟩
      rw [List.mem_iff_getElem?]
      exact ⟨i, by rw [List.getElem?_set_ne (by omega)]; exact hi⟩
theorem fold_keep {x : UInt8} : ∀ (l : List UInt8) (o : List (List UInt8)), (∃ s ∈ o, x ∈ s) → ∃ s ∈ l.foldl stepS o, x ∈ s
  | [], _, h => h
  | c :: l, o, h => fold_keep l (stepS o c) (stepS_keep h)
theorem fold_mem {x : UInt8} : ∀ (l : List UInt8) (o : List (List UInt8)), o ≠ [] → x ∈ l → x = 47 ∨ ∃ s ∈ l.foldl stepS o, x ∈ s
  | [], _, _, h => by simp at h
  | c :: l, o, ho, h => by
    rw [List.mem_cons] at h
    rcases h with rfl | h
    · by_cases h47 : x = 47
      · exact Or.inl h47
      · right
        refine fold_keep l _ ⟨o.getD (o.length - 1) [] ++ [x], ?_, by simp⟩
        rw [stepS, if_neg h47]; exact mem_last ho _
    · exact fold_mem l (stepS o c) (stepS_ne o c ho) h
def tot (o : List (List UInt8)) : Nat := (o.map fun s => s.length + 1).sum
theorem tot_append (a b : List (List UInt8)) : tot (a ++ b) = tot a + tot b := by simp [tot]
theorem stepS_tot {o : List (List UInt8)} (c : UInt8) (h : o ≠ []) : tot (stepS o c) = tot o + 1 := by
  unfold stepS
  split
  · rw [tot_append]; rfl
  · obtain ⟨o', a, rfl⟩ : ∃ o' a, o = o' ++ [a] := ⟨o.dropLast, o.getLast h, (List.dropLast_concat_getLast h).symm⟩
    have e : (o' ++ [a]).length - 1 = o'.length := by simp
    rw [e, List.set_append_right _ _ (Nat.le_refl _), Nat.sub_self, List.set_cons_zero, List.getD_eq_getElem?_getD, List.getElem?_append_right (Nat.le_refl _), Nat.sub_self]
    rw [tot_append, tot_append]
    simp [tot]; omega
theorem fold_tot : ∀ (l : List UInt8) (o : List (List UInt8)), o ≠ [] → tot (l.foldl stepS o) = tot o + l.length
  | [], _, _ => rfl
  | c :: l, o, h => by rw [List.foldl_cons, fold_tot l _ (stepS_ne o c h), stepS_tot c h, List.length_cons]; omega
theorem segs_cons {p : List UInt8} (h : p.head? = some 47) : ∃ l, p = 47 :: l ∧ segs p = l.foldl stepS [[]] := by
  cases p with
  | nil => simp at h
  | cons c l => simp at h; subst h; exact ⟨l, rfl, rfl⟩
theorem segs_tot {p : List UInt8} (h : p.head? = some 47) : tot (segs p) = p.length := by
  obtain ⟨l, rfl, e⟩ := segs_cons h
  rw [e, fold_tot l _ (by simp)]; simp [tot]; omega
theorem segs_mem {p : List UInt8} (h : p.head? = some 47) {x : UInt8} (hx : x ∈ p) : x = 47 ∨ ∃ s ∈ segs p, x ∈ s := by
  obtain ⟨l, rfl, e⟩ := segs_cons h
  rw [List.mem_cons] at hx
  rcases hx with rfl | hx
  · exact Or.inl rfl
  · rw [e]; exact fold_mem l _ (by simp) hx
theorem segs_ne {p : List UInt8} (h : p.head? = some 47) : segs p ≠ [] := by
  intro e
  have h1 := segs_tot h
  rw [e] at h1
  cases p <;> simp_all [tot]
theorem tot_le : ∀ (o : List (List UInt8)), o.all nameB = true → tot o ≤ o.length * 8
  | [], _ => by simp [tot]
  | s :: o, h => by
    rw [List.all_cons, Bool.and_eq_true] at h
    have h1 := tot_le o h.2
    have h2 : s.length ≤ 7 := by have := h.1; simp only [nameB, Bool.and_eq_true, decide_eq_true_eq] at this; omega
    have e : tot (s :: o) = (s.length + 1) + tot o := by simp [tot]
    rw [e, List.length_cons, Nat.succ_mul]; omega
/-- What the program tells of a text, cut at its '/'. -/
theorem splitL_yes {p : List UInt8} (hne : p ≠ [47]) (h : p.head? = some 47) (hn : (segs p).all nameB = true) (hl : (segs p).length ≤ 4) : splitL p = some (segs p) := by
  rw [splitL, if_neg hne, if_pos]
  refine ⟨?_, h, hn, hl⟩
  have h1 := segs_tot h
  have h2 := tot_le _ hn
  omega
theorem splitL_no {p : List UInt8} (hne : p ≠ [47]) (h : ¬(p.head? = some 47 ∧ (segs p).all nameB = true ∧ (segs p).length ≤ 4)) : splitL p = none := by
  rw [splitL, if_neg hne, if_neg]
  rintro ⟨_, h1, h2, h3⟩
  exact h ⟨h1, h2, h3⟩
theorem splitL_hi {p : List UInt8} (hne : p ≠ [47]) (h : ∃ x ∈ p, 128 ≤ x.toNat) : splitL p = none := by
  refine splitL_no hne ?_
  rintro ⟨h1, h2, _⟩
  obtain ⟨x, hx, h128⟩ := h
  rcases segs_mem h1 hx with rfl | ⟨s, hs, hxs⟩
  · simp at h128
  · rw [List.all_eq_true] at h2
    have := h2 s hs
    simp only [nameB, Bool.and_eq_true, List.all_eq_true] at this
    have := okB_lt (this.1 x hxs)
    omega
theorem nameB_hi {o : List (List UInt8)} (h : ∃ s ∈ o, ∃ x ∈ s, 128 ≤ x.toNat) : o.all nameB = false := by
  obtain ⟨s, hs, x, hx, h128⟩ := h
  rw [List.all_eq_false]
  refine ⟨s, hs, fun hq => ?_⟩
  simp only [nameB, Bool.and_eq_true, List.all_eq_true] at hq
  have := okB_lt (hq.1 x hx)
  omega
end
end Go.Proofs.YtcmjidnbbfcbjaaGreatDoor.V
/- The program's Split of a path; no condition. -/
namespace Go.Proofs.YtcmjidnbbfcbjaaGreatDoor.V
open Go
set_option linter.unusedVariables false
set_option linter.unusedSimpArgs false
set_option maxRecDepth 100000
set_option maxHeartbeats 4000000
noncomputable section
variable {en : Env} {m : Mem}
structure SpS (p : List UInt8) (i c : Nat) (o : List (List UInt8)) : Prop where
  ci : c ≤ i
  cp : c ≤ p.length
  ol : o.length ≤ c
  sl : ∀ s ∈ o, s.length ≤ 4 * c
  st : (i ≤ p.length ∧ o = segs (p.take i) ∧ (i = 0 ∨ p.head? = some 47 ∧ o ≠ [])) ∨ (0 < i ∧ o ≠ [] ∧ (∃ s ∈ o, ∃ x ∈ s, 128 ≤ x.toNat) ∧ (∃ x ∈ p, 128 ≤ x.toNat))
theorem SpS.slash {p : List UInt8} {i c : Nat} {o : List (List UInt8)} (h : SpS p i c o) (hc : p[i]? = some 47) : SpS p (i + 1) (c + 1) (o ++ [[]]) := by
  have hi : i < p.length := (List.getElem?_eq_some_iff.1 hc).1
  obtain ⟨h1, h2, h3, h4, h5⟩ := h
  refine ⟨by omega, by omega, by simp; omega, fun s hs => ?_, ?_⟩
  · rw [List.mem_append] at hs
    rcases hs with hs | hs
    · have := h4 s hs; omega
    · simp at hs; subst hs; simp
  · rcases h5 with ⟨a, b, d⟩ | ⟨a, b, ⟨s, hs, d⟩, e⟩
    · left
      refine ⟨by omega, ?_, Or.inr ⟨?_, by simp⟩⟩
      · rw [segs_take hc, stepS, if_pos rfl, b]
      · rcases d with rfl | d
        · rw [List.head?_eq_getElem?]; exact hc
        · exact d.1
    · right; exact ⟨by omega, by simp, ⟨s, by simp [hs], d⟩, e⟩
theorem set_len {o : List (List UInt8)} {c : Nat} {y : List UInt8} (h4 : ∀ s ∈ o, s.length ≤ 4 * c) (hy : y.length ≤ 4) : ∀ s ∈ o.set (o.length - 1) (o.getD (o.length - 1) [] ++ y), s.length ≤ 4 * (c + 1) := by
  intro s hs
  rcases List.mem_or_eq_of_mem_set hs with hs | rfl
  · have := h4 s hs; omega
  · have : (o.getD (o.length - 1) []).length ≤ 4 * c := by
      rw [List.getD_eq_getElem?_getD]
      cases hq : o[o.length - 1]? with
      | none => simp
      | some a => exact h4 a (List.mem_of_getElem? hq)
    rw [List.length_append]; omega
theorem hi_keep {o : List (List UInt8)} {y : List UInt8} (h : ∃ s ∈ o, ∃ x ∈ s, 128 ≤ x.toNat) : ∃ s ∈ o.set (o.length - 1) (o.getD (o.length - 1) [] ++ y), ∃ x ∈ s, 128 ≤ x.toNat := by
  obtain ⟨s, hs, x, hx, h128⟩ := h
  obtain ⟨i, hi⟩ := List.getElem?_of_mem hs
  have hlt := (List.getElem?_eq_some_iff.1 hi).1
  by_cases he : i = o.length - 1
  · refine ⟨o.getD (o.length - 1) [] ++ y, mem_last (by rintro rfl; simp at hs) _, x, ?_, h128⟩
    rw [List.getD_eq_getElem?_getD, ← he, hi]; simp [hx]
  · refine ⟨s, ?_, x, hx, h128⟩
    rw [List.mem_iff_getElem?]
    exact ⟨i, by rw [List.getElem?_set_ne (by omega)]; exact hi⟩
theorem SpS.lo {p : List UInt8} {i c : Nat} {o : List (List UInt8)} (h : SpS p i c o) {b : UInt8} (hc : p[i]? = some b) (h47 : b ≠ 47) (ho : o ≠ []) : SpS p (i + 1) (c + 1) (o.set (o.length - 1) (o.getD (o.length - 1) [] ++ [b])) := by
  have hi : i < p.length := (List.getElem?_eq_some_iff.1 hc).1
  obtain ⟨h1, h2, h3, h4, h5⟩ := h
  refine ⟨by omega, by omega, by simp; omega, set_len h4 (by simp), ?_⟩
  have hne : o.set (o.length - 1) (o.getD (o.length - 1) [] ++ [b]) ≠ [] := by intro e; have := congrArg List.length e; simp at this; exact ho this
  rcases h5 with ⟨a, b', d⟩ | ⟨a, b', d, e⟩
  · left
    refine ⟨by omega, ?_, Or.inr ⟨?_, hne⟩⟩
    · rw [segs_take hc, stepS, if_neg h47, ← b']
    · rcases d with rfl | d
      · exact (ho (by rw [b']; rfl)).elim
      · exact d.1
  · right; exact ⟨by omega, hne, hi_keep d, e⟩
theorem SpS.hi {p : List UInt8} {i c w : Nat} {o : List (List UInt8)} (h : SpS p i c o) {b : UInt8} (hc : p[i]? = some b) (hb : 128 ≤ b.toNat) (hw : 1 ≤ w) (ho : o ≠ []) {y : List UInt8} (hy : y.length ≤ 4) (hy2 : ∃ x ∈ y, 128 ≤ x.toNat) : SpS p (i + w) (c + 1) (o.set (o.length - 1) (o.getD (o.length - 1) [] ++ y)) := by
  have hi : i < p.length := (List.getElem?_eq_some_iff.1 hc).1
  obtain ⟨h1, h2, h3, h4, h5⟩ := h
  refine ⟨by omega, by omega, by simp; omega, set_len h4 hy, Or.inr ⟨by omega, ?_, ?_, b, List.mem_of_getElem? hc, hb⟩⟩
  · intro e; have := congrArg List.length e; simp at this; exact ho this
  · obtain ⟨x, hx, h128⟩ := hy2
    exact ⟨_, mem_last ho _, x, by simp [hx], h128⟩
theorem treeSplit_ok (p : List UInt8) (hp : p.length ≤ 1073741824) (hf : Fits en m.length) : WC Tryz.prog pol en (.func 100) [tx p] m fun v m' => v = splitA (splitL p) ∧ m' = m := by
  refine callPur Tryz.func100 rfl rfl Tryz.ntmps100 Tryz.results100 ?_
  (have hq1 : Dm := ⟨⟩; have hq2 : Dm := ⟨⟩; have hq3 : Dm := ⟨⟩; have hq4 : Dm := ⟨⟩; have hq5 : Dm := ⟨⟩; have hq6 : Dm := ⟨⟩) <;> (try simp -implicitDefEqProofs -dsimp (maxSteps := 2000000) (disch := (first | exact dz | fail)) only [go_sem, aR, ]) <;> (repeat' (first | ((with_reducible refine ds_and ?_ ?_); focus exact kz) | ((with_reducible refine And.intro ?_ ?_); focus exact oz) | ((with_reducible refine pc_and ?_ ?_); focus exact pz) | ((with_reducible first | refine gIf_t ?_ ?_ | refine gIf_f ?_ ?_ | refine ite_t ?_ ?_ | refine ite_p ?_ ?_) <;> (first | (have z := (hq1 : Dm); clear z hq1; intro hq1; try simp only [noR] at hq1) | (have z := (hq2 : Dm); clear z hq2; intro hq2; try simp only [noR] at hq2) | (have z := (hq3 : Dm); clear z hq3; intro hq3; try simp only [noR] at hq3) | (have z := (hq4 : Dm); clear z hq4; intro hq4; try simp only [noR] at hq4) | (have z := (hq5 : Dm); clear z hq5; intro hq5; try simp only [noR] at hq5) | (have z := (hq6 : Dm); clear z hq6; intro hq6; try simp only [noR] at hq6)) <;> (try simp -implicitDefEqProofs -dsimp (maxSteps := 2000000) (disch := (first | exact dz | fail)) only [go_sem, aR, hq6, hq5, hq4, hq3, hq2, hq1])))) <;> (try with_reducible and_intros) <;> (first | exact fz | skip)
  · simp [splitL, hq1, splitA, sl]
  refine loopF (fun k ts m' => ∃ (i c : Nat) (o : List (List UInt8)) (v : AV), ts.length = 50 ∧ tg ts 0 = tx p ∧ tg ts 4 = kv v ∧ tg ts 12 = .it m.length ∧ SpS p i c o ∧ ((o = [] ∧ v = .lst 0 [] true ∧ m' = m ++ [.iter ⟨⟨p⟩⟩ i]) ∨ (o ≠ [] ∧ ∃ ver, v = .own (m.length + 1) ver 0 o.length 1 ∧ m' = m ++ [.iter ⟨⟨p⟩⟩ i, .cells ver (o.map tx)])) ∧ k = p.length - i) p.length ⟨0, 0, [], _, rfl, rfl, rfl, rfl, ⟨by omega, by omega, by simp, by simp, Or.inl ⟨by omega, rfl, Or.inl rfl⟩⟩, Or.inl ⟨rfl, rfl, rfl⟩, by omega⟩ ?_
  rintro k ts m' ⟨i, c, o, v, hl, h0, h4, h12, hs, hv, rfl⟩
  rw [expandT hl]
  by_cases hlt : i < p.length
  · obtain ⟨b, hb⟩ : ∃ b, p[i]? = some b := ⟨_, List.getElem?_eq_getElem hlt⟩
    have hol := hs.ol
    have hcp := hs.cp
    by_cases hlo : b.toNat < 128
    · have hd := dec_lo hb hlo
      have he := encL_lo hlo
      have hb47 : (b.toNat : Int) = 47 → p[i]? = some 47 := fun h => by rw [hb, u8_47.1 h]
      rcases hv with ⟨rfl, rfl, rfl⟩ | ⟨ho, ver, rfl, rfl⟩
      · obtain rfl : i = 0 := by
          rcases hs.st with ⟨_, _, h | h⟩ | h
          · exact h
          · exact (h.2 rfl).elim
          · exact (h.2.1 rfl).elim
        (have e1 : Dm := ⟨⟩; have e2 : Dm := ⟨⟩; have e3 : Dm := ⟨⟩; have e4 : Dm := ⟨⟩; have e5 : Dm := ⟨⟩; have e6 : Dm := ⟨⟩) <;> (try simp -implicitDefEqProofs -dsimp (maxSteps := 2000000) (disch := (first | exact dz | fail)) only [go_sem, aR, h0, h4, h12, hlt, hd, he, kv]) <;> (repeat' (first | ((with_reducible refine ds_and ?_ ?_); focus exact kz) | ((with_reducible refine And.intro ?_ ?_); focus exact oz) | ((with_reducible refine pc_and ?_ ?_); focus exact pz) | ((with_reducible first | refine gIf_t ?_ ?_ | refine gIf_f ?_ ?_ | refine ite_t ?_ ?_ | refine ite_p ?_ ?_) <;> (first | (have z := (e1 : Dm); clear z e1; intro e1; try simp only [noR] at e1) | (have z := (e2 : Dm); clear z e2; intro e2; try simp only [noR] at e2) | (have z := (e3 : Dm); clear z e3; intro e3; try simp only [noR] at e3) | (have z := (e4 : Dm); clear z e4; intro e4; try simp only [noR] at e4) | (have z := (e5 : Dm); clear z e5; intro e5; try simp only [noR] at e5) | (have z := (e6 : Dm); clear z e6; intro e6; try simp only [noR] at e6)) <;> (try simp -implicitDefEqProofs -dsimp (maxSteps := 2000000) (disch := (first | exact dz | fail)) only [go_sem, aR, e6, e5, e4, e3, e2, e1, h0, h4, h12, hlt, hd, he, kv])))) <;> (try with_reducible and_intros) <;> (first | exact fz | skip)
        · exact ⟨_, by omega, 1, c + 1, [[]], _, rfl, hs.slash (hb47 e1), Or.inr ⟨by simp, _, rfl, rfl⟩, rfl⟩
        · rw [splitL_no hq1]
          · rfl
          · rintro ⟨h, _⟩
            rw [List.head?_eq_getElem?, hb] at h
            exact e1 (by cases h; rfl)
      · have hsl : 0 < o.length := List.length_pos_iff.2 ho
        have hi0 : ¬(i : Int) = 0 := by
          intro h
          rcases hs.st with ⟨_, h2, _⟩ | h2
          · rw [show i = 0 by omega] at h2; exact ho h2
          · omega
        have hw : IntKind.i64.wrap ((o.length : Int) - 1) = ((o.length - 1 : Nat) : Int) := by rw [i64w (by omega)]; omega
        have hget : o[o.length - 1]? = some (o.getD (o.length - 1) []) := by
          rw [List.getD_eq_getElem?_getD, List.getElem?_eq_getElem (by omega)]; rfl
        have hgl : (o.getD (o.length - 1) []).length ≤ 4294967296 := by have := hs.sl _ (List.mem_of_getElem? hget); omega
        (have e1 : Dm := ⟨⟩; have e2 : Dm := ⟨⟩; have e3 : Dm := ⟨⟩; have e4 : Dm := ⟨⟩; have e5 : Dm := ⟨⟩; have e6 : Dm := ⟨⟩) <;> (try simp -implicitDefEqProofs -dsimp (maxSteps := 2000000) (disch := (first | exact dz | fail)) only [go_sem, aR, h0, h4, h12, hlt, hd, he, kv, hi0, hw, List.getElem?_map, hget]) <;> (repeat' (first | ((with_reducible refine ds_and ?_ ?_); focus exact kz) | ((with_reducible refine And.intro ?_ ?_); focus exact oz) | ((with_reducible refine pc_and ?_ ?_); focus exact pz) | ((with_reducible first | refine gIf_t ?_ ?_ | refine gIf_f ?_ ?_ | refine ite_t ?_ ?_ | refine ite_p ?_ ?_) <;> (first | (have z := (e1 : Dm); clear z e1; intro e1; try simp only [noR] at e1) | (have z := (e2 : Dm); clear z e2; intro e2; try simp only [noR] at e2) | (have z := (e3 : Dm); clear z e3; intro e3; try simp only [noR] at e3) | (have z := (e4 : Dm); clear z e4; intro e4; try simp only [noR] at e4) | (have z := (e5 : Dm); clear z e5; intro e5; try simp only [noR] at e5) | (have z := (e6 : Dm); clear z e6; intro e6; try simp only [noR] at e6)) <;> (try simp -implicitDefEqProofs -dsimp (maxSteps := 2000000) (disch := (first | exact dz | fail)) only [go_sem, aR, e6, e5, e4, e3, e2, e1, h0, h4, h12, hlt, hd, he, kv, hi0, hw, List.getElem?_map, hget])))) <;> (try with_reducible and_intros) <;> (first | exact fz | skip)
        · exact ⟨_, by omega, i + 1, c + 1, o ++ [[]], _, rfl, hs.slash (hb47 e1), Or.inr ⟨by simp, nextV 10 ver, by simp, by simp⟩, rfl⟩
        · refine ⟨_, by omega, i + 1, c + 1, _, _, rfl, hs.lo hb (fun h => e1 (u8_47.2 h)) ho, Or.inr ⟨?_, ver, by simp, ?_⟩, rfl⟩
          · intro e; have := congrArg List.length e; simp at this; exact ho this
          · simp [List.map_set]
    · have hd := dec_hi hb (by omega)
      have hen := encL_hi (n := ((Utf8.decode ⟨⟨p⟩⟩ i).1 : Int)) (by omega)
      rcases hv with ⟨rfl, rfl, rfl⟩ | ⟨ho, ver, rfl, rfl⟩
      · obtain rfl : i = 0 := by
          rcases hs.st with ⟨_, _, h | h⟩ | h
          · exact h
          · exact (h.2 rfl).elim
          · exact (h.2.1 rfl).elim
        (have e1 : Dm := ⟨⟩; have e2 : Dm := ⟨⟩; have e3 : Dm := ⟨⟩; have e4 : Dm := ⟨⟩; have e5 : Dm := ⟨⟩; have e6 : Dm := ⟨⟩) <;> (try simp -implicitDefEqProofs -dsimp (maxSteps := 2000000) (disch := (first | exact dz | fail)) only [go_sem, aR, h0, h4, h12, hlt, kv]) <;> (repeat' (first | ((with_reducible refine ds_and ?_ ?_); focus exact kz) | ((with_reducible refine And.intro ?_ ?_); focus exact oz) | ((with_reducible refine pc_and ?_ ?_); focus exact pz) | ((with_reducible first | refine gIf_t ?_ ?_ | refine gIf_f ?_ ?_ | refine ite_t ?_ ?_ | refine ite_p ?_ ?_) <;> (first | (have z := (e1 : Dm); clear z e1; intro e1; try simp only [noR] at e1) | (have z := (e2 : Dm); clear z e2; intro e2; try simp only [noR] at e2) | (have z := (e3 : Dm); clear z e3; intro e3; try simp only [noR] at e3) | (have z := (e4 : Dm); clear z e4; intro e4; try simp only [noR] at e4) | (have z := (e5 : Dm); clear z e5; intro e5; try simp only [noR] at e5) | (have z := (e6 : Dm); clear z e6; intro e6; try simp only [noR] at e6)) <;> (try simp -implicitDefEqProofs -dsimp (maxSteps := 2000000) (disch := (first | exact dz | fail)) only [go_sem, aR, e6, e5, e4, e3, e2, e1, h0, h4, h12, hlt, kv])))) <;> (try with_reducible and_intros) <;> (first | exact fz | skip)
        · rw [splitL_no hq1]
          · rfl
          · rintro ⟨h, _⟩
            rw [List.head?_eq_getElem?, hb] at h
            cases h; simp at hlo
      · have hsl : 0 < o.length := List.length_pos_iff.2 ho
        have hi0 : ¬(i : Int) = 0 := by
          intro h
          rcases hs.st with ⟨_, h2, _⟩ | h2
          · rw [show i = 0 by omega] at h2; exact ho h2
          · omega
        have hw : IntKind.i64.wrap ((o.length : Int) - 1) = ((o.length - 1 : Nat) : Int) := by rw [i64w (by omega)]; omega
        have hget : o[o.length - 1]? = some (o.getD (o.length - 1) []) := by
          rw [List.getD_eq_getElem?_getD, List.getElem?_eq_getElem (by omega)]; rfl
        have hgl : (o.getD (o.length - 1) []).length ≤ 4294967296 := by have := hs.sl _ (List.mem_of_getElem? hget); omega
        have hel := hen.1
        (have e1 : Dm := ⟨⟩; have e2 : Dm := ⟨⟩; have e3 : Dm := ⟨⟩; have e4 : Dm := ⟨⟩; have e5 : Dm := ⟨⟩; have e6 : Dm := ⟨⟩) <;> (try simp -implicitDefEqProofs -dsimp (maxSteps := 2000000) (disch := (first | exact dz | fail)) only [go_sem, aR, h0, h4, h12, hlt, kv, hi0, hw, List.getElem?_map, hget]) <;> (repeat' (first | ((with_reducible refine ds_and ?_ ?_); focus exact kz) | ((with_reducible refine And.intro ?_ ?_); focus exact oz) | ((with_reducible refine pc_and ?_ ?_); focus exact pz) | ((with_reducible first | refine gIf_t ?_ ?_ | refine gIf_f ?_ ?_ | refine ite_t ?_ ?_ | refine ite_p ?_ ?_) <;> (first | (have z := (e1 : Dm); clear z e1; intro e1; try simp only [noR] at e1) | (have z := (e2 : Dm); clear z e2; intro e2; try simp only [noR] at e2) | (have z := (e3 : Dm); clear z e3; intro e3; try simp only [noR] at e3) | (have z := (e4 : Dm); clear z e4; intro e4; try simp only [noR] at e4) | (have z := (e5 : Dm); clear z e5; intro e5; try simp only [noR] at e5) | (have z := (e6 : Dm); clear z e6; intro e6; try simp only [noR] at e6)) <;> (try simp -implicitDefEqProofs -dsimp (maxSteps := 2000000) (disch := (first | exact dz | fail)) only [go_sem, aR, e6, e5, e4, e3, e2, e1, h0, h4, h12, hlt, kv, hi0, hw, List.getElem?_map, hget])))) <;> (try with_reducible and_intros) <;> (first | exact fz | skip)
        · refine ⟨p.length - (i + (Utf8.decode ⟨⟨p⟩⟩ i).2), by omega, i + (Utf8.decode ⟨⟨p⟩⟩ i).2, c + 1, _, _, rfl, hs.hi hb (by omega) hd.2.2 ho hen.1 hen.2, Or.inr ⟨?_, ver, by simp, ?_⟩, rfl⟩
          · intro e; have := congrArg List.length e; simp at this; exact ho this
          · simp [List.map_set]
  · have hol := hs.ol
    have hcp := hs.cp
    rcases hv with ⟨rfl, rfl, rfl⟩ | ⟨ho, ver, rfl, rfl⟩
    · (have e1 : Dm := ⟨⟩; have e2 : Dm := ⟨⟩; have e3 : Dm := ⟨⟩; have e4 : Dm := ⟨⟩; have e5 : Dm := ⟨⟩; have e6 : Dm := ⟨⟩) <;> (try simp -implicitDefEqProofs -dsimp (maxSteps := 2000000) (disch := (first | exact dz | fail)) only [go_sem, aR, h0, h4, h12, hlt, kv]) <;> (repeat' (first | ((with_reducible refine ds_and ?_ ?_); focus exact kz) | ((with_reducible refine And.intro ?_ ?_); focus exact oz) | ((with_reducible refine pc_and ?_ ?_); focus exact pz) | ((with_reducible first | refine gIf_t ?_ ?_ | refine gIf_f ?_ ?_ | refine ite_t ?_ ?_ | refine ite_p ?_ ?_) <;> (first | (have z := (e1 : Dm); clear z e1; intro e1; try simp only [noR] at e1) | (have z := (e2 : Dm); clear z e2; intro e2; try simp only [noR] at e2) | (have z := (e3 : Dm); clear z e3; intro e3; try simp only [noR] at e3) | (have z := (e4 : Dm); clear z e4; intro e4; try simp only [noR] at e4) | (have z := (e5 : Dm); clear z e5; intro e5; try simp only [noR] at e5) | (have z := (e6 : Dm); clear z e6; intro e6; try simp only [noR] at e6)) <;> (try simp -implicitDefEqProofs -dsimp (maxSteps := 2000000) (disch := (first | exact dz | fail)) only [go_sem, aR, e6, e5, e4, e3, e2, e1, h0, h4, h12, hlt, kv])))) <;> (try with_reducible and_intros) <;> (first | exact fz | skip)
      rw [splitL_no hq1]
      · rfl
      · rintro ⟨h, _⟩
        rcases hs.st with ⟨h1, h2, h3⟩ | h2
        · rcases h3 with rfl | h3
          · rw [List.eq_nil_of_length_eq_zero (show p.length = 0 by omega)] at h; simp at h
          · exact h3.2 rfl
        · exact h2.2.1 rfl
    · have hsl2 : ∀ s ∈ o, s.length ≤ 4294967296 := fun s h => by have := hs.sl s h; omega
      have hid : (m ++ [Ob.iter ⟨⟨p⟩⟩ i, Ob.cells ver (o.map tx)])[m.length + 1]? = some (.cells ver (o.map tx)) := by rw [getM]; rfl
      have hcn := fun (en : Env) Q (hf) => containsNames_eq (en := en) (l := o) Q hid rfl (by omega) hsl2 hf
      have hol1 : 0 < o.length := List.length_pos_iff.2 ho
      have hA : o.all nameB = true → p.head? = some 47 ∧ o = segs p := by
        intro h
        rcases hs.st with ⟨h1, h2, h3⟩ | h2
        · rw [List.take_of_length_le (by omega)] at h2
          rcases h3 with rfl | h3
          · rw [List.eq_nil_of_length_eq_zero (show p.length = 0 by omega)] at h2; exact (ho h2).elim
          · exact ⟨h3.1, h2⟩
        · rw [nameB_hi h2.2.2.1] at h; cases h
      have hB : ¬(o.all nameB = true ∧ o.length ≤ 4) → splitL p = none := by
        intro h
        rcases hs.st with ⟨h1, h2, h3⟩ | h2
        · rw [List.take_of_length_le (by omega)] at h2
          refine splitL_no hq1 fun h4 => h ?_
          rw [h2]; exact h4.2
        · exact splitL_hi hq1 h2.2.2.2
      have hfr := fun (b : Nat) (hb : b ≤ m.length + 1) (d : Nat) (k : AV → Prop) => frzQ_own (m := m ++ [Ob.iter ⟨⟨p⟩⟩ i, Ob.cells ver (o.map tx)]) (b := b) (d := d) (ver := ver) clean_tx tx_ifc o hid hb k
      have hyes : o.all nameB = true → o.length ≤ 4 → splitA (splitL p) = .tup [sl tx ⟨false, false, o⟩, errA 0] := by
        intro h1 h2
        obtain ⟨h3, h4⟩ := hA h1
        rw [splitL_yes hq1 h3 (by rw [← h4]; exact h1) (by rw [← h4]; exact h2), ← h4]
        simp [splitA, sl, ho]
      (have e1 : Dm := ⟨⟩; have e2 : Dm := ⟨⟩; have e3 : Dm := ⟨⟩; have e4 : Dm := ⟨⟩; have e5 : Dm := ⟨⟩; have e6 : Dm := ⟨⟩) <;> (try simp -implicitDefEqProofs -dsimp (maxSteps := 2000000) (disch := (first | exact dz | fail)) only [go_sem, aR, h0, h4, h12, hlt, kv, hcn, hfr _ (show m.length ≤ m.length + 1 by omega) 5]) <;> (repeat' (first | ((with_reducible refine ds_and ?_ ?_); focus exact kz) | ((with_reducible refine And.intro ?_ ?_); focus exact oz) | ((with_reducible refine pc_and ?_ ?_); focus exact pz) | ((with_reducible first | refine gIf_t ?_ ?_ | refine gIf_f ?_ ?_ | refine ite_t ?_ ?_ | refine ite_p ?_ ?_) <;> (first | (have z := (e1 : Dm); clear z e1; intro e1; try simp only [noR] at e1) | (have z := (e2 : Dm); clear z e2; intro e2; try simp only [noR] at e2) | (have z := (e3 : Dm); clear z e3; intro e3; try simp only [noR] at e3) | (have z := (e4 : Dm); clear z e4; intro e4; try simp only [noR] at e4) | (have z := (e5 : Dm); clear z e5; intro e5; try simp only [noR] at e5) | (have z := (e6 : Dm); clear z e6; intro e6; try simp only [noR] at e6)) <;> (try simp -implicitDefEqProofs -dsimp (maxSteps := 2000000) (disch := (first | exact dz | fail)) only [go_sem, aR, e6, e5, e4, e3, e2, e1, h0, h4, h12, hlt, kv, hcn, hfr _ (show m.length ≤ m.length + 1 by omega) 5])))) <;> (try with_reducible and_intros) <;> (first | exact fz | skip)
      · rw [hB (by omega)]; rfl
      · rw [hB (by simp [e3])]; rfl
      · exact (hyes (by simpa using e3) (by omega)).symm
end
end Go.Proofs.YtcmjidnbbfcbjaaGreatDoor.V
/- Trees that are right, of the reference; no condition. -/
namespace Go.Proofs.YtcmjidnbbfcbjaaGreatDoor.V
open Go
set_option linter.unusedVariables false
set_option linter.unusedSimpArgs false
set_option maxRecDepth 100000
set_option maxHeartbeats 4000000
noncomputable section
variable {en : Env} {m : Mem}
/-- The functions that are known so far. -/
def fs1 : List FuncId := [20, 50, 49, 18, 26, 115,
  100, 101, 102, 66, 13,
  81, 84, 91, 88, 59, 58, 39, 85, 90, 92, 53, 57]
abbrev L1.pol : Pol := layer Tryz.prog V.pol fs1
namespace L1
theorem get_eq (t : Sl Nd) (p : List UInt8) (m : Mem) (Q : AV → Mem → Prop) (ht : t.l.length < 4294967296) : WC Tryz.prog pol en (.func 20) [slf ndC t, tx p] m Q = Q (getA (getL t.l p)) m := lift (fun m => get_ok t p ht (fits0 _)) rfl m Q
theorem up_eq (p : List UInt8) (m : Mem) (Q : AV → Mem → Prop) (hp : p.length ≤ 9223372036854775807) : WC Tryz.prog pol en (.func 50) [tx p] m Q = Q (.tup [tx (upL p).1, tx (upL p).2]) m := lift (fun m => up_ok p hp (fits0 _)) rfl m Q
theorem split_eq (p : List UInt8) (m : Mem) (Q : AV → Mem → Prop) (hp : p.length ≤ 9223372036854775807) : WC Tryz.prog pol en (.func 49) [tx p] m Q = Q (splitA (splitL p)) m := lift (fun m => split_ok p hp (fits0 _)) rfl m Q
theorem sameTexts_eq (x y : Sl (List UInt8)) (m : Mem) (Q : AV → Mem → Prop) (hx : x.l.length < 4294967296) : WC Tryz.prog pol en (.func 18) [sl tx x, sl tx y] m Q = Q (bo (decide (x.l = y.l))) m := lift (fun m => sameTexts_ok x y hx (fits0 _)) rfl m Q
theorem sameOps_eq (x y : Sl Pn) (m : Mem) (Q : AV → Mem → Prop) (hx : x.l.length < 4294967296) : WC Tryz.prog pol en (.func 26) [slf opC x, slf opC y] m Q = Q (bo (decide (x.l = y.l))) m := lift (fun m => sameOps_ok x y hx (fits0 _)) rfl m Q
theorem treeSplit_eq (p : List UInt8) (m : Mem) (Q : AV → Mem → Prop) (hp : p.length ≤ 1073741824) : WC Tryz.prog pol en (.func 100) [tx p] m Q = Q (splitA (splitL p)) m := lift (fun m => treeSplit_ok p hp (fits0 _)) rfl m Q
theorem parts_eq (p : List UInt8) (m : Mem) (Q : AV → Mem → Prop) (hp : p.length < 4611686018427387904) : WC Tryz.prog pol en (.func 101) [tx p] m Q = Q (.tup [tx (partsL p).1, tx (partsL p).2]) m := lift (fun m => parts_ok p hp (fits0 _)) rfl m Q
theorem place_eq (t : Sl Nd) (k : List UInt8) (m : Mem) (Q : AV → Mem → Prop) (hs : Srt t.l) (ht : t.l.length < 4294967296) : WC Tryz.prog pol en (.func 102) [slf ndC t, tx k, .clo (.func 103) [] []] m Q = Q (.tup [I (lowB t.l k), bo (getL t.l k).isSome]) m := lift (fun m => place_ok t k hs ht (fits0 _)) rfl m Q
theorem treeNew_eq (m : Mem) (Q : AV → Mem → Prop) : WC Tryz.prog pol en (.func 66) [] m Q = Q (slf ndC ⟨false, true, [root0]⟩) m := lift (fun m => treeNew_ok (fits0 _)) rfl m Q
end L1
/-- Nodes whose texts are not too long for the machine. -/
structure FitT (l : List Nd) : Prop where
  len : l.length ≤ 1048576
  path : ∀ n ∈ l, n.path.length ≤ 1048576
  first : ∀ n ∈ l, n.first.length ≤ 1048576
  data : ∀ n ∈ l, n.data.length ≤ 1048576
def root : Nd := ⟨[47], true, [], [47]⟩
theorem rootEq (a : Nd) : (decide (a.path = [47]) && (a.dir == true && (decide (a.data = []) && decide (a.first = [47])))) = decide (a = root) := ndEq a root
def leB (a b : List UInt8) : Bool := ltB a b || decide (a = b)
def nodeOk (t : List Nd) (i : Nat) (n q : Nd) : Bool :=
  (splitL n.path).isSome && (!leB n.path q.path && ((match getL (t.take i) (upL n.path).1 with | some d => d.dir | none => false) &&
  (if n.dir = true then decide (n.data = []) && decide (n.first = n.path)
   else decide (n.data.length ≤ 256) && (match getL (t.take (i + 1)) n.first with | some x => !x.dir && (decide (x.first = n.first) && decide (x.data = n.data)) | none => false))))
def okAt (t : List Nd) (i : Nat) : Bool := i == 0 || (match t[i]?, t[i - 1]? with | some n, some q => nodeOk t i n q | _, _ => false)
def rightL (t : List Nd) : Bool := decide (1 ≤ t.length) && (decide (t.length ≤ 512) && (decide (t[0]? = some root) && (List.range t.length).all (okAt t)))
theorem right_no {t : List Nd} {i : Nat} (hi : i < t.length) (h : okAt t i = false) : rightL t = false := by
  have : (List.range t.length).all (okAt t) = false := by
    rw [List.all_eq_false]; exact ⟨i, by simpa using hi, by simp [h]⟩
  simp [rightL, this]
theorem upAt_len (p : List UInt8) : ∀ i, (upAt p i).1.length ≤ p.length
  | 0 => by unfold upAt; split <;> simp; omega
  | i + 1 => by
    unfold upAt
    split
    · exact List.length_take_le' _ _
    · exact upAt_len p i
theorem upL_len (p : List UInt8) : (upL p).1.length ≤ p.length := upAt_len p _
end
end Go.Proofs.YtcmjidnbbfcbjaaGreatDoor.V
namespace Go.Proofs.YtcmjidnbbfcbjaaGreatDoor.V.L1
open Go V
set_option linter.unusedVariables false
set_option linter.unusedSimpArgs false
set_option maxRecDepth 100000
set_option maxHeartbeats 4000000
noncomputable section
variable {en : Env} {m : Mem}
theorem right_ok (t : Sl Nd) (ht : FitT t.l) (hf : Fits en m.length) : WC Tryz.prog pol en (.func 19) [slf ndC t] m fun v m' => v = bo (rightL t.l) ∧ m' = m := by
  have htl := ht.len
  refine callPur Tryz.func19 rfl rfl Tryz.ntmps19 Tryz.results19 ?_
  (have hq1 : Dm := ⟨⟩; have hq2 : Dm := ⟨⟩; have hq3 : Dm := ⟨⟩; have hq4 : Dm := ⟨⟩; have hq5 : Dm := ⟨⟩; have hq6 : Dm := ⟨⟩) <;> (try simp -implicitDefEqProofs -dsimp (maxSteps := 2000000) (disch := (first | exact dz | fail)) only [go_sem, aR, rootEq]) <;> (repeat' (first | ((with_reducible refine ds_and ?_ ?_); focus exact kz) | ((with_reducible refine And.intro ?_ ?_); focus exact oz) | ((with_reducible refine pc_and ?_ ?_); focus exact pz) | ((with_reducible first | refine gIf_t ?_ ?_ | refine gIf_f ?_ ?_ | refine ite_t ?_ ?_ | refine ite_p ?_ ?_) <;> (first | (have z := (hq1 : Dm); clear z hq1; intro hq1; try simp only [noR] at hq1) | (have z := (hq2 : Dm); clear z hq2; intro hq2; try simp only [noR] at hq2) | (have z := (hq3 : Dm); clear z hq3; intro hq3; try simp only [noR] at hq3) | (have z := (hq4 : Dm); clear z hq4; intro hq4; try simp only [noR] at hq4) | (have z := (hq5 : Dm); clear z hq5; intro hq5; try simp only [noR] at hq5) | (have z := (hq6 : Dm); clear z hq6; intro hq6; try simp only [noR] at hq6)) <;> (try simp -implicitDefEqProofs -dsimp (maxSteps := 2000000) (disch := (first | exact dz | fail)) only [go_sem, aR, hq6, hq5, hq4, hq3, hq2, hq1, rootEq])))) <;> (try with_reducible and_intros) <;> (first | exact fz | skip)
  · simp [bo, rightL]; omega
  · simp [bo, rightL]; omega
  · have : t.l[0]? ≠ some root := by rw [List.getElem?_eq_getElem (by omega)]; simpa using hq3
    simp [bo, rightL, this]
  refine loopF (fun k ts m' => ∃ (i : Nat) (l : Mem), ts.length = 126 ∧ tg ts 0 = slf ndC t ∧ tg ts 3 = I i ∧ m' = m ++ l ∧ (List.range i).all (okAt t.l) = true ∧ 1 ≤ i ∧ i ≤ t.l.length ∧ k = t.l.length - i) (t.l.length - 1) ⟨1, [], rfl, rfl, rfl, by simp, rfl, by omega, by omega, rfl⟩ ?_
  rintro k ts m' ⟨i, l, hl, h0, h3, rfl, hok, h1i, hi, rfl⟩
  rw [expandT hl]
  by_cases hlt : (i : Int) < (t.l.length : Int)
  · have hi' : i < t.l.length := by omega
    obtain ⟨n, hn⟩ : ∃ n, t.l[i]? = some n := ⟨_, List.getElem?_eq_getElem hi'⟩
    obtain ⟨q, hq⟩ : ∃ q, t.l[i - 1]? = some q := ⟨_, List.getElem?_eq_getElem (by omega)⟩
    have hnm := List.mem_of_getElem? hn
    have hp := ht.path n hnm
    have hw : IntKind.i64.wrap ((i : Int) - 1) = ((i - 1 : Nat) : Int) := by rw [i64w (by omega)]; omega
    have hat : okAt t.l i = nodeOk t.l i n q := by
      have : (i == 0) = false := by simp; omega
      simp [okAt, hn, hq, this]
    have bad : nodeOk t.l i n q = false → rightL t.l = false := fun h => right_no hi' (by rw [hat, h])
    have good : nodeOk t.l i n q = true → (List.range (i + 1)).all (okAt t.l) = true := fun h => by
      rw [List.range_succ, List.all_append, hok]; simp [hat, h]
    obtain ⟨B, hB⟩ : ∃ B, m.length + l.length = B := ⟨_, rfl⟩
    have hBk : ∀ k, m.length + (l.length + k) = B + k := fun k => by omega
    cases hsp : splitL n.path with
    | none =>
      (have c1 : Dm := ⟨⟩; have c2 : Dm := ⟨⟩; have c3 : Dm := ⟨⟩; have c4 : Dm := ⟨⟩; have c5 : Dm := ⟨⟩; have c6 : Dm := ⟨⟩) <;> (try simp -implicitDefEqProofs -dsimp (maxSteps := 2000000) (disch := (first | exact dz | fail)) only [go_sem, aR, h0, h3, hlt, hn, hq, hw, split_eq, hsp, splitA]) <;> (repeat' (first | ((with_reducible refine ds_and ?_ ?_); focus exact kz) | ((with_reducible refine And.intro ?_ ?_); focus exact oz) | ((with_reducible refine pc_and ?_ ?_); focus exact pz) | ((with_reducible first | refine gIf_t ?_ ?_ | refine gIf_f ?_ ?_ | refine ite_t ?_ ?_ | refine ite_p ?_ ?_) <;> (first | (have z := (c1 : Dm); clear z c1; intro c1; try simp only [noR] at c1) | (have z := (c2 : Dm); clear z c2; intro c2; try simp only [noR] at c2) | (have z := (c3 : Dm); clear z c3; intro c3; try simp only [noR] at c3) | (have z := (c4 : Dm); clear z c4; intro c4; try simp only [noR] at c4) | (have z := (c5 : Dm); clear z c5; intro c5; try simp only [noR] at c5) | (have z := (c6 : Dm); clear z c6; intro c6; try simp only [noR] at c6)) <;> (try simp -implicitDefEqProofs -dsimp (maxSteps := 2000000) (disch := (first | exact dz | fail)) only [go_sem, aR, c6, c5, c4, c3, c2, c1, h0, h3, hlt, hn, hq, hw, split_eq, hsp, splitA])))) <;> (try with_reducible and_intros) <;> (first | exact fz | skip)
      rw [bad (by simp [nodeOk, hsp])]
    | some names =>
      have hul : (upL n.path).1.length ≤ 9223372036854775807 := by have := upL_len n.path; omega
      have hfl := ht.first n hnm
      (have c1 : Dm := ⟨⟩; have c2 : Dm := ⟨⟩; have c3 : Dm := ⟨⟩; have c4 : Dm := ⟨⟩; have c5 : Dm := ⟨⟩; have c6 : Dm := ⟨⟩; have c7 : Dm := ⟨⟩; have c8 : Dm := ⟨⟩; have c9 : Dm := ⟨⟩; have c10 : Dm := ⟨⟩) <;> (try simp -implicitDefEqProofs -dsimp (maxSteps := 2000000) (disch := (first | exact dz | fail)) only [go_sem, aR, h0, h3, hlt, hn, hq, hw, split_eq, hsp, splitA, up_eq, get_eq, getA]) <;> (repeat' (first | ((with_reducible refine ds_and ?_ ?_); focus exact kz) | ((with_reducible refine And.intro ?_ ?_); focus exact oz) | ((with_reducible refine pc_and ?_ ?_); focus exact pz) | ((with_reducible first | refine gIf_t ?_ ?_ | refine gIf_f ?_ ?_ | refine ite_t ?_ ?_ | refine ite_p ?_ ?_) <;> (first | (have z := (c1 : Dm); clear z c1; intro c1; try simp only [noR] at c1) | (have z := (c2 : Dm); clear z c2; intro c2; try simp only [noR] at c2) | (have z := (c3 : Dm); clear z c3; intro c3; try simp only [noR] at c3) | (have z := (c4 : Dm); clear z c4; intro c4; try simp only [noR] at c4) | (have z := (c5 : Dm); clear z c5; intro c5; try simp only [noR] at c5) | (have z := (c6 : Dm); clear z c6; intro c6; try simp only [noR] at c6) | (have z := (c7 : Dm); clear z c7; intro c7; try simp only [noR] at c7) | (have z := (c8 : Dm); clear z c8; intro c8; try simp only [noR] at c8) | (have z := (c9 : Dm); clear z c9; intro c9; try simp only [noR] at c9) | (have z := (c10 : Dm); clear z c10; intro c10; try simp only [noR] at c10)) <;> (try simp -implicitDefEqProofs -dsimp (maxSteps := 2000000) (disch := (first | exact dz | fail)) only [go_sem, aR, c10, c9, c8, c7, c6, c5, c4, c3, c2, c1, h0, h3, hlt, hn, hq, hw, split_eq, hsp, splitA, up_eq, get_eq, getA])))) <;> (try with_reducible and_intros) <;> (first | exact fz | skip)
      · rw [bad (by simp [nodeOk, leB, c1])]
      · rw [bad (by rw [nodeOk]; cases hg : getL (t.l.take i) (upL n.path).1 <;> simp_all)]
      · rw [bad (by rw [nodeOk]; cases hg : getL (t.l.take i) (upL n.path).1 <;> simp_all)]
      · rw [bad (by simp [nodeOk, c4, c5])]
      · rw [bad (by simp [nodeOk, c4, c6])]
      · refine ⟨t.l.length - (i + 1), by omega, i + 1, _, rfl, rfl, good ?_, by omega, by omega, rfl⟩
        rw [nodeOk]; cases hg : getL (t.l.take i) (upL n.path).1 <;> simp_all [leB]
      · rw [bad (by simp [nodeOk, c4]; intros; omega)]
      · rw [bad (by rw [nodeOk]; cases hg : getL (t.l.take (i + 1)) n.first <;> simp_all)]
      · rw [bad (by rw [nodeOk]; cases hg : getL (t.l.take (i + 1)) n.first <;> simp_all)]
      · rw [bad (by rw [nodeOk]; cases hg : getL (t.l.take (i + 1)) n.first <;> simp_all)]
      · rw [bad (by rw [nodeOk]; cases hg : getL (t.l.take (i + 1)) n.first <;> simp_all)]
      · refine ⟨t.l.length - (i + 1), by omega, i + 1, _, rfl, rfl, good ?_, by omega, by omega, rfl⟩
        rw [nodeOk]; cases hg : getL (t.l.take i) (upL n.path).1 <;> cases hg2 : getL (t.l.take (i + 1)) n.first <;> simp_all [leB]
        omega
  · (have c1 : Dm := ⟨⟩; have c2 : Dm := ⟨⟩; have c3 : Dm := ⟨⟩; have c4 : Dm := ⟨⟩; have c5 : Dm := ⟨⟩; have c6 : Dm := ⟨⟩) <;> (try simp -implicitDefEqProofs -dsimp (maxSteps := 2000000) (disch := (first | exact dz | fail)) only [go_sem, aR, h0, h3, hlt]) <;> (repeat' (first | ((with_reducible refine ds_and ?_ ?_); focus exact kz) | ((with_reducible refine And.intro ?_ ?_); focus exact oz) | ((with_reducible refine pc_and ?_ ?_); focus exact pz) | ((with_reducible first | refine gIf_t ?_ ?_ | refine gIf_f ?_ ?_ | refine ite_t ?_ ?_ | refine ite_p ?_ ?_) <;> (first | (have z := (c1 : Dm); clear z c1; intro c1; try simp only [noR] at c1) | (have z := (c2 : Dm); clear z c2; intro c2; try simp only [noR] at c2) | (have z := (c3 : Dm); clear z c3; intro c3; try simp only [noR] at c3) | (have z := (c4 : Dm); clear z c4; intro c4; try simp only [noR] at c4) | (have z := (c5 : Dm); clear z c5; intro c5; try simp only [noR] at c5) | (have z := (c6 : Dm); clear z c6; intro c6; try simp only [noR] at c6)) <;> (try simp -implicitDefEqProofs -dsimp (maxSteps := 2000000) (disch := (first | exact dz | fail)) only [go_sem, aR, c6, c5, c4, c3, c2, c1, h0, h3, hlt])))) <;> (try with_reducible and_intros) <;> (first | exact fz | skip)
    have hi2 : i = t.l.length := by omega
    subst hi2
    have h2 : t.l[0]? = some root := by rw [List.getElem?_eq_getElem (by omega), hq3]
    have : t.l.length ≤ 512 := by omega
    have h3 : rightL t.l = true := by simp only [rightL, Bool.and_eq_true, decide_eq_true_eq]; exact ⟨h1i, this, h2, hok⟩
    rw [h3]
end
end Go.Proofs.YtcmjidnbbfcbjaaGreatDoor.V.L1
/- What is kept, links, sizes: the plain law and the sizes; no condition. -/
namespace Go.Proofs.YtcmjidnbbfcbjaaGreatDoor.V
open Go
set_option linter.unusedVariables false
set_option linter.unusedSimpArgs false
set_option maxRecDepth 100000
set_option maxHeartbeats 4000000
noncomputable section
variable {en : Env} {m : Mem}
def sameF (n : Nd) (x : Nd) : Bool := !x.dir && decide (x.first = n.first)
def linksL (t : List Nd) (p : List UInt8) : List (List UInt8) :=
  match getL t p with
  | some n => if (!n.dir && rightL t) = true then (t.filter (sameF n)).map (·.path) else []
  | none => []
theorem filter_stepP {α : Type} {t : List α} {i : Nat} {a : α} (h : t[i]? = some a) {p : α → Bool} : (t.take (i + 1)).filter p = (t.take i).filter p ++ (if p a = true then [a] else []) := by
  rw [List.take_add_one, h, List.filter_append]
  congr 1
  simp only [Option.toList_some, List.filter_cons, List.filter_nil]
theorem filter_step {α : Type} {t : List α} {i : Nat} {a : α} (h : t[i]? = some a) (p : α → Bool) : (t.take (i + 1)).filter p = (t.take i).filter p ++ (if p a = true then [a] else []) := by
  rw [List.take_add_one, h, List.filter_append]
  congr 1
  simp only [Option.toList_some, List.filter_cons, List.filter_nil]
theorem filterLe {α : Type} (t : List α) (i : Nat) (p : α → Bool) : ((t.take i).filter p).length ≤ t.length := Nat.le_trans (List.length_filter_le _ _) (by simp; omega)
theorem zero {i : Nat} {t : List Nd} {P : Prop} {p : Nd → Bool} (hpos : 0 < i → P) (h : ¬P) : ((t.take i).filter p).map (·.path) = [] := by
  rcases Nat.eq_zero_or_pos i with rfl | hi
  · rfl
  · exact (h (hpos hi)).elim
def keptB (a b : List Nd) (p : List UInt8) : Bool :=
  match getL a p, getL b p with
  | some x, some y => (x.dir == y.dir) && (x.dir || decide (linksL a p = linksL b p))
  | _, _ => false
def keptL (a b : List Nd) : List (List UInt8) := (a.filter fun n => keptB a b n.path).map (·.path)
theorem linksLen (t : List Nd) (p : List UInt8) : (linksL t p).length ≤ t.length := by
  unfold linksL
  split
  · split
    · rw [List.length_map]; exact List.length_filter_le _ _
    · simp
  · simp
def sizeL (l : List Pn) : Nat := ((l.filter fun o => decide (o.kind = 7)).map fun o => o.data.length).sum
theorem size_step {l : List Pn} {i : Nat} {o : Pn} (h : l[i]? = some o) : sizeL (l.take (i + 1)) = sizeL (l.take i) + (if o.kind = 7 then o.data.length else 0) := by
  unfold sizeL
  rw [filter_stepP h, List.map_append, List.sum_append]
  by_cases hk : o.kind = 7 <;> simp [hk]
theorem size_le {l : List Pn} {B : Nat} (h : ∀ o ∈ l, o.data.length ≤ B) : sizeL l ≤ l.length * B := by
  induction l with
  | nil => simp [sizeL]
  | cons o l ih =>
    have h1 := ih fun o h' => h o (by simp [h'])
    have h2 := h o (by simp)
    rw [List.length_cons, Nat.succ_mul]
    unfold sizeL at *
    rw [List.filter_cons]
    split
    · simp only [List.map_cons, List.sum_cons]; omega
    · omega
structure FitO (l : List Pn) : Prop where
  len : l.length < 2147483648
  data : ∀ o ∈ l, o.data.length ≤ 2147483648
end
end Go.Proofs.YtcmjidnbbfcbjaaGreatDoor.V
namespace Go.Proofs.YtcmjidnbbfcbjaaGreatDoor.V.L1
open Go V
set_option linter.unusedVariables false
set_option linter.unusedSimpArgs false
set_option maxRecDepth 100000
set_option maxHeartbeats 4000000
noncomputable section
variable {en : Env} {m : Mem}
theorem size_ok (x : Sl Pn) (hx : FitO x.l) (hf : Fits en m.length) : WC Tryz.prog pol en (.func 28) [slf opC x] m fun v m' => v = I (sizeL x.l) ∧ m' = m := by
  have hxl := hx.len
  refine callPur Tryz.func28 rfl rfl Tryz.ntmps28 Tryz.results28 ?_
  (have hq1 : Dm := ⟨⟩; have hq2 : Dm := ⟨⟩; have hq3 : Dm := ⟨⟩; have hq4 : Dm := ⟨⟩; have hq5 : Dm := ⟨⟩; have hq6 : Dm := ⟨⟩) <;> (try simp -implicitDefEqProofs -dsimp (maxSteps := 2000000) (disch := (first | exact dz | fail)) only [go_sem, aR, ]) <;> (repeat' (first | ((with_reducible refine ds_and ?_ ?_); focus exact kz) | ((with_reducible refine And.intro ?_ ?_); focus exact oz) | ((with_reducible refine pc_and ?_ ?_); focus exact pz) | ((with_reducible first | refine gIf_t ?_ ?_ | refine gIf_f ?_ ?_ | refine ite_t ?_ ?_ | refine ite_p ?_ ?_) <;> (first | (have z := (hq1 : Dm); clear z hq1; intro hq1; try simp only [noR] at hq1) | (have z := (hq2 : Dm); clear z hq2; intro hq2; try simp only [noR] at hq2) | (have z := (hq3 : Dm); clear z hq3; intro hq3; try simp only [noR] at hq3) | (have z := (hq4 : Dm); clear z hq4; intro hq4; try simp only [noR] at hq4) | (have z := (hq5 : Dm); clear z hq5; intro hq5; try simp only [noR] at hq5) | (have z := (hq6 : Dm); clear z hq6; intro hq6; try simp only [noR] at hq6)) <;> (try simp -implicitDefEqProofs -dsimp (maxSteps := 2000000) (disch := (first | exact dz | fail)) only [go_sem, aR, hq6, hq5, hq4, hq3, hq2, hq1])))) <;> (try with_reducible and_intros) <;> (first | exact fz | skip)
  refine loopF (fun k ts m' => ∃ (i : Nat), ts.length = 26 ∧ tg ts 0 = slf opC x ∧ tg ts 3 = I (sizeL (x.l.take i)) ∧ tg ts 4 = I i ∧ m' = m ∧ i ≤ x.l.length ∧ k = x.l.length - i) x.l.length ⟨0, rfl, rfl, rfl, rfl, rfl, by omega, by omega⟩ ?_
  rintro k ts m' ⟨i, hl, h0, h3, h4, rfl, hi, rfl⟩
  rw [expandT hl]
  by_cases hlt : (i : Int) < (x.l.length : Int)
  · obtain ⟨o, ho⟩ : ∃ o, x.l[i]? = some o := ⟨_, List.getElem?_eq_getElem (by omega)⟩
    have hst := size_step ho
    have hb : sizeL (x.l.take i) ≤ 2147483648 * 2147483648 := by
      refine Nat.le_trans (size_le (B := 2147483648) fun o h => hx.data o (List.mem_of_mem_take h)) (Nat.mul_le_mul_right _ ?_)
      simp; omega
    have hd := hx.data o (List.mem_of_getElem? ho)
    (have c1 : Dm := ⟨⟩; have c2 : Dm := ⟨⟩; have c3 : Dm := ⟨⟩; have c4 : Dm := ⟨⟩; have c5 : Dm := ⟨⟩; have c6 : Dm := ⟨⟩) <;> (try simp -implicitDefEqProofs -dsimp (maxSteps := 2000000) (disch := (first | exact dz | fail)) only [go_sem, aR, h0, h3, h4, hlt, ho]) <;> (repeat' (first | ((with_reducible refine ds_and ?_ ?_); focus exact kz) | ((with_reducible refine And.intro ?_ ?_); focus exact oz) | ((with_reducible refine pc_and ?_ ?_); focus exact pz) | ((with_reducible first | refine gIf_t ?_ ?_ | refine gIf_f ?_ ?_ | refine ite_t ?_ ?_ | refine ite_p ?_ ?_) <;> (first | (have z := (c1 : Dm); clear z c1; intro c1; try simp only [noR] at c1) | (have z := (c2 : Dm); clear z c2; intro c2; try simp only [noR] at c2) | (have z := (c3 : Dm); clear z c3; intro c3; try simp only [noR] at c3) | (have z := (c4 : Dm); clear z c4; intro c4; try simp only [noR] at c4) | (have z := (c5 : Dm); clear z c5; intro c5; try simp only [noR] at c5) | (have z := (c6 : Dm); clear z c6; intro c6; try simp only [noR] at c6)) <;> (try simp -implicitDefEqProofs -dsimp (maxSteps := 2000000) (disch := (first | exact dz | fail)) only [go_sem, aR, c6, c5, c4, c3, c2, c1, h0, h3, h4, hlt, ho])))) <;> (try with_reducible and_intros) <;> (first | exact fz | skip)
    · rw [if_pos c1] at hst
      refine ⟨_, by omega, i + 1, ?_, rfl, by omega, rfl⟩
      rw [hst]; simp
    · rw [if_neg c1] at hst
      exact ⟨_, by omega, i + 1, by rw [hst]; rfl, rfl, by omega, rfl⟩
  · (have c1 : Dm := ⟨⟩; have c2 : Dm := ⟨⟩; have c3 : Dm := ⟨⟩; have c4 : Dm := ⟨⟩; have c5 : Dm := ⟨⟩; have c6 : Dm := ⟨⟩) <;> (try simp -implicitDefEqProofs -dsimp (maxSteps := 2000000) (disch := (first | exact dz | fail)) only [go_sem, aR, h0, h3, h4, hlt]) <;> (repeat' (first | ((with_reducible refine ds_and ?_ ?_); focus exact kz) | ((with_reducible refine And.intro ?_ ?_); focus exact oz) | ((with_reducible refine pc_and ?_ ?_); focus exact pz) | ((with_reducible first | refine gIf_t ?_ ?_ | refine gIf_f ?_ ?_ | refine ite_t ?_ ?_ | refine ite_p ?_ ?_) <;> (first | (have z := (c1 : Dm); clear z c1; intro c1; try simp only [noR] at c1) | (have z := (c2 : Dm); clear z c2; intro c2; try simp only [noR] at c2) | (have z := (c3 : Dm); clear z c3; intro c3; try simp only [noR] at c3) | (have z := (c4 : Dm); clear z c4; intro c4; try simp only [noR] at c4) | (have z := (c5 : Dm); clear z c5; intro c5; try simp only [noR] at c5) | (have z := (c6 : Dm); clear z c6; intro c6; try simp only [noR] at c6)) <;> (try simp -implicitDefEqProofs -dsimp (maxSteps := 2000000) (disch := (first | exact dz | fail)) only [go_sem, aR, c6, c5, c4, c3, c2, c1, h0, h3, h4, hlt])))) <;> (try with_reducible and_intros) <;> (first | exact fz | skip)
theorem size0_ok (x : Sl Pn) (hx : FitO x.l) (hf : Fits en m.length) : WC Tryz.prog pol en (.func 27) [slf opC x] m fun v m' => v = I (sizeL x.l) ∧ m' = m := by
  have hxl := hx.len
  refine callPur Tryz.func27 rfl rfl Tryz.ntmps27 Tryz.results27 ?_
  (have hq1 : Dm := ⟨⟩; have hq2 : Dm := ⟨⟩; have hq3 : Dm := ⟨⟩; have hq4 : Dm := ⟨⟩; have hq5 : Dm := ⟨⟩; have hq6 : Dm := ⟨⟩) <;> (try simp -implicitDefEqProofs -dsimp (maxSteps := 2000000) (disch := (first | exact dz | fail)) only [go_sem, aR, ]) <;> (repeat' (first | ((with_reducible refine ds_and ?_ ?_); focus exact kz) | ((with_reducible refine And.intro ?_ ?_); focus exact oz) | ((with_reducible refine pc_and ?_ ?_); focus exact pz) | ((with_reducible first | refine gIf_t ?_ ?_ | refine gIf_f ?_ ?_ | refine ite_t ?_ ?_ | refine ite_p ?_ ?_) <;> (first | (have z := (hq1 : Dm); clear z hq1; intro hq1; try simp only [noR] at hq1) | (have z := (hq2 : Dm); clear z hq2; intro hq2; try simp only [noR] at hq2) | (have z := (hq3 : Dm); clear z hq3; intro hq3; try simp only [noR] at hq3) | (have z := (hq4 : Dm); clear z hq4; intro hq4; try simp only [noR] at hq4) | (have z := (hq5 : Dm); clear z hq5; intro hq5; try simp only [noR] at hq5) | (have z := (hq6 : Dm); clear z hq6; intro hq6; try simp only [noR] at hq6)) <;> (try simp -implicitDefEqProofs -dsimp (maxSteps := 2000000) (disch := (first | exact dz | fail)) only [go_sem, aR, hq6, hq5, hq4, hq3, hq2, hq1])))) <;> (try with_reducible and_intros) <;> (first | exact fz | skip)
  refine loopF (fun k ts m' => ∃ (i : Nat) (l : Mem), ts.length = 22 ∧ tg ts 3 = I (sizeL (x.l.take i)) ∧ tg ts 6 = slf opC x ∧ tg ts 7 = I x.l.length ∧ tg ts 8 = I i ∧ m' = m ++ l ∧ i ≤ x.l.length ∧ k = x.l.length - i) x.l.length ⟨0, [], rfl, rfl, rfl, rfl, rfl, by simp, by omega, by omega⟩ ?_
  rintro k ts m' ⟨i, l, hl, h3, h6, h7, h8, rfl, hi, rfl⟩
  rw [expandT hl]
  by_cases hlt : (i : Int) < (x.l.length : Int)
  · obtain ⟨o, ho⟩ : ∃ o, x.l[i]? = some o := ⟨_, List.getElem?_eq_getElem (by omega)⟩
    have hst := size_step ho
    have hb : sizeL (x.l.take i) ≤ 2147483648 * 2147483648 := by
      refine Nat.le_trans (size_le (B := 2147483648) fun o h => hx.data o (List.mem_of_mem_take h)) (Nat.mul_le_mul_right _ ?_)
      simp; omega
    have hd := hx.data o (List.mem_of_getElem? ho)
    (have c1 : Dm := ⟨⟩; have c2 : Dm := ⟨⟩; have c3 : Dm := ⟨⟩; have c4 : Dm := ⟨⟩; have c5 : Dm := ⟨⟩; have c6 : Dm := ⟨⟩) <;> (try simp -implicitDefEqProofs -dsimp (maxSteps := 2000000) (disch := (first | exact dz | fail)) only [go_sem, aR, h3, h6, h7, h8, hlt, ho]) <;> (repeat' (first | ((with_reducible refine ds_and ?_ ?_); focus exact kz) | ((with_reducible refine And.intro ?_ ?_); focus exact oz) | ((with_reducible refine pc_and ?_ ?_); focus exact pz) | ((with_reducible first | refine gIf_t ?_ ?_ | refine gIf_f ?_ ?_ | refine ite_t ?_ ?_ | refine ite_p ?_ ?_) <;> (first | (have z := (c1 : Dm); clear z c1; intro c1; try simp only [noR] at c1) | (have z := (c2 : Dm); clear z c2; intro c2; try simp only [noR] at c2) | (have z := (c3 : Dm); clear z c3; intro c3; try simp only [noR] at c3) | (have z := (c4 : Dm); clear z c4; intro c4; try simp only [noR] at c4) | (have z := (c5 : Dm); clear z c5; intro c5; try simp only [noR] at c5) | (have z := (c6 : Dm); clear z c6; intro c6; try simp only [noR] at c6)) <;> (try simp -implicitDefEqProofs -dsimp (maxSteps := 2000000) (disch := (first | exact dz | fail)) only [go_sem, aR, c6, c5, c4, c3, c2, c1, h3, h6, h7, h8, hlt, ho])))) <;> (try with_reducible and_intros) <;> (first | exact fz | skip)
    · rw [if_pos c1] at hst
      refine ⟨_, by omega, i + 1, _, ?_, rfl, rfl, by omega, rfl⟩
      rw [hst]; simp
    · rw [if_neg c1] at hst
      exact ⟨_, by omega, i + 1, _, by rw [hst]; rfl, rfl, rfl, by omega, rfl⟩
  · (have c1 : Dm := ⟨⟩; have c2 : Dm := ⟨⟩; have c3 : Dm := ⟨⟩; have c4 : Dm := ⟨⟩; have c5 : Dm := ⟨⟩; have c6 : Dm := ⟨⟩) <;> (try simp -implicitDefEqProofs -dsimp (maxSteps := 2000000) (disch := (first | exact dz | fail)) only [go_sem, aR, h3, h6, h7, h8, hlt]) <;> (repeat' (first | ((with_reducible refine ds_and ?_ ?_); focus exact kz) | ((with_reducible refine And.intro ?_ ?_); focus exact oz) | ((with_reducible refine pc_and ?_ ?_); focus exact pz) | ((with_reducible first | refine gIf_t ?_ ?_ | refine gIf_f ?_ ?_ | refine ite_t ?_ ?_ | refine ite_p ?_ ?_) <;> (first | (have z := (c1 : Dm); clear z c1; intro c1; try simp only [noR] at c1) | (have z := (c2 : Dm); clear z c2; intro c2; try simp only [noR] at c2) | (have z := (c3 : Dm); clear z c3; intro c3; try simp only [noR] at c3) | (have z := (c4 : Dm); clear z c4; intro c4; try simp only [noR] at c4) | (have z := (c5 : Dm); clear z c5; intro c5; try simp only [noR] at c5) | (have z := (c6 : Dm); clear z c6; intro c6; try simp only [noR] at c6)) <;> (try simp -implicitDefEqProofs -dsimp (maxSteps := 2000000) (disch := (first | exact dz | fail)) only [go_sem, aR, c6, c5, c4, c3, c2, c1, h3, h6, h7, h8, hlt])))) <;> (try with_reducible and_intros) <;> (first | exact fz | skip)
end
end Go.Proofs.YtcmjidnbbfcbjaaGreatDoor.V.L1
/- strings.Builder on top of the store; no condition. -/
namespace Go.Proofs.YtcmjidnbbfcbjaaGreatDoor.V
open Go
set_option linter.unusedVariables false
set_option linter.unusedSimpArgs false
set_option maxRecDepth 100000
set_option maxHeartbeats 4000000
noncomputable section
variable {en : Env} {m m0 : Mem} {l : List UInt8}
abbrev tB : Nat := tagT 85
abbrev tU : Nat := tagT 5
theorem tB_ne : tB ≠ 0 := by decide
theorem tB_lt : tB < 65536 := by decide
theorem tB_mod : tB % 65536 = tB := by decide
theorem u8L_len (l : List UInt8) : (u8L l).length = l.length := by simp [u8L]
theorem u8L_app (a b : List UInt8) : u8L (a ++ b) = u8L a ++ u8L b := by simp [u8L]
/-- Its buffer: nothing, or a row that begins with the bytes. -/
inductive Buf (id : Nat) (l : List UInt8) : AV → List Ob → Prop
  | nil (h : l = []) : Buf id l .nilS []
  | own (ver : Nat) (cs : List AV) (hv : ver % 65536 = tU) (h : cs.take l.length = u8L l) (hl : l.length ≤ cs.length) : Buf id l (.own id ver 0 l.length 1) [.cells ver cs]
/-- A builder that lies on top of the store, with what is written. -/
inductive Bld (m0 : Mem) (l : List UInt8) : Mem → Prop
  | mk (p b : AV) (rest : List Ob) (hp : p = .nilP ∨ p = .ptr m0.length tB 0) (hb : Buf (m0.length + 1) l b rest) : Bld m0 l (m0 ++ .cells tB [p, b] :: rest)
theorem Bld.new : Bld m0 [] (m0 ++ [.cells tB [.nilP, .nilS]]) := .mk _ _ [] (.inl rfl) (.nil rfl)
theorem same_ok (v : AV) : WC Tryz.prog pol en (.func 116) [v] m fun u m' => u = v ∧ m' = m := wcallD rfl rfl ⟨rfl, rfl⟩
theorem copyCheck_ok {p b : AV} {rest : List Ob} (hf : Fits en m0.length) (hb : en.bar ≤ m0.length) (hp : p = .nilP ∨ p = .ptr m0.length tB 0) :
    WC Tryz.prog pol en (.func 80) [.ptr m0.length tB 0] (m0 ++ .cells tB [p, b] :: rest) fun v m' => v = .tup [] ∧ m' = m0 ++ .cells tB [.ptr m0.length tB 0, b] :: rest := by
  have hok : ∀ low, okTo en m0.length low := fun low => okTo_fits hf hb (Nat.le_refl _) low
  refine callOpn Tryz.func80 rfl rfl Tryz.ntmps80 Tryz.results80 ?_
  rcases hp with rfl | rfl
  · simp -implicitDefEqProofs -dsimp (disch := (first | exact vz | fail)) only [go_sem, ]
    refine (same_ok _).mono ?_
    rintro _ _ ⟨rfl, rfl⟩
    simp -implicitDefEqProofs -dsimp (disch := (first | exact vz | fail)) only [go_sem, tB_lt, tB_mod, hok]
    exact ⟨tB_ne, trivial⟩
  · simp -implicitDefEqProofs -dsimp (disch := (first | exact vz | fail)) only [go_sem, ]
theorem roomOk1 {n : Nat} (h : n ≤ 4294967296) : roomOk n 1 = true := by simp [roomOk]; omega
theorem nextU {ver : Nat} (h : ver % 65536 = tU) : nextV tU ver % 65536 = tU := by unfold nextV; rw [if_pos h]; omega
theorem bufApp {id ver' : Nat} {cs : List AV} (s : List UInt8) (hv : ver' % 65536 = tU) (h1 : cs.take l.length = u8L l) (h2 : l.length ≤ cs.length) : Buf id (l ++ s) (.own id ver' 0 (l.length + s.length) 1) [.cells ver' (cs.take l.length ++ u8L s)] := by
  have := Buf.own (id := id) (l := l ++ s) ver' (cs.take l.length ++ u8L s) hv (by rw [h1, ← u8L_app, List.take_of_length_le (by rw [u8L_len]; exact Nat.le_refl _)]) (by rw [h1, ← u8L_app, u8L_len]; exact Nat.le_refl _)
  rwa [List.length_append] at this
theorem writeByte_ok {c : UInt8} (h : Bld m0 l m) (hf : Fits en m0.length) (hb : en.bar ≤ m0.length) (hn : l.length < 4294967296) :
    WC Tryz.prog pol en (.func 54) [.ptr m0.length tB 0, u8v c] m fun v m' => v = .nilI ∧ Bld m0 (l ++ [c]) m' := by
  have hok : ∀ low, okTo en m0.length low := fun low => okTo_fits hf hb (Nat.le_refl _) low
  have hok1 : ∀ low, okTo en (m0.length + 1) low := fun low => okTo_fits hf hb (by omega) low
  refine callOpn Tryz.func54 rfl rfl Tryz.ntmps54 Tryz.results54 ?_
  obtain ⟨p, b, rest, hp, hbf⟩ := h
  simp -implicitDefEqProofs -dsimp (disch := (first | exact vz | fail)) only [go_sem, ]
  refine (copyCheck_ok hf hb hp).mono ?_
  rintro _ _ ⟨rfl, rfl⟩
  cases hbf with
  | nil h0 =>
    subst h0
    simp -implicitDefEqProofs -dsimp (disch := (first | exact vz | fail)) only [go_sem, ]
    exact ⟨rfl, hok _, .mk _ _ _ (.inr rfl) (.own _ _ rfl rfl (Nat.le_refl _))⟩
  | own ver cs hv h1 h2 =>
    simp -implicitDefEqProofs -dsimp (disch := (first | exact vz | fail)) only [go_sem, ]
    exact ⟨⟨h2, roomOk1 (by omega)⟩, hok1 _, hok _, .mk _ _ _ (.inr rfl) (bufApp [c] (nextU hv) h1 h2)⟩
theorem writeString_ok {s : List UInt8} (h : Bld m0 l m) (hf : Fits en m0.length) (hb : en.bar ≤ m0.length) (hn : l.length + s.length ≤ 4294967296) :
    WC Tryz.prog pol en (.func 52) [.ptr m0.length tB 0, tx s] m fun v m' => v = .tup [I s.length, .nilI] ∧ Bld m0 (l ++ s) m' := by
  have hok : ∀ low, okTo en m0.length low := fun low => okTo_fits hf hb (Nat.le_refl _) low
  have hok1 : ∀ low, okTo en (m0.length + 1) low := fun low => okTo_fits hf hb (by omega) low
  refine callOpn Tryz.func52 rfl rfl Tryz.ntmps52 Tryz.results52 ?_
  obtain ⟨p, b, rest, hp, hbf⟩ := h
  simp -implicitDefEqProofs -dsimp (disch := (first | exact vz | fail)) only [go_sem, ]
  refine (copyCheck_ok hf hb hp).mono ?_
  rintro _ _ ⟨rfl, rfl⟩
  cases hbf with
  | nil h0 =>
    subst h0
    cases s with
    | nil =>
      simp -implicitDefEqProofs -dsimp (disch := (first | exact vz | fail)) only [go_sem, ]
      exact ⟨hok _, .mk _ _ _ (.inr rfl) (.nil rfl)⟩
    | cons a s =>
      simp -implicitDefEqProofs -dsimp (disch := (first | exact vz | fail)) only [go_sem, ]
      exact ⟨⟨u8L_len _, roomOk1 (by simpa using hn), by omega⟩, hok _, .mk _ _ _ (.inr rfl) (.own _ _ rfl (List.take_of_length_le (Nat.le_of_eq (u8L_len _))) (Nat.le_of_eq (u8L_len _).symm))⟩
  | own ver cs hv h1 h2 =>
    cases s with
    | nil =>
      simp -implicitDefEqProofs -dsimp (disch := (first | exact vz | fail)) only [go_sem, ]
      exact ⟨hok _, .mk _ _ _ (.inr rfl) (.own _ _ hv h1 h2)⟩
    | cons a s =>
      simp -implicitDefEqProofs -dsimp (disch := (first | exact vz | fail)) only [go_sem, ]
      exact ⟨⟨u8L_len _, h2, roomOk1 (by simpa using hn), by omega⟩, hok1 _, hok _, .mk _ _ _ (.inr rfl) (bufApp (a :: s) (nextU hv) h1 h2)⟩
theorem bytesOf_eq {cs : List AV} (h : cs = u8L l) : bytesOf cs = some l := by rw [h]; exact bytesOf_u8L l
theorem string_nil (h : Bld m0 [] m) (hn : ∃ p, m = m0 ++ [.cells tB [p, .nilS]]) : WC Tryz.prog pol en (.func 55) [.ptr m0.length tB 0] m fun v m' => v = tx [] := by
  obtain ⟨p, rfl⟩ := hn
  refine callOpn Tryz.func55 rfl rfl Tryz.ntmps55 Tryz.results55 ?_
  simp -implicitDefEqProofs -dsimp (disch := (first | exact vz | fail)) only [go_sem, ]
  exact ⟨by kernel_rfl, by kernel_rfl⟩
theorem string_ok (h : Bld m0 l m) (hf : Fits en m0.length) (hb : en.bar ≤ m0.length) (hn : l.length < 4294967296) (hl : l ≠ []) :
    WC Tryz.prog pol en (.func 55) [.ptr m0.length tB 0] m fun v m' => v = tx l := by
  refine callOpn Tryz.func55 rfl rfl Tryz.ntmps55 Tryz.results55 ?_
  obtain ⟨p, b, rest, hp, hbf⟩ := h
  cases hbf with
  | nil h0 => exact absurd h0 hl
  | own ver cs hv h1 h2 =>
    have hpos : 0 < l.length := List.length_pos_iff.2 hl
    simp -implicitDefEqProofs -dsimp (disch := (first | exact vz | fail)) only [go_sem, bytesOf_eq h1, hv]
    exact ⟨by kernel_rfl, h2, ⟨rfl, by omega⟩, by kernel_rfl⟩
end
end Go.Proofs.YtcmjidnbbfcbjaaGreatDoor.V
/- strings.Builder anywhere in the store; no condition. -/
namespace Go.Proofs.YtcmjidnbbfcbjaaGreatDoor.V.L1
open Go V
set_option linter.unusedVariables false
set_option linter.unusedSimpArgs false
set_option maxRecDepth 100000
set_option maxHeartbeats 4000000
noncomputable section
variable {en : Env} {m : Mem}
variable {l : List UInt8} {base i : Nat}
/-- A builder at i, with what is written; its buffer is anywhere from base on. -/
inductive BldG (base i : Nat) (l : List UInt8) (m : Mem) : Prop
  | nil (p : AV) (hm : m[i]? = some (.cells tB [p, .nilS])) (hp : p = .nilP ∨ p = .ptr i tB 0) (hi : base ≤ i) (hl : l = []) : BldG base i l m
  | own (p : AV) (j ver : Nat) (cs : List AV) (hm : m[i]? = some (.cells tB [p, .own j ver 0 l.length 1])) (hp : p = .nilP ∨ p = .ptr i tB 0) (hi : base ≤ i) (hj : base ≤ j) (hne : i ≠ j) (hc : m[j]? = some (.cells ver cs)) (hv : ver % 65536 = tU) (h1 : cs.take l.length = u8L l) (h2 : l.length ≤ cs.length) (hl : l ≠ []) : BldG base i l m
theorem lt_of_get {α : Type} {m : List α} {i : Nat} {o : α} (h : m[i]? = some o) : i < m.length := (List.getElem?_eq_some_iff.1 h).1
theorem copyCheckG {p b : AV} (hm : m[i]? = some (.cells tB [p, b])) (hf : Fits en base) (hb : en.bar ≤ base) (hp : p = .nilP ∨ p = .ptr i tB 0) (hi : base ≤ i) : WC Tryz.prog pol en (.func 80) [.ptr i tB 0] m fun v m' => v = .tup [] ∧ m' = m.set i (.cells tB [.ptr i tB 0, b]) := by
  have hok : ∀ low, okTo en i low := fun low => okTo_fits hf hb hi low
  have hlt := lt_of_get hm
  refine callOpn Tryz.func80 rfl rfl Tryz.ntmps80 Tryz.results80 ?_
  rcases hp with rfl | rfl
  · simp -implicitDefEqProofs -dsimp (maxSteps := 2000000) (disch := (first | exact dz | fail)) only [go_sem, aR, hm]
    refine (WC.rule (v0 := .ptr i tB 0) (m0 := m) (wcallD (d := dSame) rfl rfl ⟨rfl, rfl⟩) _).mpr ?_
    simp -implicitDefEqProofs -dsimp (maxSteps := 2000000) (disch := (first | exact dz | fail)) only [go_sem, aR, hm, tB_lt, tB_mod, hok]
    exact ⟨tB_ne, trivial⟩
  · simp -implicitDefEqProofs -dsimp (maxSteps := 2000000) (disch := (first | exact dz | fail)) only [go_sem, aR, hm]
    apply List.ext_getElem?
    intro k
    rw [List.getElem?_set]
    split
    · rename_i h; subst h; first | rw [if_pos hlt, hm] | exact hm
    · rfl
theorem BldG.mk_new {m : Mem} {p : AV} {s : List UInt8} {m1 : Mem} {ver : Nat} (hi : base ≤ i) (hlt : i < m.length) (hv : ver % 65536 = tU) (hl : m1.length = m.length) (hs : s ≠ []) :
    BldG base i s ((m1 ++ [Ob.cells ver (u8L s)]).set i (.cells tB [.ptr i tB 0, .own m.length ver 0 s.length 1])) := by
  refine .own _ m.length ver (u8L s) (List.getElem?_set_self (by rw [List.length_append, hl]; omega)) (.inr rfl) hi (by omega) (by omega) ?_ hv ?_ ?_ hs
  · rw [List.getElem?_set_ne (by omega), List.getElem?_append_right (by omega), hl, Nat.sub_self]; rfl
  · exact List.take_of_length_le (Nat.le_of_eq (u8L_len _))
  · exact Nat.le_of_eq (u8L_len _).symm
theorem BldG.mk_more {m : Mem} {s : List UInt8} {j ver : Nat} {cs : List AV} {o1 : Ob} (hi : base ≤ i) (hj : base ≤ j) (hne : i ≠ j) (hlt : i < m.length) (hltj : j < m.length) (hv : ver % 65536 = tU) (h1 : cs.take l.length = u8L l) (h2 : l.length ≤ cs.length) (hl : l ≠ []) :
    BldG base i (l ++ s) (((m.set i o1).set j (.cells ver (cs.take l.length ++ u8L s))).set i (.cells tB [.ptr i tB 0, .own j ver 0 (l.length + s.length) 1])) := by
  have e : l.length + s.length = (l ++ s).length := by simp
  rw [e]
  have hc : cs.take l.length ++ u8L s = u8L (l ++ s) := by rw [h1, ← u8L_app]
  refine .own _ j ver _ (List.getElem?_set_self (by simp; omega)) (.inr rfl) hi hj hne (by rw [List.getElem?_set_ne hne, List.getElem?_set_self (by simp; omega)]) hv ?_ ?_ (by simp [hl])
  · rw [hc]; exact List.take_of_length_le (Nat.le_of_eq (u8L_len _))
  · rw [hc, u8L_len]; exact Nat.le_refl _
theorem writeByteG {c : UInt8} (h : BldG base i l m) (hf : Fits en base) (hb : en.bar ≤ base) (hn : l.length < 4294967296) :
    WC Tryz.prog pol en (.func 54) [.ptr i tB 0, u8v c] m fun v m' => v = .nilI ∧ BldG base i (l ++ [c]) m' ∧ m.length ≤ m'.length := by
  refine callOpn Tryz.func54 rfl rfl Tryz.ntmps54 Tryz.results54 ?_
  rcases h with ⟨p, hm, hp, hi, rfl⟩ | ⟨p, j, ver, cs, hm, hp, hi, hj, hne, hc, hv, h1, h2, hl⟩
  · have hok : ∀ low, okTo en i low := fun low => okTo_fits hf hb hi low
    have hlt := lt_of_get hm
    simp -implicitDefEqProofs -dsimp (maxSteps := 2000000) (disch := (first | exact dz | fail)) only [go_sem, aR, hm]
    refine (copyCheckG hm hf hb hp hi).mono ?_
    rintro _ _ ⟨rfl, rfl⟩
    simp -implicitDefEqProofs -dsimp (maxSteps := 2000000) (disch := (first | exact dz | fail)) only [go_sem, aR, ]
    exact ⟨BldG.mk_new (s := [c]) (m := m) (p := p) hi hlt rfl (by simp) (by simp), by omega⟩
  · have hok : ∀ low, okTo en i low := fun low => okTo_fits hf hb hi low
    have hokj : ∀ low, okTo en j low := fun low => okTo_fits hf hb hj low
    have hlt := lt_of_get hm
    have hltj := lt_of_get hc
    simp -implicitDefEqProofs -dsimp (maxSteps := 2000000) (disch := (first | exact dz | fail)) only [go_sem, aR, hm]
    refine (copyCheckG hm hf hb hp hi).mono ?_
    rintro _ _ ⟨rfl, rfl⟩
    simp -implicitDefEqProofs -dsimp (maxSteps := 2000000) (disch := (first | exact dz | fail)) only [go_sem, aR, hc]
    exact ⟨h2, hok _, BldG.mk_more (s := [c]) hi hj hne hlt hltj (nextU hv) h1 h2 hl, Nat.le_refl _⟩
theorem writeStringG {s : List UInt8} (h : BldG base i l m) (hf : Fits en base) (hb : en.bar ≤ base) (hn : l.length + s.length < 4294967296) :
    WC Tryz.prog pol en (.func 52) [.ptr i tB 0, tx s] m fun v m' => v = .tup [I s.length, .nilI] ∧ BldG base i (l ++ s) m' ∧ m.length ≤ m'.length := by
  refine callOpn Tryz.func52 rfl rfl Tryz.ntmps52 Tryz.results52 ?_
  rcases h with ⟨p, hm, hp, hi, rfl⟩ | ⟨p, j, ver, cs, hm, hp, hi, hj, hne, hc, hv, h1, h2, hl⟩
  · have hok : ∀ low, okTo en i low := fun low => okTo_fits hf hb hi low
    have hlt := lt_of_get hm
    simp -implicitDefEqProofs -dsimp (maxSteps := 2000000) (disch := (first | exact dz | fail)) only [go_sem, aR, hm]
    refine (copyCheckG hm hf hb hp hi).mono ?_
    rintro _ _ ⟨rfl, rfl⟩
    cases s with
    | nil =>
      simp -implicitDefEqProofs -dsimp (maxSteps := 2000000) (disch := (first | exact dz | fail)) only [go_sem, aR, ]
      exact ⟨.nil _ (List.getElem?_set_self (by rw [List.length_set]; exact hlt)) (.inr rfl) hi rfl, by omega⟩
    | cons a s =>
      simp -implicitDefEqProofs -dsimp (maxSteps := 2000000) (disch := (first | exact dz | fail)) only [go_sem, aR, ]
      refine ⟨⟨u8L_len _, roomOk1 (by simp at hn; omega), by omega⟩, ?_, by omega⟩
      have := BldG.mk_new (s := a :: s) (m := m) (m1 := m.set i (.cells tB [.ptr i tB 0, .nilS])) (p := p) (ver := tU) hi hlt rfl (by simp) (by simp)
      exact this
  · have hok : ∀ low, okTo en i low := fun low => okTo_fits hf hb hi low
    have hokj : ∀ low, okTo en j low := fun low => okTo_fits hf hb hj low
    have hlt := lt_of_get hm
    have hltj := lt_of_get hc
    simp -implicitDefEqProofs -dsimp (maxSteps := 2000000) (disch := (first | exact dz | fail)) only [go_sem, aR, hm]
    refine (copyCheckG hm hf hb hp hi).mono ?_
    rintro _ _ ⟨rfl, rfl⟩
    cases s with
    | nil =>
      simp -implicitDefEqProofs -dsimp (maxSteps := 2000000) (disch := (first | exact dz | fail)) only [go_sem, aR, ]
      refine ⟨hok _, .own _ j ver cs (List.getElem?_set_self (by rw [List.length_set]; exact hlt)) (.inr rfl) hi hj hne ?_ hv h1 h2 hl, Nat.le_refl _⟩
      rw [List.getElem?_set_ne hne, List.getElem?_set_ne hne]; exact hc
    | cons a s =>
      simp -implicitDefEqProofs -dsimp (maxSteps := 2000000) (disch := (first | exact dz | fail)) only [go_sem, aR, hc]
      refine ⟨⟨u8L_len _, h2, roomOk1 (by simp at hn; omega), by omega⟩, hok _, ?_, Nat.le_refl _⟩
      have := BldG.mk_more (s := a :: s) (m := m) (o1 := .cells tB [.ptr i tB 0, .own j ver 0 l.length 1]) hi hj hne hlt hltj (nextU hv) h1 h2 hl
      exact this
theorem stringG (h : BldG base i l m) (hf : Fits en base) (hb : en.bar ≤ base) (hn : l.length < 4294967296) :
    WC Tryz.prog pol en (.func 55) [.ptr i tB 0] m fun v m' => v = tx l ∧ m.length ≤ m'.length := by
  refine callOpn Tryz.func55 rfl rfl Tryz.ntmps55 Tryz.results55 ?_
  rcases h with ⟨p, hm, hp, hi, rfl⟩ | ⟨p, j, ver, cs, hm, hp, hi, hj, hne, hc, hv, h1, h2, hl⟩
  · simp -implicitDefEqProofs -dsimp (maxSteps := 2000000) (disch := (first | exact dz | fail)) only [go_sem, aR, hm]
    exact ⟨by kernel_rfl, by kernel_rfl, Nat.le_refl _⟩
  · have hokj : ∀ low, okTo en j low := fun low => okTo_fits hf hb hj low
    have hpos : 0 < l.length := List.length_pos_iff.2 hl
    simp -implicitDefEqProofs -dsimp (maxSteps := 2000000) (disch := (first | exact dz | fail)) only [go_sem, aR, hm, hc, bytesOf_eq h1, hv]
    exact ⟨by kernel_rfl, h2, ⟨rfl, by omega⟩, by kernel_rfl, Nat.le_refl _⟩
theorem BldG.up {xs : Mem} (h : BldG base i l m) : BldG base i l (m ++ xs) := by
  rcases h with ⟨p, hm, hp, hi, rfl⟩ | ⟨p, j, ver, cs, hm, hp, hi, hj, hne, hc, hv, h1, h2, hl⟩
  · exact .nil p (by rw [List.getElem?_append_left (lt_of_get hm)]; exact hm) hp hi rfl
  · exact .own p j ver cs (by rw [List.getElem?_append_left (lt_of_get hm)]; exact hm) hp hi hj hne (by rw [List.getElem?_append_left (lt_of_get hc)]; exact hc) hv h1 h2 hl
end
end Go.Proofs.YtcmjidnbbfcbjaaGreatDoor.V.L1
/- Functions of one byte; no condition. -/
namespace Go.Proofs.YtcmjidnbbfcbjaaGreatDoor.V
open Go
set_option linter.unusedVariables false
set_option linter.unusedSimpArgs false
set_option maxRecDepth 100000
noncomputable section
variable {en : Env} {m : Mem}
def plainN (n : Nat) : AV := .sc (.bool (decide (32 < n) && decide (n < 127) && decide (n ≠ 34) && decide (n ≠ 37)))
theorem plainK0 : byteRun Tryz.prog pol 40 69 0 = byteSay plainN 0 := by kernel_rfl
theorem plainK1 : byteRun Tryz.prog pol 40 69 1 = byteSay plainN 1 := by kernel_rfl
theorem plainK2 : byteRun Tryz.prog pol 40 69 2 = byteSay plainN 2 := by kernel_rfl
theorem plainK3 : byteRun Tryz.prog pol 40 69 3 = byteSay plainN 3 := by kernel_rfl
theorem plainK4 : byteRun Tryz.prog pol 40 69 4 = byteSay plainN 4 := by kernel_rfl
theorem plainK5 : byteRun Tryz.prog pol 40 69 5 = byteSay plainN 5 := by kernel_rfl
theorem plainK6 : byteRun Tryz.prog pol 40 69 6 = byteSay plainN 6 := by kernel_rfl
theorem plainK7 : byteRun Tryz.prog pol 40 69 7 = byteSay plainN 7 := by kernel_rfl
theorem plain_ok (c : UInt8) : WC Tryz.prog pol en (.func 69) [u8v c] m fun v m' => v = .sc (.bool (plainB c)) ∧ m' = m :=
  byteFn (g := plainN) 40 rfl rfl (fun _ => rfl) plainK0 plainK1 plainK2 plainK3 plainK4 plainK5 plainK6 plainK7 c
def nibN (n : Nat) : AV := .sc (.int .u8 (if n < 10 then 48 + n else (87 + n) % 256 : Nat))
theorem nibK0 : byteRun Tryz.prog pol 40 70 0 = byteSay nibN 0 := by kernel_rfl
theorem nibK1 : byteRun Tryz.prog pol 40 70 1 = byteSay nibN 1 := by kernel_rfl
theorem nibK2 : byteRun Tryz.prog pol 40 70 2 = byteSay nibN 2 := by kernel_rfl
theorem nibK3 : byteRun Tryz.prog pol 40 70 3 = byteSay nibN 3 := by kernel_rfl
theorem nibK4 : byteRun Tryz.prog pol 40 70 4 = byteSay nibN 4 := by kernel_rfl
theorem nibK5 : byteRun Tryz.prog pol 40 70 5 = byteSay nibN 5 := by kernel_rfl
theorem nibK6 : byteRun Tryz.prog pol 40 70 6 = byteSay nibN 6 := by kernel_rfl
theorem nibK7 : byteRun Tryz.prog pol 40 70 7 = byteSay nibN 7 := by kernel_rfl
theorem nibble_ok (c : UInt8) (hc : c.toNat < 16) : WC Tryz.prog pol en (.func 70) [u8v c] m fun v m' => v = u8v (hexd c.toNat) ∧ m' = m := by
  refine (byteFn (g := nibN) 40 rfl rfl (fun _ => rfl) nibK0 nibK1 nibK2 nibK3 nibK4 nibK5 nibK6 nibK7 c).mono ?_
  rintro v m' ⟨rfl, rfl⟩
  refine ⟨?_, rfl⟩
  show AV.sc (.int .u8 _) = AV.sc (.int .u8 _)
  rw [hexd_nat hc]
  by_cases h : c.toNat < 10
  · simp [h]
  · simp only [h, if_false]; congr 3; omega
def valN (n : Nat) : AV := if 48 ≤ n ∧ n ≤ 57 then .tup [.sc (.int .u8 (n - 48 : Nat)), .sc (.bool true)] else if 97 ≤ n ∧ n ≤ 102 then .tup [.sc (.int .u8 (n - 87 : Nat)), .sc (.bool true)] else .tup [.sc (.int .u8 0), .sc (.bool false)]
theorem valN_flat (n : Nat) : flat (valN n) = true := by
  unfold valN
  split
  · rfl
  · split <;> rfl
theorem valK0 : byteRun Tryz.prog pol 40 127 0 = byteSay valN 0 := by kernel_rfl
theorem valK1 : byteRun Tryz.prog pol 40 127 1 = byteSay valN 1 := by kernel_rfl
theorem valK2 : byteRun Tryz.prog pol 40 127 2 = byteSay valN 2 := by kernel_rfl
theorem valK3 : byteRun Tryz.prog pol 40 127 3 = byteSay valN 3 := by kernel_rfl
theorem valK4 : byteRun Tryz.prog pol 40 127 4 = byteSay valN 4 := by kernel_rfl
theorem valK5 : byteRun Tryz.prog pol 40 127 5 = byteSay valN 5 := by kernel_rfl
theorem valK6 : byteRun Tryz.prog pol 40 127 6 = byteSay valN 6 := by kernel_rfl
theorem valK7 : byteRun Tryz.prog pol 40 127 7 = byteSay valN 7 := by kernel_rfl
theorem value_ok (c : UInt8) : WC Tryz.prog pol en (.func 127) [u8v c] m fun v m' => v = valN c.toNat ∧ m' = m :=
  byteFn (g := valN) 40 rfl rfl valN_flat valK0 valK1 valK2 valK3 valK4 valK5 valK6 valK7 c
def digN (n : Nat) : Int := if 48 ≤ n ∧ n ≤ 57 then n - 48 else if 97 ≤ n ∧ n ≤ 102 then n - 87 else 16
def digV (n : Nat) : AV := I (digN n)
theorem digK0 : byteRun Tryz.prog pol 60 128 0 = byteSay digV 0 := by kernel_rfl
theorem digK1 : byteRun Tryz.prog pol 60 128 1 = byteSay digV 1 := by kernel_rfl
theorem digK2 : byteRun Tryz.prog pol 60 128 2 = byteSay digV 2 := by kernel_rfl
theorem digK3 : byteRun Tryz.prog pol 60 128 3 = byteSay digV 3 := by kernel_rfl
theorem digK4 : byteRun Tryz.prog pol 60 128 4 = byteSay digV 4 := by kernel_rfl
theorem digK5 : byteRun Tryz.prog pol 60 128 5 = byteSay digV 5 := by kernel_rfl
theorem digK6 : byteRun Tryz.prog pol 60 128 6 = byteSay digV 6 := by kernel_rfl
theorem digK7 : byteRun Tryz.prog pol 60 128 7 = byteSay digV 7 := by kernel_rfl
theorem digit_ok (c : UInt8) : WC Tryz.prog pol en (.func 128) [u8v c] m fun v m' => v = I (digN c.toNat) ∧ m' = m :=
  byteFn (g := digV) 60 rfl rfl (fun _ => rfl) digK0 digK1 digK2 digK3 digK4 digK5 digK6 digK7 c
end
end Go.Proofs.YtcmjidnbbfcbjaaGreatDoor.V
/- Quote, of the program and of the reference; no condition. -/
namespace Go.Proofs.YtcmjidnbbfcbjaaGreatDoor.V
open Go
set_option linter.unusedVariables false
set_option linter.unusedSimpArgs false
set_option maxRecDepth 100000
set_option maxHeartbeats 4000000
noncomputable section
variable {en : Env} {m : Mem}
theorem enc_len (l : List UInt8) : (qencL l).length ≤ 3 * l.length := by
  induction l with
  | nil => simp [qencL]
  | cons c l ih =>
    show (encB c ++ qencL l).length ≤ _
    have : (encB c).length ≤ 3 := by unfold encB; split <;> simp
    simp only [List.length_append, List.length_cons]; omega
theorem enc_take {s : List UInt8} {i : Nat} (h : i < s.length) : qencL (s.take (i + 1)) = qencL (s.take i) ++ encB s[i] := by
  have : s.take (i + 1) = s.take i ++ [s[i]] := by rw [List.take_add_one, List.getElem?_eq_getElem h]; rfl
  rw [this]; unfold qencL; rw [List.flatMap_append]; simp
theorem shr4_all : ∀ n < 256, shrK .u8 ((n : Nat) : Int) 4 = ((n / 16 : Nat) : Int) := by decide
theorem and15_all : ∀ n < 256, andK .u8 ((n : Nat) : Int) 15 = ((n % 16 : Nat) : Int) := by decide
theorem ofNat_u8 {n : Nat} (h : n < 256) : (UInt8.ofNat n).toNat = n := by rw [UInt8.toNat_ofNat']; exact Nat.mod_eq_of_lt h
theorem shr4 (c : UInt8) : AV.sc (.int .u8 (shrK .u8 (c.toNat : Int) 4)) = u8v (UInt8.ofNat (c.toNat / 16)) := by
  have := c.toNat_lt
  rw [shr4_all _ (by omega)]
  unfold u8v; rw [ofNat_u8 (by omega)]
theorem and15 (c : UInt8) : AV.sc (.int .u8 (andK .u8 (c.toNat : Int) 15)) = u8v (UInt8.ofNat (c.toNat % 16)) := by
  have := c.toNat_lt
  rw [and15_all _ (by omega)]
  unfold u8v; rw [ofNat_u8 (by omega)]
theorem quote_ok (s : List UInt8) (hs : s.length ≤ 1000000000) (hf : Fits en m.length) : WC Tryz.prog pol en (.func 39) [tx s] m fun v m' => v = tx (quoteL s) ∧ m' = m := by
  refine callPur Tryz.func39 rfl rfl Tryz.ntmps39 Tryz.results39 ?_
  have hf' : Fits (en' en m) m.length := hf.pur
  have hb' : (en' en m).bar ≤ m.length := Nat.le_refl _
  simp -implicitDefEqProofs -dsimp (disch := (first | exact vz | fail)) only [go_sem, ]
  refine (writeByte_ok (c := 34) Bld.new hf' hb' (by simp)).mono ?_
  rintro _ m1 ⟨rfl, hB⟩
  simp -implicitDefEqProofs -dsimp (disch := (first | exact vz | fail)) only [go_sem, ]
  refine loopF (fun k ts m' => ∃ i : Nat, ts.length = 31 ∧ tg ts 0 = tx s ∧ tg ts 3 = .ptr m.length tB 0 ∧ tg ts 8 = I s.length ∧ tg ts 9 = I i ∧ i ≤ s.length ∧ Bld m (34 :: qencL (s.take i)) m' ∧ k = s.length - i) s.length ⟨0, rfl, rfl, rfl, rfl, rfl, by omega, hB, by omega⟩ ?_
  rintro k ts m' ⟨i, hl, h0, h3, h8, h9, hi, hB, hk⟩
  rw [expandT hl]
  have hel := enc_len (s.take i)
  have htl : (s.take i).length = i := by simp; omega
  simp -implicitDefEqProofs -dsimp (disch := (first | exact vz | fail)) only [go_sem, h0, h3, h8, h9]
  split
  · rename_i hlt
    have hi' : i < s.length := by omega
    have hlt8 := s[i].toNat_lt
    simp -implicitDefEqProofs -dsimp (disch := (first | exact vz | fail)) only [go_sem, ]
    refine (plain_ok _).mono ?_
    rintro _ _ ⟨rfl, rfl⟩
    simp -implicitDefEqProofs -dsimp (disch := (first | exact vz | fail)) only [go_sem, ]
    split
    · rename_i hp
      refine (writeByte_ok hB hf' hb' (by simp; omega)).mono ?_
      rintro _ m2 ⟨rfl, hB2⟩
      simp -implicitDefEqProofs -dsimp (disch := (first | exact vz | fail)) only [go_sem, ]
      refine ⟨s.length - (i + 1), by omega, i + 1, rfl, by omega, ?_, rfl⟩
      rw [enc_take hi', encB, if_pos hp]; exact hB2
    · rename_i hp
      refine (writeByte_ok (c := 37) hB hf' hb' (by simp; omega)).mono ?_
      rintro _ m2 ⟨rfl, hB2⟩
      simp -implicitDefEqProofs -dsimp (disch := (first | exact vz | fail)) only [go_sem, shr4]
      refine (nibble_ok _ (by rw [ofNat_u8] <;> omega)).mono ?_
      rintro _ _ ⟨rfl, rfl⟩
      simp -implicitDefEqProofs -dsimp (disch := (first | exact vz | fail)) only [go_sem, ]
      refine (writeByte_ok hB2 hf' hb' (by simp; omega)).mono ?_
      rintro _ m3 ⟨rfl, hB3⟩
      simp -implicitDefEqProofs -dsimp (disch := (first | exact vz | fail)) only [go_sem, and15]
      refine (nibble_ok _ (by rw [ofNat_u8] <;> omega)).mono ?_
      rintro _ _ ⟨rfl, rfl⟩
      simp -implicitDefEqProofs -dsimp (disch := (first | exact vz | fail)) only [go_sem, ]
      refine (writeByte_ok hB3 hf' hb' (by simp; omega)).mono ?_
      rintro _ m4 ⟨rfl, hB4⟩
      simp -implicitDefEqProofs -dsimp (disch := (first | exact vz | fail)) only [go_sem, ]
      refine ⟨s.length - (i + 1), by omega, i + 1, rfl, by omega, ?_, rfl⟩
      rw [ofNat_u8 (by omega), ofNat_u8 (by omega)] at hB4
      rw [enc_take hi', encB, if_neg hp]; simpa using hB4
  · rename_i hlt
    refine (writeByte_ok (c := 34) hB hf' hb' (by simp; omega)).mono ?_
    rintro _ m2 ⟨rfl, hB2⟩
    simp -implicitDefEqProofs -dsimp (disch := (first | exact vz | fail)) only [go_sem, ]
    refine (string_ok hB2 hf' hb' (by simp; omega) (by simp)).mono ?_
    rintro _ m3 rfl
    simp -implicitDefEqProofs -dsimp (disch := (first | exact vz | fail)) only [go_sem, ]
    rw [List.take_of_length_le (by omega)]; rfl
theorem take1 {l : List UInt8} {i : Nat} (h : i < l.length) : (l.drop i).take (i + 1 - i) = [l[i]] := by
  rw [show i + 1 - i = 1 by omega, List.drop_eq_getElem_cons h]; rfl
theorem hexSl : ∀ a < 16, (([48, 49, 50, 51, 52, 53, 54, 55, 56, 57, 97, 98, 99, 100, 101, 102] : List UInt8).drop a).take (a + 1 - a) = [hexd a] := by decide
theorem tdiv16 (n : Nat) : (n : Int).tdiv 16 = ((n / 16 : Nat) : Int) := tdivN n 16
theorem tmod16 (n : Nat) : (n : Int).tmod 16 = ((n % 16 : Nat) : Int) := tmodN n 16
theorem refQuote_ok (s : List UInt8) (hs : s.length ≤ 1000000000) (hf : Fits en m.length) : WC Tryz.prog pol en (.func 85) [tx s] m fun v m' => v = tx (quoteL s) ∧ m' = m := by
  refine callPur Tryz.func85 rfl rfl Tryz.ntmps85 Tryz.results85 ?_
  simp -implicitDefEqProofs -dsimp (disch := (first | exact vz | fail)) only [go_sem, ]
  refine loopF (fun k ts m' => ∃ i : Nat, ts.length = 54 ∧ tg ts 0 = tx s ∧ tg ts 3 = tx (34 :: qencL (s.take i)) ∧ tg ts 4 = I i ∧ i ≤ s.length ∧ m' = m ∧ k = s.length - i) s.length ⟨0, rfl, rfl, rfl, rfl, by omega, rfl, by omega⟩ ?_
  rintro k ts m' ⟨i, hl, h0, h3, h4, hi, rfl, hk⟩
  rw [expandT hl]
  have hel := enc_len (s.take i)
  have htl : (s.take i).length = i := by simp; omega
  simp -implicitDefEqProofs -dsimp (disch := (first | exact vz | fail)) only [go_sem, h0, h3, h4]
  split
  · rename_i hlt
    have hi' : i < s.length := by omega
    have hlt8 := s[i].toNat_lt
    by_cases hp : plainB s[i] = true
    · obtain ⟨h1, h2, h5, h6⟩ : (33 : Int) ≤ (s[i].toNat : Int) ∧ (s[i].toNat : Int) ≤ 126 ∧ (s[i].toNat : Int) ≠ 34 ∧ (s[i].toNat : Int) ≠ 37 := by simp [plainB] at hp; omega
      simp -implicitDefEqProofs -dsimp (disch := (first | exact vz | fail)) only [go_sem, h1, h2, eq_true h5, eq_true h6, take1 hi']
      refine ⟨s.length - (i + 1), by omega, i + 1, ?_⟩
      refine ⟨by rw [enc_take hi', encB, if_pos hp], rfl, by omega, rfl⟩
    · have hq : ¬ ((33 : Int) ≤ (s[i].toNat : Int)) ∨ ((33 : Int) ≤ (s[i].toNat : Int) ∧ ¬ (s[i].toNat : Int) ≤ 126) ∨ ((33 : Int) ≤ (s[i].toNat : Int) ∧ (s[i].toNat : Int) ≤ 126 ∧ ¬ (s[i].toNat : Int) ≠ 34) ∨ ((33 : Int) ≤ (s[i].toNat : Int) ∧ (s[i].toNat : Int) ≤ 126 ∧ (s[i].toNat : Int) ≠ 34 ∧ ¬ (s[i].toNat : Int) ≠ 37) := by simp [plainB] at hp; omega
      have e1 := hexSl (s[i].toNat / 16) (by omega)
      have e2 := hexSl (s[i].toNat % 16) (by omega)
      rcases hq with h1 | ⟨h1, h2⟩ | ⟨h1, h2, h5⟩ | ⟨h1, h2, h5, h6⟩
      · simp -implicitDefEqProofs -dsimp (disch := (first | exact vz | fail)) only [go_sem, h1, tdiv16, tmod16, e1, e2]
        refine ⟨by kernel_rfl, by kernel_rfl, ?_⟩
        refine ⟨s.length - (i + 1), by omega, i + 1, ?_⟩
        refine ⟨by rw [enc_take hi', encB, if_neg hp], rfl, by omega, rfl⟩
      · simp -implicitDefEqProofs -dsimp (disch := (first | exact vz | fail)) only [go_sem, h1, h2, tdiv16, tmod16, e1, e2]
        refine ⟨by kernel_rfl, by kernel_rfl, ?_⟩
        refine ⟨s.length - (i + 1), by omega, i + 1, ?_⟩
        refine ⟨by rw [enc_take hi', encB, if_neg hp], rfl, by omega, rfl⟩
      · simp -implicitDefEqProofs -dsimp (disch := (first | exact vz | fail)) only [go_sem, h1, h2, h5, tdiv16, tmod16, e1, e2]
        refine ⟨by kernel_rfl, by kernel_rfl, ?_⟩
        refine ⟨s.length - (i + 1), by omega, i + 1, ?_⟩
        refine ⟨by rw [enc_take hi', encB, if_neg hp], rfl, by omega, rfl⟩
      · simp -implicitDefEqProofs -dsimp (disch := (first | exact vz | fail)) only [go_sem, h1, h2, eq_true h5, h6, tdiv16, tmod16, e1, e2]
        refine ⟨by kernel_rfl, by kernel_rfl, ?_⟩
        refine ⟨s.length - (i + 1), by omega, i + 1, ?_⟩
        refine ⟨by rw [enc_take hi', encB, if_neg hp], rfl, by omega, rfl⟩
  · rename_i hlt
    rw [List.take_of_length_le (by omega)]; rfl
end
end Go.Proofs.YtcmjidnbbfcbjaaGreatDoor.V
/- What is in quotes, of the program; no condition. -/
namespace Go.Proofs.YtcmjidnbbfcbjaaGreatDoor.V
open Go
set_option linter.unusedVariables false
set_option linter.unusedSimpArgs false
set_option maxRecDepth 100000
set_option maxHeartbeats 4000000
noncomputable section
variable {en : Env} {m : Mem}
theorem Row.str {m0 m : Mem} {l : List UInt8} {v : AV} (h : Row u8v m0 l v m) {P : Program} {pol : Pol} {e : TypeId} {g : Option Req} {k : Req → AV → Mem → Prop} (he : P.underlying e = some (.int .u8)) (hk : ∀ r, k r (tx l) m) : WOf P pol en (convR P (some (kv v)) (some (.slice e)) (some .string) g) m k := by
  unfold kv
  rcases h with ⟨rfl, rfl, rfl⟩ | ⟨ver, rfl, rfl⟩
  · rw [convR_ofN, he]; exact hk _
  · rw [convR_ofO, he]
    show WOf P pol en (some (.bstr m0.length ver 0 l.length)) _ _
    rw [WOf_bstr, getM0, List.getElem?_cons_zero, cellsQ_some]
    refine ⟨rfl, by simp, l, ?_, hk _⟩
    rw [List.drop_zero, List.take_of_length_le (by simp)]
    exact bytesOf_u8L l
theorem pre_one {a : UInt8} {s : List UInt8} (h : isPre [a] s = true) : ∃ t, s = a :: t := by
  simp only [isPre, decide_eq_true_eq] at h
  cases s with
  | nil => simp at h
  | cons b t => simp at h; exact ⟨t, by rw [h]⟩
theorem suf_one {a : UInt8} {s : List UInt8} (h : isSuf [a] s = true) : ∃ t, s = t ++ [a] := by
  simp only [isSuf, decide_eq_true_eq] at h
  exact ⟨s.take (s.length - 1), by rw [← h]; exact (List.take_append_drop _ _).symm⟩
/-- What is in quotes. -/
def unqL (s : List UInt8) : Option (List UInt8) := if isPre [34] s = true ∧ isSuf [34] (s.drop 1) = true then decL (s.drop 1).dropLast else none
theorem unqL_some (u : List UInt8) : unqL (34 :: (u ++ [34])) = decL u := by
  unfold unqL
  rw [if_pos ⟨by simp [isPre], by simp [isSuf]⟩]
  simp
def ansO (o : Option (List UInt8)) : AV := match o with | some l => .tup [tx l, I 0] | none => .tup [tx [], I 3]
theorem enc_ge (l : List UInt8) : l.length ≤ (qencL l).length := by
  induction l with
  | nil => simp
  | cons c out ih =>
    show _ ≤ (encB c ++ qencL out).length
    have : 0 < (encB c).length := by unfold encB; split <;> simp
    simp only [List.length_append, List.length_cons]; omega
theorem dec_len {l out : List UInt8} (h : decL l = some out) : out.length ≤ l.length := by
  obtain ⟨_, h2⟩ := dec_lax _ (Nat.le_refl _) h
  rw [← h2]; exact enc_ge out
/-- The rest, once a part is read. -/
def decR (l : List UInt8) (i : Nat) (out : List UInt8) : Option (List UInt8) := (decL (l.drop i)).map (out ++ ·)
theorem valN_some {a : UInt8} {x : Nat} (h : valB a = some x) : valN a.toNat = .tup [.sc (.int .u8 (x : Int)), .sc (.bool true)] := by
  unfold valB at h; unfold valN
  split at h
  · rename_i hc; cases h; rw [if_pos hc]
  · rename_i hc
    split at h
    · rename_i hc2; cases h; rw [if_neg hc, if_pos hc2]
    · cases h
theorem valN_none {a : UInt8} (h : valB a = none) : valN a.toNat = .tup [.sc (.int .u8 0), .sc (.bool false)] := by
  unfold valB at h; unfold valN
  split at h
  · cases h
  · rename_i hc
    split at h
    · cases h
    · rename_i hc2; rw [if_neg hc, if_neg hc2]
theorem hexOr : ∀ x < 16, ∀ y < 16, orK .u8 (shlK .u8 ((x : Nat) : Int) 4) ((y : Nat) : Int) = ((x * 16 + y : Nat) : Int) := by decide
theorem unquote_ok (s : List UInt8) (hs : s.length ≤ 1000000000) (hf : Fits en m.length) : WC Tryz.prog pol en (.func 90) [tx s] m fun v m' => v = ansO (unqL s) ∧ m' = m := by
  refine callPur Tryz.func90 rfl rfl Tryz.ntmps90 Tryz.results90 ?_
  have hf' : Fits (en' en m) m.length := hf.pur
  have hb' : (en' en m).bar ≤ m.length := Nat.le_refl _
  simp -implicitDefEqProofs -dsimp (disch := (first | exact vz | fail)) only [go_sem, ]
  refine (cutPrefix_ok s [34] (by omega) (by simp)).eq ?_
  by_cases hp : isPre [34] s = true
  · obtain ⟨t, rfl⟩ := pre_one hp
    simp -implicitDefEqProofs -dsimp (disch := (first | exact vz | fail)) only [go_sem, hp]
    simp only [List.length_cons] at hs
    refine (hasSuffix_ok t [34] (by omega) (by simp)).eq ?_
    by_cases hq : isSuf [34] t = true
    · obtain ⟨u, rfl⟩ := suf_one hq
      rw [unqL_some]
      simp only [List.length_append, List.length_cons, List.length_nil] at hs
      have htk : (u ++ [34]).take (((u.length + 1 : Nat) : Int) - 1).toNat = u := by
        rw [show (((u.length + 1 : Nat) : Int) - 1).toNat = u.length by omega]; simp
      simp -implicitDefEqProofs -dsimp (disch := (first | exact vz | fail)) only [go_sem, hq, htk]
      refine ⟨rfl, ?_⟩
      refine loopF (fun k ts m' => ∃ (i : Nat) (v : AV) (out : List UInt8), ts.length = 90 ∧ tg ts 4 = tx u ∧ tg ts 6 = kv v ∧ tg ts 7 = I i ∧ i ≤ u.length ∧ Row u8v m out v m' ∧ out.length ≤ i ∧ decR u i out = decL u ∧ k = u.length - i) u.length ⟨0, .own m.length tU 0 0 1, [], rfl, rfl, rfl, rfl, by omega, Or.inr ⟨tU, rfl, rfl⟩, by simp, by simp [decR], by omega⟩ ?_
      rintro k ts m' ⟨i, v, out, hl, h4, h6, h7, hi, hr, ho, hd, hk⟩
      rw [expandT hl]
      simp -implicitDefEqProofs -dsimp (disch := (first | exact vz | fail)) only [go_sem, h4, h6, h7]
      split
      · rename_i hlt
        have hi' : i < u.length := by omega
        have hdr : u.drop i = u[i] :: u.drop (i + 1) := List.drop_eq_getElem_cons hi'
        have hlt8 := u[i].toNat_lt
        have hwr : IntKind.i64.wrap ((i : Int) + 1) = ((i + 1 : Nat) : Int) := IntWalk.i64_in _ (by omega)
        by_cases hc : u[i] = 37
        · have hcn : (u[i].toNat : Int) = 37 := by rw [hc]; rfl
          simp -implicitDefEqProofs -dsimp (disch := (first | exact vz | fail)) only [go_sem, hcn]
          by_cases h3 : (u.length : Int) - (i : Int) < 3
          · simp -implicitDefEqProofs -dsimp (disch := (first | exact vz | fail)) only [go_sem, h3]
            have : decL u = none := by
              rw [← hd, decR, hdr, hc]
              cases hq1 : u.drop (i + 1) with
              | nil => rw [dec_0]; rfl
              | cons a l => cases l with
                | nil => rw [dec_1]; rfl
                | cons b l => have := congrArg List.length hq1; simp at this; omega
            rw [this]; rfl
          · have hi1 : i + 1 < u.length := by omega
            have hi2 : i + 2 < u.length := by omega
            have hdr2 : u.drop i = 37 :: u[i + 1] :: u[i + 2] :: u.drop (i + 3) := by
              rw [hdr, hc, List.drop_eq_getElem_cons hi1, List.drop_eq_getElem_cons hi2]
            simp -implicitDefEqProofs -dsimp (disch := (first | exact vz | fail)) only [go_sem, h3, hwr]
            refine (value_ok u[i + 1]).eq ?_
            have hnone : (valB u[i + 1] = none ∨ valB u[i + 2] = none) → decL u = none := by
              intro h
              rw [← hd, decR, hdr2, dec_h]
              rcases h with h | h <;> rw [h]
              · rfl
              · cases valB u[i + 1] <;> rfl
            cases hx : valB u[i + 1] with
            | none =>
              rw [valN_none hx]
              simp -implicitDefEqProofs -dsimp (disch := (first | exact vz | fail)) only [go_sem, hwr]
              refine (value_ok u[i + 2]).eq ?_
              cases hy : valB u[i + 2] with
              | none =>
                rw [valN_none hy]
                simp -implicitDefEqProofs -dsimp (disch := (first | exact vz | fail)) only [go_sem, ]
                rw [hnone (.inl hx)]; rfl
              | some y =>
                rw [valN_some hy]
                simp -implicitDefEqProofs -dsimp (disch := (first | exact vz | fail)) only [go_sem, ]
                rw [hnone (.inl hx)]; rfl
            | some x =>
              rw [valN_some hx]
              simp -implicitDefEqProofs -dsimp (disch := (first | exact vz | fail)) only [go_sem, hwr]
              refine (value_ok u[i + 2]).eq ?_
              cases hy : valB u[i + 2] with
              | none =>
                rw [valN_none hy]
                simp -implicitDefEqProofs -dsimp (disch := (first | exact vz | fail)) only [go_sem, ]
                rw [hnone (.inr hy)]; rfl
              | some y =>
                rw [valN_some hy]
                have hx16 := (valB_lt hx).1
                have hy16 := (valB_lt hy).1
                have hxy : ((x * 16 + y : Nat) : Int) = ((UInt8.ofNat (x * 16 + y)).toNat : Int) := by rw [ofNat_u8 (by omega)]
                simp -implicitDefEqProofs -dsimp (disch := (first | exact vz | fail)) only [go_sem, hexOr x hx16 y hy16, hxy]
                refine (plain_ok (UInt8.ofNat (x * 16 + y))).eq ?_
                by_cases hp2 : plainB (UInt8.ofNat (x * 16 + y)) = true
                · simp -implicitDefEqProofs -dsimp (disch := (first | exact vz | fail)) only [go_sem, hp2]
                  have : decL u = none := by rw [← hd, decR, hdr2, dec_h, hx, hy]; simp only; rw [if_pos hp2]; rfl
                  rw [this]; rfl
                · simp -implicitDefEqProofs -dsimp (disch := (first | exact vz | fail)) only [go_sem, hp2]
                  refine hr.app (UInt8.ofNat (x * 16 + y)) hf' hb' (by omega) fun r v' m2 hr2 => ?_
                  have hw3 : IntKind.i64.wrap ((i : Int) + 2 + 1) = ((i + 3 : Nat) : Int) := IntWalk.i64_in _ (by omega)
                  simp -implicitDefEqProofs -dsimp (disch := (first | exact vz | fail)) only [go_sem, hw3]
                  refine ⟨u.length - (i + 3), by omega, i + 3, v', out ++ [UInt8.ofNat (x * 16 + y)], ?_⟩
                  refine ⟨rfl, rfl, by omega, hr2, by simp; omega, ?_, rfl⟩
                  rw [← hd, decR, decR, hdr2, dec_h, hx, hy]
                  simp only
                  rw [if_neg hp2]
                  cases decL (u.drop (i + 3)) <;> simp
        · have hcn : ¬ ((u[i].toNat : Int) = 37) := fun h => hc (UInt8.toNat.inj (by show u[i].toNat = 37; omega))
          simp -implicitDefEqProofs -dsimp (disch := (first | exact vz | fail)) only [go_sem, hcn]
          refine (plain_ok u[i]).eq ?_
          by_cases hp2 : plainB u[i] = true
          · simp -implicitDefEqProofs -dsimp (disch := (first | exact vz | fail)) only [go_sem, hp2]
            refine hr.app u[i] hf' hb' (by omega) fun r v' m2 hr2 => ?_
            simp -implicitDefEqProofs -dsimp (disch := (first | exact vz | fail)) only [go_sem, ]
            refine ⟨u.length - (i + 1), by omega, i + 1, v', out ++ [u[i]], ?_⟩
            refine ⟨rfl, rfl, by omega, hr2, by simp; omega, ?_, rfl⟩
            rw [← hd, decR, decR, hdr, dec_c hc, if_pos hp2]
            cases decL (u.drop (i + 1)) <;> simp
          · simp -implicitDefEqProofs -dsimp (disch := (first | exact vz | fail)) only [go_sem, hp2]
            have : decL u = none := by rw [← hd, decR, hdr, dec_c hc, if_neg hp2]; rfl
            rw [this]; rfl
      · rename_i hlt
        refine hr.str Tryz.underlying5 fun r => ?_
        simp -implicitDefEqProofs -dsimp (disch := (first | exact vz | fail)) only [go_sem, ]
        have : decL u = some out := by rw [← hd, decR, List.drop_eq_nil_of_le (by omega)]; simp [decL]
        rw [this]; rfl
    · have : unqL (34 :: t) = none := by unfold unqL; rw [if_neg (fun h => hq h.2)]
      rw [this]
      simp -implicitDefEqProofs -dsimp (disch := (first | exact vz | fail)) only [go_sem, hq]
      rfl
  · have : unqL s = none := by unfold unqL; rw [if_neg (fun h => hp h.1)]
    rw [this]
    simp -implicitDefEqProofs -dsimp (disch := (first | exact vz | fail)) only [go_sem, hp]
    rfl
end
end Go.Proofs.YtcmjidnbbfcbjaaGreatDoor.V
