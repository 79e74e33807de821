/- Parts of the proof, joined (V10, V11, V12); no condition. -/
import Derived.Test.YtcmjidnbbfcbjaaGreatDoorMaa
/- What an operation asks of the VM's store is what it does to the model's memory: builtins; no condition. -/
namespace Go.Proofs.YtcmjidnbbfcbjaaGreatDoor.V
open Go
set_option linter.unusedVariables false
set_option linter.unusedSimpArgs false
variable {P : Program} {pol : Pol}

theorem call_run {c : Call} {b : Builtin} (hc : c.callee = .builtin b) {o : Oper} (ho : o.op = .call c) (ρc : Operand → Value) (w : World) :
    (execOp ρc o).run P w = (builtin b c.argTypes o.type (c.args.map fun | .const _ => true | _ => false) (c.args.map ρc)).run P w := by
  simp only [execOp, ho, resolve, hc]
  rfl

theorem rd_len {m : Mem} {id ver off n : Nat} {cs : List AV} (h : rd m id ver off n = some cs) : cs.length = n := by
  unfold rd at h
  split at h
  · split at h
    · cases h; simp; omega
    · cases h
  · cases h
/-- What is appended: the cells of a slice or a string, or so many zeros. -/
def Apps (P : Program) (d : TypeDesc) (ie : TypeInfo) (z : Value) (n : Nat) (x : Value) (hp : Array Obj) (news : List Value) : Prop :=
  ((d matches .int _) = false ∧ (∀ w, (Builtin.lenOf x).run P w = .ok n w) ∧ ∀ w : World, w.heap = hp → (Builtin.firstCells ie.size n x).run P w = .ok news.toArray w) ∨
  ((∃ k, d = .int k) ∧ x = .int .i64 n ∧ n ≤ 2 ^ 32 ∧ news.toArray = if n * ie.size = 0 then #[] else Builtin.zeroCells z.cells n)
/-- What is appended, as it lies. -/
def SrcOk (P : Program) (E : En) (d : TypeDesc) (ie : TypeInfo) (z : Value) (n : Nat) (ys : List AV) (u : Value) : Prop :=
  ∃ news, RepL E ys news ∧ ys.all AV.leaf = true ∧ news.length = n * ie.size ∧ Apps P d ie z n u E.w.heap news
theorem cell_heap {w w' : World} (h : w'.heap = w.heap) (a : Addr) : w'.cell? a = w.cell? a := by unfold World.cell?; rw [h]
theorem src_len {E : En} {v : AV} {u : Value} {src : Src} (h : srcOf v = some src) (hr : Rep E v u) (w : World) : (Builtin.lenOf u).run P w = .ok src.n w := by
  unfold srcOf at h
  split at h <;> first
    | (cases h; done)
    | (cases h; simp only [Rep] at hr)
  · subst hr; rfl
  · obtain ⟨a, cap, us, rfl, _⟩ := hr; rfl
  · obtain ⟨a, cap, rfl, _⟩ := hr; rfl
  · obtain ⟨rfl, _⟩ := hr; rfl
theorem first_none {E : En} {v : AV} {u : Value} {src : Src} (h : srcOf v = some src) (hr : Rep E v u) (esz : Nat) (w : World) : (Builtin.firstCells esz 0 u).run P w = .ok #[] w := by
  unfold srcOf at h
  split at h <;> first
    | (cases h; done)
    | (cases h; simp only [Rep] at hr)
  · subst hr; rfl
  · obtain ⟨a, cap, us, rfl, _⟩ := hr; simp [Builtin.firstCells, loadCells, loadCellsFrom]
  · obtain ⟨a, cap, rfl, _⟩ := hr; simp [Builtin.firstCells, loadCells, loadCellsFrom]
  · obtain ⟨rfl, _⟩ := hr; simp [Builtin.firstCells]
theorem src_n {m : Mem} {esz n : Nat} {src : Src} {ys : List AV} (hs : srcCells m esz src = some (n, ys)) : n = src.n := by
  unfold srcCells at hs
  split at hs
  · split at hs
    · cases hs; rfl
    · cases hs
  · split at hs
    · simp only [Option.map_eq_some_iff, Prod.mk.injEq] at hs
      obtain ⟨_, _, rfl, _⟩ := hs; rfl
    · cases hs
theorem src_ok {E : En} (hM : MI pol E) {v : AV} {u : Value} {src : Src} (h : srcOf v = some src) (hr : Rep E v u) {esz n : Nat} {ys : List AV} (hs : srcCells E.m esz src = some (n, ys)) : n = src.n ∧ (∀ w, (Builtin.lenOf u).run P w = .ok n w) ∧ ∃ news, RepL E ys news ∧ ys.all AV.leaf = true ∧ news.length = n * esz ∧ ∀ w, w.heap = E.w.heap → (Builtin.firstCells esz n u).run P w = .ok news.toArray w := by
  have hl := fun w => src_len (P := P) h hr w
  unfold srcOf at h
  split at h <;> first
    | (cases h; done)
    | (cases h; simp only [Rep] at hr)
  · subst hr
    simp only [srcCells] at hs
    split at hs
    · cases hs; exact ⟨rfl, hl, [], RepL.nil, rfl, by simp, fun w _ => rfl⟩
    · cases hs
  · rename_i n' cs cl
    obtain ⟨a, cap, us, rfl, hn, hsp, _, hf, hl', hh⟩ := hr
    simp only [srcCells] at hs
    split at hs
    case isFalse => cases hs
    rename_i hlen
    cases hs
    refine ⟨rfl, hl, us, hl', hf, by rw [← hl'.length]; exact hlen, fun w hw => ?_⟩
    have : (loadCells a us.length).run P w = .ok us.toArray w := run_loadCells_list (P := P) w a us fun j v hj => by
      have hul : 0 < us.length := Nat.lt_of_le_of_lt (Nat.zero_le j) (List.getElem?_eq_some_iff.1 hj).1
      rw [← hl'.length, hlen] at hul
      have hn0 : 0 < n := by
        rcases Nat.eq_zero_or_pos n with h0 | h0
        · rw [h0, Nat.zero_mul] at hul; omega
        · exact h0
      rw [cell_heap hw, addr_add' a (hsp.resolve_right (by omega))]; exact (hh j v hj).2
    simp only [Builtin.firstCells]
    rw [← hlen, hl'.length]; exact this
  · rename_i id ver off len e
    simp only [srcCells] at hs
    split at hs
    case isFalse => cases hs
    rename_i he
    subst he
    simp only [Option.map_eq_some_iff, Prod.mk.injEq] at hs
    obtain ⟨cs, hcs, rfl, rfl⟩ := hs
    obtain ⟨a, cap, rfl, hn, ver', cs', hm, hle, hv⟩ := hr
    have hrd := hcs
    unfold rd at hrd
    rw [lget_eq, hm] at hrd
    simp only at hrd
    split at hrd
    case isFalse => cases hrd
    rename_i hc
    obtain ⟨hve, hle2⟩ := hc
    cases hrd
    obtain ⟨h1, B, p, hB, hcap, hbs⟩ := hv hve.symm
    obtain ⟨c, t, fz, us, k1, k2, k3, k4, _⟩ := obj_cells hM hm hB
    refine ⟨rfl, hl, (us.drop off).take (len * e), (k3.drop off).take _, all_take (all_drop k2 _) _, by have := k3.length; simp; omega, fun w hw => ?_⟩
    have hlen : ((us.drop off).take (len * e)).length = len * e := by have := k3.length; simp; omega
    have : (loadCells a ((us.drop off).take (len * e)).length).run P w = .ok ((us.drop off).take (len * e)).toArray w := run_loadCells_list (P := P) w a _ fun j v hj => by
      rw [cell_heap hw]
      simp only [List.getElem?_take, List.getElem?_drop] at hj
      split at hj
      · rename_i hjl
        rcases hcap with ⟨h0, _⟩ | rfl
        · have : len = 0 := by omega
          subst this; simp at hjl
        · rw [addr_add, cell_of k1]; have := k4 _ _ hj; rw [← this]; congr 1; omega
      · cases hj
    simp only [Builtin.firstCells]
    rw [hlen] at this; exact this
  · rename_i s
    obtain ⟨rfl, _⟩ := hr
    simp only [srcCells] at hs
    split at hs
    case isFalse => cases hs
    rename_i hlen
    cases hs
    refine ⟨rfl, hl, s.data.toList.map fun b => .int .u8 b.toNat, ?_, ?_, ?_, fun w _ => ?_⟩
    · generalize s.data.toList = l
      induction l with
      | nil => exact RepL.nil
      | cons b l ih => exact RepL.cons (by simp [Rep, scalar]) ih
    · rw [List.all_eq_true]; intro x hx; obtain ⟨b, _, rfl⟩ := List.mem_map.1 hx; rfl
    · simpa using hlen
    · simp [Builtin.firstCells]
      have : (s.extract 0 s.size).data = s.data := by simp
      apply Array.ext'
      simp

/-- The first ones of what is copied. -/
theorem src_some {E : En} (hM : MI pol E) {v : AV} {u : Value} {src : Src} (h : srcOf v = some src) (hr : Rep E v u) {esz n k : Nat} {ys : List AV} (hk : k ≤ n) (hs : srcCells E.m esz src = some (n, ys)) :
    ∃ news, RepL E (ys.take (k * esz)) news ∧ (ys.take (k * esz)).all AV.leaf = true ∧ (ys.take (k * esz)).length = k * esz ∧ (Builtin.firstCells esz k u).run P E.w = .ok news.toArray E.w := by
  have hke : k * esz ≤ n * esz := Nat.mul_le_mul_right _ hk
  unfold srcOf at h
  split at h <;> first
    | (cases h; done)
    | (cases h; simp only [Rep] at hr)
  · subst hr
    simp only [srcCells] at hs
    split at hs
    · cases hs
      obtain rfl : k = 0 := by omega
      exact ⟨[], by simp [RepL], by simp, by simp, rfl⟩
    · cases hs
  · rename_i n' cs cl
    obtain ⟨a, cap, us, rfl, hn, hsp, _, hf, hl', hh⟩ := hr
    simp only [srcCells] at hs
    split at hs
    case isFalse => cases hs
    rename_i hlen
    cases hs
    have hul := hl'.length
    have htl : (us.take (k * esz)).length = k * esz := by simp; omega
    refine ⟨us.take (k * esz), hl'.take _, all_take hf _, by simp; omega, ?_⟩
    have : (loadCells a (us.take (k * esz)).length).run P E.w = .ok (us.take (k * esz)).toArray E.w := run_loadCells_list (P := P) E.w a _ fun j v hj => by
      have hj' : us[j]? = some v := by rw [List.getElem?_take] at hj; split at hj; exact hj; cases hj
      have hul0 : 0 < us.length := Nat.lt_of_le_of_lt (Nat.zero_le j) (List.getElem?_eq_some_iff.1 hj').1
      rw [← hul, hlen] at hul0
      have hn0 : 0 < n := by
        rcases Nat.eq_zero_or_pos n with h0 | h0
        · rw [h0, Nat.zero_mul] at hul0; omega
        · exact h0
      rw [addr_add' a (hsp.resolve_right (by omega))]; exact (hh j v hj').2
    simp only [Builtin.firstCells]
    rw [htl] at this; exact this
  · rename_i id ver off len e
    simp only [srcCells] at hs
    split at hs
    case isFalse => cases hs
    rename_i he
    subst he
    simp only [Option.map_eq_some_iff, Prod.mk.injEq] at hs
    obtain ⟨cs, hcs, rfl, rfl⟩ := hs
    obtain ⟨a, cap, rfl, hn, ver', cs', hm, hle, hv⟩ := hr
    have hrd := hcs
    unfold rd at hrd
    rw [lget_eq, hm] at hrd
    simp only at hrd
    split at hrd
    case isFalse => cases hrd
    rename_i hc
    obtain ⟨hve, hle2⟩ := hc
    cases hrd
    obtain ⟨h1, B, p, hB, hcap, hbs⟩ := hv hve.symm
    obtain ⟨c, t, fz, us, k1, k2, k3, k4, _⟩ := obj_cells hM hm hB
    have hul := k3.length
    have hlen : (((us.drop off).take (len * e)).take (k * e)).length = k * e := by simp; omega
    refine ⟨((us.drop off).take (len * e)).take (k * e), ((k3.drop off).take _).take _, all_take (all_take (all_drop k2 _) _) _, by simp; omega, ?_⟩
    have : (loadCells a (((us.drop off).take (len * e)).take (k * e)).length).run P E.w = .ok (((us.drop off).take (len * e)).take (k * e)).toArray E.w := run_loadCells_list (P := P) E.w a _ fun j v hj => by
      simp only [List.getElem?_take, List.getElem?_drop] at hj
      split at hj
      case isFalse => cases hj
      split at hj
      · rename_i hjl
        rcases hcap with ⟨h0, _⟩ | rfl
        · have : len = 0 := by omega
          subst this; simp at hjl
        · rw [addr_add, cell_of k1]; have := k4 _ _ hj; rw [← this]; congr 1; omega
      · cases hj
    simp only [Builtin.firstCells]
    rw [hlen] at this; exact this
  · rename_i s
    obtain ⟨rfl, _⟩ := hr
    simp only [srcCells] at hs
    split at hs
    case isFalse => cases hs
    rename_i hlen
    cases hs
    have hsl : s.data.toList.length = s.size * esz := by simpa using hlen
    have he1 : s.size = 0 ∨ esz = 1 := by
      have h2 : s.data.toList.length = s.size := by simp
      rcases Nat.eq_zero_or_pos s.size with h0 | h0
      · exact .inl h0
      · right
        have : s.size * esz = s.size * 1 := by omega
        exact Nat.eq_of_mul_eq_mul_left h0 this
    have hkk : k * esz = k := by
      rcases he1 with h0 | h0
      · have : k = 0 := by omega
        rw [this, Nat.zero_mul]
      · rw [h0, Nat.mul_one]
    rw [hkk]
    have hb : ∀ l : List UInt8, RepL E (l.map fun b => AV.sc (.int .u8 b.toNat)) (l.map fun b => Value.int .u8 b.toNat) := fun l => by
      induction l with
      | nil => exact RepL.nil
      | cons b l ih => exact RepL.cons (by simp [Rep, scalar]) ih
    refine ⟨(s.data.toList.take k).map fun b => .int .u8 b.toNat, ?_, ?_, ?_, ?_⟩
    · rw [← List.map_take]; exact hb _
    · rw [← List.map_take, List.all_eq_true]; intro x hx; obtain ⟨b, _, rfl⟩ := List.mem_map.1 hx; rfl
    · simp; exact Nat.min_eq_left hk
    · simp [Builtin.firstCells]
      apply Array.ext'
      simp

/-- An append that makes a new row. -/
theorem append_grow {t t1 e ty : TypeId} {d : TypeDesc} {ats : Array TypeId} {ie : TypeInfo} {z : Value} {base : Option Addr} {sLen sCap n : Nat} {x : Value} {olds news : List Value} (w : World)
    (h0 : ats[0]? = some t) (h1 : ats[1]? = some t1) (ht : P.underlying t = some (.slice e)) (ht1 : P.underlying t1 = some d) (hi : P.info? e = some ie) (hz : ie.zero = some z)
    (hx : Apps P d ie z n x w.heap news)
    (holds : ∀ w', w'.heap = w.heap → (Builtin.firstCells ie.size sLen (.slice base sLen sCap)).run P w' = .ok olds.toArray w')
    (hg : sCap < sLen + n) (hr : sLen + n ≤ 2 ^ 32) (hb : ie.bytes ≤ 1024) :
    (Builtin.append_ ats ty #[.slice base sLen sCap, x]).run P w =
      .ok (.slice (some ⟨w.heap.size, 0, none⟩) (sLen + n) (grownCap w (sLen + n) sCap e))
        { w.drew with heap := w.heap.push (.cells (olds ++ news ++ (Builtin.zeroCells z.cells (grownCap w (sLen + n) sCap e - (sLen + n))).toList).toArray e) } := by
  have hn : ¬ (sLen + n ≤ sCap) := by omega
  have h63 : ¬ (9223372036854775807 < ((sLen : Int) + (n : Int))) := by omega
  have h48 : ¬ (281474976710656 < Builtin.nextslicecap (sLen + n) sCap * ie.bytes) := by
    have := growslice_fits (bytes := ie.bytes) hg (by
      have : (sLen + n) * ie.bytes ≤ 2 ^ 32 * 1024 := Nat.mul_le_mul hr hb
      omega)
    omega
  have ho' := holds w.drew rfl
  have key : ∀ Z : Array Value, olds.toArray ++ (news.toArray ++ Z) = (olds ++ (news ++ Z.toList)).toArray := fun Z => by apply Array.ext'; simp
  rcases hx with ⟨hd, hlen, hnews⟩ | ⟨⟨k, rfl⟩, rfl, hn2, hnews⟩
  · have hn' := hnews w.drew rfl
    have hdd : ∀ k, d = TypeDesc.int k → False := fun k e => by subst e; simp at hd
    clear hd
    unfold Builtin.append_
    simp [h0, h1, run_underlying ht, run_underlying ht1, hdd, sizeOf, typeInfo, zeroValue, hi, hz, hlen, hn, h63, h48, Question.forced, hn', ho', newRow, grownCap]
    rw [key]; rfl
  · have hw : IntKind.i64.wrap (n : Int) = n := by simp [IntKind.wrap, IntKind.bits, IntKind.signed]; omega
    have hneg : ¬ (n : Int) < 0 := by omega
    have hbig : ¬ (281474976710656 < (n : Int) * (ie.bytes : Int)) := by
      have : n * ie.bytes ≤ 2 ^ 32 * 1024 := Nat.mul_le_mul hn2 hb
      have h2 : ((n * ie.bytes : Nat) : Int) = (n : Int) * (ie.bytes : Int) := by simp
      omega
    have hsz : ∀ z0 : Array Value, (if n * ie.size = 0 then (pure #[] : Sem (Array Value)) else pure z0) = pure (if n * ie.size = 0 then #[] else z0) := fun z0 => by split <;> rfl
    by_cases h00 : n * ie.size = 0
    · rw [if_pos h00] at hnews
      have h000 : n = 0 ∨ ie.size = 0 := Nat.mul_eq_zero.1 h00
      have e0 : news = [] := by simpa using hnews
      subst e0
      unfold Builtin.append_
      simp [h0, h1, run_underlying ht, run_underlying ht1, sizeOf, typeInfo, zeroValue, hi, hz, asInt, asIntOf, hw, hneg, hbig, hn, h63, h48, Question.forced, ho', newRow, grownCap, h000]
      have key0 : ∀ Z : Array Value, olds.toArray ++ Z = (olds ++ Z.toList).toArray := fun Z => by apply Array.ext'; simp
      rw [if_pos h00, key0]; rfl
    · rw [if_neg h00] at hnews
      have h000 : ¬ (n = 0 ∨ ie.size = 0) := fun h => h00 (Nat.mul_eq_zero.2 h)
      unfold Builtin.append_
      simp [h0, h1, run_underlying ht, run_underlying ht1, sizeOf, typeInfo, zeroValue, hi, hz, asInt, asIntOf, hw, hneg, hbig, hn, h63, h48, Question.forced, ho', newRow, grownCap, h000]
      rw [← hnews, key, if_neg h00]; rfl

/-- An append that stays where it is. -/
theorem append_stay {t t1 e ty : TypeId} {d : TypeDesc} {ats : Array TypeId} {ie : TypeInfo} {z : Value} {a : Addr} {sLen sCap n : Nat} {x : Value} {news : List Value} {w w' : World}
    (h0 : ats[0]? = some t) (h1 : ats[1]? = some t1) (ht : P.underlying t = some (.slice e)) (ht1 : P.underlying t1 = some d) (hi : P.info? e = some ie) (hz : ie.zero = some z)
    (hx : Apps P d ie z n x w.heap news) (hst : (storeCells (a.add (sLen * ie.size)) news).run P w = .ok () w') (hg : sLen + n ≤ sCap) (hb : ie.bytes ≤ 1024) :
    (Builtin.append_ ats ty #[.slice (some a) sLen sCap, x]).run P w = .ok (.slice (some a) (sLen + n) sCap) w' := by
  rcases hx with ⟨hd, hlen, hnews⟩ | ⟨⟨k, rfl⟩, rfl, hn2, hnews⟩
  · have hn' := hnews w rfl
    have hdd : ∀ k, d = TypeDesc.int k → False := fun k e => by subst e; simp at hd
    clear hd
    unfold Builtin.append_
    simp [h0, h1, run_underlying ht, run_underlying ht1, hdd, sizeOf, typeInfo, hi, hlen, hg, hn', hst]
  · have hw : IntKind.i64.wrap (n : Int) = n := by simp [IntKind.wrap, IntKind.bits, IntKind.signed]; omega
    have hneg : ¬ (n : Int) < 0 := by omega
    have hbig : ¬ (281474976710656 < (n : Int) * (ie.bytes : Int)) := by
      have : n * ie.bytes ≤ 2 ^ 32 * 1024 := Nat.mul_le_mul hn2 hb
      have h2 : ((n * ie.bytes : Nat) : Int) = (n : Int) * (ie.bytes : Int) := by simp
      omega
    by_cases h00 : n * ie.size = 0
    · rw [if_pos h00] at hnews
      have h000 : n = 0 ∨ ie.size = 0 := Nat.mul_eq_zero.1 h00
      have e0 : news = [] := by simpa using hnews
      subst e0
      unfold Builtin.append_
      simp [h0, h1, run_underlying ht, run_underlying ht1, sizeOf, typeInfo, zeroValue, hi, hz, asInt, asIntOf, hw, hneg, hbig, hg, h000, hst]
      exact fun h => absurd h00 h
    · rw [if_neg h00] at hnews
      have h000 : ¬ (n = 0 ∨ ie.size = 0) := fun h => h00 (Nat.mul_eq_zero.2 h)
      have hnl : (Builtin.zeroCells z.cells n).toList = news := by rw [← hnews]
      unfold Builtin.append_
      simp [h0, h1, run_underlying ht, run_underlying ht1, sizeOf, typeInfo, zeroValue, hi, hz, asInt, asIntOf, hw, hneg, hbig, hg, h000, hnl, hst]
      exact fun h => absurd h h00
theorem append_nil {t t1 e ty : TypeId} {d : TypeDesc} {ats : Array TypeId} {ie : TypeInfo} {z : Value} {x : Value} {w : World}
    (h0 : ats[0]? = some t) (h1 : ats[1]? = some t1) (ht : P.underlying t = some (.slice e)) (ht1 : P.underlying t1 = some d) (hi : P.info? e = some ie) (hz : ie.zero = some z)
    (hx : Apps P d ie z 0 x w.heap []) :
    (Builtin.append_ ats ty #[.slice none 0 0, x]).run P w = .ok (.slice none 0 0) w := by
  rcases hx with ⟨hd, hlen, hnews⟩ | ⟨⟨k, rfl⟩, rfl, hn2, hnews⟩
  · have hn' := hnews w rfl
    have hdd : ∀ k, d = TypeDesc.int k → False := fun k e => by subst e; simp at hd
    clear hd
    unfold Builtin.append_
    simp [h0, h1, run_underlying ht, run_underlying ht1, hdd, sizeOf, typeInfo, hi, hlen, hn']
  · have hw : IntKind.i64.wrap 0 = 0 := by decide
    unfold Builtin.append_
    simp [h0, h1, run_underlying ht, run_underlying ht1, sizeOf, typeInfo, hi, asInt, asIntOf, hw]

theorem grown_ge (w : World) (need old : Nat) (e : TypeId) : need ≤ grownCap w need old e := by
  unfold grownCap; simp only [Question.cut]; omega
theorem zeros_size (z : Array Value) (n : Nat) : (Builtin.zeroCells z n).toList.length = n * z.size := by simp [Builtin.zeroCells]
theorem getElem?_pre {l l' : List Value} {i : Nat} {u : Value} (h : l[i]? = some u) : (l ++ l')[i]? = some u := by
  rw [List.getElem?_append_left (List.getElem?_eq_some_iff.1 h).1]; exact h

/-- The cells that an append lays into a new row. -/
theorem appnew_ok {E : En} (hM : MI pol E) {o : Oper} {c : Call} (hc : c.callee = .builtin .append) (ho : o.op = .call c) {ρc : Operand → Value} {t t1 e : TypeId} {d : TypeDesc} {ie : TypeInfo} {z : Value} {x : Value} {base : Option Addr} {k n : Nat}
    {pre ys : List AV} {olds : List Value} (hargs : c.args.map ρc = #[.slice base k k, x])
    (h0 : c.argTypes[0]? = some t) (h1 : c.argTypes[1]? = some t1) (ht : P.underlying t = some (.slice e)) (ht1 : P.underlying t1 = some d) (hi : P.info? e = some ie) (hz : ie.zero = some z) (hzs : z.cells.size = ie.size)
    (hs : SrcOk P E d ie z n ys x) (hpre : RepL E pre olds) (hpl : pre.all AV.leaf = true) (hplen : pre.length = k * ie.size)
    (holds : ∀ w', w'.heap = E.w.heap → (Builtin.firstCells ie.size k (.slice base k k)).run P w' = .ok olds.toArray w') (h0n : 0 < n) (hr : k + n ≤ 2 ^ 32) (hb : ie.bytes ≤ 1024) :
    Done pol E ((execOp ρc o).run P E.w) (.own E.m.length (tagT e) 0 (k + n) ie.size) (E.m ++ [.cells (tagT e) (pre ++ ys)]) := by
  obtain ⟨news, s1, s2, s3, s4⟩ := hs
  have hrun := append_grow (ty := o.type) E.w h0 h1 ht ht1 hi hz s4 holds (by omega) hr hb
  have hgc := grown_ge E.w (k + n) k e
  generalize hcap : grownCap E.w (k + n) k e = cap at hrun hgc
  generalize hrow : (olds ++ news ++ (Builtin.zeroCells z.cells (cap - (k + n))).toList).toArray = row at hrun
  have hM' := drew_mi hM (E.w.drawn + 1)
  have hx' := drew_ext (E := E) (E.w.drawn + 1)
  obtain ⟨E', e1, e2, e3, e4, e5⟩ := new_cells (E := { E with w := { E.w with drawn := E.w.drawn + 1 } }) hM' (RepL.mono hx' _ _ (hpre.append s1)) (by rw [List.all_append, hpl, s2]; rfl) (c := row) (fun i u hu => by
    rw [← hrow]; simp only [List.getElem?_toArray]; exact getElem?_pre hu) e
  refine ⟨E', .slice (some ⟨E.w.heap.size, 0, none⟩) (k + n) cap, .inl ?_, e2, e4, hx'.trans e5, ?_⟩
  · rw [call_run hc ho, hargs]
    simp only [builtin, Sem.run_bind, hrun, Result.andThen_ok, Sem.run_pure]
    rw [e1]; rfl
  · refine new_own (E := { E with w := { E.w with drawn := E.w.drawn + 1 } }) hM' e1 e2 e3 hgc ?_ ?_
    · have := s1.length; have := hpre.length
      simp only [List.length_append]; rw [Nat.add_mul]; omega
    · rw [← hrow]
      have hol := hpre.length
      simp only [List.size_toArray, List.length_append, zeros_size, hzs, s3]
      have h5 : (cap - (k + n)) * ie.size + (k + n) * ie.size = cap * ie.size := by rw [← Nat.add_mul]; congr 1; omega
      rw [Nat.add_mul k n] at h5
      omega
theorem app_ok {E : En} (hM : MI pol E) {o : Oper} {c : Call} (hc : c.callee = .builtin .append) (ho : o.op = .call c) {ρc : Operand → Value} {t t1 e : TypeId} {d : TypeDesc} {ie : TypeInfo} {z : Value} {x s : Value} {id ver off len n : Nat}
    {cs ys : List AV} (hargs : c.args.map ρc = #[s, x])
    (h0 : c.argTypes[0]? = some t) (h1 : c.argTypes[1]? = some t1) (ht : P.underlying t = some (.slice e)) (ht1 : P.underlying t1 = some d) (hi : P.info? e = some ie) (hz : ie.zero = some z) (hzs : z.cells.size = ie.size)
    (hs : SrcOk P E d ie z n ys x) (hm : E.m[id]? = some (.cells ver cs)) (hr : Rep E (.own id ver off len ie.size) s) (hle : off + len * ie.size ≤ cs.length) (h0n : 0 < n) (hroom : len + n ≤ 2 ^ 32) (hesz : 0 < ie.size) (hb : ie.bytes ≤ 1024) :
    Done pol E ((execOp ρc o).run P E.w) (.own id (nextV (tagT e) ver) 0 (len + n) ie.size) (E.m.set id (.cells (nextV (tagT e) ver) ((cs.drop off).take (len * ie.size) ++ ys))) := by
  obtain ⟨news, s1, s2, s3, s4⟩ := hs
  simp only [Rep] at hr
  obtain ⟨a, cap, rfl, hn, ver', cs', hm', hle', hv⟩ := hr
  rw [hm] at hm'; cases hm'
  obtain ⟨_, B, p, hB, hcap, hbs⟩ := hv rfl
  obtain ⟨c', t', fz, us, k1, k2, k3, k4, k5, k6, k7⟩ := obj_cells hM hm hB
  have hlt := nextV_lt (tagT e) ver
  have hge := nextV_ge (tagT e) ver
  have htag : ∀ x : TypeId, (x = t' ∨ x = e) → nextV (tagT e) ver % 65536 = 0 ∨ nextV (tagT e) ver % 65536 = x + 1 := by
    intro x hx
    rcases nextV_tag (tag := tagT e) (ver := ver) with h | ⟨h, h2⟩
    · exact Or.inl h
    · rcases hx with rfl | rfl
      · omega
      · have h3 := tagT_ok x
        have h4 := tagT_lt x
        omega
  have hul := k3.length
  have hbsz : E.bs B = if fz = (0, 0) then c'.size else 0 := by unfold En.bs; rw [k1]
  have hpre := (k3.drop off).take (len * ie.size)
  have hprel := all_take (all_drop k2 off) (len * ie.size)
  have hplen : ((us.drop off).take (len * ie.size)).length = len * ie.size := by simp; omega
  have hall : ((cs.drop off).take (len * ie.size) ++ ys).all AV.leaf = true := by rw [List.all_append, hprel, s2]; rfl
  by_cases hg : len + n ≤ cap
  · -- in its place
    obtain rfl : fz = (0, 0) := by
      by_cases hq : fz = (0, 0)
      · exact hq
      · rw [if_neg hq] at hbsz; rw [hbsz] at hbs
        have : cap * ie.size = 0 := by omega
        have : 0 < cap * ie.size := Nat.mul_pos (by omega) hesz
        omega
    rw [if_pos rfl] at hbsz
    obtain rfl : a = ⟨B, p + off, none⟩ := by rcases hcap with ⟨h, _⟩ | h; · omega
                                              · exact h
    have hmul : (len + n) * ie.size ≤ cap * ie.size := Nat.mul_le_mul_right _ hg
    rw [Nat.add_mul] at hmul
    have hfit : p + off + len * ie.size + news.length ≤ c'.size := by omega
    have hst := run_storeCells_at P B (p + off + len * ie.size) t' news 0 c' E.w k1 (by simpa using hfit) (s1.ones s2)
    simp only [Nat.add_zero] at hst
    rw [take_append_drop_eq _ _ _ (by simpa using hfit)] at hst
    have hrun := append_stay (ty := o.type) (a := ⟨B, p + off, none⟩) h0 h1 ht ht1 hi hz s4 (by rw [addr_add]; exact hst) hg hb
    obtain ⟨E', e1, e2, e3, e4, e5⟩ := upd_ok hM (o' := .cells (nextV (tagT e) ver) ((cs.drop off).take (len * ie.size) ++ ys)) (B' := B) (p' := p + off) (w' := E.w.setRow B (spliceV c'.toList (p + off + len * ie.size) news).toArray) hm hB rfl rfl rfl (by simp)
      (fun b _ hb => setRow_other _ _ _ _ hb) (.inl rfl) (by simp only [keeps]; omega) (fun h => by simp only [sameVer] at h; omega) (fun E' xx hw => by
        simp only [ObR]
        refine ⟨_, t', (0, 0), (us.drop off).take (len * ie.size) ++ news, by rw [hw]; exact setRow_heap E.w B c' _ t' (0, 0) k1, hall, RepL.mono xx _ _ (hpre.append s1), fun i u hu => ?_, .inl rfl, htag _ (.inl rfl), fun h => by omega⟩
        simp only [List.getElem?_toArray]
        rw [spliceV_get _ _ _ _ (by simpa using hfit)]
        by_cases i1 : i < len * ie.size
        · rw [if_pos (by omega)]
          rw [List.getElem?_append_left (by omega)] at hu
          simp only [List.getElem?_take, i1, if_true, List.getElem?_drop] at hu
          have := k4 _ _ hu
          rw [Array.getElem?_toList, ← this]; congr 1; omega
        · rw [if_neg (by omega)]
          rw [List.getElem?_append_right (by omega), hplen] at hu
          have := (List.getElem?_eq_some_iff.1 hu).1
          rw [if_pos (by omega), ← hu]; congr 1; omega)
    refine ⟨E', .slice (some ⟨B, p + off, none⟩) (len + n) cap, .inl ?_, e2, e4, e5, ?_⟩
    · rw [call_run hc ho, hargs]
      simp only [builtin, Sem.run_bind, hrun, Result.andThen_ok, Sem.run_pure]
      rw [e1]
    · simp only [Rep]
      have hid : id < E.m.length := (List.getElem?_eq_some_iff.1 hm).1
      have hidb : id < E.β.length := (List.getElem?_eq_some_iff.1 hB).1
      refine ⟨_, cap, rfl, hg, nextV (tagT e) ver, (cs.drop off).take (len * ie.size) ++ ys, by rw [e2]; simp [hid], Nat.le_refl _, fun _ => ⟨?_, B, p + off, by rw [e3]; simp [hidb], .inr rfl, ?_⟩⟩
      · have := s1.length; simp only [List.length_append]; rw [hpre.length, hplen, Nat.add_mul]; omega
      · have : E'.bs B = c'.size := by
          have := setRow_heap E.w B c' (spliceV c'.toList (p + off + len * ie.size) news).toArray t' (0, 0) k1
          unfold En.bs; rw [e1, this]; simp [spliceV_length]
        omega
  · -- in a new row
    have holds : ∀ w', w'.heap = E.w.heap → (Builtin.firstCells ie.size len (.slice (some a) len cap)).run P w' = .ok ((us.drop off).take (len * ie.size)).toArray w' := by
      intro w' hw
      have : (loadCells a ((us.drop off).take (len * ie.size)).length).run P w' = .ok ((us.drop off).take (len * ie.size)).toArray w' := run_loadCells_list (P := P) w' a _ fun j v hj => by
        rw [cell_heap hw]
        simp only [List.getElem?_take, List.getElem?_drop] at hj
        split at hj
        · rename_i hjl
          rcases hcap with ⟨h0, _⟩ | rfl
          · have : len = 0 := by omega
            subst this; simp at hjl
          · rw [addr_add, cell_of k1]; have := k4 _ _ hj; rw [← this]; congr 1; omega
        · cases hj
      simp only [Builtin.firstCells]
      rw [hplen] at this; exact this
    have hrun := append_grow (ty := o.type) E.w h0 h1 ht ht1 hi hz s4 holds (by omega) hroom hb
    have hgc := grown_ge E.w (len + n) cap e
    generalize hcap' : grownCap E.w (len + n) cap e = cap' at hrun hgc
    generalize hrow : ((us.drop off).take (len * ie.size) ++ news ++ (Builtin.zeroCells z.cells (cap' - (len + n))).toList).toArray = row at hrun
    have hBlt := hM.blk hB
    have hrsz : row.size = cap' * ie.size := by
      rw [← hrow]
      simp only [List.size_toArray, List.length_append, zeros_size, hzs, s3, hplen]
      rw [← Nat.add_mul, ← Nat.add_mul]; congr 1; omega
    obtain ⟨E', e1, e2, e3, e4, e5⟩ := upd_ok hM (o' := .cells (nextV (tagT e) ver) ((cs.drop off).take (len * ie.size) ++ ys)) (B' := E.w.heap.size) (p' := 0) (w' := { E.w.drew with heap := E.w.heap.push (.cells row e) }) hm hB rfl rfl rfl (by simp)
      (fun b hb _ => by simp only [Array.getElem?_push]; rw [if_neg (by omega)]) (.inr ⟨Nat.le_refl _, by simp only [Array.getElem?_push]; rw [if_neg (by omega)]⟩) (by simp only [keeps]; omega) (fun h => by simp only [sameVer] at h; omega) (fun E' xx hw => by
        simp only [ObR]
        refine ⟨row, e, (0, 0), (us.drop off).take (len * ie.size) ++ news, by rw [hw]; simp only [Array.getElem?_push_size], hall, RepL.mono xx _ _ (hpre.append s1), fun i u hu => ?_, .inl rfl, htag _ (.inr rfl), fun h => by omega⟩
        rw [← hrow, Nat.zero_add]; simp only [List.getElem?_toArray]; exact getElem?_pre hu)
    refine ⟨E', .slice (some ⟨E.w.heap.size, 0, none⟩) (len + n) cap', .inl ?_, e2, e4, e5, ?_⟩
    · rw [call_run hc ho, hargs]
      simp only [builtin, Sem.run_bind, hrun, Result.andThen_ok, Sem.run_pure]
      rw [e1]
    · simp only [Rep]
      have hid : id < E.m.length := (List.getElem?_eq_some_iff.1 hm).1
      have hidb : id < E.β.length := (List.getElem?_eq_some_iff.1 hB).1
      refine ⟨_, cap', rfl, hgc, nextV (tagT e) ver, (cs.drop off).take (len * ie.size) ++ ys, by rw [e2]; simp [hid], Nat.le_refl _, fun _ => ⟨?_, E.w.heap.size, 0, by rw [e3]; simp [hidb], .inr (by simp), ?_⟩⟩
      · have := s1.length; simp only [List.length_append]; rw [hpre.length, hplen, Nat.add_mul]; omega
      · have : E'.bs E.w.heap.size = row.size := by unfold En.bs; rw [e1]; simp
        omega
end Go.Proofs.YtcmjidnbbfcbjaaGreatDoor.V
/- What an operation asks of the VM's store is what it does to the model's memory: all operations but calls; no condition. -/
namespace Go.Proofs.YtcmjidnbbfcbjaaGreatDoor.V
open Go
set_option linter.unusedVariables false
set_option linter.unusedSimpArgs false
variable {P : Program} {pol : Pol}

theorem args_get {E : En} {ρ : Operand → Option AV} {ρc : Operand → Value} (hρ : Opn E ρ ρc) {args : Array Operand} {i : Nat} {v : AV} (h : (args[i]?).bind ρ = some v) : ∃ u, (args.map ρc)[i]? = some u ∧ Rep E v u := by
  cases hx : args[i]? with
  | none => simp [hx] at h
  | some x => simp [hx] at h; exact ⟨ρc x, by simp [hx], hρ x v h⟩
theorem at_get {ats : Array TypeId} {i : Nat} {d : TypeDesc} (h : (ats[i]?).bind P.underlying = some d) : ∃ t, ats[i]? = some t ∧ P.underlying t = some d := by
  cases hx : ats[i]? with
  | none => simp [hx] at h
  | some t => simp [hx] at h; exact ⟨t, rfl, h⟩
theorem zero_info {e : TypeId} {ie : TypeInfo} {z : AV} (hi : P.info? e = some ie) (h : zeroOf P e = some z) : ∃ u, ie.zero = some u ∧ ∀ E, Rep E z u := by
  unfold zeroOf at h
  rw [hi] at h
  cases hz : ie.zero with
  | none => simp [hz] at h
  | some u => simp [hz] at h; exact ⟨u, rfl, fun E => ofV1_rep h⟩

theorem int_or (d : TypeDesc) : (d matches .int _) = false ∨ ∃ k, d = .int k := by cases d <;> first | exact .inl rfl | exact .inr ⟨_, rfl⟩
theorem app_src {E : En} (hM : MI pol E) {d : TypeDesc} {ie : TypeInfo} {z xv : AV} {z' u : Value} {src : Src} (hsrc : appSrc d z (some xv) = some src) (hr : Rep E xv u) (hzf : z.cells.all AV.leaf = true) (hzr : Rep E z z') (hzs : z'.cells.size = ie.size) (hzl : z.cells.length = ie.size) :
    (src.n = 0 → Apps P d ie z' 0 u E.w.heap []) ∧ ∀ {n : Nat} {ys : List AV}, srcCells E.m ie.size src = some (n, ys) → SrcOk P E d ie z' n ys u := by
  rcases int_or d with hd | ⟨k, rfl⟩
  · have hs : srcOf xv = some src := by cases d <;> first | exact hsrc | simp at hd
    refine ⟨fun h0 => .inl ⟨hd, fun w => ?_, fun w _ => first_none (P := P) hs hr ie.size w⟩, fun {n ys} h => ?_⟩
    · have := src_len (P := P) hs hr w; rwa [h0] at this
    · obtain ⟨_, h1, news, h2, h3, h4, h5⟩ := src_ok (P := P) hM hs hr h
      exact ⟨news, h2, h3, h4, .inl ⟨hd, h1, h5⟩⟩
  · simp only [appSrc] at hsrc
    split at hsrc
    case h_2 => cases hsrc
    rename_i n heq
    cases heq
    split at hsrc
    case isFalse => cases hsrc
    rename_i hn
    cases hsrc
    simp only [Rep] at hr
    obtain ⟨rfl, _⟩ := hr
    have hn' : n = (n.toNat : Int) := by omega
    have hzr' := cells_rep hzr
    refine ⟨fun h0 => ?_, fun {n' ys} h => ?_⟩
    · simp only [Src.n] at h0
      exact .inr ⟨⟨k, rfl⟩, by rw [hn', h0], by omega, by simp⟩
    · simp only [srcCells] at h
      split at h
      case isFalse => cases h
      rename_i hl
      cases h
      refine ⟨(List.replicate n.toNat z'.cells.toList).flatten, hzr'.flatten n.toNat, all_flatten hzf n.toNat, ?_, .inr ⟨⟨k, rfl⟩, by rw [← hn'], by omega, ?_⟩⟩
      · rw [flatten_length]; simp [hzs]
      · by_cases h0 : n.toNat * ie.size = 0
        · rw [if_pos h0]
          have : ((List.replicate n.toNat z'.cells.toList).flatten).length = 0 := by rw [flatten_length]; simp [hzs, h0]
          rw [List.length_eq_zero_iff.1 this]
        · rw [if_neg h0]
          apply Array.ext'
          exact (zeros_eq z'.cells n.toNat).symm
theorem append_done {E : En} (hM : MI pol E) {ρ : Operand → Option AV} {ρc : Operand → Value} (hρ : Opn E ρ ρc) {o : Oper} {c : Call} (hc : c.callee = .builtin .append) (ho : o.op = .call c) {en : Env} {r : Req} {v : AV} {m' : Mem}
    (h : planB P ρ o .append c.args c.argTypes = some r) (hp : perform en r E.m = some (v, m')) : Done pol E ((execOp ρc o).run P E.w) v m' := by
  simp only [planB] at h
  split at h
  case h_2 => cases h
  rename_i a x e d hargs he hd1
  split at h
  case h_2 => cases h
  rename_i ie z hi hz
  split at h
  · cases h
  rename_i src hsrc
  split at h
  · cases h
  rename_i hzc
  simp only [Bool.or_eq_true, decide_eq_true_eq, not_or, ne_eq, Decidable.not_not, Nat.not_lt] at hzc
  obtain ⟨hzl, hb⟩ := hzc
  cases hx : ρ x with
  | none => rw [hx] at hsrc; cases d <;> simp [appSrc] at hsrc
  | some xv =>
  rw [hx] at hsrc
  obtain ⟨t, h0, hte⟩ : ∃ t, c.argTypes[0]? = some t ∧ elemOfS P t = some e := by
    cases hq : c.argTypes[0]? with
    | none => simp [hq] at he
    | some t => simp [hq] at he; exact ⟨t, rfl, he⟩
  obtain ⟨t1, h1, ht1⟩ := at_get hd1
  have ht := elem_run hte
  have hxr := hρ x _ hx
  have hmap : c.args.map ρc = #[ρc a, ρc x] := by
    apply Array.ext'
    rw [Array.toList_map, hargs]; rfl
  obtain ⟨z', hz1, hz2⟩ := zero_info hi hz
  have hzs : z'.cells.size = ie.size := by have := (cells_rep (hz2 E)).length; simp at this; omega
  have hap := app_src (P := P) (z' := z') hM hsrc hxr (zeroOf_run hz).choose_spec.2.2 (hz2 E) hzs hzl
  obtain ⟨hap0, hap1⟩ := hap
  split at h
  · rename_i ha
    have har := hρ a _ ha
    simp only [Rep] at har
    split at h
    · rename_i hn0
      cases h; cases hp
      have := append_nil (ty := o.type) (w := E.w) h0 h1 ht ht1 hi hz1 (hap0 hn0)
      refine Done.same (u := .slice none 0 0) hM ?_ (by simp [Rep])
      rw [call_run hc ho, hmap, har]
      simp only [builtin, Sem.run_bind, this, Result.andThen_ok, Sem.run_pure]
    · rename_i hn0
      cases h
      simp only [perform] at hp
      split at hp
      case h_2 => cases hp
      rename_i n ys hs
      split at hp
      case isFalse => cases hp
      rename_i hcond
      obtain ⟨hc1, hc2, hc3⟩ := hcond
      rw [fN, spine_eq, spine_eq] at hp
      cases hp
      simp only [roomOk, Bool.and_eq_true, decide_eq_true_eq] at hc2
      have hso := hap1 hs
      exact appnew_ok hM hc ho (base := none) (k := 0) (olds := []) (by rw [hmap, har]) h0 h1 ht ht1 hi hz1 hzs hso RepL.nil rfl (by simp) (fun w' _ => rfl) hc3 hc2.1.1 hb
  · rename_i m cs clip ha
    have har := hρ a _ ha
    have har' := har
    simp only [Rep] at har'
    obtain ⟨ad, cap, us, hav, hle, hsp, hcl, hf, hl, hh⟩ := har'
    split at h
    · rename_i hn0
      cases h; cases hp
      have := append_stay (ty := o.type) (a := ad) (sLen := m) (sCap := cap) (news := []) (w := E.w) (w' := E.w) h0 h1 ht ht1 hi hz1 (hap0 hn0) (by simp [storeCells]) (by omega) hb
      refine Done.same (u := .slice (some ad) m cap) hM ?_ (by rw [← hav]; exact har)
      rw [call_run hc ho, hmap, hav]
      simp only [builtin, Sem.run_bind, this, Result.andThen_ok, Sem.run_pure]
      rfl
    · split at h
      case isFalse => cases h
      rename_i hn0 hclip
      cases h
      obtain rfl : cap = m := hcl (by simpa using hclip)
      simp only [perform] at hp
      split at hp
      case h_2 => cases hp
      rename_i n ys hs
      split at hp
      case isFalse => cases hp
      rename_i hcond
      obtain ⟨hc1, hc2, hc3⟩ := hcond
      rw [fN, spine_eq, spine_eq] at hp
      cases hp
      simp only [roomOk, Bool.and_eq_true, decide_eq_true_eq] at hc2
      have hso := hap1 hs
      refine appnew_ok hM hc ho (base := some ad) (k := cap) (olds := us) (by rw [hmap, hav]) h0 h1 ht ht1 hi hz1 hzs hso hl hf hc1 (fun w' hw => ?_) hc3 hc2.1.1 hb
      have : (loadCells ad us.length).run P w' = .ok us.toArray w' := run_loadCells_list (P := P) w' ad us fun j v hj => by
        have hul : 0 < us.length := Nat.lt_of_le_of_lt (Nat.zero_le j) (List.getElem?_eq_some_iff.1 hj).1
        rw [← hl.length, hc1] at hul
        have hn0 : 0 < cap := by
          rcases Nat.eq_zero_or_pos cap with h0 | h0
          · rw [h0, Nat.zero_mul] at hul; omega
          · exact h0
        rw [cell_heap hw, addr_add' ad (hsp.resolve_right (by omega))]; exact (hh j v hj).2
      simp only [Builtin.firstCells]
      rw [← hc1, hl.length]; exact this
  · rename_i id ver off len esz ha
    have har := hρ a _ ha
    split at h
    · rename_i hn0
      cases h; cases hp
      have har' := har
      simp only [Rep] at har'
      obtain ⟨ad, cap, hav, hle, _⟩ := har'
      have := append_stay (ty := o.type) (a := ad) (sLen := len) (sCap := cap) (news := []) (w := E.w) (w' := E.w) h0 h1 ht ht1 hi hz1 (hap0 hn0) (by simp [storeCells]) (by omega) hb
      refine Done.same (u := .slice (some ad) len cap) hM ?_ (by rw [← hav]; exact har)
      rw [call_run hc ho, hmap, hav]
      simp only [builtin, Sem.run_bind, this, Result.andThen_ok, Sem.run_pure]
      rfl
    · split at h
      case isFalse => cases h
      rename_i hn0 hes
      subst hes
      cases h
      simp only [perform, lget_eq] at hp
      split at hp
      case h_2 => cases hp
      rename_i v' cs n ys hm hs
      split at hp
      case isFalse => cases hp
      rename_i hcond
      obtain ⟨rfl, hc1, hc2, hc3, _, _⟩ := hcond
      rw [spine_eq] at hp
      rw [fN, lsetK_eq] at hp
      cases hp
      simp only [roomOk, Bool.and_eq_true, decide_eq_true_eq] at hc2
      have hso := hap1 hs
      exact app_ok hM hc ho hmap h0 h1 ht ht1 hi hz1 hzs hso hm har hc1 hc3 hc2.1.1 hc2.1.2 hb
  · cases h

theorem run_unsafeString_at (w : World) (pt it ty e : TypeId) (hp : P.underlying pt = some (.pointer e)) (a : Addr) (cells : Nat) (hsh : w.shape? a.block = some (e, cells)) (l : List UInt8) (h0 : l ≠ [])
    (hlies : liesAt P P.depth e (cells / P.cellsOf e) a.off e l.length = true) (h63 : l.length ≤ 9223372036854775807) (hcell : ∀ (j : Nat) x, l[j]? = some x → w.cell? (a.add j) = some (.int .u8 x.toNat)) :
    (Builtin.unsafeString_ #[pt, it] ty #[.pointer (some a), .int .i64 l.length]).run P w = .ok (.string ⟨l.toArray⟩) (w.freeze a l.length) := by
  have hl : l.length ≠ 0 := by simpa using h0
  have hlb := Go.Lib.run_loadBytes (P := P) w l a .empty hcell
  have h63' : ¬ (9223372036854775807 : Int) < (l.length : Int) := by omega
  have hdef : Builtin.unsafeString_ #[pt, it] ty #[.pointer (some a), .int .i64 l.length] =
      (do
        let n ← asInt (.int .i64 l.length)
        if n < 0 then runtimePanic (.error "unsafe.String: len out of range")
        if n > IntKind.i64.max then unsupported (.unsafePointer "String: a length above the largest int")
        if n = 0 then pure (.string .empty)
        else if ← variablesAt a (← elemOf pt) n.toNat then do
          let s ← loadBytes a .empty n.toNat
          freeze a n.toNat
          pure (.string s)
        else unsupported (.unsafePointer "String: not so many bytes at ptr")) := rfl
  rw [hdef]
  have hmax : IntKind.i64.max = 9223372036854775807 := rfl
  have hneg : ¬ (l.length : Int) < 0 := by omega
  simp [asInt, asIntOf, hmax, h63', hneg, hl, variablesAt, hsh, elemOf, run_underlying hp, hlies, hlb]
theorem elem_at {ats : Array TypeId} {e : TypeId} (h : (ats[0]?).bind (elemOfS P) = some e) : ∃ t, ats[0]? = some t ∧ P.underlying t = some (.slice e) := by
  cases hx : ats[0]? with
  | none => simp [hx] at h
  | some t => simp [hx] at h; exact ⟨t, rfl, elem_run h⟩
theorem copy_done {E : En} (hM : MI pol E) {ρ : Operand → Option AV} {ρc : Operand → Value} (hρ : Opn E ρ ρc) {o : Oper} {c : Call} (hc : c.callee = .builtin .copy) (ho : o.op = .call c) {en : Env} {r : Req} {v : AV} {m' : Mem}
    (h : planB P ρ o .copy c.args c.argTypes = some r) (hp : perform en r E.m = some (v, m')) : Done pol E ((execOp ρc o).run P E.w) v m' := by
  simp only [planB] at h
  split at h
  case h_2 => cases h
  rename_i a x e hargs he
  have hmap : c.args.map ρc = #[ρc a, ρc x] := by
    apply Array.ext'
    rw [Array.toList_map, hargs]; rfl
  obtain ⟨t, ht0, ht⟩ := elem_at he
  have hrun : ∀ (base : Option Addr) (dLen cap n k : Nat) (cells : Array Value) (w' : World) (s : Nat), szOf P e = some s → ρc a = .slice base dLen cap → (∀ w, (Builtin.lenOf (ρc x)).run P w = .ok n w) → k = Nat.min n dLen → (Builtin.firstCells s k (ρc x)).run P E.w = .ok cells E.w →
      (match base with | some ad => storeCells ad cells.toList | none => pure ()).run P E.w = .ok () w' → (execOp ρc o).run P E.w = .ok (.value (.int .i64 k)) w' := by
    intro base dLen cap n k cells w' s hs ha hl hk hf hst
    subst hk
    rw [call_run hc ho, hmap, ha]
    have : (Builtin.copy_ c.argTypes o.type #[.slice base dLen cap, ρc x]).run P E.w = .ok (goInt (Nat.min n dLen)) w' := by
      unfold Builtin.copy_
      simp only [ht0]
      cases base with
      | none => simp only [Sem.run_pure] at hst; cases hst; simp [run_underlying ht, hl, szOf_run hs, hf]
      | some ad => simp [run_underlying ht, hl, szOf_run hs, hf, hst]
    simp only [builtin, Sem.run_bind, this, Result.andThen_ok, Sem.run_pure]; rfl
  split at h
  · rename_i s id ver off len e' src hs ha hsrc
    split at h
    case isFalse => cases h
    rename_i hes
    obtain ⟨rfl, hs0⟩ := hes
    cases h
    obtain ⟨xv, hx, hxs⟩ : ∃ xv, ρ x = some xv ∧ srcOf xv = some src := by
      cases hq : ρ x with
      | none => simp [hq] at hsrc
      | some xv => simp [hq] at hsrc; exact ⟨xv, rfl, hsrc⟩
    simp only [perform, lget_eq] at hp
    split at hp
    case h_2 => cases hp
    rename_i v' cs n ys hm hys
    split at hp
    case isFalse => cases hp
    rename_i hcond
    obtain ⟨rfl, hle, _⟩ := hcond
    rw [fN, spliceK_eq, lsetK_eq] at hp
    cases hp
    have hn := (src_ok (P := P) hM hxs (hρ x _ hx) hys).1
    obtain ⟨news, n1, n2, n3, n4⟩ := src_some (P := P) hM hxs (hρ x _ hx) (k := min n len) (by omega) hys
    have hra := hρ a _ ha
    simp only [Rep] at hra
    obtain ⟨ad, cap, hu, hcap, ver', cs', hm', hv', hv⟩ := hra
    rw [hm] at hm'; cases hm'
    obtain ⟨h1, B, p, hB, had, hbs⟩ := hv rfl
    have hl := fun w => src_len (P := P) hxs (hρ x _ hx) w
    rw [← hn] at hl
    have hkl : min n len * e' ≤ len * e' := Nat.mul_le_mul_right _ (by omega)
    by_cases h0 : min n len = 0
    · have hsp : E.m.set id (.cells v' (splice cs off (ys.take (min n len * e')))) = E.m := by
        rw [h0, Nat.zero_mul, List.take_zero]
        show E.m.set id (.cells v' cs) = E.m
        obtain ⟨hi, he⟩ := List.getElem?_eq_some_iff.1 hm
        apply List.ext_getElem (by simp)
        intro j h1 h2
        rw [List.getElem_set]
        split
        · rename_i hj; subst hj; exact he.symm
        · rfl
      rw [hsp]
      rw [h0, Nat.zero_mul, List.take_zero] at n1
      simp only [RepL] at n1
      subst n1
      refine Done.same (u := .int .i64 (min n len : Nat)) hM (hrun (some ad) len cap n (min n len) _ E.w e' hs hu hl rfl n4 ?_) (by simp [Rep, scalar])
      rfl
    · have hml : min n len ≤ len := Nat.min_le_right _ _
      generalize hk : min n len = k at *
      have hlen0 : cap ≠ 0 := by clear hle h1 hbs hkl; omega
      obtain rfl := had.resolve_left (fun hh => hlen0 hh.1)
      have hpos : 0 < k * e' := Nat.mul_pos (Nat.pos_of_ne_zero h0) hs0
      obtain ⟨E', w1, w2, w3, w4⟩ := write_ok (P := P) hM hm hB (off := off) n1 n2 (by rw [n3]; exact Nat.le_trans (Nat.add_le_add_left hkl _) hle) (by rw [n3]; exact hpos)
      refine ⟨E', .int .i64 k, .inl (hrun (some _) len cap n k _ E'.w e' hs hu hl hk.symm n4 (by simpa using w1)), w2, w3, w4, by simp [Rep, scalar]⟩
  · rename_i s src hs ha hsrc
    cases h; cases hp
    obtain ⟨xv, hx, hxs⟩ : ∃ xv, ρ x = some xv ∧ srcOf xv = some src := by
      cases hq : ρ x with
      | none => simp [hq] at hsrc
      | some xv => simp [hq] at hsrc; exact ⟨xv, rfl, hsrc⟩
    have hra := hρ a _ ha
    simp only [Rep] at hra
    have hl := fun w => src_len (P := P) hxs (hρ x _ hx) w
    exact Done.same (u := .int .i64 0) hM (hrun none 0 0 src.n 0 #[] E.w s hs hra hl (by simp) (first_none (P := P) hxs (hρ x _ hx) s E.w) (by simp)) (by simp [Rep, scalar])
  · cases h
theorem MapR.erase {E : En} {es : List (Value × AV)} {ents : List MapEntry} (h : MapR E es ents) (j : Nat) : MapR E (es.eraseIdx j) (ents.eraseIdx j) := by
  refine ⟨by rw [List.length_eraseIdx, List.length_eraseIdx, h.1], fun i e x he hx => ?_⟩
  rw [List.getElem?_eraseIdx] at he hx
  split at he
  · rename_i hj; rw [if_pos hj] at hx; exact h.2 _ _ _ he hx
  · rename_i hj; rw [if_neg hj] at hx; exact h.2 _ _ _ he hx
theorem delete_done {E : En} (hM : MI pol E) {ρ : Operand → Option AV} {ρc : Operand → Value} (hρ : Opn E ρ ρc) {o : Oper} {c : Call} (hc : c.callee = .builtin .delete) (ho : o.op = .call c) {en : Env} {r : Req} {v : AV} {m' : Mem}
    (h : planB P ρ o .delete c.args c.argTypes = some r) (hp : perform en r E.m = some (v, m')) : Done pol E ((execOp ρc o).run P E.w) v m' := by
  simp only [planB] at h
  split at h
  case h_2 => cases h
  rename_i a x kt et hargs ht'
  obtain ⟨t, ht0, ht⟩ := at_get ht'
  have hmap : c.args.map ρc = #[ρc a, ρc x] := by
    apply Array.ext'
    rw [Array.toList_map, hargs]; rfl
  split at h
  case h_2 => cases h
  rename_i kd id kv hkd ha hk
  split at h
  case isFalse => cases h
  rename_i hkey
  cases h
  have hkv : ρc x = kv := by
    cases hk' : ρ x with
    | none => simp [hk'] at hk
    | some a => simp [hk'] at hk; exact toV_eq a _ _ (hρ x a hk') hk
  have hr := hρ a _ ha
  simp only [Rep] at hr
  obtain ⟨B, p, es', hB, hu, hm'⟩ := hr
  simp only [perform, lget_eq] at hp
  split at hp
  case h_2 => cases hp
  rename_i es hm
  rw [hm] at hm'; cases hm'
  split at hp
  case isFalse => cases hp
  obtain ⟨B', p', hB', hob⟩ := hM.ob id _ hm
  rw [hB] at hB'; cases hB'
  simp only [ObR] at hob
  obtain ⟨ents, clock, hheap, hmr⟩ := hob
  have hgo := run_getObj_map (P := P) hheap
  have fin : ∀ w', (Builtin.delete_ c.argTypes o.type #[.map (some B), kv]).run P E.w = .ok (.tuple #[]) w' → (execOp ρc o).run P E.w = .ok (.value (.tuple #[])) w' := by
    intro w' hw
    rw [call_run hc ho, hmap, hu, hkv]
    simp only [builtin, Sem.run_bind, hw, Result.andThen_ok, Sem.run_pure]
  split at hp
  · rename_i j cv hfv
    rw [spine_eq, lsetK_eq] at hp
    cases hp
    obtain ⟨r', f1, f2⟩ := findV_run hkey 0 hmr hfv
    cases r' with
    | none => exact f2.elim
    | some b =>
      obtain ⟨j', u⟩ := b
      obtain ⟨rfl, f3, _⟩ := f2
      have hfk := findKey_run (E := E) (P := P) hkd f1 E.w
      obtain ⟨E', e1, e2, e3, e4⟩ := map_upd (es' := es'.eraseIdx j) (ents' := ents.eraseIdxIfInBounds j) (clock' := clock) hM hm hB hheap (by rw [Array.toList_eraseIdxIfInBounds]; exact hmr.erase j)
      refine ⟨E', .tuple #[], .inl (fin _ ?_), e2, e3, e4, by simp only [Rep]; exact ⟨[], rfl, RepL.nil⟩⟩
      unfold Builtin.delete_
      simp [ht0, run_underlying ht, hgo, checkKey_run hkd hkey, hfk, run_setObj_map _ hheap, e1]
  · rename_i hfv
    cases hp
    obtain ⟨r', f1, f2⟩ := findV_run hkey 0 hmr hfv
    cases r' with
    | some b => exact f2.elim
    | none =>
      have hfk := findKey_run (E := E) (P := P) hkd f1 E.w
      have hsame : E.w.heap.setIfInBounds B (.map ents clock) = E.w.heap := by
        obtain ⟨hi, he⟩ := Array.getElem?_eq_some_iff.1 hheap
        apply Array.ext (by simp)
        intro j h1 h2
        rw [Array.getElem_setIfInBounds (by simpa using h2)]
        split
        · rename_i hj; subst hj; exact he.symm
        · rfl
      refine Done.same (u := .tuple #[]) hM (fin _ ?_) (by simp only [Rep]; exact ⟨[], rfl, RepL.nil⟩)
      unfold Builtin.delete_
      simp [ht0, run_underlying ht, hgo, checkKey_run hkd hkey, hfk, run_setObj_map _ hheap, hsame]
  · cases hp
theorem planB_done {E : En} (hM : MI pol E) {ρ : Operand → Option AV} {ρc : Operand → Value} (hρ : Opn E ρ ρc) {o : Oper} {c : Call} {b : Builtin} (hc : c.callee = .builtin b) (ho : o.op = .call c) {en : Env} {r : Req} {v : AV} {m' : Mem}
    (h : planB P ρ o b c.args c.argTypes = some r) (hp : perform en r E.m = some (v, m')) : Done pol E ((execOp ρc o).run P E.w) v m' := by
  have gen : generic P ρ o = some r → Done pol E ((execOp ρc o).run P E.w) v m' := by
    intro hg
    obtain ⟨v', rfl, hd⟩ := generic_done hM hρ hg
    cases hp; exact hd
  by_cases hb : b = .append
  · subst hb; exact append_done hM hρ hc ho h hp
  by_cases hb2 : b = .len
  · subst hb2
    simp only [planB] at h
    have hl : ∀ (u0 : Value) (t : TypeId) (n : Int), (c.args.map ρc)[0]? = some u0 → c.argTypes[0]? = some t → (∀ (d : TypeDesc), P.underlying t = some d → True) → ((Builtin.len_ c.argTypes o.type (c.args.map ρc)).run P E.w = .ok (goInt n) E.w) → (execOp ρc o).run P E.w = .ok (.value (.int .i64 n)) E.w := by
      intro u0 t n _ _ _ hrun
      rw [call_run hc ho]; simp only [builtin, Sem.run_bind, hrun, Result.andThen_ok, Sem.run_pure]; rfl
    split at h
    · rename_i n cs cl e h0 h1
      cases h; cases hp
      obtain ⟨u0, hu0, hr⟩ := args_get hρ h0
      obtain ⟨t, ht0, ht⟩ := at_get h1
      simp only [Rep] at hr
      obtain ⟨a, cap, us, rfl, _⟩ := hr
      refine Done.same (u := .int .i64 n) hM (hl _ t n hu0 ht0 (fun _ _ => trivial) ?_) (by simp [Rep, scalar])
      unfold Builtin.len_; simp [hu0, ht0, run_underlying ht]
    · rename_i id ver off n esz e h0 h1
      cases h; cases hp
      obtain ⟨u0, hu0, hr⟩ := args_get hρ h0
      obtain ⟨t, ht0, ht⟩ := at_get h1
      simp only [Rep] at hr
      obtain ⟨a, cap, rfl, _⟩ := hr
      refine Done.same (u := .int .i64 n) hM (hl _ t n hu0 ht0 (fun _ _ => trivial) ?_) (by simp [Rep, scalar])
      unfold Builtin.len_; simp [hu0, ht0, run_underlying ht]
    · rename_i e h0 h1
      cases h; cases hp
      obtain ⟨u0, hu0, hr⟩ := args_get hρ h0
      obtain ⟨t, ht0, ht⟩ := at_get h1
      simp only [Rep] at hr
      subst hr
      refine Done.same (u := .int .i64 0) hM (hl _ t 0 hu0 ht0 (fun _ _ => trivial) ?_) (by simp [Rep, scalar])
      unfold Builtin.len_; simp [hu0, ht0, run_underlying ht]
    · rename_i id k e h0 h1
      cases h
      obtain ⟨u0, hu0, hr⟩ := args_get hρ h0
      obtain ⟨t, ht0, ht⟩ := at_get h1
      simp only [Rep] at hr
      obtain ⟨B, p, es', hB, rfl, hm'⟩ := hr
      simp only [perform, lget_eq] at hp
      split at hp
      case h_2 => cases hp
      rename_i es hm
      cases hp
      rw [hm] at hm'; cases hm'
      obtain ⟨B', p', hB', hob⟩ := hM.ob id _ hm
      rw [hB] at hB'; cases hB'
      simp only [ObR] at hob
      obtain ⟨ents, clock, hheap, hmr⟩ := hob
      refine Done.same (u := .int .i64 es'.length) hM (hl _ t es'.length hu0 ht0 (fun _ _ => trivial) ?_) (by simp [Rep, scalar])
      have := hmr.1
      unfold Builtin.len_; simp [hu0, ht0, run_underlying ht, run_getObj_map hheap, this]
    · exact gen h
  by_cases hb3 : b = .clear
  · subst hb3
    simp only [planB] at h
    split at h
    · rename_i id k e h0 h1
      cases h
      obtain ⟨u0, hu0, hr⟩ := args_get hρ h0
      obtain ⟨t, ht0, ht⟩ := at_get h1
      simp only [Rep] at hr
      obtain ⟨B, p, es', hB, rfl, hm'⟩ := hr
      simp only [perform, lget_eq] at hp
      split at hp
      case h_2 => cases hp
      rename_i es hm
      split at hp
      case isFalse => cases hp
      rw [lsetK_eq] at hp
      cases hp
      rw [hm] at hm'; cases hm'
      obtain ⟨B', p', hB', hob⟩ := hM.ob id _ hm
      rw [hB] at hB'; cases hB'
      simp only [ObR] at hob
      obtain ⟨ents, clock, hheap, hmr⟩ := hob
      obtain ⟨E', e1, e2, e3, e4⟩ := map_upd (es' := []) (ents' := #[]) (clock' := clock) hM hm hB hheap ⟨rfl, fun i e x he => by simp at he⟩
      refine ⟨E', .tuple #[], .inl ?_, e2, e3, e4, by simp only [Rep]; exact ⟨[], rfl, RepL.nil⟩⟩
      have hrun : (Builtin.clear_ c.argTypes o.type (c.args.map ρc)).run P E.w = .ok (.tuple #[]) E'.w := by
        unfold Builtin.clear_; simp [hu0, ht0, run_underlying ht, run_getObj_map hheap, run_setObj_map _ hheap, e1]
      rw [call_run hc ho]; simp only [builtin, Sem.run_bind, hrun, Result.andThen_ok, Sem.run_pure]
    · exact gen h
  by_cases hb4 : b = .unsafeSliceData
  · subst hb4
    simp only [planB] at h
    split at h
    case h_2 => cases h
    rename_i x hargs
    have hmap : c.args.map ρc = #[ρc x] := by
      apply Array.ext'
      rw [Array.toList_map, hargs]; rfl
    split at h
    · rename_i id ver off n z hx
      split at h
      case isFalse => cases h
      rename_i hn
      cases h; cases hp
      have hr := hρ x _ hx
      simp only [Rep] at hr
      obtain ⟨a, cap, hu, hle, ver', cs, hm, hv, hv2⟩ := hr
      refine Done.same (u := .pointer (some a)) hM ?_ ?_
      · rw [call_run hc ho, hmap, hu]
        simp only [builtin, Sem.run_bind, Go.Lib.run_unsafeSliceData_row _ _ _ _ _ _ (show cap ≠ 0 by omega), Result.andThen_ok, Sem.run_pure]
      · simp only [Rep]
        refine ⟨a, rfl, ver', cs, hm, hv, fun e => ?_⟩
        obtain ⟨_, B, p, hB, hcap, _⟩ := hv2 e
        exact ⟨B, p, hB, hcap.resolve_left (by omega)⟩
    · rename_i hx
      cases h; cases hp
      have hr := hρ x _ hx
      simp only [Rep] at hr
      refine Done.same (u := .pointer none) hM ?_ (by simp [Rep])
      rw [call_run hc ho, hmap, hr]
      simp only [builtin, Sem.run_bind, Go.Lib.run_unsafeSliceData_nil, Result.andThen_ok, Sem.run_pure]
    · cases h
  by_cases hb5 : b = .unsafeString
  · subst hb5
    simp only [planB] at h
    split at h
    case h_2 => cases h
    rename_i x y t t2 hargs hats
    have hmap : c.args.map ρc = #[ρc x, ρc y] := by
      apply Array.ext'
      rw [Array.toList_map, hargs]; rfl
    have hat : c.argTypes = #[t, t2] := by apply Array.ext'; rw [hats]
    split at h
    · rename_i id ver off n e hx hy ht
      split at h
      case isFalse => cases h
      rename_i hcond
      obtain ⟨hce, hte, hn0, hn1⟩ := hcond
      cases h
      simp only [perform] at hp
      split at hp
      case h_2 => cases hp
      rename_i cs hcs
      split at hp
      case h_2 => cases hp
      rename_i l hl
      split at hp
      case isFalse => cases hp
      rename_i hc2
      rw [fN, lsetK_eq] at hp
      cases hp
      have hrx := hρ x _ hx
      have hry := rep_int (hρ y _ hy)
      simp only [Rep] at hrx
      obtain ⟨a, hu, ver', cs', hm, hve, hv⟩ := hrx
      unfold rd at hcs
      rw [lget_eq, hm] at hcs
      simp only at hcs
      split at hcs
      case isFalse => cases hcs
      rename_i hc3
      obtain ⟨rfl, hlc⟩ := hc3
      cases hcs
      obtain ⟨B, p, hB, rfl⟩ := hv rfl
      obtain ⟨cc, t', fz, us, k1, k2, k3, k4, k5, k6, k7⟩ := obj_cells hM hm hB
      have hus := bytesOf_rep ((k3.drop off).take n.toNat) hl
      have hul := k3.length
      have hlen : l.length = n.toNat := by
        have h1 := congrArg List.length hus
        simp at h1; omega
      have het : e = t' := by
        have h2 : tagT e = e + 1 := by
          unfold tagT at hte ⊢
          split
          · rfl
          · rename_i hq; rw [if_neg hq] at hte; exact absurd rfl hte
        rcases k6 with h | h
        · rw [hc2.1] at h; exact absurd h hte
        · rw [hc2.1, h2] at h; exact Nat.succ.inj h
      subst het
      have hcell : ∀ (j : Nat) z, l[j]? = some z → E.w.cell? ((⟨B, p + off, none⟩ : Addr).add j) = some (.int .u8 z.toNat) := by
        intro j z hz
        have h1 : (l.map fun b => Value.int .u8 (b.toNat : Int))[j]? = some (.int .u8 z.toNat) := by simp [hz]
        rw [← hus] at h1
        simp only [List.getElem?_take, List.getElem?_drop] at h1
        split at h1
        case isFalse => cases h1
        rw [addr_add, cell_of k1]; have := k4 _ _ h1; rw [← this]; congr 1; omega
      have hsize : p + off + l.length ≤ cc.size := by
        have := (Array.getElem?_eq_some_iff.1 (k4 (off + l.length - 1) us[off + l.length - 1] (List.getElem?_eq_getElem (by omega)))).1
        omega
      have hrun := run_unsafeString_at (P := P) E.w t t2 o.type e ht ⟨B, p + off, none⟩ cc.size (by simp [World.shape?, k1]) l (by intro h; rw [h] at hlen; simp at hlen; omega)
        (by rw [hce]; exact liesAt_row hce (by omega) _ (p + off) l.length (Nat.mod_one _) (by simp; omega)) (by omega) hcell
      have hBlt := hM.blk hB
      have hl0 : l.length ≠ 0 := by omega
      obtain ⟨E', e1, e2, _, e4, e5⟩ := upd_ok hM (o' := .cells (nextV (tagT e) ver') []) (B' := B) (p' := p) (w' := E.w.freeze ⟨B, p + off, none⟩ l.length) hm hB
        (by unfold World.freeze; rw [if_neg hl0]) (by unfold World.freeze; rw [if_neg hl0]) (by unfold World.freeze; rw [if_neg hl0]) (by unfold World.freeze; rw [if_neg hl0]; simp)
        (fun b _ hb => by unfold World.freeze; rw [if_neg hl0]; simp [Array.getElem?_modify, Ne.symm hb]) (.inl rfl) (by simp only [keeps]; have := nextV_lt (tagT e) ver'; omega) (fun h => by simp only [sameVer] at h; have := nextV_lt (tagT e) ver'; omega) (fun E' xx hw => by
          simp only [ObR]
          have hge := nextV_ge (tagT e) ver'
          obtain ⟨lo, hi⟩ := fz
          refine ⟨cc, e, _, [], by rw [hw]; unfold World.freeze; rw [if_neg hl0]; simp [Array.getElem?_modify, k1]; rfl, rfl, RepL.nil, (fun i u hu => by simp at hu), by simp, ?_, fun h => by omega⟩
          have := nextV_tag (tag := tagT e) (ver := ver')
          omega)
      refine ⟨E', .string ⟨⟨l⟩⟩, .inl ?_, e2, e4, e5, by simp [Rep, scalar]⟩
      rw [call_run hc ho, hmap, hat, hu, hry, show n = (l.length : Int) by omega]
      simp only [builtin, Sem.run_bind, hrun, Result.andThen_ok, Sem.run_pure]
      rw [e1]
    · rename_i n hx hy
      split at h
      case isFalse => cases h
      rename_i hn
      subst hn
      cases h; cases hp
      have hr := hρ x _ hx
      simp only [Rep] at hr
      refine Done.same (u := .string .empty) hM ?_ (by simp [Rep, scalar])
      rw [call_run hc ho, hmap, hat, hr, rep_int (hρ y _ hy)]
      simp only [builtin, Sem.run_bind, Go.Lib.run_unsafeString_none, Result.andThen_ok, Sem.run_pure]
    · cases h
  by_cases hb6 : b = .copy
  · subst hb6; exact copy_done hM hρ hc ho h hp
  by_cases hb7 : b = .delete
  · subst hb7; exact delete_done hM hρ hc ho h hp
  by_cases hb8 : b = .cap
  · subst hb8
    simp only [planB] at h
    have hl : ∀ (u0 : Value) (t : TypeId) (n : Int), (c.args.map ρc)[0]? = some u0 → c.argTypes[0]? = some t → ((Builtin.cap_ c.argTypes o.type (c.args.map ρc)).run P E.w = .ok (goInt n) E.w) → (execOp ρc o).run P E.w = .ok (.value (.int .i64 n)) E.w := by
      intro u0 t n _ _ hrun
      rw [call_run hc ho]; simp only [builtin, Sem.run_bind, hrun, Result.andThen_ok, Sem.run_pure]; rfl
    split at h
    · rename_i n cs e h0 h1
      cases h; cases hp
      obtain ⟨u0, hu0, hr⟩ := args_get hρ h0
      obtain ⟨t, ht0, ht⟩ := at_get h1
      simp only [Rep] at hr
      obtain ⟨a, cap, us, rfl, _, _, hcap, _⟩ := hr
      obtain rfl := hcap True.intro
      refine Done.same (u := .int .i64 cap) hM (hl _ t cap hu0 ht0 ?_) (by simp [Rep, scalar])
      unfold Builtin.cap_; simp [hu0, ht0, run_underlying ht]
    · rename_i e h0 h1
      cases h; cases hp
      obtain ⟨u0, hu0, hr⟩ := args_get hρ h0
      obtain ⟨t, ht0, ht⟩ := at_get h1
      simp only [Rep] at hr
      subst hr
      refine Done.same (u := .int .i64 0) hM (hl _ t 0 hu0 ht0 ?_) (by simp [Rep, scalar])
      unfold Builtin.cap_; simp [hu0, ht0, run_underlying ht]
    · exact gen h
  have : planB P ρ o b c.args c.argTypes = generic P ρ o := by
    unfold planB; split <;> simp_all
  rw [this] at h
  exact gen h

/-- ALL OPERATIONS BUT CALLS. -/
theorem plan_done {E : En} (hM : MI pol E) {ρ : Operand → Option AV} {ρc : Operand → Value} (hρ : Opn E ρ ρc) {o : Oper} {en : Env} {r : Req} {v : AV} {m' : Mem}
    (h : plan P ρ o = some r) (hnc : ∀ fn args, r ≠ .call fn args) (hp : perform en r E.m = some (v, m')) : Done pol E ((execOp ρc o).run P E.w) v m' := by
  have val : (∃ v, r = .val v ∧ Done pol E ((execOp ρc o).run P E.w) v E.m) → Done pol E ((execOp ρc o).run P E.w) v m' := by
    rintro ⟨v', rfl, hd⟩; cases hp; exact hd
  have gen : generic P ρ o = some r → Done pol E ((execOp ρc o).run P E.w) v m' := fun hg => val (generic_done hM hρ hg)
  cases ho : o.op with
  | move x => exact val (move_ok hM hρ (.inl ho) h)
  | assign x => exact val (move_ok hM hρ (.inr ho) h)
  | pick c a b => exact val (pick_ok hM hρ ho h)
  | alloc t => exact alloc_ok hM ho h hp
  | box t x => exact box_ok hM hρ ho h hp
  | build t ps => exact val (build_ok hM hρ ho h)
  | buildSlice t n ps => exact buildSlice_ok hM hρ ho h hp
  | insert t x k e => exact mapset_ok hM hρ (.inr ho) h hp
  | load t x => exact load_ok hM hρ ho h hp
  | store t a x => exact store_ok hM hρ ho h hp
  | nilCheck x => exact val (nilCheck_ok hM hρ ho h)
  | binOp op t x y yt => exact binOp_ok hM hρ ho h hp
  | unOp op t x => exact val (unOp_ok hM hρ ho h)
  | convert s d x => exact convert_ok hM hρ ho h hp
  | makeInterface t x => exact val (makeInterface_ok hM hρ ho h)
  | makeFunc fn a b => exact val (makeFunc_ok hM hρ ho h)
  | makeMap t x => exact makeMap_ok hM hρ ho h hp
  | makeSlice t l c => exact makeSlice_ok hM hρ ho h hp
  | slice t x lo hi mx => exact slice_done hM hρ ho h hp
  | fieldAddr s x f => exact val (fieldAddr_ok hM hρ ho h)
  | field t x f => exact val (field_ok hM hρ ho h)
  | indexAddr t x i => exact val (indexAddr_ok hM hρ ho h)
  | lookup t x k ok => exact lookup_ok hM hρ ho h hp
  | mapUpdate t x k e => exact mapset_ok hM hρ (.inl ho) h hp
  | extract t i => exact val (extract_ok hM hρ ho h)
  | range t x => exact range_ok hM hρ ho h hp
  | next x b => exact next_ok hM hρ ho h hp
  | call c =>
    obtain ⟨callee, args, ats⟩ := c
    cases callee with
    | builtin b =>
      simp only [plan, ho] at h
      exact planB_done hM hρ (c := ⟨.builtin b, args, ats⟩) rfl ho h hp
    | value f =>
      simp only [plan, ho] at h
      split at h
      · cases h; exact absurd rfl (hnc _ _)
      · cases h; exact absurd rfl (hnc _ _)
      · cases h
    | invoke r m => exact gen (by simpa only [plan, ho] using h)
  | _ => exact gen (by simpa only [plan, ho] using h)
end Go.Proofs.YtcmjidnbbfcbjaaGreatDoor.V
/- The machine's control, frame by frame; no condition. -/
namespace Go.Proofs.YtcmjidnbbfcbjaaGreatDoor.V
open Go
set_option linter.unusedVariables false
set_option linter.unusedSimpArgs false
variable {P : Program} {pol : Pol}

def fat (b : Frame) (a : Act) (k : List Item) : Frame := { fn := b.fn, tmps := a.tmps, todo := k, defers := a.defers, mode := .run, kind := b.kind, roundOf := b.roundOf }
theorem fat_eval (b : Frame) (a : Act) (k : List Item) : (fat b a k).eval = a.eval := by funext x; cases x <;> rfl

/-- Where the machine stands behind a piece of code. -/
def Arr (P : Program) (m : Machine) (b : Frame) (k : List Item) (cs : List Frame) : X → Act → World → Prop
  | .normal, a, w => Steps P m (lone (fat b a k) cs w)
  | .exit id, a, w => ∃ kk, Steps P m (lone (fat b a (.code (.exit id) :: kk)) cs w) ∧ exitTo id kk = exitTo id k
  | .goto l, a, w => ∃ kk, Steps P m (lone (fat b a (.code (.goto l) :: kk)) cs w) ∧ gotoIn l kk = gotoIn l k
  | .ret, a, w => ∃ kk, Steps P m (lone (fat b a (.code .ret :: kk)) cs w)
theorem Arr.of_steps {m m₁ : Machine} {b k cs x a w} (h : Steps P m m₁) (h' : Arr P m₁ b k cs x a w) : Arr P m b k cs x a w := by
  cases x with
  | normal => exact h.trans h'
  | exit id => obtain ⟨kk, h1, h2⟩ := h'; exact ⟨kk, h.trans h1, h2⟩
  | goto l => obtain ⟨kk, h1, h2⟩ := h'; exact ⟨kk, h.trans h1, h2⟩
  | ret => obtain ⟨kk, h1⟩ := h'; exact ⟨kk, h.trans h1⟩
theorem Arr.pass {m : Machine} {b k cs x a w} {y : Item} (hy : y.plain = true) (hn : x ≠ .normal) (h : Arr P m b (y :: k) cs x a w) : Arr P m b k cs x a w := by
  cases x with
  | normal => exact absurd rfl hn
  | exit id => obtain ⟨kk, h1, h2⟩ := h; exact ⟨kk, h1, h2.trans (by cases y <;> simp_all [exitTo, Item.plain])⟩
  | goto l => obtain ⟨kk, h1, h2⟩ := h; exact ⟨kk, h1, h2.trans (by cases y <;> simp_all [gotoIn, Item.plain])⟩
  | ret => exact h

section
variable {b : Frame} {a : Act} {k : List Item} {cs : List Frame} {w : World}
theorem st_skip : step P (lone (fat b a (.code .skip :: k)) cs w) = .next (lone (fat b a k) cs w) := step_lone_go (by simp [stepG, stepG.exec, fat])
theorem st_label {l : Nat} : step P (lone (fat b a (.code (.label l) :: k)) cs w) = .next (lone (fat b a k) cs w) := step_lone_go (by simp [stepG, stepG.exec, fat])
theorem st_inBlock {id : Nat} : step P (lone (fat b a (.inBlock id :: k)) cs w) = .next (lone (fat b a k) cs w) := step_lone_go (by simp [stepG, stepG.exec, fat])
theorem st_inScope {c : Code} : step P (lone (fat b a (.inScope c :: k)) cs w) = .next (lone (fat b a k) cs w) := step_lone_go (by simp [stepG, stepG.exec, fat])
theorem st_seq {x y : Code} : step P (lone (fat b a (.code (.seq x y) :: k)) cs w) = .next (lone (fat b a (.code x :: .code y :: k)) cs w) := step_lone_go (by simp [stepG, stepG.exec, fat])
theorem st_cond {c : Operand} {x y : Code} {t : Bool} (h : a.eval c = .bool t) : step P (lone (fat b a (.code (.cond c x y) :: k)) cs w) = .next (lone (fat b a (.code (if t then x else y) :: k)) cs w) :=
  step_lone_go (by
    have he : (fat b a (.code (.cond c x y) :: k)).eval c = .bool t := by rw [fat_eval]; exact h
    simp only [fat] at he
    simp [stepG, stepG.exec, fat, he])
theorem st_block {id : Nat} {c : Code} : step P (lone (fat b a (.code (.block id c) :: k)) cs w) = .next (lone (fat b a (.code c :: .inBlock id :: k)) cs w) := step_lone_go (by simp [stepG, stepG.exec, fat])
theorem st_loop {c : Code} : step P (lone (fat b a (.code (.loop c) :: k)) cs w) = .next (lone (fat b a (.code c :: .inLoop c :: k)) cs w) := step_lone_go (by simp [stepG, stepG.exec, fat])
theorem st_inLoop {c : Code} : step P (lone (fat b a (.inLoop c :: k)) cs w) = .next (lone (fat b a (.code c :: .inLoop c :: k)) cs w) := step_lone_go (by simp [stepG, stepG.exec, fat])
theorem st_scope {c : Code} : step P (lone (fat b a (.code (.scope c) :: k)) cs w) = .next (lone (fat b a (.code c :: .inScope c :: k)) cs w) := step_lone_go (by simp [stepG, stepG.exec, fat])
theorem st_exit {id : Nat} {k' : List Item} (h : exitTo id k = some k') : step P (lone (fat b a (.code (.exit id) :: k)) cs w) = .next (lone (fat b a k') cs w) :=
  step_lone_go (by simp [stepG, stepG.exec, fat, h])
theorem st_region {id : Nat} {ops : Array Oper} : step P (lone (fat b a (.code (.region id ops false) :: k)) cs w) = .next (lone (fat b a (.inRegion ops (List.range ops.size) :: k)) cs w) := step_lone_go (by simp [stepG, stepG.exec, fat])
theorem st_region_draw {id : Nat} {ops : Array Oper} : step P (lone (fat b a (.code (.region id ops true) :: k)) cs w) =
    .next (lone (fat b a (.inRegion ops (Region.schedule (P.follows .mixedOrders) ops (w.tape w.drawn (.order b.fn id))) :: k)) cs { w with drawn := w.drawn + 1 }) :=
  step_lone_go (by simp [stepG, stepG.exec, fat, choose, Sem.run, Question.forced, Question.cut])
theorem st_region_end {ops : Array Oper} : step P (lone (fat b a (.inRegion ops [] :: k)) cs w) = .next (lone (fat b a k) cs w) := step_lone_go (by simp [stepG, stepG.exec, fat])
theorem fat_finish (b : Frame) (a : Act) (ops : Array Oper) (i : Nat) (rest : List Nat) (k : List Item) (v : Value) :
    (fat b a (.inRegion ops (i :: rest) :: k)).finish v = fat b (a.put ((ops[i]?).bind (·.dst)) v) (.inRegion ops rest :: k) := by
  cases h : (ops[i]?).bind (·.dst) <;> simp [Frame.finish, fat, Act.put, h]
theorem st_op_skip {ops : Array Oper} {i : Nat} {rest : List Nat} (h : ((ops[i]?).map (Region.wanted · (yielded ops a.tmps))).getD false = false) :
    step P (lone (fat b a (.inRegion ops (i :: rest) :: k)) cs w) = .next (lone (fat b (a.put ((ops[i]?).bind (·.dst)) undef) (.inRegion ops rest :: k)) cs w) := by
  rw [← fat_finish]
  exact step_lone_go (by
    have h' := h
    simp only [fat] at *
    simp [stepG, stepG.exec, h'])
theorem stG_op {ops : Array Oper} {i : Nat} {rest : List Nat} {o : Oper} (ho : ops[i]? = some o) (hw : Region.wanted o (yielded ops a.tmps) = true) (hd : ∀ c, o.op = .defer c → False) :
    stepG P true { frame := fat b a (.inRegion ops (i :: rest) :: k), callers := cs, status := .running, dying := none } w =
      stepG.apply P true (fat b a (.inRegion ops (i :: rest) :: k)) cs none (execOp a.eval o) w := by
  have he := fat_eval b a (.inRegion ops (i :: rest) :: k)
  cases hr : b.roundOf with
  | none =>
    simp only [fat, hr] at he
    simp [stepG, stepG.exec, stepG.oper, Frame.oper?, fat, ho, hw, hr, he]
  | some l =>
    simp only [fat, hr] at he
    simp only [stepG, stepG.exec, stepG.oper, Frame.oper?, fat, ho, hw, hr, Option.map_some, Option.getD_some, if_true]
    split
    · rename_i h1 h2; exact (hd _ h2).elim
    · rw [he]
theorem st_op {ops : Array Oper} {i : Nat} {rest : List Nat} {o : Oper} {u : Value} {w' : World} (ho : ops[i]? = some o) (hw : Region.wanted o (yielded ops a.tmps) = true) (hd : ∀ c, o.op = .defer c → False)
    (hr : RunsTo ((execOp a.eval o).run P w) u w') :
    step P (lone (fat b a (.inRegion ops (i :: rest) :: k)) cs w) = .next (lone (fat b (a.put o.dst u) (.inRegion ops rest :: k)) cs w') := by
  have hg := stG_op (P := P) (b := b) (k := k) (cs := cs) (w := w) (rest := rest) ho hw hd
  have hfin : (fat b a (.inRegion ops (i :: rest) :: k)).finish u = fat b (a.put o.dst u) (.inRegion ops rest :: k) := by
    rw [fat_finish, ho]; rfl
  refine step_lone_go ?_
  rw [hg, ← hfin]
  rcases hr with hr | ⟨hr, rfl⟩ <;> simp [stepG.apply, hr]
theorem st_op_enter {ops : Array Oper} {i : Nat} {rest : List Nat} {o : Oper} {f : FuncId} {args : Array Value} {w' : World} (ho : ops[i]? = some o) (hw : Region.wanted o (yielded ops a.tmps) = true) (hd : ∀ c, o.op = .defer c → False)
    (hr : (execOp a.eval o).run P w = .ok (.enter f args) w') :
    step P (lone (fat b a (.inRegion ops (i :: rest) :: k)) cs w) = .next (lone (Frame.enter P f args .normal) (fat b a (.inRegion ops (i :: rest) :: k) :: cs) w') := by
  refine step_lone_go ?_
  rw [stG_op ho hw hd]
  simp [stepG.apply, hr, fat]
theorem st_op_val {ops : Array Oper} {i : Nat} {rest : List Nat} {o : Oper} {u : Value} {w' : World} (ho : ops[i]? = some o) (hw : Region.wanted o (yielded ops a.tmps) = true) (hd : ∀ c, o.op = .defer c → False)
    (hr : (execOp a.eval o).run P w = .ok (.value u) w') :
    step P (lone (fat b a (.inRegion ops (i :: rest) :: k)) cs w) = .next (lone (fat b (a.put o.dst u) (.inRegion ops rest :: k)) cs w') :=
  st_op ho hw hd (.inl hr)
theorem st_op_round {ops : Array Oper} {i : Nat} {rest : List Nat} {o : Oper} {l : Nat} {f : FuncId} {ts : Array Value} {as bd : Code} {w' : World} (ho : ops[i]? = some o) (hw : Region.wanted o (yielded ops a.tmps) = true) (hd : ∀ c, o.op = .defer c → False)
    (hr : (execOp a.eval o).run P w = .ok (.round l f ts as bd) w') :
    step P (lone (fat b a (.inRegion ops (i :: rest) :: k)) cs w) = .next (lone (Frame.round l f ts as bd .normal) (fat b a (.inRegion ops (i :: rest) :: k) :: cs) w') := by
  refine step_lone_go ?_
  rw [stG_op ho hw hd]
  simp [stepG.apply, hr]
end
end Go.Proofs.YtcmjidnbbfcbjaaGreatDoor.V
