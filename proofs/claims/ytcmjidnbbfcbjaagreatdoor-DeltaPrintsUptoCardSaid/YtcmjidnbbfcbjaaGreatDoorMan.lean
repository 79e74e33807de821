/- Parts of the proof, joined (V50); no condition. -/
import Derived.Test.YtcmjidnbbfcbjaaGreatDoorMal
import Derived.Test.YtcmjidnbbfcbjaaGreatDoorMah
/- Errors held against nil; no condition. -/
namespace Go.Proofs.YtcmjidnbbfcbjaaGreatDoor.V
open Go
set_option linter.unusedVariables false
set_option linter.unusedSimpArgs false
noncomputable section
variable {P : Program} {pol : Pol} {ρ : Operand → Option AV} {d : Option Tmp} {ty : TypeId} {p : String} {af : Array Edge} {gd : Option (Nat × Bool)}
@[go_sem] theorem binN_nilI (op : BinOp) (ms : Array (String × TypeId)) (y : Option AV) (g : Option Req) : binN op (some (.interface ms)) (some .nilI) y g = g := binN_not (by unfold nnil; split <;> simp_all)
@[go_sem] theorem binR_nilI (op : BinOp) (dt : Option TypeDesc) (g : Option Req) : binR P op dt (some .nilI) (some .nilI) g = g := by
  unfold binR
  simp only
  rw [show notNil dt .nilI .nilI = false by unfold notNil; split <;> simp_all]
  cases eqOp op <;> rfl
@[go_sem] theorem binR_ifcE (ms : Array (String × TypeId)) (t : TypeId) (v : AV) (g : Option Req) : binR P .eql (some (.interface ms)) (some (.ifc t v)) (some .nilI) g = some (.val (.sc (.bool false))) := rfl
@[go_sem] theorem binR_ifcN (ms : Array (String × TypeId)) (t : TypeId) (v : AV) (g : Option Req) : binR P .neq (some (.interface ms)) (some (.ifc t v)) (some .nilI) g = some (.val (.sc (.bool true))) := rfl
/-- What it is otherwise. -/
def genG (P : Program) (ρ : Operand → Option AV) (o : Oper) : Option Req := generic P ρ o
def ifcN (op : BinOp) (dt : Option TypeDesc) (x y : Option AV) (g : Option Req) : Option Req :=
  match dt, x, y, eqOp op with
  | some (.interface _), some .nilI, some .nilI, some b => some (.val (.sc (.bool b)))
  | _, _, _, _ => g
@[go_sem] theorem ifcN_eql (ms : Array (String × TypeId)) (g : Option Req) : ifcN .eql (some (.interface ms)) (some .nilI) (some .nilI) g = some (.val (.sc (.bool true))) := rfl
@[go_sem] theorem ifcN_neq (ms : Array (String × TypeId)) (g : Option Req) : ifcN .neq (some (.interface ms)) (some .nilI) (some .nilI) g = some (.val (.sc (.bool false))) := rfl
@[go_sem] theorem gen_nilI (op : BinOp) (t yt : TypeId) (x : Operand) : generic P ρ ⟨d, .binOp op t x (.const .nilIface) yt, ty, p, af, gd⟩ = ifcN op (P.underlying t) (ρ x) (ρ (.const .nilIface)) (genG P ρ ⟨d, .binOp op t x (.const .nilIface) yt, ty, p, af, gd⟩) := by
  unfold ifcN
  split
  · rename_i ms b ht hx hy hb
    have hx' : ((ρ x).bind AV.toV) = some .nilIface := by rw [hx]; rfl
    have hy' : ((ρ (.const .nilIface)).bind AV.toV) = some .nilIface := by rw [hy]; rfl
    rw [generic_pv (us := [.nilIface, .nilIface]) (u := .bool b) rfl (by simp [Op.operands, hx', hy'])]
    · rfl
    · simp only [execOp, hx', hy', Option.getD_some, pv_bind]
      have hg : pv P (eqGuard op t x (.const .nilIface) .nilIface .nilIface) = some () := by
        unfold eqGuard
        rcases eqOp_some hb with ⟨rfl, _⟩ | ⟨rfl, _⟩ <;> cases x <;> rfl
      have he : pv P (Op.equal t .nilIface .nilIface) = some true := by
        have h : ∀ n, pv P (Op.equalIn (n + 1) t .nilIface .nilIface) = some true := fun n => by simp only [Op.equalIn, pv_bind, pv_under ht]; rfl
        simp only [Op.equal, Op.maxDepth]; exact h 9999
      rw [hg, Option.bind_some]
      rcases eqOp_some hb with ⟨rfl, rfl⟩ | ⟨rfl, rfl⟩ <;> simp only [Go.binOp] <;> (rw [pv_bind, he]; rfl)
  · rfl
theorem flat_get {α : Type} {f : α → List AV} {w : Nat} [h : Wide f w] {l : List α} {i : Nat} {a : α} (ha : l[i]? = some a) : ((l.flatMap f).drop (i * w)).take w = f a := by
  rw [flat_drop]
  obtain ⟨hi, he⟩ := List.getElem?_eq_some_iff.1 ha
  rw [List.drop_eq_getElem_cons hi, he, List.flatMap_cons, List.take_append_of_le_length (by rw [h.len]; omega), List.take_of_length_le (by rw [h.len]; omega)]
theorem flat_set {α : Type} {f : α → List AV} {w : Nat} [h : Wide f w] {l : List α} {i : Nat} (hi : i < l.length) (b : α) : splice (l.flatMap f) (i * w) (f b) = (l.set i b).flatMap f := by
  have e1 : l.flatMap f = (l.take i).flatMap f ++ (l.drop i).flatMap f := by rw [← List.flatMap_append, List.take_append_drop]
  have e2 : ((l.take i).flatMap f).length = i * w := by rw [flat_len (w := w), List.length_take]; congr 1; omega
  rw [e1, ← e2, splice_app _ _ _ (by rw [h.len, flat_len (w := w), List.length_drop]; have : 1 * w ≤ (l.length - i) * w := Nat.mul_le_mul_right _ (by omega); omega)]
  rw [h.len, show w = 1 * w by omega, flat_drop, List.drop_drop, List.set_eq_take_append_cons_drop, if_pos hi]
  simp
theorem set_same {m : Mem} {id : Nat} {o : Ob} (h : m[id]? = some o) : m.set id o = m := by
  obtain ⟨hi, he⟩ := List.getElem?_eq_some_iff.1 h
  rw [← he, List.set_getElem_self]
end
end Go.Proofs.YtcmjidnbbfcbjaaGreatDoor.V
