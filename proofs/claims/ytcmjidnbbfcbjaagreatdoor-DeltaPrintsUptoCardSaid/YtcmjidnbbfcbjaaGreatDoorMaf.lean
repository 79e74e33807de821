/- Parts of the proof, joined (V38, V39, V40); no condition. -/
import Derived.Test.YtcmjidnbbfcbjaaGreatDoorMae
import Derived.Laws.StructEq
/- Structs held against each other; rows whose elements are some cells each; no condition. -/
namespace Go.Proofs.YtcmjidnbbfcbjaaGreatDoor.V
open Go
set_option linter.unusedVariables false
set_option linter.unusedSimpArgs false
noncomputable section
variable {P : Program} {pol : Pol} {en : Env} {ρ : Operand → Option AV} {d : Option Tmp} {ty : TypeId} {p : String} {af : Array Edge} {gd : Option (Nat × Bool)}
/-! Structs held against each other. -/
def okF (P : Program) : Nat → List Field → Bool
  | _, [] => true
  | i, f :: fs => f.name != "_" && f.offset == i && (match P.underlying f.type with | some .string | some .bool | some (.int _) => true | _ => false) && okF P (i + 1) fs
def flatS (P : Program) (t : TypeId) : Option (List TypeDesc) :=
  match P.underlying t with
  | some (.struct fs) => if okF P 0 fs.toList = true ∧ P.stoodInHeld t = false ∧ P.eqGuardType P.depth t = false then fs.toList.mapM fun f => P.underlying f.type else none
  | _ => none
def eq1 : TypeDesc → AV → AV → Option Bool
  | .string, .sc (.string a), .sc (.string b) => some (decide (a.data.toList = b.data.toList))
  | .bool, .sc (.bool a), .sc (.bool b) => some (a == b)
  | .int _, .sc (.int k a), .sc (.int k' b) => if k = k' then some (a == b) else none
  | _, _, _ => none
def andO (x y : Option Bool) : Option Bool :=
  match x, y with
  | some r, some s => some (r && s)
  | _, _ => none
@[go_sem] theorem andO_some (r s : Bool) : andO (some r) (some s) = some (r && s) := rfl
def eqC : List TypeDesc → List AV → List AV → Option Bool
  | [], [], [] => some true
  | d :: ds, a :: as, b :: bs => andO (eq1 d a b) (eqC ds as bs)
  | _, _, _ => none
@[go_sem] theorem eqC_nil : eqC [] [] [] = some true := rfl
@[go_sem] theorem eqC_cons (d : TypeDesc) (ds : List TypeDesc) (a b : AV) (as bs : List AV) : eqC (d :: ds) (a :: as) (b :: bs) = andO (eq1 d a b) (eqC ds as bs) := rfl
@[go_sem] theorem eq1_tx (a b : List UInt8) : eq1 .string (tx a) (tx b) = some (decide (a = b)) := rfl
@[go_sem] theorem eq1_bool (a b : Bool) : eq1 .bool (.sc (.bool a)) (.sc (.bool b)) = some (a == b) := rfl
@[go_sem] theorem eq1_int (k k' : IntKind) (a b : Int) : eq1 (.int k') (.sc (.int k a)) (.sc (.int k b)) = some (a == b) := by simp [eq1]
theorem pv_info {t : TypeId} {i : TypeInfo} (h : P.info? t = some i) : pv P (typeInfo t) = some i := by
  unfold typeInfo
  simp only [pv_bind, program, pv, Option.bind_some, h]
  rfl
theorem pv_isAgg {t : TypeId} {dd : TypeDesc} (h : P.underlying t = some dd) (hd : dd = .string ∨ dd = .bool ∨ ∃ k, dd = .int k) : pv P (isAgg t) = some false := by
  unfold isAgg
  simp only [pv_bind, pv_under h, Option.bind_some]
  rcases hd with rfl | rfl | ⟨k, rfl⟩ <;> rfl
theorem pv_part {t : TypeId} {dd : TypeDesc} (h : P.underlying t = some dd) (hd : dd = .string ∨ dd = .bool ∨ ∃ k, dd = .int k) {xs : Array Value} {o : Nat} {v : Value} (hv : xs[o]? = some v) : pv P (part t xs o) = some v := by
  unfold part
  simp only [pv_bind, pv_isAgg h hd, Option.bind_some, hv]
  rfl
theorem eq1_pv {dd : TypeDesc} {a b : AV} {r : Bool} (h : eq1 dd a b = some r) : (dd = .string ∨ dd = .bool ∨ ∃ k, dd = .int k) ∧ ∃ u v, a.toV = some u ∧ b.toV = some v ∧ ∀ (t : TypeId) (n : Nat), P.underlying t = some dd → pv P (Op.equalIn (n + 1) t u v) = some r := by
  unfold eq1 at h
  split at h
  · rename_i a b
    cases h
    refine ⟨Or.inl rfl, _, _, rfl, rfl, fun t n ht => ?_⟩
    simp only [Op.equalIn, pv_bind, pv_under ht, Option.bind_some]
    have : (a == b) = decide (a.data.toList = b.data.toList) := by
      obtain ⟨⟨x⟩⟩ := a
      obtain ⟨⟨y⟩⟩ := b
      show ((⟨x⟩ : Array UInt8) == ⟨y⟩) = decide (x = y)
      by_cases h : x = y <;> simp [h]
    rw [← this]; rfl
  · cases h
    refine ⟨Or.inr (Or.inl rfl), _, _, rfl, rfl, fun t n ht => ?_⟩
    simp only [Op.equalIn, pv_bind, pv_under ht, Option.bind_some]
    rfl
  · rename_i k k1 a k2 b
    split at h
    · rename_i hk
      subst hk
      cases h
      refine ⟨Or.inr (Or.inr ⟨_, rfl⟩), _, _, rfl, rfl, fun t n ht => ?_⟩
      simp only [Op.equalIn, pv_bind, pv_under ht, Option.bind_some, if_true]
      rfl
    · cases h
  · cases h
theorem pv_eqFields (n : Nat) (xs ys : Array Value) : ∀ (fs : List Field) (i : Nat) (ds : List TypeDesc) (as bs : List AV) (r : Bool), okF P i fs = true → (fs.mapM fun f => P.underlying f.type) = some ds → eqC ds as bs = some r →
    (∀ us, AV.toVL as = some us → ∀ j u, us[j]? = some u → xs[i + j]? = some u) → (∀ us, AV.toVL bs = some us → ∀ j u, us[j]? = some u → ys[i + j]? = some u) →
    (∃ us, AV.toVL as = some us) ∧ (∃ us, AV.toVL bs = some us) ∧ pv P (Op.eqFields (n + 1) xs ys fs) = some r
  | [], i, ds, as, bs, r, _, hm, he, _, _ => by
    simp only [List.mapM_nil, Option.pure_def, Option.some.injEq] at hm
    subst hm
    cases as <;> cases bs <;> simp only [eqC] at he <;> first | cases he | skip
    exact ⟨⟨[], rfl⟩, ⟨[], rfl⟩, rfl⟩
  | f :: fs, i, ds, as, bs, r, ho, hm, he, hx, hy => by
    simp only [okF, Bool.and_eq_true, bne_iff_ne, ne_eq, beq_iff_eq] at ho
    obtain ⟨⟨⟨h1, h2⟩, h3⟩, h4⟩ := ho
    simp only [List.mapM_cons, Option.bind_eq_bind, Option.bind_eq_some_iff, Option.pure_def, Option.some.injEq] at hm
    obtain ⟨dd, hd, ds', hds, rfl⟩ := hm
    match as, bs, he with
    | a :: as, b :: bs, he =>
      rw [eqC_cons] at he
      unfold andO at he
      split at he
      · rename_i r1 r2 he1 he2
        cases he
        obtain ⟨hdd, u, v, hu, hv, heq⟩ := eq1_pv (P := P) he1
        have hx' : ∀ us, AV.toVL as = some us → ∀ j w, us[j]? = some w → xs[i + 1 + j]? = some w := fun us hus j w hw => by
          have := hx (u :: us) (by simp only [AV.toVL, hu, hus]) (j + 1) w (by simpa using hw)
          rwa [show i + (j + 1) = i + 1 + j by omega] at this
        have hy' : ∀ us, AV.toVL bs = some us → ∀ j w, us[j]? = some w → ys[i + 1 + j]? = some w := fun us hus j w hw => by
          have := hy (v :: us) (by simp only [AV.toVL, hv, hus]) (j + 1) w (by simpa using hw)
          rwa [show i + (j + 1) = i + 1 + j by omega] at this
        obtain ⟨⟨us, hus⟩, ⟨vs, hvs⟩, ih⟩ := pv_eqFields n xs ys fs (i + 1) ds' as bs r2 h4 hds he2 hx' hy'
        refine ⟨⟨u :: us, by simp only [AV.toVL, hu, hus]⟩, ⟨v :: vs, by simp only [AV.toVL, hv, hvs]⟩, ?_⟩
        have e1 : xs[f.offset]? = some u := by have := hx (u :: us) (by simp only [AV.toVL, hu, hus]) 0 u rfl; rw [h2]; simpa using this
        have e2 : ys[f.offset]? = some v := by have := hy (v :: vs) (by simp only [AV.toVL, hv, hvs]) 0 v rfl; rw [h2]; simpa using this
        simp only [Op.eqFields, ne_eq, h1, not_false_eq_true, if_true, pv_bind, pv_part hd hdd e1, pv_part hd hdd e2, heq f.type n hd, Option.bind_some]
        cases r1
        · rfl
        · simpa using ih
      · cases he
    | [], _, he => cases he
    | _ :: _, [], he => cases he
theorem pv_ite {α : Type} (c : Prop) [Decidable c] (a b : Sem α) : pv P (if c then a else b) = if c then pv P a else pv P b := by split <;> rfl
theorem pv_equalS (n : Nat) {t : TypeId} {fs : Array Field} (ht : P.underlying t = some (.struct fs)) (hp : P.stoodInHeld t = false) (xs ys : Array Value) : pv P (Op.equalIn (n + 1) t (.agg xs) (.agg ys)) = pv P (Op.eqFields n xs ys fs.toList) := by
  have hprog : pv P program = some P := rfl
  simp only [Op.equalIn, pv_bind, pv_under ht, Option.bind_some, hprog, hp, Bool.false_eq_true, if_false]
  rw [← Array.forIn_toList]
  generalize fs.toList = l
  clear ht
  induction l with
  | nil => rfl
  | cons f l ih =>
    simp only [List.forIn_cons, Op.eqFields, pv_bind]
    by_cases hf : f.name ≠ "_"
    · simp only [hf, if_true, pv_bind, ne_eq, not_false_eq_true]
      cases pv P (part f.type xs f.offset) with
      | none => rfl
      | some a =>
        simp only [Option.bind_some]
        cases pv P (part f.type ys f.offset) with
        | none => rfl
        | some b =>
          simp only [Option.bind_some]
          cases pv P (Op.equalIn n f.type a b) with
          | none => rfl
          | some r =>
            cases r
            · rfl
            · exact ih
    · simp only [hf, if_false]
      exact ih
def binA (op : BinOp) (ds : Option (List TypeDesc)) (x y : Option AV) (g : Option Req) : Option Req :=
  match x, y with
  | some (.agg as), some (.agg bs) => match eqOp op, ds.bind fun ds => eqC ds as bs with
    | some e, some r => some (.val (.sc (.bool (r == e))))
    | _, _ => g
  | _, _ => g
def eqV (op : BinOp) (r : Option Bool) (g : Option Req) : Option Req :=
  match eqOp op, r with
  | some e, some r => some (.val (.sc (.bool (r == e))))
  | _, _ => g
@[go_sem] theorem eqV_eql (r : Bool) (g : Option Req) : eqV .eql (some r) g = some (.val (.sc (.bool r))) := by cases r <;> rfl
@[go_sem] theorem eqV_neq (r : Bool) (g : Option Req) : eqV .neq (some r) g = some (.val (.sc (.bool !r))) := by cases r <;> rfl
@[go_sem] theorem binA_agg (op : BinOp) (ds : List TypeDesc) (as bs : List AV) (g : Option Req) : binA op (some ds) (some (.agg as)) (some (.agg bs)) g = eqV op (eqC ds as bs) g := rfl
@[go_sem] theorem binA_sc (op : BinOp) (ds : Option (List TypeDesc)) (v : Value) (y : Option AV) (g : Option Req) : binA op ds (some (.sc v)) y g = g := rfl
@[go_sem] theorem binA_nilP (op : BinOp) (ds : Option (List TypeDesc)) (y : Option AV) (g : Option Req) : binA op ds (some .nilP) y g = g := rfl
@[go_sem] theorem binA_nilS (op : BinOp) (ds : Option (List TypeDesc)) (y : Option AV) (g : Option Req) : binA op ds (some .nilS) y g = g := rfl
@[go_sem] theorem binA_nilI (op : BinOp) (ds : Option (List TypeDesc)) (y : Option AV) (g : Option Req) : binA op ds (some .nilI) y g = g := rfl
@[go_sem] theorem binA_nilM (op : BinOp) (ds : Option (List TypeDesc)) (y : Option AV) (g : Option Req) : binA op ds (some .nilM) y g = g := rfl
@[go_sem] theorem binA_nilF (op : BinOp) (ds : Option (List TypeDesc)) (y : Option AV) (g : Option Req) : binA op ds (some .nilF) y g = g := rfl
@[go_sem] theorem binA_ptr (op : BinOp) (ds : Option (List TypeDesc)) (a b c : Nat) (y : Option AV) (g : Option Req) : binA op ds (some (.ptr a b c)) y g = g := rfl
@[go_sem] theorem binA_cptr (op : BinOp) (ds : Option (List TypeDesc)) (cs : List AV) (y : Option AV) (g : Option Req) : binA op ds (some (.cptr cs)) y g = g := rfl
@[go_sem] theorem binA_lst (op : BinOp) (ds : Option (List TypeDesc)) (n : Nat) (cs : List AV) (c : Bool) (y : Option AV) (g : Option Req) : binA op ds (some (.lst n cs c)) y g = g := rfl
@[go_sem] theorem binA_own (op : BinOp) (ds : Option (List TypeDesc)) (a b c e f : Nat) (y : Option AV) (g : Option Req) : binA op ds (some (.own a b c e f)) y g = g := rfl
@[go_sem] theorem binA_mp (op : BinOp) (ds : Option (List TypeDesc)) (a : Nat) (y : Option AV) (g : Option Req) : binA op ds (some (.mp a)) y g = g := rfl
@[go_sem] theorem binA_ifc (op : BinOp) (ds : Option (List TypeDesc)) (t : TypeId) (v : AV) (y : Option AV) (g : Option Req) : binA op ds (some (.ifc t v)) y g = g := rfl
@[go_sem] theorem binA_clo (op : BinOp) (ds : Option (List TypeDesc)) (f : Fn) (a b : List AV) (y : Option AV) (g : Option Req) : binA op ds (some (.clo f a b)) y g = g := rfl
@[go_sem] theorem binA_sl {α : Type} (op : BinOp) (ds : Option (List TypeDesc)) (f : α → AV) (x : Sl α) (y : Option AV) (g : Option Req) : binA op ds (some (sl f x)) y g = g := by unfold sl; split <;> rfl
theorem gen_agg {op : BinOp} {t yt : TypeId} {x y : Operand} {as bs : List AV} {ds : List TypeDesc} {e r : Bool} (hx : ρ x = some (.agg as)) (hy : ρ y = some (.agg bs)) (hf : flatS P t = some ds) (ho : eqOp op = some e) (he : eqC ds as bs = some r) :
    generic P ρ ⟨d, .binOp op t x y yt, ty, p, af, gd⟩ = some (.val (.sc (.bool (r == e)))) := by
  unfold flatS at hf
  split at hf
  case h_2 => cases hf
  rename_i fs ht
  split at hf
  case isFalse => cases hf
  rename_i hc
  obtain ⟨h1, h2, h3⟩ := hc
  have key : ∀ us vs, AV.toVL as = some us → AV.toVL bs = some vs → pv P (Op.eqFields 9999 us.toArray vs.toArray fs.toList) = some r := fun us vs hus hvs => by
    refine (pv_eqFields 9998 us.toArray vs.toArray fs.toList 0 ds as bs r h1 hf he (fun us' hus' j u hu => ?_) (fun us' hus' j u hu => ?_)).2.2
    · rw [hus] at hus'; cases hus'; simpa using hu
    · rw [hvs] at hus'; cases hus'; simpa using hu
  obtain ⟨⟨us, hus⟩, ⟨vs, hvs⟩, _⟩ := pv_eqFields (P := P) 9998 ((AV.toVL as).getD []).toArray ((AV.toVL bs).getD []).toArray fs.toList 0 ds as bs r h1 hf he (fun us' hus' j u hu => by rw [hus']; simpa using hu) (fun us' hus' j u hu => by rw [hus']; simpa using hu)
  have hk := key us vs hus hvs
  rw [generic_pv (us := [.agg us.toArray, .agg vs.toArray]) (u := .bool (r == e)) rfl (by simp [Op.operands, hx, hy, AV.toV, hus, hvs])]
  · rfl
  · simp only [execOp, hx, hy, Option.bind_some, AV.toV, hus, hvs, Option.map_some, Option.getD_some, pv_bind]
    have hg : pv P (eqGuard op t x y (.agg us.toArray) (.agg vs.toArray)) = some () := by
      unfold eqGuard
      have hprog : pv P program = some P := rfl
      rcases eqOp_some ho with ⟨rfl, _⟩ | ⟨rfl, _⟩ <;> simp [pv_bind, hprog, h3] <;> rfl
    rw [hg, Option.bind_some]
    have h5 : pv P (Op.equal t (.agg us.toArray) (.agg vs.toArray)) = some r := by
      simp only [Op.equal, Op.maxDepth]
      rw [pv_equalS 9999 ht h2]; exact hk
    rcases eqOp_some ho with ⟨rfl, rfl⟩ | ⟨rfl, rfl⟩ <;> simp only [Go.binOp] <;> rw [pv_bind, h5] <;> cases r <;> rfl
@[go_sem 15000] theorem plan_binA (op : BinOp) (t yt : TypeId) (x y : Operand) : plan P ρ ⟨d, .binOp op t x y yt, ty, p, af, gd⟩ = binA op (flatS P t) (ρ x) (ρ y) (binT op (ρ x) (ρ y) (binN op (P.underlying t) (ρ x) (ρ y) (binR P op (P.underlying t) (ρ x) (ρ y) (generic P ρ ⟨d, .binOp op t x y yt, ty, p, af, gd⟩)))) := by
  unfold binA
  split
  · rename_i as bs hx hy
    split
    · rename_i e r ho he
      cases hf : flatS P t with
      | none => rw [hf] at he; cases he
      | some ds =>
        rw [hf] at he
        rw [plan_bin, hx, hy]
        have hb : binR P op (P.underlying t) (some (.agg as)) (some (.agg bs)) (generic P ρ ⟨d, .binOp op t x y yt, ty, p, af, gd⟩) = generic P ρ ⟨d, .binOp op t x y yt, ty, p, af, gd⟩ := by
          simp only [binR]
          cases P.underlying t with
          | none => rfl
          | some dd => cases dd <;> rfl
        rw [hb]
        exact gen_agg hx hy hf ho he
    · exact plan_binT op t yt x y
  · exact plan_binT op t yt x y
end
end Go.Proofs.YtcmjidnbbfcbjaaGreatDoor.V
/- Rows whose elements are some cells each, as rules; no condition. -/
namespace Go.Proofs.YtcmjidnbbfcbjaaGreatDoor.V
open Go
set_option linter.unusedVariables false
set_option linter.unusedSimpArgs false
noncomputable section
variable {P : Program} {pol : Pol} {en : Env} {ρ : Operand → Option AV} {d : Option Tmp} {ty : TypeId} {p : String} {af : Array Edge} {gd : Option (Nat × Bool)}
/-- What is laid in 'w' cells without addresses. -/
class Wide {α : Type} (f : α → List AV) (w : outParam Nat) : Prop where
  len : ∀ a, (f a).length = w
  pos : 0 < w
  clean : ∀ a, ∀ c ∈ f a, Clean c ∧ ∀ t u, c ≠ .ifc t u
section
variable {α : Type} {f : α → List AV} {w : Nat}
theorem flat_len [h : Wide f w] (l : List α) : (l.flatMap f).length = l.length * w := by
  induction l with
  | nil => simp
  | cons a l ih => rw [List.flatMap_cons, List.length_append, ih, h.len, List.length_cons, Nat.succ_mul]; omega
theorem flat_drop [h : Wide f w] : ∀ (i : Nat) (l : List α), (l.flatMap f).drop (i * w) = (l.drop i).flatMap f
  | 0, l => by simp
  | i + 1, [] => by simp
  | i + 1, a :: l => by
    rw [List.flatMap_cons, List.drop_succ_cons, ← flat_drop i l, List.drop_append, List.drop_eq_nil_of_le (by rw [h.len, Nat.succ_mul]; omega), List.nil_append, h.len]
    congr 1
    rw [Nat.succ_mul]; omega
theorem flat_take [h : Wide f w] : ∀ (i : Nat) (l : List α), (l.flatMap f).take (i * w) = (l.take i).flatMap f
  | 0, l => by simp
  | i + 1, [] => by simp
  | i + 1, a :: l => by
    rw [List.flatMap_cons, List.take_succ_cons, List.flatMap_cons, ← flat_take i l, List.take_append, List.take_of_length_le (by rw [h.len, Nat.succ_mul]; omega), h.len]
    congr 2
    rw [Nat.succ_mul]; omega
theorem flat_leaf [h : Wide f w] (l : List α) : (l.flatMap f).all AV.leaf = true := by
  rw [List.all_eq_true]
  intro c hc
  rw [List.mem_flatMap] at hc
  obtain ⟨a, _, hc⟩ := hc
  exact (h.clean a c hc).1.1
theorem flat_low [h : Wide f w] (l : List α) (b : Nat) : AV.lowL b (l.flatMap f) = true := by
  rw [lowL_iff]
  intro c hc
  rw [List.mem_flatMap] at hc
  obtain ⟨a, _, hc⟩ := hc
  exact (h.clean a c hc).1.2 b
end
def slf {α : Type} (f : α → List AV) (x : Sl α) : AV := if x.nil && x.l.isEmpty then .nilS else .lst x.l.length (x.l.flatMap f) x.clip
/-- What stands behind an element. -/
def tailF {α : Type} (f : α → List AV) (l : List α) (i : Nat) : List AV := (l.drop i).flatMap f
@[go_sem] theorem putC_slf {α : Type} (f : α → List AV) (x : Sl α) (ts : List AV) (d : Option Tmp) (k : List AV → Prop) : putC ts d (slf f x) k = k (put ts d (slf f x)) := rfl
@[go_sem] theorem leaf_slf {α : Type} (f : α → List AV) (x : Sl α) : (slf f x).leaf = true := by unfold slf; split <;> rfl
@[go_sem] theorem cells_slf {α : Type} (f : α → List AV) (x : Sl α) : (slf f x).cells = [slf f x] := cells_leaf (leaf_slf f x)
@[go_sem] theorem lenR_slf {α : Type} (f : α → List AV) (x : Sl α) (e : TypeId) (g : Option Req) : lenR (some (slf f x)) (some (.slice e)) g = some (.val (I x.l.length)) := by
  unfold slf
  split
  · rename_i h; simp only [Bool.and_eq_true, List.isEmpty_iff] at h; rw [h.2]; rfl
  · rfl
@[go_sem] theorem srcR_slf {α : Type} (f : α → List AV) (x : Sl α) : srcR (some (slf f x)) = some (.lst x.l.length (x.l.flatMap f)) := by
  unfold slf
  split
  · rename_i h; simp only [Bool.and_eq_true, List.isEmpty_iff] at h; rw [h.2]; rfl
  · rfl
@[go_sem] theorem binA_slf {α : Type} (op : BinOp) (ds : Option (List TypeDesc)) (f : α → List AV) (x : Sl α) (y : Option AV) (g : Option Req) : binA op ds (some (slf f x)) y g = g := by unfold slf; split <;> rfl
theorem clean_slf {α : Type} {f : α → List AV} {w : Nat} [h : Wide f w] (x : Sl α) : Clean (slf f x) := by
  refine ⟨leaf_slf f x, fun b => ?_⟩
  unfold slf
  split
  · rfl
  · exact flat_low (w := w) x.l b
theorem slf_ifc {α : Type} (f : α → List AV) (x : Sl α) (t : TypeId) (u : AV) : slf f x ≠ .ifc t u := by unfold slf; split <;> simp
@[go_sem] theorem frzQ_slf {α : Type} {f : α → List AV} {w : Nat} [h : Wide f w] (m : Mem) (b d : Nat) (x : Sl α) (k : AV → Prop) : frzQ m b (d + 1) (slf f x) k = k (slf f x) := by
  unfold frzQ
  rw [clean_frz (clean_slf (w := w) x) m b d (slf_ifc f x)]
  simp
/-! Elements. -/
def idxF {α : Type} (so : Option Nat) (w : Nat) (f : α → List AV) (x : Sl α) (i : Int) (g : Option Req) : Option Req :=
  match so with
  | some s => if s = w then (if 0 ≤ i ∧ i < x.l.length then (x.l[i.toNat]?).map (fun a => .val (.cptr (f a ++ tailF f x.l (i.toNat + 1)))) else none) else g
  | none => g
theorem idxF_some {α : Type} (w : Nat) (f : α → List AV) (x : Sl α) (i : Int) (g : Option Req) : idxF (some w) w f x i g = if 0 ≤ i ∧ i < x.l.length then (x.l[i.toNat]?).map (fun a => .val (.cptr (f a ++ tailF f x.l (i.toNat + 1)))) else none := by simp [idxF]
theorem idxR_slf {α : Type} {f : α → List AV} {w : Nat} [h : Wide f w] (x : Sl α) {e : TypeId} (ik : IntKind) (i : Int) : idxR P (some (.slice e)) (some (slf f x)) (some (.sc (.int ik i))) = idxF (szOf P e) w f x i (idxQ P e (some (slf f x)) (some (.sc (.int ik i)))) := by
  unfold idxF
  split
  · rename_i s hs
    split
    · rename_i hw
      subst hw
      unfold slf
      split
      · rename_i hn; simp only [Bool.and_eq_true, List.isEmpty_iff] at hn
        simp only [idxR, Option.bind_some, asI, hs, hn.2, List.length_nil]
        rw [if_neg (by omega)]
      · simp only [idxR, Option.bind_some, asI, hs]
        by_cases hc : 0 ≤ i ∧ i < x.l.length
        · have hi : i.toNat < x.l.length := by omega
          rw [if_pos hc, if_pos ⟨hc.1, hc.2, by rw [flat_len]; exact Nat.mul_le_mul_right _ (by omega)⟩, List.getElem?_eq_getElem hi, Option.map_some, flat_drop, List.drop_eq_getElem_cons hi, List.flatMap_cons]
          rfl
        · rw [if_neg hc, if_neg (by omega)]
    · rfl
  · rfl
@[go_sem] theorem ldR_c1 (c : AV) (cs : List AV) (n : Nat) : ldR (some (.cptr (c :: cs))) (some n) (some false) = some (.val c) := rfl
@[go_sem] theorem ldR_cN (cs : List AV) (n : Nat) : ldR (some (.cptr cs)) (some n) (some true) = if n ≤ cs.length then some (.val (.agg (cs.take n))) else none := rfl
@[go_sem] theorem fadR_c (o n : Nat) (ag : Bool) (cs : List AV) : fadR (some (o, n + 1, ag)) (some (.cptr cs)) = if o ≤ cs.length then some (.val (.cptr (cs.drop o))) else none := rfl
/-! Slices of slices. -/
theorem slR_slf {α : Type} {f : α → List AV} {w : Nat} [hw : Wide f w] (g : Option Req) (an : Option (Nat × Nat)) (x : Sl α) (l h : Int) (lo hi : Option (IntKind × Int)) (hl : (match lo with | none => (0 : Int) | some (_, l) => l) = l) (hh : (match hi with | none => (x.l.length : Int) | some (_, h) => h) = h) :
    slR g an (some (slf f x)) (some w) (some lo) (some hi) = if 0 ≤ l ∧ l ≤ h ∧ h ≤ x.l.length then some (.val (slf f (x.sub l.toNat h.toNat))) else none := by
  unfold slf
  split
  · rename_i hn; simp only [Bool.and_eq_true, List.isEmpty_iff] at hn
    have hll : x.l.length = 0 := by rw [hn.2]; rfl
    rw [hll] at hh
    simp only [slR, bounds, hll]
    cases lo <;> cases hi <;> simp only [] at hl hh <;> subst hl <;> subst hh <;>
    · simp only [Sl.sub, hn.1, hn.2]
      split <;> split <;> (simp_all; try omega)
  · rename_i hn
    have hsub : (x.nil && x.l.isEmpty) = false := by simpa using hn
    simp only [slR, bounds]
    have key : ∀ l h : Int, (match (if 0 ≤ l ∧ l ≤ h ∧ h ≤ (x.l.length : Int) then some (l.toNat, h.toNat) else none : Option (Nat × Nat)) with
        | some (l, h) => if h * w ≤ (x.l.flatMap f).length then some (Req.val (AV.lst (h - l) (((x.l.flatMap f).drop (l * w)).take ((h - l) * w)) (x.clip && decide (h = x.l.length)))) else none
        | none => none) = if 0 ≤ l ∧ l ≤ h ∧ h ≤ (x.l.length : Int) then some (Req.val (if ((x.sub l.toNat h.toNat).nil && (x.sub l.toNat h.toNat).l.isEmpty) = true then AV.nilS else AV.lst (x.sub l.toNat h.toNat).l.length ((x.sub l.toNat h.toNat).l.flatMap f) (x.sub l.toNat h.toNat).clip)) else none := by
      intro l h
      by_cases hc : 0 ≤ l ∧ l ≤ h ∧ h ≤ (x.l.length : Int)
      · rw [if_pos hc, if_pos hc]
        simp only
        rw [if_pos (by rw [flat_len]; exact Nat.mul_le_mul_right _ (by omega)), flat_drop, flat_take]
        simp only [Sl.sub, hsub, Bool.false_and, Bool.false_eq_true, if_false, List.length_take, List.length_drop]
        congr 2
        congr 1
        omega
      · rw [if_neg hc, if_neg hc]
    cases lo <;> cases hi <;> simp only [] at hl hh <;> subst hl <;> subst hh <;> exact key _ _
@[go_sem] theorem slR_slf_hi {α : Type} {f : α → List AV} {w : Nat} [hw : Wide f w] (g : Option Req) (an : Option (Nat × Nat)) (x : Sl α) (k : IntKind) (h : Int) : slR g an (some (slf f x)) (some w) (some none) (some (some (k, h))) = if 0 ≤ h ∧ h ≤ x.l.length then some (.val (slf f (x.sub 0 h.toNat))) else none := by
  rw [slR_slf g an x 0 h _ _ rfl rfl]; simp
@[go_sem] theorem slR_slf_lo {α : Type} {f : α → List AV} {w : Nat} [hw : Wide f w] (g : Option Req) (an : Option (Nat × Nat)) (x : Sl α) (k : IntKind) (l : Int) : slR g an (some (slf f x)) (some w) (some (some (k, l))) (some none) = if 0 ≤ l ∧ l ≤ x.l.length then some (.val (slf f (x.sub l.toNat x.l.length))) else none := by
  rw [slR_slf g an x l x.l.length _ _ rfl rfl]; simp
@[go_sem] theorem slR_slf_both {α : Type} {f : α → List AV} {w : Nat} [hw : Wide f w] (g : Option Req) (an : Option (Nat × Nat)) (x : Sl α) (k k' : IntKind) (l h : Int) : slR g an (some (slf f x)) (some w) (some (some (k, l))) (some (some (k', h))) = if 0 ≤ l ∧ l ≤ h ∧ h ≤ x.l.length then some (.val (slf f (x.sub l.toNat h.toNat))) else none :=
  slR_slf g an x l h _ _ rfl rfl
@[go_sem] theorem sub_l {α : Type} (x : Sl α) (l h : Nat) : (x.sub l h).l = (x.l.drop l).take (h - l) := rfl
/-! '[]T{x, ..}'. -/
def buildW (P : Program) (t : TypeId) : Option Nat :=
  match elemOfS P t with
  | some e => match szOf P e, zeroOf P e with
    | some w, some z => if z.cells.length = w ∧ w ≤ 64 then some w else none
    | _, _ => none
  | none => none
def rowOf (w : Nat) : Nat → List (Nat × AV) → Option (List AV)
  | _, [] => some []
  | i, (j, v) :: ps => if j = i ∧ v.cells.length = w ∧ v.cells.all AV.leaf = true then (rowOf w (i + 1) ps).map (v.cells ++ ·) else none
@[go_sem] theorem rowOf_nil (w i : Nat) : rowOf w i [] = some [] := rfl
@[go_sem] theorem rowOf_cons (w i j : Nat) (v : AV) (ps : List (Nat × AV)) : rowOf w i ((j, v) :: ps) = if j = i ∧ v.cells.length = w ∧ v.cells.all AV.leaf = true then (rowOf w (i + 1) ps).map (v.cells ++ ·) else none := rfl
theorem splice_app : ∀ (vs pre zs : List AV), vs.length ≤ zs.length → splice (pre ++ zs) pre.length vs = pre ++ vs ++ zs.drop vs.length
  | [], pre, zs, _ => by simp [splice]
  | v :: vs, pre, [], h => by simp at h
  | v :: vs, pre, z :: zs, h => by
    rw [splice, List.set_append_right _ _ (Nat.le_refl _), Nat.sub_self, List.set_cons_zero]
    have := splice_app vs (pre ++ [v]) zs (by simpa using h)
    simp only [List.length_append, List.length_cons, List.length_nil, List.append_assoc, List.cons_append, List.nil_append] at this
    rw [this]
    simp
theorem fill_row {w : Nat} : ∀ (ps : List (Nat × AV)) (i : Nat) (pre zs cs : List AV), rowOf w i ps = some cs → pre.length = i * w → zs.length = ps.length * w → fillA (fun i => some (i * w, w)) (pre ++ zs) ps = some (pre ++ cs)
  | [], i, pre, zs, cs, h, h1, h2 => by
    simp only [rowOf, Option.some.injEq] at h
    subst h
    have : zs = [] := List.eq_nil_of_length_eq_zero (by simpa using h2)
    subst this; simp [fillA]
  | (j, v) :: ps, i, pre, zs, cs, h, h1, h2 => by
    rw [rowOf_cons] at h
    split at h
    case isFalse => cases h
    rename_i hc
    obtain ⟨rfl, hl, hv⟩ := hc
    simp only [Option.map_eq_some_iff] at h
    obtain ⟨cs', hcs, rfl⟩ := h
    have hz : zs.length = w + ps.length * w := by rw [h2, List.length_cons, Nat.succ_mul]; omega
    simp only [fillA]
    rw [if_neg]
    · rw [← h1, splice_app _ _ _ (by omega), fill_row ps (j + 1) (pre ++ v.cells) (zs.drop v.cells.length) cs' hcs (by rw [List.length_append, hl, h1, Nat.succ_mul]) (by rw [List.length_drop, hl]; omega)]
      simp
    · simp only [Bool.or_eq_true, decide_eq_true_eq, not_or, Bool.not_eq_true', hl, hv, List.length_append, h1, hz]
      simp
def bldP (wo : Option Nat) (n : Nat) (ps : Option (List (Nat × AV))) (g : Option Req) : Option Req :=
  match wo, ps with
  | some w, some ps => if ps.length = n ∧ n ≤ 65536 then (match rowOf w 0 ps with | some cs => some (.val (.lst n cs true)) | none => g) else g
  | _, _ => g
theorem plan_buildQ (t : TypeId) (n : Nat) (parts : Array (Nat × Operand)) : plan P ρ ⟨d, .buildSlice t n parts, ty, "", af, gd⟩ = bldP (buildW P t) n (partsOf ρ parts) (same P ρ ⟨d, .buildSlice t n parts, ty, "", af, gd⟩) := by
  unfold bldP
  split
  · rename_i w ps hw hps
    split
    · rename_i hc
      split
      · rename_i cs hcs
        unfold buildW at hw
        split at hw
        case h_2 => cases hw
        rename_i e he
        split at hw
        case h_2 => cases hw
        rename_i w' z hs hz
        split at hw
        case isFalse => cases hw
        rename_i hzw
        cases hw
        simp only [plan, he, hps, hs, hz, ownP_no, Bool.false_eq_true, if_false]
        have hle : n * w ≤ 65536 * 64 := Nat.mul_le_mul hc.2 hzw.2
        rw [if_neg (by simp [hzw.1]; omega)]
        have hlen : (List.replicate n z.cells).flatten.length = ps.length * w := by
          rw [hc.1]; simp [hzw.1]
        have := fill_row ps 0 [] (List.replicate n z.cells).flatten cs hcs (by simp) hlen
        simp only [List.nil_append] at this
        rw [this]; rfl
      · rfl
    · rfl
  · rfl
def lstO (n : Nat) (cs : Option (List AV)) (g : Option Req) : Option Req :=
  match cs with
  | some cs => some (.val (.lst n cs true))
  | none => g
@[go_sem] theorem lstO_some (n : Nat) (cs : List AV) (g : Option Req) : lstO n (some cs) g = some (.val (.lst n cs true)) := rfl
@[go_sem] theorem bldP_some (w n : Nat) (ps : List (Nat × AV)) (g : Option Req) : bldP (some w) n (some ps) g = if ps.length = n ∧ n ≤ 65536 then lstO n (rowOf w 0 ps) g else g := by
  simp only [bldP]
  split
  · cases rowOf w 0 ps <;> rfl
  · rfl
@[go_sem] theorem bldG_P (t : TypeId) (n : Nat) (parts : Array (Nat × Operand)) : bldG P ρ ⟨d, .buildSlice t n parts, ty, "", af, gd⟩ = bldP (buildW P t) n (partsOf ρ parts) (same P ρ ⟨d, .buildSlice t n parts, ty, "", af, gd⟩) := plan_buildQ t n parts
@[go_sem 100] theorem plan_buildP (t : TypeId) (n : Nat) (parts : Array (Nat × Operand)) : plan P ρ ⟨d, .buildSlice t n parts, ty, p, af, gd⟩ = ownR (ownP p) (ownT P t) (bldP (buildW P t) n (partsOf ρ parts) (same P ρ ⟨d, .buildSlice t n parts, ty, "", af, gd⟩)) := by rw [plan_own, bldG_P]
@[go_sem] theorem bld1_false (v : Option AV) (g : Option Req) : bld1 false v g = g := rfl
attribute [go_sem] List.all_cons List.all_nil Bool.and_true Bool.true_and
theorem rowOf_consT {w i : Nat} {v : AV} {ps : List (Nat × AV)} (h : v.cells.length = w ∧ v.cells.all AV.leaf = true) : rowOf w i ((i, v) :: ps) = (rowOf w (i + 1) ps).map (v.cells ++ ·) := by rw [rowOf_cons, if_pos ⟨rfl, h⟩]
end
end Go.Proofs.YtcmjidnbbfcbjaaGreatDoor.V
/- Several rows and objects that grow side by side; no condition. -/
namespace Go.Proofs.YtcmjidnbbfcbjaaGreatDoor.V
open Go
set_option linter.unusedVariables false
set_option linter.unusedSimpArgs false
noncomputable section
variable {P : Program} {pol : Pol} {en : Env}
/-- What 'append' asks for. -/
def AppLike (r : Req) : Prop := (∃ t i v o l e s, r = .app t i v o l e s) ∨ (∃ t e n p s, r = .appnew t e n p s) ∨ ∃ v, r = .val v
/-- What stands in the store: a row of n elements of w cells each (v: its slice), or an object. -/
inductive Ent where
  | row (w n : Nat) (cs : List AV) (v : AV)
  | at (id : Nat) (o : Ob)
def hold (m : Mem) (s : Option Nat) : Ent → Prop
  | .row w n cs v => (s = none ∧ n = 0 ∧ cs = [] ∧ v = .nilS) ∨ (0 < n ∧ ∃ id ver, s = some id ∧ v = .own id ver 0 n w ∧ m[id]? = some (.cells ver cs) ∧ cs.length = n * w)
  | .at id o => s = some id ∧ m[id]? = some o
structure Many (b : Nat) (es : List Ent) (m : Mem) : Prop where
  ex : ∃ ss : List (Option Nat), ss.length = es.length ∧ (∀ (i : Nat) (e : Ent) (s : Option Nat), es[i]? = some e → ss[i]? = some s → hold m s e) ∧ (∀ (i j id : Nat), ss[i]? = some (some id) → ss[j]? = some (some id) → i = j) ∧ (∀ (i id : Nat), ss[i]? = some (some id) → b ≤ id ∧ id < m.length)
  le : b ≤ m.length
theorem hold_frame {m m' : Mem} {s : Option Nat} {e : Ent} (h : hold m s e) (hm : ∀ id, s = some id → m'[id]? = m[id]?) : hold m' s e := by
  cases e with
  | row w n cs v =>
    rcases h with h | ⟨h0, id, ver, h1, h2, h3, h4⟩
    · exact Or.inl h
    · exact Or.inr ⟨h0, id, ver, h1, h2, by rw [hm id h1]; exact h3, h4⟩
  | «at» id o => exact ⟨h.1, by rw [hm id h.1]; exact h.2⟩
theorem Many.nil {b : Nat} {m : Mem} (h : b ≤ m.length) : Many b [] m := ⟨⟨[], rfl, by simp, by simp, by simp⟩, h⟩
theorem Many.push {b : Nat} {es : List Ent} {m : Mem} (h : Many b es m) (l : Mem) : Many b es (m ++ l) := by
  obtain ⟨⟨ss, h1, h2, h3, h4⟩, h5⟩ := h
  refine ⟨⟨ss, h1, fun i e s he hs => ?_, h3, fun i id hid => ?_⟩, by simp; omega⟩
  · refine hold_frame (h2 i e s he hs) fun id hid => ?_
    subst hid
    exact List.getElem?_append_left (h4 i id hs).2
  · have := h4 i id hid
    simp; omega
theorem Many.new {b : Nat} {es : List Ent} {m : Mem} (h : Many b es m) (o : Ob) : Many b (es ++ [.at m.length o]) (m ++ [o]) := by
  have hp := h.push [o]
  obtain ⟨⟨ss, h1, h2, h3, h4⟩, h5⟩ := h
  obtain ⟨⟨ss', g1, g2, g3, g4⟩, g5⟩ := hp
  have old : ∀ i s, (ss ++ [some m.length])[i]? = some s → i < ss.length ∧ ss[i]? = some s ∨ i = ss.length ∧ s = some m.length := fun i s hs => by
    rw [List.getElem?_append] at hs
    split at hs
    · exact Or.inl ⟨by assumption, hs⟩
    · rename_i hi
      right
      have : i - ss.length = 0 := by
        rcases Nat.eq_zero_or_pos (i - ss.length) with h0 | h0
        · exact h0
        · rw [List.getElem?_eq_none (by simp; omega)] at hs; cases hs
      rw [this] at hs
      simp only [List.getElem?_cons_zero, Option.some.injEq] at hs
      exact ⟨by omega, hs.symm⟩
  refine ⟨⟨ss ++ [some m.length], by simp [h1], fun i e s he hs => ?_, fun i j id hi hj => ?_, fun i id hi => ?_⟩, g5⟩
  · rcases old i s hs with ⟨hi, hs⟩ | ⟨rfl, rfl⟩
    · rw [List.getElem?_append_left (by omega)] at he
      refine hold_frame (h2 i e s he hs) fun id hid => ?_
      subst hid
      exact List.getElem?_append_left (h4 i id hs).2
    · rw [h1, List.getElem?_append_right (Nat.le_refl _), Nat.sub_self] at he
      cases he
      exact ⟨rfl, by simp⟩
  · rcases old i _ hi with ⟨hi1, hi2⟩ | ⟨rfl, hi2⟩ <;> rcases old j _ hj with ⟨hj1, hj2⟩ | ⟨rfl, hj2⟩
    · exact h3 i j id hi2 hj2
    · cases hj2; have := (h4 i _ hi2).2; omega
    · cases hi2; have := (h4 j _ hj2).2; omega
    · rfl
  · rcases old i _ hi with ⟨hi1, hi2⟩ | ⟨rfl, hi2⟩
    · have := h4 i id hi2; simp; omega
    · cases hi2; simp; omega
theorem Many.newRow {b : Nat} {es : List Ent} {m : Mem} (h : Many b es m) (w : Nat) : Many b (es ++ [.row w 0 [] .nilS]) m := by
  obtain ⟨⟨ss, h1, h2, h3, h4⟩, h5⟩ := h
  have old : ∀ i s, (ss ++ [none])[i]? = some s → i < ss.length ∧ ss[i]? = some s ∨ i = ss.length ∧ s = none := fun i s hs => by
    rw [List.getElem?_append] at hs
    split at hs
    · exact Or.inl ⟨by assumption, hs⟩
    · rename_i hi
      right
      have : i - ss.length = 0 := by
        rcases Nat.eq_zero_or_pos (i - ss.length) with h0 | h0
        · exact h0
        · rw [List.getElem?_eq_none (by simp; omega)] at hs; cases hs
      rw [this] at hs
      simp only [List.getElem?_cons_zero, Option.some.injEq] at hs
      exact ⟨by omega, hs.symm⟩
  refine ⟨⟨ss ++ [none], by simp [h1], fun i e s he hs => ?_, fun i j id hi hj => ?_, fun i id hi => ?_⟩, h5⟩
  · rcases old i s hs with ⟨hi, hs⟩ | ⟨rfl, rfl⟩
    · rw [List.getElem?_append_left (by omega)] at he
      exact h2 i e s he hs
    · rw [h1, List.getElem?_append_right (Nat.le_refl _), Nat.sub_self] at he
      cases he
      exact Or.inl ⟨rfl, rfl, rfl, rfl⟩
  · rcases old i _ hi with ⟨hi1, hi2⟩ | ⟨rfl, hi2⟩ <;> rcases old j _ hj with ⟨hj1, hj2⟩ | ⟨rfl, hj2⟩
    · exact h3 i j id hi2 hj2
    · cases hj2
    · cases hi2
    · rfl
  · rcases old i _ hi with ⟨hi1, hi2⟩ | ⟨rfl, hi2⟩
    · exact h4 i id hi2
    · cases hi2
theorem Many.init {b : Nat} {es l : List Ent} {m : Mem} (h : Many b (es ++ l) m) : Many b es m := by
  obtain ⟨⟨ss, h1, h2, h3, h4⟩, h5⟩ := h
  have hl : es.length ≤ ss.length := by rw [h1]; simp
  have old : ∀ i s, (ss.take es.length)[i]? = some s → i < es.length ∧ ss[i]? = some s := fun i s hs => by
    rw [List.getElem?_take] at hs
    split at hs
    · exact ⟨by assumption, hs⟩
    · cases hs
  refine ⟨⟨ss.take es.length, by simp; omega, fun i e s he hs => ?_, fun i j id hi hj => h3 i j id (old i _ hi).2 (old j _ hj).2, fun i id hi => h4 i id (old i _ hi).2⟩, h5⟩
  exact h2 i e s (by rw [List.getElem?_append_left (old i s hs).1]; exact he) (old i s hs).2
theorem Many.get {b : Nat} {es : List Ent} {m : Mem} (h : Many b es m) {i id : Nat} {o : Ob} (he : es[i]? = some (.at id o)) : m[id]? = some o ∧ b ≤ id ∧ id < m.length := by
  obtain ⟨⟨ss, h1, h2, h3, h4⟩, h5⟩ := h
  have hi : i < ss.length := by rw [h1]; exact (List.getElem?_eq_some_iff.1 he).1
  obtain ⟨g1, g2⟩ := h2 i _ ss[i] he (List.getElem?_eq_getElem hi)
  have : ss[i]? = some (some id) := by rw [List.getElem?_eq_getElem hi, g1]
  exact ⟨g2, h4 i id this⟩
/-- One of them is something else. -/
theorem Many.put {b : Nat} {es : List Ent} {m m' : Mem} {ss : List (Option Nat)} (h1 : ss.length = es.length) (h2 : ∀ (i : Nat) (e : Ent) (s : Option Nat), es[i]? = some e → ss[i]? = some s → hold m s e) (h3 : ∀ (i j id : Nat), ss[i]? = some (some id) → ss[j]? = some (some id) → i = j)
    (h4 : ∀ (i id : Nat), ss[i]? = some (some id) → b ≤ id ∧ id < m.length) (h5 : b ≤ m.length) {i : Nat} (hi : i < es.length) {s : Option Nat} {e : Ent} (hh : hold m' s e) (hm : ∀ (j id : Nat), j ≠ i → ss[j]? = some (some id) → m'[id]? = m[id]?) (hl : m.length ≤ m'.length)
    (hs : ∀ id, s = some id → b ≤ id ∧ id < m'.length ∧ (ss[i]? = some (some id) ∨ m.length ≤ id)) : Many b (es.set i e) m' := by
  refine ⟨⟨ss.set i s, by simp [h1], fun j e' s' he hs' => ?_, fun j k id hj hk => ?_, fun j id hj => ?_⟩, by omega⟩
  · rw [List.getElem?_set] at he hs'
    split at he
    · rename_i hij
      subst hij
      rw [if_pos rfl, if_pos (by omega)] at hs'
      cases he; cases hs'; exact hh
    · rename_i hij
      rw [if_neg hij] at hs'
      refine hold_frame (h2 j e' s' he hs') fun id hid => ?_
      subst hid
      exact hm j id (fun e => hij e.symm) hs'
  · rw [List.getElem?_set] at hj hk
    split at hj
    · rename_i hij
      subst hij
      rw [if_pos (by omega)] at hj
      cases hj
      split at hk
      · assumption
      · obtain ⟨_, _, g⟩ := hs id rfl
        rcases g with g | g
        · exact h3 i k id g hk
        · have := (h4 k id hk).2; omega
    · rename_i hij
      split at hk
      · rename_i hik
        subst hik
        rw [if_pos (by omega)] at hk
        cases hk
        obtain ⟨_, _, g⟩ := hs id rfl
        rcases g with g | g
        · exact h3 j i id hj g
        · have := (h4 j id hj).2; omega
      · exact h3 j k id hj hk
  · rw [List.getElem?_set] at hj
    split at hj
    · rename_i hij
      subst hij
      rw [if_pos (by omega)] at hj
      cases hj
      obtain ⟨g1, g2, _⟩ := hs id rfl
      exact ⟨g1, g2⟩
    · have := h4 j id hj; omega
theorem Many.set {b : Nat} {es : List Ent} {m : Mem} (h : Many b es m) {i id : Nat} {o : Ob} (he : es[i]? = some (.at id o)) (o' : Ob) : Many b (es.set i (.at id o')) (m.set id o') := by
  obtain ⟨g1, g2, g3⟩ := h.get he
  obtain ⟨⟨ss, h1, h2, h3, h4⟩, h5⟩ := h
  have hi : i < es.length := (List.getElem?_eq_some_iff.1 he).1
  have hsi : ss[i]? = some (some id) := by
    have hi' : i < ss.length := by omega
    have := (h2 i _ ss[i] he (List.getElem?_eq_getElem hi')).1
    rw [List.getElem?_eq_getElem hi', this]
  refine Many.put h1 h2 h3 h4 h5 hi (s := some id) ⟨rfl, by simp [g3]⟩ (fun j id' hj hs => ?_) (by simp) (fun id' e => ?_)
  · have : id ≠ id' := fun e => by subst e; exact hj (h3 j i id hs hsi)
    rw [List.getElem?_set_ne this]
  · cases e; exact ⟨g2, by simpa using g3, Or.inl hsi⟩
/-- More of a row. -/
theorem Many.app {b : Nat} {es : List Ent} {m : Mem} (h : Many b es m) {i w n : Nat} {cs : List AV} {v : AV} (he : es[i]? = some (.row w n cs v)) (hfit : Fits en b) (hb : en.bar ≤ b) {k : Nat} {ys : List AV} (hy : ys.length = k * w) (hw : 0 < w ∧ w ≤ 64) (hn : n + k ≤ 2 ^ 32) {tg : Nat} {K : Req → AV → Mem → Prop}
    (hK : ∀ r v' m', Many b (es.set i (.row w (n + k) (cs ++ ys) v')) m' → AppLike r → K r (kv v') m') : WOf P pol en (appR tg w (some (kv v)) (some (.lst k ys))) m K := by
  unfold kv at *
  have hi : i < es.length := (List.getElem?_eq_some_iff.1 he).1
  have hM := h
  obtain ⟨⟨ss, h1, h2, h3, h4⟩, h5⟩ := h
  have hi' : i < ss.length := by omega
  have hsi := List.getElem?_eq_getElem hi'
  have hh := h2 i _ ss[i] he hsi
  have hroom : roomOk (n + k) w = true := by simp only [roomOk, Bool.and_eq_true, decide_eq_true_eq]; omega
  cases k with
  | zero =>
    have : ys = [] := List.eq_nil_of_length_eq_zero (by simpa using hy)
    subst this
    have e0 : appR tg w (some v) (some (.lst 0 [])) = some (.val v) := by
      rcases hh with ⟨_, _, _, rfl⟩ | ⟨_, id, ver, _, rfl, _, _⟩ <;> simp [appR, Src.n]
    rw [e0, WOf_val]
    refine hK _ _ _ ?_ (Or.inr (Or.inr ⟨_, rfl⟩))
    have : es.set i (.row w (n + 0) (cs ++ []) v) = es := by
      apply List.ext_getElem?
      intro j
      rw [List.getElem?_set]
      split
      · rename_i hij; subst hij; rw [he]; simp
      · rfl
    rw [this]; exact hM
  | succ k =>
    rcases hh with ⟨e1, rfl, rfl, rfl⟩ | ⟨e0, id, ver, e1, rfl, e2, e3⟩
    · rw [appR_nil, WOf_appnew]
      refine ⟨⟨hy, by simp, hroom, by omega⟩, hK _ _ _ ?_ (Or.inr (Or.inl ⟨_, _, _, _, _, rfl⟩))⟩
      refine Many.put h1 h2 h3 h4 h5 hi (s := some m.length) (Or.inr ⟨by omega, m.length, tg, rfl, rfl, by simp, by simpa using hy⟩) (fun j id hj hs => List.getElem?_append_left (h4 j id hs).2) (by simp) (fun id e => ?_)
      cases e; exact ⟨h5, by simp, Or.inr (Nat.le_refl _)⟩
    · have hsi' : ss[i]? = some (some id) := by rw [hsi, e1]
      have hid := h4 i id hsi'
      rw [appR_own, WOf_app, e2, cellsQ_some]
      refine ⟨rfl, ⟨hy, by omega, hroom, by omega⟩, okTo_fits hfit hb hid.1 _, ?_⟩
      have hc : (cs.drop 0).take (n * w) = cs := by rw [List.drop_zero, List.take_of_length_le (by omega)]
      rw [hc]
      refine hK _ _ _ ?_ (Or.inl ⟨_, _, _, _, _, _, _, rfl⟩)
      refine Many.put h1 h2 h3 h4 h5 hi (s := some id) (Or.inr ⟨by omega, id, nextV tg ver, rfl, rfl, by simp [hid.2], by simp [e3, hy, Nat.add_mul]⟩) (fun j id' hj hs => ?_) (by simp) (fun id' e => ?_)
      · have : id ≠ id' := fun e => by subst e; exact hj (h3 j i id hs hsi')
        rw [List.getElem?_set_ne this]
      · cases e; exact ⟨hid.1, by simpa using hid.2, Or.inl hsi'⟩
theorem Many.row {b : Nat} {es : List Ent} {m : Mem} (h : Many b es m) {i w n : Nat} {cs : List AV} {v : AV} (he : es[i]? = some (.row w n cs v)) : (n = 0 ∧ cs = [] ∧ v = .nilS) ∨ (0 < n ∧ ∃ id ver, v = .own id ver 0 n w ∧ m[id]? = some (.cells ver cs) ∧ cs.length = n * w ∧ b ≤ id ∧ id < m.length) := by
  obtain ⟨⟨ss, h1, h2, h3, h4⟩, h5⟩ := h
  have hi : i < ss.length := by rw [h1]; exact (List.getElem?_eq_some_iff.1 he).1
  have hsi := List.getElem?_eq_getElem hi
  rcases h2 i _ ss[i] he hsi with ⟨_, a, b, c⟩ | ⟨e0, id, ver, e1, e2, e3, e4⟩
  · exact Or.inl ⟨a, b, c⟩
  · have := h4 i id (by rw [hsi, e1])
    exact Or.inr ⟨e0, id, ver, e2, e3, e4, this⟩
theorem Many.len {b : Nat} {es : List Ent} {m : Mem} (h : Many b es m) {i w n : Nat} {cs : List AV} {v : AV} (he : es[i]? = some (.row w n cs v)) (e : TypeId) (g : Option Req) : lenR (some (kv v)) (some (.slice e)) g = some (.val (I n)) := by
  rcases h.row he with ⟨rfl, rfl, rfl⟩ | ⟨_, id, ver, rfl, _⟩ <;> rfl
theorem Many.frz {α : Type} {f : α → List AV} {w : Nat} [hw : Wide f w] {b : Nat} {es : List Ent} {m : Mem} (h : Many b es m) {i : Nat} {l : List α} {v : AV} (he : es[i]? = some (.row w l.length (l.flatMap f) v)) {b' : Nat} (hb : b' ≤ b) (d : Nat) (k : AV → Prop) : frzQ m b' (d + 2) (kv v) k = k (slf f ⟨true, false, l⟩) := by
  unfold kv
  rcases h.row he with ⟨hn, _, rfl⟩ | ⟨hn, id, ver, rfl, e2, e3, e4, e5⟩
  · rw [frzQ_nilS]
    rw [List.eq_nil_of_length_eq_zero hn]; rfl
  · have h1 : (l.flatMap f).mapM (V.frz m b' (d + 1)) = some (l.flatMap f) := by
      have : ∀ cs : List AV, (∀ c ∈ cs, Clean c ∧ ∀ t u, c ≠ .ifc t u) → cs.mapM (V.frz m b' (d + 1)) = some cs := fun cs => by
        induction cs with
        | nil => intro _; rfl
        | cons c cs ih =>
          intro hc
          obtain ⟨h1, h2⟩ := hc c (by simp)
          simp only [List.mapM_cons, ih (fun c h => hc c (by simp [h])), clean_frz h1 m b' d h2]; rfl
      refine this _ fun c hc => ?_
      rw [List.mem_flatMap] at hc
      obtain ⟨a, _, hc⟩ := hc
      exact hw.clean a c hc
    have e6 : V.frz m b' (d + 2) (.own id ver 0 l.length w) = some (slf f ⟨true, false, l⟩) := by
      rw [V.frz]
      rw [if_neg (by omega), lget_eq, e2]
      simp only
      rw [if_pos ⟨trivial, by omega⟩, List.drop_zero, List.take_of_length_le (by omega), h1]
      simp only
      rw [if_pos (flat_leaf (w := w) l)]
      have hl : l ≠ [] := by rintro rfl; simp at hn
      simp [slf, hl]
    unfold frzQ
    rw [e6]; simp
theorem Many.frz1 {α : Type} {f : α → AV} (hf : ∀ a, Clean (f a)) (hi : ∀ a t u, f a ≠ .ifc t u) {b : Nat} {es : List Ent} {m : Mem} (h : Many b es m) {i : Nat} {l : List α} {v : AV} (he : es[i]? = some (.row 1 l.length (l.map f) v)) {b' : Nat} (hb : b' ≤ b) (d : Nat) (k : AV → Prop) : frzQ m b' (d + 2) (kv v) k = k (sl f ⟨true, false, l⟩) := by
  unfold kv
  rcases h.row he with ⟨hn, _, rfl⟩ | ⟨hn, id, ver, rfl, e2, e3, e4, e5⟩
  · rw [frzQ_nilS]
    rw [List.eq_nil_of_length_eq_zero hn]; rfl
  · have hl : l ≠ [] := by rintro rfl; simp at hn
    rw [frzQ_own hf hi l e2 (by omega)]
    simp [sl, hl]
end
end Go.Proofs.YtcmjidnbbfcbjaaGreatDoor.V
