/- Parts of the proof, joined (V38, V39, V40, V41, V42, V43, V44, V45); no condition. -/
import Derived.Test.YtcmjidnbbfcbjaaDoorMn
import Derived.Laws.StructEq
/- Structs held against each other; rows whose elements are some cells each; no condition. -/
namespace Go.Proofs.YtcmjidnbbfcbjaaDoor.V
open Go
set_option linter.unusedVariables false
set_option linter.unusedSimpArgs false
noncomputable section
variable {P : Program} {pol : Pol} {en : Env} {ρ : Operand → Option AV} {d : Option Tmp} {ty : TypeId} {p : String} {af : Array Edge} {gd : Option (Nat × Bool)}
/-! Structs held against each other. -/
def okF (P : Program) : Nat → List Field → Bool
  | _, [] => true
  | i, f :: fs => f.name != "_" && f.offset == i && (match P.underlying f.type with | some .string | some .bool | some (.int _) => true | _ => false) && okF P (i + 1) fs
def flatS (P : Program) (t : TypeId) : Option (List TypeDesc) :=
  match P.underlying t with
  | some (.struct fs) => if okF P 0 fs.toList = true ∧ P.stoodInHeld t = false ∧ P.eqGuardType P.depth t = false then fs.toList.mapM fun f => P.underlying f.type else none
  | _ => none
def eq1 : TypeDesc → AV → AV → Option Bool
  | .string, .sc (.string a), .sc (.string b) => some (decide (a.data.toList = b.data.toList))
  | .bool, .sc (.bool a), .sc (.bool b) => some (a == b)
  | .int _, .sc (.int k a), .sc (.int k' b) => if k = k' then some (a == b) else none
  | _, _, _ => none
def andO (x y : Option Bool) : Option Bool :=
  match x, y with
  | some r, some s => some (r && s)
  | _, _ => none
@[go_sem] theorem andO_some (r s : Bool) : andO (some r) (some s) = some (r && s) := rfl
def eqC : List TypeDesc → List AV → List AV → Option Bool
  | [], [], [] => some true
  | d :: ds, a :: as, b :: bs => andO (eq1 d a b) (eqC ds as bs)
  | _, _, _ => none
@[go_sem] theorem eqC_nil : eqC [] [] [] = some true := rfl
@[go_sem] theorem eqC_cons (d : TypeDesc) (ds : List TypeDesc) (a b : AV) (as bs : List AV) : eqC (d :: ds) (a :: as) (b :: bs) = andO (eq1 d a b) (eqC ds as bs) := rfl
@[go_sem] theorem eq1_tx (a b : List UInt8) : eq1 .string (tx a) (tx b) = some (decide (a = b)) := rfl
@[go_sem] theorem eq1_bool (a b : Bool) : eq1 .bool (.sc (.bool a)) (.sc (.bool b)) = some (a == b) := rfl
@[go_sem] theorem eq1_int (k k' : IntKind) (a b : Int) : eq1 (.int k') (.sc (.int k a)) (.sc (.int k b)) = some (a == b) := by simp [eq1]
theorem pv_info {t : TypeId} {i : TypeInfo} (h : P.info? t = some i) : pv P (typeInfo t) = some i := by
  unfold typeInfo
  simp only [pv_bind, program, pv, Option.bind_some, h]
  rfl
theorem pv_isAgg {t : TypeId} {dd : TypeDesc} (h : P.underlying t = some dd) (hd : dd = .string ∨ dd = .bool ∨ ∃ k, dd = .int k) : pv P (isAgg t) = some false := by
  unfold isAgg
  simp only [pv_bind, pv_under h, Option.bind_some]
  rcases hd with rfl | rfl | ⟨k, rfl⟩ <;> rfl
theorem pv_part {t : TypeId} {dd : TypeDesc} (h : P.underlying t = some dd) (hd : dd = .string ∨ dd = .bool ∨ ∃ k, dd = .int k) {xs : Array Value} {o : Nat} {v : Value} (hv : xs[o]? = some v) : pv P (part t xs o) = some v := by
  unfold part
  simp only [pv_bind, pv_isAgg h hd, Option.bind_some, hv]
  rfl
theorem eq1_pv {dd : TypeDesc} {a b : AV} {r : Bool} (h : eq1 dd a b = some r) : (dd = .string ∨ dd = .bool ∨ ∃ k, dd = .int k) ∧ ∃ u v, a.toV = some u ∧ b.toV = some v ∧ ∀ (t : TypeId) (n : Nat), P.underlying t = some dd → pv P (Op.equalIn (n + 1) t u v) = some r := by
  unfold eq1 at h
  split at h
  · rename_i a b
    cases h
    refine ⟨Or.inl rfl, _, _, rfl, rfl, fun t n ht => ?_⟩
    simp only [Op.equalIn, pv_bind, pv_under ht, Option.bind_some]
    have : (a == b) = decide (a.data.toList = b.data.toList) := by
      obtain ⟨⟨x⟩⟩ := a
      obtain ⟨⟨y⟩⟩ := b
      show ((⟨x⟩ : Array UInt8) == ⟨y⟩) = decide (x = y)
      by_cases h : x = y <;> simp [h]
    rw [← this]; rfl
  · cases h
    refine ⟨Or.inr (Or.inl rfl), _, _, rfl, rfl, fun t n ht => ?_⟩
    simp only [Op.equalIn, pv_bind, pv_under ht, Option.bind_some]
    rfl
  · rename_i k k1 a k2 b
    split at h
    · rename_i hk
      subst hk
      cases h
      refine ⟨Or.inr (Or.inr ⟨_, rfl⟩), _, _, rfl, rfl, fun t n ht => ?_⟩
      simp only [Op.equalIn, pv_bind, pv_under ht, Option.bind_some, if_true]
      rfl
    · cases h
  · cases h
theorem pv_eqFields (n : Nat) (xs ys : Array Value) : ∀ (fs : List Field) (i : Nat) (ds : List TypeDesc) (as bs : List AV) (r : Bool), okF P i fs = true → (fs.mapM fun f => P.underlying f.type) = some ds → eqC ds as bs = some r →
    (∀ us, AV.toVL as = some us → ∀ j u, us[j]? = some u → xs[i + j]? = some u) → (∀ us, AV.toVL bs = some us → ∀ j u, us[j]? = some u → ys[i + j]? = some u) →
    (∃ us, AV.toVL as = some us) ∧ (∃ us, AV.toVL bs = some us) ∧ pv P (Op.eqFields (n + 1) xs ys fs) = some r
  | [], i, ds, as, bs, r, _, hm, he, _, _ => by
    simp only [List.mapM_nil, Option.pure_def, Option.some.injEq] at hm
    subst hm
    cases as <;> cases bs <;> simp only [eqC] at he <;> first | cases he | skip
    exact ⟨⟨[], rfl⟩, ⟨[], rfl⟩, rfl⟩
  | f :: fs, i, ds, as, bs, r, ho, hm, he, hx, hy => by
    simp only [okF, Bool.and_eq_true, bne_iff_ne, ne_eq, beq_iff_eq] at ho
    obtain ⟨⟨⟨h1, h2⟩, h3⟩, h4⟩ := ho
    simp only [List.mapM_cons, Option.bind_eq_bind, Option.bind_eq_some_iff, Option.pure_def, Option.some.injEq] at hm
    obtain ⟨dd, hd, ds', hds, rfl⟩ := hm
    match as, bs, he with
    | a :: as, b :: bs, he =>
      rw [eqC_cons] at he
      unfold andO at he
      split at he
      · rename_i r1 r2 he1 he2
        cases he
        obtain ⟨hdd, u, v, hu, hv, heq⟩ := eq1_pv (P := P) he1
        have hx' : ∀ us, AV.toVL as = some us → ∀ j w, us[j]? = some w → xs[i + 1 + j]? = some w := fun us hus j w hw => by
          have := hx (u :: us) (by simp only [AV.toVL, hu, hus]) (j + 1) w (by simpa using hw)
          rwa [show i + (j + 1) = i + 1 + j by omega] at this
        have hy' : ∀ us, AV.toVL bs = some us → ∀ j w, us[j]? = some w → ys[i + 1 + j]? = some w := fun us hus j w hw => by
          have := hy (v :: us) (by simp only [AV.toVL, hv, hus]) (j + 1) w (by simpa using hw)
          rwa [show i + (j + 1) = i + 1 + j by omega] at this
        obtain ⟨⟨us, hus⟩, ⟨vs, hvs⟩, ih⟩ := pv_eqFields n xs ys fs (i + 1) ds' as bs r2 h4 hds he2 hx' hy'
        refine ⟨⟨u :: us, by simp only [AV.toVL, hu, hus]⟩, ⟨v :: vs, by simp only [AV.toVL, hv, hvs]⟩, ?_⟩
        have e1 : xs[f.offset]? = some u := by have := hx (u :: us) (by simp only [AV.toVL, hu, hus]) 0 u rfl; rw [h2]; simpa using this
        have e2 : ys[f.offset]? = some v := by have := hy (v :: vs) (by simp only [AV.toVL, hv, hvs]) 0 v rfl; rw [h2]; simpa using this
        simp only [Op.eqFields, ne_eq, h1, not_false_eq_true, if_true, pv_bind, pv_part hd hdd e1, pv_part hd hdd e2, heq f.type n hd, Option.bind_some]
        cases r1
        · rfl
        · simpa using ih
      · cases he
    | [], _, he => cases he
    | _ :: _, [], he => cases he
theorem pv_ite {α : Type} (c : Prop) [Decidable c] (a b : Sem α) : pv P (if c then a else b) = if c then pv P a else pv P b := by split <;> rfl
theorem pv_equalS (n : Nat) {t : TypeId} {fs : Array Field} (ht : P.underlying t = some (.struct fs)) (hp : P.stoodInHeld t = false) (xs ys : Array Value) : pv P (Op.equalIn (n + 1) t (.agg xs) (.agg ys)) = pv P (Op.eqFields n xs ys fs.toList) := by
  have hprog : pv P program = some P := rfl
  simp only [Op.equalIn, pv_bind, pv_under ht, Option.bind_some, hprog, hp, Bool.false_eq_true, if_false]
  rw [← Array.forIn_toList]
  generalize fs.toList = l
  clear ht
  induction l with
  | nil => rfl
  | cons f l ih =>
    simp only [List.forIn_cons, Op.eqFields, pv_bind]
    by_cases hf : f.name ≠ "_"
    · simp only [hf, if_true, pv_bind, ne_eq, not_false_eq_true]
      cases pv P (part f.type xs f.offset) with
      | none => rfl
      | some a =>
        simp only [Option.bind_some]
        cases pv P (part f.type ys f.offset) with
        | none => rfl
        | some b =>
          simp only [Option.bind_some]
          cases pv P (Op.equalIn n f.type a b) with
          | none => rfl
          | some r =>
            cases r
            · rfl
            · exact ih
    · simp only [hf, if_false]
      exact ih
def binA (op : BinOp) (ds : Option (List TypeDesc)) (x y : Option AV) (g : Option Req) : Option Req :=
  match x, y with
  | some (.agg as), some (.agg bs) => match eqOp op, ds.bind fun ds => eqC ds as bs with
    | some e, some r => some (.val (.sc (.bool (r == e))))
    | _, _ => g
  | _, _ => g
def eqV (op : BinOp) (r : Option Bool) (g : Option Req) : Option Req :=
  match eqOp op, r with
  | some e, some r => some (.val (.sc (.bool (r == e))))
  | _, _ => g
@[go_sem] theorem eqV_eql (r : Bool) (g : Option Req) : eqV .eql (some r) g = some (.val (.sc (.bool r))) := by cases r <;> rfl
@[go_sem] theorem eqV_neq (r : Bool) (g : Option Req) : eqV .neq (some r) g = some (.val (.sc (.bool !r))) := by cases r <;> rfl
@[go_sem] theorem binA_agg (op : BinOp) (ds : List TypeDesc) (as bs : List AV) (g : Option Req) : binA op (some ds) (some (.agg as)) (some (.agg bs)) g = eqV op (eqC ds as bs) g := rfl
@[go_sem] theorem binA_sc (op : BinOp) (ds : Option (List TypeDesc)) (v : Value) (y : Option AV) (g : Option Req) : binA op ds (some (.sc v)) y g = g := rfl
@[go_sem] theorem binA_nilP (op : BinOp) (ds : Option (List TypeDesc)) (y : Option AV) (g : Option Req) : binA op ds (some .nilP) y g = g := rfl
@[go_sem] theorem binA_nilS (op : BinOp) (ds : Option (List TypeDesc)) (y : Option AV) (g : Option Req) : binA op ds (some .nilS) y g = g := rfl
@[go_sem] theorem binA_nilI (op : BinOp) (ds : Option (List TypeDesc)) (y : Option AV) (g : Option Req) : binA op ds (some .nilI) y g = g := rfl
@[go_sem] theorem binA_nilM (op : BinOp) (ds : Option (List TypeDesc)) (y : Option AV) (g : Option Req) : binA op ds (some .nilM) y g = g := rfl
@[go_sem] theorem binA_nilF (op : BinOp) (ds : Option (List TypeDesc)) (y : Option AV) (g : Option Req) : binA op ds (some .nilF) y g = g := rfl
@[go_sem] theorem binA_ptr (op : BinOp) (ds : Option (List TypeDesc)) (a b c : Nat) (y : Option AV) (g : Option Req) : binA op ds (some (.ptr a b c)) y g = g := rfl
@[go_sem] theorem binA_cptr (op : BinOp) (ds : Option (List TypeDesc)) (cs : List AV) (y : Option AV) (g : Option Req) : binA op ds (some (.cptr cs)) y g = g := rfl
@[go_sem] theorem binA_lst (op : BinOp) (ds : Option (List TypeDesc)) (n : Nat) (cs : List AV) (c : Bool) (y : Option AV) (g : Option Req) : binA op ds (some (.lst n cs c)) y g = g := rfl
@[go_sem] theorem binA_own (op : BinOp) (ds : Option (List TypeDesc)) (a b c e f : Nat) (y : Option AV) (g : Option Req) : binA op ds (some (.own a b c e f)) y g = g := rfl
@[go_sem] theorem binA_mp (op : BinOp) (ds : Option (List TypeDesc)) (a : Nat) (y : Option AV) (g : Option Req) : binA op ds (some (.mp a)) y g = g := rfl
@[go_sem] theorem binA_ifc (op : BinOp) (ds : Option (List TypeDesc)) (t : TypeId) (v : AV) (y : Option AV) (g : Option Req) : binA op ds (some (.ifc t v)) y g = g := rfl
@[go_sem] theorem binA_clo (op : BinOp) (ds : Option (List TypeDesc)) (f : Fn) (a b : List AV) (y : Option AV) (g : Option Req) : binA op ds (some (.clo f a b)) y g = g := rfl
@[go_sem] theorem binA_sl {α : Type} (op : BinOp) (ds : Option (List TypeDesc)) (f : α → AV) (x : Sl α) (y : Option AV) (g : Option Req) : binA op ds (some (sl f x)) y g = g := by unfold sl; split <;> rfl
theorem gen_agg {op : BinOp} {t yt : TypeId} {x y : Operand} {as bs : List AV} {ds : List TypeDesc} {e r : Bool} (hx : ρ x = some (.agg as)) (hy : ρ y = some (.agg bs)) (hf : flatS P t = some ds) (ho : eqOp op = some e) (he : eqC ds as bs = some r) :
    generic P ρ ⟨d, .binOp op t x y yt, ty, p, af, gd⟩ = some (.val (.sc (.bool (r == e)))) := by
  unfold flatS at hf
  split at hf
  case h_2 => cases hf
  rename_i fs ht
  split at hf
  case isFalse => cases hf
  rename_i hc
  obtain ⟨h1, h2, h3⟩ := hc
  have key : ∀ us vs, AV.toVL as = some us → AV.toVL bs = some vs → pv P (Op.eqFields 9999 us.toArray vs.toArray fs.toList) = some r := fun us vs hus hvs => by
    refine (pv_eqFields 9998 us.toArray vs.toArray fs.toList 0 ds as bs r h1 hf he (fun us' hus' j u hu => ?_) (fun us' hus' j u hu => ?_)).2.2
    · rw [hus] at hus'; cases hus'; simpa using hu
    · rw [hvs] at hus'; cases hus'; simpa using hu
  obtain ⟨⟨us, hus⟩, ⟨vs, hvs⟩, _⟩ := pv_eqFields (P := P) 9998 ((AV.toVL as).getD []).toArray ((AV.toVL bs).getD []).toArray fs.toList 0 ds as bs r h1 hf he (fun us' hus' j u hu => by rw [hus']; simpa using hu) (fun us' hus' j u hu => by rw [hus']; simpa using hu)
  have hk := key us vs hus hvs
  rw [generic_pv (us := [.agg us.toArray, .agg vs.toArray]) (u := .bool (r == e)) rfl (by simp [Op.operands, hx, hy, AV.toV, hus, hvs])]
  · rfl
  · simp only [execOp, hx, hy, Option.bind_some, AV.toV, hus, hvs, Option.map_some, Option.getD_some, pv_bind]
    have hg : pv P (eqGuard op t x y (.agg us.toArray) (.agg vs.toArray)) = some () := by
      unfold eqGuard
      have hprog : pv P program = some P := rfl
      rcases eqOp_some ho with ⟨rfl, _⟩ | ⟨rfl, _⟩ <;> simp [pv_bind, hprog, h3] <;> rfl
    rw [hg, Option.bind_some]
    have h5 : pv P (Op.equal t (.agg us.toArray) (.agg vs.toArray)) = some r := by
      simp only [Op.equal, Op.maxDepth]
      rw [pv_equalS 9999 ht h2]; exact hk
    rcases eqOp_some ho with ⟨rfl, rfl⟩ | ⟨rfl, rfl⟩ <;> simp only [Go.binOp] <;> rw [pv_bind, h5] <;> cases r <;> rfl
@[go_sem 15000] theorem plan_binA (op : BinOp) (t yt : TypeId) (x y : Operand) : plan P ρ ⟨d, .binOp op t x y yt, ty, p, af, gd⟩ = binA op (flatS P t) (ρ x) (ρ y) (binT op (ρ x) (ρ y) (binN op (P.underlying t) (ρ x) (ρ y) (binR P op (P.underlying t) (ρ x) (ρ y) (generic P ρ ⟨d, .binOp op t x y yt, ty, p, af, gd⟩)))) := by
  unfold binA
  split
  · rename_i as bs hx hy
    split
    · rename_i e r ho he
      cases hf : flatS P t with
      | none => rw [hf] at he; cases he
      | some ds =>
        rw [hf] at he
        rw [plan_bin, hx, hy]
        have hb : binR P op (P.underlying t) (some (.agg as)) (some (.agg bs)) (generic P ρ ⟨d, .binOp op t x y yt, ty, p, af, gd⟩) = generic P ρ ⟨d, .binOp op t x y yt, ty, p, af, gd⟩ := by
          simp only [binR]
          cases P.underlying t with
          | none => rfl
          | some dd => cases dd <;> rfl
        rw [hb]
        exact gen_agg hx hy hf ho he
    · exact plan_binT op t yt x y
  · exact plan_binT op t yt x y
end
end Go.Proofs.YtcmjidnbbfcbjaaDoor.V
/- Rows whose elements are some cells each, as rules; no condition. -/
namespace Go.Proofs.YtcmjidnbbfcbjaaDoor.V
open Go
set_option linter.unusedVariables false
set_option linter.unusedSimpArgs false
noncomputable section
variable {P : Program} {pol : Pol} {en : Env} {ρ : Operand → Option AV} {d : Option Tmp} {ty : TypeId} {p : String} {af : Array Edge} {gd : Option (Nat × Bool)}
/-- What is laid in 'w' cells without addresses. -/
class Wide {α : Type} (f : α → List AV) (w : outParam Nat) : Prop where
  len : ∀ a, (f a).length = w
  pos : 0 < w
  clean : ∀ a, ∀ c ∈ f a, Clean c ∧ ∀ t u, c ≠ .ifc t u
section
variable {α : Type} {f : α → List AV} {w : Nat}
theorem flat_len [h : Wide f w] (l : List α) : (l.flatMap f).length = l.length * w := by
  induction l with
  | nil => simp
  | cons a l ih => rw [List.flatMap_cons, List.length_append, ih, h.len, List.length_cons, Nat.succ_mul]; omega
theorem flat_drop [h : Wide f w] : ∀ (i : Nat) (l : List α), (l.flatMap f).drop (i * w) = (l.drop i).flatMap f
  | 0, l => by simp
  | i + 1, [] => by simp
  | i + 1, a :: l => by
    rw [List.flatMap_cons, List.drop_succ_cons, ← flat_drop i l, List.drop_append, List.drop_eq_nil_of_le (by rw [h.len, Nat.succ_mul]; omega), List.nil_append, h.len]
    congr 1
    rw [Nat.succ_mul]; omega
theorem flat_take [h : Wide f w] : ∀ (i : Nat) (l : List α), (l.flatMap f).take (i * w) = (l.take i).flatMap f
  | 0, l => by simp
  | i + 1, [] => by simp
  | i + 1, a :: l => by
    rw [List.flatMap_cons, List.take_succ_cons, List.flatMap_cons, ← flat_take i l, List.take_append, List.take_of_length_le (by rw [h.len, Nat.succ_mul]; omega), h.len]
    congr 2
    rw [Nat.succ_mul]; omega
theorem flat_leaf [h : Wide f w] (l : List α) : (l.flatMap f).all AV.leaf = true := by
  rw [List.all_eq_true]
  intro c hc
  rw [List.mem_flatMap] at hc
  obtain ⟨a, _, hc⟩ := hc
  exact (h.clean a c hc).1.1
theorem flat_low [h : Wide f w] (l : List α) (b : Nat) : AV.lowL b (l.flatMap f) = true := by
  rw [lowL_iff]
  intro c hc
  rw [List.mem_flatMap] at hc
  obtain ⟨a, _, hc⟩ := hc
  exact (h.clean a c hc).1.2 b
end
def slf {α : Type} (f : α → List AV) (x : Sl α) : AV := if x.nil && x.l.isEmpty then .nilS else .lst x.l.length (x.l.flatMap f) x.clip
/-- What stands behind an element. -/
def tailF {α : Type} (f : α → List AV) (l : List α) (i : Nat) : List AV := (l.drop i).flatMap f
@[go_sem] theorem putC_slf {α : Type} (f : α → List AV) (x : Sl α) (ts : List AV) (d : Option Tmp) (k : List AV → Prop) : putC ts d (slf f x) k = k (put ts d (slf f x)) := rfl
@[go_sem] theorem leaf_slf {α : Type} (f : α → List AV) (x : Sl α) : (slf f x).leaf = true := by unfold slf; split <;> rfl
@[go_sem] theorem cells_slf {α : Type} (f : α → List AV) (x : Sl α) : (slf f x).cells = [slf f x] := cells_leaf (leaf_slf f x)
@[go_sem] theorem lenR_slf {α : Type} (f : α → List AV) (x : Sl α) (e : TypeId) (g : Option Req) : lenR (some (slf f x)) (some (.slice e)) g = some (.val (I x.l.length)) := by
  unfold slf
  split
  · rename_i h; simp only [Bool.and_eq_true, List.isEmpty_iff] at h; rw [h.2]; rfl
  · rfl
@[go_sem] theorem srcR_slf {α : Type} (f : α → List AV) (x : Sl α) : srcR (some (slf f x)) = some (.lst x.l.length (x.l.flatMap f)) := by
  unfold slf
  split
  · rename_i h; simp only [Bool.and_eq_true, List.isEmpty_iff] at h; rw [h.2]; rfl
  · rfl
@[go_sem] theorem binA_slf {α : Type} (op : BinOp) (ds : Option (List TypeDesc)) (f : α → List AV) (x : Sl α) (y : Option AV) (g : Option Req) : binA op ds (some (slf f x)) y g = g := by unfold slf; split <;> rfl
theorem clean_slf {α : Type} {f : α → List AV} {w : Nat} [h : Wide f w] (x : Sl α) : Clean (slf f x) := by
  refine ⟨leaf_slf f x, fun b => ?_⟩
  unfold slf
  split
  · rfl
  · exact flat_low (w := w) x.l b
theorem slf_ifc {α : Type} (f : α → List AV) (x : Sl α) (t : TypeId) (u : AV) : slf f x ≠ .ifc t u := by unfold slf; split <;> simp
@[go_sem] theorem frzQ_slf {α : Type} {f : α → List AV} {w : Nat} [h : Wide f w] (m : Mem) (b d : Nat) (x : Sl α) (k : AV → Prop) : frzQ m b (d + 1) (slf f x) k = k (slf f x) := by
  unfold frzQ
  rw [clean_frz (clean_slf (w := w) x) m b d (slf_ifc f x)]
  simp
/-! Elements. -/
def idxF {α : Type} (so : Option Nat) (w : Nat) (f : α → List AV) (x : Sl α) (i : Int) (g : Option Req) : Option Req :=
  match so with
  | some s => if s = w then (if 0 ≤ i ∧ i < x.l.length then (x.l[i.toNat]?).map (fun a => .val (.cptr (f a ++ tailF f x.l (i.toNat + 1)))) else none) else g
  | none => g
theorem idxF_some {α : Type} (w : Nat) (f : α → List AV) (x : Sl α) (i : Int) (g : Option Req) : idxF (some w) w f x i g = if 0 ≤ i ∧ i < x.l.length then (x.l[i.toNat]?).map (fun a => .val (.cptr (f a ++ tailF f x.l (i.toNat + 1)))) else none := by simp [idxF]
theorem idxR_slf {α : Type} {f : α → List AV} {w : Nat} [h : Wide f w] (x : Sl α) {e : TypeId} (ik : IntKind) (i : Int) : idxR P (some (.slice e)) (some (slf f x)) (some (.sc (.int ik i))) = idxF (szOf P e) w f x i (idxQ P e (some (slf f x)) (some (.sc (.int ik i)))) := by
  unfold idxF
  split
  · rename_i s hs
    split
    · rename_i hw
      subst hw
      unfold slf
      split
      · rename_i hn; simp only [Bool.and_eq_true, List.isEmpty_iff] at hn
        simp only [idxR, Option.bind_some, asI, hs, hn.2, List.length_nil]
        rw [if_neg (by omega)]
      · simp only [idxR, Option.bind_some, asI, hs]
        by_cases hc : 0 ≤ i ∧ i < x.l.length
        · have hi : i.toNat < x.l.length := by omega
          rw [if_pos hc, if_pos ⟨hc.1, hc.2, by rw [flat_len]; exact Nat.mul_le_mul_right _ (by omega)⟩, List.getElem?_eq_getElem hi, Option.map_some, flat_drop, List.drop_eq_getElem_cons hi, List.flatMap_cons]
          rfl
        · rw [if_neg hc, if_neg (by omega)]
    · rfl
  · rfl
@[go_sem] theorem ldR_c1 (c : AV) (cs : List AV) (n : Nat) : ldR (some (.cptr (c :: cs))) (some n) (some false) = some (.val c) := rfl
@[go_sem] theorem ldR_cN (cs : List AV) (n : Nat) : ldR (some (.cptr cs)) (some n) (some true) = if n ≤ cs.length then some (.val (.agg (cs.take n))) else none := rfl
@[go_sem] theorem fadR_c (o n : Nat) (ag : Bool) (cs : List AV) : fadR (some (o, n + 1, ag)) (some (.cptr cs)) = if o ≤ cs.length then some (.val (.cptr (cs.drop o))) else none := rfl
/-! Slices of slices. -/
theorem slR_slf {α : Type} {f : α → List AV} {w : Nat} [hw : Wide f w] (g : Option Req) (an : Option (Nat × Nat)) (x : Sl α) (l h : Int) (lo hi : Option (IntKind × Int)) (hl : (match lo with | none => (0 : Int) | some (_, l) => l) = l) (hh : (match hi with | none => (x.l.length : Int) | some (_, h) => h) = h) :
    slR g an (some (slf f x)) (some w) (some lo) (some hi) = if 0 ≤ l ∧ l ≤ h ∧ h ≤ x.l.length then some (.val (slf f (x.sub l.toNat h.toNat))) else none := by
  unfold slf
  split
  · rename_i hn; simp only [Bool.and_eq_true, List.isEmpty_iff] at hn
    have hll : x.l.length = 0 := by rw [hn.2]; rfl
    rw [hll] at hh
    simp only [slR, bounds, hll]
    cases lo <;> cases hi <;> simp only [] at hl hh <;> subst hl <;> subst hh <;>
    · simp only [Sl.sub, hn.1, hn.2]
      split <;> split <;> (simp_all; try omega)
  · rename_i hn
    have hsub : (x.nil && x.l.isEmpty) = false := by simpa using hn
    simp only [slR, bounds]
    have key : ∀ l h : Int, (match (if 0 ≤ l ∧ l ≤ h ∧ h ≤ (x.l.length : Int) then some (l.toNat, h.toNat) else none : Option (Nat × Nat)) with
        | some (l, h) => if h * w ≤ (x.l.flatMap f).length then some (Req.val (AV.lst (h - l) (((x.l.flatMap f).drop (l * w)).take ((h - l) * w)) (x.clip && decide (h = x.l.length)))) else none
        | none => none) = if 0 ≤ l ∧ l ≤ h ∧ h ≤ (x.l.length : Int) then some (Req.val (if ((x.sub l.toNat h.toNat).nil && (x.sub l.toNat h.toNat).l.isEmpty) = true then AV.nilS else AV.lst (x.sub l.toNat h.toNat).l.length ((x.sub l.toNat h.toNat).l.flatMap f) (x.sub l.toNat h.toNat).clip)) else none := by
      intro l h
      by_cases hc : 0 ≤ l ∧ l ≤ h ∧ h ≤ (x.l.length : Int)
      · rw [if_pos hc, if_pos hc]
        simp only
        rw [if_pos (by rw [flat_len]; exact Nat.mul_le_mul_right _ (by omega)), flat_drop, flat_take]
        simp only [Sl.sub, hsub, Bool.false_and, Bool.false_eq_true, if_false, List.length_take, List.length_drop]
        congr 2
        congr 1
        omega
      · rw [if_neg hc, if_neg hc]
    cases lo <;> cases hi <;> simp only [] at hl hh <;> subst hl <;> subst hh <;> exact key _ _
@[go_sem] theorem slR_slf_hi {α : Type} {f : α → List AV} {w : Nat} [hw : Wide f w] (g : Option Req) (an : Option (Nat × Nat)) (x : Sl α) (k : IntKind) (h : Int) : slR g an (some (slf f x)) (some w) (some none) (some (some (k, h))) = if 0 ≤ h ∧ h ≤ x.l.length then some (.val (slf f (x.sub 0 h.toNat))) else none := by
  rw [slR_slf g an x 0 h _ _ rfl rfl]; simp
@[go_sem] theorem slR_slf_lo {α : Type} {f : α → List AV} {w : Nat} [hw : Wide f w] (g : Option Req) (an : Option (Nat × Nat)) (x : Sl α) (k : IntKind) (l : Int) : slR g an (some (slf f x)) (some w) (some (some (k, l))) (some none) = if 0 ≤ l ∧ l ≤ x.l.length then some (.val (slf f (x.sub l.toNat x.l.length))) else none := by
  rw [slR_slf g an x l x.l.length _ _ rfl rfl]; simp
@[go_sem] theorem slR_slf_both {α : Type} {f : α → List AV} {w : Nat} [hw : Wide f w] (g : Option Req) (an : Option (Nat × Nat)) (x : Sl α) (k k' : IntKind) (l h : Int) : slR g an (some (slf f x)) (some w) (some (some (k, l))) (some (some (k', h))) = if 0 ≤ l ∧ l ≤ h ∧ h ≤ x.l.length then some (.val (slf f (x.sub l.toNat h.toNat))) else none :=
  slR_slf g an x l h _ _ rfl rfl
@[go_sem] theorem sub_l {α : Type} (x : Sl α) (l h : Nat) : (x.sub l h).l = (x.l.drop l).take (h - l) := rfl
/-! '[]T{x, ..}'. -/
def buildW (P : Program) (t : TypeId) : Option Nat :=
  match elemOfS P t with
  | some e => match szOf P e, zeroOf P e with
    | some w, some z => if z.cells.length = w ∧ w ≤ 64 then some w else none
    | _, _ => none
  | none => none
def rowOf (w : Nat) : Nat → List (Nat × AV) → Option (List AV)
  | _, [] => some []
  | i, (j, v) :: ps => if j = i ∧ v.cells.length = w ∧ v.cells.all AV.leaf = true then (rowOf w (i + 1) ps).map (v.cells ++ ·) else none
@[go_sem] theorem rowOf_nil (w i : Nat) : rowOf w i [] = some [] := rfl
@[go_sem] theorem rowOf_cons (w i j : Nat) (v : AV) (ps : List (Nat × AV)) : rowOf w i ((j, v) :: ps) = if j = i ∧ v.cells.length = w ∧ v.cells.all AV.leaf = true then (rowOf w (i + 1) ps).map (v.cells ++ ·) else none := rfl
theorem splice_app : ∀ (vs pre zs : List AV), vs.length ≤ zs.length → splice (pre ++ zs) pre.length vs = pre ++ vs ++ zs.drop vs.length
  | [], pre, zs, _ => by simp [splice]
  | v :: vs, pre, [], h => by simp at h
  | v :: vs, pre, z :: zs, h => by
    rw [splice, List.set_append_right _ _ (Nat.le_refl _), Nat.sub_self, List.set_cons_zero]
    have := splice_app vs (pre ++ [v]) zs (by simpa using h)
    simp only [List.length_append, List.length_cons, List.length_nil, List.append_assoc, List.cons_append, List.nil_append] at this
    rw [this]
    simp
theorem fill_row {w : Nat} : ∀ (ps : List (Nat × AV)) (i : Nat) (pre zs cs : List AV), rowOf w i ps = some cs → pre.length = i * w → zs.length = ps.length * w → fillA (fun i => some (i * w, w)) (pre ++ zs) ps = some (pre ++ cs)
  | [], i, pre, zs, cs, h, h1, h2 => by
    simp only [rowOf, Option.some.injEq] at h
    subst h
    have : zs = [] := List.eq_nil_of_length_eq_zero (by simpa using h2)
    subst this; simp [fillA]
  | (j, v) :: ps, i, pre, zs, cs, h, h1, h2 => by
    rw [rowOf_cons] at h
    split at h
    case isFalse => cases h
    rename_i hc
    obtain ⟨rfl, hl, hv⟩ := hc
    simp only [Option.map_eq_some_iff] at h
    obtain ⟨cs', hcs, rfl⟩ := h
    have hz : zs.length = w + ps.length * w := by rw [h2, List.length_cons, Nat.succ_mul]; omega
    simp only [fillA]
    rw [if_neg]
    · rw [← h1, splice_app _ _ _ (by omega), fill_row ps (j + 1) (pre ++ v.cells) (zs.drop v.cells.length) cs' hcs (by rw [List.length_append, hl, h1, Nat.succ_mul]) (by rw [List.length_drop, hl]; omega)]
      simp
    · simp only [Bool.or_eq_true, decide_eq_true_eq, not_or, Bool.not_eq_true', hl, hv, List.length_append, h1, hz]
      simp
def bldP (wo : Option Nat) (n : Nat) (ps : Option (List (Nat × AV))) (g : Option Req) : Option Req :=
  match wo, ps with
  | some w, some ps => if ps.length = n ∧ n ≤ 65536 then (match rowOf w 0 ps with | some cs => some (.val (.lst n cs true)) | none => g) else g
  | _, _ => g
@[go_sem 100] theorem plan_buildP (t : TypeId) (n : Nat) (parts : Array (Nat × Operand)) : plan P ρ ⟨d, .buildSlice t n parts, ty, p, af, gd⟩ = bldP (buildW P t) n (partsOf ρ parts) (same P ρ ⟨d, .buildSlice t n parts, ty, p, af, gd⟩) := by
  unfold bldP
  split
  · rename_i w ps hw hps
    split
    · rename_i hc
      split
      · rename_i cs hcs
        unfold buildW at hw
        split at hw
        case h_2 => cases hw
        rename_i e he
        split at hw
        case h_2 => cases hw
        rename_i w' z hs hz
        split at hw
        case isFalse => cases hw
        rename_i hzw
        cases hw
        simp only [plan, he, hps, hs, hz]
        have hle : n * w ≤ 65536 * 64 := Nat.mul_le_mul hc.2 hzw.2
        rw [if_neg (by simp [hzw.1]; omega)]
        have hlen : (List.replicate n z.cells).flatten.length = ps.length * w := by
          rw [hc.1]; simp [hzw.1]
        have := fill_row ps 0 [] (List.replicate n z.cells).flatten cs hcs (by simp) hlen
        simp only [List.nil_append] at this
        rw [this]; rfl
      · rfl
    · rfl
  · rfl
def lstO (n : Nat) (cs : Option (List AV)) (g : Option Req) : Option Req :=
  match cs with
  | some cs => some (.val (.lst n cs true))
  | none => g
@[go_sem] theorem lstO_some (n : Nat) (cs : List AV) (g : Option Req) : lstO n (some cs) g = some (.val (.lst n cs true)) := rfl
@[go_sem] theorem bldP_some (w n : Nat) (ps : List (Nat × AV)) (g : Option Req) : bldP (some w) n (some ps) g = if ps.length = n ∧ n ≤ 65536 then lstO n (rowOf w 0 ps) g else g := by
  simp only [bldP]
  split
  · cases rowOf w 0 ps <;> rfl
  · rfl
@[go_sem] theorem bldG_P (t : TypeId) (n : Nat) (parts : Array (Nat × Operand)) : bldG P ρ ⟨d, .buildSlice t n parts, ty, p, af, gd⟩ = bldP (buildW P t) n (partsOf ρ parts) (same P ρ ⟨d, .buildSlice t n parts, ty, p, af, gd⟩) := plan_buildP t n parts
@[go_sem] theorem bld1_false (v : Option AV) (g : Option Req) : bld1 false v g = g := rfl
attribute [go_sem] List.all_cons List.all_nil Bool.and_true Bool.true_and
theorem rowOf_consT {w i : Nat} {v : AV} {ps : List (Nat × AV)} (h : v.cells.length = w ∧ v.cells.all AV.leaf = true) : rowOf w i ((i, v) :: ps) = (rowOf w (i + 1) ps).map (v.cells ++ ·) := by rw [rowOf_cons, if_pos ⟨rfl, h⟩]
end
end Go.Proofs.YtcmjidnbbfcbjaaDoor.V
/- Several rows and objects that grow side by side; no condition. -/
namespace Go.Proofs.YtcmjidnbbfcbjaaDoor.V
open Go
set_option linter.unusedVariables false
set_option linter.unusedSimpArgs false
noncomputable section
variable {P : Program} {pol : Pol} {en : Env}
/-- What 'append' asks for. -/
def AppLike (r : Req) : Prop := (∃ t i v o l e s, r = .app t i v o l e s) ∨ (∃ t e n p s, r = .appnew t e n p s) ∨ ∃ v, r = .val v
/-- What stands in the store: a row of n elements of w cells each (v: its slice), or an object. -/
inductive Ent where
  | row (w n : Nat) (cs : List AV) (v : AV)
  | at (id : Nat) (o : Ob)
def hold (m : Mem) (s : Option Nat) : Ent → Prop
  | .row w n cs v => (s = none ∧ n = 0 ∧ cs = [] ∧ v = .nilS) ∨ (0 < n ∧ ∃ id ver, s = some id ∧ v = .own id ver 0 n w ∧ m[id]? = some (.cells ver cs) ∧ cs.length = n * w)
  | .at id o => s = some id ∧ m[id]? = some o
structure Many (b : Nat) (es : List Ent) (m : Mem) : Prop where
  ex : ∃ ss : List (Option Nat), ss.length = es.length ∧ (∀ (i : Nat) (e : Ent) (s : Option Nat), es[i]? = some e → ss[i]? = some s → hold m s e) ∧ (∀ (i j id : Nat), ss[i]? = some (some id) → ss[j]? = some (some id) → i = j) ∧ (∀ (i id : Nat), ss[i]? = some (some id) → b ≤ id ∧ id < m.length)
  le : b ≤ m.length
theorem hold_frame {m m' : Mem} {s : Option Nat} {e : Ent} (h : hold m s e) (hm : ∀ id, s = some id → m'[id]? = m[id]?) : hold m' s e := by
  cases e with
  | row w n cs v =>
    rcases h with h | ⟨h0, id, ver, h1, h2, h3, h4⟩
    · exact Or.inl h
    · exact Or.inr ⟨h0, id, ver, h1, h2, by rw [hm id h1]; exact h3, h4⟩
  | «at» id o => exact ⟨h.1, by rw [hm id h.1]; exact h.2⟩
theorem Many.nil {b : Nat} {m : Mem} (h : b ≤ m.length) : Many b [] m := ⟨⟨[], rfl, by simp, by simp, by simp⟩, h⟩
theorem Many.push {b : Nat} {es : List Ent} {m : Mem} (h : Many b es m) (l : Mem) : Many b es (m ++ l) := by
  obtain ⟨⟨ss, h1, h2, h3, h4⟩, h5⟩ := h
  refine ⟨⟨ss, h1, fun i e s he hs => ?_, h3, fun i id hid => ?_⟩, by simp; omega⟩
  · refine hold_frame (h2 i e s he hs) fun id hid => ?_
    subst hid
    exact List.getElem?_append_left (h4 i id hs).2
  · have := h4 i id hid
    simp; omega
theorem Many.new {b : Nat} {es : List Ent} {m : Mem} (h : Many b es m) (o : Ob) : Many b (es ++ [.at m.length o]) (m ++ [o]) := by
  have hp := h.push [o]
  obtain ⟨⟨ss, h1, h2, h3, h4⟩, h5⟩ := h
  obtain ⟨⟨ss', g1, g2, g3, g4⟩, g5⟩ := hp
  have old : ∀ i s, (ss ++ [some m.length])[i]? = some s → i < ss.length ∧ ss[i]? = some s ∨ i = ss.length ∧ s = some m.length := fun i s hs => by
    rw [List.getElem?_append] at hs
    split at hs
    · exact Or.inl ⟨by assumption, hs⟩
    · rename_i hi
      right
      have : i - ss.length = 0 := by
        rcases Nat.eq_zero_or_pos (i - ss.length) with h0 | h0
        · exact h0
        · rw [List.getElem?_eq_none (by simp; omega)] at hs; cases hs
      rw [this] at hs
      simp only [List.getElem?_cons_zero, Option.some.injEq] at hs
      exact ⟨by omega, hs.symm⟩
  refine ⟨⟨ss ++ [some m.length], by simp [h1], fun i e s he hs => ?_, fun i j id hi hj => ?_, fun i id hi => ?_⟩, g5⟩
  · rcases old i s hs with ⟨hi, hs⟩ | ⟨rfl, rfl⟩
    · rw [List.getElem?_append_left (by omega)] at he
      refine hold_frame (h2 i e s he hs) fun id hid => ?_
      subst hid
      exact List.getElem?_append_left (h4 i id hs).2
    · rw [h1, List.getElem?_append_right (Nat.le_refl _), Nat.sub_self] at he
      cases he
      exact ⟨rfl, by simp⟩
  · rcases old i _ hi with ⟨hi1, hi2⟩ | ⟨rfl, hi2⟩ <;> rcases old j _ hj with ⟨hj1, hj2⟩ | ⟨rfl, hj2⟩
    · exact h3 i j id hi2 hj2
    · cases hj2; have := (h4 i _ hi2).2; omega
    · cases hi2; have := (h4 j _ hj2).2; omega
    · rfl
  · rcases old i _ hi with ⟨hi1, hi2⟩ | ⟨rfl, hi2⟩
    · have := h4 i id hi2; simp; omega
    · cases hi2; simp; omega
theorem Many.newRow {b : Nat} {es : List Ent} {m : Mem} (h : Many b es m) (w : Nat) : Many b (es ++ [.row w 0 [] .nilS]) m := by
  obtain ⟨⟨ss, h1, h2, h3, h4⟩, h5⟩ := h
  have old : ∀ i s, (ss ++ [none])[i]? = some s → i < ss.length ∧ ss[i]? = some s ∨ i = ss.length ∧ s = none := fun i s hs => by
    rw [List.getElem?_append] at hs
    split at hs
    · exact Or.inl ⟨by assumption, hs⟩
    · rename_i hi
      right
      have : i - ss.length = 0 := by
        rcases Nat.eq_zero_or_pos (i - ss.length) with h0 | h0
        · exact h0
        · rw [List.getElem?_eq_none (by simp; omega)] at hs; cases hs
      rw [this] at hs
      simp only [List.getElem?_cons_zero, Option.some.injEq] at hs
      exact ⟨by omega, hs.symm⟩
  refine ⟨⟨ss ++ [none], by simp [h1], fun i e s he hs => ?_, fun i j id hi hj => ?_, fun i id hi => ?_⟩, h5⟩
  · rcases old i s hs with ⟨hi, hs⟩ | ⟨rfl, rfl⟩
    · rw [List.getElem?_append_left (by omega)] at he
      exact h2 i e s he hs
    · rw [h1, List.getElem?_append_right (Nat.le_refl _), Nat.sub_self] at he
      cases he
      exact Or.inl ⟨rfl, rfl, rfl, rfl⟩
  · rcases old i _ hi with ⟨hi1, hi2⟩ | ⟨rfl, hi2⟩ <;> rcases old j _ hj with ⟨hj1, hj2⟩ | ⟨rfl, hj2⟩
    · exact h3 i j id hi2 hj2
    · cases hj2
    · cases hi2
    · rfl
  · rcases old i _ hi with ⟨hi1, hi2⟩ | ⟨rfl, hi2⟩
    · exact h4 i id hi2
    · cases hi2
theorem Many.init {b : Nat} {es l : List Ent} {m : Mem} (h : Many b (es ++ l) m) : Many b es m := by
  obtain ⟨⟨ss, h1, h2, h3, h4⟩, h5⟩ := h
  have hl : es.length ≤ ss.length := by rw [h1]; simp
  have old : ∀ i s, (ss.take es.length)[i]? = some s → i < es.length ∧ ss[i]? = some s := fun i s hs => by
    rw [List.getElem?_take] at hs
    split at hs
    · exact ⟨by assumption, hs⟩
    · cases hs
  refine ⟨⟨ss.take es.length, by simp; omega, fun i e s he hs => ?_, fun i j id hi hj => h3 i j id (old i _ hi).2 (old j _ hj).2, fun i id hi => h4 i id (old i _ hi).2⟩, h5⟩
  exact h2 i e s (by rw [List.getElem?_append_left (old i s hs).1]; exact he) (old i s hs).2
theorem Many.get {b : Nat} {es : List Ent} {m : Mem} (h : Many b es m) {i id : Nat} {o : Ob} (he : es[i]? = some (.at id o)) : m[id]? = some o ∧ b ≤ id ∧ id < m.length := by
  obtain ⟨⟨ss, h1, h2, h3, h4⟩, h5⟩ := h
  have hi : i < ss.length := by rw [h1]; exact (List.getElem?_eq_some_iff.1 he).1
  obtain ⟨g1, g2⟩ := h2 i _ ss[i] he (List.getElem?_eq_getElem hi)
  have : ss[i]? = some (some id) := by rw [List.getElem?_eq_getElem hi, g1]
  exact ⟨g2, h4 i id this⟩
/-- One of them is something else. -/
theorem Many.put {b : Nat} {es : List Ent} {m m' : Mem} {ss : List (Option Nat)} (h1 : ss.length = es.length) (h2 : ∀ (i : Nat) (e : Ent) (s : Option Nat), es[i]? = some e → ss[i]? = some s → hold m s e) (h3 : ∀ (i j id : Nat), ss[i]? = some (some id) → ss[j]? = some (some id) → i = j)
    (h4 : ∀ (i id : Nat), ss[i]? = some (some id) → b ≤ id ∧ id < m.length) (h5 : b ≤ m.length) {i : Nat} (hi : i < es.length) {s : Option Nat} {e : Ent} (hh : hold m' s e) (hm : ∀ (j id : Nat), j ≠ i → ss[j]? = some (some id) → m'[id]? = m[id]?) (hl : m.length ≤ m'.length)
    (hs : ∀ id, s = some id → b ≤ id ∧ id < m'.length ∧ (ss[i]? = some (some id) ∨ m.length ≤ id)) : Many b (es.set i e) m' := by
  refine ⟨⟨ss.set i s, by simp [h1], fun j e' s' he hs' => ?_, fun j k id hj hk => ?_, fun j id hj => ?_⟩, by omega⟩
  · rw [List.getElem?_set] at he hs'
    split at he
    · rename_i hij
      subst hij
      rw [if_pos rfl, if_pos (by omega)] at hs'
      cases he; cases hs'; exact hh
    · rename_i hij
      rw [if_neg hij] at hs'
      refine hold_frame (h2 j e' s' he hs') fun id hid => ?_
      subst hid
      exact hm j id (fun e => hij e.symm) hs'
  · rw [List.getElem?_set] at hj hk
    split at hj
    · rename_i hij
      subst hij
      rw [if_pos (by omega)] at hj
      cases hj
      split at hk
      · assumption
      · obtain ⟨_, _, g⟩ := hs id rfl
        rcases g with g | g
        · exact h3 i k id g hk
        · have := (h4 k id hk).2; omega
    · rename_i hij
      split at hk
      · rename_i hik
        subst hik
        rw [if_pos (by omega)] at hk
        cases hk
        obtain ⟨_, _, g⟩ := hs id rfl
        rcases g with g | g
        · exact h3 j i id hj g
        · have := (h4 j id hj).2; omega
      · exact h3 j k id hj hk
  · rw [List.getElem?_set] at hj
    split at hj
    · rename_i hij
      subst hij
      rw [if_pos (by omega)] at hj
      cases hj
      obtain ⟨g1, g2, _⟩ := hs id rfl
      exact ⟨g1, g2⟩
    · have := h4 j id hj; omega
theorem Many.set {b : Nat} {es : List Ent} {m : Mem} (h : Many b es m) {i id : Nat} {o : Ob} (he : es[i]? = some (.at id o)) (o' : Ob) : Many b (es.set i (.at id o')) (m.set id o') := by
  obtain ⟨g1, g2, g3⟩ := h.get he
  obtain ⟨⟨ss, h1, h2, h3, h4⟩, h5⟩ := h
  have hi : i < es.length := (List.getElem?_eq_some_iff.1 he).1
  have hsi : ss[i]? = some (some id) := by
    have hi' : i < ss.length := by omega
    have := (h2 i _ ss[i] he (List.getElem?_eq_getElem hi')).1
    rw [List.getElem?_eq_getElem hi', this]
  refine Many.put h1 h2 h3 h4 h5 hi (s := some id) ⟨rfl, by simp [g3]⟩ (fun j id' hj hs => ?_) (by simp) (fun id' e => ?_)
  · have : id ≠ id' := fun e => by subst e; exact hj (h3 j i id hs hsi)
    rw [List.getElem?_set_ne this]
  · cases e; exact ⟨g2, by simpa using g3, Or.inl hsi⟩
/-- More of a row. -/
theorem Many.app {b : Nat} {es : List Ent} {m : Mem} (h : Many b es m) {i w n : Nat} {cs : List AV} {v : AV} (he : es[i]? = some (.row w n cs v)) (hfit : Fits en b) (hb : en.bar ≤ b) {k : Nat} {ys : List AV} (hy : ys.length = k * w) (hw : 0 < w ∧ w ≤ 64) (hn : n + k ≤ 2 ^ 32) {tg : Nat} {K : Req → AV → Mem → Prop}
    (hK : ∀ r v' m', Many b (es.set i (.row w (n + k) (cs ++ ys) v')) m' → AppLike r → K r (kv v') m') : WOf P pol en (appR tg w (some (kv v)) (some (.lst k ys))) m K := by
  unfold kv at *
  have hi : i < es.length := (List.getElem?_eq_some_iff.1 he).1
  have hM := h
  obtain ⟨⟨ss, h1, h2, h3, h4⟩, h5⟩ := h
  have hi' : i < ss.length := by omega
  have hsi := List.getElem?_eq_getElem hi'
  have hh := h2 i _ ss[i] he hsi
  have hroom : roomOk (n + k) w = true := by simp only [roomOk, Bool.and_eq_true, decide_eq_true_eq]; omega
  cases k with
  | zero =>
    have : ys = [] := List.eq_nil_of_length_eq_zero (by simpa using hy)
    subst this
    have e0 : appR tg w (some v) (some (.lst 0 [])) = some (.val v) := by
      rcases hh with ⟨_, _, _, rfl⟩ | ⟨_, id, ver, _, rfl, _, _⟩ <;> simp [appR, Src.n]
    rw [e0, WOf_val]
    refine hK _ _ _ ?_ (Or.inr (Or.inr ⟨_, rfl⟩))
    have : es.set i (.row w (n + 0) (cs ++ []) v) = es := by
      apply List.ext_getElem?
      intro j
      rw [List.getElem?_set]
      split
      · rename_i hij; subst hij; rw [he]; simp
      · rfl
    rw [this]; exact hM
  | succ k =>
    rcases hh with ⟨e1, rfl, rfl, rfl⟩ | ⟨e0, id, ver, e1, rfl, e2, e3⟩
    · rw [appR_nil, WOf_appnew]
      refine ⟨⟨hy, by simp, hroom, by omega⟩, hK _ _ _ ?_ (Or.inr (Or.inl ⟨_, _, _, _, _, rfl⟩))⟩
      refine Many.put h1 h2 h3 h4 h5 hi (s := some m.length) (Or.inr ⟨by omega, m.length, tg, rfl, rfl, by simp, by simpa using hy⟩) (fun j id hj hs => List.getElem?_append_left (h4 j id hs).2) (by simp) (fun id e => ?_)
      cases e; exact ⟨h5, by simp, Or.inr (Nat.le_refl _)⟩
    · have hsi' : ss[i]? = some (some id) := by rw [hsi, e1]
      have hid := h4 i id hsi'
      rw [appR_own, WOf_app, e2, cellsQ_some]
      refine ⟨rfl, ⟨hy, by omega, hroom, by omega⟩, okTo_fits hfit hb hid.1 _, ?_⟩
      have hc : (cs.drop 0).take (n * w) = cs := by rw [List.drop_zero, List.take_of_length_le (by omega)]
      rw [hc]
      refine hK _ _ _ ?_ (Or.inl ⟨_, _, _, _, _, _, _, rfl⟩)
      refine Many.put h1 h2 h3 h4 h5 hi (s := some id) (Or.inr ⟨by omega, id, nextV tg ver, rfl, rfl, by simp [hid.2], by simp [e3, hy, Nat.add_mul]⟩) (fun j id' hj hs => ?_) (by simp) (fun id' e => ?_)
      · have : id ≠ id' := fun e => by subst e; exact hj (h3 j i id hs hsi')
        rw [List.getElem?_set_ne this]
      · cases e; exact ⟨hid.1, by simpa using hid.2, Or.inl hsi'⟩
theorem Many.row {b : Nat} {es : List Ent} {m : Mem} (h : Many b es m) {i w n : Nat} {cs : List AV} {v : AV} (he : es[i]? = some (.row w n cs v)) : (n = 0 ∧ cs = [] ∧ v = .nilS) ∨ (0 < n ∧ ∃ id ver, v = .own id ver 0 n w ∧ m[id]? = some (.cells ver cs) ∧ cs.length = n * w ∧ b ≤ id ∧ id < m.length) := by
  obtain ⟨⟨ss, h1, h2, h3, h4⟩, h5⟩ := h
  have hi : i < ss.length := by rw [h1]; exact (List.getElem?_eq_some_iff.1 he).1
  have hsi := List.getElem?_eq_getElem hi
  rcases h2 i _ ss[i] he hsi with ⟨_, a, b, c⟩ | ⟨e0, id, ver, e1, e2, e3, e4⟩
  · exact Or.inl ⟨a, b, c⟩
  · have := h4 i id (by rw [hsi, e1])
    exact Or.inr ⟨e0, id, ver, e2, e3, e4, this⟩
theorem Many.len {b : Nat} {es : List Ent} {m : Mem} (h : Many b es m) {i w n : Nat} {cs : List AV} {v : AV} (he : es[i]? = some (.row w n cs v)) (e : TypeId) (g : Option Req) : lenR (some (kv v)) (some (.slice e)) g = some (.val (I n)) := by
  rcases h.row he with ⟨rfl, rfl, rfl⟩ | ⟨_, id, ver, rfl, _⟩ <;> rfl
theorem Many.frz {α : Type} {f : α → List AV} {w : Nat} [hw : Wide f w] {b : Nat} {es : List Ent} {m : Mem} (h : Many b es m) {i : Nat} {l : List α} {v : AV} (he : es[i]? = some (.row w l.length (l.flatMap f) v)) {b' : Nat} (hb : b' ≤ b) (d : Nat) (k : AV → Prop) : frzQ m b' (d + 2) (kv v) k = k (slf f ⟨true, false, l⟩) := by
  unfold kv
  rcases h.row he with ⟨hn, _, rfl⟩ | ⟨hn, id, ver, rfl, e2, e3, e4, e5⟩
  · rw [frzQ_nilS]
    rw [List.eq_nil_of_length_eq_zero hn]; rfl
  · have h1 : (l.flatMap f).mapM (V.frz m b' (d + 1)) = some (l.flatMap f) := by
      have : ∀ cs : List AV, (∀ c ∈ cs, Clean c ∧ ∀ t u, c ≠ .ifc t u) → cs.mapM (V.frz m b' (d + 1)) = some cs := fun cs => by
        induction cs with
        | nil => intro _; rfl
        | cons c cs ih =>
          intro hc
          obtain ⟨h1, h2⟩ := hc c (by simp)
          simp only [List.mapM_cons, ih (fun c h => hc c (by simp [h])), clean_frz h1 m b' d h2]; rfl
      refine this _ fun c hc => ?_
      rw [List.mem_flatMap] at hc
      obtain ⟨a, _, hc⟩ := hc
      exact hw.clean a c hc
    have e6 : V.frz m b' (d + 2) (.own id ver 0 l.length w) = some (slf f ⟨true, false, l⟩) := by
      rw [V.frz]
      rw [if_neg (by omega), lget_eq, e2]
      simp only
      rw [if_pos ⟨trivial, by omega⟩, List.drop_zero, List.take_of_length_le (by omega), h1]
      simp only
      rw [if_pos (flat_leaf (w := w) l)]
      have hl : l ≠ [] := by rintro rfl; simp at hn
      simp [slf, hl]
    unfold frzQ
    rw [e6]; simp
theorem Many.frz1 {α : Type} {f : α → AV} (hf : ∀ a, Clean (f a)) (hi : ∀ a t u, f a ≠ .ifc t u) {b : Nat} {es : List Ent} {m : Mem} (h : Many b es m) {i : Nat} {l : List α} {v : AV} (he : es[i]? = some (.row 1 l.length (l.map f) v)) {b' : Nat} (hb : b' ≤ b) (d : Nat) (k : AV → Prop) : frzQ m b' (d + 2) (kv v) k = k (sl f ⟨true, false, l⟩) := by
  unfold kv
  rcases h.row he with ⟨hn, _, rfl⟩ | ⟨hn, id, ver, rfl, e2, e3, e4, e5⟩
  · rw [frzQ_nilS]
    rw [List.eq_nil_of_length_eq_zero hn]; rfl
  · have hl : l ≠ [] := by rintro rfl; simp at hn
    rw [frzQ_own hf hi l e2 (by omega)]
    simp [sl, hl]
end
end Go.Proofs.YtcmjidnbbfcbjaaDoor.V
/- Calls as equations; conditions taken apart; no condition. -/
namespace Go.Proofs.YtcmjidnbbfcbjaaDoor.V
open Go
set_option linter.unusedVariables false
set_option linter.unusedSimpArgs false
noncomputable section
variable {P : Program} {pol : Pol} {en : Env}
theorem CallR.det {fn : Fn} {args : List AV} {m : Mem} {v u : AV} {m' m'' : Mem} (h1 : CallR P pol en fn args m v m') (h2 : CallR P pol en fn args m u m'') : v = u ∧ m' = m'' := by
  obtain ⟨N, hN⟩ := h1
  obtain ⟨M, hM⟩ := h2
  have := (hN (max N M) (by omega)).symm.trans (hM (max N M) (by omega))
  cases this
  exact ⟨rfl, rfl⟩
/-- A contract as an equation. -/
theorem WC.rule {fn : Fn} {args : List AV} {m : Mem} {v0 : AV} {m0 : Mem} (h : WC P pol en fn args m fun v m' => v = v0 ∧ m' = m0) (Q : AV → Mem → Prop) : WC P pol en fn args m Q = Q v0 m0 := by
  obtain ⟨v, m', h1, rfl, rfl⟩ := h
  refine propext ⟨fun ⟨u, m'', h2, hQ⟩ => ?_, fun h => ⟨_, _, h1, h⟩⟩
  obtain ⟨rfl, rfl⟩ := h1.det h2
  exact hQ
theorem Fits.up {n k : Nat} (h : Fits en n) (hk : n ≤ k) : Fits en k := h.mono hk
theorem Fits.upPur {n k : Nat} (h : Fits en n) (hk : n ≤ k) : Fits ⟨n :: en.bases, n⟩ k := h.pur.mono hk
theorem gIf_t {q : Bool} {ts : List AV} {A B : List AV → Prop} (h1 : q = true → A ts) (h2 : q = false → B ts) : gIf (guardV (some (.sc (.bool q))) true) ts A B := by
  cases q
  · exact h2 rfl
  · exact h1 rfl
theorem gIf_f {q : Bool} {ts : List AV} {A B : List AV → Prop} (h1 : q = true → B ts) (h2 : q = false → A ts) : gIf (guardV (some (.sc (.bool q))) false) ts A B := by
  cases q
  · exact h2 rfl
  · exact h1 rfl
theorem ite_t {q : Bool} {a b : Prop} (h1 : q = true → a) (h2 : q = false → b) : if q = true then a else b := by
  cases q
  · exact h2 rfl
  · exact h1 rfl
theorem ite_p {p : Prop} [Decidable p] {a b : Prop} (h1 : p → a) (h2 : ¬p → b) : if p then a else b := by
  split
  · exact h1 ‹_›
  · exact h2 ‹_›
theorem ds_t {ops : Array Oper} (h : drawStatic ops = true) : drawStatic ops = true := h
theorem pc_t {n : Nat} {ops : Array Oper} {tr : List (Nat × Req)} (h : peace pol n ops tr = true) : peace pol n ops tr = true := h
theorem okToP {n id : Nat} {low : Nat → Bool} (h : Fits en n) (hid : n ≤ id) : okTo ⟨n :: en.bases, n⟩ id low = True := eq_true (okTo_pur h hid low)
theorem okToO {n id : Nat} {low : Nat → Bool} (h : Fits en n) (hb : en.bar ≤ n) (hid : n ≤ id) : okTo en id low = True := eq_true (okTo_fits h hb hid low)
/-- A row that this call has made, and grows; nothing of it: nil. -/
def Rw {α : Type} (f : α → AV) (m0 : Mem) (l : List α) (v : AV) (m : Mem) : Prop :=
  (l = [] ∧ v = .nilS ∧ m = m0) ∨ (l ≠ [] ∧ ∃ ver, v = .own m0.length ver 0 l.length 1 ∧ m = m0 ++ [.cells ver (l.map f)])
theorem Rw.row {α : Type} {f : α → AV} {m0 : Mem} {l : List α} {v : AV} {m : Mem} (h : Rw f m0 l v m) : Row f m0 l v m := by
  rcases h with h | ⟨_, h⟩
  · exact Or.inl h
  · exact Or.inr h
theorem Rw.nil {α : Type} {f : α → AV} {m0 : Mem} : Rw f m0 [] .nilS m0 := Or.inl ⟨rfl, rfl, rfl⟩
theorem Rw.own {α : Type} {f : α → AV} {m0 : Mem} {l : List α} {ver n : Nat} {cs : List AV} (hl : l ≠ []) (hn : n = l.length) (hc : cs = l.map f) : Rw f m0 l (.own m0.length ver 0 n 1) (m0 ++ [.cells ver cs]) := Or.inr ⟨hl, ver, by rw [hn], by rw [hc]⟩
theorem Rw.app {α : Type} {f : α → AV} {m0 : Mem} {l : List α} {v : AV} {m : Mem} (h : Rw f m0 l v m) (a : α) (hfit : Fits en m0.length) (hb : en.bar ≤ m0.length) (hn : l.length < 2 ^ 32) {tg : Nat} {k : Req → AV → Mem → Prop}
    (hk : ∀ r v' m', Rw f m0 (l ++ [a]) v' m' → k r (kv v') m') : WOf P pol en (appR tg 1 (some (kv v)) (some (.lst 1 [f a]))) m k :=
  h.row.app a hfit hb hn fun r v' m' hr => hk r v' m' (by
    rcases hr with ⟨e, _⟩ | hr
    · simp at e
    · exact Or.inr ⟨by simp, hr⟩)
theorem Rw.len {α : Type} {f : α → AV} {m0 : Mem} {l : List α} {v : AV} {m : Mem} (h : Rw f m0 l v m) (e : TypeId) (g : Option Req) : lenR (some (kv v)) (some (.slice e)) g = some (.val (I l.length)) := h.row.len e g
theorem Rw.frz {α : Type} {f : α → AV} {m0 : Mem} {l : List α} {v : AV} {m : Mem} (h : Rw f m0 l v m) (hf : ∀ a, Clean (f a)) (hi : ∀ a t u, f a ≠ .ifc t u) {b : Nat} (hb : b ≤ m0.length) (d : Nat) (k : AV → Prop) : frzQ m b (d + 2) (kv v) k = k (sl f ⟨true, false, l⟩) := by
  unfold kv
  rcases h with ⟨rfl, rfl, rfl⟩ | ⟨hl, ver, rfl, rfl⟩
  · rw [frzQ_nilS]; rfl
  · rw [frzQ_own hf hi l (by rw [getM0]; rfl) hb]
    simp [sl, hl]
theorem Rw.old {α : Type} {f : α → AV} {m0 : Mem} {l : List α} {v : AV} {m : Mem} (h : Rw f m0 l v m) {i : Nat} (hi : i < m0.length) : m[i]? = m0[i]? := by
  rcases h with ⟨_, _, rfl⟩ | ⟨_, ver, _, rfl⟩
  · rfl
  · exact List.getElem?_append_left hi
theorem Rw.le {α : Type} {f : α → AV} {m0 : Mem} {l : List α} {v : AV} {m : Mem} (h : Rw f m0 l v m) : m0.length ≤ m.length := by
  rcases h with ⟨_, _, rfl⟩ | ⟨_, ver, _, rfl⟩
  · exact Nat.le_refl _
  · simp
def RwF {α : Type} (f : α → List AV) (w : Nat) (m0 : Mem) (l : List α) (v : AV) (m : Mem) : Prop :=
  (l = [] ∧ v = .nilS ∧ m = m0) ∨ (l ≠ [] ∧ ∃ ver, v = .own m0.length ver 0 l.length w ∧ m = m0 ++ [.cells ver (l.flatMap f)])
theorem RwF.nil {α : Type} {f : α → List AV} {w : Nat} {m0 : Mem} : RwF f w m0 [] .nilS m0 := Or.inl ⟨rfl, rfl, rfl⟩
theorem RwF.len {α : Type} {f : α → List AV} {w : Nat} {m0 : Mem} {l : List α} {v : AV} {m : Mem} (h : RwF f w m0 l v m) (e : TypeId) (g : Option Req) : lenR (some (kv v)) (some (.slice e)) g = some (.val (I l.length)) := by
  rcases h with ⟨rfl, rfl, rfl⟩ | ⟨_, ver, rfl, rfl⟩ <;> rfl
theorem RwF.apps {α : Type} {f : α → List AV} {w : Nat} [hw : Wide f w] {m0 : Mem} {l : List α} {v : AV} {m : Mem} (h : RwF f w m0 l v m) (ys : List α) {cs : List AV} (hcs : cs = ys.flatMap f) {n : Nat} (hys : ys.length = n) (hfit : Fits en m0.length) (hb : en.bar ≤ m0.length) (hn : l.length + n ≤ 2 ^ 32) (hw64 : w ≤ 64) {tg : Nat} {k : Req → AV → Mem → Prop}
    (hk : ∀ r v' m', RwF f w m0 (l ++ ys) v' m' → k r (kv v') m') : WOf P pol en (appR tg w (some (kv v)) (some (.lst n cs))) m k := by
  subst hcs
  unfold kv at *
  have hp := hw.pos
  cases n with
  | zero =>
    have : ys = [] := List.eq_nil_of_length_eq_zero hys
    subst this
    have e0 : appR tg w (some v) (some (.lst 0 (([] : List α).flatMap f))) = some (.val v) := by
      rcases h with ⟨_, rfl, _⟩ | ⟨_, ver, rfl, _⟩ <;> simp [appR, Src.n]
    rw [e0, WOf_val]
    exact hk _ _ _ (by rwa [List.append_nil])
  | succ n =>
    have hne : l ++ ys ≠ [] := by intro e; have := congrArg List.length e; rw [List.length_append, List.length_nil] at this; omega
    have hroom : roomOk (l.length + (n + 1)) w = true := by simp only [roomOk, Bool.and_eq_true, decide_eq_true_eq]; omega
    have hyl : (ys.flatMap f).length = (n + 1) * w := by rw [flat_len (w := w), hys]
    rcases h with ⟨rfl, rfl, rfl⟩ | ⟨hl, ver, rfl, rfl⟩
    · rw [appR_nil, WOf_appnew]
      refine ⟨⟨hyl, by simp, hroom, by omega⟩, hk _ _ _ (Or.inr ⟨hne, tg, ?_, ?_⟩)⟩
      · simp [hys]
      · simp
    · rw [appR_own, WOf_app, getM0, List.getElem?_cons_zero, cellsQ_some]
      refine ⟨rfl, ⟨hyl, by rw [flat_len (w := w)]; omega, hroom, by omega⟩, okTo_fits hfit hb (Nat.le_refl _) _, ?_⟩
      rw [setM0, List.set_cons_zero]
      refine hk _ _ _ (Or.inr ⟨hne, nextV tg ver, ?_, ?_⟩)
      · simp [hys]
      · rw [List.drop_zero, List.take_of_length_le (by rw [flat_len (w := w)]; omega), List.flatMap_append]
theorem RwF.app {α : Type} {f : α → List AV} {w : Nat} [hw : Wide f w] {m0 : Mem} {l : List α} {v : AV} {m : Mem} (h : RwF f w m0 l v m) (a : α) {cs : List AV} (hcs : cs = f a) (hfit : Fits en m0.length) (hb : en.bar ≤ m0.length) (hn : l.length < 2 ^ 32) (hw64 : w ≤ 64) {tg : Nat} {k : Req → AV → Mem → Prop}
    (hk : ∀ r v' m', RwF f w m0 (l ++ [a]) v' m' → k r (kv v') m') : WOf P pol en (appR tg w (some (kv v)) (some (.lst 1 cs))) m k :=
  h.apps (n := 1) [a] (by simp [hcs]) rfl hfit hb (by omega) hw64 hk
theorem RwF.old {α : Type} {f : α → List AV} {w : Nat} {m0 : Mem} {l : List α} {v : AV} {m : Mem} (h : RwF f w m0 l v m) {i : Nat} (hi : i < m0.length) : m[i]? = m0[i]? := by
  rcases h with ⟨_, _, rfl⟩ | ⟨_, ver, _, rfl⟩
  · rfl
  · exact List.getElem?_append_left hi
theorem RwF.le {α : Type} {f : α → List AV} {w : Nat} {m0 : Mem} {l : List α} {v : AV} {m : Mem} (h : RwF f w m0 l v m) : m0.length ≤ m.length := by
  rcases h with ⟨_, _, rfl⟩ | ⟨_, ver, _, rfl⟩
  · exact Nat.le_refl _
  · simp
theorem RwF.frz {α : Type} {f : α → List AV} {w : Nat} [hw : Wide f w] {m0 : Mem} {l : List α} {v : AV} {m : Mem} (h : RwF f w m0 l v m) {b : Nat} (hb : b ≤ m0.length) (d : Nat) (k : AV → Prop) : frzQ m b (d + 2) (kv v) k = k (slf f ⟨true, false, l⟩) := by
  unfold kv
  rcases h with ⟨rfl, rfl, rfl⟩ | ⟨hl, ver, rfl, rfl⟩
  · rw [frzQ_nilS]; rfl
  · have h1 : (l.flatMap f).mapM (V.frz (m0 ++ [.cells ver (l.flatMap f)]) b (d + 1)) = some (l.flatMap f) := by
      generalize hM : m0 ++ [Ob.cells ver (l.flatMap f)] = M
      have : ∀ cs : List AV, (∀ c ∈ cs, Clean c ∧ ∀ t u, c ≠ .ifc t u) → cs.mapM (V.frz M b (d + 1)) = some cs := fun cs => by
        induction cs with
        | nil => intro _; rfl
        | cons c cs ih =>
          intro hc
          obtain ⟨h1, h2⟩ := hc c (by simp)
          simp only [List.mapM_cons, ih (fun c h => hc c (by simp [h])), clean_frz h1 M b d h2]; rfl
      refine this _ fun c hc => ?_
      rw [List.mem_flatMap] at hc
      obtain ⟨a, _, hc⟩ := hc
      exact hw.clean a c hc
    have e6 : V.frz (m0 ++ [.cells ver (l.flatMap f)]) b (d + 2) (.own m0.length ver 0 l.length w) = some (slf f ⟨true, false, l⟩) := by
      rw [V.frz]
      rw [if_neg (by omega), lget_eq, getM0, List.getElem?_cons_zero]
      simp only
      rw [if_pos ⟨trivial, by rw [flat_len (w := w)]; omega⟩, List.drop_zero, List.take_of_length_le (by rw [flat_len (w := w)]; omega), h1]
      simp only
      rw [if_pos (flat_leaf (w := w) l)]
      simp [slf, hl]
    unfold frzQ
    rw [e6]; simp
theorem roomD {n w : Nat} (h : n ≤ 4294967296) (hw : 0 < w ∧ w ≤ 64) : (roomOk n w = true) = True := by
  simp only [roomOk, Bool.and_eq_true, decide_eq_true_eq, eq_iff_iff, iff_true]; omega
theorem takeD {α : Type} {l : List α} {n : Nat} (h : l.length ≤ n) : l.take n = l := List.take_of_length_le h
theorem clean_tx (l : List UInt8) : Clean (tx l) := clean_sc _
theorem tx_ifc (l : List UInt8) (t : TypeId) (u : AV) : tx l ≠ .ifc t u := by simp [tx]
/-! Structs, part by part. -/
def fillS (pl : Option (Nat × Nat)) (v : AV) (cells : List AV) (k : List AV → Option (List AV)) : Option (List AV) :=
  match pl with
  | none => none
  | some (off, size) => if v.cells.length ≠ size || off + v.cells.length > cells.length || !v.cells.all AV.leaf then none else k (splice cells off v.cells)
@[go_sem] theorem fillA_cons (place : Nat → Option (Nat × Nat)) (cells : List AV) (i : Nat) (v : AV) (rest : List (Nat × AV)) : fillA place cells ((i, v) :: rest) = fillS (place i) v cells (lock (fun c => fillA place c rest) ()) := by
  simp only [fillA, fillS, lock]
  cases place i with
  | none => rfl
  | some p => rfl
def fillE (pl : Option (Nat × Nat)) (v : AV) (cells : List AV) (k : List AV → Option (List AV)) : Option (List AV) := fillS pl v cells k
@[go_sem] theorem fillS_leaf (off : Nat) (v : AV) (cells : List AV) (k : List AV → Option (List AV)) : fillS (some (off, 1)) v cells k = if v.leaf = true ∧ off < cells.length then k (cells.set off v) else fillE (some (off, 1)) v cells k := by
  split
  · rename_i h
    simp only [fillS, cells_leaf h.1, List.length_singleton, List.all_cons, List.all_nil, h.1, splice]
    rw [if_neg (by simp; omega)]
  · rfl
@[go_sem] theorem fillS_agg (off n : Nat) (cs cells : List AV) (k : List AV → Option (List AV)) : fillS (some (off, n + 2)) (.agg cs) cells k = if cs.length = n + 2 ∧ off + cs.length ≤ cells.length ∧ cs.all AV.leaf = true then k (splice cells off cs) else none := by
  show (if (decide (cs.length ≠ n + 2) || decide (off + cs.length > cells.length) || !cs.all AV.leaf) = true then none else k (splice cells off cs)) = _
  by_cases h : cs.length = n + 2 ∧ off + cs.length ≤ cells.length ∧ cs.all AV.leaf = true
  · rw [if_pos h, if_neg (by simp [h.1, h.2.2]; omega)]
  · rw [if_neg h, if_pos]
    simp only [Bool.or_eq_true, decide_eq_true_eq, Bool.not_eq_true']
    by_cases h1 : cs.length = n + 2
    · by_cases h2 : off + cs.length ≤ cells.length
      · right; cases h3 : cs.all AV.leaf
        · rfl
        · exact (h ⟨h1, h2, h3⟩).elim
      · left; right; omega
    · left; left; exact h1
/-! Peace does not hang on where the objects lie. -/
def Foot.shift (B : Nat) (f : Foot) : Foot := ⟨f.rd.map (B + ·), f.wr.map (B + ·), f.al, f.ra, f.all⟩
def peaceF (b : List Nat) (ml : Nat) (l : List (Nat × Foot)) : Bool :=
  let loud := l.filter fun x => x.2.loud
  loud.all fun (j, fj) => loud.all fun (i, fi) => !(i < j) || ordered b i j || !confl ml fi fj
theorem peaceF_eq (n : Nat) (ops : Array Oper) (tr : List (Nat × Req)) : peace pol n ops tr = peaceF (bef ops.toList) n (tr.map fun x => (x.1, x.2.foot pol)) := by
  simp only [peace, peaceF, List.filter_map, List.all_map]
  rfl
theorem loud_shift (B : Nat) (f : Foot) : (f.shift B).loud = f.loud := by simp [Foot.shift, Foot.loud]
theorem any_shift (B ml : Nat) (l : List Nat) : ((l.map (B + ·)).any fun i => decide (B + ml ≤ i)) = l.any fun i => decide (ml ≤ i) := by
  rw [List.any_map]
  congr 1
  funext i
  simp
theorem contains_shift (B i : Nat) (l : List Nat) : (l.map (B + ·)).contains (B + i) = l.contains i := by
  rw [Bool.eq_iff_iff]
  simp
theorem confl_shift (B ml : Nat) (f g : Foot) : confl (B + ml) (f.shift B) (g.shift B) = confl ml f g := by
  have hw : ∀ f : Foot, (f.shift B).writes = f.writes := fun f => by simp [Foot.shift, Foot.writes]
  have e1 : (f.shift B).rd = f.rd.map (B + ·) := rfl
  have e2 : (g.shift B).rd = g.rd.map (B + ·) := rfl
  have e3 : (f.shift B).wr = f.wr.map (B + ·) := rfl
  have e4 : (g.shift B).wr = g.wr.map (B + ·) := rfl
  have e5 : ∀ f : Foot, (f.shift B).al = f.al := fun _ => rfl
  have e6 : ∀ f : Foot, (f.shift B).ra = f.ra := fun _ => rfl
  have e7 : ∀ f : Foot, (f.shift B).all = f.all := fun _ => rfl
  unfold confl
  simp only [loud_shift, hw, e1, e2, e3, e4, e5, e6, e7, List.any_map, Function.comp_def, contains_shift, Nat.add_le_add_iff_left]
theorem peaceF_shift (b : List Nat) (B ml : Nat) (l : List (Nat × Foot)) : peaceF b (B + ml) (l.map fun x => (x.1, x.2.shift B)) = peaceF b ml l := by
  simp only [peaceF, List.filter_map, List.all_map, Function.comp_def, loud_shift, confl_shift]
theorem peace_all {n : Nat} {ops : Array Oper} {tr : Nat → List (Nat × Req)} (h0 : peace pol n ops (tr 0) = true) (hs : ∀ B, (tr B).map (fun x => (x.1, x.2.foot pol)) = (tr 0).map (fun x => (x.1, (x.2.foot pol).shift B))) (B : Nat) : peace pol (B + n) ops (tr B) = true := by
  rw [peaceF_eq] at h0 ⊢
  rw [hs B, ← h0, ← peaceF_shift _ B n, List.map_map]
  rfl
theorem peace_all0 {ops : Array Oper} {tr : Nat → List (Nat × Req)} (h0 : peace pol 0 ops (tr 0) = true) (hs : ∀ B, (tr B).map (fun x => (x.1, x.2.foot pol)) = (tr 0).map (fun x => (x.1, (x.2.foot pol).shift B))) (B : Nat) : peace pol B ops (tr B) = true := peace_all (n := 0) h0 hs B
/-! Bools held against each other. -/
section
variable {ρ : Operand → Option AV} {d : Option Tmp} {ty : TypeId} {p : String} {af : Array Edge} {gd : Option (Nat × Bool)}
def binB (op : BinOp) (dt : Option TypeDesc) (x y : Option AV) (g : Option Req) : Option Req :=
  match x, y with
  | some (.sc (.bool a)), some (.sc (.bool b)) =>
    match eqOp op, dt with
    | some e, some .bool => some (.val (.sc (.bool ((a == b) == e))))
    | _, _ => g
  | _, _ => g
@[go_sem] theorem binB_eql (a b : Bool) (g : Option Req) : binB .eql (some .bool) (some (.sc (.bool a))) (some (.sc (.bool b))) g = some (.val (.sc (.bool (a == b)))) := by cases a <;> cases b <;> rfl
@[go_sem] theorem binB_neq (a b : Bool) (g : Option Req) : binB .neq (some .bool) (some (.sc (.bool a))) (some (.sc (.bool b))) g = some (.val (.sc (.bool (!(a == b))))) := by cases a <;> cases b <;> rfl
@[go_sem] theorem binB_int (k : IntKind) (a : Int) (op : BinOp) (dt : Option TypeDesc) (y : Option AV) (g : Option Req) : binB op dt (some (.sc (.int k a))) y g = g := rfl
@[go_sem] theorem binB_tx (l : List UInt8) (op : BinOp) (dt : Option TypeDesc) (y : Option AV) (g : Option Req) : binB op dt (some (tx l)) y g = g := rfl
@[go_sem] theorem binB_nilP  (op : BinOp) (dt : Option TypeDesc) (y : Option AV) (g : Option Req) : binB op dt (some .nilP) y g = g := rfl
@[go_sem] theorem binB_nilS  (op : BinOp) (dt : Option TypeDesc) (y : Option AV) (g : Option Req) : binB op dt (some .nilS) y g = g := rfl
@[go_sem] theorem binB_nilI  (op : BinOp) (dt : Option TypeDesc) (y : Option AV) (g : Option Req) : binB op dt (some .nilI) y g = g := rfl
@[go_sem] theorem binB_nilM  (op : BinOp) (dt : Option TypeDesc) (y : Option AV) (g : Option Req) : binB op dt (some .nilM) y g = g := rfl
@[go_sem] theorem binB_nilF  (op : BinOp) (dt : Option TypeDesc) (y : Option AV) (g : Option Req) : binB op dt (some .nilF) y g = g := rfl
@[go_sem] theorem binB_ptr (a b c : Nat) (op : BinOp) (dt : Option TypeDesc) (y : Option AV) (g : Option Req) : binB op dt (some (.ptr a b c)) y g = g := rfl
@[go_sem] theorem binB_cptr (cs : List AV) (op : BinOp) (dt : Option TypeDesc) (y : Option AV) (g : Option Req) : binB op dt (some (.cptr cs)) y g = g := rfl
@[go_sem] theorem binB_lst (n : Nat) (cs : List AV) (c : Bool) (op : BinOp) (dt : Option TypeDesc) (y : Option AV) (g : Option Req) : binB op dt (some (.lst n cs c)) y g = g := rfl
@[go_sem] theorem binB_own (a b c e f : Nat) (op : BinOp) (dt : Option TypeDesc) (y : Option AV) (g : Option Req) : binB op dt (some (.own a b c e f)) y g = g := rfl
@[go_sem] theorem binB_mp (a : Nat) (op : BinOp) (dt : Option TypeDesc) (y : Option AV) (g : Option Req) : binB op dt (some (.mp a)) y g = g := rfl
@[go_sem] theorem binB_ifc (t : TypeId) (v : AV) (op : BinOp) (dt : Option TypeDesc) (y : Option AV) (g : Option Req) : binB op dt (some (.ifc t v)) y g = g := rfl
@[go_sem] theorem binB_agg (cs : List AV) (op : BinOp) (dt : Option TypeDesc) (y : Option AV) (g : Option Req) : binB op dt (some (.agg cs)) y g = g := rfl
@[go_sem] theorem binB_clo (f : Fn) (a b : List AV) (op : BinOp) (dt : Option TypeDesc) (y : Option AV) (g : Option Req) : binB op dt (some (.clo f a b)) y g = g := rfl
@[go_sem] theorem binB_sl {α : Type} (f : α → AV) (x : Sl α) (op : BinOp) (dt : Option TypeDesc) (y : Option AV) (g : Option Req) : binB op dt (some (sl f x)) y g = g := by unfold sl; split <;> rfl
@[go_sem] theorem binB_slf {α : Type} (f : α → List AV) (x : Sl α) (op : BinOp) (dt : Option TypeDesc) (y : Option AV) (g : Option Req) : binB op dt (some (slf f x)) y g = g := by unfold slf; split <;> rfl
theorem pv_equalB (n : Nat) {t : TypeId} (ht : P.underlying t = some .bool) (a b : Bool) : pv P (Op.equalIn (n + 1) t (.bool a) (.bool b)) = some (a == b) := by
  simp only [Op.equalIn, pv_bind, pv_under ht, Option.bind_some]
  rfl
theorem gen_bool {op : BinOp} {t yt : TypeId} {x y : Operand} {a b e : Bool} (hx : ρ x = some (.sc (.bool a))) (hy : ρ y = some (.sc (.bool b))) (ht : P.underlying t = some .bool) (ho : eqOp op = some e) :
    generic P ρ ⟨d, .binOp op t x y yt, ty, p, af, gd⟩ = some (.val (.sc (.bool ((a == b) == e)))) := by
  rw [generic_pv (us := [.bool a, .bool b]) (u := .bool ((a == b) == e)) rfl (by simp [Op.operands, hx, hy, AV.toV])]
  · rfl
  · simp only [execOp, hx, hy, Option.bind_some, AV.toV, Option.getD_some, pv_bind]
    have hg : pv P (eqGuard op t x y (.bool a) (.bool b)) = some () := by
      unfold eqGuard
      rcases eqOp_some ho with ⟨rfl, _⟩ | ⟨rfl, _⟩ <;> simp [pv_bind] <;> rfl
    rw [hg, Option.bind_some]
    have h5 : pv P (Op.equal t (.bool a) (.bool b)) = some (a == b) := by
      simp only [Op.equal, Op.maxDepth]
      exact pv_equalB 9999 ht a b
    rcases eqOp_some ho with ⟨rfl, rfl⟩ | ⟨rfl, rfl⟩ <;> simp only [Go.binOp] <;> rw [pv_bind, h5] <;> cases (a == b) <;> rfl
@[go_sem 16000] theorem plan_binB (op : BinOp) (t yt : TypeId) (x y : Operand) : plan P ρ ⟨d, .binOp op t x y yt, ty, p, af, gd⟩ = binB op (P.underlying t) (ρ x) (ρ y) (binA op (flatS P t) (ρ x) (ρ y) (binT op (ρ x) (ρ y) (binN op (P.underlying t) (ρ x) (ρ y) (binR P op (P.underlying t) (ρ x) (ρ y) (generic P ρ ⟨d, .binOp op t x y yt, ty, p, af, gd⟩))))) := by
  unfold binB
  split
  · rename_i a b hx hy
    split
    · rename_i e ho ht
      rw [← gen_bool (P := P) (ρ := ρ) (d := d) (ty := ty) (p := p) (af := af) (gd := gd) (yt := yt) hx hy ht ho]
      simp only [plan, hx, hy]
      cases op <;> simp_all [notNil, eqOp]
    · exact plan_binA op t yt x y
  · exact plan_binA op t yt x y
end
theorem ds_and {ops : Array Oper} {q : Prop} (h : drawStatic ops = true) (hq : q) : drawStatic ops = true ∧ q := ⟨h, hq⟩
theorem pc_and {n : Nat} {ops : Array Oper} {tr : List (Nat × Req)} {q : Prop} (h : peace pol n ops tr = true) (hq : q) : peace pol n ops tr = true ∧ q := ⟨h, hq⟩
end
end Go.Proofs.YtcmjidnbbfcbjaaDoor.V
/- Functions whose contracts are proved, as known ones of a further layer; no condition. -/
namespace Go.Proofs.YtcmjidnbbfcbjaaDoor.V
open Go
set_option linter.unusedVariables false
set_option linter.unusedSimpArgs false
noncomputable section
open Classical in
/-- What a call comes to, whatever the store. -/
def kn (P : Program) (pol : Pol) (f : FuncId) (args : List AV) : Option AV :=
  if h : ∃ v, ∀ m, WC P pol ⟨[], 0⟩ (.func f) args m fun v' m' => v' = v ∧ m' = m then some h.choose else none
def dirOf (g : List AV → Option AV) : DirF := fun _ args m => (g args).map (·, m)
theorem dirOf_some {g : List AV → Option AV} {en : Env} {args : List AV} {m m' : Mem} {v : AV} (h : dirOf g en args m = some (v, m')) : g args = some v ∧ m' = m := by
  unfold dirOf at h
  cases hg : g args with
  | none => rw [hg] at h; cases h
  | some u => rw [hg] at h; cases h; exact ⟨rfl, rfl⟩
def inF (f : Nat) : List Nat → Bool
  | [] => false
  | a :: l => Nat.beq f a || inF f l
def layer (P : Program) (pol : Pol) (fs : List FuncId) : Pol where
  glob := pol.glob
  mode := pol.mode
  dir f := if inF f fs = true then some (dirOf (kn P pol f)) else pol.dir f
  alo f := pol.alo f && !inF f fs
  qui f := inF f fs || pol.qui f
variable {P : Program} {pol : Pol} {en : Env}
theorem kn_spec {f : FuncId} {args : List AV} {v : AV} (h : kn P pol f args = some v) : ∀ m, WC P pol ⟨[], 0⟩ (.func f) args m fun v' m' => v' = v ∧ m' = m := by
  unfold kn at h
  split at h
  · rename_i h1
    cases h; exact h1.choose_spec
  · cases h
theorem kn_of {f : FuncId} {args : List AV} {v : AV} (h : ∀ m, WC P pol ⟨[], 0⟩ (.func f) args m fun v' m' => v' = v ∧ m' = m) : kn P pol f args = some v := by
  have hx : ∃ v, ∀ m, WC P pol ⟨[], 0⟩ (.func f) args m fun v' m' => v' = v ∧ m' = m := ⟨v, h⟩
  have e : kn P pol f args = some hx.choose := by unfold kn; rw [dif_pos hx]
  obtain ⟨u, m', h1, h2, _⟩ := h []
  obtain ⟨u2, m2, h3, h4, _⟩ := hx.choose_spec []
  rw [e, ← h4, ← h2]
  exact congrArg some (h3.det h1).1
theorem MI.glob_eq {pol pol' : Pol} (h : pol'.glob = pol.glob) {E : En} (hM : MI pol E) : MI pol' E := ⟨hM.len, hM.inj, hM.ob, fun g cs hg => hM.glob g cs (by rw [← h]; exact hg)⟩
theorem known_ok {pol' : Pol} (hG : GoodP P pol) {f : FuncId} (hd : pol.dir f = none) (hg : pol'.glob = pol.glob) (ha : pol'.alo f = false) : DirOk P pol' f (dirOf (kn P pol f)) := by
  refine ⟨fun en args m v m' h E hm hM us hus => .inl ?_, fun _ en args m v m' h => (dirOf_some h).2, fun h => by rw [ha] at h; cases h⟩
  obtain ⟨h1, rfl⟩ := dirOf_some h
  obtain ⟨u, m2, ⟨N, hN⟩, rfl, rfl⟩ := kn_spec h1 m'
  rcases (vm_ok hG N).1 _ _ _ _ _ _ (hN N (Nat.le_refl _)) E hm (hM.glob_eq hg.symm) us hus (.func f) rfl with ⟨nx, fr, g1, g2, g3⟩ | ⟨⟨f', d, e, hd'⟩, _⟩
  · refine ⟨nx, fr, g1, g2, fun c cs => ?_⟩
    obtain ⟨E', u', k1, k2, k3, k4, k5⟩ := g3 c cs
    exact ⟨E', u', k1, k2, k3.glob_eq hg, k4, k5⟩
  · cases e; rw [hd] at hd'; cases hd'
theorem layer_good (hG : GoodP P pol) {fs : List FuncId} (hd : ∀ f, inF f fs = true → pol.dir f = none) : GoodP P (layer P pol fs) where
  ng := hG.ng
  mixed := hG.mixed
  glob := hG.glob
  dir f d h := by
    simp only [layer] at h
    split at h
    · rename_i hf
      cases h
      exact known_ok hG (hd f hf) rfl (by simp [layer, hf])
    · obtain ⟨k1, k2, k3⟩ := hG.dir f d h
      refine ⟨fun en args m v m' h E hm hM us hus => ?_, k2, fun ha => k3 (by simp only [layer, Bool.and_eq_true] at ha; exact ha.1)⟩
      rcases k1 en args m v m' h E hm (MI.glob_eq (pol := layer P pol fs) (pol' := pol) rfl hM) us hus with ⟨nx, fr, g1, g2, g3⟩ | ⟨E', u, g1, g2, g3, g4, g5⟩
      · refine .inl ⟨nx, fr, g1, g2, fun c cs => ?_⟩
        obtain ⟨E', u', q1, q2, q3, q4, q5⟩ := g3 c cs
        exact ⟨E', u', q1, q2, MI.glob_eq (pol := pol) (pol' := layer P pol fs) rfl q3, q4, q5⟩
      · exact .inr ⟨E', u, g1, g2, MI.glob_eq (pol := pol) (pol' := layer P pol fs) rfl g3, g4, g5⟩
  dirKeep f d h := by
    simp only [layer] at h
    split at h
    · cases h
      intro en args m v m' h
      obtain ⟨_, rfl⟩ := dirOf_some h
      exact Keep.refl _ _
    · exact hG.dirKeep f d h
  alo f h := by
    simp only [layer, Bool.and_eq_true, Bool.not_eq_true'] at h ⊢
    rw [h.2]; exact hG.alo f h.1
  qui f h := by
    simp only [layer]
    by_cases hf : inF f fs = true
    · refine ⟨_, by rw [if_pos hf], fun en args m v m' h => ?_⟩
      obtain ⟨h1, rfl⟩ := dirOf_some h
      exact ⟨rfl, fun en2 m2 => by simp [dirOf, h1]⟩
    · rw [if_neg hf]
      have hf : inF f fs = false := by simpa using hf
      simp only [layer, hf, Bool.false_or] at h
      exact hG.qui f h
/-- A contract of the layer below, as an equation. -/
theorem lift {fs : List FuncId} {f : FuncId} {args : List AV} {v : AV} (h : ∀ m, WC P pol ⟨[], 0⟩ (.func f) args m fun v' m' => v' = v ∧ m' = m) (hf : inF f fs = true := by rfl) (m : Mem) (Q : AV → Mem → Prop) : WC P (layer P pol fs) en (.func f) args m Q = Q v m := by
  refine WC.rule (v0 := v) (m0 := m) ?_ Q
  exact wcallD (d := dirOf (kn P pol f)) (by simp only [layer, hf, if_true]) (by simp [dirOf, kn_of h]) ⟨rfl, rfl⟩
theorem fits0 (n : Nat) : Fits ⟨[], 0⟩ n := fun B hB => by cases hB
end
end Go.Proofs.YtcmjidnbbfcbjaaDoor.V
/- A row that grows wherever it lies; no condition. -/
namespace Go.Proofs.YtcmjidnbbfcbjaaDoor.V
open Go
set_option linter.unusedVariables false
set_option linter.unusedSimpArgs false
noncomputable section
variable {P : Program} {pol : Pol} {en : Env}
@[go_sem] theorem appR_clip (tg s k n : Nat) (cs ys : List AV) : appR tg s (some (.lst k cs true)) (some (.lst (n + 1) ys)) = some (.appnew tg s k cs (.lst (n + 1) ys)) := by
  simp [appR, Src.n]
/-! Loops over texts. -/
section
variable {ρ : Operand → Option AV} {d : Option Tmp} {ty : TypeId} {p : String} {af : Array Edge} {gd : Option (Nat × Bool)}
def rngR (dt : Option TypeDesc) (x : Option AV) (g : Option Req) : Option Req :=
  match dt, x with
  | some .string, some (.sc (.string s)) => some (.iter s)
  | _, _ => g
@[go_sem] theorem rngR_tx (l : List UInt8) (g : Option Req) : rngR (some .string) (some (tx l)) g = some (.iter ⟨⟨l⟩⟩) := rfl
@[go_sem] theorem plan_range (t : TypeId) (x : Operand) : plan P ρ ⟨d, .range t x, ty, p, af, gd⟩ = rngR (P.underlying t) (ρ x) (same P ρ ⟨d, .range t x, ty, p, af, gd⟩) := by
  unfold rngR
  split
  · rename_i h1 h2; simp only [plan, h1, h2]
  · rfl
def nxtR (x : Option AV) (g : Option Req) : Option Req :=
  match x with
  | some (.it id) => some (.nextS id)
  | _ => g
@[go_sem] theorem nxtR_it (id : Nat) (g : Option Req) : nxtR (some (.it id)) g = some (.nextS id) := rfl
@[go_sem] theorem plan_next (x : Operand) : plan P ρ ⟨d, .next x true, ty, p, af, gd⟩ = nxtR (ρ x) (same P ρ ⟨d, .next x true, ty, p, af, gd⟩) := by
  unfold nxtR
  split
  · rename_i h1; simp only [plan, h1]
  · rfl
def encL (n : Int) : List UInt8 := (Utf8.encode n).data.toList
def convI (sd dt : Option TypeDesc) (x : Option AV) (g : Option Req) : Option Req :=
  match sd, dt, x with
  | some (.int _), some .string, some (.sc (.int _ n)) => some (.val (tx (encL n)))
  | _, _, _ => g
@[go_sem] theorem convI_yes (k k' : IntKind) (n : Int) (g : Option Req) : convI (some (.int k)) (some .string) (some (.sc (.int k' n))) g = some (.val (tx (encL n))) := rfl
@[go_sem] theorem convI_int (sd : Option TypeDesc) (k : IntKind) (x : Option AV) (g : Option Req) : convI sd (some (.int k)) x g = g := by unfold convI; split <;> simp_all
@[go_sem] theorem convI_toS (sd : Option TypeDesc) (e : TypeId) (x : Option AV) (g : Option Req) : convI sd (some (.slice e)) x g = g := by unfold convI; split <;> simp_all
@[go_sem] theorem convI_ofS (dt : Option TypeDesc) (e : TypeId) (x : Option AV) (g : Option Req) : convI (some (.slice e)) dt x g = g := by unfold convI; split <;> simp_all
@[go_sem] theorem convI_ofP (dt : Option TypeDesc) (e : TypeId) (x : Option AV) (g : Option Req) : convI (some (.pointer e)) dt x g = g := by unfold convI; split <;> simp_all
@[go_sem] theorem convI_ofU (dt : Option TypeDesc) (x : Option AV) (g : Option Req) : convI (some .unsafePointer) dt x g = g := by unfold convI; split <;> simp_all
@[go_sem] theorem convI_ofT (dt : Option TypeDesc) (x : Option AV) (g : Option Req) : convI (some .string) dt x g = g := by unfold convI; split <;> simp_all
theorem gen_conv {s t : TypeId} {x : Operand} {k k' : IntKind} {n : Int} (hs : P.underlying s = some (.int k)) (ht : P.underlying t = some .string) (hx : ρ x = some (.sc (.int k' n))) :
    generic P ρ ⟨d, .convert s t x, ty, p, af, gd⟩ = some (.val (tx (encL n))) := by
  rw [generic_pv (us := [.int k' n]) (u := .string (Utf8.encode n)) rfl (by simp [Op.operands, hx, AV.toV])]
  · rfl
  · simp only [execOp, hx, Option.bind_some, AV.toV, Option.getD_some, pv_bind]
    simp only [Go.convert, pv_bind, pv_under hs, pv_under ht, Option.bind_some]
    rfl
@[go_sem 2000] theorem plan_convI (s t : TypeId) (x : Operand) : plan P ρ ⟨d, .convert s t x, ty, p, af, gd⟩ = convI (P.underlying s) (P.underlying t) (ρ x) (convR P (ρ x) (P.underlying s) (P.underlying t) (generic P ρ ⟨d, .convert s t x, ty, p, af, gd⟩)) := by
  unfold convI
  split
  · rename_i k k' n hs ht hx
    rw [← gen_conv (P := P) (ρ := ρ) (d := d) (ty := ty) (p := p) (af := af) (gd := gd) hs ht hx]
    simp only [plan, hs, ht, hx]
  · rfl
@[go_sem] theorem size_mk (s : List UInt8) : (⟨⟨s⟩⟩ : ByteArray).size = s.length := rfl
end
structure RwC (w b n : Nat) (cs : List AV) (v : AV) (m : Mem) : Prop where
  le : b ≤ m.length
  row : (n = 0 ∧ cs = [] ∧ v = .nilS) ∨ (0 < n ∧ ∃ id ver, v = .own id ver 0 n w ∧ b ≤ id ∧ m[id]? = some (.cells ver cs) ∧ cs.length = n * w)
variable {w b n : Nat} {cs : List AV} {v : AV} {m : Mem}
theorem RwC.nil (h : b ≤ m.length) : RwC w b 0 [] .nilS m := ⟨h, Or.inl ⟨rfl, rfl, rfl⟩⟩
theorem RwC.push (h : RwC w b n cs v m) (l : Mem) : RwC w b n cs v (m ++ l) := by
  obtain ⟨h1, h2⟩ := h
  refine ⟨by simp; omega, ?_⟩
  rcases h2 with h2 | ⟨h2, id, ver, h3, h4, h5, h6⟩
  · exact Or.inl h2
  · exact Or.inr ⟨h2, id, ver, h3, h4, by rw [List.getElem?_append_left (List.getElem?_eq_some_iff.1 h5).1]; exact h5, h6⟩
theorem RwC.len (h : RwC w b n cs v m) (e : TypeId) (g : Option Req) : lenR (some (kv v)) (some (.slice e)) g = some (.val (I n)) := by
  rcases h.row with ⟨rfl, rfl, rfl⟩ | ⟨_, id, ver, rfl, _⟩ <;> rfl
theorem RwC.apps (h : RwC w b n cs v m) {k : Nat} {ys : List AV} (hy : ys.length = k * w) (hfit : Fits en b) (hb : en.bar ≤ b) (hn : n + k ≤ 2 ^ 32) (hw : 0 < w ∧ w ≤ 64) {tg : Nat} {K : Req → AV → Mem → Prop}
    (hK : ∀ r v' m', RwC w b (n + k) (cs ++ ys) v' m' → (∀ i, i < b → m'[i]? = m[i]?) → m.length ≤ m'.length → AppLike r → K r (kv v') m') : WOf P pol en (appR tg w (some (kv v)) (some (.lst k ys))) m K := by
  unfold kv at *
  have hl := h.le
  cases k with
  | zero =>
    have : ys = [] := List.eq_nil_of_length_eq_zero (by simpa using hy)
    subst this
    have e0 : appR tg w (some v) (some (.lst 0 [])) = some (.val v) := by
      rcases h.row with ⟨_, _, rfl⟩ | ⟨_, id, ver, rfl, _⟩ <;> simp [appR, Src.n]
    rw [e0, WOf_val]
    exact hK _ _ _ (by rwa [List.append_nil, Nat.add_zero]) (fun _ _ => rfl) (Nat.le_refl _) (Or.inr (Or.inr ⟨_, rfl⟩))
  | succ k =>
    have hroom : roomOk (n + (k + 1)) w = true := by simp only [roomOk, Bool.and_eq_true, decide_eq_true_eq]; omega
    rcases h.row with ⟨rfl, rfl, rfl⟩ | ⟨hn0, id, ver, rfl, h4, h5, h6⟩
    · rw [appR_nil, WOf_appnew]
      refine ⟨⟨hy, by simp, hroom, by omega⟩, hK _ _ _ ⟨by simp; omega, Or.inr ⟨by omega, m.length, tg, rfl, hl, by simp, by simpa using hy⟩⟩ (fun i hi => List.getElem?_append_left (by omega)) (by simp) (Or.inr (Or.inl ⟨_, _, _, _, _, rfl⟩))⟩
    · have hid : id < m.length := (List.getElem?_eq_some_iff.1 h5).1
      rw [appR_own, WOf_app, h5, cellsQ_some]
      refine ⟨rfl, ⟨hy, by omega, hroom, by omega⟩, okTo_fits hfit hb h4 _, ?_⟩
      rw [List.drop_zero, List.take_of_length_le (by omega)]
      refine hK _ _ _ ⟨by simpa using hl, Or.inr ⟨by omega, id, nextV tg ver, rfl, h4, by simp [hid], by simp [h6, hy, Nat.add_mul]⟩⟩ (fun i hi => List.getElem?_set_ne (by omega)) (by simp) (Or.inl ⟨_, _, _, _, _, _, _, rfl⟩)
theorem RwC.frzF {α : Type} {f : α → List AV} [hw : Wide f w] {l : List α} (h : RwC w b l.length (l.flatMap f) v m) {b' : Nat} (hb : b' ≤ b) (d : Nat) (k : AV → Prop) : frzQ m b' (d + 2) (kv v) k = k (slf f ⟨true, false, l⟩) := by
  unfold kv
  rcases h.row with ⟨h1, h2, rfl⟩ | ⟨h1, id, ver, rfl, h4, h5, h6⟩
  · rw [frzQ_nilS, List.eq_nil_of_length_eq_zero h1]; rfl
  · have hl : l ≠ [] := by rintro rfl; simp at h1
    have h7 : (l.flatMap f).mapM (V.frz m b' (d + 1)) = some (l.flatMap f) := by
      have : ∀ cs : List AV, (∀ c ∈ cs, Clean c ∧ ∀ t u, c ≠ .ifc t u) → cs.mapM (V.frz m b' (d + 1)) = some cs := fun cs => by
        induction cs with
        | nil => intro _; rfl
        | cons c cs ih =>
          intro hc
          obtain ⟨h1, h2⟩ := hc c (by simp)
          simp only [List.mapM_cons, ih (fun c h => hc c (by simp [h])), clean_frz h1 m b' d h2]; rfl
      refine this _ fun c hc => ?_
      rw [List.mem_flatMap] at hc
      obtain ⟨a, _, hc⟩ := hc
      exact hw.clean a c hc
    have e6 : V.frz m b' (d + 2) (.own id ver 0 l.length w) = some (slf f ⟨true, false, l⟩) := by
      rw [V.frz]
      rw [if_neg (by omega), lget_eq, h5]
      simp only
      rw [if_pos ⟨trivial, by omega⟩, List.drop_zero, List.take_of_length_le (by omega), h7]
      simp only
      rw [if_pos (flat_leaf (w := w) l)]
      simp [slf, hl]
    unfold frzQ
    rw [e6]; simp
theorem RwC.frz1 {α : Type} {f : α → AV} (hf : ∀ a, Clean (f a)) (hi : ∀ a t u, f a ≠ .ifc t u) {l : List α} (h : RwC 1 b l.length (l.map f) v m) {b' : Nat} (hb : b' ≤ b) (d : Nat) (k : AV → Prop) : frzQ m b' (d + 2) (kv v) k = k (sl f ⟨true, false, l⟩) := by
  unfold kv
  rcases h.row with ⟨h1, h2, rfl⟩ | ⟨h1, id, ver, rfl, h4, h5, h6⟩
  · rw [frzQ_nilS, List.eq_nil_of_length_eq_zero h1]; rfl
  · have hl : l ≠ [] := by rintro rfl; simp at h1
    rw [frzQ_own hf hi l h5 (by omega)]
    simp [sl, hl]
/-- One more element. -/
theorem RwC.app1 {α : Type} {f : α → AV} {l : List α} (h : RwC 1 b l.length (l.map f) v m) (a : α) (hfit : Fits en b) (hb : en.bar ≤ b) (hn : l.length < 2 ^ 32) {tg : Nat} {K : Req → AV → Mem → Prop}
    (hK : ∀ r v' m', RwC 1 b (l ++ [a]).length ((l ++ [a]).map f) v' m' → (∀ i, i < b → m'[i]? = m[i]?) → m.length ≤ m'.length → AppLike r → K r (kv v') m') : WOf P pol en (appR tg 1 (some (kv v)) (some (.lst 1 [f a]))) m K :=
  h.apps (k := 1) (ys := [f a]) rfl hfit hb (by omega) (by omega) fun r v' m' h1 h2 h3 h4 => hK r v' m' (by simpa using h1) h2 h3 h4
theorem RwC.appF {α : Type} {f : α → List AV} [hw : Wide f w] {l : List α} (h : RwC w b l.length (l.flatMap f) v m) (a : α) {cs : List AV} (hcs : cs = f a) (hfit : Fits en b) (hb : en.bar ≤ b) (hn : l.length < 2 ^ 32) (hw64 : w ≤ 64) {tg : Nat} {K : Req → AV → Mem → Prop}
    (hK : ∀ r v' m', RwC w b (l ++ [a]).length ((l ++ [a]).flatMap f) v' m' → (∀ i, i < b → m'[i]? = m[i]?) → m.length ≤ m'.length → AppLike r → K r (kv v') m') : WOf P pol en (appR tg w (some (kv v)) (some (.lst 1 cs))) m K := by
  subst hcs
  exact h.apps (k := 1) (ys := f a) (by rw [hw.len]; omega) hfit hb (by omega) ⟨hw.pos, hw64⟩ fun r v' m' h1 h2 h3 h4 => hK r v' m' (by simpa using h1) h2 h3 h4
/-- Many more at once. -/
theorem RwC.appsF {α : Type} {f : α → List AV} [hw : Wide f w] {l : List α} (h : RwC w b l.length (l.flatMap f) v m) (ys : List α) {n : Nat} {cs : List AV} (hn : n = ys.length) (hcs : cs = ys.flatMap f) (hfit : Fits en b) (hb : en.bar ≤ b) (hl : l.length + n ≤ 2 ^ 32) (hw64 : w ≤ 64) {tg : Nat} {K : Req → AV → Mem → Prop}
    (hK : ∀ r v' m', RwC w b (l ++ ys).length ((l ++ ys).flatMap f) v' m' → (∀ i, i < b → m'[i]? = m[i]?) → m.length ≤ m'.length → AppLike r → K r (kv v') m') : WOf P pol en (appR tg w (some (kv v)) (some (.lst n cs))) m K := by
  subst hcs hn
  exact h.apps (k := ys.length) (ys := ys.flatMap f) (by rw [flat_len (w := w)]) hfit hb hl ⟨hw.pos, hw64⟩ fun r v' m' h1 h2 h3 h4 => hK r v' m' (by simpa using h1) h2 h3 h4
/-- The same with its elements as a list. -/
def RW {α : Type} (f : α → List AV) {w : Nat} [Wide f w] (b : Nat) (l : List α) (v : AV) (m : Mem) : Prop := RwC w b l.length (l.flatMap f) v m
def RW1 {α : Type} (f : α → AV) (b : Nat) (l : List α) (v : AV) (m : Mem) : Prop := RwC 1 b l.length (l.map f) v m
section
variable {α : Type} {f : α → List AV} {w : Nat} [hw : Wide f w] {f1 : α → AV} {l : List α}
theorem RW.nil (h : b ≤ m.length) : RW f b [] .nilS m := RwC.nil h
theorem RW.le (h : RW f b l v m) : b ≤ m.length := RwC.le h
theorem RW.push (h : RW f b l v m) (l' : Mem) : RW f b l v (m ++ l') := RwC.push h l'
theorem RW.len (h : RW f b l v m) (e : TypeId) (g : Option Req) : lenR (some (kv v)) (some (.slice e)) g = some (.val (I l.length)) := RwC.len h e g
theorem RW.app (h : RW f b l v m) (a : α) {cs : List AV} (hcs : cs = f a) (hfit : Fits en b) (hb : en.bar ≤ b) (hn : l.length < 2 ^ 32) (hw64 : w ≤ 64) {tg : Nat} {K : Req → AV → Mem → Prop}
    (hK : ∀ r v' m', RW f b (l ++ [a]) v' m' → (∀ i, i < b → m'[i]? = m[i]?) → m.length ≤ m'.length → AppLike r → K r (kv v') m') : WOf P pol en (appR tg w (some (kv v)) (some (.lst 1 cs))) m K := RwC.appF h a hcs hfit hb hn hw64 hK
theorem RW.apps (h : RW f b l v m) (ys : List α) {n : Nat} {cs : List AV} (hn : n = ys.length) (hcs : cs = ys.flatMap f) (hfit : Fits en b) (hb : en.bar ≤ b) (hl : l.length + n ≤ 2 ^ 32) (hw64 : w ≤ 64) {tg : Nat} {K : Req → AV → Mem → Prop}
    (hK : ∀ r v' m', RW f b (l ++ ys) v' m' → (∀ i, i < b → m'[i]? = m[i]?) → m.length ≤ m'.length → AppLike r → K r (kv v') m') : WOf P pol en (appR tg w (some (kv v)) (some (.lst n cs))) m K := RwC.appsF h ys hn hcs hfit hb hl hw64 hK
theorem RW.frz (h : RW f b l v m) {b' : Nat} (hb : b' ≤ b) (d : Nat) (k : AV → Prop) : frzQ m b' (d + 2) (kv v) k = k (slf f ⟨true, false, l⟩) := RwC.frzF h hb d k
theorem RW1.nil (h : b ≤ m.length) : RW1 f1 b [] .nilS m := RwC.nil h
theorem RW1.le (h : RW1 f1 b l v m) : b ≤ m.length := RwC.le h
theorem RW1.push (h : RW1 f1 b l v m) (l' : Mem) : RW1 f1 b l v (m ++ l') := RwC.push h l'
theorem RW1.len (h : RW1 f1 b l v m) (e : TypeId) (g : Option Req) : lenR (some (kv v)) (some (.slice e)) g = some (.val (I l.length)) := RwC.len h e g
theorem RW1.app (h : RW1 f1 b l v m) (a : α) (hfit : Fits en b) (hb : en.bar ≤ b) (hn : l.length < 2 ^ 32) {tg : Nat} {K : Req → AV → Mem → Prop}
    (hK : ∀ r v' m', RW1 f1 b (l ++ [a]) v' m' → (∀ i, i < b → m'[i]? = m[i]?) → m.length ≤ m'.length → AppLike r → K r (kv v') m') : WOf P pol en (appR tg 1 (some (kv v)) (some (.lst 1 [f1 a]))) m K := RwC.app1 h a hfit hb hn hK
theorem RW1.frz (h : RW1 f1 b l v m) (hf : ∀ a, Clean (f1 a)) (hi : ∀ a t u, f1 a ≠ .ifc t u) {b' : Nat} (hb : b' ≤ b) (d : Nat) (k : AV → Prop) : frzQ m b' (d + 2) (kv v) k = k (sl f1 ⟨true, false, l⟩) := RwC.frz1 hf hi h hb d k
end
end
end Go.Proofs.YtcmjidnbbfcbjaaDoor.V
/- Maps from texts; peace wherever the objects lie; no condition. -/
namespace Go.Proofs.YtcmjidnbbfcbjaaDoor.V
open Go
set_option linter.unusedVariables false
set_option linter.unusedSimpArgs false
noncomputable section
variable {P : Program} {pol : Pol} {en : Env}
abbrev sV (k : List UInt8) : Value := .string ⟨⟨k⟩⟩
/-- A map from texts: its keys in order, and what stands at each. -/
def strM (g : List UInt8 → AV) (ks : List (List UInt8)) : List (Value × AV) := ks.map fun k => (sV k, g k)
theorem sameK_str (a b : List UInt8) : findV.sameK (sV a) (sV b) = decide (a = b) := by
  show (((⟨⟨a⟩⟩ : ByteArray)) == ⟨⟨b⟩⟩) = decide (a = b)
  show ((⟨a⟩ : Array UInt8) == ⟨b⟩) = decide (a = b)
  by_cases h : a = b <;> simp [h]
theorem findV_str (g : List UInt8 → AV) (f : List UInt8) : ∀ (ks : List (List UInt8)) (i : Nat), findV .string (sV f) (strM g ks) i = some ((ks.findIdx? fun k => decide (f = k)).map fun j => (i + j, g f))
  | [], i => rfl
  | k :: ks, i => by
    have ih := findV_str g f ks (i + 1)
    show (if isKeyT .string (sV k) = true then (if findV.sameK (sV f) (sV k) = true then some (some (i, g k)) else findV .string (sV f) (strM g ks) (i + 1)) else none) = _
    rw [if_pos (show isKeyT .string (sV k) = true from rfl), sameK_str, List.findIdx?_cons]
    by_cases h : f = k
    · subst h; simp
    · simp only [h, decide_false, Bool.false_eq_true, if_false]
      rw [ih, Option.map_map]
      congr 2
      funext j
      simp; omega
theorem findV_in {g : List UInt8 → AV} {f : List UInt8} {ks : List (List UInt8)} (h : f ∈ ks) : ∃ j, ks[j]? = some f ∧ findV .string (sV f) (strM g ks) 0 = some (some (j, g f)) := by
  rw [findV_str]
  cases hj : ks.findIdx? fun k => decide (f = k) with
  | none =>
    rw [List.findIdx?_eq_none_iff] at hj
    have := hj f h
    simp at this
  | some j =>
    rw [List.findIdx?_eq_some_iff_getElem] at hj
    obtain ⟨h1, h2, _⟩ := hj
    refine ⟨j, ?_, by simp⟩
    rw [List.getElem?_eq_getElem h1]
    simp at h2; rw [← h2]
theorem findV_out {g : List UInt8 → AV} {f : List UInt8} {ks : List (List UInt8)} (h : f ∉ ks) : findV .string (sV f) (strM g ks) 0 = some none := by
  rw [findV_str]
  rw [List.findIdx?_eq_none_iff.2]
  · rfl
  · intro x hx
    have : f ≠ x := by rintro rfl; exact h hx
    simp [this]
def upd (g : List UInt8 → AV) (f : List UInt8) (v : AV) (k : List UInt8) : AV := if k = f then v else g k
theorem strM_set {g : List UInt8 → AV} {f : List UInt8} {ks : List (List UInt8)} (hn : ks.Nodup) {j : Nat} (hj : ks[j]? = some f) (v : AV) : (strM g ks).set j (sV f, v) = strM (upd g f v) ks := by
  apply List.ext_getElem?
  intro i
  rw [List.getElem?_set]
  unfold strM
  by_cases h : j = i
  · subst h
    obtain ⟨hl, he⟩ := List.getElem?_eq_some_iff.1 hj
    rw [if_pos rfl, if_pos (by simpa using hl), List.getElem?_map, hj]
    simp [upd]
  · rw [if_neg h, List.getElem?_map, List.getElem?_map]
    cases hk : ks[i]? with
    | none => rfl
    | some k =>
      have : k ≠ f := by
        rintro rfl
        obtain ⟨hl, he⟩ := List.getElem?_eq_some_iff.1 hj
        obtain ⟨hl2, he2⟩ := List.getElem?_eq_some_iff.1 hk
        exact h ((List.getElem_inj hn).1 (he.trans he2.symm))
      simp [upd, this]
theorem strM_app {g : List UInt8 → AV} {f : List UInt8} {ks : List (List UInt8)} (hf : f ∉ ks) (v : AV) : strM g ks ++ [(sV f, v)] = strM (upd g f v) (ks ++ [f]) := by
  unfold strM
  rw [List.map_append]
  congr 1
  · apply List.map_congr_left
    intro k hk
    have : k ≠ f := by rintro rfl; exact hf hk
    simp [upd, this]
  · simp [upd]
/-! Peace hangs on which objects are the same, and which are new, alone. -/
def Foot.ren (ι : Nat → Nat) (f : Foot) : Foot := ⟨f.rd.map ι, f.wr.map ι, f.al, f.ra, f.all⟩
def Foot.within (K : Nat) (f : Foot) : Bool := f.rd.all (fun i => decide (i < K)) && f.wr.all (fun i => decide (i < K))
theorem loud_ren (ι : Nat → Nat) (f : Foot) : (f.ren ι).loud = f.loud := by simp [Foot.ren, Foot.loud]
theorem contains_ren {ι : Nat → Nat} {K : Nat} (hi : ∀ i j, i < K → j < K → ι i = ι j → i = j) {i : Nat} {l : List Nat} (h : i < K) (hl : ∀ j ∈ l, j < K) : (l.map ι).contains (ι i) = l.contains i := by
  rw [Bool.eq_iff_iff]
  simp only [List.contains_iff_mem, List.mem_map]
  constructor
  · rintro ⟨j, hj, he⟩; rw [← hi j i (hl j hj) h he]; exact hj
  · intro h; exact ⟨i, h, rfl⟩
theorem any_ren {ι : Nat → Nat} {K n ml : Nat} (hn : ∀ i, i < K → (n ≤ i ↔ ml ≤ ι i)) {l : List Nat} (hl : ∀ j ∈ l, j < K) : ((l.map ι).any fun i => decide (ml ≤ i)) = l.any fun i => decide (n ≤ i) := by
  rw [List.any_map, Bool.eq_iff_iff]
  simp only [List.any_eq_true, Function.comp_apply, decide_eq_true_eq]
  constructor
  · rintro ⟨j, hj, he⟩; exact ⟨j, hj, (hn j (hl j hj)).2 he⟩
  · rintro ⟨j, hj, he⟩; exact ⟨j, hj, (hn j (hl j hj)).1 he⟩
theorem anyc_ren {ι : Nat → Nat} {K : Nat} (hi : ∀ i j, i < K → j < K → ι i = ι j → i = j) {w r : List Nat} (hw : ∀ j ∈ w, j < K) (hr : ∀ j ∈ r, j < K) : ((w.map ι).any fun i => (r.map ι).contains i) = w.any fun i => r.contains i := by
  rw [List.any_map, Bool.eq_iff_iff]
  simp only [List.any_eq_true, Function.comp_apply]
  constructor
  · rintro ⟨j, hj, he⟩; exact ⟨j, hj, by rw [contains_ren hi (hw j hj) hr] at he; exact he⟩
  · rintro ⟨j, hj, he⟩; exact ⟨j, hj, by rw [contains_ren hi (hw j hj) hr]; exact he⟩
theorem confl_ren {ι : Nat → Nat} {K n ml : Nat} (hi : ∀ i j, i < K → j < K → ι i = ι j → i = j) (hn : ∀ i, i < K → (n ≤ i ↔ ml ≤ ι i)) {f g : Foot} (hf : f.within K = true) (hg : g.within K = true) : confl ml (f.ren ι) (g.ren ι) = confl n f g := by
  simp only [Foot.within, Bool.and_eq_true, List.all_eq_true, decide_eq_true_eq] at hf hg
  have hw : ∀ f : Foot, (f.ren ι).writes = f.writes := fun f => by simp [Foot.ren, Foot.writes]
  have e1 : (f.ren ι).rd = f.rd.map ι := rfl
  have e2 : (g.ren ι).rd = g.rd.map ι := rfl
  have e3 : (f.ren ι).wr = f.wr.map ι := rfl
  have e4 : (g.ren ι).wr = g.wr.map ι := rfl
  have e5 : ∀ f : Foot, (f.ren ι).al = f.al := fun _ => rfl
  have e6 : ∀ f : Foot, (f.ren ι).ra = f.ra := fun _ => rfl
  have e7 : ∀ f : Foot, (f.ren ι).all = f.all := fun _ => rfl
  unfold confl
  rw [e1, e2, e3, e4, any_ren hn hf.1, any_ren hn hg.1, anyc_ren hi hf.2 hg.1, anyc_ren hi hg.2 hf.1]
  simp only [loud_ren, hw, e5, e6, e7]
theorem peaceF_ren {b : List Nat} {ι : Nat → Nat} {K n ml : Nat} (hi : ∀ i j, i < K → j < K → ι i = ι j → i = j) (hn : ∀ i, i < K → (n ≤ i ↔ ml ≤ ι i)) {l : List (Nat × Foot)} (hl : l.all (fun x => x.2.within K) = true) (h : peaceF b n l = true) : peaceF b ml (l.map fun x => (x.1, x.2.ren ι)) = true := by
  rw [List.all_eq_true] at hl
  simp only [peaceF, List.filter_map, Function.comp_def, loud_ren, List.all_map, List.all_eq_true] at h ⊢
  intro x hx y hy
  have h1 := h x hx y hy
  have e := confl_ren hi hn (hl y (List.mem_filter.1 hy).1) (hl x (List.mem_filter.1 hx).1)
  simpa [e] using h1
theorem peace_inj {n K : Nat} {ops : Array Oper} {tr : (Nat → Nat) → List (Nat × Req)} (h0 : peace pol n ops (tr fun i => i) = true) (hs : ∀ ι, (tr ι).map (fun x => (x.1, x.2.foot pol)) = (tr fun i => i).map (fun x => (x.1, (x.2.foot pol).ren ι)))
    (hK : ((tr fun i => i).all fun x => (x.2.foot pol).within K) = true) {ι : Nat → Nat} {ml : Nat} (hi : ∀ i j, i < K → j < K → ι i = ι j → i = j) (hn : ∀ i, i < K → (n ≤ i ↔ ml ≤ ι i)) : peace pol ml ops (tr ι) = true := by
  rw [peaceF_eq] at h0 ⊢
  rw [hs ι]
  have := peaceF_ren (l := (tr fun i => i).map fun x => (x.1, x.2.foot pol)) hi hn (by rw [List.all_map]; exact hK) h0
  rw [List.map_map] at this
  exact this
theorem peace_injR {n K : Nat} {ops : Array Oper} {tr : (Nat → Nat) → List (Nat × Req)} {ml : (Nat → Nat) → Nat} (h0 : peace pol n ops (tr fun i => i) = true) (hs : ∀ ι, (tr ι).map (fun x => (x.1, x.2.foot pol)) = (tr fun i => i).map (fun x => (x.1, (x.2.foot pol).ren ι)))
    (hK : ((tr fun i => i).all fun x => (x.2.foot pol).within K) = true) : ∀ ι, (∀ i j, i < K → j < K → ι i = ι j → i = j) ∧ (∀ i, i < K → (n ≤ i ↔ ml ι ≤ ι i)) → peace pol (ml ι) ops (tr ι) = true := fun ι h => peace_inj h0 hs hK h.1 h.2
/-- Four objects, all old. -/
theorem old4 {ρ : Nat → Nat} {ml a b c d : Nat} (h0 : ρ 0 = a) (h1 : ρ 1 = b) (h2 : ρ 2 = c) (h3 : ρ 3 = d) (hab : a ≠ b) (hac : a ≠ c) (had : a ≠ d) (hbc : b ≠ c) (hbd : b ≠ d) (hcd : c ≠ d) (ha : a < ml) (hb : b < ml) (hc : c < ml) (hd : d < ml) :
    (∀ i j, i < 4 → j < 4 → ρ i = ρ j → i = j) ∧ (∀ i, i < 4 → (4 ≤ i ↔ ml ≤ ρ i)) := by
  constructor
  · intro i j hi hj h
    obtain rfl | rfl | rfl | rfl : i = 0 ∨ i = 1 ∨ i = 2 ∨ i = 3 := by omega
    all_goals
      obtain rfl | rfl | rfl | rfl : j = 0 ∨ j = 1 ∨ j = 2 ∨ j = 3 := by omega
      all_goals omega
  · intro i hi
    obtain rfl | rfl | rfl | rfl : i = 0 ∨ i = 1 ∨ i = 2 ∨ i = 3 := by omega
    all_goals omega
theorem ren4 (a b c d : Nat) : ∃ ρ : Nat → Nat, ρ 0 = a ∧ ρ 1 = b ∧ ρ 2 = c ∧ ρ 3 = d := ⟨fun k => match k with | 0 => a | 1 => b | 2 => c | _ => d, rfl, rfl, rfl, rfl⟩
end
end Go.Proofs.YtcmjidnbbfcbjaaDoor.V
/- Bytes as slices, pieces with a limit, min; no condition. -/
namespace Go.Proofs.YtcmjidnbbfcbjaaDoor.V
open Go
set_option linter.unusedVariables false
set_option linter.unusedSimpArgs false
noncomputable section
variable {P : Program} {pol : Pol} {en : Env} {ρ : Operand → Option AV} {d : Option Tmp} {ty : TypeId} {p : String} {af : Array Edge} {gd : Option (Nat × Bool)}
@[go_sem] theorem toB_tx (l : List UInt8) : toB (some (.int .u8)) ⟨⟨l⟩⟩ = some (.val (sl u8v ⟨false, false, l⟩)) := by
  simp [toB, sl, byteCells, ByteArray.size]
def ofS (d : Option TypeDesc) (l : List UInt8) : Option Req :=
  match d with
  | some (.int .u8) => some (.val (tx l))
  | _ => none
@[go_sem] theorem ofS_u8 (l : List UInt8) : ofS (some (.int .u8)) l = some (.val (tx l)) := rfl
theorem bytesOf_u8 : ∀ l : List UInt8, bytesOf (l.map u8v) = some l
  | [] => rfl
  | a :: l => by
    have h1 := a.toNat_lt
    simp only [List.map_cons, bytesOf, bytesOf_u8 l]
    rw [if_pos ⟨by omega, by omega⟩]
    simp
@[go_sem] theorem convR_sl (x : Sl UInt8) (e : TypeId) (g : Option Req) : convR P (some (sl u8v x)) (some (.slice e)) (some .string) g = ofS (P.underlying e) x.l := by
  unfold sl
  split
  · rename_i h
    simp only [Bool.and_eq_true, List.isEmpty_iff] at h
    rw [convR_ofN, h.2]
    unfold ofN ofS
    cases P.underlying e with
    | none => rfl
    | some dd => cases dd <;> first | rfl | (rename_i k; cases k <;> rfl)
  · rw [convR_ofB]
    unfold ofB ofS
    rw [bytesOf_u8]
    cases P.underlying e with
    | none => rfl
    | some dd => cases dd <;> first | rfl | (rename_i k; cases k <;> first | rfl | simp)
@[go_sem] theorem asI_int (k : IntKind) (n : Int) : asI (.sc (.int k n)) = some (k, n) := rfl
/-! 's[lo:hi:max]'. -/
def sl3R (v : Option AV) (s : Option Nat) (lo hi mx : Option (IntKind × Int)) (g : Option Req) : Option Req :=
  match v, s, lo, hi, mx with
  | some (.lst n cs c), some s, some (_, l), some (_, h), some (_, m) =>
    if 0 ≤ l ∧ l ≤ h ∧ h ≤ m ∧ m ≤ n ∧ h.toNat * s ≤ cs.length then some (.val (.lst (h.toNat - l.toNat) ((cs.drop (l.toNat * s)).take ((h.toNat - l.toNat) * s)) (decide (m = h)))) else g
  | _, _, _, _, _ => g
@[go_sem 3000] theorem plan_slice3 (t : TypeId) (x a b c : Operand) : plan P ρ ⟨d, .slice t x (some a) (some b) (some c), ty, p, af, gd⟩ = sl3R (ρ x) (elemSz P t) ((ρ a).bind asI) ((ρ b).bind asI) ((ρ c).bind asI) (same P ρ ⟨d, .slice t x (some a) (some b) (some c), ty, p, af, gd⟩) := by
  unfold sl3R
  split
  · rename_i n cs cl s k1 l k2 h k3 m hx hs ha hb hc
    split
    · rename_i hh
      obtain ⟨h1, h2, h3, h4, h5⟩ := hh
      unfold elemSz at hs
      simp only [plan, hx, hs, asI?, ha, hb, hc, bounds]
      rw [if_pos ⟨h1, h2, by omega⟩]
      simp only
      rw [if_pos ⟨by omega, h4, h5⟩]
      have : decide (m = ((h.toNat : Nat) : Int)) = decide (m = h) := by rw [Int.toNat_of_nonneg (by omega)]
      rw [this]
    · rfl
  · rfl
theorem sl3R_sl {α : Type} (f : α → AV) (c : Bool) (x : List α) (k1 k2 k3 : IntKind) (l h m : Int) (g : Option Req) : sl3R (some (sl f ⟨false, c, x⟩)) (some 1) (some (k1, l)) (some (k2, h)) (some (k3, m)) g = if 0 ≤ l ∧ l ≤ h ∧ h ≤ m ∧ m ≤ x.length then some (.val (sl f ⟨false, decide (m = h), (x.drop l.toNat).take (h.toNat - l.toNat)⟩)) else g := by
  simp only [sl, Bool.false_and, Bool.false_eq_true, if_false, sl3R, Nat.mul_one, List.length_map]
  by_cases hc : 0 ≤ l ∧ l ≤ h ∧ h ≤ m ∧ m ≤ x.length
  · rw [if_pos hc, if_pos ⟨hc.1, hc.2.1, hc.2.2.1, hc.2.2.2, by omega⟩]
    rw [← List.map_drop, ← List.map_take]
    simp
    omega
  · rw [if_neg hc, if_neg (fun h => hc ⟨h.1, h.2.1, h.2.2.1, h.2.2.2.1⟩)]
theorem sl3D {α : Type} {f : α → AV} {c : Bool} {x : List α} {k1 k2 k3 : IntKind} {l h m : Int} {g : Option Req} (hc : 0 ≤ l ∧ l ≤ h ∧ h ≤ m ∧ m ≤ x.length) : sl3R (some (sl f ⟨false, c, x⟩)) (some 1) (some (k1, l)) (some (k2, h)) (some (k3, m)) g = some (.val (sl f ⟨false, decide (m = h), (x.drop l.toNat).take (h.toNat - l.toNat)⟩)) := by rw [sl3R_sl, if_pos hc]
/-! min. -/
def minR (x y : Option AV) (g : Option Req) : Option Req :=
  match x, y with
  | some (.sc (.int k a)), some (.sc (.int k' b)) => if k = k' then some (.val (.sc (.int k (if b < a then b else a)))) else g
  | _, _ => g
@[go_sem] theorem minR_int (k : IntKind) (a b : Int) (g : Option Req) : minR (some (.sc (.int k a))) (some (.sc (.int k b))) g = some (.val (.sc (.int k (if b < a then b else a)))) := by simp [minR]
@[go_sem] theorem plan_min (x y : Operand) (t t' : TypeId) : plan P ρ ⟨d, .call ⟨.builtin .min, ⟨[x, y]⟩, ⟨[t, t']⟩⟩, ty, p, af, gd⟩ = minR (ρ x) (ρ y) (same P ρ ⟨d, .call ⟨.builtin .min, ⟨[x, y]⟩, ⟨[t, t']⟩⟩, ty, p, af, gd⟩) := by
  unfold minR
  split
  · rename_i k a k' b hx hy
    split
    · rename_i hk
      subst hk
      simp only [plan, planB, generic, plainOp, Bool.true_eq_false, if_false, Op.operands, Call.operands]
      have e1 : ((#[] : Array Operand) ++ (⟨[x, y]⟩ : Array Operand)).toList = [x, y] := by simp
      rw [e1]
      simp only [List.mapM_cons, List.mapM_nil, hx, hy, Option.bind_some, AV.toV, Option.bind_eq_bind, Option.pure_def]
      simp only [execOp, resolve, invoke, builtin, Builtin.min_]
      have e2 : (Array.map (fun x => ((ρ x).bind AV.toV).getD undef) ⟨[x, y]⟩) = #[.int k a, .int k b] := by simp [hx, hy, AV.toV]
      rw [e2]
      rfl
    · rfl
  · rfl
/-- A loop over a function, her record by a name. -/
theorem rangeN {f : Operand} {params : Array Tmp} {assign body : Code} {ts : List AV} {m : Mem} {Q : X → List AV → Mem → Prop} {g : FuncId} {first cap : List AV}
    (hf : opnd pol ts f = some (.clo (.func g) first cap))
    (h : ∀ LO, LO = Ob.loop .ready none ts params assign body → WC P pol en (.func g) (first ++ [.clo (.yield m.length) [] []] ++ cap) (m ++ [LO]) fun _ m2 =>
      ∃ s p t pa a b, m2[m.length]? = some (.loop s p t pa a b) ∧ s ≠ .busy ∧
        match p with
        | none => Q .normal ts (m2.set m.length (.loop .exhausted p t pa a b))
        | some c => Wf P pol en c ts (m2.set m.length (.loop .exhausted p t pa a b)) Q) (hdn : pol.dir g = none := by rfl) : Wq P pol en (.rangeFunc f params assign body) ts m Q := rangeF hf (h _ rfl) hdn
end
end Go.Proofs.YtcmjidnbbfcbjaaDoor.V
