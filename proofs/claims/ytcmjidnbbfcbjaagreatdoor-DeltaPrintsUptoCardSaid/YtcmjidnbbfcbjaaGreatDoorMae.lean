/- Parts of the proof, joined (V31, V32, V33, V34, V35, V36, V37); no condition. -/
import Derived.Test.YtcmjidnbbfcbjaaGreatDoorMad
import Derived.IntWalk
import Derived.Laws.Entries
/- Loops over functions, as rules; no condition. -/
namespace Go.Proofs.YtcmjidnbbfcbjaaGreatDoor.V
open Go
set_option linter.unusedVariables false
set_option linter.unusedSimpArgs false
noncomputable section
variable {P : Program} {pol : Pol} {en : Env}
theorem rangeF {f : Operand} {params : Array Tmp} {assign body : Code} {ts : List AV} {m : Mem} {Q : X → List AV → Mem → Prop} {g : FuncId} {first cap : List AV}
    (hf : opnd pol ts f = some (.clo (.func g) first cap))
    (h : WC P pol en (.func g) (first ++ [.clo (.yield m.length) [] []] ++ cap) (m ++ [.loop .ready none ts params assign body]) fun _ m2 =>
      ∃ s p t pa a b, m2[m.length]? = some (.loop s p t pa a b) ∧ s ≠ .busy ∧
        match p with
        | none => Q .normal ts (m2.set m.length (.loop .exhausted p t pa a b))
        | some c => Wf P pol en c ts (m2.set m.length (.loop .exhausted p t pa a b)) Q) (hdn : pol.dir g = none := by rfl) : Wq P pol en (.rangeFunc f params assign body) ts m Q := by
  obtain ⟨v, m2, ⟨N, hN⟩, s, p, t, pa, a, b, hm2, hs, h⟩ := h
  cases p with
  | none =>
    refine ⟨.normal, ⟨ts, m2.set m.length (.loop .exhausted none t pa a b)⟩, ex_of ⟨N, fun n hn => ?_⟩, h⟩
    simp only [stepV, hf, hdn, Option.isSome_none, Bool.false_eq_true, if_false, fNat_eq, spine_eq, hN n hn, lget_eq, hm2, if_neg hs, lsetK_eq]
  | some c =>
    obtain ⟨x, st', ⟨M, hM⟩, hQ⟩ := Wf_ok h
    refine ⟨x, st', ex_of ⟨max N M, fun n hn => ?_⟩, hQ⟩
    simp only [stepV, hf, hdn, Option.isSome_none, Bool.false_eq_true, if_false, fNat_eq, spine_eq, hN n (by omega), lget_eq, hm2, if_neg hs, lsetK_eq, hM n (by omega)]
theorem yieldF {id : Nat} {args : List AV} {m : Mem} {Q : AV → Mem → Prop} {p : Option Code} {tmps : List AV} {params : Array Tmp} {assign body : Code} (hb : en.bar ≤ id) (hm : m[id]? = some (.loop .ready p tmps params assign body)) (ha : args.length = params.size)
    (h : Wf P pol en assign (setMany tmps (params.toList.zip args)) m fun x ts1 m1 => x = .normal ∧ ∃ p2 t2 pa2 a2 b2, m1[id]? = some (.loop .ready p2 t2 pa2 a2 b2) ∧
      Wf P pol en body ts1 (m1.set id (.loop .busy p2 t2 pa2 a2 b2)) fun x _ m3 => ∃ s3 p3 t3 pa3 a3 b3, m3[id]? = some (.loop s3 p3 t3 pa3 a3 b3) ∧
        Q (.sc (.bool x.jump.isNone)) (m3.set id (.loop (if x.jump.isNone then .ready else .done) x.jump t3 pa3 a3 b3))) : WC P pol en (.yield id) args m Q := by
  obtain ⟨x, st1, ⟨N, hN⟩, hx, p2, t2, pa2, a2, b2, hm1, h⟩ := Wf_ok h
  subst hx
  obtain ⟨x, st3, ⟨M, hM⟩, s3, p3, t3, pa3, a3, b3, hm3, hQ⟩ := Wf_ok h
  refine ⟨_, _, ⟨max N M + 1, fun n hn => ?_⟩, hQ⟩
  obtain ⟨k, rfl⟩ : ∃ k, n = k + 1 := ⟨n - 1, by omega⟩
  show callY (vrun P pol k) en id args m = _
  unfold callY
  simp only [if_pos hb, lget_eq, hm, if_pos ha, spine_eq, hN k (by omega), hm1, lsetK_eq, hM k (by omega), hm3]
end
end Go.Proofs.YtcmjidnbbfcbjaaGreatDoor.V
/- Rules whose conditions are found by 'omega'; no condition. -/
namespace Go.Proofs.YtcmjidnbbfcbjaaGreatDoor.V
open Go
set_option linter.unusedVariables false
set_option linter.unusedSimpArgs false
noncomputable section
variable {P : Program} {pol : Pol} {en : Env}
/-- 'c' is asked for. -/
def need (c p : Prop) : Prop := c ∧ p
theorem needI {c p : Prop} (h : c) (k : p) : need c p := ⟨h, k⟩
theorem need_of {c p : Prop} (h : c) : need c p = p := by simp [need, h]
theorem need_true {p : Prop} : need True p = p := by simp [need]
theorem need_and {c d p : Prop} : need (c ∧ d) p = need c (need d p) := by simp [need, and_assoc]
theorem WOf_need (c : Prop) [Decidable c] (r : Option Req) (m : Mem) (k : Req → AV → Mem → Prop) : WOf P pol en (if c then r else none) m k = need c (WOf P pol en r m k) := WOf_if c r m k
theorem i64w {n : Int} (h : -9223372036854775808 ≤ n ∧ n ≤ 9223372036854775807) : IntKind.i64.wrap n = n := IntWalk.i64_in n h
theorem u64w {n : Int} (h : 0 ≤ n ∧ n ≤ 18446744073709551615) : IntKind.u64.wrap n = n := IntWalk.u64_in n h
theorem u8w {n : Int} (h : 0 ≤ n ∧ n ≤ 255) : IntKind.u8.wrap n = n := IntWalk.u8_in n h
theorem ifneg0 {α : Sort _} {b : Int} {x y : α} (h : 0 ≤ b) : (if b < 0 then x else y) = y := if_neg (by omega)
theorem at_getD {α : Type} {l : List α} {i : Nat} (h : i < l.length) (k : α → Prop) : atQ l[i]? k = k l[i] := by rw [List.getElem?_eq_getElem h, atQ_some]
def idxS {α : Type} (so : Option Nat) (f : α → AV) (x : Sl α) (i : Int) (g : Option Req) : Option Req :=
  match so with
  | some 1 => if 0 ≤ i ∧ i < x.l.length then some (.val (slp f x.l i.toNat)) else none
  | _ => g
theorem idxS_one {α : Type} (f : α → AV) (x : Sl α) (i : Int) (g : Option Req) : idxS (some 1) f x i g = if 0 ≤ i ∧ i < x.l.length then some (.val (slp f x.l i.toNat)) else none := rfl
def idxQ (P : Program) (e : TypeId) (v : Option AV) (i : Option AV) : Option Req := idxR P (some (.slice e)) v i
theorem idxR_slD {α : Type} (f : α → AV) (x : Sl α) {e : TypeId} (ik : IntKind) (i : Int) : idxR P (some (.slice e)) (some (sl f x)) (some (.sc (.int ik i))) = idxS (szOf P e) f x i (idxQ P e (some (sl f x)) (some (.sc (.int ik i)))) := by
  by_cases h : szOf P e = some 1
  · rw [idxR_sl f x h, h, idxS_one]
  · unfold idxS
    split
    · exact (h (by assumption)).elim
    · rfl
def bld1 (b : Bool) (v : Option AV) (g : Option Req) : Option Req :=
  match b with
  | true => one1 v g
  | false => g
theorem bld1_true (v : Option AV) (g : Option Req) : bld1 true v g = one1 v g := rfl
@[go_sem] theorem ownP_eq (p : String) : ownP p = (p == "delta.go:258") := rfl
/-- A row at such a place. -/
def ownT (P : Program) (t : TypeId) : Option (Nat × Nat) := (elemOfS P t).bind fun e => (szOf P e).map (tagT e, ·)
def ownR (b : Bool) (tw : Option (Nat × Nat)) (r : Option Req) : Option Req :=
  match b with
  | false => r
  | true => match tw, r with
    | some (tg, w), some (.val (.lst n cs _)) => some (.alloc tg w cs (some n))
    | _, _ => none
@[go_sem] theorem ownR_false (tw : Option (Nat × Nat)) (r : Option Req) : ownR false tw r = r := rfl
@[go_sem] theorem ownR_true (tg w n : Nat) (cs : List AV) (b : Bool) : ownR true (some (tg, w)) (some (.val (.lst n cs b))) = some (.alloc tg w cs (some n)) := rfl
theorem ownP_no : ownP "" = false := by decide
theorem ownR_none (b : Bool) (tw : Option (Nat × Nat)) : ownR b tw none = none := by cases b <;> cases tw <;> rfl
theorem plan_own {ρ : Operand → Option AV} {d : Option Tmp} {ty : TypeId} {p : String} {af : Array Edge} {gd : Option (Nat × Bool)} {t : TypeId} {n : Nat} {ps : Array (Nat × Operand)} :
    plan P ρ ⟨d, .buildSlice t n ps, ty, p, af, gd⟩ = ownR (ownP p) (ownT P t) (bldG P ρ ⟨d, .buildSlice t n ps, ty, "", af, gd⟩) := by
  simp only [bldG, plan, ownP_no, ownT]
  cases he : elemOfS P t with
  | none => exact (ownR_none _ _).symm
  | some e =>
    cases hps : partsOf ρ ps with
    | none => exact (ownR_none _ _).symm
    | some l =>
      dsimp only [Option.bind_some]
      cases hs : szOf P e with
      | none => exact (ownR_none _ _).symm
      | some s =>
        cases hz : zeroOf P e with
        | none => exact (ownR_none _ _).symm
        | some z =>
          dsimp only [Option.map_some]
          split
          · exact (ownR_none _ _).symm
          · cases fillA _ _ l <;> cases ownP p <;> simp [ownR]
theorem plan_buildD {ρ : Operand → Option AV} {d : Option Tmp} {ty : TypeId} {p : String} {af : Array Edge} {gd : Option (Nat × Bool)} {t : TypeId} {x : Operand} :
    plan P ρ ⟨d, .buildSlice t 1 ⟨[(0, x)]⟩, ty, p, af, gd⟩ = ownR (ownP p) (ownT P t) (bld1 (buildOk P t) (ρ x) (bldG P ρ ⟨d, .buildSlice t 1 ⟨[(0, x)]⟩, ty, "", af, gd⟩)) := by
  rw [plan_own]
  cases h : buildOk P t with
  | true => congr 1; exact plan_build1 h ownP_no
  | false => rfl
theorem ibin_shlD {k k' : IntKind} {a b : Int} (h : 0 ≤ b) : ibin .shl k a k' b = some (.int k (shlK k a b)) := by rw [ibin_shl, if_neg (by omega)]
theorem ibin_shrD {k k' : IntKind} {a b : Int} (h : 0 ≤ b) : ibin .shr k a k' b = some (.int k (shrK k a b)) := by rw [ibin_shr, if_neg (by omega)]
theorem okTo_purT {n id : Nat} (hf : Fits en n) {low : Nat → Bool} (h : n ≤ id) : okTo ⟨n :: en.bases, n⟩ id low = True := eq_true (okTo_pur hf h low)
theorem get_setN {α : Type} {l : List α} {i j : Nat} {a : α} (h : i ≠ j) : (l.set i a)[j]? = l[j]? := List.getElem?_set_ne h
theorem get_setS {α : Type} {l : List α} {i : Nat} {a : α} (h : i < l.length) : (l.set i a)[i]? = some a := List.getElem?_set_self h
theorem get_appL {α : Type} {l l' : List α} {i : Nat} (h : i < l.length) : (l ++ l')[i]? = l[i]? := List.getElem?_append_left h
theorem natSucc (n : Nat) : ((n : Int) + 1) = ((n + 1 : Nat) : Int) := by omega
end
end Go.Proofs.YtcmjidnbbfcbjaaGreatDoor.V
/- Loops over functions: one who is told values, what she keeps; the loop by its body; no condition. -/
namespace Go.Proofs.YtcmjidnbbfcbjaaGreatDoor.V
open Go
set_option linter.unusedVariables false
set_option linter.unusedSimpArgs false
noncomputable section
variable {P : Program} {pol : Pol} {en : Env}
/-- What is left when each is told, until one is answered 'false'. -/
def runY {α σ : Type} (F : σ → α → σ × Bool) : List α → σ → σ × Bool
  | [], st => (st, true)
  | s :: l, st => if (F st s).2 = true then runY F l (F st s).1 else ((F st s).1, false)
theorem runY_append {α σ : Type} (F : σ → α → σ × Bool) : ∀ (l l' : List α) (st : σ), runY F (l ++ l') st = if (runY F l st).2 = true then runY F l' (runY F l st).1 else runY F l st
  | [], l', st => by simp [runY]
  | s :: l, l', st => by
    simp only [List.cons_append, runY]
    by_cases h : (F st s).2 = true
    · simp only [if_pos h]; exact runY_append F l l' _
    · simp only [if_neg h]; simp
theorem runY_one {α σ : Type} (F : σ → α → σ × Bool) (s : α) (st : σ) : runY F [s] st = F st s := by
  simp only [runY]
  split
  · rename_i h; rw [← h]
  · rename_i h; rw [← show (F st s).2 = false by simpa using h]
theorem runY_live {α σ : Type} {Live : σ → Prop} {F : σ → α → σ × Bool} (h : ∀ st s, Live st → (F st s).2 = true → Live (F st s).1) : ∀ (l : List α) (st : σ), Live st → (runY F l st).2 = true → Live (runY F l st).1
  | [], st, hl, _ => hl
  | s :: l, st, hl, h2 => by
    simp only [runY] at h2 ⊢
    split at h2
    · rename_i hc; rw [if_pos hc]; exact runY_live h l _ (h _ _ hl hc) h2
    · cases h2
/-- What lies from 'base' on stays, but for 'own'. -/
def Stays (own : List Nat) (base : Nat) (m m' : Mem) : Prop := m.length ≤ m'.length ∧ ∀ id, base ≤ id → id < m.length → id ∉ own → m'[id]? = m[id]?
theorem Stays.refl (own : List Nat) (base : Nat) (m : Mem) : Stays own base m m := ⟨Nat.le_refl _, fun _ _ _ _ => rfl⟩
/-- What is owned behind is owned ahead, or new. -/
def Newer (own own' : List Nat) (n : Nat) : Prop := ∀ id ∈ own', id ∈ own ∨ n ≤ id
theorem Newer.refl (own : List Nat) (n : Nat) : Newer own own n := fun _ h => Or.inl h
theorem Newer.trans {o1 o2 o3 : List Nat} {n n' : Nat} (h : Newer o1 o2 n) (k : Newer o2 o3 n') (hn : n ≤ n') : Newer o1 o3 n := fun id h3 => by
  rcases k id h3 with h2 | h2
  · exact h id h2
  · exact Or.inr (by omega)
theorem Stays.trans {own own' : List Nat} {base : Nat} {m m' m'' : Mem} (h : Stays own base m m') (k : Stays own' base m' m'') (hn : Newer own own' m.length) : Stays own base m m'' :=
  ⟨Nat.le_trans h.1 k.1, fun id h1 h2 h3 => (k.2 id h1 (Nat.lt_of_lt_of_le h2 h.1) fun h4 => by rcases hn id h4 with h5 | h5; exact h3 h5; omega).trans (h.2 id h1 h2 h3)⟩
theorem Stays.push (own : List Nat) (base : Nat) (m l : Mem) : Stays own base m (m ++ l) := ⟨by simp, fun id _ h _ => List.getElem?_append_left h⟩
theorem Stays.set {own : List Nat} {base id : Nat} {m : Mem} {o : Ob} (h : id ∈ own ∨ id < base) : Stays own base m (m.set id o) := ⟨by simp, fun j hj h2 h3 => by
  rw [List.getElem?_set_ne (fun e => by rcases h with h | h; exact h3 (e ▸ h); omega)]⟩
/-- One who is told values, and what she keeps in the store; 'own': which of the newer objects are hers. -/
structure Told (P : Program) (pol : Pol) (en : Env) {α : Type} (enc : α → List AV) (ok : α → Prop) (yid base : Nat) {σ : Type} (Live : σ → Prop) (Inv : σ → List Nat → Mem → Prop) (F : σ → α → σ × Bool) : Prop where
  live : ∀ st s, Live st → (F st s).2 = true → Live (F st s).1
  lt : ∀ st own m, Inv st own m → ∀ id ∈ own, id < m.length
  mono : ∀ st own m l, base ≤ m.length → Inv st own m → Inv st own (m ++ l)
  call : ∀ st own s m, ok s → base ≤ m.length → Live st → Inv st own m → WC P pol en (.yield yid) (enc s) m fun v m' => v = .sc (.bool (F st s).2) ∧ Stays own base m m' ∧ ∃ own', Inv (F st s).1 own' m' ∧ Newer own own' m.length
/-- 'g' tells those of a list. -/
def Iter (P : Program) (pol : Pol) {α : Type} (enc : α → List AV) (ok : α → Prop) (g : FuncId) (first cap : List AV) (keep : Mem → Prop) (l : List α) : Prop :=
  ∀ (en : Env) (yid base : Nat) (σ : Type) (Live : σ → Prop) (Inv : σ → List Nat → Mem → Prop) (F : σ → α → σ × Bool) (st : σ) (own : List Nat) (m : Mem), Told P pol en enc ok yid base Live Inv F →
    en.bar ≤ base → Fits en base → base ≤ m.length → Live st → Inv st own m → (∀ st own m, Inv st own m → keep m) → WC P pol en (.func g) (first ++ [.clo (.yield yid) [] []] ++ cap) m fun _ m' => ∃ own', Inv (runY F l st).1 own' m'
theorem yieldW {id : Nat} {args : List AV} {m : Mem} {Q : AV → Mem → Prop} {p : Option Code} {tmps : List AV} {params : Array Tmp} {assign body : Code} (hb : en.bar ≤ id) (hm : m[id]? = some (.loop .ready p tmps params assign body)) (ha : args.length = params.size)
    (h : W P pol en assign ⟨setMany tmps (params.toList.zip args), m⟩ fun x st1 => x = .normal ∧ ∃ p2 t2 pa2 a2 b2, st1.mem[id]? = some (.loop .ready p2 t2 pa2 a2 b2) ∧
      W P pol en body ⟨st1.tmps, st1.mem.set id (.loop .busy p2 t2 pa2 a2 b2)⟩ fun x st3 => ∃ s3 p3 t3 pa3 a3 b3, st3.mem[id]? = some (.loop s3 p3 t3 pa3 a3 b3) ∧
        Q (.sc (.bool x.jump.isNone)) (st3.mem.set id (.loop (if x.jump.isNone then .ready else .done) x.jump t3 pa3 a3 b3))) : WC P pol en (.yield id) args m Q := by
  obtain ⟨x, st1, ⟨N, hN⟩, hx, p2, t2, pa2, a2, b2, hm1, h⟩ := h
  subst hx
  obtain ⟨x, st3, ⟨M, hM⟩, s3, p3, t3, pa3, a3, b3, hm3, hQ⟩ := h
  refine ⟨_, _, ⟨max N M + 1, fun n hn => ?_⟩, hQ⟩
  obtain ⟨k, rfl⟩ : ∃ k, n = k + 1 := ⟨n - 1, by omega⟩
  show callY (vrun P pol k) en id args m = _
  unfold callY
  simp only [if_pos hb, lget_eq, hm, if_pos ha, spine_eq, hN k (by omega), hm1, lsetK_eq, hM k (by omega), hm3]
/-- A loop over a function, by its body: 'J': how it is left. -/
theorem rangeT {α : Type} {enc : α → List AV} {ok : α → Prop} {g : FuncId} {first cap : List AV} {keep : Mem → Prop} {l : List α} {f : Operand} {params : Array Tmp} {assign body : Code} {ts : List AV} {m : Mem} {Q : X → List AV → Mem → Prop} {σ : Type}
    (hit : Iter P pol enc ok g first cap keep l) (hf : opnd pol ts f = some (.clo (.func g) first cap)) (henc : ∀ s, (enc s).length = params.size) (hb : en.bar ≤ m.length) (hfit : Fits en m.length)
    (J : σ → Option Code) (Inv : σ → List Nat → Mem → Prop) (F : σ → α → σ) (st0 : σ) (own0 : List Nat) (hJ : J st0 = none)
    (hlt : ∀ st own mm, Inv st own mm → ∀ id ∈ own, id < mm.length) (hmono : ∀ st own mm l, m.length < mm.length → Inv st own mm → Inv st own (mm ++ l)) (hset : ∀ st own mm o, Inv st own mm → Inv st own (mm.set m.length o)) (hkeep : ∀ st own mm, Inv st own mm → keep mm)
    (h0 : ∀ o, Inv st0 own0 (m ++ [o]))
    (hbody : ∀ st own s mm, ok s → J st = none → m.length < mm.length → Inv st own mm → Wf P pol en assign (setMany ts (params.toList.zip (enc s))) mm fun x ts1 m1 => x = .normal ∧ m1 = mm ∧ ∀ mm o, m.length < mm.length → Inv st own mm → mm[m.length]? = some o →
      Wf P pol en body ts1 mm fun x _ m3 => x.jump = J (F st s) ∧ m3[m.length]? = some o ∧ Stays own (m.length + 1) mm m3 ∧ ∃ own', Inv (F st s) own' m3 ∧ Newer own own' mm.length)
    (hend : ∀ st own m2, st = (runY (fun st s => (F st s, (J (F st s)).isNone)) l st0).1 → Inv st own m2 → m.length < m2.length → match J st with | none => Q .normal ts m2 | some c => Wf P pol en c ts m2 Q) (hdn : pol.dir g = none := by rfl) : Wq P pol en (.rangeFunc f params assign body) ts m Q := by
  refine rangeF hf ?_ hdn
  have hT : Told P pol en enc ok m.length (m.length + 1) (fun st => J st = none) (fun st own mm => Inv st own mm ∧ mm[m.length]? = some (.loop (if (J st).isNone then .ready else .done) (J st) ts params assign body)) (fun st s => (F st s, (J (F st s)).isNone)) := by
    refine ⟨fun st s _ h => by simpa using h, fun st own mm h => hlt _ _ _ h.1, fun st own mm l hbm ⟨h1, h2⟩ => ⟨hmono st own mm l (by omega) h1, by rw [List.getElem?_append_left (by omega)]; exact h2⟩, fun st own s mm hok hbm hJ ⟨h1, h2⟩ => ?_⟩
    rw [hJ] at h2
    refine yieldW (by omega) h2 (henc s) ?_
    have hb1 := hbody st own s mm hok hJ (by omega) h1
    refine (Wf_ok hb1).mono ?_
    rintro x ⟨ts1, m1⟩ ⟨rfl, hm1, hb2⟩
    simp only at hm1 hb2 ⊢
    subst hm1
    refine ⟨trivial, _, _, _, _, _, h2, ?_⟩
    have hl : m.length < (m1.set m.length (.loop .busy none ts params assign body)).length := by simp; omega
    refine (Wf_ok (hb2 _ _ hl (hset _ _ _ _ h1) (List.getElem?_set_self (by omega)))).mono ?_
    rintro x ⟨ts3, m3⟩ ⟨hx, h3, hS, own', hI, hN⟩
    simp only at hx h3 hS hI hN ⊢
    refine ⟨_, _, _, _, _, _, h3, by rw [hx], ?_, own', ⟨hset _ _ _ _ hI, ?_⟩, ?_⟩
    · refine (Stays.set (Or.inr (by omega))).trans (hS.trans (Stays.set (own := own') (Or.inr (by omega))) hN) ?_
      intro id h; exact Or.inl h
    · have : m.length < m3.length := by have := hS.1; omega
      rw [List.getElem?_set_self this, hx]
    · simpa using hN
  refine (hit en m.length (m.length + 1) σ _ _ _ st0 own0 _ hT (by omega) (hfit.mono (by omega)) (by simp) hJ ⟨h0 _, by rw [List.getElem?_append_right (Nat.le_refl _)]; simp [hJ]⟩ (fun st own mm h => hkeep _ _ _ h.1)).mono ?_
  rintro v m2 ⟨own', hI, h2⟩
  have hl2 : m.length < m2.length := by
    rcases Nat.lt_or_ge m.length m2.length with h | h
    · exact h
    · rw [List.getElem?_eq_none h] at h2; cases h2
  refine ⟨_, _, _, _, _, _, h2, ?_, ?_⟩
  · split <;> simp
  · have he := hend _ own' (m2.set m.length (.loop .exhausted (J (runY (fun st s => (F st s, (J (F st s)).isNone)) l st0).1) ts params assign body)) rfl (hset _ _ _ _ hI) (by simpa using hl2)
    revert he
    cases J (runY (fun st s => (F st s, (J (F st s)).isNone)) l st0).1 <;> exact fun h => h
end
end Go.Proofs.YtcmjidnbbfcbjaaGreatDoor.V
/- More fuel gives the same; no condition. -/
namespace Go.Proofs.YtcmjidnbbfcbjaaGreatDoor.V
open Go
set_option linter.unusedVariables false
set_option linter.unusedSimpArgs false
noncomputable section
variable {P : Program} {pol : Pol} {en : Env}
def LeC (a b : CallT) : Prop := ∀ en fn args m r, a en fn args m = some r → b en fn args m = some r
def LeB (a b : Bn) : Prop := LeC a.call b.call ∧ ∀ en c st r, a.ex en c st = some r → b.ex en c st = some r
theorem oneOp_le {a b : CallT} (h : LeC a b) {o : Oper} {st : St} {r : St × Req} (hr : oneOp P pol a en o st = some r) : oneOp P pol b en o st = some r := by
  unfold oneOp at hr ⊢
  split at hr
  · rename_i fn args hp
    split at hr
    · rename_i v m hc; rw [h _ _ _ _ _ hc]; exact hr
    · cases hr
  · exact hr
  · cases hr
theorem runL_le {a b : CallT} (h : LeC a b) {ops : List Oper} : ∀ (l : List Oper) {st : St} {r : St}, runL P pol a en ops l st = some r → runL P pol b en ops l st = some r
  | [], st, r, hr => hr
  | o :: l, st, r, hr => by
    unfold runL at hr ⊢
    split at hr
    · rename_i hw
      rw [if_pos hw]
      split at hr
      · rename_i st1 r1 h1; rw [oneOp_le h h1]; exact runL_le h l hr
      · cases hr
    · rename_i hw
      rw [if_neg hw]
      rw [putT_eq] at hr ⊢
      exact runL_le h l hr
theorem runI_le {a b : CallT} (h : LeC a b) {ops : List Oper} : ∀ (l : List Nat) {st : St} {r : St × List (Nat × Req)}, runI P pol a en ops l st = some r → runI P pol b en ops l st = some r
  | [], st, r, hr => hr
  | i :: l, st, r, hr => by
    unfold runI at hr ⊢
    split at hr
    · cases hr
    · rename_i o ho
      split at hr
      · rename_i hw
        rw [if_pos hw]
        split at hr
        · rename_i st1 r1 h1
          rw [oneOp_le h h1]
          simp only
          split at hr
          · rename_i st2 l2 h2; rw [runI_le h l h2]; exact hr
          · cases hr
        · cases hr
      · rename_i hw
        rw [if_neg hw]
        rw [putT_eq] at hr ⊢
        split at hr
        · rename_i st2 l2 h2; rw [runI_le h l h2]; exact hr
        · cases hr
theorem callM_le {md : Md} {a b : Bn} (h : LeB a b) {f : FuncId} {args : List AV} {m : Mem} {r : AV × Mem} (hr : callM P md a en f args m = some r) : callM P md b en f args m = some r := by
  unfold callM at hr ⊢
  split at hr
  · cases hr
  · rename_i fn hf
    simp only
    split at hr
    · cases hr
    · rename_i c hc
      simp only [fNat_eq, spine_eq] at hr ⊢
      split at hr
      · rename_i x st he; rw [h.2 _ _ _ _ he]; exact hr
      · cases hr
theorem callF_le {a b : Bn} (h : LeB a b) {f : FuncId} {args : List AV} {m : Mem} {r : AV × Mem} (hr : callF P pol a en f args m = some r) : callF P pol b en f args m = some r := by
  unfold callF at hr ⊢
  split at hr
  · exact hr
  split at hr
  · split at hr
    · simp only [spine_eq] at hr ⊢
      split at hr
      · rename_i v m1 hc
        rw [callM_le h hc]; exact hr
      · cases hr
    · cases hr
  · exact callM_le h hr
theorem callY_le {a b : Bn} (h : LeB a b) {id : Nat} {args : List AV} {m : Mem} {r : AV × Mem} (hr : callY a en id args m = some r) : callY b en id args m = some r := by
  unfold callY at hr ⊢
  split at hr
  · rename_i hb
    rw [if_pos hb]
    split at hr
    · rename_i p tmps params assign body hm
      split at hr
      · rename_i hl
        rw [if_pos hl]
        simp only [spine_eq] at hr ⊢
        split at hr
        · rename_i st1 h1
          rw [h.2 _ _ _ _ h1]
          simp only
          split at hr
          · simp only [lsetK_eq] at hr ⊢
            split at hr
            · rename_i x st3 h3
              rw [h.2 _ _ _ _ h3]; exact hr
            · cases hr
          · cases hr
        · cases hr
      · cases hr
    · cases hr
  · cases hr
theorem stepV_le {a b : Bn} (h : LeB a b) : LeB (stepV P pol a) (stepV P pol b) := by
  constructor
  · intro en fn args m r hr
    cases fn with
    | func f => exact callF_le h hr
    | yield id => exact callY_le h hr
    | _ => exact hr
  · intro en c st r hr
    cases c with
    | skip => exact hr
    | label l => exact hr
    | exit i => exact hr
    | goto i => exact hr
    | ret => exact hr
    | refuse _ => exact hr
    | region id ops draw =>
      cases draw with
      | true =>
        simp only [stepV, if_true] at hr ⊢
        split at hr
        · rename_i st' tr h1; rw [runI_le h.1 _ h1]; exact hr
        · cases hr
      | false =>
        simp only [stepV, Bool.false_eq_true, if_false] at hr ⊢
        cases h1 : runL P pol a.call en ops.toList ops.toList st with
        | none => rw [h1] at hr; cases hr
        | some st1 => rw [h1] at hr; rw [runL_le h.1 _ h1]; exact hr
    | seq x y =>
      simp only [stepV] at hr ⊢
      cases h1 : a.ex en x st with
      | none => rw [h1] at hr; cases hr
      | some q =>
        rw [h1] at hr; rw [h.2 _ _ _ _ h1]
        obtain ⟨xx, st1⟩ := q
        cases xx <;> first | exact hr | exact h.2 _ _ _ _ hr
    | cond o x y =>
      simp only [stepV] at hr ⊢
      split at hr
      · exact h.2 _ _ _ _ hr
      · cases hr
    | block id x =>
      simp only [stepV] at hr ⊢
      cases h1 : a.ex en x st with
      | none => rw [h1] at hr; cases hr
      | some q => rw [h1] at hr; rw [h.2 _ _ _ _ h1]; exact hr
    | loop x =>
      simp only [stepV] at hr ⊢
      cases h1 : a.ex en x st with
      | none => rw [h1] at hr; cases hr
      | some q =>
        rw [h1] at hr; rw [h.2 _ _ _ _ h1]
        obtain ⟨xx, st1⟩ := q
        cases xx <;> first | exact hr | exact h.2 _ _ _ _ hr
    | scope x =>
      simp only [stepV] at hr ⊢
      cases h1 : a.ex en x st with
      | none => rw [h1] at hr; cases hr
      | some q => rw [h1] at hr; rw [h.2 _ _ _ _ h1]; exact hr
    | rangeFunc f params assign body =>
      simp only [stepV] at hr ⊢
      split at hr
      · split at hr
        · cases hr
        rename_i hdn
        rw [if_neg hdn]
        simp only [fNat_eq, spine_eq] at hr ⊢
        split at hr
        · rename_i v m2 h1
          rw [h.1 _ _ _ _ _ h1]
          simp only
          split at hr
          · split at hr
            · cases hr
            · rename_i hs
              rw [if_neg hs]
              split at hr
              · exact hr
              · simp only [lsetK_eq] at hr ⊢
                exact h.2 _ _ _ _ hr
          · cases hr
        · cases hr
      · cases hr
theorem vrun_le : ∀ n, LeB (vrun P pol n) (vrun P pol (n + 1))
  | 0 => by
    constructor
    · intro en fn args m r h; cases h
    · intro en c st r h; cases h
  | n + 1 => stepV_le (vrun_le n)
theorem vrun_le' {n k : Nat} (h : n ≤ k) : LeB (vrun P pol n) (vrun P pol k) := by
  induction h with
  | refl => exact ⟨fun _ _ _ _ _ h => h, fun _ _ _ _ h => h⟩
  | step _ ih => exact ⟨fun _ _ _ _ _ h => (vrun_le _).1 _ _ _ _ _ (ih.1 _ _ _ _ _ h), fun _ _ _ _ h => (vrun_le _).2 _ _ _ _ (ih.2 _ _ _ _ h)⟩
theorem WC.run {fn : Fn} {args : List AV} {m : Mem} {v : AV} {m' : Mem} {Q : AV → Mem → Prop} (n : Nat) (h : (vrun P pol n).call en fn args m = some (v, m')) (hQ : Q v m') : WC P pol en fn args m Q :=
  ⟨v, m', ⟨n, fun k hk => (vrun_le' hk).1 _ _ _ _ _ h⟩, hQ⟩
end
end Go.Proofs.YtcmjidnbbfcbjaaGreatDoor.V
/- Maps, the greatest and the least, as rules; no condition. -/
namespace Go.Proofs.YtcmjidnbbfcbjaaGreatDoor.V
open Go
set_option linter.unusedVariables false
set_option linter.unusedSimpArgs false
noncomputable section
variable {P : Program} {pol : Pol} {en : Env} {ρ : Operand → Option AV} {d : Option Tmp} {ty : TypeId} {p : String} {af : Array Edge} {gd : Option (Nat × Bool)}
/-! max, min. -/
def maxR (x y : Option AV) (g : Option Req) : Option Req :=
  match x, y with
  | some (.sc (.int k a)), some (.sc (.int k' b)) => if k = k' then some (.val (.sc (.int k (if a < b then b else a)))) else g
  | _, _ => g
@[go_sem] theorem maxR_int (k : IntKind) (a b : Int) (g : Option Req) : maxR (some (.sc (.int k a))) (some (.sc (.int k b))) g = some (.val (.sc (.int k (if a < b then b else a)))) := by simp [maxR]
@[go_sem] theorem plan_max (x y : Operand) (t t' : TypeId) : plan P ρ ⟨d, .call ⟨.builtin .max, ⟨[x, y]⟩, ⟨[t, t']⟩⟩, ty, p, af, gd⟩ = maxR (ρ x) (ρ y) (same P ρ ⟨d, .call ⟨.builtin .max, ⟨[x, y]⟩, ⟨[t, t']⟩⟩, ty, p, af, gd⟩) := by
  unfold maxR
  split
  · rename_i k a k' b hx hy
    split
    · rename_i hk
      subst hk
      simp only [plan, planB, generic, plainOp, Bool.true_eq_false, if_false, Op.operands, Call.operands]
      have e1 : ((#[] : Array Operand) ++ (⟨[x, y]⟩ : Array Operand)).toList = [x, y] := by simp
      rw [e1]
      simp only [List.mapM_cons, List.mapM_nil, hx, hy, Option.bind_some, AV.toV, Option.bind_eq_bind, Option.pure_def]
      simp only [execOp, resolve, invoke, builtin, Builtin.max_]
      have e2 : (Array.map (fun x => ((ρ x).bind AV.toV).getD undef) ⟨[x, y]⟩) = #[.int k a, .int k b] := by simp [hx, hy, AV.toV]
      rw [e2]
      rfl
    · rfl
  · rfl
@[go_sem] theorem guardV_und (vs : List AV) (b : Bool) : guardV (some (.tup vs)) b = false := rfl
/-! Division. -/
theorem gen_div (op : BinOp) (hop : op = .rem ∨ op = .quo) {t yt : TypeId} {x y : Operand} {k : IntKind} {a b : Int} (hx : ρ x = some (.sc (.int k a))) (hy : ρ y = some (.sc (.int k b))) (hb : b ≠ 0) :
    generic P ρ ⟨d, .binOp op t x y yt, ty, p, af, gd⟩ = some (.val (.sc (.int k (if op = .rem then a.tmod b else k.wrap (a.tdiv b))))) := by
  simp only [generic, plainOp, Bool.true_eq_false, if_false, Op.operands]
  simp only [List.mapM_cons, List.mapM_nil, hx, hy, Option.bind_some, AV.toV, Option.bind_eq_bind, Option.pure_def]
  simp only [execOp, hx, hy, Option.bind_some, AV.toV, Option.getD_some]
  have e : Go.binOp op t (.int k a) (.int k b) = pure (.int k (if op = .rem then a.tmod b else k.wrap (a.tdiv b))) := by
    rcases hop with rfl | rfl <;> simp [Go.binOp, Op.intDiv, hb]
  rw [e]
  rcases hop with rfl | rfl <;> rfl
def divR (op : BinOp) (x y : Option AV) (g : Option Req) : Option Req :=
  match x, y with
  | some (.sc (.int k a)), some (.sc (.int k' b)) => if k = k' ∧ b ≠ 0 then some (.val (.sc (.int k (if op = .rem then a.tmod b else k.wrap (a.tdiv b))))) else g
  | _, _ => g
theorem plan_div (op : BinOp) (hop : op = .rem ∨ op = .quo) (t yt : TypeId) (x y : Operand) : plan P ρ ⟨d, .binOp op t x y yt, ty, p, af, gd⟩ = divR op (ρ x) (ρ y) (same P ρ ⟨d, .binOp op t x y yt, ty, p, af, gd⟩) := by
  unfold divR
  split
  · rename_i k a k' b hx hy
    split
    · rename_i hc
      obtain ⟨rfl, hb⟩ := hc
      rw [plan_bin, hx, hy, binR_int, gen_div op hop hx hy hb]
      rcases hop with rfl | rfl <;> simp [ibin, orG]
    · rfl
  · rfl
@[go_sem 20000] theorem plan_rem (t yt : TypeId) (x y : Operand) : plan P ρ ⟨d, .binOp .rem t x y yt, ty, p, af, gd⟩ = divR .rem (ρ x) (ρ y) (same P ρ ⟨d, .binOp .rem t x y yt, ty, p, af, gd⟩) := plan_div .rem (Or.inl rfl) t yt x y
@[go_sem 20000] theorem plan_quo (t yt : TypeId) (x y : Operand) : plan P ρ ⟨d, .binOp .quo t x y yt, ty, p, af, gd⟩ = divR .quo (ρ x) (ρ y) (same P ρ ⟨d, .binOp .quo t x y yt, ty, p, af, gd⟩) := plan_div .quo (Or.inr rfl) t yt x y
@[go_sem] theorem divR_rem (k : IntKind) (a b : Int) (g : Option Req) : divR .rem (some (.sc (.int k a))) (some (.sc (.int k b))) g = if b = 0 then g else some (.val (.sc (.int k (a.tmod b)))) := by
  simp only [divR]; by_cases h : b = 0 <;> simp [h]
@[go_sem] theorem divR_quo (k : IntKind) (a b : Int) (g : Option Req) : divR .quo (some (.sc (.int k a))) (some (.sc (.int k b))) g = if b = 0 then g else some (.val (.sc (.int k (k.wrap (a.tdiv b))))) := by
  simp only [divR]; by_cases h : b = 0 <;> simp [h]
/-! Maps. -/
def lookO (P : Program) (t : TypeId) : Option (TypeDesc × AV) :=
  match P.underlying t with
  | some (.map kt e) => match P.underlying kt, zeroOf P e with
    | some kd, some z => some (kd, z)
    | _, _ => none
  | _ => none
def lookR (o : Option (TypeDesc × AV)) (x k : Option AV) (ok : Bool) : Option Req :=
  match o, x, k.bind AV.toV with
  | some (kd, z), some v, some k =>
    if isKeyT kd k = true then
      match v with
      | .nilM => some (.val (if ok then .tup [z, .sc (.bool false)] else z))
      | .mp id => some (.mapget kd id k z ok)
      | _ => none
    else none
  | _, _, _ => none
@[go_sem] theorem plan_lookup (t : TypeId) (x k : Operand) (ok : Bool) : plan P ρ ⟨d, .lookup t x k ok, ty, p, af, gd⟩ = lookR (lookO P t) (ρ x) (ρ k) ok := by
  simp only [plan, lookR, lookO]
  cases P.underlying t with
  | none => rfl
  | some dd =>
    cases dd <;> first | rfl | skip
    rename_i kt e
    simp only
    cases ρ x with
    | none => cases P.underlying kt with
      | none => rfl
      | some kd => cases zeroOf P e <;> rfl
    | some v =>
      cases (ρ k).bind AV.toV with
      | none => cases P.underlying kt with
        | none => rfl
        | some kd => cases zeroOf P e <;> rfl
      | some kv =>
        cases hk : P.underlying kt with
        | none => simp [hk]
        | some kd => cases hz : zeroOf P e with
          | none => simp [hk, hz]
          | some z => simp [hk, hz]; cases v <;> rfl
@[go_sem] theorem lookR_mp (kd : TypeDesc) (z : AV) (id : Nat) (kv : Value) (ok : Bool) : lookR (some (kd, z)) (some (.mp id)) (some (.sc kv)) ok = if isKeyT kd kv = true then some (.mapget kd id kv z ok) else none := rfl
@[go_sem] theorem isKeyT_int (k : IntKind) (n : Int) : isKeyT (.int k) (.int k n) = true := by simp [isKeyT]
@[go_sem] theorem isKeyT_string (s : ByteArray) : isKeyT .string (.string s) = true := rfl
def keyO (P : Program) (t : TypeId) : Option TypeDesc :=
  match P.underlying t with
  | some (.map kt _) => P.underlying kt
  | _ => none
def setR (o : Option TypeDesc) (x k e : Option AV) : Option Req :=
  match o, x, k.bind AV.toV, e with
  | some kd, some (.mp id), some k, some v => if isKeyT kd k = true then some (.mapset kd id k v) else none
  | _, _, _, _ => none
theorem planSet_eq (t : TypeId) (x k e : Operand) : planSet P ρ t x k e = setR (keyO P t) (ρ x) (ρ k) (ρ e) := by
  simp only [planSet, setR, keyO]
  cases P.underlying t with
  | none => rfl
  | some dd =>
    cases dd <;> first | rfl | skip
    rename_i kt e'
    simp only
    cases ρ x with
    | none => cases P.underlying kt <;> rfl
    | some v =>
      cases v <;> first | (cases P.underlying kt <;> rfl) | skip
      cases (ρ k).bind AV.toV with
      | none => cases P.underlying kt <;> rfl
      | some kv => cases ρ e with
        | none => cases P.underlying kt <;> rfl
        | some u => cases hk : P.underlying kt <;> simp [hk]
@[go_sem] theorem plan_mapUpdate (t : TypeId) (x k e : Operand) : plan P ρ ⟨d, .mapUpdate t x k e, ty, p, af, gd⟩ = setR (keyO P t) (ρ x) (ρ k) (ρ e) := planSet_eq t x k e
@[go_sem] theorem plan_insert (t : TypeId) (x k e : Operand) : plan P ρ ⟨d, .insert t x k e, ty, p, af, gd⟩ = setR (keyO P t) (ρ x) (ρ k) (ρ e) := planSet_eq t x k e
@[go_sem] theorem setR_mp (kd : TypeDesc) (id : Nat) (kv : Value) (v : AV) : setR (some kd) (some (.mp id)) (some (.sc kv)) (some v) = if isKeyT kd kv = true then some (.mapset kd id kv v) else none := rfl
def mkM (dd : Option TypeDesc) : Option Req :=
  match dd with
  | some (.map _ _) => some .newmap
  | _ => none
@[go_sem] theorem plan_makeMap (t : TypeId) : plan P ρ ⟨d, .makeMap t none, ty, p, af, gd⟩ = mkM (P.underlying t) := by
  simp only [plan, mkM]
  cases P.underlying t with
  | none => rfl
  | some dd => cases dd <;> rfl
@[go_sem] theorem mkM_map (k e : TypeId) : mkM (some (.map k e)) = some .newmap := rfl
def clrR (v : Option AV) (dt : Option TypeDesc) (g : Option Req) : Option Req :=
  match v, dt with
  | some (.mp id), some (.map _ _) => some (.mapclear id)
  | _, _ => g
@[go_sem] theorem plan_clear (a : Operand) (t : TypeId) : plan P ρ ⟨d, .call ⟨.builtin .clear, ⟨[a]⟩, ⟨[t]⟩⟩, ty, p, af, gd⟩ = clrR (ρ a) (P.underlying t) (generic P ρ ⟨d, .call ⟨.builtin .clear, ⟨[a]⟩, ⟨[t]⟩⟩, ty, p, af, gd⟩) := rfl
@[go_sem] theorem clrR_mp (id : Nat) (k e : TypeId) (g : Option Req) : clrR (some (.mp id)) (some (.map k e)) g = some (.mapclear id) := rfl
def mapQ (o : Option Ob) (k : List (Value × AV) → Prop) : Prop :=
  match o with
  | some (.map es) => k es
  | _ => False
@[go_sem] theorem mapQ_some (es : List (Value × AV)) (k : List (Value × AV) → Prop) : mapQ (some (.map es)) k = k es := rfl
def getV (r : Option (Nat × AV)) (z : AV) (ok : Bool) : AV :=
  match r with
  | some (_, v) => if ok then .tup [v, .sc (.bool true)] else v
  | none => if ok then .tup [z, .sc (.bool false)] else z
@[go_sem] theorem getV_some (i : Nat) (v z : AV) (ok : Bool) : getV (some (i, v)) z ok = if ok = true then .tup [v, .sc (.bool true)] else v := rfl
@[go_sem] theorem getV_none (z : AV) (ok : Bool) : getV none z ok = if ok = true then .tup [z, .sc (.bool false)] else z := rfl
def setV (es : List (Value × AV)) (k : Value) (v : AV) (r : Option (Nat × AV)) : List (Value × AV) :=
  match r with
  | some (i, _) => es.set i (k, v)
  | none => es ++ [(k, v)]
@[go_sem] theorem WOf_mapget (kt : TypeDesc) (id : Nat) (k : Value) (z : AV) (ok : Bool) (m : Mem) (K : Req → AV → Mem → Prop) : WOf P pol en (some (.mapget kt id k z ok)) m K =
    mapQ m[id]? (lock (fun es => atQ (findV kt k es 0) (lock (fun r => K (.mapget kt id k z ok) (getV r z ok) m) ())) ()) := by
  simp only [WOf, perform, lget_eq, mapQ, atQ, lock]
  cases m[id]? with
  | none => rfl
  | some o =>
    cases o with
    | map es =>
      simp only
      cases findV kt k es 0 with
      | none => simp
      | some r =>
        cases r with
        | none => cases ok <;> simp [getV]
        | some q => obtain ⟨i, v⟩ := q; cases ok <;> simp [getV]
    | _ => rfl
@[go_sem] theorem WOf_mapset (kt : TypeDesc) (id : Nat) (k : Value) (v : AV) (m : Mem) (K : Req → AV → Mem → Prop) : WOf P pol en (some (.mapset kt id k v)) m K =
    mapQ m[id]? (lock (fun es => okTo en id (fun B => AV.low B v) ∧ atQ (findV kt k es 0) (lock (fun r => K (.mapset kt id k v) und (m.set id (.map (setV es k v r)))) ())) ()) := by
  simp only [WOf, perform, lget_eq, mapQ, atQ, lock, okTo, spine_eq, lsetK_eq]
  cases m[id]? with
  | none => rfl
  | some o =>
    cases o with
    | map es =>
      simp only
      by_cases hc : en.bar ≤ id ∧ (en.bases.all fun B => decide (B ≤ id) || AV.low B v) = true
      · rw [if_pos hc]
        simp only [hc, and_self, true_and]
        cases findV kt k es 0 with
        | none => simp
        | some r =>
          cases r with
          | none => simp [setV]
          | some q => obtain ⟨i, v⟩ := q; simp [setV]
      · rw [if_neg hc]
        exact propext ⟨fun h => h.elim, fun h => hc h.1⟩
    | _ => rfl
@[go_sem] theorem WOf_maplen (id : Nat) (m : Mem) (K : Req → AV → Mem → Prop) : WOf P pol en (some (.maplen id)) m K = mapQ m[id]? (lock (fun es => K (.maplen id) (I es.length) m) ()) := by
  simp only [WOf, perform, lget_eq, mapQ, lock]
  cases m[id]? with
  | none => rfl
  | some o => cases o <;> rfl
@[go_sem] theorem WOf_mapclear (id : Nat) (m : Mem) (K : Req → AV → Mem → Prop) : WOf P pol en (some (.mapclear id)) m K = mapQ m[id]? (lock (fun es => en.bar ≤ id ∧ K (.mapclear id) und (m.set id (.map []))) ()) := by
  simp only [WOf, perform, lget_eq, mapQ, lock, lsetK_eq]
  cases m[id]? with
  | none => rfl
  | some o =>
    cases o with
    | map es =>
      simp only
      by_cases hc : en.bar ≤ id
      · rw [if_pos hc]; simp [hc]
      · rw [if_neg hc]; simp [hc]
    | _ => rfl
/-! A map from numbers, as pairs. -/
def encP (k : IntKind) (f : Int → AV) (ps : List (Int × Int)) : List (Value × AV) := ps.map fun x => (.int k x.1, f x.2)
theorem findV_encP (k : IntKind) (f : Int → AV) (n : Int) : ∀ (ps : List (Int × Int)) (i : Nat), findV (.int k) (.int k n) (encP k f ps) i = some ((ps.findIdx? fun x => x.1 == n).bind fun j => (ps[j]?).map fun x => (i + j, f x.2))
  | [], i => rfl
  | x :: ps, i => by
    have ih := findV_encP k f n ps (i + 1)
    unfold encP at ih ⊢
    rw [List.map_cons, findV, isKeyT_int, if_pos rfl, ih, List.findIdx?_cons]
    have hs : findV.sameK (.int k n) (.int k x.1) = (n == x.1) := rfl
    rw [hs]
    by_cases h : n = x.1
    · subst h; simp
    · have h1 : (n == x.1) = false := by simpa using h
      have h2 : (x.1 == n) = false := by simpa using fun e => h (Eq.symm e)
      rw [h1, h2]
      simp only [Bool.false_eq_true, if_false, Option.some.injEq]
      cases ps.findIdx? fun x => x.1 == n with
      | none => rfl
      | some j => simp only [Option.bind_some, Option.map_some, List.getElem?_cons_succ]; congr 2; funext y; congr 1; omega
/-! Regions that write nothing are at peace. -/
theorem peace_ro {ml : Nat} {ops : Array Oper} {tr : List (Nat × Req)} (h : (tr.all fun x => !(x.2.foot pol).writes) = true) : peace pol ml ops tr = true := by
  simp only [peace, List.all_eq_true]
  rintro ⟨j, rj⟩ hj ⟨i, ri⟩ hi
  rw [List.all_eq_true] at h
  have h1 := h _ (List.mem_filter.1 hj).1
  have h2 := h _ (List.mem_filter.1 hi).1
  simp only [Foot.writes, Bool.not_or, Bool.and_eq_true, Bool.not_eq_true', Bool.not_eq_false'] at h1 h2
  obtain ⟨⟨a1, a2⟩, a3⟩ := h1
  obtain ⟨⟨b1, b2⟩, b3⟩ := h2
  simp only [Bool.or_eq_true]
  right
  have a3' : (rj.foot pol).wr = [] := by simpa using a3
  have b3' : (ri.foot pol).wr = [] := by simpa using b3
  simp [confl, Foot.writes, a1, a2, a3', b1, b2, b3']
end
end Go.Proofs.YtcmjidnbbfcbjaaGreatDoor.V
/- Functions without a body that the model stands in for; no condition. -/
namespace Go.Proofs.YtcmjidnbbfcbjaaGreatDoor.V
open Go
set_option linter.unusedVariables false
set_option linter.unusedSimpArgs false
noncomputable section
variable {P : Program} {pol : Pol}

theorem callFunc_ext {f : FuncId} {fn : Func} {e : Array Value → Sem Value} {args : Array Value} {w w' : World} {u : Value} (hf : P.funcs[f]? = some fn) (hb : fn.body = none) (hn : (fn.name == "runtime.NumGoroutine") = false)
    (hx : Extern.findNext fn = none) (he : Extern.find fn = some e) (hr : (e args).run P w = .ok u w') : (callFunc f args).run P w = .ok (.value u) w' := by
  have hn' : ¬ fn.name = "runtime.NumGoroutine" := by simpa using hn
  unfold callFunc
  simp [hf, hb, hn', hx, he, mark, hr, Sem.run]
/-- Gives its argument back. -/
def dSame : DirF := fun _ args m =>
  match args with
  | [v] => some (v, m)
  | _ => none
theorem dSame_keep : DirKeep dSame := by
  intro en args m v m' h
  unfold dSame at h
  split at h
  · cases h; exact Keep.refl _ _
  · cases h
theorem dSame_ok {f : FuncId} {fn : Func} (hf : P.funcs[f]? = some fn) (hb : fn.body = none) (hn : (fn.name == "runtime.NumGoroutine") = false) (hx : Extern.findNext fn = none) (he : Extern.find fn = some Extern.AbiNoEscape.same) (ha : pol.alo f = false) : DirOk P pol f dSame := by
  refine ⟨fun en args m v m' h E hm hM us hus => .inr ?_, fun _ en args m v m' h => ?_, fun h => by rw [ha] at h; cases h⟩
  · unfold dSame at h
    split at h
    case h_2 => cases h
    cases h
    simp only [RepL] at hus
    obtain ⟨u, us', rfl, hr, rfl⟩ := hus
    exact ⟨E, u, callFunc_ext hf hb hn hx he rfl, hm, hM, Ext.refl E, hr⟩
  · unfold dSame at h
    split at h
    · cases h; rfl
    · cases h
/-- A new row of whatever bytes. -/
def dRaw (e : TypeId) : DirF := fun _ args m =>
  match args with
  | [.sc (.int .i64 n)] => if 0 ≤ n ∧ n ≤ 4294967296 then fNat n.toNat fun k => fNat (tagT e) fun tg => spine (List.replicate k .any) fun cs => spine (m ++ [.cells tg cs]) fun m' => some (.own m.length tg 0 k 1, m') else none
  | _ => none
theorem dRaw_keep (e : TypeId) : DirKeep (dRaw e) := by
  intro en args m v m' h
  unfold dRaw at h
  split at h
  · split at h
    · simp only [fNat_eq, spine_eq] at h
      cases h; exact Keep.push _ _ _
    · cases h
  · cases h
theorem digits_any : ∀ (n t : Nat) (acc : Array Value), (∀ v ∈ acc, ∃ k : Int, v = .int .u8 k) → ∀ v ∈ Extern.BytealgMakeNoZero.digits n t acc, ∃ k : Int, v = .int .u8 k
  | 0, _, acc, h => h
  | n + 1, t, acc, h => by
    rw [Extern.BytealgMakeNoZero.digits]
    refine digits_any n _ _ fun v hv => ?_
    rw [Array.mem_push] at hv
    rcases hv with hv | rfl
    · exact h v hv
    · exact ⟨_, rfl⟩
theorem digits_size : ∀ (n t : Nat) (acc : Array Value), (Extern.BytealgMakeNoZero.digits n t acc).size = acc.size + n
  | 0, _, _ => rfl
  | n + 1, t, acc => by
    rw [Extern.BytealgMakeNoZero.digits, digits_size n]
    simp
    omega
theorem run_raw (w : World) (ps : Array TypeId) {t e : TypeId} (ht : P.underlying t = some (.slice e)) {n : Nat} (hn : n ≤ 281474976710656) :
    ∃ cs : Array Value, (Extern.BytealgMakeNoZero.makeNoZero ps #[t] #[.int .i64 n]).run P w = .ok (.slice (some ⟨w.heap.size, 0, none⟩) n cs.size) { w with heap := w.heap.push (.cells cs e), drawn := w.drawn + 2 } ∧ n ≤ cs.size ∧ (∀ v ∈ cs, ∃ k : Int, v = .int .u8 k) := by
  have hdef : Extern.BytealgMakeNoZero.makeNoZero ps #[t] #[.int .i64 n] =
      (do
        let .slice elem ← underlying t | stuck "bytealg.MakeNoZero: slice type expected"
        if (n : Int) < 0 || (n : Int) > 2 ^ 48 then runtimePanic (.error "makeslice: len out of range")
        let cap ← choose (.appendCap (n : Int).toNat 0 elem)
        askRoom cap
        let bytes ← choose (.extern "internal/bytealg.MakeNoZero.bytes" 0)
        let a ← newRow elem (Extern.BytealgMakeNoZero.digits cap bytes #[])
        pure (.slice (some a) (n : Int).toNat cap)) := rfl
  refine ⟨Extern.BytealgMakeNoZero.digits (grownCap w n 0 e) ((Question.extern "internal/bytealg.MakeNoZero.bytes" 0).cut (w.tape (w.drawn + 1) (.extern "internal/bytealg.MakeNoZero.bytes" 0))) #[], ?_, ?_, ?_⟩
  · rw [hdef]
    have h1 : ¬ (n : Int) < 0 := by omega
    have h2 : ¬ (281474976710656 : Int) < (n : Int) := by omega
    simp [run_underlying ht, h1, h2, Question.forced, newRow, digits_size, grownCap]
    rfl
  · rw [digits_size]
    simpa using grown_ge w n 0 e
  · exact digits_any _ _ _ (by simp)
theorem dRaw_ok {f : FuncId} {fn : Func} {t e : TypeId} (hf : P.funcs[f]? = some fn) (hb : fn.body = none) (hn : (fn.name == "runtime.NumGoroutine") = false) (hx : Extern.findNext fn = none)
    (he : Extern.find fn = some (Extern.BytealgMakeNoZero.makeNoZero fn.params #[t])) (ht : P.underlying t = some (.slice e)) (hp : pol.mode f ≠ .pur) : DirOk P pol f (dRaw e) := by
  refine ⟨fun en args m v m' h E hm hM us hus => .inr ?_, fun h => absurd h hp, fun _ en args m v m' h => ?_⟩
  case refine_2 =>
    unfold dRaw at h
    split at h
    case h_2 => cases h
    rename_i n
    split at h
    case isFalse => cases h
    rename_i hc
    simp only [fNat_eq, spine_eq] at h
    cases h
    refine ⟨_, rfl, fun m2 hm => ?_⟩
    unfold dRaw
    simp only [if_pos hc, fNat_eq, spine_eq, hm]
  unfold dRaw at h
  split at h
  case h_2 => cases h
  rename_i n
  split at h
  case isFalse => cases h
  rename_i hc
  simp only [fNat_eq, spine_eq] at h
  cases h
  simp only [RepL, Rep] at hus
  obtain ⟨u, us', rfl, ⟨rfl, _⟩, rfl⟩ := hus
  obtain ⟨k, rfl⟩ : ∃ k : Nat, n = (k : Int) := ⟨n.toNat, by omega⟩
  obtain ⟨cs, h1, h2, h3⟩ := run_raw (P := P) E.w fn.params ht (n := k) (by omega)
  have hrun := callFunc_ext hf hb hn hx he h1
  have hM1 := drew_mi hM (E.w.drawn + 2)
  have hx1 := drew_ext (E := E) (E.w.drawn + 2)
  have hrep : ∀ (l : List Value), (∀ v ∈ l, ∃ k : Int, v = Value.int .u8 k) → RepL { E with w := { E.w with drawn := E.w.drawn + 2 } } (List.replicate l.length .any) l := by
    intro l
    induction l with
    | nil => intro _; exact RepL.nil
    | cons a l ih => intro hl; exact RepL.cons (by simp only [Rep]; exact hl a (by simp)) (ih fun v hv => hl v (by simp [hv]))
  have hr := hrep (cs.toList.take k) (fun v hv => h3 v (by simpa using List.mem_of_mem_take hv))
  have hlen : (cs.toList.take k).length = k := by simp; omega
  rw [hlen] at hr
  have hpre : ∀ (i : Nat) u, (cs.toList.take k)[i]? = some u → cs[i]? = some u := by
    intro i u hu
    rw [List.getElem?_take] at hu
    split at hu
    · simpa using hu
    · cases hu
  obtain ⟨E', e1, e2, e3, e4, e5⟩ := new_cells hM1 hr (by simp [List.all_eq_true, AV.leaf]) (c := cs) hpre e
  refine ⟨E', .slice (some ⟨E.w.heap.size, 0, none⟩) k cs.size, ?_, by rw [e2]; simp [← hm], e4, hx1.trans e5, ?_⟩
  · show (callFunc f #[.int .i64 k]).run P E.w = _
    rw [hrun, e1]; rfl
  · rw [← hm]
    exact new_own hM1 (n := k) (cap := cs.size) (esz := 1) e1 e2 e3 h2 (by simp) (by omega)
end
end Go.Proofs.YtcmjidnbbfcbjaaGreatDoor.V
/- Texts, pointers, copies, iterators as rules; no condition. -/
namespace Go.Proofs.YtcmjidnbbfcbjaaGreatDoor.V
open Go
set_option linter.unusedVariables false
set_option linter.unusedSimpArgs false
noncomputable section
variable {P : Program} {pol : Pol} {en : Env} {ρ : Operand → Option AV} {d : Option Tmp} {ty : TypeId} {p : String} {af : Array Edge} {gd : Option (Nat × Bool)}
theorem pv_bind {α β : Type} (s : Sem α) (f : α → Sem β) : pv P (s >>= f) = (pv P s).bind fun a => pv P (f a) := by
  show pv P (Sem.bind s f) = _
  induction s with
  | pure a => rfl
  | program k ih => exact ih P
  | _ => rfl
theorem pv_pure {α : Type} (a : α) : pv P (pure a : Sem α) = some a := rfl
theorem pv_under {t : TypeId} {dd : TypeDesc} (h : P.underlying t = some dd) : pv P (underlying t) = some dd := by
  unfold underlying
  simp only [pv_bind, program, pv, Option.bind_some, h]
  rfl
theorem generic_pv {o : Oper} {us : List Value} {u : Value} (hp : plainOp o.op = true) (h : (o.op.operands.toList.mapM fun x => (ρ x).bind AV.toV) = some us) (he : pv P (execOp (fun x => ((ρ x).bind AV.toV).getD undef) o) = some (.value u)) : generic P ρ o = (ofV u).map .val := by
  unfold generic
  rw [if_neg (by rw [hp]; simp), h]
  simp only [he]
theorem baLoop (l : List UInt8) : ∀ (k i : Nat) (r : List UInt8), k + i = l.length → ByteArray.toList.loop ⟨⟨l⟩⟩ i r = r.reverse ++ l.drop i
  | 0, i, r, h => by
    unfold ByteArray.toList.loop
    rw [if_neg (by show ¬ i < l.length; omega), List.drop_eq_nil_of_le (by omega), List.append_nil]
  | k + 1, i, r, h => by
    unfold ByteArray.toList.loop
    have hi : i < l.length := by omega
    rw [if_pos (by show i < l.length; omega), baLoop l k (i + 1) _ (by omega), List.drop_eq_getElem_cons hi]
    have : (⟨⟨l⟩⟩ : ByteArray).get! i = l[i] := by
      show (⟨l⟩ : Array UInt8)[i]! = l[i]
      simp [hi]
    simp [this]
theorem baToList (l : List UInt8) : (⟨⟨l⟩⟩ : ByteArray).toList = l := by
  unfold ByteArray.toList
  rw [baLoop l l.length 0 [] (by omega)]
  simp
theorem gIf_q (q : Bool) (ts : List AV) (A B : List AV → Prop) : gIf (guardV (some (.sc (.bool q))) true) ts A B = if q = true then A ts else B ts := by cases q <;> rfl
theorem gIf_qf (q : Bool) (ts : List AV) (A B : List AV → Prop) : gIf (guardV (some (.sc (.bool q))) false) ts A B = if q = true then B ts else A ts := by cases q <;> rfl
@[go_sem high] theorem ofV_tx (l : List UInt8) : ofV (.string ⟨l.toArray⟩) = some (tx l) := rfl
theorem tdivN (n k : Nat) : ((n : Nat) : Int).tdiv (k : Int) = ((n / k : Nat) : Int) := Int.ofNat_tdiv n k
theorem tmodN (n k : Nat) : ((n : Nat) : Int).tmod (k : Int) = ((n % k : Nat) : Int) := Int.ofNat_tmod n k
/-! Length. -/
def lenS (x : Option AV) (dt : Option TypeDesc) (g : Option Req) : Option Req :=
  match x, dt with
  | some (.sc (.string s)), some .string => some (.val (I s.size))
  | _, _ => g
theorem gen_len {a : Operand} {t : TypeId} {s : ByteArray} (hx : ρ a = some (.sc (.string s))) (ht : P.underlying t = some .string) : generic P ρ ⟨d, .call ⟨.builtin .len, ⟨[a]⟩, ⟨[t]⟩⟩, ty, p, af, gd⟩ = some (.val (I s.size)) := by
  rw [generic_pv (us := [.string s]) (u := .int .i64 s.size) rfl (by simp [Op.operands, Call.operands, hx, AV.toV])]
  · rfl
  · simp only [execOp, resolve, invoke, builtin]
    have e2 : (Array.map (fun x => ((ρ x).bind AV.toV).getD undef) ⟨[a]⟩) = #[.string s] := by simp [hx, AV.toV]
    rw [e2]
    have h : pv P (Builtin.len_ ⟨[t]⟩ ty #[.string s]) = some (goInt s.size) := by
      unfold Builtin.len_
      show pv P (underlying t >>= _) = _
      rw [pv_bind, pv_under ht]; rfl
    simp only [pure_bind, pv_bind, h]
    rfl
@[go_sem high] theorem plan_lenS (a : Operand) (t : TypeId) : plan P ρ ⟨d, .call ⟨.builtin .len, ⟨[a]⟩, ⟨[t]⟩⟩, ty, p, af, gd⟩ = lenS (ρ a) (P.underlying t) (lenR (ρ a) (P.underlying t) (generic P ρ ⟨d, .call ⟨.builtin .len, ⟨[a]⟩, ⟨[t]⟩⟩, ty, p, af, gd⟩)) := by
  unfold lenS
  split
  · rename_i s hx hd
    rw [plan_len, hx, hd]
    exact gen_len hx hd
  · exact plan_len d ty p af gd a t
@[go_sem] theorem lenS_tx (l : List UInt8) (g : Option Req) : lenS (some (tx l)) (some .string) g = some (.val (I l.length)) := rfl
@[go_sem] theorem lenS_slice (x : Option AV) (e : TypeId) (g : Option Req) : lenS x (some (.slice e)) g = g := by cases x with | none => rfl | some v => cases v <;> first | rfl | (rename_i u; cases u <;> rfl)
@[go_sem] theorem lenS_map (x : Option AV) (k e : TypeId) (g : Option Req) : lenS x (some (.map k e)) g = g := by cases x with | none => rfl | some v => cases v <;> first | rfl | (rename_i u; cases u <;> rfl)
/-! A byte of a text. -/
abbrev u8v (b : UInt8) : AV := .sc (.int .u8 b.toNat)
def atS (dt : Option TypeDesc) (x i : Option AV) (g : Option Req) : Option Req :=
  match dt, x, i with
  | some .string, some (.sc (.string s)), some (.sc (.int _ n)) => if 0 ≤ n ∧ n < s.data.toList.length then (s.data.toList[n.toNat]?).map fun b => .val (u8v b) else g
  | _, _, _ => g
@[go_sem] theorem plan_index (t : TypeId) (x i : Operand) : plan P ρ ⟨d, .index t x i, ty, p, af, gd⟩ = atS (P.underlying t) (ρ x) (ρ i) (generic P ρ ⟨d, .index t x i, ty, p, af, gd⟩) := by
  show generic P ρ _ = _
  unfold atS
  split
  · rename_i s k n ht hx hi
    split
    · rename_i hn
      have hlt : n.toNat < s.data.toList.length := by omega
      rw [List.getElem?_eq_getElem hlt]
      obtain ⟨⟨l⟩⟩ := s
      rw [generic_pv (us := [.string ⟨⟨l⟩⟩, .int k n]) (u := .int .u8 (l[n.toNat]'hlt).toNat) rfl (by simp [Op.operands, hx, hi, AV.toV])]
      · rfl
      · simp only [execOp, hx, hi, Option.bind_some, AV.toV, Option.getD_some, pv_bind]
        have hg : (⟨⟨l⟩⟩ : ByteArray)[n.toNat]? = some (l[n.toNat]'hlt) := by
          have h2 : n.toNat < (⟨⟨l⟩⟩ : ByteArray).size := hlt
          rw [getElem?_pos (⟨⟨l⟩⟩ : ByteArray) n.toNat h2]; rfl
        have : pv P (Instr.index t (.string ⟨⟨l⟩⟩) (.int k n)) = some (.int .u8 (l[n.toNat]'hlt).toNat) := by
          unfold Instr.index
          simp only [asIntOf, pure_bind, pv_bind, pv_under ht, Option.bind_some, if_pos hn.1, hg]
          rfl
        rw [this]; rfl
    · rfl
  · rfl
theorem atS_tx (l : List UInt8) (k : IntKind) (n : Int) (g : Option Req) : atS (some .string) (some (tx l)) (some (.sc (.int k n))) g = if 0 ≤ n ∧ n < l.length then (l[n.toNat]?).map (fun b => .val (u8v b)) else g := rfl
theorem atS_txD {l : List UInt8} {k : IntKind} {n : Int} {g : Option Req} (h : 0 ≤ n ∧ n < l.length) : atS (some .string) (some (tx l)) (some (.sc (.int k n))) g = (l[n.toNat]?).map (fun b => .val (u8v b)) := by rw [atS_tx, if_pos h]
/-! Parts of a text. -/
def boundL (lo : Option (IntKind × Int)) : Int := match lo with | none => 0 | some (_, l) => l
def boundH (n : Nat) (hi : Option (IntKind × Int)) : Int := match hi with | none => n | some (_, h) => h
def slT (dt : Option TypeDesc) (v : Option AV) (lo hi : Option (Option (IntKind × Int))) (g : Option Req) : Option Req :=
  match dt, v, lo, hi with
  | some .string, some (.sc (.string s)), some lo, some hi =>
    if 0 ≤ boundL lo ∧ boundL lo ≤ boundH s.data.toList.length hi ∧ boundH s.data.toList.length hi ≤ s.data.toList.length then
      some (.val (tx ((s.data.toList.drop (boundL lo).toNat).take ((boundH s.data.toList.length hi).toNat - (boundL lo).toNat)))) else g
  | _, _, _, _ => g
theorem asI?_pv {lo : Option Operand} {lo' : Option (IntKind × Int)} (h : asI? ρ lo = some lo') : lo.map (fun x => ((ρ x).bind AV.toV).getD undef) = lo'.map (fun (k, n) => Value.int k n) ∧ (lo.toList.mapM fun x => (ρ x).bind AV.toV) = some (lo'.toList.map fun (k, n) => Value.int k n) := by
  cases lo with
  | none => simp only [asI?, Option.some.injEq] at h; subst h; exact ⟨rfl, rfl⟩
  | some x =>
    rw [asI?_some] at h
    cases hx : ρ x with
    | none => rw [hx] at h; cases h
    | some v =>
      rw [hx] at h
      cases v <;> try (cases h; done)
      rename_i u
      cases u <;> try (cases h; done)
      simp only [toI, Option.some.injEq] at h
      subst h
      simp [hx, AV.toV]
theorem strBounds {n : Nat} {lo hi : Option (IntKind × Int)} (h : 0 ≤ boundL lo ∧ boundL lo ≤ boundH n hi ∧ boundH n hi ≤ n) : pv P (Instr.sliceBounds false n n (lo.map fun (k, n) => Value.int k n) (hi.map fun (k, n) => Value.int k n) none) = some ((boundL lo).toNat, (boundH n hi).toNat, n) := by
  obtain ⟨h1, h2, h3⟩ := h
  unfold boundL boundH at *
  cases lo with
  | none =>
    cases hi with
    | none => simp [Instr.sliceBounds, pv_bind, pv_pure]
    | some x =>
      obtain ⟨k, x⟩ := x
      simp only at h1 h2 h3 ⊢
      have : 0 ≤ x ∧ x ≤ (n : Int) := by omega
      simp [Instr.sliceBounds, Instr.sliceBound, asIntOf, this, pv_pure]
  | some y =>
    obtain ⟨k', y⟩ := y
    cases hi with
    | none =>
      simp only at h1 h2 h3 ⊢
      have : 0 ≤ y ∧ y ≤ (n : Int) := by omega
      simp [Instr.sliceBounds, Instr.sliceBound, asIntOf, this, pv_pure]
    | some x =>
      obtain ⟨k, x⟩ := x
      simp only at h1 h2 h3 ⊢
      obtain ⟨x', rfl⟩ : ∃ x' : Nat, x = (x' : Int) := ⟨x.toNat, by omega⟩
      have e1 : 0 ≤ (x' : Int) ∧ (x' : Int) ≤ (n : Int) := by omega
      have e1' : x' ≤ n := by omega
      have e2 : 0 ≤ y ∧ y ≤ (x' : Int) := by omega
      simp [Instr.sliceBounds, Instr.sliceBound, asIntOf, e1', e2, pv_pure]
theorem baExtract (l : List UInt8) (a b : Nat) : (⟨⟨l⟩⟩ : ByteArray).extract a b = ⟨⟨(l.drop a).take (b - a)⟩⟩ := by
  apply ByteArray.ext
  apply Array.ext'
  simp
theorem gen_slice {t : TypeId} {x : Operand} {lo hi : Option Operand} {l : List UInt8} {lo' hi' : Option (IntKind × Int)} (ht : P.underlying t = some .string) (hx : ρ x = some (tx l)) (hlo : asI? ρ lo = some lo') (hhi : asI? ρ hi = some hi')
    (h : 0 ≤ boundL lo' ∧ boundL lo' ≤ boundH l.length hi' ∧ boundH l.length hi' ≤ l.length) :
    generic P ρ ⟨d, .slice t x lo hi none, ty, p, af, gd⟩ = some (.val (tx ((l.drop (boundL lo').toNat).take ((boundH l.length hi').toNat - (boundL lo').toNat)))) := by
  obtain ⟨a1, a2⟩ := asI?_pv hlo
  obtain ⟨b1, b2⟩ := asI?_pv hhi
  have hops : ((Op.slice t x lo hi none).operands.toList.mapM fun x => (ρ x).bind AV.toV) = some (.string ⟨⟨l⟩⟩ :: (lo'.toList.map (fun (k, n) => Value.int k n) ++ hi'.toList.map (fun (k, n) => Value.int k n))) := by
    have : (Op.slice t x lo hi none).operands.toList = x :: (lo.toList ++ hi.toList) := by simp [Op.operands]
    rw [this, List.mapM_cons, List.mapM_append, a2, b2, hx]
    rfl
  rw [generic_pv (u := .string ⟨⟨(l.drop (boundL lo').toNat).take ((boundH l.length hi').toNat - (boundL lo').toNat)⟩⟩) rfl hops]
  · rfl
  · simp only [execOp, a1, b1, hx, Option.bind_some, AV.toV, Option.getD_some, Option.map_none, pv_bind]
    have : pv P (Instr.sliceAt t (.string ⟨⟨l⟩⟩) (lo'.map fun (k, n) => Value.int k n) (hi'.map fun (k, n) => Value.int k n) none) = some (.string ⟨⟨(l.drop (boundL lo').toNat).take ((boundH l.length hi').toNat - (boundL lo').toNat)⟩⟩) := by
      unfold Instr.sliceAt
      simp only [pv_bind, pv_under ht, Option.bind_some]
      unfold Instr.slice
      simp only [pv_bind, pv_under ht, Option.bind_some]
      have hs := strBounds (P := P) h
      have hsz : (⟨⟨l⟩⟩ : ByteArray).size = l.length := rfl
      simp only [hsz, Option.isSome_none, Bool.false_eq_true, if_false, pv_pure, Option.bind_some, pure_bind]
      rw [pv_bind]
      refine (congrArg (fun o => Option.bind o _) hs).trans ?_
      simp only [Option.bind_some, pv_pure]
      rw [baExtract]
    rw [this]; rfl
@[go_sem high] theorem plan_sliceT (t : TypeId) (x : Operand) (lo hi : Option Operand) : plan P ρ ⟨d, .slice t x lo hi none, ty, p, af, gd⟩ = slT (P.underlying t) (ρ x) (asI? ρ lo) (asI? ρ hi) (slR (generic P ρ ⟨d, .slice t x lo hi none, ty, p, af, gd⟩) (arrOf P t) (ρ x) (elemSz P t) (asI? ρ lo) (asI? ρ hi)) := by
  unfold slT
  split
  · rename_i s lo' hi' ht hx hlo hhi
    split
    · rename_i h
      rw [plan_slice, hx, slR_sc]
      obtain ⟨⟨l⟩⟩ := s
      exact gen_slice ht hx hlo hhi h
    · exact plan_slice d ty p af gd t x lo hi
  · exact plan_slice d ty p af gd t x lo hi
@[go_sem] theorem slT_slice (e : TypeId) (v : Option AV) (lo hi : Option (Option (IntKind × Int))) (g : Option Req) : slT (some (.slice e)) v lo hi g = g := rfl
@[go_sem] theorem slT_array (n : Nat) (e : TypeId) (v : Option AV) (lo hi : Option (Option (IntKind × Int))) (g : Option Req) : slT (some (.array n e)) v lo hi g = g := rfl
@[go_sem] theorem slT_pointer (e : TypeId) (v : Option AV) (lo hi : Option (Option (IntKind × Int))) (g : Option Req) : slT (some (.pointer e)) v lo hi g = g := rfl
theorem slT_hi (l : List UInt8) (k : IntKind) (h : Int) (g : Option Req) : slT (some .string) (some (tx l)) (some none) (some (some (k, h))) g = if 0 ≤ h ∧ h ≤ l.length then some (.val (tx (l.take h.toNat))) else g := by
  simp [slT, boundL, boundH]
theorem slT_lo (l : List UInt8) (k : IntKind) (n : Int) (g : Option Req) : slT (some .string) (some (tx l)) (some (some (k, n))) (some none) g = if 0 ≤ n ∧ n ≤ l.length then some (.val (tx (l.drop n.toNat))) else g := by
  show (if 0 ≤ n ∧ n ≤ (l.length : Int) ∧ (l.length : Int) ≤ (l.length : Int) then some (Req.val (tx ((l.drop n.toNat).take (l.length - n.toNat)))) else g) = _
  by_cases h : 0 ≤ n ∧ n ≤ (l.length : Int)
  · rw [if_pos h, if_pos ⟨h.1, h.2, Int.le_refl _⟩, List.take_of_length_le (by simp)]
  · rw [if_neg h, if_neg (fun hh => h ⟨hh.1, hh.2.1⟩)]
theorem slT_both (l : List UInt8) (k k' : IntKind) (n h : Int) (g : Option Req) : slT (some .string) (some (tx l)) (some (some (k, n))) (some (some (k', h))) g = if 0 ≤ n ∧ n ≤ h ∧ h ≤ l.length then some (.val (tx ((l.drop n.toNat).take (h.toNat - n.toNat)))) else g := rfl
theorem slT_hiD {l : List UInt8} {k : IntKind} {h : Int} {g : Option Req} (hc : 0 ≤ h ∧ h ≤ l.length) : slT (some .string) (some (tx l)) (some none) (some (some (k, h))) g = some (.val (tx (l.take h.toNat))) := by rw [slT_hi, if_pos hc]
theorem slT_loD {l : List UInt8} {k : IntKind} {n : Int} {g : Option Req} (hc : 0 ≤ n ∧ n ≤ l.length) : slT (some .string) (some (tx l)) (some (some (k, n))) (some none) g = some (.val (tx (l.drop n.toNat))) := by rw [slT_lo, if_pos hc]
theorem slT_bothD {l : List UInt8} {k k' : IntKind} {n h : Int} {g : Option Req} (hc : 0 ≤ n ∧ n ≤ h ∧ h ≤ l.length) : slT (some .string) (some (tx l)) (some (some (k, n))) (some (some (k', h))) g = some (.val (tx ((l.drop n.toNat).take (h.toNat - n.toNat)))) := by rw [slT_both, if_pos hc]
/-! Texts put together and held against each other. -/
def ltB : List UInt8 → List UInt8 → Bool := Op.bytesLess
def strR (op : BinOp) (a b : List UInt8) : Option AV :=
  match op with
  | .add => if ((a.length + b.length : Nat) : Int) ≤ 9223372036854775807 then some (tx (a ++ b)) else none
  | .eql => some (.sc (.bool (decide (a = b))))
  | .neq => some (.sc (.bool (decide (a ≠ b))))
  | .lss => some (.sc (.bool (ltB a b)))
  | .leq => some (.sc (.bool (ltB a b || decide (a = b))))
  | .gtr => some (.sc (.bool !(ltB a b || decide (a = b))))
  | .geq => some (.sc (.bool !(ltB a b)))
  | _ => none
def binT (op : BinOp) (x y : Option AV) (g : Option Req) : Option Req :=
  match x, y with
  | some (.sc (.string a)), some (.sc (.string b)) => (match strR op a.data.toList b.data.toList with | some v => some (.val v) | none => g)
  | _, _ => g
/-- Nothing held against nothing. -/
def nnil (dt : Option TypeDesc) (x y : Option AV) : Bool :=
  match dt, x, y with
  | some (.pointer _), some .nilP, some .nilP => true
  | some (.slice _), some .nilS, some .nilS => true
  | some (.map _ _), some .nilM, some .nilM => true
  | some (.func _ _ _), some .nilF, some .nilF => true
  | _, _, _ => false
def binN (op : BinOp) (dt : Option TypeDesc) (x y : Option AV) (g : Option Req) : Option Req :=
  if nnil dt x y = true then (match eqOp op with | some b => some (.val (.sc (.bool b))) | none => g) else g
theorem gen_nnil {op : BinOp} {t yt : TypeId} {x y : Operand} {b : Bool} (hn : nnil (P.underlying t) (ρ x) (ρ y) = true) (hb : eqOp op = some b) : generic P ρ ⟨d, .binOp op t x y yt, ty, p, af, gd⟩ = some (.val (.sc (.bool b))) := by
  have key : ∀ u : Value, ((ρ x).bind AV.toV) = some u → ((ρ y).bind AV.toV) = some u → (∀ a, u = .agg a → False) → u ≠ .nilIface → pv P (Go.binOp op t u u) = some (.bool b) → generic P ρ ⟨d, .binOp op t x y yt, ty, p, af, gd⟩ = some (.val (.sc (.bool b))) := by
    intro u hx hy ha hi he
    rw [generic_pv (us := [u, u]) (u := .bool b) rfl (by simp [Op.operands, hx, hy])]
    · rfl
    · simp only [execOp, hx, hy, Option.getD_some, pv_bind]
      have hg : pv P (eqGuard op t x y u u) = some () := by
        unfold eqGuard
        rcases eqOp_some hb with ⟨rfl, _⟩ | ⟨rfl, _⟩ <;> cases u <;> first | rfl | exact absurd rfl hi | exact (ha _ rfl).elim
      rw [hg, Option.bind_some, he]; rfl
  have heq : ∀ u : Value, (∀ n, pv P (Op.equalIn (n + 1) t u u) = some true) → pv P (Op.equal t u u) = some true := fun u h => by
    simp only [Op.equal, Op.maxDepth]; exact h 9999
  unfold nnil at hn
  split at hn
  · rename_i e ht hx hy
    refine key (.pointer none) (by rw [hx]; rfl) (by rw [hy]; rfl) (by simp) (by simp) ?_
    have := heq (.pointer none) (fun n => by simp only [Op.equalIn, pv_bind, pv_under ht]; rfl)
    rcases eqOp_some hb with ⟨rfl, rfl⟩ | ⟨rfl, rfl⟩ <;> simp only [Go.binOp] <;> (rw [pv_bind, this]; rfl)
  · rename_i e ht hx hy
    refine key (.slice none 0 0) (by rw [hx]; rfl) (by rw [hy]; rfl) (by simp) (by simp) ?_
    have := heq (.slice none 0 0) (fun n => by simp only [Op.equalIn, pv_bind, pv_under ht]; rfl)
    rcases eqOp_some hb with ⟨rfl, rfl⟩ | ⟨rfl, rfl⟩ <;> simp only [Go.binOp] <;> (rw [pv_bind, this]; rfl)
  · rename_i k e ht hx hy
    refine key (.map none) (by rw [hx]; rfl) (by rw [hy]; rfl) (by simp) (by simp) ?_
    have := heq (.map none) (fun n => by simp only [Op.equalIn, pv_bind, pv_under ht]; rfl)
    rcases eqOp_some hb with ⟨rfl, rfl⟩ | ⟨rfl, rfl⟩ <;> simp only [Go.binOp] <;> (rw [pv_bind, this]; rfl)
  · rename_i k1 k2 k3 ht hx hy
    refine key .nilFunc (by rw [hx]; rfl) (by rw [hy]; rfl) (by simp) (by simp) ?_
    have := heq .nilFunc (fun n => by simp only [Op.equalIn, pv_bind, pv_under ht]; rfl)
    rcases eqOp_some hb with ⟨rfl, rfl⟩ | ⟨rfl, rfl⟩ <;> simp only [Go.binOp] <;> (rw [pv_bind, this]; rfl)
  · cases hn
theorem binR_nnil {op : BinOp} {dt : Option TypeDesc} {x y : Option AV} (h : nnil dt x y = true) (g : Option Req) : binR P op dt x y g = g := by
  unfold nnil at h
  split at h <;> first | rfl | cases h
def strO (v : Option AV) (g : Option Req) : Option Req :=
  match v with
  | some v => some (.val v)
  | none => g
@[go_sem] theorem strO_some (v : AV) (g : Option Req) : strO (some v) g = some (.val v) := rfl
@[go_sem] theorem strR_eql (a b : List UInt8) : strR .eql a b = some (.sc (.bool (decide (a = b)))) := rfl
@[go_sem] theorem strR_neq (a b : List UInt8) : strR .neq a b = some (.sc (.bool (decide (a ≠ b)))) := rfl
@[go_sem] theorem strR_lss (a b : List UInt8) : strR .lss a b = some (.sc (.bool (ltB a b))) := rfl
@[go_sem] theorem strR_leq (a b : List UInt8) : strR .leq a b = some (.sc (.bool (ltB a b || decide (a = b)))) := rfl
@[go_sem] theorem strR_gtr (a b : List UInt8) : strR .gtr a b = some (.sc (.bool !(ltB a b || decide (a = b)))) := rfl
@[go_sem] theorem strR_geq (a b : List UInt8) : strR .geq a b = some (.sc (.bool !(ltB a b))) := rfl
theorem strR_addD {a b : List UInt8} (h : a.length + b.length ≤ 9223372036854775807) : strR .add a b = some (tx (a ++ b)) := by
  unfold strR
  simp only
  rw [if_pos (by omega)]
theorem ba_mk (s : ByteArray) : s = ⟨⟨s.data.toList⟩⟩ := rfl
theorem strOp {op : BinOp} {a b : List UInt8} {v : AV} (h : strR op a b = some v) : ∃ u, pv P (Op.stringOp op ⟨⟨a⟩⟩ ⟨⟨b⟩⟩) = some u ∧ ofV u = some v := by
  unfold strR at h
  split at h
  all_goals first | (cases h; done) | skip
  · split at h
    · rename_i hl
      cases h
      refine ⟨.string ⟨⟨a ++ b⟩⟩, ?_, rfl⟩
      unfold Op.stringOp
      have hm : IntKind.i64.max = 9223372036854775807 := rfl
      simp only [hm]
      rw [if_neg (by show ¬ (((a.length + b.length : Nat) : Int) > 9223372036854775807); omega)]
      have : (⟨⟨a⟩⟩ : ByteArray) ++ ⟨⟨b⟩⟩ = ⟨⟨a ++ b⟩⟩ := by
        apply ByteArray.ext
        apply Array.ext'
        simp
      rw [this]; rfl
    · cases h
  all_goals
    cases h
    refine ⟨_, rfl, ?_⟩
    have hbd : (a == b) = decide (a = b) := by by_cases h : a = b <;> simp [h]
    have hbn : (!(a == b)) = decide (a ≠ b) := by by_cases h : a = b <;> simp [h]
    simp only [baToList, ltB, hbn]
    first | rfl | (rw [hbd]; rfl)
theorem bin_string {op : BinOp} {t : TypeId} {a b : ByteArray} : Go.binOp op t (.string a) (.string b) = Op.stringOp op a b := by
  cases op <;> rfl
theorem plan_binN (op : BinOp) (t yt : TypeId) (x y : Operand) : plan P ρ ⟨d, .binOp op t x y yt, ty, p, af, gd⟩ = binN op (P.underlying t) (ρ x) (ρ y) (binR P op (P.underlying t) (ρ x) (ρ y) (generic P ρ ⟨d, .binOp op t x y yt, ty, p, af, gd⟩)) := by
  unfold binN
  split
  · rename_i h
    split
    · rename_i b hb
      rw [plan_bin, binR_nnil h, gen_nnil h hb]
    · exact plan_bin d ty p af gd op t yt x y
  · exact plan_bin d ty p af gd op t yt x y
@[go_sem high] theorem plan_binT (op : BinOp) (t yt : TypeId) (x y : Operand) : plan P ρ ⟨d, .binOp op t x y yt, ty, p, af, gd⟩ = binT op (ρ x) (ρ y) (binN op (P.underlying t) (ρ x) (ρ y) (binR P op (P.underlying t) (ρ x) (ρ y) (generic P ρ ⟨d, .binOp op t x y yt, ty, p, af, gd⟩))) := by
  unfold binT
  split
  · rename_i a b hx hy
    cases hs : strR op a.data.toList b.data.toList with
    | none => exact plan_binN op t yt x y
    | some v =>
      obtain ⟨u, h1, h2⟩ := strOp (P := P) hs
      rw [plan_bin, hx, hy]
      have hb : binR P op (P.underlying t) (some (.sc (.string a))) (some (.sc (.string b))) (generic P ρ ⟨d, .binOp op t x y yt, ty, p, af, gd⟩) = generic P ρ ⟨d, .binOp op t x y yt, ty, p, af, gd⟩ := by
        simp only [binR]
        cases P.underlying t with
        | none => rfl
        | some dd => cases dd <;> rfl
      rw [hb, generic_pv (us := [.string a, .string b]) (u := u) rfl (by simp [Op.operands, hx, hy, AV.toV])]
      · rw [h2]; rfl
      · simp only [execOp, hx, hy, Option.bind_some, AV.toV, Option.getD_some, pv_bind]
        have hg : pv P (eqGuard op t x y (.string a) (.string b)) = some () := by
          unfold eqGuard
          split <;> rfl
        rw [hg, Option.bind_some, bin_string]
        have : pv P (Op.stringOp op a b) = some u := h1
        rw [this]; rfl
  · exact plan_binN op t yt x y
@[go_sem] theorem binT_tx (op : BinOp) (a b : List UInt8) (g : Option Req) : binT op (some (tx a)) (some (tx b)) g = strO (strR op a b) g := rfl

theorem binT_not {op : BinOp} {x y : Option AV} {g : Option Req} (h : ∀ s, x ≠ some (.sc (.string s))) : binT op x y g = g := by
  unfold binT
  split
  · exact absurd rfl (h _)
  · rfl
@[go_sem] theorem binT_int (op : BinOp) (k : IntKind) (a : Int) (y : Option AV) (g : Option Req) : binT op (some (.sc (.int k a))) y g = g := binT_not (by simp)
@[go_sem] theorem binT_bool (op : BinOp) (b : Bool) (y : Option AV) (g : Option Req) : binT op (some (.sc (.bool b))) y g = g := binT_not (by simp)
@[go_sem] theorem binT_nilP (op : BinOp) (y : Option AV) (g : Option Req) : binT op (some .nilP) y g = g := binT_not (by simp)
@[go_sem] theorem binT_nilS (op : BinOp) (y : Option AV) (g : Option Req) : binT op (some .nilS) y g = g := binT_not (by simp)
@[go_sem] theorem binT_nilI (op : BinOp) (y : Option AV) (g : Option Req) : binT op (some .nilI) y g = g := binT_not (by simp)
@[go_sem] theorem binT_nilM (op : BinOp) (y : Option AV) (g : Option Req) : binT op (some .nilM) y g = g := binT_not (by simp)
@[go_sem] theorem binT_nilF (op : BinOp) (y : Option AV) (g : Option Req) : binT op (some .nilF) y g = g := binT_not (by simp)
@[go_sem] theorem binT_ptr (op : BinOp) (a b c : Nat) (y : Option AV) (g : Option Req) : binT op (some (.ptr a b c)) y g = g := binT_not (by simp)
@[go_sem] theorem binT_cptr (op : BinOp) (cs : List AV) (y : Option AV) (g : Option Req) : binT op (some (.cptr cs)) y g = g := binT_not (by simp)
@[go_sem] theorem binT_lst (op : BinOp) (n : Nat) (cs : List AV) (c : Bool) (y : Option AV) (g : Option Req) : binT op (some (.lst n cs c)) y g = g := binT_not (by simp)
@[go_sem] theorem binT_own (op : BinOp) (a b c e f : Nat) (y : Option AV) (g : Option Req) : binT op (some (.own a b c e f)) y g = g := binT_not (by simp)
@[go_sem] theorem binT_mp (op : BinOp) (a : Nat) (y : Option AV) (g : Option Req) : binT op (some (.mp a)) y g = g := binT_not (by simp)
@[go_sem] theorem binT_agg (op : BinOp) (cs : List AV) (y : Option AV) (g : Option Req) : binT op (some (.agg cs)) y g = g := binT_not (by simp)
@[go_sem] theorem binT_ifc (op : BinOp) (t : TypeId) (v : AV) (y : Option AV) (g : Option Req) : binT op (some (.ifc t v)) y g = g := binT_not (by simp)
@[go_sem] theorem binT_clo (op : BinOp) (f : Fn) (a b : List AV) (y : Option AV) (g : Option Req) : binT op (some (.clo f a b)) y g = g := binT_not (by simp)
theorem binN_not {op : BinOp} {dt : Option TypeDesc} {x y : Option AV} {g : Option Req} (h : nnil dt x y = false) : binN op dt x y g = g := by unfold binN; rw [h]; rfl
@[go_sem] theorem binN_sc (op : BinOp) (dt : Option TypeDesc) (a : Value) (y : Option AV) (g : Option Req) : binN op dt (some (.sc a)) y g = g := binN_not (by unfold nnil; split <;> simp_all)
@[go_sem] theorem binN_ptr (op : BinOp) (dt : Option TypeDesc) (a b c : Nat) (y : Option AV) (g : Option Req) : binN op dt (some (.ptr a b c)) y g = g := binN_not (by unfold nnil; split <;> simp_all)
@[go_sem] theorem binN_cptr (op : BinOp) (dt : Option TypeDesc) (cs : List AV) (y : Option AV) (g : Option Req) : binN op dt (some (.cptr cs)) y g = g := binN_not (by unfold nnil; split <;> simp_all)
@[go_sem] theorem binN_lst (op : BinOp) (dt : Option TypeDesc) (n : Nat) (cs : List AV) (c : Bool) (y : Option AV) (g : Option Req) : binN op dt (some (.lst n cs c)) y g = g := binN_not (by unfold nnil; split <;> simp_all)
@[go_sem] theorem binN_own (op : BinOp) (dt : Option TypeDesc) (a b c e f : Nat) (y : Option AV) (g : Option Req) : binN op dt (some (.own a b c e f)) y g = g := binN_not (by unfold nnil; split <;> simp_all)
@[go_sem] theorem binN_mp (op : BinOp) (dt : Option TypeDesc) (a : Nat) (y : Option AV) (g : Option Req) : binN op dt (some (.mp a)) y g = g := binN_not (by unfold nnil; split <;> simp_all)
@[go_sem] theorem binN_agg (op : BinOp) (dt : Option TypeDesc) (cs : List AV) (y : Option AV) (g : Option Req) : binN op dt (some (.agg cs)) y g = g := binN_not (by unfold nnil; split <;> simp_all)
@[go_sem] theorem binN_ifc (op : BinOp) (dt : Option TypeDesc) (t : TypeId) (v : AV) (y : Option AV) (g : Option Req) : binN op dt (some (.ifc t v)) y g = g := binN_not (by unfold nnil; split <;> simp_all)
@[go_sem] theorem binN_clo (op : BinOp) (dt : Option TypeDesc) (f : Fn) (a b : List AV) (y : Option AV) (g : Option Req) : binN op dt (some (.clo f a b)) y g = g := binN_not (by unfold nnil; split <;> simp_all)
@[go_sem] theorem binN_nilP_eql (e : TypeId) (g : Option Req) : binN .eql (some (.pointer e)) (some .nilP) (some .nilP) g = some (.val (.sc (.bool true))) := rfl
@[go_sem] theorem binN_nilP_neq (e : TypeId) (g : Option Req) : binN .neq (some (.pointer e)) (some .nilP) (some .nilP) g = some (.val (.sc (.bool false))) := rfl
@[go_sem] theorem binN_nilS_eql (e : TypeId) (g : Option Req) : binN .eql (some (.slice e)) (some .nilS) (some .nilS) g = some (.val (.sc (.bool true))) := rfl
@[go_sem] theorem binN_nilS_neq (e : TypeId) (g : Option Req) : binN .neq (some (.slice e)) (some .nilS) (some .nilS) g = some (.val (.sc (.bool false))) := rfl
@[go_sem] theorem binN_nilM_eql (k e : TypeId) (g : Option Req) : binN .eql (some (.map k e)) (some .nilM) (some .nilM) g = some (.val (.sc (.bool true))) := rfl
@[go_sem] theorem binN_nilM_neq (k e : TypeId) (g : Option Req) : binN .neq (some (.map k e)) (some .nilM) (some .nilM) g = some (.val (.sc (.bool false))) := rfl
/-! What the store is asked. -/
@[go_sem] theorem WOf_chk (tag id ver off sz : Nat) (v : AV) (m : Mem) (k : Req → AV → Mem → Prop) : WOf P pol en (some (.chk tag id ver off sz v)) m k = cellsQ m[id]? ver (lock (fun cs => (0 < sz ∧ off + sz ≤ cs.length) ∧ (tag = 0 ∨ ver % 65536 = tag) ∧ k (.chk tag id ver off sz v) v m) ()) := by
  simp only [lock, WOf, perform, lget_eq, cellsQ]
  cases m[id]? with
  | none => rfl
  | some o =>
    cases o with
    | cells v' cs =>
      simp only
      by_cases hc : v' = ver ∧ (0 < sz ∧ off + sz ≤ cs.length) ∧ (tag = 0 ∨ ver % 65536 = tag)
      · rw [if_pos hc]; simp only [hc, true_and, and_self]
      · rw [if_neg hc]; exact propext ⟨fun h => h.elim, fun h => hc ⟨h.1, h.2.1, h.2.2.1⟩⟩
    | _ => rfl
@[go_sem] theorem WOf_bstr (id ver off n : Nat) (m : Mem) (k : Req → AV → Mem → Prop) : WOf P pol en (some (.bstr id ver off n)) m k = cellsQ m[id]? ver (lock (fun cs => off + n ≤ cs.length ∧ atQ (bytesOf ((cs.drop off).take n)) (lock (fun l => k (.bstr id ver off n) (tx l) m) ())) ()) := by
  simp only [lock, WOf, perform, rd, lget_eq, cellsQ, atQ]
  cases m[id]? with
  | none => rfl
  | some o =>
    cases o with
    | cells v' cs =>
      simp only
      by_cases hc : v' = ver ∧ off + n ≤ cs.length
      · rw [if_pos hc]
        simp only [hc, true_and]
        cases bytesOf ((cs.drop off).take n) <;> simp
      · rw [if_neg hc]; exact propext ⟨fun h => h.elim, fun h => hc ⟨h.1, h.2.1⟩⟩
    | _ => rfl
@[go_sem] theorem WOf_ustr (tag id ver off n : Nat) (m : Mem) (k : Req → AV → Mem → Prop) : WOf P pol en (some (.ustr tag id ver off n)) m k = cellsQ m[id]? ver (lock (fun cs => off + n ≤ cs.length ∧ atQ (bytesOf ((cs.drop off).take n)) (lock (fun l => (ver % 65536 = tag ∧ en.bar ≤ id) ∧ k (.ustr tag id ver off n) (tx l) (m.set id (.cells (nextV tag ver) []))) ())) ()) := by
  simp only [lock, WOf, perform, rd, lget_eq, cellsQ, atQ, fNat_eq, lsetK_eq]
  cases m[id]? with
  | none => rfl
  | some o =>
    cases o with
    | cells v' cs =>
      simp only
      by_cases hc : v' = ver ∧ off + n ≤ cs.length
      · rw [if_pos hc]
        simp only [hc, true_and]
        cases bytesOf ((cs.drop off).take n) with
        | none => simp
        | some l =>
          simp only
          by_cases h2 : ver % 65536 = tag ∧ en.bar ≤ id
          · rw [if_pos h2]; simp [h2]
          · rw [if_neg h2]; simp [h2]
      · rw [if_neg hc]; exact propext ⟨fun h => h.elim, fun h => hc ⟨h.1, h.2.1⟩⟩
    | _ => rfl
@[go_sem] theorem WOf_copyL (id ver off len esz n : Nat) (ys : List AV) (m : Mem) (k : Req → AV → Mem → Prop) : WOf P pol en (some (.copy id ver off len esz (.lst n ys))) m k =
    cellsQ m[id]? ver (lock (fun cs => (ys.length = n * esz ∧ off + len * esz ≤ cs.length ∧ 0 < esz) ∧ okTo en id (fun B => AV.lowL B ys) ∧ k (.copy id ver off len esz (.lst n ys)) (I (min n len : Nat)) (m.set id (.cells ver (splice cs off (ys.take (min n len * esz)))))) ()) := by
  simp only [lock, WOf, perform, lget_eq, cellsQ, srcCells]
  cases m[id]? with
  | none => rfl
  | some o =>
    cases o with
    | cells v cs =>
      by_cases hy : ys.length = n * esz
      · simp only [if_pos hy, spliceK_eq, fNat_eq, lsetK_eq]
        by_cases hc : v = ver ∧ off + len * esz ≤ cs.length ∧ 0 < esz ∧ en.bar ≤ id ∧ en.bases.all (fun B => decide (B ≤ id) || AV.lowL B ys) = true
        · rw [if_pos hc]
          obtain ⟨h1, h2, h3, h4, h5⟩ := hc
          subst h1
          simp only [okTo, hy, h2, h3, h4, h5, true_and, and_self]
        · rw [if_neg hc]
          refine propext ⟨fun h => h.elim, fun h => hc ⟨h.1, h.2.1.2.1, h.2.1.2.2, h.2.2.1.1, h.2.2.1.2⟩⟩
      · simp only [if_neg hy]
        refine propext ⟨fun h => h.elim, fun h => hy h.2.1.1⟩
    | _ => rfl
@[go_sem] theorem WOf_iter (s : ByteArray) (m : Mem) (k : Req → AV → Mem → Prop) : WOf P pol en (some (.iter s)) m k = k (.iter s) (.it m.length) (m ++ [.iter s 0]) := by
  simp only [WOf, perform, spine_eq]
def itQ (o : Option Ob) (k : ByteArray → Nat → Prop) : Prop :=
  match o with
  | some (.iter s p) => k s p
  | _ => False
@[go_sem] theorem itQ_some (s : ByteArray) (p : Nat) (k : ByteArray → Nat → Prop) : itQ (some (.iter s p)) k = k s p := rfl
@[go_sem] theorem WOf_nextS (id : Nat) (m : Mem) (k : Req → AV → Mem → Prop) : WOf P pol en (some (.nextS id)) m k = itQ m[id]? (lock (fun s p => en.bar ≤ id ∧
    if p < s.size then k (.nextS id) (.tup [.sc (.bool true), I p, .sc (.int .i32 (Utf8.decode s p).1)]) (m.set id (.iter s (p + (Utf8.decode s p).2))) else k (.nextS id) (.tup [.sc (.bool false)]) m) ()) := by
  simp only [lock, WOf, perform, lget_eq, itQ, fNat_eq, lsetK_eq]
  cases m[id]? with
  | none => rfl
  | some o =>
    cases o with
    | iter s p =>
      simp only
      by_cases hb : en.bar ≤ id
      · rw [if_pos hb]
        by_cases hp : p < s.size
        · rw [if_pos hp, if_pos hp]; simp [hb]
        · rw [if_neg hp, if_neg hp]; simp [hb]
      · rw [if_neg hb]; simp [hb]
    | _ => rfl
/-! Pointers. -/
def nilR (v : Option AV) : Option Req :=
  match v with
  | some (.ptr id ver off) => some (.val (.ptr id ver off))
  | some (.cptr cs) => some (.val (.cptr cs))
  | some (.clo (.func f) a b) => some (.val (.clo (.func f) a b))
  | some (.clo (.yield f) a b) => some (.val (.clo (.yield f) a b))
  | _ => none
@[go_sem] theorem plan_nilCheck (x : Operand) : plan P ρ ⟨d, .nilCheck x, ty, p, af, gd⟩ = nilR (ρ x) := rfl
@[go_sem] theorem nilR_ptr (a b c : Nat) : nilR (some (.ptr a b c)) = some (.val (.ptr a b c)) := rfl
@[go_sem] theorem nilR_cptr (cs : List AV) : nilR (some (.cptr cs)) = some (.val (.cptr cs)) := rfl
/-! unsafe. -/
def sdR (v : Option AV) : Option Req :=
  match v with
  | some (.own id ver off n _) => if 0 < n then some (.val (.ptr id ver off)) else none
  | some .nilS => some (.val .nilP)
  | _ => none
@[go_sem] theorem plan_sliceData (a : Operand) (t : TypeId) : plan P ρ ⟨d, .call ⟨.builtin .unsafeSliceData, ⟨[a]⟩, ⟨[t]⟩⟩, ty, p, af, gd⟩ = sdR (ρ a) := rfl
@[go_sem] theorem sdR_own (id ver off n e : Nat) : sdR (some (.own id ver off n e)) = if 0 < n then some (.val (.ptr id ver off)) else none := rfl
@[go_sem] theorem sdR_nilS : sdR (some .nilS) = some (.val .nilP) := rfl
def ustO (P : Program) (t : TypeId) : Option Nat :=
  match P.underlying t with
  | some (.pointer e) => if P.cellsOf e = 1 ∧ tagT e ≠ 0 then some (tagT e) else none
  | _ => none
def ustR (o : Option Nat) (x y : Option AV) : Option Req :=
  match x, y, o with
  | some (.ptr id ver off), some (.sc (.int .i64 n)), some tg => if 0 < n ∧ n < 4611686018427387904 then some (.ustr tg id ver off n.toNat) else none
  | some .nilP, some (.sc (.int .i64 n)), _ => if n = 0 then some (.val (tx [])) else none
  | _, _, _ => none
theorem plan_ustr (a b : Operand) (t t2 : TypeId) {tg : Nat} (h : ustO P t = some tg) : plan P ρ ⟨d, .call ⟨.builtin .unsafeString, ⟨[a, b]⟩, ⟨[t, t2]⟩⟩, ty, p, af, gd⟩ = ustR (some tg) (ρ a) (ρ b) := by
  unfold ustO at h
  split at h
  case h_2 => cases h
  rename_i e ht
  split at h
  case isFalse => cases h
  rename_i hc
  cases h
  show planB P ρ ⟨d, .call ⟨.builtin .unsafeString, ⟨[a, b]⟩, ⟨[t, t2]⟩⟩, ty, p, af, gd⟩ .unsafeString ⟨[a, b]⟩ ⟨[t, t2]⟩ = _
  simp only [planB, ustR, ht]
  cases ρ a with
  | none => rfl
  | some v =>
    cases ρ b with
    | none => cases v <;> rfl
    | some w =>
      cases v <;> cases w <;> try rfl
      · rename_i u; cases u <;> try rfl
        rename_i k n; cases k <;> rfl
      · rename_i u; cases u <;> try rfl
        rename_i k n; cases k <;> try rfl
        simp only [hc.1, hc.2, true_and, ne_eq, not_false_eq_true]
def ustG (o : Option Nat) (x y : Option AV) (g : Option Req) : Option Req :=
  match o with
  | some tg => ustR (some tg) x y
  | none => g
@[go_sem] theorem ustG_some (tg : Nat) (x y : Option AV) (g : Option Req) : ustG (some tg) x y g = ustR (some tg) x y := rfl
@[go_sem] theorem plan_ustG (a b : Operand) (t t2 : TypeId) : plan P ρ ⟨d, .call ⟨.builtin .unsafeString, ⟨[a, b]⟩, ⟨[t, t2]⟩⟩, ty, p, af, gd⟩ = ustG (ustO P t) (ρ a) (ρ b) (same P ρ ⟨d, .call ⟨.builtin .unsafeString, ⟨[a, b]⟩, ⟨[t, t2]⟩⟩, ty, p, af, gd⟩) := by
  cases h : ustO P t with
  | none => rfl
  | some tg => exact plan_ustr a b t t2 h
@[go_sem] theorem srcR_tx (l : List UInt8) : srcR (some (tx l)) = some (.lst l.length (u8L l)) := rfl
@[go_sem] theorem appR_nil0 (tg s : Nat) (cs : List AV) : appR tg s (some .nilS) (some (.lst 0 cs)) = some (.val .nilS) := rfl
@[go_sem] theorem appR_own0 (tg s id ver off len e : Nat) (cs : List AV) : appR tg s (some (.own id ver off len e)) (some (.lst 0 cs)) = some (.val (.own id ver off len e)) := rfl
@[go_sem] theorem ustR_ptr (tg id ver off : Nat) (n : Int) : ustR (some tg) (some (.ptr id ver off)) (some (I n)) = if 0 < n ∧ n < 4611686018427387904 then some (.ustr tg id ver off n.toNat) else none := rfl
@[go_sem] theorem ustR_nil (o : Option Nat) (n : Int) : ustR o (some .nilP) (some (I n)) = if n = 0 then some (.val (tx [])) else none := rfl
@[go_sem] theorem ptrEq_nil_eql (e : TypeId) (x : AV) : ptrEq P .eql (some (.pointer e)) x .nilP = some (.val (.sc (.bool false))) := rfl
@[go_sem] theorem ptrEq_nil_neq (e : TypeId) (x : AV) : ptrEq P .neq (some (.pointer e)) x .nilP = some (.val (.sc (.bool true))) := rfl
theorem info_some (e : TypeId) : (P.info? e).isSome = (szOf P e).isSome := by unfold szOf; cases P.info? e <;> rfl
def sameR (b : Bool) (i v o : Nat) (q : Bool) : Option Req := if b = true then some (.chk 0 i v o 1 (.sc (.bool q))) else none
@[go_sem] theorem sameR_true (i v o : Nat) (q : Bool) : sameR true i v o q = some (.chk 0 i v o 1 (.sc (.bool q))) := rfl
@[go_sem] theorem ptrEq_same_eql (e : TypeId) (i v o : Nat) : ptrEq P .eql (some (.pointer e)) (.ptr i v o) (.ptr i v o) = sameR (szOf P e).isSome i v o true := by
  simp [ptrEq, eqOp, sameR, info_some]
@[go_sem] theorem ptrEq_same_neq (e : TypeId) (i v o : Nat) : ptrEq P .neq (some (.pointer e)) (.ptr i v o) (.ptr i v o) = sameR (szOf P e).isSome i v o false := by
  simp [ptrEq, eqOp, sameR, info_some]
attribute [go_sem] Option.isSome_some true_or or_true
@[go_sem] theorem convR_toU (id ver off : Nat) (t : TypeId) (g : Option Req) : convR P (some (.ptr id ver off)) (some (.pointer t)) (some .unsafePointer) g = toU (szOf P t) id ver off := rfl
@[go_sem] theorem convR_ofU (id ver off : Nat) (u : TypeId) (g : Option Req) : convR P (some (.ptr id ver off)) (some .unsafePointer) (some (.pointer u)) g = ofU (szOf P u) (tagT u) id ver off := rfl
@[go_sem] theorem toU_some (n id ver off : Nat) : toU (some (n + 1)) id ver off = some (.chk 0 id ver off 1 (.ptr id ver off)) := rfl
@[go_sem] theorem ofU_some (n tg id ver off : Nat) : ofU (some (n + 1)) tg id ver off = if tg ≠ 0 ∧ ver < 65536 ∧ off = 0 then some (.chk tg id ver off (n + 1) (.ptr id ver off)) else none := rfl
end
end Go.Proofs.YtcmjidnbbfcbjaaGreatDoor.V
