/- Parts of the proof, joined (V47); no condition. -/
import Derived.Test.YtcmjidnbbfcbjaaGreatDoorMah
/- Capacities; append of zeros; no condition. -/
namespace Go.Proofs.YtcmjidnbbfcbjaaGreatDoor.V
open Go
set_option linter.unusedVariables false
set_option linter.unusedSimpArgs false
set_option maxRecDepth 100000
set_option maxHeartbeats 4000000
noncomputable section
variable {en : Env} {m : Mem}
variable {P : Program} {pol : Pol} {ρ : Operand → Option AV} {d : Option Tmp} {ty : TypeId} {p : String} {af : Array Edge} {gd : Option (Nat × Bool)}
def capR (v : Option AV) (dt : Option TypeDesc) (g : Option Req) : Option Req :=
  match v, dt with
  | some (.lst n _ true), some (.slice _) => some (.val (.sc (.int .i64 n)))
  | some .nilS, some (.slice _) => some (.val (.sc (.int .i64 0)))
  | _, _ => g
@[go_sem] theorem plan_cap (a : Operand) (t : TypeId) : plan P ρ ⟨d, .call ⟨.builtin .cap, ⟨[a]⟩, ⟨[t]⟩⟩, ty, p, af, gd⟩ = capR (ρ a) (P.underlying t) (generic P ρ ⟨d, .call ⟨.builtin .cap, ⟨[a]⟩, ⟨[t]⟩⟩, ty, p, af, gd⟩) := rfl
@[go_sem] theorem capR_nil (e : TypeId) (g : Option Req) : capR (some .nilS) (some (.slice e)) g = some (.val (I 0)) := rfl
/-- 'append' of so many zeros. -/
def appZ (P : Program) (t t1 : TypeId) : Option (Nat × Nat × AV) :=
  match elemOfS P t, P.underlying t1 with
  | some e, some (.int _) => match P.info? e, zeroOf P e with
    | some ie, some z => if z.cells.length ≠ ie.size || ie.bytes > 1024 then none else some (tagT e, ie.size, z)
    | _, _ => none
  | _, _ => none
def mkaR (tg s : Nat) (z : AV) (a x : Option AV) : Option Req :=
  match x with
  | some (.sc (.int .i64 n)) => if 0 ≤ n ∧ n ≤ 4294967296 then appR tg s a (some (.lst n.toNat (List.replicate n.toNat z.cells).flatten)) else none
  | _ => none
theorem plan_appMk {a x : Operand} {t t1 : TypeId} {tg s : Nat} {z : AV} (h : appZ P t t1 = some (tg, s, z)) :
    plan P ρ ⟨d, .call ⟨.builtin .append, ⟨[a, x]⟩, ⟨[t, t1]⟩⟩, ty, p, af, gd⟩ = mkaR tg s z (ρ a) (ρ x) := by
  show planB P ρ ⟨d, .call ⟨.builtin .append, ⟨[a, x]⟩, ⟨[t, t1]⟩⟩, ty, p, af, gd⟩ .append ⟨[a, x]⟩ ⟨[t, t1]⟩ = _
  unfold appZ at h
  split at h
  case h_2 => cases h
  rename_i e k he hd
  split at h
  case h_2 => cases h
  rename_i ie z' hi hz
  split at h
  · cases h
  rename_i hc
  cases h
  simp only [planB]
  have e0 : ((⟨[t, t1]⟩ : Array TypeId)[0]?).bind (elemOfS P) = some e := he
  have e1 : ((⟨[t, t1]⟩ : Array TypeId)[1]?).bind P.underlying = some (.int k) := hd
  rw [e0, e1]
  simp only [hi, hz, appSrc, if_neg hc]
  unfold mkaR
  cases hx : ρ x with
  | none => rfl
  | some v =>
    cases v with
    | sc u =>
      cases u with
      | int k' n =>
        cases k' with
        | i64 =>
          by_cases hn : 0 ≤ n ∧ n ≤ 4294967296
          · simp only [if_pos hn]
            unfold appR
            cases ρ a with
            | none => rfl
            | some w => cases w <;> rfl
          · simp only [if_neg hn]
        | _ => rfl
      | _ => rfl
    | _ => rfl
@[go_sem] theorem mkaR_nat (tg s : Nat) (z : AV) (a : Option AV) (n : Int) : mkaR tg s z a (some (.sc (.int .i64 n))) = if 0 ≤ n ∧ n ≤ 4294967296 then appR tg s a (some (.lst n.toNat (List.replicate n.toNat z.cells).flatten)) else none := rfl
@[go_sem] theorem slR_nil0 (k : IntKind) (s : Nat) (g : Option Req) (an : Option (Nat × Nat)) : slR g an (some .nilS) (some s) (some none) (some (some (k, (0 : Int)))) = some (.val .nilS) := rfl
theorem slR_own0 (id ver n w : Nat) (k : IntKind) (g : Option Req) (an : Option (Nat × Nat)) : slR g an (some (.own id ver 0 n w)) (some w) (some none) (some (some (k, (0 : Int)))) = some (.val (.own id ver 0 0 w)) := by
  simp [slR, bounds]
theorem zerosL (n w : Nat) (c : List AV) (hc : c.length = w) : (List.replicate n c).flatten.length = n * w := by
  rw [List.length_flatten, List.map_replicate, hc, List.sum_replicate_nat]
/-- 'copy'. -/
def cpyR (s : Option Nat) (a : Option AV) (x : Option Src) : Option Req :=
  match s, a, x with
  | some s, some (.own id ver off len e'), some src => if e' = s ∧ 0 < s then some (.copy id ver off len s src) else none
  | some _, some .nilS, some _ => some (.val (.sc (.int .i64 0)))
  | _, _, _ => none
@[go_sem] theorem plan_copy (a x : Operand) (t u : TypeId) : plan P ρ ⟨d, .call ⟨.builtin .copy, ⟨[a, x]⟩, ⟨[t, u]⟩⟩, ty, p, af, gd⟩ = cpyR (elemSz P t) (ρ a) ((ρ x).bind srcOf) := by
  have e : plan P ρ ⟨d, .call ⟨.builtin .copy, ⟨[a, x]⟩, ⟨[t, u]⟩⟩, ty, p, af, gd⟩ = planB P ρ ⟨d, .call ⟨.builtin .copy, ⟨[a, x]⟩, ⟨[t, u]⟩⟩, ty, p, af, gd⟩ .copy ⟨[a, x]⟩ ⟨[t, u]⟩ := rfl
  rw [e]
  unfold planB elemSz
  have h0 : (#[t, u] : Array TypeId)[0]? = some t := rfl
  simp only [h0, Option.bind_some]
  cases elemOfS P t with
  | none => rfl
  | some e => rfl
@[go_sem] theorem cpyR_own (s : Nat) (id ver off len : Nat) (x : Src) : cpyR (some s) (some (.own id ver off len s)) (some x) = if 0 < s then some (.copy id ver off len s x) else none := by simp [cpyR]
@[go_sem] theorem srcOf_nilS : srcOf .nilS = some (.lst 0 []) := rfl
end
end Go.Proofs.YtcmjidnbbfcbjaaGreatDoor.V
