/- Parts of the proof, joined (V48); no condition. -/
import Derived.Test.YtcmjidnbbfcbjaaGreatDoorMaj
import Derived.Test.YtcmjidnbbfcbjaaGreatDoorMae
import Derived.Lib.Bytealg
/- More functions without a body: counts and places of a byte in a text; no condition. -/
namespace Go.Proofs.YtcmjidnbbfcbjaaGreatDoor.V
open Go
set_option linter.unusedVariables false
set_option linter.unusedSimpArgs false
noncomputable section
variable {P : Program} {pol : Pol}
/-- A text and a byte: a number of theirs. -/
def dNum (g : List UInt8 → UInt8 → Int) : DirF := fun _ args m =>
  match args with
  | [.sc (.string s), .sc (.int .u8 c)] => fInt (g s.data.toList c.toNat.toUInt8) fun n => some (.sc (.int .i64 n), m)
  | _ => none
theorem fInt_id {β : Type} (n : Int) (k : Int → β) : fInt n k = k n := by
  cases n <;> simp only [fInt, fNat_eq]
theorem dNum_inv {g : List UInt8 → UInt8 → Int} {en : Env} {args : List AV} {m m' : Mem} {v : AV} (h : dNum g en args m = some (v, m')) : ∃ s c, args = [.sc (.string s), .sc (.int .u8 c)] ∧ v = .sc (.int .i64 (g s.data.toList c.toNat.toUInt8)) ∧ m' = m := by
  unfold dNum at h
  split at h
  · rw [fInt_id] at h
    cases h
    exact ⟨_, _, rfl, rfl, rfl⟩
  · cases h
theorem dNum_keep (g : List UInt8 → UInt8 → Int) : DirKeep (dNum g) := by
  intro en args m v m' h
  obtain ⟨_, _, _, _, rfl⟩ := dNum_inv h
  exact Keep.refl _ _
theorem dNum_ok {f : FuncId} {fn : Func} {g : List UInt8 → UInt8 → Int} {x : Array Value → Sem Value} (hf : P.funcs[f]? = some fn) (hb : fn.body = none) (hn : (fn.name == "runtime.NumGoroutine") = false) (hx : Extern.findNext fn = none) (he : Extern.find fn = some x)
    (hr : ∀ (s : ByteArray) (c : Int) (w : World), (x #[.string s, .int .u8 c]).run P w = .ok (.int .i64 (g s.data.toList c.toNat.toUInt8)) w) (ha : pol.alo f = false) : DirOk P pol f (dNum g) := by
  refine ⟨fun en args m v m' h E hm hM us hus => .inr ?_, fun _ en args m v m' h => ?_, fun h => by rw [ha] at h; cases h⟩
  · obtain ⟨s, c, rfl, rfl, rfl⟩ := dNum_inv h
    simp only [RepL, Rep] at hus
    obtain ⟨u, us', rfl, ⟨rfl, _⟩, u2, us2, rfl, ⟨rfl, _⟩, rfl⟩ := hus
    exact ⟨E, .int .i64 (g s.data.toList c.toNat.toUInt8), callFunc_ext hf hb hn hx he (hr s c E.w), hm, hM, Ext.refl E, by simp only [Rep]; exact ⟨trivial, rfl⟩⟩
  · obtain ⟨_, _, _, _, rfl⟩ := dNum_inv h
    rfl
def countI (l : List UInt8) (c : UInt8) : Int := (Lib.countByte l c : Nat)
end
end Go.Proofs.YtcmjidnbbfcbjaaGreatDoor.V
