/- Parts of the proof, joined (ZM1); no condition. -/
import Derived.Test.YtcmjidnbbfcbjaaGreatDoorMap
import Derived.Test.YtcmjidnbbfcbjaaGreatDoorMar
import Derived.Test.YtcmjidnbbfcbjaaGreatDoorMah
/- DeltaPrints, at the top; no condition. -/
namespace Go.Proofs.YtcmjidnbbfcbjaaGreatDoor.V
open Go
theorem FitQ.fitP {l : List Pn} (h : FitQ l) : FitP l :=
  ⟨fun o ho => by have := h.path o ho; omega, fun o ho => by have := h.other o ho; omega, fun o ho => by have := h.data o ho; omega⟩
theorem FitQ.fitO {l : List Pn} (h : FitQ l) : FitO l :=
  ⟨by have := h.len; omega, fun o ho => by have := h.data o ho; omega⟩
theorem prints_top (t : Sl Pn) (s : ByteArray) (hs : s.size ≤ maxLen) (h : FitQ t.l) : WC Tryz.prog L1.pol ⟨[], 0⟩ (.func 7) [slf opC t, tx s.data.toList] [] fun v m' => v = .sc (.bool true) ∧ m' = [] :=
  L1.prints_law t s.data.toList h.len h.fitP h.fitO (fun B hB => by cases hB)
end Go.Proofs.YtcmjidnbbfcbjaaGreatDoor.V
