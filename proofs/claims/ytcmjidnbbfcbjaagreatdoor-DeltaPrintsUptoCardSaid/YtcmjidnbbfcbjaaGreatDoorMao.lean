/- Parts of the proof, joined (Y1, Z7); no condition. -/
import Derived.Test.YtcmjidnbbfcbjaaGreatDoorProg
import Derived.Test.YtcmjidnbbfcbjaaGreatDoorMal
import Derived.Shelf.Strconv.Itoa3
import Derived.Shelf.Strconv.AtoiAll
import Derived.Test.YtcmjidnbbfcbjaaGreatDoorMam
import Derived.Test.YtcmjidnbbfcbjaaGreatDoorMah
/- Numbers and texts: the library as the kit knows it, in this seat; no condition. -/
namespace Go.Proofs.YtcmjidnbbfcbjaaGreatDoor.V
open Go Go.Shelf Go.RowKit
set_option maxRecDepth 100000
def laysItoa_ren : Go.Shelf.Ren := ⟨fun | 171 => 82 | 243 => 117 | 246 => 152 | 283 => 173 | 284 => 174 | 285 => 175 | 286 => 176 | 129 => 151 | 317 => 188 | 318 => 189 | 319 => 190 | 320 => 191 | 337 => 196 | 338 => 197 | n => n, fun | 3 => 3 | 9 => 9 | 2 => 2 | 4 => 4 | 171 => 186 | 0 => 0 | 53 => 169 | 37 => 83 | 5 => 5 | 173 => 188 | 212 => 202 | 51 => 167 | 20 => 20 | 213 => 203 | 46 => 107 | 232 => 214 | 233 => 215 | n => n, fun | 17 => 3 | 18 => 6 | 19 => 7 | n => n⟩
theorem laysItoa : Go.Proofs.LaysM.n171 Tryz.prog laysItoa_ren where
  mixed := by kernel_rfl
  f129 := Tryz.func151.trans (congrArg some (by kernel_rfl))
  f171 := Tryz.func82.trans (congrArg some (by kernel_rfl))
  f243 := Tryz.func117.trans (congrArg some (by kernel_rfl))
  f246 := Tryz.func152.trans (congrArg some (by kernel_rfl))
  f283 := Tryz.func173.trans (congrArg some (by kernel_rfl))
  f284 := Tryz.func174.trans (congrArg some (by kernel_rfl))
  f285 := Tryz.func175.trans (congrArg some (by kernel_rfl))
  f286 := Tryz.func176.trans (congrArg some (by kernel_rfl))
  f317 := Tryz.func188.trans (congrArg some (by kernel_rfl))
  f318 := Tryz.func189.trans (congrArg some (by kernel_rfl))
  f319 := Tryz.func190.trans (congrArg some (by kernel_rfl))
  f320 := Tryz.func191.trans (congrArg some (by kernel_rfl))
  f337 := Tryz.func196.trans (congrArg some (by kernel_rfl))
  f338 := Tryz.func197.trans (congrArg some (by kernel_rfl))
  t0 := Tryz.underlying0
  a0 := Tryz.isAgg0
  z0 := Tryz.sizeOf0
  v0 := Tryz.zeroValue0
  t2 := Tryz.underlying2
  a2 := Tryz.isAgg2
  z2 := Tryz.sizeOf2
  v2 := Tryz.zeroValue2
  t3 := Tryz.underlying3
  a3 := Tryz.isAgg3
  z3 := Tryz.sizeOf3
  v3 := Tryz.zeroValue3
  t4 := Tryz.underlying4
  a4 := Tryz.isAgg4
  z4 := Tryz.sizeOf4
  v4 := Tryz.zeroValue4
  t5 := Tryz.underlying5
  a5 := Tryz.isAgg5
  z5 := Tryz.sizeOf5
  v5 := Tryz.zeroValue5
  t9 := Tryz.underlying9
  a9 := Tryz.isAgg9
  z9 := Tryz.sizeOf9
  v9 := Tryz.zeroValue9
  t20 := Tryz.underlying20
  a20 := Tryz.isAgg20
  z20 := Tryz.sizeOf20
  v20 := Tryz.zeroValue20
  t37 := Tryz.underlying83
  a37 := Tryz.isAgg83
  z37 := Tryz.sizeOf83
  v37 := Tryz.zeroValue83
  t46 := Tryz.underlying107
  a46 := Tryz.isAgg107
  z46 := Tryz.sizeOf107
  v46 := Tryz.zeroValue107
  t51 := Tryz.underlying167
  a51 := Tryz.isAgg167
  z51 := Tryz.sizeOf167
  v51 := Tryz.zeroValue167
  t53 := Tryz.underlying169
  a53 := Tryz.isAgg169
  z53 := Tryz.sizeOf169
  v53 := Tryz.zeroValue169
  t171 := Tryz.underlying186
  a171 := Tryz.isAgg186
  z171 := Tryz.sizeOf186
  v171 := Tryz.zeroValue186
  t173 := Tryz.underlying188
  a173 := Tryz.isAgg188
  z173 := Tryz.sizeOf188
  v173 := Tryz.zeroValue188
  t212 := Tryz.underlying202
  a212 := Tryz.isAgg202
  z212 := Tryz.sizeOf202
  v212 := Tryz.zeroValue202
  t213 := Tryz.underlying203
  a213 := Tryz.isAgg203
  z213 := Tryz.sizeOf203
  t232 := Tryz.underlying214
  a232 := Tryz.isAgg214
  z232 := Tryz.sizeOf214
  v232 := Tryz.zeroValue214
  t233 := Tryz.underlying215
  a233 := Tryz.isAgg215
  z233 := Tryz.sizeOf215
  v233 := Tryz.zeroValue215
  g17 := by kernel_rfl
  g18 := by kernel_rfl
  g19 := by kernel_rfl
  i0 := by kernel_rfl
  i2 := by kernel_rfl
  i3 := by kernel_rfl
  i4 := by kernel_rfl
  i5 := by kernel_rfl
  i9 := by kernel_rfl
  i20 := by kernel_rfl
  i37 := by kernel_rfl
  i46 := by kernel_rfl
  i51 := by kernel_rfl
  i53 := by kernel_rfl
  i171 := by kernel_rfl
  i173 := by kernel_rfl
  i212 := by kernel_rfl
  i232 := by kernel_rfl
  i233 := by kernel_rfl
  m17 := by kernel_rfl
  m18 := by kernel_rfl
  m19 := by kernel_rfl
def laysAtoi_ren : Go.Shelf.Ren := ⟨fun | 172 => 89 | 244 => 123 | 245 => 124 | 247 => 158 | 279 => 159 | 280 => 160 | 281 => 161 | 282 => 162 | 287 => 183 | 316 => 184 | 171 => 82 | 205 => 185 | 321 => 194 | 322 => 195 | 243 => 117 | 246 => 152 | 283 => 173 | 284 => 174 | 285 => 175 | 286 => 176 | 129 => 151 | 317 => 188 | 318 => 189 | 319 => 190 | 320 => 191 | 337 => 196 | 338 => 197 | n => n, fun | 9 => 9 | 3 => 3 | 75 => 88 | 76 => 89 | 4 => 4 | 5 => 5 | 167 => 173 | 37 => 83 | 0 => 0 | 85 => 174 | 2 => 2 | 168 => 176 | 53 => 169 | 175 => 192 | 46 => 107 | 210 => 195 | 127 => 118 | 145 => 213 | 143 => 211 | 21 => 21 | 171 => 186 | 173 => 188 | 212 => 202 | 51 => 167 | 20 => 20 | 213 => 203 | 232 => 214 | 233 => 215 | 80 => 93 | n => n, fun | 15 => 1 | 16 => 2 | 17 => 3 | 18 => 6 | 19 => 7 | n => n⟩
theorem laysAtoi : Go.Proofs.LaysC.n172 Tryz.prog laysAtoi_ren where
  mixed := by kernel_rfl
  f129 := Tryz.func151.trans (congrArg some (by kernel_rfl))
  f171 := Tryz.func82.trans (congrArg some (by kernel_rfl))
  f172 := Tryz.func89.trans (congrArg some (by kernel_rfl))
  f205 := Tryz.func185.trans (congrArg some (by kernel_rfl))
  f243 := Tryz.func117.trans (congrArg some (by kernel_rfl))
  f244 := Tryz.func123.trans (congrArg some (by kernel_rfl))
  f245 := Tryz.func124.trans (congrArg some (by kernel_rfl))
  f246 := Tryz.func152.trans (congrArg some (by kernel_rfl))
  f247 := Tryz.func158.trans (congrArg some (by kernel_rfl))
  f279 := Tryz.func159.trans (congrArg some (by kernel_rfl))
  f280 := Tryz.func160.trans (congrArg some (by kernel_rfl))
  f281 := Tryz.func161.trans (congrArg some (by kernel_rfl))
  f282 := Tryz.func162.trans (congrArg some (by kernel_rfl))
  f283 := Tryz.func173.trans (congrArg some (by kernel_rfl))
  f284 := Tryz.func174.trans (congrArg some (by kernel_rfl))
  f285 := Tryz.func175.trans (congrArg some (by kernel_rfl))
  f286 := Tryz.func176.trans (congrArg some (by kernel_rfl))
  f287 := Tryz.func183.trans (congrArg some (by kernel_rfl))
  f316 := Tryz.func184.trans (congrArg some (by kernel_rfl))
  f317 := Tryz.func188.trans (congrArg some (by kernel_rfl))
  f318 := Tryz.func189.trans (congrArg some (by kernel_rfl))
  f319 := Tryz.func190.trans (congrArg some (by kernel_rfl))
  f320 := Tryz.func191.trans (congrArg some (by kernel_rfl))
  f321 := Tryz.func194.trans (congrArg some (by kernel_rfl))
  f322 := Tryz.func195.trans (congrArg some (by kernel_rfl))
  f337 := Tryz.func196.trans (congrArg some (by kernel_rfl))
  f338 := Tryz.func197.trans (congrArg some (by kernel_rfl))
  t0 := Tryz.underlying0
  a0 := Tryz.isAgg0
  z0 := Tryz.sizeOf0
  v0 := Tryz.zeroValue0
  t2 := Tryz.underlying2
  a2 := Tryz.isAgg2
  z2 := Tryz.sizeOf2
  v2 := Tryz.zeroValue2
  t3 := Tryz.underlying3
  a3 := Tryz.isAgg3
  z3 := Tryz.sizeOf3
  v3 := Tryz.zeroValue3
  t4 := Tryz.underlying4
  a4 := Tryz.isAgg4
  z4 := Tryz.sizeOf4
  v4 := Tryz.zeroValue4
  t5 := Tryz.underlying5
  a5 := Tryz.isAgg5
  z5 := Tryz.sizeOf5
  v5 := Tryz.zeroValue5
  t9 := Tryz.underlying9
  a9 := Tryz.isAgg9
  z9 := Tryz.sizeOf9
  v9 := Tryz.zeroValue9
  t20 := Tryz.underlying20
  a20 := Tryz.isAgg20
  z20 := Tryz.sizeOf20
  v20 := Tryz.zeroValue20
  t21 := Tryz.underlying21
  a21 := Tryz.isAgg21
  z21 := Tryz.sizeOf21
  v21 := Tryz.zeroValue21
  t37 := Tryz.underlying83
  a37 := Tryz.isAgg83
  z37 := Tryz.sizeOf83
  v37 := Tryz.zeroValue83
  t46 := Tryz.underlying107
  a46 := Tryz.isAgg107
  z46 := Tryz.sizeOf107
  v46 := Tryz.zeroValue107
  t51 := Tryz.underlying167
  a51 := Tryz.isAgg167
  z51 := Tryz.sizeOf167
  v51 := Tryz.zeroValue167
  t53 := Tryz.underlying169
  a53 := Tryz.isAgg169
  z53 := Tryz.sizeOf169
  v53 := Tryz.zeroValue169
  t75 := Tryz.underlying88
  a75 := Tryz.isAgg88
  z75 := Tryz.sizeOf88
  v75 := Tryz.zeroValue88
  t76 := Tryz.underlying89
  a76 := Tryz.isAgg89
  z76 := Tryz.sizeOf89
  v76 := Tryz.zeroValue89
  t85 := Tryz.underlying174
  a85 := Tryz.isAgg174
  z85 := Tryz.sizeOf174
  v85 := Tryz.zeroValue174
  t127 := Tryz.underlying118
  a127 := Tryz.isAgg118
  z127 := Tryz.sizeOf118
  v127 := Tryz.zeroValue118
  t143 := Tryz.underlying211
  a143 := Tryz.isAgg211
  z143 := Tryz.sizeOf211
  v143 := Tryz.zeroValue211
  t145 := Tryz.underlying213
  a145 := Tryz.isAgg213
  z145 := Tryz.sizeOf213
  v145 := Tryz.zeroValue213
  t167 := Tryz.underlying173
  a167 := Tryz.isAgg173
  z167 := Tryz.sizeOf173
  v167 := Tryz.zeroValue173
  t168 := Tryz.underlying176
  a168 := Tryz.isAgg176
  z168 := Tryz.sizeOf176
  v168 := Tryz.zeroValue176
  t171 := Tryz.underlying186
  a171 := Tryz.isAgg186
  z171 := Tryz.sizeOf186
  v171 := Tryz.zeroValue186
  t173 := Tryz.underlying188
  a173 := Tryz.isAgg188
  z173 := Tryz.sizeOf188
  v173 := Tryz.zeroValue188
  t175 := Tryz.underlying192
  a175 := Tryz.isAgg192
  z175 := Tryz.sizeOf192
  v175 := Tryz.zeroValue192
  t210 := Tryz.underlying195
  a210 := Tryz.isAgg195
  z210 := Tryz.sizeOf195
  v210 := Tryz.zeroValue195
  t212 := Tryz.underlying202
  a212 := Tryz.isAgg202
  z212 := Tryz.sizeOf202
  v212 := Tryz.zeroValue202
  t213 := Tryz.underlying203
  a213 := Tryz.isAgg203
  z213 := Tryz.sizeOf203
  t232 := Tryz.underlying214
  a232 := Tryz.isAgg214
  z232 := Tryz.sizeOf214
  v232 := Tryz.zeroValue214
  t233 := Tryz.underlying215
  a233 := Tryz.isAgg215
  z233 := Tryz.sizeOf215
  v233 := Tryz.zeroValue215
  g15 := by kernel_rfl
  g16 := by kernel_rfl
  g17 := by kernel_rfl
  g18 := by kernel_rfl
  g19 := by kernel_rfl
  t80 := Tryz.underlying93
  a80 := Tryz.isAgg93
  z80 := Tryz.sizeOf93
  v80 := Tryz.zeroValue93
  i0 := by kernel_rfl
  i2 := by kernel_rfl
  i3 := by kernel_rfl
  i4 := by kernel_rfl
  i5 := by kernel_rfl
  i9 := by kernel_rfl
  i20 := by kernel_rfl
  i21 := by kernel_rfl
  i37 := by kernel_rfl
  i46 := by kernel_rfl
  i51 := by kernel_rfl
  i53 := by kernel_rfl
  i75 := by kernel_rfl
  i76 := by kernel_rfl
  i80 := by kernel_rfl
  i85 := by kernel_rfl
  i127 := by kernel_rfl
  i143 := by kernel_rfl
  i145 := by kernel_rfl
  i167 := by kernel_rfl
  i168 := by kernel_rfl
  i171 := by kernel_rfl
  i173 := by kernel_rfl
  i175 := by kernel_rfl
  i210 := by kernel_rfl
  i212 := by kernel_rfl
  i232 := by kernel_rfl
  i233 := by kernel_rfl
  m15 := by kernel_rfl
  m16 := by kernel_rfl
  m17 := by kernel_rfl
  m18 := by kernel_rfl
  m19 := by kernel_rfl
  c0 := by kernel_rfl
  c2 := by kernel_rfl
  c3 := by kernel_rfl
  c4 := by kernel_rfl
  c5 := by kernel_rfl
  c9 := by kernel_rfl
  c20 := by kernel_rfl
  c21 := by kernel_rfl
  c37 := by kernel_rfl
  c46 := by kernel_rfl
  c51 := by kernel_rfl
  c53 := by kernel_rfl
  c75 := by kernel_rfl
  c76 := by kernel_rfl
  c80 := by kernel_rfl
  c85 := by kernel_rfl
  c127 := by kernel_rfl
  c143 := by kernel_rfl
  c145 := by kernel_rfl
  c167 := by kernel_rfl
  c168 := by kernel_rfl
  c171 := by kernel_rfl
  c173 := by kernel_rfl
  c175 := by kernel_rfl
  c210 := by kernel_rfl
  c212 := by kernel_rfl
  c213 := by kernel_rfl
  c232 := by kernel_rfl
  c233 := by kernel_rfl
noncomputable section
set_option linter.unusedVariables false
variable {P : Program} {pol : Pol} {ρ : Ren}
theorem dItoa_ok (L : LaysM.n171 P ρ) {g : Nat} (hn : P.globalNamed "internal/strconv.uint64pow10" = some g) (hg : pol.glob g = some (Lib.pow10Tab.map fun z => .sc (.int .u64 z))) (ha : pol.alo (ρ.f 171) = false) : DirOk P pol (ρ.f 171) dItoa := by
  refine dir_calls (enters_of L.f171 (by kernel_rfl) rfl) (fun en args m v m' h E hm hM us hus => ?_) (fun _ en args m v m' h => ?_) ha
  · obtain ⟨n, rfl, h0, h1, rfl, rfl⟩ := dItoa_inv h
    simp only [RepL, Rep] at hus
    obtain ⟨u, us', rfl, ⟨rfl, _⟩, rfl⟩ := hus
    refine (Any.strconv_Itoa L n h0 h1 E.w (glob_tab hM hn (by simp [Lib.pow10Tab]) hg)).mono ?_
    rintro e w' ⟨rfl, k, os, rfl⟩
    have hb := grow_below E.w k os
    exact ⟨{ E with w := Sort.grow (E.w.drewN k) os }, _, rfl, rfl, hm, below_mi hM hb, below_ext hM hb, by simp [Rep, scalar]⟩
  · obtain ⟨_, _, _, _, _, rfl⟩ := dItoa_inv h
    rfl
theorem dAtoi_ok (L : LaysC.n172 P ρ) {es er : AV} (hs : pol.glob (ρ.g 15) = some [es]) (hr : pol.glob (ρ.g 16) = some [er]) (hes : ∃ t v, es = .ifc t v) (her : ∃ t v, er = .ifc t v) (ha : pol.alo (ρ.f 172) = false) : DirOk P pol (ρ.f 172) (dAtoi (ρ.t 168) es er) := by
  refine dir_calls (enters_of L.f172 (by kernel_rfl) rfl) (fun en args m v m' h E hm hM us hus => ?_) (fun _ en args m v m' h => ?_) ha
  · obtain ⟨s, rfl, hsz, rfl, hc⟩ := dAtoi_inv h
    simp only [RepL, Rep] at hus
    obtain ⟨u, us', rfl, ⟨rfl, _⟩, rfl⟩ := hus
    obtain ⟨u1, h1, r1⟩ := glob_cell hM hs
    obtain ⟨u2, h2, r2⟩ := glob_cell hM hr
    obtain ⟨t1, v1, rfl⟩ := hes
    obtain ⟨t2, v2, rfl⟩ := her
    have i1 : ∃ te pe, u1 = .iface te pe := by simp only [Rep] at r1; obtain ⟨x, rfl, _⟩ := r1; exact ⟨_, _, rfl⟩
    have i2 : ∃ te pe, u2 = .iface te pe := by simp only [Rep] at r2; obtain ⟨x, rfl, _⟩ := r2; exact ⟨_, _, rfl⟩
    rcases hc with ⟨n, hn, rfl⟩ | ⟨hn, rfl⟩ | ⟨hn, rfl⟩
    · refine (Any.strconv_Atoi_ok L s (by omega) n hn E.w).mono ?_
      rintro e w' ⟨rfl, hw⟩
      have hb : Below E.w.heap.size E.w w' := by
        rcases hw with rfl | ⟨t, rfl⟩
        · exact Below.refl _ _
        · exact Lib.bytesWorld_below _ _ _
      exact ⟨{ E with w := w' }, _, rfl, rfl, hm, below_mi hM hb, below_ext hM hb, by simp only [Rep, RepL]; exact ⟨[_, _], rfl, _, _, rfl, ⟨rfl, rfl⟩, _, _, rfl, rfl, rfl⟩⟩
    · refine (Any.strconv_Atoi_syntax L s hsz hn u1 E.w h1 (.inr i1)).mono ?_
      rintro e w' ⟨N, rfl, hN, hc, hb⟩
      exact ⟨{ E with w := w' }, _, rfl, rfl, hm, below_mi hM hb, below_ext hM hb, numErr_rep hM hb rfl hN hc r1⟩
    · refine (Any.strconv_Atoi_range L s hsz hn u2 E.w h2 (.inr i2)).mono ?_
      rintro e w' ⟨N, rfl, hN, hc, hb⟩
      exact ⟨{ E with w := w' }, _, rfl, rfl, hm, below_mi hM hb, below_ext hM hb, numErr_rep hM hb rfl hN hc r2⟩
  · obtain ⟨_, _, _, rfl, _⟩ := dAtoi_inv h
    rfl
end
end Go.Proofs.YtcmjidnbbfcbjaaGreatDoor.V
/- An operation's line; no condition. -/
namespace Go.Proofs.YtcmjidnbbfcbjaaGreatDoor.V
open Go
set_option linter.unusedVariables false
set_option linter.unusedSimpArgs false
set_option maxRecDepth 100000
set_option maxHeartbeats 4000000
noncomputable section
variable {en : Env} {m : Mem}
theorem natL_dec (n : Nat) : natL n = Lib.decDigits n := by
  induction n using Nat.strongRecOn with
  | ind n ih =>
    unfold natL Lib.decDigits
    split
    · rfl
    · rw [ih _ (by omega)]
theorem itoaL_lib (n : Int) : itoaL n = Lib.itoa n := by
  unfold itoaL Lib.itoa
  rw [natL_dec]
  split
  · rfl
  · congr 1; omega
theorem itoa_eq (n : Int) (h : -9223372036854775808 ≤ n ∧ n ≤ 9223372036854775807) (Q : AV → Mem → Prop) : WC Tryz.prog pol en (.func 82) [I n] m Q = Q (tx (itoaL n)) m := by
  refine WC.rule (v0 := tx (itoaL n)) (m0 := m) ?_ Q
  refine wcallD (d := dItoa) rfl ?_ ⟨rfl, rfl⟩
  simp only [dItoa]
  rw [if_pos h, fInt_id, spine_eq, itoaK_eq h.1 h.2, itoaL_lib]
theorem frz_of {m : Mem} {b d : Nat} {v u : AV} (h : frzQ m b d v fun x => x = u) : frz m b d v = some u := by
  obtain ⟨w, hw, rfl⟩ := h
  exact hw
theorem join_own {id ver : Nat} (l : List (List UInt8)) (hm : m[id]? = some (.cells ver (l.map tx))) (h2 : 2 ≤ l.length) (hx : (joinL 32 l).length ≤ 1073741824) (Q : AV → Mem → Prop) : WC Tryz.prog pol en (.func 83) [.own id ver 0 l.length 1, tx [32]] m Q = Q (tx (joinL 32 l)) m :=
  (join_ok _ ⟨false, false, l⟩ (frz_of (by rw [show frzDepth = 6 + 2 from rfl, frzQ_own clean_tx tx_ifc l hm (Nat.zero_le _)])) h2 hx).rule Q
theorem join_lst (l : List (List UInt8)) (h2 : 2 ≤ l.length) (hx : (joinL 32 l).length ≤ 1073741824) (Q : AV → Mem → Prop) : WC Tryz.prog pol en (.func 83) [.lst l.length (l.map tx) true, tx [32]] m Q = Q (tx (joinL 32 l)) m :=
  (join_ok _ ⟨false, true, l⟩ (frz_of (by
    rw [show frzDepth = 7 + 1 from rfl, show AV.lst l.length (l.map tx) true = sl tx ⟨false, true, l⟩ from rfl, frzQ_sl clean_tx])) h2 hx).rule Q
theorem natL_len1 (n : Nat) : (natL n).length ≤ n + 1 := by
  induction n using Nat.strongRecOn with
  | ind n ih =>
    unfold natL
    split
    · simp
    · rw [List.length_append, List.length_singleton]
      have := ih (n / 10) (by omega)
      omega
theorem quote_len1 (s : List UInt8) : (quoteL s).length ≤ 3 * s.length + 2 := by
  have h : ∀ s : List UInt8, (qencL s).length ≤ 3 * s.length := by
    intro s
    induction s with
    | nil => simp [qencL]
    | cons c s ih =>
      show (encB c ++ qencL s).length ≤ _
      have : (encB c).length ≤ 3 := by unfold encB; split <;> simp
      rw [List.length_append, List.length_cons]; omega
  have := h s
  simp [quoteL]; omega
theorem line_len {o : Pn} (hr : rightOpB o = true) (hp : o.path.length ≤ 1100000) (hq : o.other.length ≤ 1100000) (hd : o.data.length ≤ 1100000) : (lineL o).length ≤ 6000000 := by
  have hw : (wordL o.kind).length ≤ 6 := by
    unfold wordL
    repeat' split
    all_goals simp
  have hj := join_len 32 (l := fieldsL o) (by simp [fieldsL])
  have e : lineL o = joinL 32 (fieldsL o) := rfl
  have hql := quote_len1 o.data
  rw [e]
  by_cases h36 : o.kind = 3 ∨ o.kind = 6
  · have e2 : fieldsL o = [wordL o.kind, o.path, o.other] := by simp only [fieldsL, if_pos h36]
    rw [e2] at hj ⊢
    simp [sumL] at hj; omega
  · by_cases h7 : o.kind = 7
    · have e2 : fieldsL o = [wordL o.kind, o.path, itoaL o.off, quoteL o.data] := by simp only [fieldsL, if_neg h36, if_pos h7]
      simp only [rightOpB, restB, if_neg h36, if_pos h7, Bool.and_eq_true, decide_eq_true_eq] at hr
      have hi : (itoaL o.off).length ≤ 300 := by
        have := natL_len1 o.off.natAbs
        rw [itoaL, if_neg (by omega)]; omega
      rw [e2] at hj ⊢
      simp [sumL] at hj; omega
    · have e2 : fieldsL o = [wordL o.kind, o.path] := by simp only [fieldsL, if_neg h36, if_neg h7]
      rw [e2] at hj ⊢
      simp [sumL] at hj; omega
theorem line_ok (o : Pn) (hr : rightOpB o = true) (hp : o.path.length ≤ 1100000) (hq : o.other.length ≤ 1100000) (hd : o.data.length ≤ 1100000) (hf : Fits en m.length) : WC Tryz.prog pol en (.func 53) [.agg (opC o)] m fun v m' => v = tx (lineL o) ∧ m' = m := by
  have h1 := fun (en : Env) (m : Mem) Q (hf : Fits en m.length) => (words_ok (m := m) (en := en) o.kind hf).rule Q
  have h2 := fun (en : Env) (m : Mem) Q (hf : Fits en m.length) => (quote_ok (m := m) (en := en) o.data (by omega) hf).rule Q
  have hll := line_len hr hp hq hd
  have e : lineL o = joinL 32 (fieldsL o) := rfl
  have hr7 : o.kind = 7 → 0 ≤ o.off ∧ o.off ≤ 256 := fun h => by
    simp only [rightOpB, restB, h] at hr; simp at hr; omega
  have hne : fieldsL o = if o.kind = 3 ∨ o.kind = 6 then [wordL o.kind, o.path, o.other] else if o.kind = 7 then [wordL o.kind, o.path, itoaL o.off, quoteL o.data] else [wordL o.kind, o.path] := by
    unfold fieldsL; split
    · rfl
    · split <;> rfl
  have j : ∀ (en : Env) (m : Mem) (id ver n : Nat) (l : List (List UInt8)) (hl : fieldsL o = l) (hn : n = l.length) (h2 : 2 ≤ n) (hm : m[id]? = some (.cells ver (l.map tx))) (Q : AV → Mem → Prop), WC Tryz.prog pol en (.func 83) [.own id ver 0 n 1, tx [32]] m Q = Q (tx (lineL o)) m := fun en m id ver n l hl hn h2 hm Q => by
    subst hn
    rw [e, hl]
    exact join_own (en := en) (m := m) (id := id) (ver := ver) l hm h2 (by rw [← hl, ← e]; omega) Q
  have jl : ∀ (en : Env) (m : Mem) (n : Nat) (cs : List AV) (l : List (List UInt8)) (hl : fieldsL o = l) (hn : n = l.length) (hc : cs = l.map tx) (h2 : 2 ≤ n) (Q : AV → Mem → Prop), WC Tryz.prog pol en (.func 83) [.lst n cs true, tx [32]] m Q = Q (tx (lineL o)) m := fun en m n cs l hl hn hc h2 Q => by
    subst hn hc
    rw [e, hl]
    exact join_lst (en := en) (m := m) l h2 (by rw [← hl, ← e]; omega) Q
  refine callPur Tryz.func53 rfl rfl Tryz.ntmps53 Tryz.results53 ?_
  (have c1 : Dm := ⟨⟩; have c2 : Dm := ⟨⟩; have c3 : Dm := ⟨⟩; have c4 : Dm := ⟨⟩; have c5 : Dm := ⟨⟩; have c6 : Dm := ⟨⟩) <;> (try simp -implicitDefEqProofs -dsimp (maxSteps := 2000000) (disch := (first | exact dz | fail)) only [go_sem, aR, h1, h2, itoa_eq, hr7]) <;> (repeat' (first | ((with_reducible refine ds_and ?_ ?_); focus exact kz) | ((with_reducible refine And.intro ?_ ?_); focus exact oz) | ((with_reducible refine pc_and ?_ ?_); focus exact pz) | ((with_reducible first | refine gIf_t ?_ ?_ | refine gIf_f ?_ ?_ | refine ite_t ?_ ?_ | refine ite_p ?_ ?_) <;> (first | (have z := (c1 : Dm); clear z c1; intro c1; try simp only [noR] at c1) | (have z := (c2 : Dm); clear z c2; intro c2; try simp only [noR] at c2) | (have z := (c3 : Dm); clear z c3; intro c3; try simp only [noR] at c3) | (have z := (c4 : Dm); clear z c4; intro c4; try simp only [noR] at c4) | (have z := (c5 : Dm); clear z c5; intro c5; try simp only [noR] at c5) | (have z := (c6 : Dm); clear z c6; intro c6; try simp only [noR] at c6)) <;> (try simp -implicitDefEqProofs -dsimp (maxSteps := 2000000) (disch := (first | exact dz | fail)) only [go_sem, aR, c6, c5, c4, c3, c2, c1, h1, h2, itoa_eq, hr7])))) <;> (try with_reducible and_intros) <;> (first | exact fz | skip)
  · refine Eq.mpr (j _ _ _ _ 3 [wordL 3, o.path, o.other] (by rw [hne, c1]; rfl) rfl (by decide) (by rw [getM]; rfl) _) ?_
    (have hq1 : Dm := ⟨⟩; have hq2 : Dm := ⟨⟩; have hq3 : Dm := ⟨⟩; have hq4 : Dm := ⟨⟩; have hq5 : Dm := ⟨⟩; have hq6 : Dm := ⟨⟩) <;> (try simp -implicitDefEqProofs -dsimp (maxSteps := 2000000) (disch := (first | exact dz | fail)) only [go_sem, aR, ]) <;> (repeat' (first | ((with_reducible refine ds_and ?_ ?_); focus exact kz) | ((with_reducible refine And.intro ?_ ?_); focus exact oz) | ((with_reducible refine pc_and ?_ ?_); focus exact pz) | ((with_reducible first | refine gIf_t ?_ ?_ | refine gIf_f ?_ ?_ | refine ite_t ?_ ?_ | refine ite_p ?_ ?_) <;> (first | (have z := (hq1 : Dm); clear z hq1; intro hq1; try simp only [noR] at hq1) | (have z := (hq2 : Dm); clear z hq2; intro hq2; try simp only [noR] at hq2) | (have z := (hq3 : Dm); clear z hq3; intro hq3; try simp only [noR] at hq3) | (have z := (hq4 : Dm); clear z hq4; intro hq4; try simp only [noR] at hq4) | (have z := (hq5 : Dm); clear z hq5; intro hq5; try simp only [noR] at hq5) | (have z := (hq6 : Dm); clear z hq6; intro hq6; try simp only [noR] at hq6)) <;> (try simp -implicitDefEqProofs -dsimp (maxSteps := 2000000) (disch := (first | exact dz | fail)) only [go_sem, aR, hq6, hq5, hq4, hq3, hq2, hq1])))) <;> (try with_reducible and_intros) <;> (first | exact fz | skip)
  · refine Eq.mpr (j _ _ _ _ 3 [wordL 6, o.path, o.other] (by rw [hne, c2]; rfl) rfl (by decide) (by rw [getM]; rfl) _) ?_
    (have hq1 : Dm := ⟨⟩; have hq2 : Dm := ⟨⟩; have hq3 : Dm := ⟨⟩; have hq4 : Dm := ⟨⟩; have hq5 : Dm := ⟨⟩; have hq6 : Dm := ⟨⟩) <;> (try simp -implicitDefEqProofs -dsimp (maxSteps := 2000000) (disch := (first | exact dz | fail)) only [go_sem, aR, ]) <;> (repeat' (first | ((with_reducible refine ds_and ?_ ?_); focus exact kz) | ((with_reducible refine And.intro ?_ ?_); focus exact oz) | ((with_reducible refine pc_and ?_ ?_); focus exact pz) | ((with_reducible first | refine gIf_t ?_ ?_ | refine gIf_f ?_ ?_ | refine ite_t ?_ ?_ | refine ite_p ?_ ?_) <;> (first | (have z := (hq1 : Dm); clear z hq1; intro hq1; try simp only [noR] at hq1) | (have z := (hq2 : Dm); clear z hq2; intro hq2; try simp only [noR] at hq2) | (have z := (hq3 : Dm); clear z hq3; intro hq3; try simp only [noR] at hq3) | (have z := (hq4 : Dm); clear z hq4; intro hq4; try simp only [noR] at hq4) | (have z := (hq5 : Dm); clear z hq5; intro hq5; try simp only [noR] at hq5) | (have z := (hq6 : Dm); clear z hq6; intro hq6; try simp only [noR] at hq6)) <;> (try simp -implicitDefEqProofs -dsimp (maxSteps := 2000000) (disch := (first | exact dz | fail)) only [go_sem, aR, hq6, hq5, hq4, hq3, hq2, hq1])))) <;> (try with_reducible and_intros) <;> (first | exact fz | skip)
  · refine Eq.mpr (j _ _ _ _ 4 [wordL 7, o.path, itoaL o.off, quoteL o.data] (by rw [hne, c3]; rfl) rfl (by decide) (by rw [getM]; rfl) _) ?_
    (have hq1 : Dm := ⟨⟩; have hq2 : Dm := ⟨⟩; have hq3 : Dm := ⟨⟩; have hq4 : Dm := ⟨⟩; have hq5 : Dm := ⟨⟩; have hq6 : Dm := ⟨⟩) <;> (try simp -implicitDefEqProofs -dsimp (maxSteps := 2000000) (disch := (first | exact dz | fail)) only [go_sem, aR, ]) <;> (repeat' (first | ((with_reducible refine ds_and ?_ ?_); focus exact kz) | ((with_reducible refine And.intro ?_ ?_); focus exact oz) | ((with_reducible refine pc_and ?_ ?_); focus exact pz) | ((with_reducible first | refine gIf_t ?_ ?_ | refine gIf_f ?_ ?_ | refine ite_t ?_ ?_ | refine ite_p ?_ ?_) <;> (first | (have z := (hq1 : Dm); clear z hq1; intro hq1; try simp only [noR] at hq1) | (have z := (hq2 : Dm); clear z hq2; intro hq2; try simp only [noR] at hq2) | (have z := (hq3 : Dm); clear z hq3; intro hq3; try simp only [noR] at hq3) | (have z := (hq4 : Dm); clear z hq4; intro hq4; try simp only [noR] at hq4) | (have z := (hq5 : Dm); clear z hq5; intro hq5; try simp only [noR] at hq5) | (have z := (hq6 : Dm); clear z hq6; intro hq6; try simp only [noR] at hq6)) <;> (try simp -implicitDefEqProofs -dsimp (maxSteps := 2000000) (disch := (first | exact dz | fail)) only [go_sem, aR, hq6, hq5, hq4, hq3, hq2, hq1])))) <;> (try with_reducible and_intros) <;> (first | exact fz | skip)
  · refine Eq.mpr (jl _ _ 2 _ [wordL o.kind, o.path] (by rw [hne, if_neg (by omega), if_neg c3]) rfl rfl (by decide) _) ?_
    (have hq1 : Dm := ⟨⟩; have hq2 : Dm := ⟨⟩; have hq3 : Dm := ⟨⟩; have hq4 : Dm := ⟨⟩; have hq5 : Dm := ⟨⟩; have hq6 : Dm := ⟨⟩) <;> (try simp -implicitDefEqProofs -dsimp (maxSteps := 2000000) (disch := (first | exact dz | fail)) only [go_sem, aR, ]) <;> (repeat' (first | ((with_reducible refine ds_and ?_ ?_); focus exact kz) | ((with_reducible refine And.intro ?_ ?_); focus exact oz) | ((with_reducible refine pc_and ?_ ?_); focus exact pz) | ((with_reducible first | refine gIf_t ?_ ?_ | refine gIf_f ?_ ?_ | refine ite_t ?_ ?_ | refine ite_p ?_ ?_) <;> (first | (have z := (hq1 : Dm); clear z hq1; intro hq1; try simp only [noR] at hq1) | (have z := (hq2 : Dm); clear z hq2; intro hq2; try simp only [noR] at hq2) | (have z := (hq3 : Dm); clear z hq3; intro hq3; try simp only [noR] at hq3) | (have z := (hq4 : Dm); clear z hq4; intro hq4; try simp only [noR] at hq4) | (have z := (hq5 : Dm); clear z hq5; intro hq5; try simp only [noR] at hq5) | (have z := (hq6 : Dm); clear z hq6; intro hq6; try simp only [noR] at hq6)) <;> (try simp -implicitDefEqProofs -dsimp (maxSteps := 2000000) (disch := (first | exact dz | fail)) only [go_sem, aR, hq6, hq5, hq4, hq3, hq2, hq1])))) <;> (try with_reducible and_intros) <;> (first | exact fz | skip)
theorem refLine_ok (o : Pn) (hr : rightOpB o = true) (hp : o.path.length ≤ 1100000) (hq : o.other.length ≤ 1100000) (hd : o.data.length ≤ 1100000) (hf : Fits en m.length) : WC Tryz.prog pol en (.func 57) [.agg (opC o)] m fun v m' => v = tx (lineL o) ∧ m' = m := by
  have hk : 0 ≤ o.kind ∧ o.kind ≤ 255 := by
    simp only [rightOpB, Bool.and_eq_true, decide_eq_true_eq] at hr; omega
  have h1 := fun (en : Env) (m : Mem) Q (hf : Fits en m.length) => (word_ok (m := m) (en := en) o.kind hk hf).rule Q
  have h2 := fun (en : Env) (m : Mem) Q (hf : Fits en m.length) => (refQuote_ok (m := m) (en := en) o.data (by omega) hf).rule Q
  have hr7 : o.kind = 7 → 0 ≤ o.off ∧ o.off ≤ 256 := fun h => by
    simp only [rightOpB, restB, h] at hr; simp at hr; omega
  have hw : (wordL o.kind).length ≤ 6 := by
    unfold wordL
    repeat' split
    all_goals simp
  have hi : o.kind = 7 → (itoaL o.off).length ≤ 300 := fun h => by
    have := natL_len1 o.off.natAbs
    have := hr7 h
    rw [itoaL, if_neg (by omega)]; omega
  have hql := quote_len1 o.data
  refine callPur Tryz.func57 rfl rfl Tryz.ntmps57 Tryz.results57 ?_
  (have c1 : Dm := ⟨⟩; have c2 : Dm := ⟨⟩; have c3 : Dm := ⟨⟩; have c4 : Dm := ⟨⟩; have c5 : Dm := ⟨⟩; have c6 : Dm := ⟨⟩) <;> (try simp -implicitDefEqProofs -dsimp (maxSteps := 2000000) (disch := (first | exact dz | fail)) only [go_sem, aR, h1, h2, itoa_eq, hr7]) <;> (repeat' (first | ((with_reducible refine ds_and ?_ ?_); focus exact kz) | ((with_reducible refine And.intro ?_ ?_); focus exact oz) | ((with_reducible refine pc_and ?_ ?_); focus exact pz) | ((with_reducible first | refine gIf_t ?_ ?_ | refine gIf_f ?_ ?_ | refine ite_t ?_ ?_ | refine ite_p ?_ ?_) <;> (first | (have z := (c1 : Dm); clear z c1; intro c1; try simp only [noR] at c1) | (have z := (c2 : Dm); clear z c2; intro c2; try simp only [noR] at c2) | (have z := (c3 : Dm); clear z c3; intro c3; try simp only [noR] at c3) | (have z := (c4 : Dm); clear z c4; intro c4; try simp only [noR] at c4) | (have z := (c5 : Dm); clear z c5; intro c5; try simp only [noR] at c5) | (have z := (c6 : Dm); clear z c6; intro c6; try simp only [noR] at c6)) <;> (try simp -implicitDefEqProofs -dsimp (maxSteps := 2000000) (disch := (first | exact dz | fail)) only [go_sem, aR, c6, c5, c4, c3, c2, c1, h1, h2, itoa_eq, hr7])))) <;> (try with_reducible and_intros) <;> (first | exact fz | skip)
  · simp [lineL, fieldsL, joinL, c1]
  · simp [lineL, fieldsL, joinL, c2]
  · simp [lineL, fieldsL, joinL, c3]
  · simp [lineL, fieldsL, joinL, c1, c2, c3]
end
end Go.Proofs.YtcmjidnbbfcbjaaGreatDoor.V
