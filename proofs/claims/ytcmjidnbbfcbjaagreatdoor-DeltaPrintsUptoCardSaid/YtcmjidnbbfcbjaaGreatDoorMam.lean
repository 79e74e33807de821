/- Parts of the proof, joined (ZP, Z1, Z5, Z4, Z6, Z2, Z3, Q4, Q5a); no condition. -/
import Derived.Test.YtcmjidnbbfcbjaaGreatDoorMag
import Derived.Test.YtcmjidnbbfcbjaaGreatDoorMal
import Derived.Test.YtcmjidnbbfcbjaaGreatDoorMah
import Derived.Lib.DecodeN
import Derived.Test.YtcmjidnbbfcbjaaGreatDoorMaj
import Derived.Test.YtcmjidnbbfcbjaaGreatDoorMae
/- Operations as lines: the plain law; no condition. -/
namespace Go.Proofs.YtcmjidnbbfcbjaaGreatDoor.V
/-- A text, cut at each such byte; put together again. -/
def cutL (c : UInt8) : List UInt8 → List (List UInt8)
  | [] => [[]]
  | b :: l => if b = c then [] :: cutL c l else match cutL c l with
    | w :: ws => (b :: w) :: ws
    | [] => [[b]]
def joinL (c : UInt8) : List (List UInt8) → List UInt8
  | [] => []
  | [w] => w
  | w :: x :: ws => w ++ c :: joinL c (x :: ws)
theorem cut_ne (c : UInt8) : ∀ s, cutL c s ≠ []
  | [] => by simp [cutL]
  | b :: l => by
    unfold cutL
    split
    · simp
    · split <;> simp
theorem cut_cons (c : UInt8) (s : List UInt8) : ∃ w ws, cutL c s = w :: ws := by
  cases h : cutL c s with
  | nil => exact (cut_ne c s h).elim
  | cons w ws => exact ⟨w, ws, rfl⟩
theorem join_cut (c : UInt8) : ∀ s, joinL c (cutL c s) = s
  | [] => rfl
  | b :: l => by
    obtain ⟨w, ws, h⟩ := cut_cons c l
    have ih := join_cut c l
    rw [h] at ih
    unfold cutL
    rw [h]
    split
    · rename_i hb; subst hb
      simp only [joinL, List.nil_append, ih]
    · cases ws with
      | nil => simp only [joinL] at ih ⊢; rw [ih]
      | cons x ws => simp only [joinL, List.cons_append] at ih ⊢; rw [ih]
theorem cut_none {c : UInt8} : ∀ {w : List UInt8}, c ∉ w → cutL c w = [w]
  | [], _ => rfl
  | b :: l, h => by
    have hb : b ≠ c := fun e => h (by simp [e])
    rw [cutL, if_neg hb, cut_none (w := l) fun hm => h (by simp [hm])]
theorem cut_app {c : UInt8} (s : List UInt8) : ∀ {w : List UInt8}, c ∉ w → cutL c (w ++ c :: s) = w :: cutL c s
  | [], _ => by simp [cutL]
  | b :: l, h => by
    have hb : b ≠ c := fun e => h (by simp [e])
    rw [List.cons_append, cutL, if_neg hb, cut_app s (w := l) fun hm => h (by simp [hm])]
theorem cut_join {c : UInt8} : ∀ {ws : List (List UInt8)}, ws ≠ [] → (∀ w ∈ ws, c ∉ w) → cutL c (joinL c ws) = ws
  | [w], _, h => cut_none (h w (by simp))
  | w :: x :: ws, _, h => by
    rw [joinL, cut_app _ (h w (by simp)), cut_join (by simp) fun y hy => h y (List.mem_cons_of_mem _ hy)]
theorem cut_mem {c : UInt8} : ∀ {s w : List UInt8}, w ∈ cutL c s → c ∉ w
  | [], w, h => by simp [cutL] at h; subst h; simp
  | b :: l, w, h => by
    obtain ⟨w0, ws, e⟩ := cut_cons c l
    have ih := fun x (hx : x ∈ cutL c l) => cut_mem hx
    rw [cutL, e] at h
    rw [e] at ih
    split at h
    · simp only [List.mem_cons] at h ih
      rcases h with rfl | rfl | h
      · simp
      · exact ih _ (Or.inl rfl)
      · exact ih _ (Or.inr h)
    · rename_i hb
      simp only [List.mem_cons] at h ih
      rcases h with rfl | h
      · have := ih w0 (Or.inl rfl)
        simp only [List.mem_cons, not_or]
        exact ⟨fun e => hb e.symm, this⟩
      · exact ih _ (Or.inr h)
theorem cut_snoc (c : UInt8) : ∀ s, cutL c (s ++ [c]) = cutL c s ++ [[]]
  | [] => by simp [cutL]
  | b :: l => by
    obtain ⟨w, ws, h⟩ := cut_cons c l
    rw [List.cons_append, cutL, cut_snoc c l, cutL, h]
    split <;> simp
theorem cut_len (c : UInt8) : ∀ s : List UInt8, (cutL c s).length ≤ s.length + 1
  | [] => by simp [cutL]
  | b :: l => by
    obtain ⟨w, ws, h⟩ := cut_cons c l
    have ih := cut_len c l
    rw [h] at ih
    rw [cutL, h]
    split <;> simp at ih ⊢ <;> omega
theorem cut_last {c : UInt8} : ∀ {s : List UInt8} {ws : List (List UInt8)}, cutL c s = ws ++ [[]] → s = [] ∨ ∃ t, s = t ++ [c]
  | s, [], h => by
    left
    have := join_cut c s
    rw [h] at this; exact this.symm
  | s, w :: ws, h => by
    right
    have e := join_cut c s
    rw [h] at e
    have : ∀ (w : List UInt8) (ws : List (List UInt8)), ∃ t, joinL c (w :: ws ++ [[]]) = t ++ [c] := by
      intro w ws
      induction ws generalizing w with
      | nil => exact ⟨w, by simp [joinL]⟩
      | cons x ws ih =>
        obtain ⟨t, ht⟩ := ih x
        refine ⟨w ++ c :: t, ?_⟩
        rw [List.cons_append] at ht
        rw [List.cons_append, List.cons_append, joinL, ht]; simp
    obtain ⟨t, ht⟩ := this w ws
    exact ⟨t, by rw [← e, ht]⟩
/-- The operations' words; a word's kind. -/
def wordL (k : Int) : List UInt8 :=
  if k = 1 then [99, 114, 101, 97, 116, 101] else if k = 2 then [109, 107, 100, 105, 114] else if k = 3 then [108, 105, 110, 107] else if k = 4 then [117, 110, 108, 105, 110, 107]
  else if k = 5 then [114, 109, 100, 105, 114] else if k = 6 then [114, 101, 110, 97, 109, 101] else if k = 7 then [119, 114, 105, 116, 101] else if k = 8 then [99, 117, 116] else []
def kindStep (w : List UInt8) (k : Int) (j : Nat) : Int := if w = wordL (j : Int) then (j : Int) else k
def kindL (w : List UInt8) : Int := [1, 2, 3, 4, 5, 6, 7, 8].foldl (kindStep w) 0
theorem kind_word {k : Int} (h1 : 1 ≤ k) (h8 : k ≤ 8) : kindL (wordL k) = k := by
  have : k = 1 ∨ k = 2 ∨ k = 3 ∨ k = 4 ∨ k = 5 ∨ k = 6 ∨ k = 7 ∨ k = 8 := by omega
  rcases this with rfl | rfl | rfl | rfl | rfl | rfl | rfl | rfl <;> rfl
theorem kind_cases (w : List UInt8) : (kindL w = 0 ∧ ∀ k : Int, 1 ≤ k → k ≤ 8 → w ≠ wordL k) ∨ (1 ≤ kindL w ∧ kindL w ≤ 8 ∧ w = wordL (kindL w)) := by
  by_cases h : ∃ k : Int, 1 ≤ k ∧ k ≤ 8 ∧ w = wordL k
  · obtain ⟨k, h1, h8, rfl⟩ := h
    right
    rw [kind_word h1 h8]; exact ⟨h1, h8, rfl⟩
  · left
    have hn : ∀ k : Int, 1 ≤ k → k ≤ 8 → w ≠ wordL k := fun k h1 h8 e => h ⟨k, h1, h8, e⟩
    refine ⟨?_, hn⟩
    have e : ∀ j : Nat, 1 ≤ j → j ≤ 8 → ∀ k, kindStep w k j = k := fun j h1 h8 k => by rw [kindStep, if_neg (hn j (by omega) (by omega))]
    simp only [kindL, List.foldl_cons, List.foldl_nil]
    rw [e 1 (by omega) (by omega), e 2 (by omega) (by omega), e 3 (by omega) (by omega), e 4 (by omega) (by omega), e 5 (by omega) (by omega), e 6 (by omega) (by omega), e 7 (by omega) (by omega), e 8 (by omega) (by omega)]
theorem word_blank (k : Int) : (32 : UInt8) ∉ wordL k := by
  unfold wordL
  repeat' split
  all_goals decide
/-- Numbers in digits. -/
def natL (n : Nat) : List UInt8 := if n < 10 then [UInt8.ofNat (48 + n)] else natL (n / 10) ++ [UInt8.ofNat (48 + n % 10)]
def itoaL (n : Int) : List UInt8 := if n < 0 then 45 :: natL n.natAbs else natL n.natAbs
theorem natL_digit (n : Nat) : ∀ c ∈ natL n, 48 ≤ c.toNat ∧ c.toNat ≤ 57 := by
  induction n using Nat.strongRecOn with
  | ind n ih =>
    intro c hc
    unfold natL at hc
    split at hc
    · rw [List.mem_singleton] at hc; subst hc; rw [UInt8.toNat_ofNat']; omega
    · rw [List.mem_append] at hc
      rcases hc with hc | hc
      · exact ih (n / 10) (by omega) c hc
      · rw [List.mem_singleton] at hc; subst hc; rw [UInt8.toNat_ofNat']; omega
theorem itoa_blank (n : Int) : (32 : UInt8) ∉ itoaL n := by
  have h := natL_digit n.natAbs
  have h2 : (32 : UInt8) ∉ natL n.natAbs := fun hm => by have := h _ hm; simp at this
  unfold itoaL
  split
  · simp [h2]
  · exact h2
/-- A text of at most three digits as a number; 0: it is none. -/
def numGo : List UInt8 → Nat → Option Nat
  | [], n => some n
  | c :: l, n => if 48 ≤ c.toNat ∧ c.toNat ≤ 57 then numGo l (n * 10 + (c.toNat - 48)) else none
def numL (s : List UInt8) : Nat := if 3 < s.length then 0 else (numGo s 0).getD 0
theorem numGo_app : ∀ (a b : List UInt8) (n : Nat), numGo (a ++ b) n = (numGo a n).bind (numGo b)
  | [], b, n => rfl
  | c :: a, b, n => by
    rw [List.cons_append, numGo, numGo]
    split
    · exact numGo_app a b _
    · rfl
theorem numGo_nat (n : Nat) : numGo (natL n) 0 = some n := by
  induction n using Nat.strongRecOn with
  | ind n ih =>
    unfold natL
    split
    · rename_i h
      simp only [numGo, UInt8.toNat_ofNat']
      rw [if_pos (by omega)]
      congr 1; omega
    · rename_i h
      rw [numGo_app, ih (n / 10) (by omega), Option.bind_some]
      simp only [numGo, UInt8.toNat_ofNat']
      rw [if_pos (by omega)]
      congr 1; omega
theorem natL_len {n : Nat} (h : n < 1000) : (natL n).length ≤ 3 := by
  unfold natL
  split
  · simp
  · unfold natL
    split
    · simp
    · unfold natL
      rw [if_pos (by omega)]; simp
theorem num_nat {n : Nat} (h : n < 1000) : numL (natL n) = n := by
  have := natL_len h
  rw [numL, if_neg (by omega), numGo_nat]; rfl
theorem natL_inj {a b : Nat} (h : natL a = natL b) : a = b := by
  have h1 := numGo_nat a
  rw [h, numGo_nat b] at h1
  exact (Option.some.inj h1).symm
theorem itoa_inj {a b : Int} (h : itoaL a = itoaL b) : a = b := by
  have key : ∀ (n m : Nat), natL n ≠ 45 :: natL m := fun n m e => by
    have := natL_digit n 45 (by rw [e]; simp)
    simp at this
  unfold itoaL at h
  split at h <;> split at h
  · have := natL_inj (List.cons.inj h).2; omega
  · exact (key _ _ h.symm).elim
  · exact (key _ _ h).elim
  · have := natL_inj h; omega
/-- Right operations. -/
def namedB (p : List UInt8) : Bool := (splitL p).isSome && !decide (p = [47])
def restB (o : Pn) : Bool :=
  if o.kind = 3 ∨ o.kind = 6 then namedB o.other && (decide (o.off = 0) && decide (o.data = []))
  else if o.kind = 7 then decide (o.other = []) && (decide (0 ≤ o.off ∧ o.off ≤ 256) && decide (1 ≤ o.data.length ∧ o.data.length ≤ 64))
  else decide (o.other = []) && (decide (o.off = 0) && decide (o.data = []))
def rightOpB (o : Pn) : Bool := namedB o.path && (decide (1 ≤ o.kind ∧ o.kind ≤ 8) && restB o)
theorem named_blank {p : List UInt8} (h : namedB p = true) : (32 : UInt8) ∉ p := by
  simp only [namedB, Bool.and_eq_true, Bool.not_eq_true', decide_eq_false_iff_not] at h
  obtain ⟨h1, h2⟩ := h
  unfold splitL at h1
  rw [if_neg h2] at h1
  split at h1
  · rename_i h3
    obtain ⟨_, h4, h5, _⟩ := h3
    intro hm
    rcases segs_mem h4 hm with h | ⟨s, hs, hx⟩
    · simp at h
    · rw [List.all_eq_true] at h5
      have := h5 s hs
      simp only [nameB, Bool.and_eq_true, List.all_eq_true] at this
      have := this.1 _ hx
      simp [okB] at this
  · simp at h1
/-- An operation's line, by its fields. -/
def fieldsL (o : Pn) : List (List UInt8) :=
  wordL o.kind :: o.path :: (if o.kind = 3 ∨ o.kind = 6 then [o.other] else if o.kind = 7 then [itoaL o.off, quoteL o.data] else [])
def lineL (o : Pn) : List UInt8 := joinL 32 (fieldsL o)
theorem quote_blank (l : List UInt8) : (32 : UInt8) ∉ quoteL l := by
  have hx : ∀ n, n < 16 → hexd n ≠ 32 := by decide
  have : ∀ l, (32 : UInt8) ∉ qencL l := by
    intro l
    induction l with
    | nil => simp [qencL]
    | cons c l ih =>
      show 32 ∉ encB c ++ qencL l
      have hlt := c.toNat_lt
      rw [List.mem_append, not_or]
      refine ⟨?_, ih⟩
      unfold encB
      split
      · rename_i h
        simp only [List.mem_singleton]
        rintro rfl
        simp [plainB] at h
      · have h1 := hx (c.toNat / 16) (by omega)
        have h2 := hx (c.toNat % 16) (by omega)
        simp only [List.mem_cons, List.not_mem_nil, or_false, not_or]
        exact ⟨by decide, fun e => h1 e.symm, fun e => h2 e.symm⟩
  have h := this l
  simp [quoteL, h]
theorem fields_blank {o : Pn} (h : rightOpB o = true) : ∀ w ∈ fieldsL o, (32 : UInt8) ∉ w := by
  simp only [rightOpB, Bool.and_eq_true] at h
  obtain ⟨h1, _, h3⟩ := h
  intro w hw
  unfold fieldsL at hw
  unfold restB at h3
  simp only [List.mem_cons] at hw
  rcases hw with rfl | rfl | hw
  · exact word_blank _
  · exact named_blank h1
  · split at hw
    · rename_i hk
      rw [if_pos hk, Bool.and_eq_true] at h3
      simp at hw; subst hw
      exact named_blank h3.1
    · split at hw
      · simp at hw
        rcases hw with rfl | rfl
        · exact itoa_blank _
        · exact quote_blank _
      · simp at hw
theorem cut_line {o : Pn} (h : rightOpB o = true) : cutL 32 (lineL o) = fieldsL o := cut_join (by simp [fieldsL]) (fields_blank h)
/-- The operation that a line says. -/
def candL (w : List (List UInt8)) : Pn :=
  ⟨kindL (w.getD 0 []), w.getD 1 [], if w.length = 3 then w.getD 2 [] else [], if w.length = 4 then (numL (w.getD 2 []) : Int) else 0, if w.length = 4 then (unqL (w.getD 3 [])).getD [] else []⟩
def readL (s : List UInt8) : Option Pn := if rightOpB (candL (cutL 32 s)) = true ∧ lineL (candL (cutL 32 s)) = s then some (candL (cutL 32 s)) else none
theorem read_line {s : List UInt8} (h : rightOpB (candL (cutL 32 s)) = true) (h2 : lineL (candL (cutL 32 s)) = s) : cutL 32 s = fieldsL (candL (cutL 32 s)) := by
  have := cut_line h
  rw [h2] at this; exact this
theorem read_one {s w0 w1 : List UInt8} (h : cutL 32 s = [w0, w1]) (hk : kindL w0 ≠ 3 ∧ kindL w0 ≠ 6 ∧ kindL w0 ≠ 7) : readL s = if rightOpB ⟨kindL w0, w1, [], 0, []⟩ = true then some ⟨kindL w0, w1, [], 0, []⟩ else none := by
  have hc : candL (cutL 32 s) = ⟨kindL w0, w1, [], 0, []⟩ := by rw [h]; rfl
  have hl : rightOpB ⟨kindL w0, w1, [], 0, []⟩ = true → lineL ⟨kindL w0, w1, [], 0, []⟩ = s := fun hr => by
    have hs := join_cut 32 s
    rw [h] at hs
    rcases kind_cases w0 with ⟨h0, _⟩ | ⟨_, _, hw⟩
    · rw [h0] at hr; simp [rightOpB] at hr
    · unfold lineL fieldsL
      simp only [hk.1, hk.2.1, hk.2.2, or_false, if_false, ← hw]
      exact hs
  unfold readL
  rw [hc]
  by_cases hr : rightOpB ⟨kindL w0, w1, [], 0, []⟩ = true
  · rw [if_pos hr, if_pos ⟨hr, hl hr⟩]
  · rw [if_neg hr, if_neg fun h => hr h.1]
theorem read_two {s w0 w1 w2 : List UInt8} (h : cutL 32 s = [w0, w1, w2]) (hk : kindL w0 = 3 ∨ kindL w0 = 6) : readL s = if rightOpB ⟨kindL w0, w1, w2, 0, []⟩ = true then some ⟨kindL w0, w1, w2, 0, []⟩ else none := by
  have hc : candL (cutL 32 s) = ⟨kindL w0, w1, w2, 0, []⟩ := by rw [h]; rfl
  have hl : lineL ⟨kindL w0, w1, w2, 0, []⟩ = s := by
    have hs := join_cut 32 s
    rw [h] at hs
    rcases kind_cases w0 with ⟨h0, _⟩ | ⟨_, _, hw⟩
    · omega
    · unfold lineL fieldsL
      simp only [hk, if_true, ← hw]
      exact hs
  unfold readL
  rw [hc]
  by_cases hr : rightOpB ⟨kindL w0, w1, w2, 0, []⟩ = true
  · rw [if_pos hr, if_pos ⟨hr, hl⟩]
  · rw [if_neg hr, if_neg fun h => hr h.1]
theorem unq_some {s d : List UInt8} (h : unqL s = some d) : quoteL d = s := by
  unfold unqL at h
  split at h
  · rename_i h1
    obtain ⟨t, rfl⟩ := pre_one h1.1
    obtain ⟨u, hu⟩ := suf_one h1.2
    simp only [List.drop_succ_cons, List.drop_zero] at hu
    subst hu
    have h2 := (dec_lax _ (Nat.le_refl _) (by simpa using h)).2
    simp [quoteL, h2]
  · cases h
theorem read_write {s w0 w1 w2 w3 d : List UInt8} {n : Int} (h : cutL 32 s = [w0, w1, w2, w3]) (hk : kindL w0 = 7) (hn : itoaL n = w2) (hd : unqL w3 = some d) : readL s = if rightOpB ⟨7, w1, [], n, d⟩ = true then some ⟨7, w1, [], n, d⟩ else none := by
  have hc : candL (cutL 32 s) = ⟨7, w1, [], (numL w2 : Int), d⟩ := by rw [h]; simp [candL, hk, hd]
  have hw : w0 = wordL 7 := by
    rcases kind_cases w0 with ⟨h0, _⟩ | ⟨_, _, hw⟩
    · omega
    · rwa [hk] at hw
  have hs := join_cut 32 s
  rw [h] at hs
  by_cases hr : rightOpB ⟨7, w1, [], n, d⟩ = true
  · have hnn : 0 ≤ n ∧ n ≤ 256 := by simp [rightOpB, restB] at hr; omega
    have e : (numL w2 : Int) = n := by
      rw [← hn, itoaL, if_neg (by omega), num_nat (by omega)]; omega
    have hl : lineL ⟨7, w1, [], n, d⟩ = s := by
      rw [← hs, hw]
      simp [lineL, fieldsL, hn, unq_some hd]
    rw [if_pos hr, readL, hc, e, if_pos ⟨hr, hl⟩]
  · rw [if_neg hr, readL, hc, if_neg]
    rintro ⟨h1, h2⟩
    have h3 := read_line (s := s) (by rw [hc]; exact h1) (by rw [hc]; exact h2)
    rw [hc, h] at h3
    simp [fieldsL] at h3
    have : n = (numL w2 : Int) := itoa_inj (by rw [hn]; exact h3.2.1)
    exact hr (by rw [this]; exact h1)
theorem read_write_no {s w0 w1 w2 w3 : List UInt8} (h : cutL 32 s = [w0, w1, w2, w3]) (hk : kindL w0 = 7) (hb : (∀ n : Int, 0 ≤ n → n ≤ 256 → itoaL n ≠ w2) ∨ unqL w3 = none) : readL s = none := by
  unfold readL
  rw [if_neg]
  rintro ⟨h1, h2⟩
  have h3 := read_line h1 h2
  have hc : candL (cutL 32 s) = ⟨7, w1, [], (numL w2 : Int), (unqL w3).getD []⟩ := by rw [h]; simp [candL, hk]
  rw [hc] at h1 h3
  rw [h] at h3
  simp [fieldsL] at h3
  rcases hb with hb | hb
  · have : (numL w2 : Int) ≤ 256 := by simp [rightOpB, restB] at h1; omega
    exact hb _ (by omega) this h3.2.1.symm
  · rw [hb] at h1
    simp [rightOpB, restB] at h1
theorem read_bad {s : List UInt8} (h2 : ¬((cutL 32 s).length = 2 ∧ kindL ((cutL 32 s).getD 0 []) ≠ 3 ∧ kindL ((cutL 32 s).getD 0 []) ≠ 6 ∧ kindL ((cutL 32 s).getD 0 []) ≠ 7)) (h3 : ¬((cutL 32 s).length = 3 ∧ (kindL ((cutL 32 s).getD 0 []) = 3 ∨ kindL ((cutL 32 s).getD 0 []) = 6)))
    (h4 : ¬((cutL 32 s).length = 4 ∧ kindL ((cutL 32 s).getD 0 []) = 7)) : readL s = none := by
  unfold readL
  rw [if_neg]
  rintro ⟨g1, g2⟩
  have g3 := congrArg List.length (read_line g1 g2)
  have hk : (candL (cutL 32 s)).kind = kindL ((cutL 32 s).getD 0 []) := rfl
  generalize candL (cutL 32 s) = o at *
  generalize kindL ((cutL 32 s).getD 0 []) = k at *
  subst hk
  unfold fieldsL at g3
  split at g3
  · rename_i hk; exact h3 ⟨by simpa using g3, hk⟩
  · rename_i hk
    split at g3
    · rename_i hk7; exact h4 ⟨by simpa using g3, hk7⟩
    · rename_i hk7; exact h2 ⟨by simpa using g3, fun e => hk (Or.inl e), fun e => hk (Or.inr e), hk7⟩
/-- Operations as lines; the operations that lines say. -/
def linesL (l : List Pn) : List UInt8 := l.flatMap fun o => lineL o ++ [10]
def printL (l : List Pn) : Option (List UInt8) := if l.length ≤ 512 ∧ l.all rightOpB = true then some (linesL l) else none
def readsL : List (List UInt8) → Option (List Pn)
  | [] => some []
  | s :: l => match readL s, readsL l with
    | some o, some os => some (o :: os)
    | _, _ => none
def parseL (s : List UInt8) : Option (List Pn) := if s = [] then some [] else if (cutL 10 s).getLast? = some [] ∧ (cutL 10 s).length ≤ 513 then readsL (cutL 10 s).dropLast else none
theorem parse_nl (t : List UInt8) : parseL (t ++ [10]) = if (cutL 10 t).length ≤ 512 then readsL (cutL 10 t) else none := by
  unfold parseL
  rw [if_neg (by simp), cut_snoc]
  simp
theorem parse_no {s : List UInt8} (h : s ≠ []) (h2 : ∀ t, s ≠ t ++ [10]) : parseL s = none := by
  unfold parseL
  rw [if_neg h, if_neg]
  rintro ⟨h3, _⟩
  rw [List.getLast?_eq_some_iff] at h3
  obtain ⟨ws, hw⟩ := h3
  rcases cut_last hw with e | ⟨t, e⟩
  · exact h e
  · exact h2 t e
theorem reads_bad {l : List (List UInt8)} {i : Nat} {s : List UInt8} (h : l[i]? = some s) (hs : readL s = none) : readsL l = none := by
  induction l generalizing i with
  | nil => simp at h
  | cons a l ih =>
    cases i with
    | zero => simp at h; subst h; simp [readsL, hs]
    | succ i =>
      have := ih (i := i) (by simpa using h)
      simp [readsL, this]
theorem reads_good : ∀ {l : List (List UInt8)} {os : List Pn}, os.length = l.length → (∀ (i : Nat) s o, l[i]? = some s → os[i]? = some o → readL s = some o) → readsL l = some os
  | [], [], _, _ => rfl
  | s :: l, o :: os, hl, h => by
    have h1 := h 0 s o rfl rfl
    have h2 := reads_good (l := l) (os := os) (by simpa using hl) fun i s o hs ho => h (i + 1) s o (by simpa using hs) (by simpa using ho)
    simp [readsL, h1, h2]
end Go.Proofs.YtcmjidnbbfcbjaaGreatDoor.V
/- Right operations; no condition. -/
namespace Go.Proofs.YtcmjidnbbfcbjaaGreatDoor.V
open Go
set_option linter.unusedVariables false
set_option linter.unusedSimpArgs false
set_option maxRecDepth 100000
set_option maxHeartbeats 4000000
noncomputable section
variable {en : Env} {m : Mem}
theorem split_nil {p : List UInt8} {l : List (List UInt8)} (h : splitL p = some l) : (l = [] ↔ p = [47]) := by
  unfold splitL at h
  split at h
  · rename_i h1; cases h; simp [h1]
  · rename_i h1
    split at h
    · rename_i h2
      cases h
      exact ⟨fun e => (segs_ne h2.2.1 e).elim, fun e => (h1 e).elim⟩
    · cases h
end
end Go.Proofs.YtcmjidnbbfcbjaaGreatDoor.V
namespace Go.Proofs.YtcmjidnbbfcbjaaGreatDoor.V.L1
open Go V
set_option linter.unusedVariables false
set_option linter.unusedSimpArgs false
set_option maxRecDepth 100000
set_option maxHeartbeats 4000000
noncomputable section
variable {en : Env} {m : Mem}
theorem named_ok (p : List UInt8) (hp : p.length ≤ 1073741824) (hf : Fits en m.length) : WC Tryz.prog pol en (.func 79) [tx p] m fun v m' => v = bo (namedB p) ∧ m' = m := by
  refine callPur Tryz.func79 rfl rfl Tryz.ntmps79 Tryz.results79 ?_
  cases hs : splitL p with
  | none =>
    (have hq1 : Dm := ⟨⟩; have hq2 : Dm := ⟨⟩; have hq3 : Dm := ⟨⟩; have hq4 : Dm := ⟨⟩; have hq5 : Dm := ⟨⟩; have hq6 : Dm := ⟨⟩) <;> (try simp -implicitDefEqProofs -dsimp (maxSteps := 2000000) (disch := (first | exact dz | fail)) only [go_sem, aR, treeSplit_eq, hs, splitA]) <;> (repeat' (first | ((with_reducible refine ds_and ?_ ?_); focus exact kz) | ((with_reducible refine And.intro ?_ ?_); focus exact oz) | ((with_reducible refine pc_and ?_ ?_); focus exact pz) | ((with_reducible first | refine gIf_t ?_ ?_ | refine gIf_f ?_ ?_ | refine ite_t ?_ ?_ | refine ite_p ?_ ?_) <;> (first | (have z := (hq1 : Dm); clear z hq1; intro hq1; try simp only [noR] at hq1) | (have z := (hq2 : Dm); clear z hq2; intro hq2; try simp only [noR] at hq2) | (have z := (hq3 : Dm); clear z hq3; intro hq3; try simp only [noR] at hq3) | (have z := (hq4 : Dm); clear z hq4; intro hq4; try simp only [noR] at hq4) | (have z := (hq5 : Dm); clear z hq5; intro hq5; try simp only [noR] at hq5) | (have z := (hq6 : Dm); clear z hq6; intro hq6; try simp only [noR] at hq6)) <;> (try simp -implicitDefEqProofs -dsimp (maxSteps := 2000000) (disch := (first | exact dz | fail)) only [go_sem, aR, hq6, hq5, hq4, hq3, hq2, hq1, treeSplit_eq, hs, splitA])))) <;> (try with_reducible and_intros) <;> (first | exact fz | skip)
    all_goals simp [namedB, hs]
  | some l =>
    (have hq1 : Dm := ⟨⟩; have hq2 : Dm := ⟨⟩; have hq3 : Dm := ⟨⟩; have hq4 : Dm := ⟨⟩; have hq5 : Dm := ⟨⟩; have hq6 : Dm := ⟨⟩) <;> (try simp -implicitDefEqProofs -dsimp (maxSteps := 2000000) (disch := (first | exact dz | fail)) only [go_sem, aR, treeSplit_eq, hs, splitA]) <;> (repeat' (first | ((with_reducible refine ds_and ?_ ?_); focus exact kz) | ((with_reducible refine And.intro ?_ ?_); focus exact oz) | ((with_reducible refine pc_and ?_ ?_); focus exact pz) | ((with_reducible first | refine gIf_t ?_ ?_ | refine gIf_f ?_ ?_ | refine ite_t ?_ ?_ | refine ite_p ?_ ?_) <;> (first | (have z := (hq1 : Dm); clear z hq1; intro hq1; try simp only [noR] at hq1) | (have z := (hq2 : Dm); clear z hq2; intro hq2; try simp only [noR] at hq2) | (have z := (hq3 : Dm); clear z hq3; intro hq3; try simp only [noR] at hq3) | (have z := (hq4 : Dm); clear z hq4; intro hq4; try simp only [noR] at hq4) | (have z := (hq5 : Dm); clear z hq5; intro hq5; try simp only [noR] at hq5) | (have z := (hq6 : Dm); clear z hq6; intro hq6; try simp only [noR] at hq6)) <;> (try simp -implicitDefEqProofs -dsimp (maxSteps := 2000000) (disch := (first | exact dz | fail)) only [go_sem, aR, hq6, hq5, hq4, hq3, hq2, hq1, treeSplit_eq, hs, splitA])))) <;> (try with_reducible and_intros) <;> (first | exact fz | skip)
    all_goals simp only [namedB, hs, Option.isSome_some, Bool.true_and, ← split_nil hs, bo]
    all_goals cases l <;> simp
    all_goals omega
theorem rightOp0_ok (o : Pn) (hp : o.path.length ≤ 1073741824) (hq : o.other.length ≤ 1073741824) (hd : o.data.length ≤ 1073741824) (hf : Fits en m.length) : WC Tryz.prog pol en (.func 51) [.agg (opC o)] m fun v m' => v = bo (rightOpB o) ∧ m' = m := by
  have h1 := fun (p : List UInt8) (en : Env) (m : Mem) Q (hp : p.length ≤ 1073741824) (hf : Fits en m.length) => (named_ok (m := m) (en := en) p hp hf).rule Q
  refine callPur Tryz.func51 rfl rfl Tryz.ntmps51 Tryz.results51 ?_
  (have c1 : Dm := ⟨⟩; have c2 : Dm := ⟨⟩; have c3 : Dm := ⟨⟩; have c4 : Dm := ⟨⟩; have c5 : Dm := ⟨⟩; have c6 : Dm := ⟨⟩; have c7 : Dm := ⟨⟩; have c8 : Dm := ⟨⟩; have c9 : Dm := ⟨⟩; have c10 : Dm := ⟨⟩; have c11 : Dm := ⟨⟩; have c12 : Dm := ⟨⟩; have c13 : Dm := ⟨⟩) <;> (try simp -implicitDefEqProofs -dsimp (maxSteps := 2000000) (disch := (first | exact dz | fail)) only [go_sem, aR, h1]) <;> (repeat' (first | ((with_reducible refine ds_and ?_ ?_); focus exact kz) | ((with_reducible refine And.intro ?_ ?_); focus exact oz) | ((with_reducible refine pc_and ?_ ?_); focus exact pz) | ((with_reducible first | refine gIf_t ?_ ?_ | refine gIf_f ?_ ?_ | refine ite_t ?_ ?_ | refine ite_p ?_ ?_) <;> (first | (have z := (c1 : Dm); clear z c1; intro c1; try simp only [noR] at c1) | (have z := (c2 : Dm); clear z c2; intro c2; try simp only [noR] at c2) | (have z := (c3 : Dm); clear z c3; intro c3; try simp only [noR] at c3) | (have z := (c4 : Dm); clear z c4; intro c4; try simp only [noR] at c4) | (have z := (c5 : Dm); clear z c5; intro c5; try simp only [noR] at c5) | (have z := (c6 : Dm); clear z c6; intro c6; try simp only [noR] at c6) | (have z := (c7 : Dm); clear z c7; intro c7; try simp only [noR] at c7) | (have z := (c8 : Dm); clear z c8; intro c8; try simp only [noR] at c8) | (have z := (c9 : Dm); clear z c9; intro c9; try simp only [noR] at c9) | (have z := (c10 : Dm); clear z c10; intro c10; try simp only [noR] at c10) | (have z := (c11 : Dm); clear z c11; intro c11; try simp only [noR] at c11) | (have z := (c12 : Dm); clear z c12; intro c12; try simp only [noR] at c12) | (have z := (c13 : Dm); clear z c13; intro c13; try simp only [noR] at c13)) <;> (try simp -implicitDefEqProofs -dsimp (maxSteps := 2000000) (disch := (first | exact dz | fail)) only [go_sem, aR, c13, c12, c11, c10, c9, c8, c7, c6, c5, c4, c3, c2, c1, h1])))) <;> (try with_reducible and_intros) <;> (first | exact fz | skip)
  all_goals simp only [bo, rightOpB, restB]
  all_goals clear hp hq hd hf h1
  all_goals simp_all
  all_goals (try (intros; omega))
  all_goals (have := List.length_pos_iff.2 c7; constructor <;> omega)
theorem rightOp_ok (o : Pn) (hp : o.path.length ≤ 1073741824) (hq : o.other.length ≤ 1073741824) (hd : o.data.length ≤ 1073741824) (hf : Fits en m.length) : WC Tryz.prog pol en (.func 56) [.agg (opC o)] m fun v m' => v = bo (rightOpB o) ∧ m' = m := by
  refine callPur Tryz.func56 rfl rfl Tryz.ntmps56 Tryz.results56 ?_
  obtain ⟨B, hB⟩ : ∃ B, m.length = B := ⟨_, rfl⟩
  have hBk : ∀ k, m.length + k = B + k := fun k => by omega
  cases hs : splitL o.path with
  | none =>
    (have hq1 : Dm := ⟨⟩; have hq2 : Dm := ⟨⟩; have hq3 : Dm := ⟨⟩; have hq4 : Dm := ⟨⟩; have hq5 : Dm := ⟨⟩; have hq6 : Dm := ⟨⟩) <;> (try simp -implicitDefEqProofs -dsimp (maxSteps := 2000000) (disch := (first | exact dz | fail)) only [go_sem, aR, split_eq, hs, splitA]) <;> (repeat' (first | ((with_reducible refine ds_and ?_ ?_); focus exact kz) | ((with_reducible refine And.intro ?_ ?_); focus exact oz) | ((with_reducible refine pc_and ?_ ?_); focus exact pz) | ((with_reducible first | refine gIf_t ?_ ?_ | refine gIf_f ?_ ?_ | refine ite_t ?_ ?_ | refine ite_p ?_ ?_) <;> (first | (have z := (hq1 : Dm); clear z hq1; intro hq1; try simp only [noR] at hq1) | (have z := (hq2 : Dm); clear z hq2; intro hq2; try simp only [noR] at hq2) | (have z := (hq3 : Dm); clear z hq3; intro hq3; try simp only [noR] at hq3) | (have z := (hq4 : Dm); clear z hq4; intro hq4; try simp only [noR] at hq4) | (have z := (hq5 : Dm); clear z hq5; intro hq5; try simp only [noR] at hq5) | (have z := (hq6 : Dm); clear z hq6; intro hq6; try simp only [noR] at hq6)) <;> (try simp -implicitDefEqProofs -dsimp (maxSteps := 2000000) (disch := (first | exact dz | fail)) only [go_sem, aR, hq6, hq5, hq4, hq3, hq2, hq1, split_eq, hs, splitA])))) <;> (try with_reducible and_intros) <;> (first | exact fz | skip)
    all_goals simp [rightOpB, namedB, hs]
  | some l =>
    cases hs2 : splitL o.other with
    | none =>
      (have c1 : Dm := ⟨⟩; have c2 : Dm := ⟨⟩; have c3 : Dm := ⟨⟩; have c4 : Dm := ⟨⟩; have c5 : Dm := ⟨⟩; have c6 : Dm := ⟨⟩; have c7 : Dm := ⟨⟩; have c8 : Dm := ⟨⟩; have c9 : Dm := ⟨⟩; have c10 : Dm := ⟨⟩; have c11 : Dm := ⟨⟩; have c12 : Dm := ⟨⟩; have c13 : Dm := ⟨⟩; have c14 : Dm := ⟨⟩; have c15 : Dm := ⟨⟩; have c16 : Dm := ⟨⟩) <;> (try simp -implicitDefEqProofs -dsimp (maxSteps := 2000000) (disch := (first | exact dz | fail)) only [go_sem, aR, split_eq, hs, hs2, splitA]) <;> (repeat' (first | ((with_reducible refine ds_and ?_ ?_); focus exact kz) | ((with_reducible refine And.intro ?_ ?_); focus exact oz) | ((with_reducible refine pc_and ?_ ?_); focus exact pz) | ((with_reducible first | refine gIf_t ?_ ?_ | refine gIf_f ?_ ?_ | refine ite_t ?_ ?_ | refine ite_p ?_ ?_) <;> (first | (have z := (c1 : Dm); clear z c1; intro c1; try simp only [noR] at c1) | (have z := (c2 : Dm); clear z c2; intro c2; try simp only [noR] at c2) | (have z := (c3 : Dm); clear z c3; intro c3; try simp only [noR] at c3) | (have z := (c4 : Dm); clear z c4; intro c4; try simp only [noR] at c4) | (have z := (c5 : Dm); clear z c5; intro c5; try simp only [noR] at c5) | (have z := (c6 : Dm); clear z c6; intro c6; try simp only [noR] at c6) | (have z := (c7 : Dm); clear z c7; intro c7; try simp only [noR] at c7) | (have z := (c8 : Dm); clear z c8; intro c8; try simp only [noR] at c8) | (have z := (c9 : Dm); clear z c9; intro c9; try simp only [noR] at c9) | (have z := (c10 : Dm); clear z c10; intro c10; try simp only [noR] at c10) | (have z := (c11 : Dm); clear z c11; intro c11; try simp only [noR] at c11) | (have z := (c12 : Dm); clear z c12; intro c12; try simp only [noR] at c12) | (have z := (c13 : Dm); clear z c13; intro c13; try simp only [noR] at c13) | (have z := (c14 : Dm); clear z c14; intro c14; try simp only [noR] at c14) | (have z := (c15 : Dm); clear z c15; intro c15; try simp only [noR] at c15) | (have z := (c16 : Dm); clear z c16; intro c16; try simp only [noR] at c16)) <;> (try simp -implicitDefEqProofs -dsimp (maxSteps := 2000000) (disch := (first | exact dz | fail)) only [go_sem, aR, c16, c15, c14, c13, c12, c11, c10, c9, c8, c7, c6, c5, c4, c3, c2, c1, split_eq, hs, hs2, splitA])))) <;> (try with_reducible and_intros) <;> (first | exact fz | skip)
      all_goals simp only [bo, rightOpB, restB, namedB, hs, hs2]
      all_goals clear hp hq hd hf hs hs2 hBk
      all_goals simp_all
      all_goals (try (intros; omega))
      all_goals (first | rfl | (rw [Bool.eq_iff_iff]; simp; omega))
    | some l2 =>
      (have c1 : Dm := ⟨⟩; have c2 : Dm := ⟨⟩; have c3 : Dm := ⟨⟩; have c4 : Dm := ⟨⟩; have c5 : Dm := ⟨⟩; have c6 : Dm := ⟨⟩; have c7 : Dm := ⟨⟩; have c8 : Dm := ⟨⟩; have c9 : Dm := ⟨⟩; have c10 : Dm := ⟨⟩; have c11 : Dm := ⟨⟩; have c12 : Dm := ⟨⟩; have c13 : Dm := ⟨⟩; have c14 : Dm := ⟨⟩; have c15 : Dm := ⟨⟩; have c16 : Dm := ⟨⟩) <;> (try simp -implicitDefEqProofs -dsimp (maxSteps := 2000000) (disch := (first | exact dz | fail)) only [go_sem, aR, split_eq, hs, hs2, splitA]) <;> (repeat' (first | ((with_reducible refine ds_and ?_ ?_); focus exact kz) | ((with_reducible refine And.intro ?_ ?_); focus exact oz) | ((with_reducible refine pc_and ?_ ?_); focus exact pz) | ((with_reducible first | refine gIf_t ?_ ?_ | refine gIf_f ?_ ?_ | refine ite_t ?_ ?_ | refine ite_p ?_ ?_) <;> (first | (have z := (c1 : Dm); clear z c1; intro c1; try simp only [noR] at c1) | (have z := (c2 : Dm); clear z c2; intro c2; try simp only [noR] at c2) | (have z := (c3 : Dm); clear z c3; intro c3; try simp only [noR] at c3) | (have z := (c4 : Dm); clear z c4; intro c4; try simp only [noR] at c4) | (have z := (c5 : Dm); clear z c5; intro c5; try simp only [noR] at c5) | (have z := (c6 : Dm); clear z c6; intro c6; try simp only [noR] at c6) | (have z := (c7 : Dm); clear z c7; intro c7; try simp only [noR] at c7) | (have z := (c8 : Dm); clear z c8; intro c8; try simp only [noR] at c8) | (have z := (c9 : Dm); clear z c9; intro c9; try simp only [noR] at c9) | (have z := (c10 : Dm); clear z c10; intro c10; try simp only [noR] at c10) | (have z := (c11 : Dm); clear z c11; intro c11; try simp only [noR] at c11) | (have z := (c12 : Dm); clear z c12; intro c12; try simp only [noR] at c12) | (have z := (c13 : Dm); clear z c13; intro c13; try simp only [noR] at c13) | (have z := (c14 : Dm); clear z c14; intro c14; try simp only [noR] at c14) | (have z := (c15 : Dm); clear z c15; intro c15; try simp only [noR] at c15) | (have z := (c16 : Dm); clear z c16; intro c16; try simp only [noR] at c16)) <;> (try simp -implicitDefEqProofs -dsimp (maxSteps := 2000000) (disch := (first | exact dz | fail)) only [go_sem, aR, c16, c15, c14, c13, c12, c11, c10, c9, c8, c7, c6, c5, c4, c3, c2, c1, split_eq, hs, hs2, splitA])))) <;> (try with_reducible and_intros) <;> (first | exact fz | skip)
      all_goals simp only [bo, rightOpB, restB, namedB, hs, hs2]
      all_goals clear hp hq hd hf hs hs2 hBk
      all_goals simp_all
      all_goals (try (intros; omega))
      all_goals (first | rfl | (rw [Bool.eq_iff_iff]; simp; omega))
end
end Go.Proofs.YtcmjidnbbfcbjaaGreatDoor.V.L1
/- Ends of texts; fields of lines; no condition. -/
namespace Go.Proofs.YtcmjidnbbfcbjaaGreatDoor.V
open Go
set_option linter.unusedVariables false
set_option linter.unusedSimpArgs false
set_option maxRecDepth 100000
set_option maxHeartbeats 4000000
noncomputable section
variable {en : Env} {m : Mem}
theorem liteCutSuffix_ok (s p : List UInt8) (hs : s.length < 4611686018427387904) (hp : p.length < 4611686018427387904) : WC Tryz.prog pol en (.func 86) [tx s, tx p] m fun v m' => v = (if isSuf p s = true then .tup [tx (s.take (s.length - p.length)), .sc (.bool true)] else .tup [tx s, .sc (.bool false)]) ∧ m' = m := by
  have h1 := fun (en : Env) (m : Mem) Q => (liteHasSuffix_ok (m := m) (en := en) s p hs hp).rule Q
  refine callPur Tryz.func86 rfl rfl Tryz.ntmps86 Tryz.results86 ?_
  cases h : isSuf p s with
  | true =>
    have := suf_len h
    have hw : ((s.length : Int) - (p.length : Int)).toNat = s.length - p.length := by omega
    (have hq1 : Dm := ⟨⟩; have hq2 : Dm := ⟨⟩; have hq3 : Dm := ⟨⟩; have hq4 : Dm := ⟨⟩; have hq5 : Dm := ⟨⟩; have hq6 : Dm := ⟨⟩) <;> (try simp -implicitDefEqProofs -dsimp (maxSteps := 2000000) (disch := (first | exact dz | fail)) only [go_sem, aR, h1, h, hw]) <;> (repeat' (first | ((with_reducible refine ds_and ?_ ?_); focus exact kz) | ((with_reducible refine And.intro ?_ ?_); focus exact oz) | ((with_reducible refine pc_and ?_ ?_); focus exact pz) | ((with_reducible first | refine gIf_t ?_ ?_ | refine gIf_f ?_ ?_ | refine ite_t ?_ ?_ | refine ite_p ?_ ?_) <;> (first | (have z := (hq1 : Dm); clear z hq1; intro hq1; try simp only [noR] at hq1) | (have z := (hq2 : Dm); clear z hq2; intro hq2; try simp only [noR] at hq2) | (have z := (hq3 : Dm); clear z hq3; intro hq3; try simp only [noR] at hq3) | (have z := (hq4 : Dm); clear z hq4; intro hq4; try simp only [noR] at hq4) | (have z := (hq5 : Dm); clear z hq5; intro hq5; try simp only [noR] at hq5) | (have z := (hq6 : Dm); clear z hq6; intro hq6; try simp only [noR] at hq6)) <;> (try simp -implicitDefEqProofs -dsimp (maxSteps := 2000000) (disch := (first | exact dz | fail)) only [go_sem, aR, hq6, hq5, hq4, hq3, hq2, hq1, h1, h, hw])))) <;> (try with_reducible and_intros) <;> (first | exact fz | skip)
    all_goals trace_state
  | false =>
    (have hq1 : Dm := ⟨⟩; have hq2 : Dm := ⟨⟩; have hq3 : Dm := ⟨⟩; have hq4 : Dm := ⟨⟩; have hq5 : Dm := ⟨⟩; have hq6 : Dm := ⟨⟩) <;> (try simp -implicitDefEqProofs -dsimp (maxSteps := 2000000) (disch := (first | exact dz | fail)) only [go_sem, aR, h1, h]) <;> (repeat' (first | ((with_reducible refine ds_and ?_ ?_); focus exact kz) | ((with_reducible refine And.intro ?_ ?_); focus exact oz) | ((with_reducible refine pc_and ?_ ?_); focus exact pz) | ((with_reducible first | refine gIf_t ?_ ?_ | refine gIf_f ?_ ?_ | refine ite_t ?_ ?_ | refine ite_p ?_ ?_) <;> (first | (have z := (hq1 : Dm); clear z hq1; intro hq1; try simp only [noR] at hq1) | (have z := (hq2 : Dm); clear z hq2; intro hq2; try simp only [noR] at hq2) | (have z := (hq3 : Dm); clear z hq3; intro hq3; try simp only [noR] at hq3) | (have z := (hq4 : Dm); clear z hq4; intro hq4; try simp only [noR] at hq4) | (have z := (hq5 : Dm); clear z hq5; intro hq5; try simp only [noR] at hq5) | (have z := (hq6 : Dm); clear z hq6; intro hq6; try simp only [noR] at hq6)) <;> (try simp -implicitDefEqProofs -dsimp (maxSteps := 2000000) (disch := (first | exact dz | fail)) only [go_sem, aR, hq6, hq5, hq4, hq3, hq2, hq1, h1, h])))) <;> (try with_reducible and_intros) <;> (first | exact fz | skip)
    all_goals trace_state
theorem cutSuffix_ok (s p : List UInt8) (hs : s.length < 4611686018427387904) (hp : p.length < 4611686018427387904) : WC Tryz.prog pol en (.func 58) [tx s, tx p] m fun v m' => v = (if isSuf p s = true then .tup [tx (s.take (s.length - p.length)), .sc (.bool true)] else .tup [tx s, .sc (.bool false)]) ∧ m' = m := by
  have h1 := fun (en : Env) (m : Mem) Q => (liteCutSuffix_ok (m := m) (en := en) s p hs hp).rule Q
  refine callPur Tryz.func58 rfl rfl Tryz.ntmps58 Tryz.results58 ?_
  cases h : isSuf p s with
  | true => (have hq1 : Dm := ⟨⟩; have hq2 : Dm := ⟨⟩; have hq3 : Dm := ⟨⟩; have hq4 : Dm := ⟨⟩; have hq5 : Dm := ⟨⟩; have hq6 : Dm := ⟨⟩) <;> (try simp -implicitDefEqProofs -dsimp (maxSteps := 2000000) (disch := (first | exact dz | fail)) only [go_sem, aR, h1, h]) <;> (repeat' (first | ((with_reducible refine ds_and ?_ ?_); focus exact kz) | ((with_reducible refine And.intro ?_ ?_); focus exact oz) | ((with_reducible refine pc_and ?_ ?_); focus exact pz) | ((with_reducible first | refine gIf_t ?_ ?_ | refine gIf_f ?_ ?_ | refine ite_t ?_ ?_ | refine ite_p ?_ ?_) <;> (first | (have z := (hq1 : Dm); clear z hq1; intro hq1; try simp only [noR] at hq1) | (have z := (hq2 : Dm); clear z hq2; intro hq2; try simp only [noR] at hq2) | (have z := (hq3 : Dm); clear z hq3; intro hq3; try simp only [noR] at hq3) | (have z := (hq4 : Dm); clear z hq4; intro hq4; try simp only [noR] at hq4) | (have z := (hq5 : Dm); clear z hq5; intro hq5; try simp only [noR] at hq5) | (have z := (hq6 : Dm); clear z hq6; intro hq6; try simp only [noR] at hq6)) <;> (try simp -implicitDefEqProofs -dsimp (maxSteps := 2000000) (disch := (first | exact dz | fail)) only [go_sem, aR, hq6, hq5, hq4, hq3, hq2, hq1, h1, h])))) <;> (try with_reducible and_intros) <;> (first | exact fz | skip)
  | false => (have hq1 : Dm := ⟨⟩; have hq2 : Dm := ⟨⟩; have hq3 : Dm := ⟨⟩; have hq4 : Dm := ⟨⟩; have hq5 : Dm := ⟨⟩; have hq6 : Dm := ⟨⟩) <;> (try simp -implicitDefEqProofs -dsimp (maxSteps := 2000000) (disch := (first | exact dz | fail)) only [go_sem, aR, h1, h]) <;> (repeat' (first | ((with_reducible refine ds_and ?_ ?_); focus exact kz) | ((with_reducible refine And.intro ?_ ?_); focus exact oz) | ((with_reducible refine pc_and ?_ ?_); focus exact pz) | ((with_reducible first | refine gIf_t ?_ ?_ | refine gIf_f ?_ ?_ | refine ite_t ?_ ?_ | refine ite_p ?_ ?_) <;> (first | (have z := (hq1 : Dm); clear z hq1; intro hq1; try simp only [noR] at hq1) | (have z := (hq2 : Dm); clear z hq2; intro hq2; try simp only [noR] at hq2) | (have z := (hq3 : Dm); clear z hq3; intro hq3; try simp only [noR] at hq3) | (have z := (hq4 : Dm); clear z hq4; intro hq4; try simp only [noR] at hq4) | (have z := (hq5 : Dm); clear z hq5; intro hq5; try simp only [noR] at hq5) | (have z := (hq6 : Dm); clear z hq6; intro hq6; try simp only [noR] at hq6)) <;> (try simp -implicitDefEqProofs -dsimp (maxSteps := 2000000) (disch := (first | exact dz | fail)) only [go_sem, aR, hq6, hq5, hq4, hq3, hq2, hq1, h1, h])))) <;> (try with_reducible and_intros) <;> (first | exact fz | skip)
end
end Go.Proofs.YtcmjidnbbfcbjaaGreatDoor.V
/- Texts cut at a byte; no condition. -/
namespace Go.Proofs.YtcmjidnbbfcbjaaGreatDoor.V
open Go
set_option linter.unusedVariables false
set_option linter.unusedSimpArgs false
set_option maxRecDepth 100000
set_option maxHeartbeats 4000000
noncomputable section
variable {en : Env} {m : Mem}
theorem idx_spec (c : UInt8) : ∀ l : List UInt8, (Lib.indexByte l c = -1 ∧ c ∉ l) ∨ (∃ k : Nat, Lib.indexByte l c = (k : Int) ∧ k < l.length ∧ l = l.take k ++ c :: l.drop (k + 1) ∧ c ∉ l.take k)
  | [] => Or.inl ⟨rfl, by simp⟩
  | b :: l => by
    unfold Lib.indexByte
    by_cases hb : (b == c) = true
    · right
      rw [if_pos hb]
      have : b = c := by simpa using hb
      subst this
      exact ⟨0, rfl, by simp, by simp, by simp⟩
    · rw [if_neg hb]
      have hne : b ≠ c := by simpa using hb
      rcases idx_spec c l with ⟨h1, h2⟩ | ⟨k, h1, h2, h3, h4⟩
      · left
        rw [if_pos (by simpa using h1)]
        exact ⟨rfl, by simp [h2]; exact fun e => hne e.symm⟩
      · right
        rw [if_neg (by rw [h1, beq_iff_eq]; omega), h1]
        refine ⟨k + 1, by omega, by simpa using h2, ?_, ?_⟩
        · simpa using h3
        · simp [h4]; exact fun e => hne e.symm
theorem cut_idx {c : UInt8} {l : List UInt8} {k : Nat} (h3 : l = l.take k ++ c :: l.drop (k + 1)) (h4 : c ∉ l.take k) : cutL c l = l.take k :: cutL c (l.drop (k + 1)) := by
  conv => lhs; rw [h3]
  exact cut_app _ h4
theorem count_idx {c : UInt8} {l : List UInt8} {k : Nat} (h3 : l = l.take k ++ c :: l.drop (k + 1)) (h4 : c ∉ l.take k) : l.count c = 1 + (l.drop (k + 1)).count c := by
  conv => lhs; rw [h3]
  rw [List.count_append, List.count_eq_zero_of_not_mem h4, List.count_cons_self]; omega
theorem cut_count (c : UInt8) : ∀ l : List UInt8, (cutL c l).length = l.count c + 1
  | [] => rfl
  | b :: l => by
    obtain ⟨w, ws, h⟩ := cut_cons c l
    have ih := cut_count c l
    rw [h] at ih
    rw [cutL, h, List.count_cons]
    by_cases hb : b = c
    · rw [if_pos hb, if_pos (by simp [hb]), List.length_cons, ih]
    · rw [if_neg hb, if_neg (by simp [hb])]
      exact ih
theorem u8_toNat (c : UInt8) : ((c.toNat : Int)).toNat.toUInt8 = c := by simp
theorem countString_eq (s : List UInt8) (c : UInt8) (Q : AV → Mem → Prop) : WC Tryz.prog pol en (.func 156) [tx s, u8v c] m Q = Q (I (s.count c : Nat)) m := by
  refine WC.rule (v0 := I (s.count c : Nat)) (m0 := m) ?_ Q
  refine wcallD (d := dNum countI) rfl ?_ ⟨rfl, rfl⟩
  simp only [dNum, fInt_id, countI, Lib.countByte, u8_toNat]
theorem indexByteString_eq (s : List UInt8) (c : UInt8) (Q : AV → Mem → Prop) : WC Tryz.prog pol en (.func 192) [tx s, u8v c] m Q = Q (I (Lib.indexByte s c)) m := by
  refine WC.rule (v0 := I (Lib.indexByte s c)) (m0 := m) ?_ Q
  refine wcallD (d := dNum Lib.indexByte) rfl ?_ ⟨rfl, rfl⟩
  simp only [dNum, fInt_id, u8_toNat]
theorem indexB_ok (s : List UInt8) (c : UInt8) : WC Tryz.prog pol en (.func 179) [tx s, u8v c] m fun v m' => v = I (Lib.indexByte s c) ∧ m' = m := by
  refine callPur Tryz.func179 rfl rfl Tryz.ntmps179 Tryz.results179 ?_
  (have hq1 : Dm := ⟨⟩; have hq2 : Dm := ⟨⟩; have hq3 : Dm := ⟨⟩; have hq4 : Dm := ⟨⟩; have hq5 : Dm := ⟨⟩; have hq6 : Dm := ⟨⟩) <;> (try simp -implicitDefEqProofs -dsimp (maxSteps := 2000000) (disch := (first | exact dz | fail)) only [go_sem, aR, indexByteString_eq]) <;> (repeat' (first | ((with_reducible refine ds_and ?_ ?_); focus exact kz) | ((with_reducible refine And.intro ?_ ?_); focus exact oz) | ((with_reducible refine pc_and ?_ ?_); focus exact pz) | ((with_reducible first | refine gIf_t ?_ ?_ | refine gIf_f ?_ ?_ | refine ite_t ?_ ?_ | refine ite_p ?_ ?_) <;> (first | (have z := (hq1 : Dm); clear z hq1; intro hq1; try simp only [noR] at hq1) | (have z := (hq2 : Dm); clear z hq2; intro hq2; try simp only [noR] at hq2) | (have z := (hq3 : Dm); clear z hq3; intro hq3; try simp only [noR] at hq3) | (have z := (hq4 : Dm); clear z hq4; intro hq4; try simp only [noR] at hq4) | (have z := (hq5 : Dm); clear z hq5; intro hq5; try simp only [noR] at hq5) | (have z := (hq6 : Dm); clear z hq6; intro hq6; try simp only [noR] at hq6)) <;> (try simp -implicitDefEqProofs -dsimp (maxSteps := 2000000) (disch := (first | exact dz | fail)) only [go_sem, aR, hq6, hq5, hq4, hq3, hq2, hq1, indexByteString_eq])))) <;> (try with_reducible and_intros) <;> (first | exact fz | skip)
theorem indexL_ok (s : List UInt8) (c : UInt8) (hs : s.length ≤ 1073741824) : WC Tryz.prog pol en (.func 157) [tx s, tx [c]] m fun v m' => v = I (Lib.indexByte s c) ∧ m' = m := by
  have h1 := fun (en : Env) (m : Mem) Q => (indexB_ok (m := m) (en := en) s c).rule Q
  refine callPur Tryz.func157 rfl rfl Tryz.ntmps157 Tryz.results157 ?_
  (have hq1 : Dm := ⟨⟩; have hq2 : Dm := ⟨⟩; have hq3 : Dm := ⟨⟩; have hq4 : Dm := ⟨⟩; have hq5 : Dm := ⟨⟩; have hq6 : Dm := ⟨⟩) <;> (try simp -implicitDefEqProofs -dsimp (maxSteps := 2000000) (disch := (first | exact dz | fail)) only [go_sem, aR, h1]) <;> (repeat' (first | ((with_reducible refine ds_and ?_ ?_); focus exact kz) | ((with_reducible refine And.intro ?_ ?_); focus exact oz) | ((with_reducible refine pc_and ?_ ?_); focus exact pz) | ((with_reducible first | refine gIf_t ?_ ?_ | refine gIf_f ?_ ?_ | refine ite_t ?_ ?_ | refine ite_p ?_ ?_) <;> (first | (have z := (hq1 : Dm); clear z hq1; intro hq1; try simp only [noR] at hq1) | (have z := (hq2 : Dm); clear z hq2; intro hq2; try simp only [noR] at hq2) | (have z := (hq3 : Dm); clear z hq3; intro hq3; try simp only [noR] at hq3) | (have z := (hq4 : Dm); clear z hq4; intro hq4; try simp only [noR] at hq4) | (have z := (hq5 : Dm); clear z hq5; intro hq5; try simp only [noR] at hq5) | (have z := (hq6 : Dm); clear z hq6; intro hq6; try simp only [noR] at hq6)) <;> (try simp -implicitDefEqProofs -dsimp (maxSteps := 2000000) (disch := (first | exact dz | fail)) only [go_sem, aR, hq6, hq5, hq4, hq3, hq2, hq1, h1])))) <;> (try with_reducible and_intros) <;> (first | exact fz | skip)
  subst hq2
  simp [Lib.indexByte]
theorem index_ok (s : List UInt8) (c : UInt8) (hs : s.length ≤ 1073741824) : WC Tryz.prog pol en (.func 122) [tx s, tx [c]] m fun v m' => v = I (Lib.indexByte s c) ∧ m' = m := by
  have h1 := fun (en : Env) (m : Mem) Q => (indexL_ok (m := m) (en := en) s c hs).rule Q
  refine callPur Tryz.func122 rfl rfl Tryz.ntmps122 Tryz.results122 ?_
  (have hq1 : Dm := ⟨⟩; have hq2 : Dm := ⟨⟩; have hq3 : Dm := ⟨⟩; have hq4 : Dm := ⟨⟩; have hq5 : Dm := ⟨⟩; have hq6 : Dm := ⟨⟩) <;> (try simp -implicitDefEqProofs -dsimp (maxSteps := 2000000) (disch := (first | exact dz | fail)) only [go_sem, aR, h1]) <;> (repeat' (first | ((with_reducible refine ds_and ?_ ?_); focus exact kz) | ((with_reducible refine And.intro ?_ ?_); focus exact oz) | ((with_reducible refine pc_and ?_ ?_); focus exact pz) | ((with_reducible first | refine gIf_t ?_ ?_ | refine gIf_f ?_ ?_ | refine ite_t ?_ ?_ | refine ite_p ?_ ?_) <;> (first | (have z := (hq1 : Dm); clear z hq1; intro hq1; try simp only [noR] at hq1) | (have z := (hq2 : Dm); clear z hq2; intro hq2; try simp only [noR] at hq2) | (have z := (hq3 : Dm); clear z hq3; intro hq3; try simp only [noR] at hq3) | (have z := (hq4 : Dm); clear z hq4; intro hq4; try simp only [noR] at hq4) | (have z := (hq5 : Dm); clear z hq5; intro hq5; try simp only [noR] at hq5) | (have z := (hq6 : Dm); clear z hq6; intro hq6; try simp only [noR] at hq6)) <;> (try simp -implicitDefEqProofs -dsimp (maxSteps := 2000000) (disch := (first | exact dz | fail)) only [go_sem, aR, hq6, hq5, hq4, hq3, hq2, hq1, h1])))) <;> (try with_reducible and_intros) <;> (first | exact fz | skip)
theorem count_ok (s : List UInt8) (c : UInt8) : WC Tryz.prog pol en (.func 121) [tx s, tx [c]] m fun v m' => v = I (s.count c : Nat) ∧ m' = m := by
  refine callPur Tryz.func121 rfl rfl Tryz.ntmps121 Tryz.results121 ?_
  (have hq1 : Dm := ⟨⟩; have hq2 : Dm := ⟨⟩; have hq3 : Dm := ⟨⟩; have hq4 : Dm := ⟨⟩; have hq5 : Dm := ⟨⟩; have hq6 : Dm := ⟨⟩) <;> (try simp -implicitDefEqProofs -dsimp (maxSteps := 2000000) (disch := (first | exact dz | fail)) only [go_sem, aR, countString_eq]) <;> (repeat' (first | ((with_reducible refine ds_and ?_ ?_); focus exact kz) | ((with_reducible refine And.intro ?_ ?_); focus exact oz) | ((with_reducible refine pc_and ?_ ?_); focus exact pz) | ((with_reducible first | refine gIf_t ?_ ?_ | refine gIf_f ?_ ?_ | refine ite_t ?_ ?_ | refine ite_p ?_ ?_) <;> (first | (have z := (hq1 : Dm); clear z hq1; intro hq1; try simp only [noR] at hq1) | (have z := (hq2 : Dm); clear z hq2; intro hq2; try simp only [noR] at hq2) | (have z := (hq3 : Dm); clear z hq3; intro hq3; try simp only [noR] at hq3) | (have z := (hq4 : Dm); clear z hq4; intro hq4; try simp only [noR] at hq4) | (have z := (hq5 : Dm); clear z hq5; intro hq5; try simp only [noR] at hq5) | (have z := (hq6 : Dm); clear z hq6; intro hq6; try simp only [noR] at hq6)) <;> (try simp -implicitDefEqProofs -dsimp (maxSteps := 2000000) (disch := (first | exact dz | fail)) only [go_sem, aR, hq6, hq5, hq4, hq3, hq2, hq1, countString_eq])))) <;> (try with_reducible and_intros) <;> (first | exact fz | skip)
theorem slR_ownH (id ver n w h : Nat) (k : IntKind) (g : Option Req) (an : Option (Nat × Nat)) (hn : h ≤ n) : slR g an (some (.own id ver 0 n w)) (some w) (some none) (some (some (k, (h : Int)))) = some (.val (.own id ver 0 h w)) := by
  have h1 : (h : Int) ≤ (n : Int) := by omega
  simp [slR, bounds, h1]
theorem set_step {A : List (List UInt8)} {i j : Nat} (w : List UInt8) (hA : A.length = i) : ((A ++ List.replicate (j + 1) []).map tx).set i (tx w) = ((A ++ [w]) ++ List.replicate j []).map tx := by
  rw [← List.map_set]
  congr 1
  rw [List.set_append_right _ _ (by omega), hA, Nat.sub_self, List.replicate_succ, List.set_cons_zero]
  simp
theorem flat1 (n : Nat) (a : AV) : (List.replicate n [a]).flatten = List.replicate n a := by
  induction n with
  | zero => rfl
  | succ n ih => rw [List.replicate_succ, List.flatten_cons, ih]; rfl
theorem flat2 (n : Nat) (a : AV) : ([a] :: List.replicate n [a]).flatten = List.replicate (n + 1) a := by rw [List.flatten_cons, flat1, List.replicate_succ]; rfl
theorem genSplit_ok (s : List UInt8) (c : UInt8) (hs : s.length ≤ 1073741824) (hf : Fits en m.length) : WC Tryz.prog pol en (.func 87) [tx s, tx [c], I 0, I (-1)] m fun v m' => v = sl tx ⟨false, false, cutL c s⟩ ∧ m' = m := by
  have h1 := fun (en : Env) (m : Mem) Q => (count_ok (m := m) (en := en) s c).rule Q
  have hcl : s.count c ≤ s.length := List.count_le_length
  have hcc := cut_count c s
  have hne : ¬ [c] = ([] : List UInt8) := by simp
  have hlt0 : ¬ ((s.length + 1 : Nat) : Int) < ((s.count c + 1 : Nat) : Int) := by omega
  have hsub : ((s.count c + 1 : Nat) : Int) - 1 = (s.count c : Nat) := by omega
  have hleaf : ∀ n, ((List.replicate n (tx [])).all AV.leaf = true) := fun n => by rw [List.all_replicate]; split <;> rfl
  refine callPur Tryz.func87 rfl rfl Tryz.ntmps87 Tryz.results87 ?_
  (have hq1 : Dm := ⟨⟩; have hq2 : Dm := ⟨⟩; have hq3 : Dm := ⟨⟩; have hq4 : Dm := ⟨⟩; have hq5 : Dm := ⟨⟩; have hq6 : Dm := ⟨⟩) <;> (try simp -implicitDefEqProofs -dsimp (maxSteps := 2000000) (disch := (first | exact dz | fail)) only [go_sem, aR, h1, hne, hlt0, hsub, flat2, hleaf]) <;> (repeat' (first | ((with_reducible refine ds_and ?_ ?_); focus exact kz) | ((with_reducible refine And.intro ?_ ?_); focus exact oz) | ((with_reducible refine pc_and ?_ ?_); focus exact pz) | ((with_reducible first | refine gIf_t ?_ ?_ | refine gIf_f ?_ ?_ | refine ite_t ?_ ?_ | refine ite_p ?_ ?_) <;> (first | (have z := (hq1 : Dm); clear z hq1; intro hq1; try simp only [noR] at hq1) | (have z := (hq2 : Dm); clear z hq2; intro hq2; try simp only [noR] at hq2) | (have z := (hq3 : Dm); clear z hq3; intro hq3; try simp only [noR] at hq3) | (have z := (hq4 : Dm); clear z hq4; intro hq4; try simp only [noR] at hq4) | (have z := (hq5 : Dm); clear z hq5; intro hq5; try simp only [noR] at hq5) | (have z := (hq6 : Dm); clear z hq6; intro hq6; try simp only [noR] at hq6)) <;> (try simp -implicitDefEqProofs -dsimp (maxSteps := 2000000) (disch := (first | exact dz | fail)) only [go_sem, aR, hq6, hq5, hq4, hq3, hq2, hq1, h1, hne, hlt0, hsub, flat2, hleaf])))) <;> (try with_reducible and_intros) <;> (first | exact fz | skip)
  have hinit : List.replicate (s.count c + 1) (tx []) = (((cutL c s).take 0) ++ List.replicate (s.count c + 1 - 0) []).map tx := by simp
  show Wq _ _ _ _ _ (m ++ [.cells _ (List.replicate (s.count c + 1) (tx []))]) _
  rw [hinit]
  refine loopF (fun k ts m' => ∃ (i : Nat) (r : List UInt8), ts.length = 66 ∧ tg ts 0 = tx r ∧ tg ts 1 = tx [c] ∧ tg ts 2 = I 0 ∧ tg ts 3 = I (s.count c) ∧ tg ts 8 = .nilS ∧ tg ts 9 = .own m.length 10 0 (s.count c + 1) 1 ∧ tg ts 10 = I i ∧
    m' = m ++ [.cells 10 (((cutL c s).take i ++ List.replicate (s.count c + 1 - i) []).map tx)] ∧ cutL c s = (cutL c s).take i ++ cutL c r ∧ s.count c = i + r.count c ∧ r.length ≤ s.length ∧ k = s.count c - i) (s.count c) ⟨0, s, rfl, rfl, rfl, rfl, rfl, rfl, rfl, rfl, rfl, by simp, by omega, by omega, by omega⟩ ?_
  rintro k ts m' ⟨i, r, hl, t0, t1, t2, t3, t8, t9, t10, rfl, hcut, hcnt, hrl, rfl⟩
  rw [expandT hl]
  have h2 := fun (en : Env) (m : Mem) Q => (index_ok (m := m) (en := en) r c (by omega)).rule Q
  have hlA : (List.take i (cutL c s)).length = i := by rw [List.length_take]; omega
  have hlR : (List.replicate (s.count c + 1 - i) ([] : List UInt8)).length = s.count c + 1 - i := List.length_replicate
  by_cases hlt : (i : Int) < ((s.count c : Nat) : Int)
  · rcases idx_spec c r with ⟨g1, g2⟩ | ⟨k, g1, g2, g3, g4⟩
    · have := List.count_eq_zero_of_not_mem g2; omega
    · (have c1 : Dm := ⟨⟩; have c2 : Dm := ⟨⟩; have c3 : Dm := ⟨⟩; have c4 : Dm := ⟨⟩; have c5 : Dm := ⟨⟩; have c6 : Dm := ⟨⟩) <;> (try simp -implicitDefEqProofs -dsimp (maxSteps := 2000000) (disch := (first | exact dz | fail)) only [go_sem, aR, t0, t1, t2, t3, t8, t9, t10, hlt, h2, g1, Int.add_zero]) <;> (repeat' (first | ((with_reducible refine ds_and ?_ ?_); focus exact kz) | ((with_reducible refine And.intro ?_ ?_); focus exact oz) | ((with_reducible refine pc_and ?_ ?_); focus exact pz) | ((with_reducible first | refine gIf_t ?_ ?_ | refine gIf_f ?_ ?_ | refine ite_t ?_ ?_ | refine ite_p ?_ ?_) <;> (first | (have z := (c1 : Dm); clear z c1; intro c1; try simp only [noR] at c1) | (have z := (c2 : Dm); clear z c2; intro c2; try simp only [noR] at c2) | (have z := (c3 : Dm); clear z c3; intro c3; try simp only [noR] at c3) | (have z := (c4 : Dm); clear z c4; intro c4; try simp only [noR] at c4) | (have z := (c5 : Dm); clear z c5; intro c5; try simp only [noR] at c5) | (have z := (c6 : Dm); clear z c6; intro c6; try simp only [noR] at c6)) <;> (try simp -implicitDefEqProofs -dsimp (maxSteps := 2000000) (disch := (first | exact dz | fail)) only [go_sem, aR, c6, c5, c4, c3, c2, c1, t0, t1, t2, t3, t8, t9, t10, hlt, h2, g1, Int.add_zero])))) <;> (try with_reducible and_intros) <;> (first | exact fz | skip)
      have hct := cut_idx g3 g4
      have hcn := count_idx g3 g4
      rw [hct] at hcut
      have hL : (cutL c s).take (i + 1) = (cutL c s).take i ++ [r.take k] := by
        conv => lhs; rw [hcut]
        rw [List.take_append, hlA, List.take_of_length_le (by omega), show i + 1 - i = 1 by omega]; rfl
      refine ⟨_, ?_, i + 1, r.drop (k + 1), rfl, rfl, ?_, ?_, by omega, ?_, rfl⟩
      · omega
      · congr 3
        rw [show s.count c + 1 - i = (s.count c + 1 - (i + 1)) + 1 by omega, set_step (r.take k) hlA, ← hL]
      · rw [hL, List.append_assoc]; exact hcut
      · rw [List.length_drop]; omega
  · have hr0 : r.count c = 0 := by omega
    have hcr : cutL c r = [r] := cut_none (List.count_eq_zero.1 hr0)
    rw [hcr] at hcut
    have hset : ((List.take i (cutL c s) ++ List.replicate (s.count c + 1 - i) []).map tx).set i (tx r) = (cutL c s).map tx := by
      rw [show s.count c + 1 - i = 0 + 1 by omega, set_step r hlA, ← hcut]; simp
    (have c1 : Dm := ⟨⟩; have c2 : Dm := ⟨⟩; have c3 : Dm := ⟨⟩; have c4 : Dm := ⟨⟩; have c5 : Dm := ⟨⟩; have c6 : Dm := ⟨⟩) <;> (try simp -implicitDefEqProofs -dsimp (maxSteps := 2000000) (disch := (first | exact dz | fail)) only [go_sem, aR, t0, t1, t2, t3, t8, t9, t10, hlt, slR_ownH, hset]) <;> (repeat' (first | ((with_reducible refine ds_and ?_ ?_); focus exact kz) | ((with_reducible refine And.intro ?_ ?_); focus exact oz) | ((with_reducible refine pc_and ?_ ?_); focus exact pz) | ((with_reducible first | refine gIf_t ?_ ?_ | refine gIf_f ?_ ?_ | refine ite_t ?_ ?_ | refine ite_p ?_ ?_) <;> (first | (have z := (c1 : Dm); clear z c1; intro c1; try simp only [noR] at c1) | (have z := (c2 : Dm); clear z c2; intro c2; try simp only [noR] at c2) | (have z := (c3 : Dm); clear z c3; intro c3; try simp only [noR] at c3) | (have z := (c4 : Dm); clear z c4; intro c4; try simp only [noR] at c4) | (have z := (c5 : Dm); clear z c5; intro c5; try simp only [noR] at c5) | (have z := (c6 : Dm); clear z c6; intro c6; try simp only [noR] at c6)) <;> (try simp -implicitDefEqProofs -dsimp (maxSteps := 2000000) (disch := (first | exact dz | fail)) only [go_sem, aR, c6, c5, c4, c3, c2, c1, t0, t1, t2, t3, t8, t9, t10, hlt, slR_ownH, hset])))) <;> (try with_reducible and_intros) <;> (first | exact fz | skip)
    have hlen : i + 1 = (cutL c s).length := by omega
    rw [hlen, frzQ_own clean_tx tx_ifc (cutL c s) (by rw [getM0]; rfl) (Nat.le_refl _)]
    simp [lock, sl]
theorem split_ok' (s : List UInt8) (c : UInt8) (hs : s.length ≤ 1073741824) (hf : Fits en m.length) : WC Tryz.prog pol en (.func 59) [tx s, tx [c]] m fun v m' => v = sl tx ⟨false, false, cutL c s⟩ ∧ m' = m := by
  have h1 := fun (en : Env) (m : Mem) Q (hf : Fits en m.length) => (genSplit_ok (m := m) (en := en) s c hs hf).rule Q
  refine callPur Tryz.func59 rfl rfl Tryz.ntmps59 Tryz.results59 ?_
  (have hq1 : Dm := ⟨⟩; have hq2 : Dm := ⟨⟩; have hq3 : Dm := ⟨⟩; have hq4 : Dm := ⟨⟩; have hq5 : Dm := ⟨⟩; have hq6 : Dm := ⟨⟩) <;> (try simp -implicitDefEqProofs -dsimp (maxSteps := 2000000) (disch := (first | exact dz | fail)) only [go_sem, aR, h1, frzQ_sl clean_tx]) <;> (repeat' (first | ((with_reducible refine ds_and ?_ ?_); focus exact kz) | ((with_reducible refine And.intro ?_ ?_); focus exact oz) | ((with_reducible refine pc_and ?_ ?_); focus exact pz) | ((with_reducible first | refine gIf_t ?_ ?_ | refine gIf_f ?_ ?_ | refine ite_t ?_ ?_ | refine ite_p ?_ ?_) <;> (first | (have z := (hq1 : Dm); clear z hq1; intro hq1; try simp only [noR] at hq1) | (have z := (hq2 : Dm); clear z hq2; intro hq2; try simp only [noR] at hq2) | (have z := (hq3 : Dm); clear z hq3; intro hq3; try simp only [noR] at hq3) | (have z := (hq4 : Dm); clear z hq4; intro hq4; try simp only [noR] at hq4) | (have z := (hq5 : Dm); clear z hq5; intro hq5; try simp only [noR] at hq5) | (have z := (hq6 : Dm); clear z hq6; intro hq6; try simp only [noR] at hq6)) <;> (try simp -implicitDefEqProofs -dsimp (maxSteps := 2000000) (disch := (first | exact dz | fail)) only [go_sem, aR, hq6, hq5, hq4, hq3, hq2, hq1, h1, frzQ_sl clean_tx])))) <;> (try with_reducible and_intros) <;> (first | exact fz | skip)
  all_goals trace_state
end
end Go.Proofs.YtcmjidnbbfcbjaaGreatDoor.V
/- Some operations; fields of a line; no condition. -/
namespace Go.Proofs.YtcmjidnbbfcbjaaGreatDoor.V
open Go
set_option linter.unusedVariables false
set_option linter.unusedSimpArgs false
set_option maxRecDepth 100000
set_option maxHeartbeats 4000000
noncomputable section
variable {en : Env} {m : Mem}
theorem some_ok (t : Sl Pn) (ht : t.l.length ≤ 1048576) (hf : Fits en m.length) : WC Tryz.prog pol en (.func 10) [slf opC t] m fun v m' => v = slf opC (if 40 < t.l.length then t.sub 0 40 else t) ∧ m' = m := by
  refine callPur Tryz.func10 rfl rfl Tryz.ntmps10 Tryz.results10 ?_
  by_cases h : (40 : Int) < (t.l.length : Int)
  · rw [if_pos (by omega)]
    (have hq1 : Dm := ⟨⟩; have hq2 : Dm := ⟨⟩; have hq3 : Dm := ⟨⟩; have hq4 : Dm := ⟨⟩; have hq5 : Dm := ⟨⟩; have hq6 : Dm := ⟨⟩) <;> (try simp -implicitDefEqProofs -dsimp (maxSteps := 2000000) (disch := (first | exact dz | fail)) only [go_sem, aR, h]) <;> (repeat' (first | ((with_reducible refine ds_and ?_ ?_); focus exact kz) | ((with_reducible refine And.intro ?_ ?_); focus exact oz) | ((with_reducible refine pc_and ?_ ?_); focus exact pz) | ((with_reducible first | refine gIf_t ?_ ?_ | refine gIf_f ?_ ?_ | refine ite_t ?_ ?_ | refine ite_p ?_ ?_) <;> (first | (have z := (hq1 : Dm); clear z hq1; intro hq1; try simp only [noR] at hq1) | (have z := (hq2 : Dm); clear z hq2; intro hq2; try simp only [noR] at hq2) | (have z := (hq3 : Dm); clear z hq3; intro hq3; try simp only [noR] at hq3) | (have z := (hq4 : Dm); clear z hq4; intro hq4; try simp only [noR] at hq4) | (have z := (hq5 : Dm); clear z hq5; intro hq5; try simp only [noR] at hq5) | (have z := (hq6 : Dm); clear z hq6; intro hq6; try simp only [noR] at hq6)) <;> (try simp -implicitDefEqProofs -dsimp (maxSteps := 2000000) (disch := (first | exact dz | fail)) only [go_sem, aR, hq6, hq5, hq4, hq3, hq2, hq1, h])))) <;> (try with_reducible and_intros) <;> (first | exact fz | skip)
  · rw [if_neg (by omega)]
    (have hq1 : Dm := ⟨⟩; have hq2 : Dm := ⟨⟩; have hq3 : Dm := ⟨⟩; have hq4 : Dm := ⟨⟩; have hq5 : Dm := ⟨⟩; have hq6 : Dm := ⟨⟩) <;> (try simp -implicitDefEqProofs -dsimp (maxSteps := 2000000) (disch := (first | exact dz | fail)) only [go_sem, aR, h]) <;> (repeat' (first | ((with_reducible refine ds_and ?_ ?_); focus exact kz) | ((with_reducible refine And.intro ?_ ?_); focus exact oz) | ((with_reducible refine pc_and ?_ ?_); focus exact pz) | ((with_reducible first | refine gIf_t ?_ ?_ | refine gIf_f ?_ ?_ | refine ite_t ?_ ?_ | refine ite_p ?_ ?_) <;> (first | (have z := (hq1 : Dm); clear z hq1; intro hq1; try simp only [noR] at hq1) | (have z := (hq2 : Dm); clear z hq2; intro hq2; try simp only [noR] at hq2) | (have z := (hq3 : Dm); clear z hq3; intro hq3; try simp only [noR] at hq3) | (have z := (hq4 : Dm); clear z hq4; intro hq4; try simp only [noR] at hq4) | (have z := (hq5 : Dm); clear z hq5; intro hq5; try simp only [noR] at hq5) | (have z := (hq6 : Dm); clear z hq6; intro hq6; try simp only [noR] at hq6)) <;> (try simp -implicitDefEqProofs -dsimp (maxSteps := 2000000) (disch := (first | exact dz | fail)) only [go_sem, aR, hq6, hq5, hq4, hq3, hq2, hq1, h])))) <;> (try with_reducible and_intros) <;> (first | exact fz | skip)
/-- A rune of more than one byte has no byte that stands for a sign of its own. -/
theorem dec_wide {s : List UInt8} {i : Nat} {b : UInt8} (hb : s[i]? = some b) (h : 128 ≤ b.toNat) : i + (Utf8.decode ⟨⟨s⟩⟩ i).2 ≤ s.length ∧ ∀ j c, i ≤ j → j < i + (Utf8.decode ⟨⟨s⟩⟩ i).2 → s[j]? = some c → 128 ≤ c.toNat := by
  obtain ⟨hi, he⟩ := List.getElem?_eq_some_iff.1 hb
  have hg : ∀ k, (⟨⟨s⟩⟩ : ByteArray).get! k = s.getD k default := fun k => by
    show (⟨s⟩ : Array UInt8)[k]! = _
    by_cases hk : k < s.length
    · simp [hk]
    · simp [hk]
  have hsz : (⟨⟨s⟩⟩ : ByteArray).size = s.length := rfl
  have h0 : (⟨⟨s⟩⟩ : ByteArray).get! i = b := by rw [hg, List.getD_eq_getElem?_getD, hb]; rfl
  have hgc : ∀ k c, s[k]? = some c → (⟨⟨s⟩⟩ : ByteArray).get! k = c := fun k c hc => by rw [hg, List.getD_eq_getElem?_getD, hc]; rfl
  have hd := Lib.decode_at ⟨⟨s⟩⟩ i
  rw [hsz, h0] at hd
  have hlt := b.toNat_lt
  generalize e1 : (⟨⟨s⟩⟩ : ByteArray).get! (i + 1) = c1 at hd
  generalize e2 : (⟨⟨s⟩⟩ : ByteArray).get! (i + 2) = c2 at hd
  generalize e3 : (⟨⟨s⟩⟩ : ByteArray).get! (i + 3) = c3 at hd
  have fin : ∀ w : Nat, (w = 1 ∨ (w = 2 ∧ i + 1 < s.length ∧ 128 ≤ c1.toNat) ∨ (w = 3 ∧ i + 2 < s.length ∧ 128 ≤ c1.toNat ∧ 128 ≤ c2.toNat) ∨ (w = 4 ∧ i + 3 < s.length ∧ 128 ≤ c1.toNat ∧ 128 ≤ c2.toNat ∧ 128 ≤ c3.toNat)) →
      i + w ≤ s.length ∧ ∀ j c, i ≤ j → j < i + w → s[j]? = some c → 128 ≤ c.toNat := by
    intro w hw
    refine ⟨by omega, fun j c hj hj2 hc => ?_⟩
    have hjc := hgc j c hc
    have : j = i ∨ j = i + 1 ∨ j = i + 2 ∨ j = i + 3 := by omega
    rcases this with rfl | rfl | rfl | rfl
    · rw [hb] at hc; cases hc; exact h
    · rw [e1] at hjc; subst hjc; omega
    · rw [e2] at hjc; subst hjc; omega
    · rw [e3] at hjc; subst hjc; omega
  refine fin _ ?_
  rw [hd]
  unfold Lib.decodeN
  repeat' split
  all_goals first | (left; rfl) | (right; left; exact ⟨rfl, by omega, by omega⟩) | (right; right; left; exact ⟨rfl, by omega, by omega, by omega⟩) | (right; right; right; exact ⟨rfl, by omega, by omega, by omega, by omega⟩) | (exfalso; omega)
@[go_sem] theorem ownT35 : ownT Tryz.prog 35 = some (10, 1) := by kernel_rfl
/-- What is cut so far. -/
structure CutS (s : List UInt8) (i fr : Nat) (o : List (List UInt8)) : Prop where
  le : fr ≤ i
  il : i ≤ s.length
  ol : o.length ≤ fr
  no : ∀ (j : Nat) c, fr ≤ j → j < i → s[j]? = some c → c ≠ 32
  eq : cutL 32 s = o ++ cutL 32 (s.drop fr)
theorem CutS.mid {s : List UInt8} {i fr : Nat} {o : List (List UInt8)} (h : CutS s i fr o) : (32 : UInt8) ∉ (s.drop fr).take (i - fr) := by
  intro hm
  obtain ⟨k, hk⟩ := List.getElem?_of_mem hm
  rw [List.getElem?_take] at hk
  split at hk
  · rename_i hlt
    rw [List.getElem?_drop] at hk
    exact h.no (fr + k) 32 (by omega) (by omega) hk rfl
  · cases hk
theorem CutS.blank {s : List UInt8} {i fr : Nat} {o : List (List UInt8)} (h : CutS s i fr o) (hb : s[i]? = some 32) : CutS s (i + 1) (i + 1) (o ++ [(s.drop fr).take (i - fr)]) := by
  have hi := (List.getElem?_eq_some_iff.1 hb).1
  have h1 := h.le
  have h2 := h.ol
  refine ⟨by omega, by omega, by simp; omega, fun j c h1 h2 => by omega, ?_⟩
  rw [h.eq, List.append_assoc]
  congr 1
  have e : s.drop fr = (s.drop fr).take (i - fr) ++ 32 :: s.drop (i + 1) := by
    conv => lhs; rw [← List.take_append_drop (i - fr) (s.drop fr)]
    congr 1
    rw [List.drop_drop, show fr + (i - fr) = i by omega]
    rw [List.drop_eq_getElem_cons hi]
    congr 1
    exact (List.getElem?_eq_some_iff.1 hb).2
  conv => lhs; rw [e]
  rw [cut_app _ h.mid]; rfl
theorem CutS.more {s : List UInt8} {i fr w : Nat} {o : List (List UInt8)} (h : CutS s i fr o) (hw : i + w ≤ s.length) (hn : ∀ j c, i ≤ j → j < i + w → s[j]? = some c → c ≠ 32) : CutS s (i + w) fr o := by
  have h1 := h.le
  refine ⟨by omega, hw, h.ol, fun j c g1 g2 hc => ?_, h.eq⟩
  by_cases hj : j < i
  · exact h.no j c g1 hj hc
  · exact hn j c (by omega) g2 hc
theorem CutS.last {s : List UInt8} {fr : Nat} {o : List (List UInt8)} (h : CutS s s.length fr o) : cutL 32 s = o ++ [s.drop fr] := by
  have := h.mid
  rw [List.take_of_length_le (by simp)] at this
  rw [h.eq, cut_none this]
theorem set_last (o : List (List UInt8)) (w : List UInt8) : ((o ++ [[]]).map tx).set o.length (tx w) = (o ++ [w]).map tx := by
  rw [← List.map_set]
  congr 1
  rw [List.set_append_right _ _ (Nat.le_refl _), Nat.sub_self, List.set_cons_zero]
theorem u32_iff {b : UInt8} : (b.toNat : Int) = 32 ↔ b = 32 := by
  constructor
  · intro h
    have : b.toNat = 32 := by omega
    exact UInt8.toNat_inj.1 this
  · rintro rfl; rfl
theorem fields_ok (s : List UInt8) (hs : s.length ≤ 1073741824) (hf : Fits en m.length) : WC Tryz.prog pol en (.func 88) [tx s] m fun v m' => v = sl tx ⟨false, false, cutL 32 s⟩ ∧ m' = m := by
  refine callPur Tryz.func88 rfl rfl Tryz.ntmps88 Tryz.results88 ?_
  (have hq1 : Dm := ⟨⟩; have hq2 : Dm := ⟨⟩; have hq3 : Dm := ⟨⟩; have hq4 : Dm := ⟨⟩; have hq5 : Dm := ⟨⟩; have hq6 : Dm := ⟨⟩) <;> (try simp -implicitDefEqProofs -dsimp (maxSteps := 2000000) (disch := (first | exact dz | fail)) only [go_sem, aR, ]) <;> (repeat' (first | ((with_reducible refine ds_and ?_ ?_); focus exact kz) | ((with_reducible refine And.intro ?_ ?_); focus exact oz) | ((with_reducible refine pc_and ?_ ?_); focus exact pz) | ((with_reducible first | refine gIf_t ?_ ?_ | refine gIf_f ?_ ?_ | refine ite_t ?_ ?_ | refine ite_p ?_ ?_) <;> (first | (have z := (hq1 : Dm); clear z hq1; intro hq1; try simp only [noR] at hq1) | (have z := (hq2 : Dm); clear z hq2; intro hq2; try simp only [noR] at hq2) | (have z := (hq3 : Dm); clear z hq3; intro hq3; try simp only [noR] at hq3) | (have z := (hq4 : Dm); clear z hq4; intro hq4; try simp only [noR] at hq4) | (have z := (hq5 : Dm); clear z hq5; intro hq5; try simp only [noR] at hq5) | (have z := (hq6 : Dm); clear z hq6; intro hq6; try simp only [noR] at hq6)) <;> (try simp -implicitDefEqProofs -dsimp (maxSteps := 2000000) (disch := (first | exact dz | fail)) only [go_sem, aR, hq6, hq5, hq4, hq3, hq2, hq1])))) <;> (try with_reducible and_intros) <;> (first | exact fz | skip)
  refine loopF (fun k ts m' => ∃ (i fr ver : Nat) (o : List (List UInt8)), ts.length = 41 ∧ tg ts 0 = tx s ∧ tg ts 3 = .own m.length ver 0 (o.length + 1) 1 ∧ tg ts 4 = .sc (.int .i32 32) ∧ tg ts 5 = I fr ∧ tg ts 10 = .it (m.length + 1) ∧
    m' = m ++ [.cells ver ((o ++ [[]]).map tx), .iter ⟨⟨s⟩⟩ i] ∧ CutS s i fr o ∧ k = s.length - i) s.length ⟨0, 0, _, [], rfl, rfl, rfl, rfl, rfl, rfl, by simp, ⟨by omega, by omega, by simp, fun j c h1 h2 => by omega, by simp⟩, by omega⟩ ?_
  rintro k ts m' ⟨i, fr, ver, o, hl, h0, h3, h4, h5, h10, rfl, hc, rfl⟩
  rw [expandT hl]
  have hle := hc.le
  have hil := hc.il
  have hol := hc.ol
  have hw : IntKind.i64.wrap (((o.length + 1 : Nat) : Int) - 1) = (o.length : Int) := by rw [i64w (by omega)]; omega
  by_cases hlt : i < s.length
  · obtain ⟨b, hb⟩ : ∃ b, s[i]? = some b := ⟨_, List.getElem?_eq_getElem hlt⟩
    by_cases hlo : b.toNat < 128
    · have hd := dec_lo hb hlo
      (have e1 : Dm := ⟨⟩; have e2 : Dm := ⟨⟩; have e3 : Dm := ⟨⟩; have e4 : Dm := ⟨⟩; have e5 : Dm := ⟨⟩; have e6 : Dm := ⟨⟩) <;> (try simp -implicitDefEqProofs -dsimp (maxSteps := 2000000) (disch := (first | exact dz | fail)) only [go_sem, aR, h0, h3, h4, h5, h10, hlt, hd, hw, set_last]) <;> (repeat' (first | ((with_reducible refine ds_and ?_ ?_); focus exact kz) | ((with_reducible refine And.intro ?_ ?_); focus exact oz) | ((with_reducible refine pc_and ?_ ?_); focus exact pz) | ((with_reducible first | refine gIf_t ?_ ?_ | refine gIf_f ?_ ?_ | refine ite_t ?_ ?_ | refine ite_p ?_ ?_) <;> (first | (have z := (e1 : Dm); clear z e1; intro e1; try simp only [noR] at e1) | (have z := (e2 : Dm); clear z e2; intro e2; try simp only [noR] at e2) | (have z := (e3 : Dm); clear z e3; intro e3; try simp only [noR] at e3) | (have z := (e4 : Dm); clear z e4; intro e4; try simp only [noR] at e4) | (have z := (e5 : Dm); clear z e5; intro e5; try simp only [noR] at e5) | (have z := (e6 : Dm); clear z e6; intro e6; try simp only [noR] at e6)) <;> (try simp -implicitDefEqProofs -dsimp (maxSteps := 2000000) (disch := (first | exact dz | fail)) only [go_sem, aR, e6, e5, e4, e3, e2, e1, h0, h3, h4, h5, h10, hlt, hd, hw, set_last])))) <;> (try with_reducible and_intros) <;> (first | exact fz | skip)
      · obtain rfl := u32_iff.1 e1
        exact ⟨_, by omega, i + 1, i + 1, nextV 10 ver, o ++ [(s.drop fr).take (i - fr)], by simp, rfl, by simp, hc.blank hb, rfl⟩
      · exact ⟨_, by omega, i + 1, fr, ver, o, rfl, rfl, rfl, hc.more (by omega) (fun j c g1 g2 hcj e => by
          have : j = i := by omega
          subst this
          rw [hb] at hcj; cases hcj
          exact e1 (u32_iff.2 e)), rfl⟩
    · have hd := dec_hi hb (by omega)
      have hwd := dec_wide hb (by omega)
      (have e1 : Dm := ⟨⟩; have e2 : Dm := ⟨⟩; have e3 : Dm := ⟨⟩; have e4 : Dm := ⟨⟩; have e5 : Dm := ⟨⟩; have e6 : Dm := ⟨⟩) <;> (try simp -implicitDefEqProofs -dsimp (maxSteps := 2000000) (disch := (first | exact dz | fail)) only [go_sem, aR, h0, h3, h4, h5, h10, hlt, hw, set_last]) <;> (repeat' (first | ((with_reducible refine ds_and ?_ ?_); focus exact kz) | ((with_reducible refine And.intro ?_ ?_); focus exact oz) | ((with_reducible refine pc_and ?_ ?_); focus exact pz) | ((with_reducible first | refine gIf_t ?_ ?_ | refine gIf_f ?_ ?_ | refine ite_t ?_ ?_ | refine ite_p ?_ ?_) <;> (first | (have z := (e1 : Dm); clear z e1; intro e1; try simp only [noR] at e1) | (have z := (e2 : Dm); clear z e2; intro e2; try simp only [noR] at e2) | (have z := (e3 : Dm); clear z e3; intro e3; try simp only [noR] at e3) | (have z := (e4 : Dm); clear z e4; intro e4; try simp only [noR] at e4) | (have z := (e5 : Dm); clear z e5; intro e5; try simp only [noR] at e5) | (have z := (e6 : Dm); clear z e6; intro e6; try simp only [noR] at e6)) <;> (try simp -implicitDefEqProofs -dsimp (maxSteps := 2000000) (disch := (first | exact dz | fail)) only [go_sem, aR, e6, e5, e4, e3, e2, e1, h0, h3, h4, h5, h10, hlt, hw, set_last])))) <;> (try with_reducible and_intros) <;> (first | exact fz | skip)
      exact ⟨s.length - (i + (Utf8.decode ⟨⟨s⟩⟩ i).2), by omega, i + (Utf8.decode ⟨⟨s⟩⟩ i).2, fr, ver, o, rfl, rfl, rfl, hc.more hwd.1 (fun j c g1 g2 hcj e => by
        have := hwd.2 j c g1 g2 hcj
        rw [e] at this; simp at this), rfl⟩
  · obtain rfl : i = s.length := by omega
    (have e1 : Dm := ⟨⟩; have e2 : Dm := ⟨⟩; have e3 : Dm := ⟨⟩; have e4 : Dm := ⟨⟩; have e5 : Dm := ⟨⟩; have e6 : Dm := ⟨⟩) <;> (try simp -implicitDefEqProofs -dsimp (maxSteps := 2000000) (disch := (first | exact dz | fail)) only [go_sem, aR, h0, h3, h4, h5, h10, hlt, hw, set_last]) <;> (repeat' (first | ((with_reducible refine ds_and ?_ ?_); focus exact kz) | ((with_reducible refine And.intro ?_ ?_); focus exact oz) | ((with_reducible refine pc_and ?_ ?_); focus exact pz) | ((with_reducible first | refine gIf_t ?_ ?_ | refine gIf_f ?_ ?_ | refine ite_t ?_ ?_ | refine ite_p ?_ ?_) <;> (first | (have z := (e1 : Dm); clear z e1; intro e1; try simp only [noR] at e1) | (have z := (e2 : Dm); clear z e2; intro e2; try simp only [noR] at e2) | (have z := (e3 : Dm); clear z e3; intro e3; try simp only [noR] at e3) | (have z := (e4 : Dm); clear z e4; intro e4; try simp only [noR] at e4) | (have z := (e5 : Dm); clear z e5; intro e5; try simp only [noR] at e5) | (have z := (e6 : Dm); clear z e6; intro e6; try simp only [noR] at e6)) <;> (try simp -implicitDefEqProofs -dsimp (maxSteps := 2000000) (disch := (first | exact dz | fail)) only [go_sem, aR, e6, e5, e4, e3, e2, e1, h0, h3, h4, h5, h10, hlt, hw, set_last])))) <;> (try with_reducible and_intros) <;> (first | exact fz | skip)
    rw [show o.length + 1 = (o ++ [s.drop fr]).length by simp, frzQ_own clean_tx tx_ifc (o ++ [s.drop fr]) (by rw [getM0]; rfl) (Nat.le_refl _), ← hc.last]
    simp [lock, sl]
end
end Go.Proofs.YtcmjidnbbfcbjaaGreatDoor.V
/- Words of operations, numbers; no condition. -/
namespace Go.Proofs.YtcmjidnbbfcbjaaGreatDoor.V
open Go
set_option linter.unusedVariables false
set_option linter.unusedSimpArgs false
set_option maxRecDepth 100000
set_option maxHeartbeats 4000000
noncomputable section
variable {en : Env} {m : Mem}
theorem idxR_str (a b c d e f g h j : AV) (i : Int) (hl : 0 ≤ i ∧ i < 9) : idxR Tryz.prog (some (.slice 9)) (some (.lst 9 [a, b, c, d, e, f, g, h, j] true)) (some (.sc (.int .u8 i))) = some (.val (.cptr ([a, b, c, d, e, f, g, h, j].drop i.toNat))) := by
  simp only [idxR, Option.bind_some, asI, show szOf Tryz.prog 9 = some 1 from by kernel_rfl, Nat.mul_one]
  rw [if_pos ⟨hl.1, by omega, by simp; omega⟩]
theorem ldR_c (c : AV) (cs : List AV) (n : Nat) : ldR (some (.cptr (c :: cs))) (some n) (some false) = some (.val c) := rfl
theorem words_ok (k : Int) (hf : Fits en m.length) : WC Tryz.prog pol en (.func 81) [.sc (.int .u8 k)] m fun v m' => v = tx (wordL k) ∧ m' = m := by
  refine callPur Tryz.func81 rfl rfl Tryz.ntmps81 Tryz.results81 ?_
  (have c1 : Dm := ⟨⟩; have c2 : Dm := ⟨⟩; have c3 : Dm := ⟨⟩; have c4 : Dm := ⟨⟩; have c5 : Dm := ⟨⟩; have c6 : Dm := ⟨⟩; have c7 : Dm := ⟨⟩; have c8 : Dm := ⟨⟩) <;> (try simp -implicitDefEqProofs -dsimp (maxSteps := 2000000) (disch := (first | exact dz | fail)) only [go_sem, aR, ]) <;> (repeat' (first | ((with_reducible refine ds_and ?_ ?_); focus exact kz) | ((with_reducible refine And.intro ?_ ?_); focus exact oz) | ((with_reducible refine pc_and ?_ ?_); focus exact pz) | ((with_reducible first | refine gIf_t ?_ ?_ | refine gIf_f ?_ ?_ | refine ite_t ?_ ?_ | refine ite_p ?_ ?_) <;> (first | (have z := (c1 : Dm); clear z c1; intro c1; try simp only [noR] at c1) | (have z := (c2 : Dm); clear z c2; intro c2; try simp only [noR] at c2) | (have z := (c3 : Dm); clear z c3; intro c3; try simp only [noR] at c3) | (have z := (c4 : Dm); clear z c4; intro c4; try simp only [noR] at c4) | (have z := (c5 : Dm); clear z c5; intro c5; try simp only [noR] at c5) | (have z := (c6 : Dm); clear z c6; intro c6; try simp only [noR] at c6) | (have z := (c7 : Dm); clear z c7; intro c7; try simp only [noR] at c7) | (have z := (c8 : Dm); clear z c8; intro c8; try simp only [noR] at c8)) <;> (try simp -implicitDefEqProofs -dsimp (maxSteps := 2000000) (disch := (first | exact dz | fail)) only [go_sem, aR, c8, c7, c6, c5, c4, c3, c2, c1])))) <;> (try with_reducible and_intros) <;> (first | exact fz | skip)
  all_goals simp only [wordL]
  all_goals simp_all
theorem word_ok (k : Int) (hk : 0 ≤ k ∧ k ≤ 255) (hf : Fits en m.length) : WC Tryz.prog pol en (.func 84) [.sc (.int .u8 k)] m fun v m' => v = tx (wordL k) ∧ m' = m := by
  refine callPur Tryz.func84 rfl rfl Tryz.ntmps84 Tryz.results84 ?_
  by_cases h9 : 9 ≤ k
  · (have hq1 : Dm := ⟨⟩; have hq2 : Dm := ⟨⟩; have hq3 : Dm := ⟨⟩; have hq4 : Dm := ⟨⟩; have hq5 : Dm := ⟨⟩; have hq6 : Dm := ⟨⟩) <;> (try simp -implicitDefEqProofs -dsimp (maxSteps := 2000000) (disch := (first | exact dz | fail)) only [go_sem, aR, h9]) <;> (repeat' (first | ((with_reducible refine ds_and ?_ ?_); focus exact kz) | ((with_reducible refine And.intro ?_ ?_); focus exact oz) | ((with_reducible refine pc_and ?_ ?_); focus exact pz) | ((with_reducible first | refine gIf_t ?_ ?_ | refine gIf_f ?_ ?_ | refine ite_t ?_ ?_ | refine ite_p ?_ ?_) <;> (first | (have z := (hq1 : Dm); clear z hq1; intro hq1; try simp only [noR] at hq1) | (have z := (hq2 : Dm); clear z hq2; intro hq2; try simp only [noR] at hq2) | (have z := (hq3 : Dm); clear z hq3; intro hq3; try simp only [noR] at hq3) | (have z := (hq4 : Dm); clear z hq4; intro hq4; try simp only [noR] at hq4) | (have z := (hq5 : Dm); clear z hq5; intro hq5; try simp only [noR] at hq5) | (have z := (hq6 : Dm); clear z hq6; intro hq6; try simp only [noR] at hq6)) <;> (try simp -implicitDefEqProofs -dsimp (maxSteps := 2000000) (disch := (first | exact dz | fail)) only [go_sem, aR, hq6, hq5, hq4, hq3, hq2, hq1, h9])))) <;> (try with_reducible and_intros) <;> (first | exact fz | skip)
    · rw [wordL]
      repeat rw [if_neg (by omega)]
  · have : k = 0 ∨ k = 1 ∨ k = 2 ∨ k = 3 ∨ k = 4 ∨ k = 5 ∨ k = 6 ∨ k = 7 ∨ k = 8 := by omega
    rcases this with rfl | rfl | rfl | rfl | rfl | rfl | rfl | rfl | rfl
    all_goals ((have hq1 : Dm := ⟨⟩; have hq2 : Dm := ⟨⟩; have hq3 : Dm := ⟨⟩; have hq4 : Dm := ⟨⟩; have hq5 : Dm := ⟨⟩; have hq6 : Dm := ⟨⟩) <;> (try simp -implicitDefEqProofs -dsimp (maxSteps := 2000000) (disch := (first | exact dz | fail)) only [go_sem, aR, idxR_str, ldR_c, List.drop_succ_cons, List.drop_zero]) <;> (repeat' (first | ((with_reducible refine ds_and ?_ ?_); focus exact kz) | ((with_reducible refine And.intro ?_ ?_); focus exact oz) | ((with_reducible refine pc_and ?_ ?_); focus exact pz) | ((with_reducible first | refine gIf_t ?_ ?_ | refine gIf_f ?_ ?_ | refine ite_t ?_ ?_ | refine ite_p ?_ ?_) <;> (first | (have z := (hq1 : Dm); clear z hq1; intro hq1; try simp only [noR] at hq1) | (have z := (hq2 : Dm); clear z hq2; intro hq2; try simp only [noR] at hq2) | (have z := (hq3 : Dm); clear z hq3; intro hq3; try simp only [noR] at hq3) | (have z := (hq4 : Dm); clear z hq4; intro hq4; try simp only [noR] at hq4) | (have z := (hq5 : Dm); clear z hq5; intro hq5; try simp only [noR] at hq5) | (have z := (hq6 : Dm); clear z hq6; intro hq6; try simp only [noR] at hq6)) <;> (try simp -implicitDefEqProofs -dsimp (maxSteps := 2000000) (disch := (first | exact dz | fail)) only [go_sem, aR, hq6, hq5, hq4, hq3, hq2, hq1, idxR_str, ldR_c, List.drop_succ_cons, List.drop_zero])))) <;> (try with_reducible and_intros) <;> (first | exact fz | skip))
    all_goals (first | rfl | omega)
theorem number_ok (s : List UInt8) (hs : s.length ≤ 1073741824) (hf : Fits en m.length) : WC Tryz.prog pol en (.func 91) [tx s] m fun v m' => v = I (numL s) ∧ m' = m := by
  refine callPur Tryz.func91 rfl rfl Tryz.ntmps91 Tryz.results91 ?_
  by_cases h3 : (3 : Int) < (s.length : Int)
  · (have hq1 : Dm := ⟨⟩; have hq2 : Dm := ⟨⟩; have hq3 : Dm := ⟨⟩; have hq4 : Dm := ⟨⟩; have hq5 : Dm := ⟨⟩; have hq6 : Dm := ⟨⟩) <;> (try simp -implicitDefEqProofs -dsimp (maxSteps := 2000000) (disch := (first | exact dz | fail)) only [go_sem, aR, h3]) <;> (repeat' (first | ((with_reducible refine ds_and ?_ ?_); focus exact kz) | ((with_reducible refine And.intro ?_ ?_); focus exact oz) | ((with_reducible refine pc_and ?_ ?_); focus exact pz) | ((with_reducible first | refine gIf_t ?_ ?_ | refine gIf_f ?_ ?_ | refine ite_t ?_ ?_ | refine ite_p ?_ ?_) <;> (first | (have z := (hq1 : Dm); clear z hq1; intro hq1; try simp only [noR] at hq1) | (have z := (hq2 : Dm); clear z hq2; intro hq2; try simp only [noR] at hq2) | (have z := (hq3 : Dm); clear z hq3; intro hq3; try simp only [noR] at hq3) | (have z := (hq4 : Dm); clear z hq4; intro hq4; try simp only [noR] at hq4) | (have z := (hq5 : Dm); clear z hq5; intro hq5; try simp only [noR] at hq5) | (have z := (hq6 : Dm); clear z hq6; intro hq6; try simp only [noR] at hq6)) <;> (try simp -implicitDefEqProofs -dsimp (maxSteps := 2000000) (disch := (first | exact dz | fail)) only [go_sem, aR, hq6, hq5, hq4, hq3, hq2, hq1, h3])))) <;> (try with_reducible and_intros) <;> (first | exact fz | skip)
    rw [numL, if_pos (by omega)]; rfl
  (have hq1 : Dm := ⟨⟩; have hq2 : Dm := ⟨⟩; have hq3 : Dm := ⟨⟩; have hq4 : Dm := ⟨⟩; have hq5 : Dm := ⟨⟩; have hq6 : Dm := ⟨⟩) <;> (try simp -implicitDefEqProofs -dsimp (maxSteps := 2000000) (disch := (first | exact dz | fail)) only [go_sem, aR, h3]) <;> (repeat' (first | ((with_reducible refine ds_and ?_ ?_); focus exact kz) | ((with_reducible refine And.intro ?_ ?_); focus exact oz) | ((with_reducible refine pc_and ?_ ?_); focus exact pz) | ((with_reducible first | refine gIf_t ?_ ?_ | refine gIf_f ?_ ?_ | refine ite_t ?_ ?_ | refine ite_p ?_ ?_) <;> (first | (have z := (hq1 : Dm); clear z hq1; intro hq1; try simp only [noR] at hq1) | (have z := (hq2 : Dm); clear z hq2; intro hq2; try simp only [noR] at hq2) | (have z := (hq3 : Dm); clear z hq3; intro hq3; try simp only [noR] at hq3) | (have z := (hq4 : Dm); clear z hq4; intro hq4; try simp only [noR] at hq4) | (have z := (hq5 : Dm); clear z hq5; intro hq5; try simp only [noR] at hq5) | (have z := (hq6 : Dm); clear z hq6; intro hq6; try simp only [noR] at hq6)) <;> (try simp -implicitDefEqProofs -dsimp (maxSteps := 2000000) (disch := (first | exact dz | fail)) only [go_sem, aR, hq6, hq5, hq4, hq3, hq2, hq1, h3])))) <;> (try with_reducible and_intros) <;> (first | exact fz | skip)
  have hs3 : s.length ≤ 3 := by omega
  refine loopF (fun k ts m' => ∃ (i : Nat) (n : Nat), ts.length = 33 ∧ tg ts 0 = tx s ∧ tg ts 3 = I n ∧ tg ts 4 = I i ∧ m' = m ∧ numGo (s.take i) 0 = some n ∧ n < 10 ^ i ∧ i ≤ s.length ∧ k = s.length - i) s.length ⟨0, 0, rfl, rfl, rfl, rfl, rfl, rfl, by omega, by omega, by omega⟩ ?_
  rintro k ts m' ⟨i, n, hl, h0, h3', h4, rfl, hn, hn2, hi, rfl⟩
  rw [expandT hl]
  by_cases hlt : (i : Int) < (s.length : Int)
  · obtain ⟨c, hc⟩ : ∃ c, s[i]? = some c := ⟨_, List.getElem?_eq_getElem (by omega)⟩
    have hgo : numGo (s.take (i + 1)) 0 = numGo [c] n := by rw [List.take_add_one, hc, numGo_app, hn]; rfl
    have hall : numGo s 0 = (numGo [c] n).bind (numGo (s.drop (i + 1))) := by
      have e : s = s.take (i + 1) ++ s.drop (i + 1) := (List.take_append_drop _ _).symm
      rw [e, numGo_app, hgo, ← e]
    have hno : ¬(48 ≤ c.toNat ∧ c.toNat ≤ 57) → numL s = 0 := fun h => by
      rw [numL, if_neg (by omega), hall]
      simp only [numGo]
      rw [if_neg h]; rfl
    have hc255 := c.toNat_lt
    have hp : 10 ^ i ≤ 100 := by
      have : i ≤ 2 := by omega
      have h3 : i = 0 ∨ i = 1 ∨ i = 2 := by omega
      rcases h3 with rfl | rfl | rfl <;> decide
    (have c1 : Dm := ⟨⟩; have c2 : Dm := ⟨⟩; have c3 : Dm := ⟨⟩; have c4 : Dm := ⟨⟩; have c5 : Dm := ⟨⟩; have c6 : Dm := ⟨⟩) <;> (try simp -implicitDefEqProofs -dsimp (maxSteps := 2000000) (disch := (first | exact dz | fail)) only [go_sem, aR, h0, h3', h4, hlt, hc]) <;> (repeat' (first | ((with_reducible refine ds_and ?_ ?_); focus exact kz) | ((with_reducible refine And.intro ?_ ?_); focus exact oz) | ((with_reducible refine pc_and ?_ ?_); focus exact pz) | ((with_reducible first | refine gIf_t ?_ ?_ | refine gIf_f ?_ ?_ | refine ite_t ?_ ?_ | refine ite_p ?_ ?_) <;> (first | (have z := (c1 : Dm); clear z c1; intro c1; try simp only [noR] at c1) | (have z := (c2 : Dm); clear z c2; intro c2; try simp only [noR] at c2) | (have z := (c3 : Dm); clear z c3; intro c3; try simp only [noR] at c3) | (have z := (c4 : Dm); clear z c4; intro c4; try simp only [noR] at c4) | (have z := (c5 : Dm); clear z c5; intro c5; try simp only [noR] at c5) | (have z := (c6 : Dm); clear z c6; intro c6; try simp only [noR] at c6)) <;> (try simp -implicitDefEqProofs -dsimp (maxSteps := 2000000) (disch := (first | exact dz | fail)) only [go_sem, aR, c6, c5, c4, c3, c2, c1, h0, h3', h4, hlt, hc])))) <;> (try with_reducible and_intros) <;> (first | exact fz | skip)
    · rw [hno (by omega)]; rfl
    · rw [hno (by omega)]; rfl
    · refine ⟨_, by omega, i + 1, n * 10 + (c.toNat - 48), ?_, rfl, ?_, ?_, by omega, rfl⟩
      · show _ = AV.sc (.int .i64 ((n * 10 + (c.toNat - 48) : Nat) : Int))
        congr 2; omega
      · rw [hgo]; simp only [numGo]; rw [if_pos (by omega)]
      · rw [Nat.pow_succ]; omega
  · (have c1 : Dm := ⟨⟩; have c2 : Dm := ⟨⟩; have c3 : Dm := ⟨⟩; have c4 : Dm := ⟨⟩; have c5 : Dm := ⟨⟩; have c6 : Dm := ⟨⟩) <;> (try simp -implicitDefEqProofs -dsimp (maxSteps := 2000000) (disch := (first | exact dz | fail)) only [go_sem, aR, h0, h3', h4, hlt]) <;> (repeat' (first | ((with_reducible refine ds_and ?_ ?_); focus exact kz) | ((with_reducible refine And.intro ?_ ?_); focus exact oz) | ((with_reducible refine pc_and ?_ ?_); focus exact pz) | ((with_reducible first | refine gIf_t ?_ ?_ | refine gIf_f ?_ ?_ | refine ite_t ?_ ?_ | refine ite_p ?_ ?_) <;> (first | (have z := (c1 : Dm); clear z c1; intro c1; try simp only [noR] at c1) | (have z := (c2 : Dm); clear z c2; intro c2; try simp only [noR] at c2) | (have z := (c3 : Dm); clear z c3; intro c3; try simp only [noR] at c3) | (have z := (c4 : Dm); clear z c4; intro c4; try simp only [noR] at c4) | (have z := (c5 : Dm); clear z c5; intro c5; try simp only [noR] at c5) | (have z := (c6 : Dm); clear z c6; intro c6; try simp only [noR] at c6)) <;> (try simp -implicitDefEqProofs -dsimp (maxSteps := 2000000) (disch := (first | exact dz | fail)) only [go_sem, aR, c6, c5, c4, c3, c2, c1, h0, h3', h4, hlt])))) <;> (try with_reducible and_intros) <;> (first | exact fz | skip)
    rw [List.take_of_length_le (by omega)] at hn
    rw [numL, if_neg (by omega), hn]; rfl
end
end Go.Proofs.YtcmjidnbbfcbjaaGreatDoor.V
/- Texts joined; no condition. -/
namespace Go.Proofs.YtcmjidnbbfcbjaaGreatDoor.V
open Go
set_option linter.unusedVariables false
set_option linter.unusedSimpArgs false
set_option maxRecDepth 100000
set_option maxHeartbeats 4000000
noncomputable section
variable {en : Env} {m : Mem}
variable {m0 : Mem} {l : List UInt8}
theorem raw_eq (n : Nat) (hn : n ≤ 4294967296) (Q : AV → Mem → Prop) : WC Tryz.prog pol en (.func 177) [I n] m Q = Q (.own m.length tU 0 n 1) (m ++ [.cells tU (List.replicate n .any)]) := by
  refine WC.rule (v0 := .own m.length tU 0 n 1) (m0 := m ++ [.cells tU (List.replicate n .any)]) ?_ Q
  refine wcallD (d := dRaw 5) rfl ?_ ⟨rfl, rfl⟩
  have h : (0 : Int) ≤ (n : Int) ∧ (n : Int) ≤ 4294967296 := by omega
  simp only [dRaw, fNat_eq, spine_eq, Int.toNat_natCast]
  rw [if_pos h]
theorem growB_ok (n : Nat) (h1 : 1 ≤ n) (hn : n ≤ 1073741824) (hf : Fits en m0.length) (hb : en.bar ≤ m0.length) : WC Tryz.prog pol en (.func 153) [.ptr m0.length tB 0, I n] (m0 ++ [.cells tB [.ptr m0.length tB 0, .nilS]]) fun v m' => v = .tup [] ∧ Bld m0 [] m' := by
  have hok : ∀ low, okTo en m0.length low := fun low => okTo_fits hf hb (Nat.le_refl _) low
  have hok1 : ∀ low, okTo en (m0.length + 1) low := fun low => okTo_fits hf hb (by omega) low
  refine callOpn Tryz.func153 rfl rfl Tryz.ntmps153 Tryz.results153 ?_
  obtain ⟨B, hB⟩ : ∃ B, m0.length = B := ⟨_, rfl⟩
  have hBk : ∀ k, m0.length + k = B + k := fun k => by omega
  (have hq1 : Dm := ⟨⟩; have hq2 : Dm := ⟨⟩; have hq3 : Dm := ⟨⟩; have hq4 : Dm := ⟨⟩; have hq5 : Dm := ⟨⟩; have hq6 : Dm := ⟨⟩) <;> (try simp -implicitDefEqProofs -dsimp (maxSteps := 2000000) (disch := (first | exact dz | fail)) only [go_sem, aR, raw_eq, Int.zero_add, slR_own0]) <;> (repeat' (first | ((with_reducible refine ds_and ?_ ?_); focus exact kz) | ((with_reducible refine And.intro ?_ ?_); focus exact oz) | ((with_reducible refine pc_and ?_ ?_); focus exact pz) | ((with_reducible first | refine gIf_t ?_ ?_ | refine gIf_f ?_ ?_ | refine ite_t ?_ ?_ | refine ite_p ?_ ?_) <;> (first | (have z := (hq1 : Dm); clear z hq1; intro hq1; try simp only [noR] at hq1) | (have z := (hq2 : Dm); clear z hq2; intro hq2; try simp only [noR] at hq2) | (have z := (hq3 : Dm); clear z hq3; intro hq3; try simp only [noR] at hq3) | (have z := (hq4 : Dm); clear z hq4; intro hq4; try simp only [noR] at hq4) | (have z := (hq5 : Dm); clear z hq5; intro hq5; try simp only [noR] at hq5) | (have z := (hq6 : Dm); clear z hq6; intro hq6; try simp only [noR] at hq6)) <;> (try simp -implicitDefEqProofs -dsimp (maxSteps := 2000000) (disch := (first | exact dz | fail)) only [go_sem, aR, hq6, hq5, hq4, hq3, hq2, hq1, raw_eq, Int.zero_add, slR_own0])))) <;> (try with_reducible and_intros) <;> (first | exact fz | skip)
  exact .mk _ _ _ (.inr rfl) (.own _ _ rfl rfl (Nat.zero_le _))
theorem growB0_ok (n : Nat) (hn : n ≤ 1073741824) (hf : Fits en m0.length) (hb : en.bar ≤ m0.length) : WC Tryz.prog pol en (.func 118) [.ptr m0.length tB 0, I n] (m0 ++ [.cells tB [.nilP, .nilS]]) fun v m' => v = .tup [] ∧ Bld m0 [] m' := by
  refine callOpn Tryz.func118 rfl rfl Tryz.ntmps118 Tryz.results118 ?_
  simp -implicitDefEqProofs -dsimp (maxSteps := 2000000) (disch := (first | exact dz | fail)) only [go_sem, aR, ]
  refine (copyCheck_ok (rest := []) hf hb (.inl rfl)).mono ?_
  rintro _ _ ⟨rfl, rfl⟩
  by_cases h1 : 1 ≤ n
  · (have hq1 : Dm := ⟨⟩; have hq2 : Dm := ⟨⟩; have hq3 : Dm := ⟨⟩; have hq4 : Dm := ⟨⟩; have hq5 : Dm := ⟨⟩; have hq6 : Dm := ⟨⟩) <;> (try simp -implicitDefEqProofs -dsimp (maxSteps := 2000000) (disch := (first | exact dz | fail)) only [go_sem, aR, ]) <;> (repeat' (first | ((with_reducible refine ds_and ?_ ?_); focus exact kz) | ((with_reducible refine And.intro ?_ ?_); focus exact oz) | ((with_reducible refine pc_and ?_ ?_); focus exact pz) | ((with_reducible first | refine gIf_t ?_ ?_ | refine gIf_f ?_ ?_ | refine ite_t ?_ ?_ | refine ite_p ?_ ?_) <;> (first | (have z := (hq1 : Dm); clear z hq1; intro hq1; try simp only [noR] at hq1) | (have z := (hq2 : Dm); clear z hq2; intro hq2; try simp only [noR] at hq2) | (have z := (hq3 : Dm); clear z hq3; intro hq3; try simp only [noR] at hq3) | (have z := (hq4 : Dm); clear z hq4; intro hq4; try simp only [noR] at hq4) | (have z := (hq5 : Dm); clear z hq5; intro hq5; try simp only [noR] at hq5) | (have z := (hq6 : Dm); clear z hq6; intro hq6; try simp only [noR] at hq6)) <;> (try simp -implicitDefEqProofs -dsimp (maxSteps := 2000000) (disch := (first | exact dz | fail)) only [go_sem, aR, hq6, hq5, hq4, hq3, hq2, hq1])))) <;> (try with_reducible and_intros) <;> (first | exact fz | skip)
    refine (growB_ok n h1 hn hf hb).mono ?_
    rintro _ m' ⟨rfl, hB⟩
    (have hq1 : Dm := ⟨⟩; have hq2 : Dm := ⟨⟩; have hq3 : Dm := ⟨⟩; have hq4 : Dm := ⟨⟩; have hq5 : Dm := ⟨⟩; have hq6 : Dm := ⟨⟩) <;> (try simp -implicitDefEqProofs -dsimp (maxSteps := 2000000) (disch := (first | exact dz | fail)) only [go_sem, aR, ]) <;> (repeat' (first | ((with_reducible refine ds_and ?_ ?_); focus exact kz) | ((with_reducible refine And.intro ?_ ?_); focus exact oz) | ((with_reducible refine pc_and ?_ ?_); focus exact pz) | ((with_reducible first | refine gIf_t ?_ ?_ | refine gIf_f ?_ ?_ | refine ite_t ?_ ?_ | refine ite_p ?_ ?_) <;> (first | (have z := (hq1 : Dm); clear z hq1; intro hq1; try simp only [noR] at hq1) | (have z := (hq2 : Dm); clear z hq2; intro hq2; try simp only [noR] at hq2) | (have z := (hq3 : Dm); clear z hq3; intro hq3; try simp only [noR] at hq3) | (have z := (hq4 : Dm); clear z hq4; intro hq4; try simp only [noR] at hq4) | (have z := (hq5 : Dm); clear z hq5; intro hq5; try simp only [noR] at hq5) | (have z := (hq6 : Dm); clear z hq6; intro hq6; try simp only [noR] at hq6)) <;> (try simp -implicitDefEqProofs -dsimp (maxSteps := 2000000) (disch := (first | exact dz | fail)) only [go_sem, aR, hq6, hq5, hq4, hq3, hq2, hq1])))) <;> (try with_reducible and_intros) <;> (first | exact fz | skip)
  · (have hq1 : Dm := ⟨⟩; have hq2 : Dm := ⟨⟩; have hq3 : Dm := ⟨⟩; have hq4 : Dm := ⟨⟩; have hq5 : Dm := ⟨⟩; have hq6 : Dm := ⟨⟩) <;> (try simp -implicitDefEqProofs -dsimp (maxSteps := 2000000) (disch := (first | exact dz | fail)) only [go_sem, aR, ]) <;> (repeat' (first | ((with_reducible refine ds_and ?_ ?_); focus exact kz) | ((with_reducible refine And.intro ?_ ?_); focus exact oz) | ((with_reducible refine pc_and ?_ ?_); focus exact pz) | ((with_reducible first | refine gIf_t ?_ ?_ | refine gIf_f ?_ ?_ | refine ite_t ?_ ?_ | refine ite_p ?_ ?_) <;> (first | (have z := (hq1 : Dm); clear z hq1; intro hq1; try simp only [noR] at hq1) | (have z := (hq2 : Dm); clear z hq2; intro hq2; try simp only [noR] at hq2) | (have z := (hq3 : Dm); clear z hq3; intro hq3; try simp only [noR] at hq3) | (have z := (hq4 : Dm); clear z hq4; intro hq4; try simp only [noR] at hq4) | (have z := (hq5 : Dm); clear z hq5; intro hq5; try simp only [noR] at hq5) | (have z := (hq6 : Dm); clear z hq6; intro hq6; try simp only [noR] at hq6)) <;> (try simp -implicitDefEqProofs -dsimp (maxSteps := 2000000) (disch := (first | exact dz | fail)) only [go_sem, aR, hq6, hq5, hq4, hq3, hq2, hq1])))) <;> (try with_reducible and_intros) <;> (first | exact fz | skip)
    exact .mk _ _ [] (.inr rfl) (.nil rfl)
theorem join_snoc (c : UInt8) (w : List UInt8) : ∀ {l : List (List UInt8)}, l ≠ [] → joinL c (l ++ [w]) = joinL c l ++ c :: w
  | [a], _ => rfl
  | a :: b :: l, _ => by
    have := join_snoc c w (l := b :: l) (by simp)
    rw [List.cons_append, List.cons_append, joinL, ← List.cons_append, this, joinL]; simp
def sumL (l : List (List UInt8)) : Nat := (l.map List.length).sum
theorem sum_step {l : List (List UInt8)} {i : Nat} {w : List UInt8} (h : l[i]? = some w) : sumL (l.take (i + 1)) = sumL (l.take i) + w.length := by
  rw [List.take_add_one, h]; simp [sumL]
theorem sum_le (l : List (List UInt8)) (i : Nat) : sumL (l.take i) ≤ sumL l := by
  have e : l = l.take i ++ l.drop i := (List.take_append_drop i l).symm
  have : sumL l = sumL (l.take i) + sumL (l.drop i) := by
    rw [sumL, sumL, sumL, ← List.sum_append, ← List.map_append, List.take_append_drop]
  omega
theorem join_len (c : UInt8) : ∀ {l : List (List UInt8)}, l ≠ [] → (joinL c l).length + 1 = sumL l + l.length
  | [a], _ => by simp [joinL, sumL]
  | a :: b :: l, _ => by
    have := join_len c (l := b :: l) (by simp)
    rw [joinL, List.length_append, List.length_cons]
    simp only [sumL, List.map_cons, List.sum_cons, List.length_cons] at *
    omega
theorem join_ok (v : AV) (x : Sl (List UInt8)) (hv : frz m 0 frzDepth v = some (sl tx x)) (h2 : 2 ≤ x.l.length) (hx : (joinL 32 x.l).length ≤ 1073741824) : WC Tryz.prog pol en (.func 83) [v, tx [32]] m fun v m' => v = tx (joinL 32 x.l) ∧ m' = m := by
  have ha : [v, tx [32]].mapM (frz m 0 frzDepth) = some [sl tx x, tx [32]] := by
    have h1 : frz m 0 frzDepth (tx [32]) = some (tx [32]) := rfl
    simp only [List.mapM_cons, List.mapM_nil, hv, h1]; rfl
  refine callCls Tryz.func83 rfl rfl Tryz.ntmps83 Tryz.results83 ha ?_
  intro en m0 hfit
  have hjl := join_len 32 (l := x.l) (by intro e; rw [e] at h2; simp at h2)
  have hw1 : IntKind.i64.wrap ((x.l.length : Int) - 1) = ((x.l.length - 1 : Nat) : Int) := by rw [i64w (by omega)]; omega
  have hn0 : ¬ ((x.l.length - 1 : Nat) : Int) = 0 := by omega
  have hl0 : ¬ (x.l.length : Int) = 0 := by omega
  have hl1 : ¬ (x.l.length : Int) = 1 := by omega
  obtain ⟨q, hq, hq2⟩ : ∃ q : Int, IntKind.i64.wrap (Int.tdiv 9223372036854775807 ((x.l.length - 1 : Nat) : Int)) = q ∧ ¬ (1 : Int) ≥ q := by
    have hk : (0 : Int) < ((x.l.length - 1 : Nat) : Int) := by omega
    have e : Int.tdiv 9223372036854775807 ((x.l.length - 1 : Nat) : Int) = 9223372036854775807 / ((x.l.length - 1 : Nat) : Int) := Int.tdiv_eq_ediv_of_nonneg (by omega)
    have h1 : (2 : Int) ≤ 9223372036854775807 / ((x.l.length - 1 : Nat) : Int) := (Int.le_ediv_iff_mul_le hk).2 (by omega)
    have h3 : 9223372036854775807 / ((x.l.length - 1 : Nat) : Int) ≤ 9223372036854775807 := Int.ediv_le_self _ (by omega)
    exact ⟨_, by rw [e, i64w (by omega)], by omega⟩
  (have hq1 : Dm := ⟨⟩; have hq2 : Dm := ⟨⟩; have hq3 : Dm := ⟨⟩; have hq4 : Dm := ⟨⟩; have hq5 : Dm := ⟨⟩; have hq6 : Dm := ⟨⟩) <;> (try simp -implicitDefEqProofs -dsimp (maxSteps := 2000000) (disch := (first | exact dz | fail)) only [go_sem, aR, hw1, hn0, hl0, hl1, hq, hq2, Int.zero_add, Int.one_mul]) <;> (repeat' (first | ((with_reducible refine ds_and ?_ ?_); focus exact kz) | ((with_reducible refine And.intro ?_ ?_); focus exact oz) | ((with_reducible refine pc_and ?_ ?_); focus exact pz) | ((with_reducible first | refine gIf_t ?_ ?_ | refine gIf_f ?_ ?_ | refine ite_t ?_ ?_ | refine ite_p ?_ ?_) <;> (first | (have z := (hq1 : Dm); clear z hq1; intro hq1; try simp only [noR] at hq1) | (have z := (hq2 : Dm); clear z hq2; intro hq2; try simp only [noR] at hq2) | (have z := (hq3 : Dm); clear z hq3; intro hq3; try simp only [noR] at hq3) | (have z := (hq4 : Dm); clear z hq4; intro hq4; try simp only [noR] at hq4) | (have z := (hq5 : Dm); clear z hq5; intro hq5; try simp only [noR] at hq5) | (have z := (hq6 : Dm); clear z hq6; intro hq6; try simp only [noR] at hq6)) <;> (try simp -implicitDefEqProofs -dsimp (maxSteps := 2000000) (disch := (first | exact dz | fail)) only [go_sem, aR, hq6, hq5, hq4, hq3, hq2, hq1, hw1, hn0, hl0, hl1, hq, hq2, Int.zero_add, Int.one_mul])))) <;> (try with_reducible and_intros) <;> (first | exact fz | skip)
  refine loopF (fun k ts m' => ∃ (i : Nat), ts.length = 75 ∧ tg ts 0 = sl tx x ∧ tg ts 1 = tx [32] ∧ tg ts 4 = tx [] ∧ tg ts 5 = I ((x.l.length - 1 + sumL (x.l.take i) : Nat) : Int) ∧ tg ts 39 = sl tx x ∧ tg ts 40 = I x.l.length ∧ tg ts 41 = I i ∧ m' = m0 ∧ i ≤ x.l.length ∧ k = x.l.length - i) x.l.length ⟨0, rfl, rfl, rfl, rfl, (by show AV.sc (.int .i64 _) = AV.sc (.int .i64 _); congr 2; simp [sumL]), rfl, rfl, rfl, rfl, by omega, by omega⟩ ?_
  rintro k ts m' ⟨i, hl, t0, t1, t4, t5, t39, t40, t41, rfl, hi, rfl⟩
  rw [expandT hl]
  have hsl := sum_le x.l i
  by_cases hlt : (i : Int) < (x.l.length : Int)
  · obtain ⟨w, hw⟩ : ∃ w, x.l[i]? = some w := ⟨_, List.getElem?_eq_getElem (by omega)⟩
    have hst := sum_step hw
    have hsl2 := sum_le x.l (i + 1)
    (have c1 : Dm := ⟨⟩; have c2 : Dm := ⟨⟩; have c3 : Dm := ⟨⟩; have c4 : Dm := ⟨⟩; have c5 : Dm := ⟨⟩; have c6 : Dm := ⟨⟩) <;> (try simp -implicitDefEqProofs -dsimp (maxSteps := 2000000) (disch := (first | exact dz | fail)) only [go_sem, aR, t0, t1, t4, t5, t39, t40, t41, hlt, hw]) <;> (repeat' (first | ((with_reducible refine ds_and ?_ ?_); focus exact kz) | ((with_reducible refine And.intro ?_ ?_); focus exact oz) | ((with_reducible refine pc_and ?_ ?_); focus exact pz) | ((with_reducible first | refine gIf_t ?_ ?_ | refine gIf_f ?_ ?_ | refine ite_t ?_ ?_ | refine ite_p ?_ ?_) <;> (first | (have z := (c1 : Dm); clear z c1; intro c1; try simp only [noR] at c1) | (have z := (c2 : Dm); clear z c2; intro c2; try simp only [noR] at c2) | (have z := (c3 : Dm); clear z c3; intro c3; try simp only [noR] at c3) | (have z := (c4 : Dm); clear z c4; intro c4; try simp only [noR] at c4) | (have z := (c5 : Dm); clear z c5; intro c5; try simp only [noR] at c5) | (have z := (c6 : Dm); clear z c6; intro c6; try simp only [noR] at c6)) <;> (try simp -implicitDefEqProofs -dsimp (maxSteps := 2000000) (disch := (first | exact dz | fail)) only [go_sem, aR, c6, c5, c4, c3, c2, c1, t0, t1, t4, t5, t39, t40, t41, hlt, hw])))) <;> (try with_reducible and_intros) <;> (first | exact fz | skip)
    refine ⟨_, by omega, i + 1, ?_, rfl, by omega, rfl⟩
    rw [hst]
    show AV.sc (.int .i64 _) = AV.sc (.int .i64 _)
    congr 2; omega
  · have hf : Fits ⟨m'.length :: en.bases, m'.length⟩ m'.length := Fits.pur (en := en) hfit
    have hb : (⟨m'.length :: en.bases, m'.length⟩ : Env).bar ≤ m'.length := Nat.le_refl _
    have hit : x.l.take i = x.l := List.take_of_length_le (by omega)
    rw [hit] at t5
    (have c1 : Dm := ⟨⟩; have c2 : Dm := ⟨⟩; have c3 : Dm := ⟨⟩; have c4 : Dm := ⟨⟩; have c5 : Dm := ⟨⟩; have c6 : Dm := ⟨⟩) <;> (try simp -implicitDefEqProofs -dsimp (maxSteps := 2000000) (disch := (first | exact dz | fail)) only [go_sem, aR, t0, t1, t4, t5, t39, t40, t41, hlt]) <;> (repeat' (first | ((with_reducible refine ds_and ?_ ?_); focus exact kz) | ((with_reducible refine And.intro ?_ ?_); focus exact oz) | ((with_reducible refine pc_and ?_ ?_); focus exact pz) | ((with_reducible first | refine gIf_t ?_ ?_ | refine gIf_f ?_ ?_ | refine ite_t ?_ ?_ | refine ite_p ?_ ?_) <;> (first | (have z := (c1 : Dm); clear z c1; intro c1; try simp only [noR] at c1) | (have z := (c2 : Dm); clear z c2; intro c2; try simp only [noR] at c2) | (have z := (c3 : Dm); clear z c3; intro c3; try simp only [noR] at c3) | (have z := (c4 : Dm); clear z c4; intro c4; try simp only [noR] at c4) | (have z := (c5 : Dm); clear z c5; intro c5; try simp only [noR] at c5) | (have z := (c6 : Dm); clear z c6; intro c6; try simp only [noR] at c6)) <;> (try simp -implicitDefEqProofs -dsimp (maxSteps := 2000000) (disch := (first | exact dz | fail)) only [go_sem, aR, c6, c5, c4, c3, c2, c1, t0, t1, t4, t5, t39, t40, t41, hlt])))) <;> (try with_reducible and_intros) <;> (first | exact fz | skip)
    refine (growB0_ok (x.l.length - 1 + sumL x.l) (by omega) hf hb).mono ?_
    rintro _ m1 ⟨rfl, hB⟩
    obtain ⟨w0, h0⟩ : ∃ w, x.l[0]? = some w := ⟨_, List.getElem?_eq_getElem (by omega)⟩
    have hs0 := sum_step (i := 0) h0
    have hs1 := sum_le x.l 1
    simp only [List.take_zero, Nat.zero_add] at hs0
    (have c1 : Dm := ⟨⟩; have c2 : Dm := ⟨⟩; have c3 : Dm := ⟨⟩; have c4 : Dm := ⟨⟩; have c5 : Dm := ⟨⟩; have c6 : Dm := ⟨⟩) <;> (try simp -implicitDefEqProofs -dsimp (maxSteps := 2000000) (disch := (first | exact dz | fail)) only [go_sem, aR, h0]) <;> (repeat' (first | ((with_reducible refine ds_and ?_ ?_); focus exact kz) | ((with_reducible refine And.intro ?_ ?_); focus exact oz) | ((with_reducible refine pc_and ?_ ?_); focus exact pz) | ((with_reducible first | refine gIf_t ?_ ?_ | refine gIf_f ?_ ?_ | refine ite_t ?_ ?_ | refine ite_p ?_ ?_) <;> (first | (have z := (c1 : Dm); clear z c1; intro c1; try simp only [noR] at c1) | (have z := (c2 : Dm); clear z c2; intro c2; try simp only [noR] at c2) | (have z := (c3 : Dm); clear z c3; intro c3; try simp only [noR] at c3) | (have z := (c4 : Dm); clear z c4; intro c4; try simp only [noR] at c4) | (have z := (c5 : Dm); clear z c5; intro c5; try simp only [noR] at c5) | (have z := (c6 : Dm); clear z c6; intro c6; try simp only [noR] at c6)) <;> (try simp -implicitDefEqProofs -dsimp (maxSteps := 2000000) (disch := (first | exact dz | fail)) only [go_sem, aR, c6, c5, c4, c3, c2, c1, h0])))) <;> (try with_reducible and_intros) <;> (first | exact fz | skip)
    have hz : sumL ([] : List (List UInt8)) = 0 := rfl
    rw [hz] at hs0
    refine (writeString_ok hB hf hb (by simp only [List.length_nil]; omega)).mono ?_
    rintro _ m2 ⟨rfl, hB2⟩
    have hj0 : [] ++ w0 = joinL 32 (x.l.take 1) := by rw [List.take_add_one, h0]; rfl
    rw [hj0] at hB2
    (have c1 : Dm := ⟨⟩; have c2 : Dm := ⟨⟩; have c3 : Dm := ⟨⟩; have c4 : Dm := ⟨⟩; have c5 : Dm := ⟨⟩; have c6 : Dm := ⟨⟩) <;> (try simp -implicitDefEqProofs -dsimp (maxSteps := 2000000) (disch := (first | exact dz | fail)) only [go_sem, aR, ]) <;> (repeat' (first | ((with_reducible refine ds_and ?_ ?_); focus exact kz) | ((with_reducible refine And.intro ?_ ?_); focus exact oz) | ((with_reducible refine pc_and ?_ ?_); focus exact pz) | ((with_reducible first | refine gIf_t ?_ ?_ | refine gIf_f ?_ ?_ | refine ite_t ?_ ?_ | refine ite_p ?_ ?_) <;> (first | (have z := (c1 : Dm); clear z c1; intro c1; try simp only [noR] at c1) | (have z := (c2 : Dm); clear z c2; intro c2; try simp only [noR] at c2) | (have z := (c3 : Dm); clear z c3; intro c3; try simp only [noR] at c3) | (have z := (c4 : Dm); clear z c4; intro c4; try simp only [noR] at c4) | (have z := (c5 : Dm); clear z c5; intro c5; try simp only [noR] at c5) | (have z := (c6 : Dm); clear z c6; intro c6; try simp only [noR] at c6)) <;> (try simp -implicitDefEqProofs -dsimp (maxSteps := 2000000) (disch := (first | exact dz | fail)) only [go_sem, aR, c6, c5, c4, c3, c2, c1])))) <;> (try with_reducible and_intros) <;> (first | exact fz | skip)
    refine loopF (fun k ts m3 => ∃ (i : Nat), ts.length = 75 ∧ tg ts 1 = tx [32] ∧ tg ts 4 = tx [] ∧ tg ts 8 = .ptr m'.length (tagT 85) 0 ∧ tg ts 63 = sl tx (x.sub 1 x.l.length) ∧ tg ts 64 = I (x.l.drop 1).length ∧ tg ts 65 = I i ∧ Bld m' (joinL 32 (x.l.take (i + 1))) m3 ∧ i + 1 ≤ x.l.length ∧ k = x.l.length - 1 - i) (x.l.length - 1) ⟨0, rfl, rfl, rfl, rfl, rfl, rfl, rfl, hB2, by omega, by omega⟩ ?_
    clear hB2 hB hl t0 t1 t4 t5 t39 t40 t41
    rintro k ts m3 ⟨i, hl, t1, t4, t8, t63, t64, t65, hB, hi1, rfl⟩
    rw [expandT hl]
    have hne : x.l.take (i + 1) ≠ [] := by intro e; have := congrArg List.length e; rw [List.length_take, List.length_nil] at this; omega
    have hji := join_len 32 hne
    have hsi := sum_le x.l (i + 1)
    have hli : (x.l.take (i + 1)).length ≤ i + 1 := List.length_take_le _ _
    have hsub : (x.l.drop 1).length = x.l.length - 1 := by simp
    by_cases hlt : (i : Int) < (((x.l.drop 1).length : Nat) : Int)
    · obtain ⟨w, hw⟩ : ∃ w, x.l[1 + i]? = some w := ⟨_, List.getElem?_eq_getElem (by omega)⟩
      have hw' : (x.sub 1 x.l.length).l[i]? = some w := by simp only [Sl.sub]; rw [List.getElem?_take, if_pos (by omega), List.getElem?_drop]; exact hw
      have hst := sum_step hw
      have hsl2 := sum_le x.l (1 + i + 1)
      have hw2 : (x.l.drop 1)[i]'(by omega) = w := by rw [List.getElem_drop]; exact (List.getElem?_eq_some_iff.1 hw).2
      (have c1 : Dm := ⟨⟩; have c2 : Dm := ⟨⟩; have c3 : Dm := ⟨⟩; have c4 : Dm := ⟨⟩; have c5 : Dm := ⟨⟩; have c6 : Dm := ⟨⟩) <;> (try simp -implicitDefEqProofs -dsimp (maxSteps := 2000000) (disch := (first | exact dz | fail)) only [go_sem, aR, t1, t4, t8, t63, t64, t65, hlt, hw', hw2]) <;> (repeat' (first | ((with_reducible refine ds_and ?_ ?_); focus exact kz) | ((with_reducible refine And.intro ?_ ?_); focus exact oz) | ((with_reducible refine pc_and ?_ ?_); focus exact pz) | ((with_reducible first | refine gIf_t ?_ ?_ | refine gIf_f ?_ ?_ | refine ite_t ?_ ?_ | refine ite_p ?_ ?_) <;> (first | (have z := (c1 : Dm); clear z c1; intro c1; try simp only [noR] at c1) | (have z := (c2 : Dm); clear z c2; intro c2; try simp only [noR] at c2) | (have z := (c3 : Dm); clear z c3; intro c3; try simp only [noR] at c3) | (have z := (c4 : Dm); clear z c4; intro c4; try simp only [noR] at c4) | (have z := (c5 : Dm); clear z c5; intro c5; try simp only [noR] at c5) | (have z := (c6 : Dm); clear z c6; intro c6; try simp only [noR] at c6)) <;> (try simp -implicitDefEqProofs -dsimp (maxSteps := 2000000) (disch := (first | exact dz | fail)) only [go_sem, aR, c6, c5, c4, c3, c2, c1, t1, t4, t8, t63, t64, t65, hlt, hw', hw2])))) <;> (try with_reducible and_intros) <;> (first | exact fz | skip)
      refine (writeString_ok hB hf hb (by simp; omega)).mono ?_
      rintro _ m4 ⟨rfl, hB4⟩
      (have c1 : Dm := ⟨⟩; have c2 : Dm := ⟨⟩; have c3 : Dm := ⟨⟩; have c4 : Dm := ⟨⟩; have c5 : Dm := ⟨⟩; have c6 : Dm := ⟨⟩) <;> (try simp -implicitDefEqProofs -dsimp (maxSteps := 2000000) (disch := (first | exact dz | fail)) only [go_sem, aR, ]) <;> (repeat' (first | ((with_reducible refine ds_and ?_ ?_); focus exact kz) | ((with_reducible refine And.intro ?_ ?_); focus exact oz) | ((with_reducible refine pc_and ?_ ?_); focus exact pz) | ((with_reducible first | refine gIf_t ?_ ?_ | refine gIf_f ?_ ?_ | refine ite_t ?_ ?_ | refine ite_p ?_ ?_) <;> (first | (have z := (c1 : Dm); clear z c1; intro c1; try simp only [noR] at c1) | (have z := (c2 : Dm); clear z c2; intro c2; try simp only [noR] at c2) | (have z := (c3 : Dm); clear z c3; intro c3; try simp only [noR] at c3) | (have z := (c4 : Dm); clear z c4; intro c4; try simp only [noR] at c4) | (have z := (c5 : Dm); clear z c5; intro c5; try simp only [noR] at c5) | (have z := (c6 : Dm); clear z c6; intro c6; try simp only [noR] at c6)) <;> (try simp -implicitDefEqProofs -dsimp (maxSteps := 2000000) (disch := (first | exact dz | fail)) only [go_sem, aR, c6, c5, c4, c3, c2, c1])))) <;> (try with_reducible and_intros) <;> (first | exact fz | skip)
      refine (writeString_ok hB4 hf hb (by rw [List.length_append]; simp; rw [Nat.add_comm 1 i] at hst hsl2; omega)).mono ?_
      rintro _ m5 ⟨rfl, hB5⟩
      (have c1 : Dm := ⟨⟩; have c2 : Dm := ⟨⟩; have c3 : Dm := ⟨⟩; have c4 : Dm := ⟨⟩; have c5 : Dm := ⟨⟩; have c6 : Dm := ⟨⟩) <;> (try simp -implicitDefEqProofs -dsimp (maxSteps := 2000000) (disch := (first | exact dz | fail)) only [go_sem, aR, ]) <;> (repeat' (first | ((with_reducible refine ds_and ?_ ?_); focus exact kz) | ((with_reducible refine And.intro ?_ ?_); focus exact oz) | ((with_reducible refine pc_and ?_ ?_); focus exact pz) | ((with_reducible first | refine gIf_t ?_ ?_ | refine gIf_f ?_ ?_ | refine ite_t ?_ ?_ | refine ite_p ?_ ?_) <;> (first | (have z := (c1 : Dm); clear z c1; intro c1; try simp only [noR] at c1) | (have z := (c2 : Dm); clear z c2; intro c2; try simp only [noR] at c2) | (have z := (c3 : Dm); clear z c3; intro c3; try simp only [noR] at c3) | (have z := (c4 : Dm); clear z c4; intro c4; try simp only [noR] at c4) | (have z := (c5 : Dm); clear z c5; intro c5; try simp only [noR] at c5) | (have z := (c6 : Dm); clear z c6; intro c6; try simp only [noR] at c6)) <;> (try simp -implicitDefEqProofs -dsimp (maxSteps := 2000000) (disch := (first | exact dz | fail)) only [go_sem, aR, c6, c5, c4, c3, c2, c1])))) <;> (try with_reducible and_intros) <;> (first | exact fz | skip)
      refine ⟨_, ?_, i + 1, rfl, ?_, by omega, rfl⟩
      · omega
      · have e : x.l.take (i + 1 + 1) = x.l.take (i + 1) ++ [w] := by
          rw [List.take_add_one, show i + 1 = 1 + i by omega, hw]; rfl
        rw [e, join_snoc 32 w hne]
        rw [List.append_assoc] at hB5
        exact hB5
    · (have c1 : Dm := ⟨⟩; have c2 : Dm := ⟨⟩; have c3 : Dm := ⟨⟩; have c4 : Dm := ⟨⟩; have c5 : Dm := ⟨⟩; have c6 : Dm := ⟨⟩) <;> (try simp -implicitDefEqProofs -dsimp (maxSteps := 2000000) (disch := (first | exact dz | fail)) only [go_sem, aR, t1, t4, t8, t63, t64, t65, hlt]) <;> (repeat' (first | ((with_reducible refine ds_and ?_ ?_); focus exact kz) | ((with_reducible refine And.intro ?_ ?_); focus exact oz) | ((with_reducible refine pc_and ?_ ?_); focus exact pz) | ((with_reducible first | refine gIf_t ?_ ?_ | refine gIf_f ?_ ?_ | refine ite_t ?_ ?_ | refine ite_p ?_ ?_) <;> (first | (have z := (c1 : Dm); clear z c1; intro c1; try simp only [noR] at c1) | (have z := (c2 : Dm); clear z c2; intro c2; try simp only [noR] at c2) | (have z := (c3 : Dm); clear z c3; intro c3; try simp only [noR] at c3) | (have z := (c4 : Dm); clear z c4; intro c4; try simp only [noR] at c4) | (have z := (c5 : Dm); clear z c5; intro c5; try simp only [noR] at c5) | (have z := (c6 : Dm); clear z c6; intro c6; try simp only [noR] at c6)) <;> (try simp -implicitDefEqProofs -dsimp (maxSteps := 2000000) (disch := (first | exact dz | fail)) only [go_sem, aR, c6, c5, c4, c3, c2, c1, t1, t4, t8, t63, t64, t65, hlt])))) <;> (try with_reducible and_intros) <;> (first | exact fz | skip)
      have hit2 : x.l.take (i + 1) = x.l := List.take_of_length_le (by omega)
      rw [hit2] at hB
      refine (string_ok hB hf hb (by omega) (by intro e; rw [e] at hjl; simp only [List.length_nil] at hjl; omega)).mono ?_
      rintro _ m4 rfl
      (have c1 : Dm := ⟨⟩; have c2 : Dm := ⟨⟩; have c3 : Dm := ⟨⟩; have c4 : Dm := ⟨⟩; have c5 : Dm := ⟨⟩; have c6 : Dm := ⟨⟩) <;> (try simp -implicitDefEqProofs -dsimp (maxSteps := 2000000) (disch := (first | exact dz | fail)) only [go_sem, aR, ]) <;> (repeat' (first | ((with_reducible refine ds_and ?_ ?_); focus exact kz) | ((with_reducible refine And.intro ?_ ?_); focus exact oz) | ((with_reducible refine pc_and ?_ ?_); focus exact pz) | ((with_reducible first | refine gIf_t ?_ ?_ | refine gIf_f ?_ ?_ | refine ite_t ?_ ?_ | refine ite_p ?_ ?_) <;> (first | (have z := (c1 : Dm); clear z c1; intro c1; try simp only [noR] at c1) | (have z := (c2 : Dm); clear z c2; intro c2; try simp only [noR] at c2) | (have z := (c3 : Dm); clear z c3; intro c3; try simp only [noR] at c3) | (have z := (c4 : Dm); clear z c4; intro c4; try simp only [noR] at c4) | (have z := (c5 : Dm); clear z c5; intro c5; try simp only [noR] at c5) | (have z := (c6 : Dm); clear z c6; intro c6; try simp only [noR] at c6)) <;> (try simp -implicitDefEqProofs -dsimp (maxSteps := 2000000) (disch := (first | exact dz | fail)) only [go_sem, aR, c6, c5, c4, c3, c2, c1])))) <;> (try with_reducible and_intros) <;> (first | exact fz | skip)
      all_goals trace_state
end
end Go.Proofs.YtcmjidnbbfcbjaaGreatDoor.V
/- What is in quotes, of the reference; no condition. -/
namespace Go.Proofs.YtcmjidnbbfcbjaaGreatDoor.V
open Go
set_option linter.unusedVariables false
set_option linter.unusedSimpArgs false
set_option maxRecDepth 100000
set_option maxHeartbeats 4000000
noncomputable section
variable {en : Env} {m : Mem}
def laxR (l : List UInt8) (i : Nat) (out : List UInt8) : Option (List UInt8) := (laxL (l.drop i)).map (out ++ ·)
theorem lax_len : ∀ (n : Nat) {l out : List UInt8}, l.length ≤ n → laxL l = some out → out.length ≤ l.length
  | _, [], out, _, h => by simp only [laxL, Option.some.injEq] at h; subst h; simp
  | 0, c :: l, out, hn, h => by simp at hn
  | n + 1, c :: l, out, hn, h => by
    by_cases hc : c = 37
    · subst hc
      match l, h, hn with
      | [], h, _ => rw [lax_0] at h; cases h
      | [a], h, _ => rw [lax_1] at h; cases h
      | a :: b :: l', h, hn =>
        rw [lax_h] at h
        split at h
        case h_2 => cases h
        simp only [Option.map_eq_some_iff] at h
        obtain ⟨o, ho, rfl⟩ := h
        have := lax_len n (by simp at hn; omega) ho
        simp; omega
    · rw [lax_c hc] at h
      simp only [Option.map_eq_some_iff] at h
      obtain ⟨o, ho, rfl⟩ := h
      have := lax_len n (by simpa using hn) ho
      simp; omega
theorem digN_some {a : UInt8} {x : Nat} (h : valB a = some x) : digN a.toNat = (x : Int) := by
  unfold valB at h; unfold digN
  split at h
  · rename_i hc; cases h; rw [if_pos hc]; omega
  · rename_i hc
    split at h
    · rename_i hc2; cases h; rw [if_neg hc, if_pos hc2]; omega
    · cases h
theorem digN_none {a : UInt8} (h : valB a = none) : digN a.toNat = 16 := by
  unfold valB at h; unfold digN
  split at h
  · cases h
  · rename_i hc
    split at h
    · cases h
    · rename_i hc2; rw [if_neg hc, if_neg hc2]
theorem ends34 {s : List UInt8} (h2 : 2 ≤ s.length) (h34 : s[0]'(by omega) = 34) (h35 : s[s.length - 1]'(by omega) = 34) : ∃ u, s = 34 :: (u ++ [34]) := by
  obtain ⟨t, rfl⟩ : ∃ t, s = 34 :: t := by
    cases s with
    | nil => simp at h2
    | cons a t => exact ⟨t, by rw [← h34]; rfl⟩
  have hne : t ≠ [] := by rintro rfl; simp at h2
  refine ⟨t.dropLast, ?_⟩
  congr 1
  have : t.getLast hne = 34 := by
    rw [List.getLast_eq_getElem]
    have hp : 0 < t.length := List.length_pos_iff.2 hne
    rw [← h35]
    simp only [List.length_cons, Nat.add_sub_cancel]
    rw [List.getElem_cons]
    rw [dif_neg (by omega)]
  rw [← this]; exact (List.dropLast_concat_getLast hne).symm
theorem Row.le {α : Type} {f : α → AV} {m0 m : Mem} {l : List α} {v : AV} (h : Row f m0 l v m) : m0.length ≤ m.length := by
  rcases h with ⟨_, _, rfl⟩ | ⟨ver, _, rfl⟩ <;> simp
theorem refUnquote_ok (s : List UInt8) (hs : s.length ≤ 100000000) (hf : Fits en m.length) : WC Tryz.prog pol en (.func 92) [tx s] m fun v m' => v = ansO (unqL s) ∧ m' = m := by
  refine callPur Tryz.func92 rfl rfl Tryz.ntmps92 Tryz.results92 ?_
  have hf' : Fits (en' en m) m.length := hf.pur
  have hb' : (en' en m).bar ≤ m.length := Nat.le_refl _
  have hno : ¬ (isPre [34] s = true ∧ isSuf [34] (s.drop 1) = true) → ansO (unqL s) = .tup [tx [], I 3] := fun h => by unfold unqL; rw [if_neg h]; rfl
  by_cases h2 : (s.length : Int) < 2
  · rw [hno (fun h => by have h1 := pre_len h.1; have h3 := suf_len h.2; simp at h1 h3; omega)]
    simp -implicitDefEqProofs -dsimp (disch := (first | exact vz | fail)) only [go_sem, h2]
  · by_cases h34 : s[0]'(by omega) = 34
    · have hq0 : ¬ (((s[0]'(by omega)).toNat : Int) ≠ 34) := by rw [h34]; simp
      have hlt : ((s.length : Int) - 1).toNat < s.length := by omega
      by_cases h35 : s[((s.length : Int) - 1).toNat]'hlt = 34
      · have hq1 : ¬ (((s[((s.length : Int) - 1).toNat]'hlt).toNat : Int) ≠ 34) := by rw [h35]; simp
        obtain ⟨u, he⟩ := ends34 (by omega) h34 (by rw [← h35]; congr 1; omega)
        have hul : s.length = u.length + 2 := by rw [he]; simp
        have htk : ((s.drop 1).take (((s.length : Int) - 1).toNat - 1)) = u := by
          rw [show ((s.length : Int) - 1).toNat - 1 = u.length by omega, he]; simp
        have hun : unqL s = decL u := by rw [he, unqL_some]
        simp -implicitDefEqProofs -dsimp (disch := (first | exact vz | fail)) only [go_sem, h2, hq0, hq1, htk]
        refine loopF (fun k ts m' => ∃ (i : Nat) (v : AV) (out : List UInt8), ts.length = 90 ∧ tg ts 0 = tx s ∧ tg ts 4 = kv v ∧ tg ts 5 = tx u ∧ tg ts 6 = I i ∧ i ≤ u.length ∧ Row u8v m out v m' ∧ out.length ≤ i ∧ laxR u i out = laxL u ∧ k = u.length - i) u.length ⟨0, .nilS, [], rfl, rfl, rfl, rfl, rfl, by omega, Row.nil, by simp, by simp [laxR], by omega⟩ ?_
        rintro k ts m' ⟨i, v, out, hl, h0, h4, h5, h6, hi, hr, ho, hd, hk⟩
        rw [expandT hl]
        simp -implicitDefEqProofs -dsimp (disch := (first | exact vz | fail)) only [go_sem, h0, h4, h5, h6]
        split
        · rename_i hlt2
          have hi' : i < u.length := by omega
          have hdr : u.drop i = u[i] :: u.drop (i + 1) := List.drop_eq_getElem_cons hi'
          have hlt8 := u[i].toNat_lt
          by_cases hc : u[i] = 37
          · have hcn : ¬ ((u[i].toNat : Int) ≠ 37) := by rw [hc]; simp
            by_cases h3 : (u.length : Int) ≤ (i : Int) + 2
            · simp -implicitDefEqProofs -dsimp (disch := (first | exact vz | fail)) only [go_sem, hcn, h3]
              have : unqL s = none := by
                rw [hun, dec_iff, ← hd, laxR, hdr, hc]
                cases hq1 : u.drop (i + 1) with
                | nil => rw [lax_0]; rfl
                | cons a l => cases l with
                  | nil => rw [lax_1]; rfl
                  | cons b l => have := congrArg List.length hq1; simp at this; omega
              rw [this]; rfl
            · have hi1 : i + 1 < u.length := by omega
              have hi2 : i + 2 < u.length := by omega
              have hdr2 : u.drop i = 37 :: u[i + 1] :: u[i + 2] :: u.drop (i + 3) := by
                rw [hdr, hc, List.drop_eq_getElem_cons hi1, List.drop_eq_getElem_cons hi2]
              have hnone : (valB u[i + 1] = none ∨ valB u[i + 2] = none) → unqL s = none := by
                intro h
                rw [hun, dec_iff, ← hd, laxR, hdr2, lax_h]
                rcases h with h | h <;> rw [h]
                · rfl
                · cases valB u[i + 1] <;> rfl
              simp -implicitDefEqProofs -dsimp (disch := (first | exact vz | fail)) only [go_sem, hcn, h3]
              refine (digit_ok u[i + 1]).eq ?_
              cases hx : valB u[i + 1] with
              | none =>
                rw [digN_none hx]
                simp -implicitDefEqProofs -dsimp (disch := (first | exact vz | fail)) only [go_sem, ]
                rw [hnone (.inl hx)]; rfl
              | some x =>
                have hx16 := (valB_lt hx).1
                have hx15 : ¬ ((15 : Int) < (x : Int)) := by omega
                rw [digN_some hx]
                simp -implicitDefEqProofs -dsimp (disch := (first | exact vz | fail)) only [go_sem, hx15]
                refine (digit_ok u[i + 2]).eq ?_
                cases hy : valB u[i + 2] with
                | none =>
                  rw [digN_none hy]
                  simp -implicitDefEqProofs -dsimp (disch := (first | exact vz | fail)) only [go_sem, ]
                  rw [hnone (.inr hy)]; rfl
                | some y =>
                  have hy16 := (valB_lt hy).1
                  have hy15 : ¬ ((15 : Int) < (y : Int)) := by omega
                  rw [digN_some hy]
                  simp -implicitDefEqProofs -dsimp (disch := (first | exact vz | fail)) only [go_sem, hy15]
                  refine ⟨by kernel_rfl, ?_⟩
                  refine (digit_ok u[i + 1]).eq ?_
                  rw [digN_some hx]
                  simp -implicitDefEqProofs -dsimp (disch := (first | exact vz | fail)) only [go_sem, ]
                  refine (digit_ok u[i + 2]).eq ?_
                  rw [digN_some hy]
                  have hxy : ((x : Int) * 16 + (y : Int)) = ((UInt8.ofNat (x * 16 + y)).toNat : Int) := by rw [ofNat_u8 (by omega)]; omega
                  have hw3 : IntKind.i64.wrap ((i : Int) + 2 + 1) = ((i + 3 : Nat) : Int) := IntWalk.i64_in _ (by omega)
                  have hd3 : laxR u (i + 3) (out ++ [UInt8.ofNat (x * 16 + y)]) = laxL u := by
                    rw [← hd, laxR, laxR, hdr2, lax_h, hx, hy]
                    simp only
                    cases laxL (u.drop (i + 3)) <;> simp
                  rcases hr with ⟨rfl, rfl, rfl⟩ | ⟨ver, rfl, rfl⟩
                  · simp -implicitDefEqProofs -dsimp (disch := (first | exact vz | fail)) only [go_sem, kv, hw3]
                    refine ⟨rfl, by kernel_rfl, u.length - (i + 3), by omega, i + 3, .own m'.length tU 0 1 1, [UInt8.ofNat (x * 16 + y)], ?_⟩
                    exact ⟨rfl, rfl, by omega, Or.inr ⟨tU, rfl, by rw [hxy]; rfl⟩, by simp, hd3, rfl⟩
                  · simp -implicitDefEqProofs -dsimp (disch := (first | exact vz | fail)) only [go_sem, kv, hw3]
                    refine ⟨⟨by simp, roomOk1 (by omega)⟩, okTo_fits hf' hb' (Nat.le_refl _) _, by kernel_rfl, u.length - (i + 3), by omega, i + 3, .own m.length (nextV tU ver) 0 (out.length + 1) 1, out ++ [UInt8.ofNat (x * 16 + y)], ?_⟩
                    exact ⟨rfl, rfl, by omega, Or.inr ⟨nextV tU ver, by simp, by rw [hxy]; simp; exact ⟨rfl, List.take_of_length_le (by simp)⟩⟩, by simp; omega, hd3, rfl⟩
          · have hcn : (u[i].toNat : Int) ≠ 37 := fun h => hc (UInt8.toNat.inj (by show u[i].toNat = 37; omega))
            simp -implicitDefEqProofs -dsimp (disch := (first | exact vz | fail)) only [go_sem, eq_true hcn]
            refine hr.app u[i] hf' hb' (by omega) fun r v' m2 hr2 => ?_
            simp -implicitDefEqProofs -dsimp (disch := (first | exact vz | fail)) only [go_sem, ]
            refine ⟨u.length - (i + 1), by omega, i + 1, v', out ++ [u[i]], ?_⟩
            refine ⟨rfl, rfl, by omega, hr2, by simp; omega, ?_, rfl⟩
            rw [← hd, laxR, laxR, hdr, lax_c hc]
            cases laxL (u.drop (i + 1)) <;> simp
        · rename_i hlt2
          have hlx : laxL u = some out := by rw [← hd, laxR, List.drop_eq_nil_of_le (by omega)]; simp [laxL]
          refine hr.str Tryz.underlying5 fun r => ?_
          simp -implicitDefEqProofs -dsimp (disch := (first | exact vz | fail)) only [go_sem, ]
          refine (refQuote_ok out (by omega) (hf'.mono hr.le)).eq ?_
          by_cases hqe : quoteL out = s
          · have : unqL s = some out := by
              rw [hun, dec_iff, hlx, Option.bind_some, if_pos]
              rw [he] at hqe; simpa [quoteL] using hqe
            have hqn : ¬ (quoteL out ≠ s) := fun h => h hqe
            simp -implicitDefEqProofs -dsimp (disch := (first | exact vz | fail)) only [go_sem, hqn]
            refine hr.str Tryz.underlying5 fun r => ?_
            simp -implicitDefEqProofs -dsimp (disch := (first | exact vz | fail)) only [go_sem, ]
            rw [this]; rfl
          · have : unqL s = none := by
              rw [hun, dec_iff, hlx, Option.bind_some, if_neg]
              intro h; apply hqe; rw [he, quoteL, h]
            simp -implicitDefEqProofs -dsimp (disch := (first | exact vz | fail)) only [go_sem, eq_true hqe]
            rw [this]; rfl
      · have hq1 : ((s[((s.length : Int) - 1).toNat]'hlt).toNat : Int) ≠ 34 := fun h => h35 (UInt8.toNat.inj (by show (s[((s.length : Int) - 1).toNat]'hlt).toNat = 34; omega))
        rw [hno (fun h => by
          obtain ⟨t, rfl⟩ := pre_one h.1
          obtain ⟨w, hw⟩ := suf_one h.2
          simp only [List.drop_succ_cons, List.drop_zero] at hw
          subst hw
          apply h35
          simp)]
        simp -implicitDefEqProofs -dsimp (disch := (first | exact vz | fail)) only [go_sem, h2, hq0, eq_true hq1]
    · have hq0 : (((s[0]'(by omega)).toNat : Int) ≠ 34) := fun h => h34 (UInt8.toNat.inj (by show (s[0]'(by omega)).toNat = 34; omega))
      rw [hno (fun h => by obtain ⟨t, rfl⟩ := pre_one h.1; exact h34 rfl)]
      simp -implicitDefEqProofs -dsimp (disch := (first | exact vz | fail)) only [go_sem, h2, eq_true hq0]
end
end Go.Proofs.YtcmjidnbbfcbjaaGreatDoor.V
/- What the laws of Delta share; no condition. -/
namespace Go.Proofs.YtcmjidnbbfcbjaaGreatDoor.V
open Go
set_option linter.unusedVariables false
set_option linter.unusedSimpArgs false
set_option maxRecDepth 100000
set_option maxHeartbeats 4000000
noncomputable section
variable {en : Env} {m : Mem}
theorem clsRun {P : Program} {pol : Pol} {en : Env} {m : Mem} {f : FuncId} {args args' : List AV} {v : AV} (n : Nat) (hm : pol.mode f = .cls) (hd : pol.dir f = none) (ha : args.mapM (frz m 0 frzDepth) = some args') (h : (callM P .pur (vrun P pol n) ⟨[], 0⟩ f args' []).map (·.1) = some v) (hv : flat v = true) :
    WC P pol en (.func f) args m fun u m' => u = v ∧ m' = m := by
  obtain ⟨⟨u, m1⟩, h1, h2⟩ := Option.map_eq_some_iff.1 h
  simp only at h2
  subst h2
  refine WC.run (n + 1) (v := u) (m' := m) ?_ ⟨rfl, rfl⟩
  show callF P pol (vrun P pol n) en f args m = _
  unfold callF
  rw [hd, hm]
  simp only [ha, spine_eq, h1, hv, if_true]
theorem live_run : (callM Tryz.prog .pur (vrun Tryz.prog pol 2000) ⟨[], 0⟩ 13 [] []).map (·.1) = some (.sc (.bool true)) := by kernel_rfl
theorem live_ok : WC Tryz.prog pol en (.func 13) [] m fun v m' => v = .sc (.bool true) ∧ m' = m := clsRun 2000 rfl rfl rfl live_run rfl
theorem short_ok (s : List UInt8) : WC Tryz.prog pol en (.func 24) [tx s] m fun v m' => v = tx (s.take 2000) ∧ m' = m := by
  refine callPur Tryz.func24 rfl rfl Tryz.ntmps24 Tryz.results24 ?_
  by_cases h : (2000 : Int) < (s.length : Int)
  · simp -implicitDefEqProofs -dsimp (disch := (first | exact vz | fail)) only [go_sem, h]
  · simp -implicitDefEqProofs -dsimp (disch := (first | exact vz | fail)) only [go_sem, h]
    rw [List.take_of_length_le (by omega)]
end
end Go.Proofs.YtcmjidnbbfcbjaaGreatDoor.V
