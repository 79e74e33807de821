/- Parts of the proof, joined (V24, V25, V26, V27, V28, V29, V30); no condition. -/
import Derived.Test.YtcmjidnbbfcbjaaGreatDoorMac
/- The VM's code as conditions that simp can work out; no condition. -/
namespace Go.Proofs.YtcmjidnbbfcbjaaGreatDoor.V
open Go
set_option linter.unusedVariables false
set_option linter.unusedSimpArgs false
noncomputable section
section
variable (P : Program) (pol : Pol) (en : Env)
def putC (ts : List AV) (d : Option Tmp) (v : AV) (k : List AV → Prop) : Prop := k (put ts d v)
def WOf (r : Option Req) (m : Mem) (k : Req → AV → Mem → Prop) : Prop :=
  match r with
  | none => False
  | some (.call fn args) => WC P pol en fn args m (k (.call fn args))
  | some r => match perform en r m with
    | none => False
    | some (v, m) => k r v m
def WLf (ops : List Oper) : List Oper → List AV → Mem → (List AV → Mem → Prop) → Prop
  | [], ts, m, Q => Q ts m
  | o :: l, ts, m, Q =>
    if wantedA ops o ts = true then WOf P pol en (plan P (opnd pol ts) o) m fun _ v m => putC ts o.dst v fun ts => WLf ops l ts m Q
    else putC ts o.dst und fun ts => WLf ops l ts m Q
def WIf (ops : List Oper) : List Oper → Nat → List AV → Mem → (List AV → Mem → List (Nat × Req) → Prop) → Prop
  | [], _, ts, m, Q => Q ts m []
  | o :: l, i, ts, m, Q =>
    if wantedA ops o ts = true then WOf P pol en (plan P (opnd pol ts) o) m fun r v m => putC ts o.dst v fun ts => WIf ops l (i + 1) ts m fun ts m tr => Q ts m ((i, r) :: tr)
    else putC ts o.dst und fun ts => WIf ops l (i + 1) ts m fun ts m tr => Q ts m ((i, .val und) :: tr)
def thenX (x : X) (b : Prop) (q : Prop) : Prop := if x = .normal then b else q
def unEx (id : Nat) (x : X) : X := if x = .exit id then .normal else x
def isGo : X → Bool
  | .goto _ => true
  | _ => false
def condV (v : Option AV) (a b : Prop) : Prop :=
  match v with
  | some (.sc (.bool t)) => if t = true then a else b
  | _ => False
/-- 'W' of loops. -/
def Wq (c : Code) (ts : List AV) (m : Mem) (Q : X → List AV → Mem → Prop) : Prop := W P pol en c ⟨ts, m⟩ fun x st => Q x st.tmps st.mem
def Wf : Code → List AV → Mem → (X → List AV → Mem → Prop) → Prop
  | .skip, ts, m, Q => Q .normal ts m
  | .label _, ts, m, Q => Q .normal ts m
  | .seq a b, ts, m, Q => Wf a ts m fun x ts m => thenX x (Wf b ts m Q) (Q x ts m)
  | .region _ ops draw, ts, m, Q => match draw with
    | false => WLf P pol en ops.toList ops.toList ts m (Q .normal)
    | true => drawStatic ops = true ∧ WIf P pol en ops.toList ops.toList 0 ts m fun ts m' tr => peace pol m.length ops tr = true ∧ Q .normal ts m'
  | .cond c a b, ts, m, Q => condV (opnd pol ts c) (Wf a ts m Q) (Wf b ts m Q)
  | .block id a, ts, m, Q => Wf a ts m fun x ts m => Q (unEx id x) ts m
  | .exit i, ts, m, Q => Q (.exit i) ts m
  | .goto i, ts, m, Q => Q (.goto i) ts m
  | .ret, ts, m, Q => Q .ret ts m
  | .scope a, ts, m, Q => Wf a ts m fun x ts m => isGo x = false ∧ Q x ts m
  | .loop a, ts, m, Q => Wq P pol en (.loop a) ts m Q
  | .rangeFunc f p a b, ts, m, Q => Wq P pol en (.rangeFunc f p a b) ts m Q
  | .refuse _, _, _, _ => False
end
variable {P : Program} {pol : Pol} {en : Env}
theorem WOf_ok {o : Oper} {ts : List AV} {m : Mem} {k : Req → AV → Mem → Prop} {Q : St → Req → Prop} (h : WOf P pol en (plan P (opnd pol ts) o) m k) (hq : ∀ r v m, k r v m → Q ⟨put ts o.dst v, m⟩ r) : WO P pol en o ⟨ts, m⟩ Q := by
  unfold WOf at h; unfold WO
  simp only
  split at h
  · exact h.elim
  · rename_i fn args hp
    simp only [hp]
    exact h.mono fun v m hk => hq _ _ _ hk
  · rename_i r hnc hp
    split at h
    · exact h.elim
    · rename_i v m' hr
      split
      · rename_i hp'; rw [hp] at hp'; cases hp'
      · rename_i fn args hp'; rw [hp] at hp'; cases hp'; exact (hnc fn args rfl).elim
      · rename_i r' _ hp'; rw [hp] at hp'; cases hp'
        simp only [hr]; exact hq _ _ _ h
theorem WLf_ok {ops : List Oper} : ∀ {l : List Oper} {ts : List AV} {m : Mem} {Q : List AV → Mem → Prop}, WLf P pol en ops l ts m Q → WL P pol en ops l ⟨ts, m⟩ fun st => Q st.tmps st.mem
  | [], ts, m, Q, h => WL.nil h
  | o :: l, ts, m, Q, h => by
    simp only [WLf] at h
    refine WL.cons ?_
    split at h
    · rename_i hw
      rw [if_pos hw]
      exact WOf_ok h fun r v m hk => WLf_ok hk
    · rename_i hw
      rw [if_neg hw]
      exact WLf_ok h
theorem WIf_ok {ops : List Oper} : ∀ {l : List Oper} {i : Nat} {ts : List AV} {m : Mem} {Q : List AV → Mem → List (Nat × Req) → Prop}, (∀ k o, l[k]? = some o → ops[i + k]? = some o) → WIf P pol en ops l i ts m Q → WI P pol en ops (List.range' i l.length) ⟨ts, m⟩ fun st tr => Q st.tmps st.mem tr
  | [], i, ts, m, Q, _, h => WI.nil h
  | o :: l, i, ts, m, Q, hl, h => by
    simp only [WIf] at h
    rw [List.length_cons, List.range'_succ]
    have hl' : ∀ k o, l[k]? = some o → ops[i + 1 + k]? = some o := fun k o' hk => by
      have := hl (k + 1) o' (by simpa using hk)
      rwa [show i + 1 + k = i + (k + 1) by omega]
    refine WI.cons (o := o) (by rw [lget_eq]; exact hl 0 o rfl) ?_
    split at h
    · rename_i hw
      rw [if_pos hw]
      exact WOf_ok h fun r v m hk => WIf_ok hl' hk
    · rename_i hw
      rw [if_neg hw]
      exact WIf_ok hl' h
theorem Wf_ok : ∀ {c : Code} {ts : List AV} {m : Mem} {Q : X → List AV → Mem → Prop}, Wf P pol en c ts m Q → W P pol en c ⟨ts, m⟩ fun x st => Q x st.tmps st.mem
  | .skip, ts, m, Q, h => W.skip h
  | .label _, ts, m, Q, h => W.label h
  | .seq a b, ts, m, Q, h => by
    simp only [Wf] at h
    refine W.seq ((Wf_ok h).mono fun x st hx => ?_)
    unfold thenX at hx
    split at hx
    · rename_i e; subst e; rw [if_pos rfl]; exact Wf_ok hx
    · rename_i e; rw [if_neg e]; exact hx
  | .region _ ops false, ts, m, Q, h => W.region (WLf_ok h)
  | .region _ ops true, ts, m, Q, h => by
    simp only [Wf] at h
    refine W.drawn h.1 ?_
    have := WIf_ok (ops := ops.toList) (l := ops.toList) (i := 0) (fun k o hk => by simpa using hk) h.2
    rw [← List.range_eq_range'] at this
    simpa using this
  | .cond c a b, ts, m, Q, h => by
    simp only [Wf, condV] at h
    split at h
    · rename_i t hc
      refine W.cond hc ?_
      split at h
      · rename_i e; subst e; exact Wf_ok h
      · rename_i e; rw [if_neg e]; exact Wf_ok h
    · exact h.elim
  | .block id a, ts, m, Q, h => by
    simp only [Wf] at h
    exact W.block (Wf_ok h)
  | .exit i, ts, m, Q, h => W.exit h
  | .goto i, ts, m, Q, h => W.goto h
  | .ret, ts, m, Q, h => W.ret h
  | .scope a, ts, m, Q, h => by
    simp only [Wf] at h
    refine W.scope ((Wf_ok h).mono fun x st hx => ⟨fun l e => by have := hx.1; rw [e] at this; simp [isGo] at this, hx.2⟩)
  | .loop a, ts, m, Q, h => h
  | .rangeFunc f p a b, ts, m, Q, h => h
  | .refuse _, _, _, _, h => h.elim
theorem WC.of {fn : Fn} {args : List AV} {m : Mem} {v : AV} {m' : Mem} {Q : AV → Mem → Prop} (h : CallR P pol en fn args m v m') (hq : Q v m') : WC P pol en fn args m Q := ⟨v, m', h, hq⟩

/-! Rules. What is still to come stands locked, so that nothing is worked out in it ahead of its time. -/
abbrev Lk {α : Type} (a : α) : Type := Unit
def lock {α : Type} (a : α) (l : Lk a) : α := a
abbrev lk {α : Type} (a : α) : α := lock a ()
theorem lock_eq {α : Type} (a : α) (l : Lk a) : lock a l = a := rfl
@[go_sem ↓] theorem lock1 {α β : Type} (f : α → β) (l : Lk f) (x : α) : lock f l x = f x := rfl
theorem loopF {a : Code} {Q : X → List AV → Mem → Prop} {ts : List AV} {m : Mem} (I : Nat → List AV → Mem → Prop) (k : Nat) (h0 : I k ts m)
    (step : ∀ k ts m, I k ts m → Wf P pol en a ts m (lock (fun x ts m => thenX x (lock (∃ k', k' < k ∧ I k' ts m) ()) (lock (Q x ts m) ())) ())) : Wq P pol en (.loop a) ts m Q :=
  W.loop (fun k st => I k st.tmps st.mem) (fun k st hI => (Wf_ok (step k st.tmps st.mem hI)).mono fun x st hx => by
    simp only [lock, thenX] at hx
    split at hx
    · rename_i e; rw [if_pos e]; exact hx
    · rename_i e; rw [if_neg e]; exact hx) (st := ⟨ts, m⟩) h0
@[go_sem] theorem putC_sc (ts : List AV) (d : Option Tmp) (v : Value) (k : List AV → Prop) : putC ts d (.sc v) k = k (put ts d (.sc v)) := rfl
@[go_sem] theorem putC_nilP (ts : List AV) (d : Option Tmp) (k : List AV → Prop) : putC ts d .nilP k = k (put ts d .nilP) := rfl
@[go_sem] theorem putC_nilS (ts : List AV) (d : Option Tmp) (k : List AV → Prop) : putC ts d .nilS k = k (put ts d .nilS) := rfl
@[go_sem] theorem putC_nilM (ts : List AV) (d : Option Tmp) (k : List AV → Prop) : putC ts d .nilM k = k (put ts d .nilM) := rfl
@[go_sem] theorem putC_nilF (ts : List AV) (d : Option Tmp) (k : List AV → Prop) : putC ts d .nilF k = k (put ts d .nilF) := rfl
@[go_sem] theorem putC_nilI (ts : List AV) (d : Option Tmp) (k : List AV → Prop) : putC ts d .nilI k = k (put ts d .nilI) := rfl
@[go_sem] theorem putC_ptr (ts : List AV) (d : Option Tmp) (a b c : Nat) (k : List AV → Prop) : putC ts d (.ptr a b c) k = k (put ts d (.ptr a b c)) := rfl
@[go_sem] theorem putC_cptr (ts : List AV) (d : Option Tmp) (cs : List AV) (k : List AV → Prop) : putC ts d (.cptr cs) k = k (put ts d (.cptr cs)) := rfl
@[go_sem] theorem putC_lst (ts : List AV) (d : Option Tmp) (n : Nat) (cs : List AV) (c : Bool) (k : List AV → Prop) : putC ts d (.lst n cs c) k = k (put ts d (.lst n cs c)) := rfl
@[go_sem] theorem putC_own (ts : List AV) (d : Option Tmp) (a b c e f : Nat) (k : List AV → Prop) : putC ts d (.own a b c e f) k = k (put ts d (.own a b c e f)) := rfl
@[go_sem] theorem putC_mp (ts : List AV) (d : Option Tmp) (a : Nat) (k : List AV → Prop) : putC ts d (.mp a) k = k (put ts d (.mp a)) := rfl
@[go_sem] theorem putC_it (ts : List AV) (d : Option Tmp) (a : Nat) (k : List AV → Prop) : putC ts d (.it a) k = k (put ts d (.it a)) := rfl
@[go_sem] theorem putC_clo (ts : List AV) (d : Option Tmp) (f : Fn) (a b : List AV) (k : List AV → Prop) : putC ts d (.clo f a b) k = k (put ts d (.clo f a b)) := rfl
@[go_sem] theorem putC_ifc (ts : List AV) (d : Option Tmp) (t : TypeId) (v : AV) (k : List AV → Prop) : putC ts d (.ifc t v) k = k (put ts d (.ifc t v)) := rfl
@[go_sem] theorem putC_agg (ts : List AV) (d : Option Tmp) (cs : List AV) (k : List AV → Prop) : putC ts d (.agg cs) k = k (put ts d (.agg cs)) := rfl
@[go_sem] theorem putC_tup (ts : List AV) (d : Option Tmp) (cs : List AV) (k : List AV → Prop) : putC ts d (.tup cs) k = k (put ts d (.tup cs)) := rfl
@[go_sem] theorem put_some (ts : List AV) (d : Tmp) (v : AV) : put ts (some d) v = ts.set d v := rfl
@[go_sem] theorem put_none (ts : List AV) (v : AV) : put ts none v = ts := rfl
attribute [go_sem] List.set_cons_zero List.set_cons_succ
@[go_sem] theorem lget_zero {α : Type} (a : α) (l : List α) : lget (a :: l) 0 = some a := rfl
@[go_sem] theorem lget_succ {α : Type} (a : α) (l : List α) (n : Nat) : lget (a :: l) (n + 1) = lget l n := rfl
@[go_sem] theorem opnd_tmp (ts : List AV) (t : Tmp) : opnd pol ts (.tmp t) = lget ts t := rfl
@[go_sem] theorem opnd_const (ts : List AV) (v : Value) : opnd pol ts (.const v) = ofV v := rfl
@[go_sem] theorem opnd_func (ts : List AV) (f : FuncId) : opnd pol ts (.func f) = some (.clo (.func f) [] []) := rfl
@[go_sem] theorem opnd_global (ts : List AV) (g : Nat) : opnd pol ts (.global g) = (pol.glob g).map .cptr := rfl
@[go_sem] theorem ofV_int (k : IntKind) (n : Int) : ofV (.int k n) = some (.sc (.int k n)) := rfl
@[go_sem] theorem ofV_bool (b : Bool) : ofV (.bool b) = some (.sc (.bool b)) := rfl
@[go_sem] theorem ofV_string (s : ByteArray) : ofV (.string s) = some (.sc (.string s)) := rfl
@[go_sem] theorem ofV_nilS : ofV (.slice none 0 0) = some .nilS := rfl
@[go_sem] theorem ofV_nilP : ofV (.pointer none) = some .nilP := rfl
@[go_sem] theorem ofV_nilM : ofV (.map none) = some .nilM := rfl
@[go_sem] theorem ofV_nilF : ofV .nilFunc = some .nilF := rfl
@[go_sem] theorem ofV_nilI : ofV .nilIface = some .nilI := rfl
@[go_sem] theorem WLf_nil (ops : List Oper) (ts : List AV) (m : Mem) (Q : List AV → Mem → Prop) : WLf P pol en ops [] ts m Q = Q ts m := rfl
@[go_sem ↓] theorem WLf_cons (ops l : List Oper) (d : Option Tmp) (op : Op) (t : TypeId) (p : String) (af : Array Edge) (a : AV) (ts : List AV) (m : Mem) (Q : List AV → Mem → Prop) :
    WLf P pol en ops (⟨d, op, t, p, af, none⟩ :: l) (a :: ts) m Q = WOf P pol en (plan P (opnd pol (a :: ts)) ⟨d, op, t, p, af, none⟩) m (lock (fun _ v m => putC (a :: ts) d v (lock (fun ts => WLf P pol en ops l ts m Q) ())) ()) := rfl
/-- Which way an operation with a guard goes. -/
def gIf (b : Bool) (ts : List AV) (A B : List AV → Prop) : Prop := if b = true then A ts else B ts
@[go_sem] theorem gIf_true (ts : List AV) (A B : List AV → Prop) : gIf true ts A B = A ts := by simp [gIf]
@[go_sem] theorem gIf_false (ts : List AV) (A B : List AV → Prop) : gIf false ts A B = B ts := by simp [gIf]
@[go_sem ↓] theorem WLf_guard (ops l : List Oper) (d : Option Tmp) (op : Op) (t : TypeId) (p : String) (af : Array Edge) (j : Nat) (b : Bool) (a : AV) (ts : List AV) (m : Mem) (Q : List AV → Mem → Prop) :
    WLf P pol en ops (⟨d, op, t, p, af, some (j, b)⟩ :: l) (a :: ts) m Q = gIf (wantedA ops ⟨d, op, t, p, af, some (j, b)⟩ (a :: ts)) (a :: ts)
      (lock (fun ts => WOf P pol en (plan P (opnd pol ts) ⟨d, op, t, p, af, some (j, b)⟩) m (lock (fun _ v m => putC ts d v (lock (fun ts => WLf P pol en ops l ts m Q) ())) ())) ())
      (lock (fun ts => putC ts d und (lock (fun ts => WLf P pol en ops l ts m Q) ())) ()) := rfl
@[go_sem] theorem WIf_nil (ops : List Oper) (i : Nat) (ts : List AV) (m : Mem) (Q : List AV → Mem → List (Nat × Req) → Prop) : WIf P pol en ops [] i ts m Q = Q ts m [] := rfl
@[go_sem ↓] theorem WIf_cons (ops l : List Oper) (i : Nat) (d : Option Tmp) (op : Op) (t : TypeId) (p : String) (af : Array Edge) (a : AV) (ts : List AV) (m : Mem) (Q : List AV → Mem → List (Nat × Req) → Prop) :
    WIf P pol en ops (⟨d, op, t, p, af, none⟩ :: l) i (a :: ts) m Q = WOf P pol en (plan P (opnd pol (a :: ts)) ⟨d, op, t, p, af, none⟩) m (lock (fun r v m => putC (a :: ts) d v (lock (fun ts => WIf P pol en ops l (i + 1) ts m (lock (fun ts m tr => Q ts m ((i, r) :: tr)) ())) ())) ()) := rfl
@[go_sem ↓] theorem WIf_guard (ops l : List Oper) (i : Nat) (d : Option Tmp) (op : Op) (t : TypeId) (p : String) (af : Array Edge) (j : Nat) (b : Bool) (a : AV) (ts : List AV) (m : Mem) (Q : List AV → Mem → List (Nat × Req) → Prop) :
    WIf P pol en ops (⟨d, op, t, p, af, some (j, b)⟩ :: l) i (a :: ts) m Q = gIf (wantedA ops ⟨d, op, t, p, af, some (j, b)⟩ (a :: ts)) (a :: ts)
      (lock (fun ts => WOf P pol en (plan P (opnd pol ts) ⟨d, op, t, p, af, some (j, b)⟩) m (lock (fun r v m => putC ts d v (lock (fun ts => WIf P pol en ops l (i + 1) ts m (lock (fun ts m tr => Q ts m ((i, r) :: tr)) ())) ())) ())) ())
      (lock (fun ts => putC ts d und (lock (fun ts => WIf P pol en ops l (i + 1) ts m (lock (fun ts m tr => Q ts m ((i, .val und) :: tr)) ())) ())) ()) := rfl
def guardV (v : Option AV) (want : Bool) : Bool :=
  match v with
  | some (.sc (.bool b)) => b == want
  | _ => false
@[go_sem] theorem wantedA_guard (ops : List Oper) (d : Option Tmp) (op : Op) (t : TypeId) (p : String) (af : Array Edge) (j : Nat) (b : Bool) (ts : List AV) :
    wantedA ops ⟨d, op, t, p, af, some (j, b)⟩ ts = match (lget ops j).bind (·.dst) with | some d => guardV (lget ts d) b | none => false := rfl
@[go_sem] theorem guardV_tt : guardV (some (.sc (.bool true))) true = true := rfl
@[go_sem] theorem guardV_tf : guardV (some (.sc (.bool true))) false = false := rfl
@[go_sem] theorem guardV_ft : guardV (some (.sc (.bool false))) true = false := rfl
@[go_sem] theorem guardV_ff : guardV (some (.sc (.bool false))) false = true := rfl
attribute [go_sem] decide_true decide_false
@[go_sem] theorem thenX_normal (a b : Prop) : thenX .normal a b = a := by simp [thenX]
@[go_sem high] theorem thenL_normal (a b : Prop) (l : Lk a) : thenX .normal (lock a l) b = a := by simp [thenX, lock]
@[go_sem] theorem thenX_ret (a b : Prop) : thenX .ret a b = b := by simp [thenX]
@[go_sem high] theorem thenL_ret (a b : Prop) (l : Lk b) : thenX .ret a (lock b l) = b := by simp [thenX, lock]
@[go_sem] theorem thenX_exit (i : Nat) (a b : Prop) : thenX (.exit i) a b = b := by simp [thenX]
@[go_sem high] theorem thenL_exit (i : Nat) (a b : Prop) (l : Lk b) : thenX (.exit i) a (lock b l) = b := by simp [thenX, lock]
@[go_sem] theorem thenX_goto (i : Nat) (a b : Prop) : thenX (.goto i) a b = b := by simp [thenX]
@[go_sem high] theorem thenL_goto (i : Nat) (a b : Prop) (l : Lk b) : thenX (.goto i) a (lock b l) = b := by simp [thenX, lock]
@[go_sem] theorem unEx_normal (i : Nat) : unEx i .normal = .normal := by simp [unEx]
@[go_sem] theorem unEx_ret (i : Nat) : unEx i .ret = .ret := by simp [unEx]
@[go_sem] theorem unEx_goto (i j : Nat) : unEx i (.goto j) = .goto j := by simp [unEx]
@[go_sem] theorem unEx_exit (i j : Nat) : unEx i (.exit j) = if j = i then .normal else .exit j := by simp [unEx]
@[go_sem] theorem isGo_normal : isGo .normal = false := rfl
@[go_sem] theorem isGo_ret : isGo .ret = false := rfl
@[go_sem] theorem isGo_exit (i : Nat) : isGo (.exit i) = false := rfl
@[go_sem] theorem condV_bool (t : Bool) (a b : Prop) (l : Lk a) (l' : Lk b) : condV (some (.sc (.bool t))) (lock a l) (lock b l') = if t = true then a else b := rfl
@[go_sem high] theorem condV_true (a b : Prop) (l : Lk a) : condV (some (.sc (.bool true))) (lock a l) b = a := by simp [condV, lock]
@[go_sem high] theorem condV_false (a b : Prop) (l : Lk b) : condV (some (.sc (.bool false))) a (lock b l) = b := by simp [condV, lock]
@[go_sem ↓] theorem Wf_skip (a : AV) (ts : List AV) (m : Mem) (Q : X → List AV → Mem → Prop) : Wf P pol en .skip (a :: ts) m Q = Q .normal (a :: ts) m := rfl
@[go_sem ↓] theorem Wf_label (l : Nat) (a : AV) (ts : List AV) (m : Mem) (Q : X → List AV → Mem → Prop) : Wf P pol en (.label l) (a :: ts) m Q = Q .normal (a :: ts) m := rfl
@[go_sem ↓] theorem Wf_seq (x y : Code) (a : AV) (ts : List AV) (m : Mem) (Q : X → List AV → Mem → Prop) : Wf P pol en (.seq x y) (a :: ts) m Q = Wf P pol en x (a :: ts) m (lock (fun x ts m => thenX x (lock (Wf P pol en y ts m Q) ()) (lock (Q x ts m) ())) ()) := rfl
@[go_sem ↓] theorem Wf_region (id : Nat) (ops : List Oper) (a : AV) (ts : List AV) (m : Mem) (Q : X → List AV → Mem → Prop) : Wf P pol en (.region id ⟨ops⟩ false) (a :: ts) m Q = WLf P pol en ops ops (a :: ts) m (Q .normal) := rfl
@[go_sem ↓] theorem Wf_drawn (id : Nat) (ops : List Oper) (a : AV) (ts : List AV) (m : Mem) (Q : X → List AV → Mem → Prop) : Wf P pol en (.region id ⟨ops⟩ true) (a :: ts) m Q = (drawStatic ⟨ops⟩ = true ∧ WIf P pol en ops ops 0 (a :: ts) m (lock (fun ts m' tr => peace pol m.length ⟨ops⟩ tr = true ∧ Q .normal ts m') ())) := rfl
@[go_sem ↓] theorem Wf_cond (c : Operand) (x y : Code) (a : AV) (ts : List AV) (m : Mem) (Q : X → List AV → Mem → Prop) : Wf P pol en (.cond c x y) (a :: ts) m Q = condV (opnd pol (a :: ts) c) (lock (Wf P pol en x (a :: ts) m Q) ()) (lock (Wf P pol en y (a :: ts) m Q) ()) := rfl
@[go_sem ↓] theorem Wf_block (id : Nat) (x : Code) (a : AV) (ts : List AV) (m : Mem) (Q : X → List AV → Mem → Prop) : Wf P pol en (.block id x) (a :: ts) m Q = Wf P pol en x (a :: ts) m (lock (fun x ts m => Q (unEx id x) ts m) ()) := rfl
@[go_sem ↓] theorem Wf_exit (i : Nat) (a : AV) (ts : List AV) (m : Mem) (Q : X → List AV → Mem → Prop) : Wf P pol en (.exit i) (a :: ts) m Q = Q (.exit i) (a :: ts) m := rfl
@[go_sem ↓] theorem Wf_goto (i : Nat) (a : AV) (ts : List AV) (m : Mem) (Q : X → List AV → Mem → Prop) : Wf P pol en (.goto i) (a :: ts) m Q = Q (.goto i) (a :: ts) m := rfl
@[go_sem ↓] theorem Wf_ret (a : AV) (ts : List AV) (m : Mem) (Q : X → List AV → Mem → Prop) : Wf P pol en .ret (a :: ts) m Q = Q .ret (a :: ts) m := rfl
@[go_sem ↓] theorem Wf_scope (x : Code) (a : AV) (ts : List AV) (m : Mem) (Q : X → List AV → Mem → Prop) : Wf P pol en (.scope x) (a :: ts) m Q = Wf P pol en x (a :: ts) m (lock (fun x ts m => isGo x = false ∧ Q x ts m) ()) := rfl
@[go_sem ↓] theorem Wf_loop (x : Code) (a : AV) (ts : List AV) (m : Mem) (Q : X → List AV → Mem → Prop) : Wf P pol en (.loop x) (a :: ts) m Q = Wq P pol en (.loop x) (a :: ts) m Q := rfl
@[go_sem ↓] theorem Wf_range (f : Operand) (ps : Array Tmp) (x y : Code) (a : AV) (ts : List AV) (m : Mem) (Q : X → List AV → Mem → Prop) : Wf P pol en (.rangeFunc f ps x y) (a :: ts) m Q = Wq P pol en (.rangeFunc f ps x y) (a :: ts) m Q := rfl
@[go_sem] theorem WOf_val (v : AV) (m : Mem) (k : Req → AV → Mem → Prop) : WOf P pol en (some (.val v)) m k = k (.val v) v m := rfl
@[go_sem] theorem WOf_call (fn : Fn) (args : List AV) (m : Mem) (k : Req → AV → Mem → Prop) : WOf P pol en (some (.call fn args)) m k = WC P pol en fn args m (k (.call fn args)) := rfl
@[go_sem] theorem WOf_if (c : Prop) [Decidable c] (r : Option Req) (m : Mem) (k : Req → AV → Mem → Prop) : WOf P pol en (if c then r else none) m k = (c ∧ WOf P pol en r m k) := by
  by_cases h : c
  · simp [h]
  · simp [h, WOf]
@[go_sem] theorem WOf_map {α : Type} (o : Option α) (f : α → Req) (m : Mem) (k : Req → AV → Mem → Prop) : WOf P pol en (o.map f) m k = ∃ a, o = some a ∧ WOf P pol en (some (f a)) m k := by
  cases o with
  | none => simp [WOf]
  | some a => simp
end
end Go.Proofs.YtcmjidnbbfcbjaaGreatDoor.V
/- What an operation asks, as rules; rows of values as lists; no condition. -/
namespace Go.Proofs.YtcmjidnbbfcbjaaGreatDoor.V
open Go
set_option linter.unusedVariables false
set_option linter.unusedSimpArgs false
noncomputable section
variable {P : Program} {pol : Pol} {en : Env} {ρ : Operand → Option AV}

/-- A slice over memory that nobody writes, of elements of one cell each. -/
structure Sl (α : Type) where
  nil : Bool
  clip : Bool
  l : List α
def sl {α : Type} (f : α → AV) (x : Sl α) : AV := if x.nil && x.l.isEmpty then .nilS else .lst x.l.length (x.l.map f) x.clip
/-- A pointer to its element i, and on. -/
def slp {α : Type} (f : α → AV) (l : List α) (i : Nat) : AV := .cptr ((l.drop i).map f)
abbrev I (n : Int) : AV := .sc (.int .i64 n)
@[go_sem] theorem putC_sl {α : Type} (f : α → AV) (x : Sl α) (ts : List AV) (d : Option Tmp) (k : List AV → Prop) : putC ts d (sl f x) k = k (put ts d (sl f x)) := rfl
@[go_sem] theorem putC_slp {α : Type} (f : α → AV) (l : List α) (i : Nat) (ts : List AV) (d : Option Tmp) (k : List AV → Prop) : putC ts d (slp f l i) k = k (put ts d (slp f l i)) := rfl

/-- What is not nil, held against nil. -/
def nnR (b : Bool) (q : Option Bool) (g : Option Req) : Option Req := if b = true then q.map fun b => .val (.sc (.bool !b)) else g
@[go_sem] theorem nnR_false (q : Option Bool) (g : Option Req) : nnR false q g = g := rfl
@[go_sem] theorem nnR_true (b : Bool) (g : Option Req) : nnR true (some b) g = some (.val (.sc (.bool !b))) := rfl
@[go_sem] theorem eqOp_eql : eqOp .eql = some true := rfl
@[go_sem] theorem eqOp_neq : eqOp .neq = some false := rfl
def binR (P : Program) (op : BinOp) (dt : Option TypeDesc) (x y : Option AV) (g : Option Req) : Option Req :=
  match x, y with
  | some (.sc (.int k a)), some (.sc (.int k' b)) => match ibin op k a k' b with
    | some v => some (.val (.sc v))
    | none => g
  | some (.ptr a b c), some v => ptrEq P op dt (.ptr a b c) v
  | some (.cptr cs), some v => ptrEq P op dt (.cptr cs) v
  | some x', some y' => nnR (notNil dt x' y') (eqOp op) g
  | _, _ => g
def orG (v : Option Value) (g : Option Req) : Option Req :=
  match v with
  | some v => some (.val (.sc v))
  | none => g
@[go_sem] theorem orG_some (v : Value) (g : Option Req) : orG (some v) g = some (.val (.sc v)) := rfl
@[go_sem] theorem orG_none (g : Option Req) : orG none g = g := rfl
@[go_sem] theorem orG_if (c : Prop) [Decidable c] (v : Option Value) (g : Option Req) : orG (if c then none else v) g = if c then g else orG v g := by split <;> rfl
variable (d : Option Tmp) (ty : TypeId) (p : String) (af : Array Edge) (gd : Option (Nat × Bool))
@[go_sem] theorem plan_move (x : Operand) : plan P ρ ⟨d, .move x, ty, p, af, gd⟩ = (ρ x).map .val := rfl
@[go_sem] theorem plan_assign (x : Operand) : plan P ρ ⟨d, .assign x, ty, p, af, gd⟩ = (ρ x).map .val := rfl
def pickR (c a b : Option AV) : Option Req :=
  match c with
  | some (.sc (.bool t)) => (if t then a else b).map .val
  | _ => none
@[go_sem] theorem plan_pick (c a b : Operand) : plan P ρ ⟨d, .pick c a b, ty, p, af, gd⟩ = pickR (ρ c) (ρ a) (ρ b) := rfl
@[go_sem] theorem pickR_bool (t : Bool) (a b : AV) : pickR (some (.sc (.bool t))) (some a) (some b) = some (.val (if t = true then a else b)) := by cases t <;> rfl
@[go_sem] theorem plan_bin (op : BinOp) (t yt : TypeId) (x y : Operand) : plan P ρ ⟨d, .binOp op t x y yt, ty, p, af, gd⟩ = binR P op (P.underlying t) (ρ x) (ρ y) (generic P ρ ⟨d, .binOp op t x y yt, ty, p, af, gd⟩) := rfl
@[go_sem] theorem binR_ptr (op : BinOp) (dt : Option TypeDesc) (a b c : Nat) (v : AV) (g : Option Req) : binR P op dt (some (.ptr a b c)) (some v) g = ptrEq P op dt (.ptr a b c) v := rfl
@[go_sem] theorem binR_int (op : BinOp) (dt : Option TypeDesc) (k k' : IntKind) (a b : Int) (g : Option Req) : binR P op dt (some (.sc (.int k a))) (some (.sc (.int k' b))) g = orG (ibin op k a k' b) g := rfl
@[go_sem] theorem ibin_add (k : IntKind) (a b : Int) : ibin .add k a k b = some (.int k (k.wrap (a + b))) := by simp [ibin]
@[go_sem] theorem ibin_sub (k : IntKind) (a b : Int) : ibin .sub k a k b = some (.int k (k.wrap (a - b))) := by simp [ibin]
@[go_sem] theorem ibin_mul (k : IntKind) (a b : Int) : ibin .mul k a k b = some (.int k (k.wrap (a * b))) := by simp [ibin]
def andK (k : IntKind) (a b : Int) : Int := k.wrap (BitVec.ofInt k.bits a &&& BitVec.ofInt k.bits b).toNat
def orK (k : IntKind) (a b : Int) : Int := k.wrap (BitVec.ofInt k.bits a ||| BitVec.ofInt k.bits b).toNat
def xorK (k : IntKind) (a b : Int) : Int := k.wrap (BitVec.ofInt k.bits a ^^^ BitVec.ofInt k.bits b).toNat
def andNotK (k : IntKind) (a b : Int) : Int := k.wrap (BitVec.ofInt k.bits a &&& ~~~BitVec.ofInt k.bits b).toNat
def shlK (k : IntKind) (a b : Int) : Int := k.wrap (a * 2 ^ (min b.toNat k.bits))
def shrK (k : IntKind) (a b : Int) : Int := a.fdiv (2 ^ (min b.toNat k.bits))
@[go_sem] theorem ibin_and (k : IntKind) (a b : Int) : ibin .and k a k b = some (.int k (andK k a b)) := by simp [ibin, andK]
@[go_sem] theorem ibin_or (k : IntKind) (a b : Int) : ibin .or k a k b = some (.int k (orK k a b)) := by simp [ibin, orK]
@[go_sem] theorem ibin_xor (k : IntKind) (a b : Int) : ibin .xor k a k b = some (.int k (xorK k a b)) := by simp [ibin, xorK]
@[go_sem] theorem ibin_andNot (k : IntKind) (a b : Int) : ibin .andNot k a k b = some (.int k (andNotK k a b)) := by simp [ibin, andNotK]
@[go_sem] theorem ibin_eql (k : IntKind) (a b : Int) : ibin .eql k a k b = some (.bool (decide (a = b))) := by simp only [ibin]; simp; rfl
@[go_sem] theorem ibin_neq (k : IntKind) (a b : Int) : ibin .neq k a k b = some (.bool (decide (a ≠ b))) := by simp only [ibin]; simp [bne]; rfl
@[go_sem] theorem ibin_lss (k : IntKind) (a b : Int) : ibin .lss k a k b = some (.bool (decide (a < b))) := by simp [ibin]
@[go_sem] theorem ibin_leq (k : IntKind) (a b : Int) : ibin .leq k a k b = some (.bool (decide (a ≤ b))) := by simp [ibin]
@[go_sem] theorem ibin_gtr (k : IntKind) (a b : Int) : ibin .gtr k a k b = some (.bool (decide (b < a))) := by simp [ibin]
@[go_sem] theorem ibin_geq (k : IntKind) (a b : Int) : ibin .geq k a k b = some (.bool (decide (b ≤ a))) := by simp [ibin]
@[go_sem] theorem ibin_shl (k k' : IntKind) (a b : Int) : ibin .shl k a k' b = if b < 0 then none else some (.int k (shlK k a b)) := rfl
@[go_sem] theorem ibin_shr (k k' : IntKind) (a b : Int) : ibin .shr k a k' b = if b < 0 then none else some (.int k (shrK k a b)) := rfl
def notR (x : Option AV) (g : Option Req) : Option Req :=
  match x with
  | some (.sc (.bool b)) => some (.val (.sc (.bool !b)))
  | _ => g
@[go_sem] theorem plan_not (t : TypeId) (x : Operand) : plan P ρ ⟨d, .unOp .not t x, ty, p, af, gd⟩ = notR (ρ x) (generic P ρ ⟨d, .unOp .not t x, ty, p, af, gd⟩) := by
  simp only [plan, notR]
  cases ρ x with
  | none => rfl
  | some v => cases v <;> first | rfl | (rename_i u; cases u <;> rfl)
@[go_sem] theorem notR_bool (b : Bool) (g : Option Req) : notR (some (.sc (.bool b))) g = some (.val (.sc (.bool !b))) := rfl
/-! Length. -/
def lenR (v : Option AV) (dt : Option TypeDesc) (g : Option Req) : Option Req :=
  match v, dt with
  | some (.lst n _ _), some (.slice _) => some (.val (.sc (.int .i64 n)))
  | some (.own _ _ _ n _), some (.slice _) => some (.val (.sc (.int .i64 n)))
  | some .nilS, some (.slice _) => some (.val (.sc (.int .i64 0)))
  | some (.mp id), some (.map _ _) => some (.maplen id)
  | _, _ => g
@[go_sem] theorem plan_len (a : Operand) (t : TypeId) : plan P ρ ⟨d, .call ⟨.builtin .len, ⟨[a]⟩, ⟨[t]⟩⟩, ty, p, af, gd⟩ = lenR (ρ a) (P.underlying t) (generic P ρ ⟨d, .call ⟨.builtin .len, ⟨[a]⟩, ⟨[t]⟩⟩, ty, p, af, gd⟩) := rfl
@[go_sem] theorem lenR_lst (n : Nat) (cs : List AV) (c : Bool) (e : TypeId) (g : Option Req) : lenR (some (.lst n cs c)) (some (.slice e)) g = some (.val (I n)) := rfl
@[go_sem] theorem lenR_own (a b c n f : Nat) (e : TypeId) (g : Option Req) : lenR (some (.own a b c n f)) (some (.slice e)) g = some (.val (I n)) := rfl
@[go_sem] theorem lenR_nil (e : TypeId) (g : Option Req) : lenR (some .nilS) (some (.slice e)) g = some (.val (I 0)) := rfl
@[go_sem] theorem lenR_mp (id : Nat) (k e : TypeId) (g : Option Req) : lenR (some (.mp id)) (some (.map k e)) g = some (.maplen id) := rfl
@[go_sem] theorem lenR_sl {α : Type} (f : α → AV) (x : Sl α) (e : TypeId) (g : Option Req) : lenR (some (sl f x)) (some (.slice e)) g = some (.val (I x.l.length)) := by
  unfold sl
  split
  · rename_i h; simp only [Bool.and_eq_true, List.isEmpty_iff] at h; rw [h.2]; rfl
  · rfl
/-! Elements. -/
def idxR (P : Program) (dt : Option TypeDesc) (v i : Option AV) : Option Req :=
  match dt, v, i.bind asI with
  | some (.slice e), some v, some (_, i) =>
    match szOf P e, v with
    | some s, .lst n cs _ => if 0 ≤ i ∧ i < n ∧ i.toNat * s ≤ cs.length then some (.val (.cptr (cs.drop (i.toNat * s)))) else none
    | some s, .own id ver off n e => if 0 ≤ i ∧ i < n ∧ e = s then some (.val (.ptr id ver (off + i.toNat * s))) else none
    | _, _ => none
  | some (.array n e), some v, some (_, i) =>
    match szOf P e, v with
    | some s, .ptr id ver off => if 0 ≤ i ∧ i < n then some (.val (.ptr id ver (off + i.toNat * s))) else none
    | some s, .cptr cs => if 0 ≤ i ∧ i < n ∧ i.toNat * s ≤ cs.length then some (.val (.cptr (cs.drop (i.toNat * s)))) else none
    | _, _ => none
  | _, _, _ => none
@[go_sem] theorem plan_idx (t : TypeId) (x i : Operand) : plan P ρ ⟨d, .indexAddr t x i, ty, p, af, gd⟩ = idxR P (P.underlying t) (ρ x) (ρ i) := rfl
def idxO (so : Option Nat) (id ver off n k : Nat) (i : Int) : Option Req :=
  match so with
  | some s => if 0 ≤ i ∧ i < n ∧ k = s then some (.val (.ptr id ver (off + i.toNat * s))) else none
  | none => none
@[go_sem] theorem idxO_some (s id ver off n k : Nat) (i : Int) : idxO (some s) id ver off n k i = if 0 ≤ i ∧ i < n ∧ k = s then some (.val (.ptr id ver (off + i.toNat * s))) else none := rfl
@[go_sem] theorem idxR_own {e : TypeId} (id ver off n k : Nat) (ik : IntKind) (i : Int) : idxR P (some (.slice e)) (some (.own id ver off n k)) (some (.sc (.int ik i))) = idxO (szOf P e) id ver off n k i := by
  simp only [idxR, Option.bind_some, asI]
  cases szOf P e <;> rfl
@[go_sem] theorem idxR_sl {α : Type} (f : α → AV) (x : Sl α) {e : TypeId} (hs : szOf P e = some 1) (ik : IntKind) (i : Int) : idxR P (some (.slice e)) (some (sl f x)) (some (.sc (.int ik i))) = if 0 ≤ i ∧ i < x.l.length then some (.val (slp f x.l i.toNat)) else none := by
  unfold sl
  split
  · rename_i h; simp only [Bool.and_eq_true, List.isEmpty_iff] at h
    simp only [idxR, Option.bind_some, asI, hs, h.2, List.length_nil]
    rw [if_neg (by omega)]
  · simp only [idxR, Option.bind_some, asI, hs, Nat.mul_one, List.length_map, slp, List.map_drop]
    by_cases hc : 0 ≤ i ∧ i < x.l.length
    · rw [if_pos hc, if_pos (by omega)]
    · rw [if_neg hc, if_neg (by omega)]
def ldR (v : Option AV) (n : Option Nat) (ag : Option Bool) : Option Req :=
  match v, n, ag with
  | some (.ptr id ver off), some n, some ag => some (.load id ver off n ag)
  | some (.cptr cs), some n, some true => if n ≤ cs.length then some (.val (.agg (cs.take n))) else none
  | some (.cptr (c :: _)), some _, some false => some (.val c)
  | _, _, _ => none
@[go_sem] theorem plan_load (t : TypeId) (a : Operand) : plan P ρ ⟨d, .load t a, ty, p, af, gd⟩ = ldR (ρ a) (szOf P t) (aggOf P t) := rfl
@[go_sem] theorem ldR_ptr (id ver off n : Nat) (ag : Bool) : ldR (some (.ptr id ver off)) (some n) (some ag) = some (.load id ver off n ag) := rfl
@[go_sem] theorem ldR_slp {α : Type} (f : α → AV) (l : List α) (i n : Nat) : ldR (some (slp f l i)) (some n) (some false) = (l[i]?).map fun a => .val (f a) := by
  unfold slp
  cases h : l[i]? with
  | none => rw [List.drop_eq_nil_of_le (by simpa using h)]; rfl
  | some a =>
    have hi : i < l.length := (List.getElem?_eq_some_iff.1 h).1
    rw [List.drop_eq_getElem_cons hi, (List.getElem_eq_iff hi).2 h]; rfl
/-! Slices of slices. -/
def slR (g : Option Req) (an : Option (Nat × Nat)) (v : Option AV) (s : Option Nat) (lo hi : Option (Option (IntKind × Int))) : Option Req :=
  match v, s, lo, hi with
  | some (.sc _), _, _, _ => g
  | some (.lst n cs clip), some s, some lo, some hi =>
    match bounds n lo hi with
    | some (l, h) => if h * s ≤ cs.length then some (.val (.lst (h - l) ((cs.drop (l * s)).take ((h - l) * s)) (clip && decide (h = n)))) else none
    | none => none
  | some (.own id ver off n e), some s, some lo, some hi =>
    match bounds n lo hi with
    | some (l, h) => if e = s then some (.val (.own id ver (off + l * s) (h - l) e)) else none
    | none => none
  | some .nilS, some _, some lo, some hi =>
    match bounds 0 lo hi with
    | some _ => some (.val .nilS)
    | none => none
  | some (.ptr id ver off), none, some lo, some hi => arrSl an (.ptr id ver off) lo hi
  | some (.cptr cs), none, some lo, some hi => arrSl an (.cptr cs) lo hi
  | _, _, _, _ => none
def elemSz (P : Program) (t : TypeId) : Option Nat := (elemOfS P t).bind (szOf P)
@[go_sem] theorem plan_slice (t : TypeId) (x : Operand) (lo hi : Option Operand) : plan P ρ ⟨d, .slice t x lo hi none, ty, p, af, gd⟩ = slR (generic P ρ ⟨d, .slice t x lo hi none, ty, p, af, gd⟩) (arrOf P t) (ρ x) (elemSz P t) (asI? ρ lo) (asI? ρ hi) := by
  simp only [plan, slR, elemSz]
  cases ρ x with
  | none => rfl
  | some v =>
    cases v with
    | sc u => rfl
    | _ => cases (elemOfS P t).bind (szOf P) <;> cases asI? ρ lo <;> cases asI? ρ hi <;> rfl
@[go_sem] theorem slR_sc (g : Option Req) (an : Option (Nat × Nat)) (v : Value) (s : Option Nat) (lo hi : Option (Option (IntKind × Int))) : slR g an (some (.sc v)) s lo hi = g := rfl
@[go_sem] theorem asI?_none : asI? ρ none = some none := rfl
def toI (v : Option AV) : Option (Option (IntKind × Int)) :=
  match v with
  | some (.sc (.int k n)) => some (some (k, n))
  | _ => none
@[go_sem] theorem asI?_some (x : Operand) : asI? ρ (some x) = toI (ρ x) := by
  simp only [asI?, toI]
  cases ρ x with
  | none => rfl
  | some v => cases v <;> first | rfl | (rename_i u; cases u <;> rfl)
@[go_sem] theorem toI_int (k : IntKind) (n : Int) : toI (some (.sc (.int k n))) = some (some (k, n)) := rfl
def Sl.sub {α : Type} (x : Sl α) (l h : Nat) : Sl α := ⟨x.nil && x.l.isEmpty, x.clip && decide (h = x.l.length), (x.l.drop l).take (h - l)⟩
theorem slR_sl {α : Type} (g : Option Req) (an : Option (Nat × Nat)) (f : α → AV) (x : Sl α) (l h : Int) (lo hi : Option (IntKind × Int)) (hl : (match lo with | none => (0 : Int) | some (_, l) => l) = l) (hh : (match hi with | none => (x.l.length : Int) | some (_, h) => h) = h) :
    slR g an (some (sl f x)) (some 1) (some lo) (some hi) = if 0 ≤ l ∧ l ≤ h ∧ h ≤ x.l.length then some (.val (sl f (x.sub l.toNat h.toNat))) else none := by
  unfold sl
  split
  · rename_i hn; simp only [Bool.and_eq_true, List.isEmpty_iff] at hn
    have hll : x.l.length = 0 := by rw [hn.2]; rfl
    rw [hll] at hh
    simp only [slR, bounds, hll]
    cases lo <;> cases hi <;> simp only [] at hl hh <;> subst hl <;> subst hh <;>
    · simp only [Sl.sub, hn.1, hn.2]
      split <;> split <;> (simp_all; try omega)
  · rename_i hn
    have hsub : (x.nil && x.l.isEmpty) = false := by simpa using hn
    simp only [slR, bounds, Nat.mul_one, List.length_map]
    have key : ∀ l h : Int, (match (if 0 ≤ l ∧ l ≤ h ∧ h ≤ (x.l.length : Int) then some (l.toNat, h.toNat) else none : Option (Nat × Nat)) with
        | some (l, h) => if h ≤ x.l.length then some (Req.val (AV.lst (h - l) (((x.l.map f).drop l).take (h - l)) (x.clip && decide (h = x.l.length)))) else none
        | none => none) = if 0 ≤ l ∧ l ≤ h ∧ h ≤ (x.l.length : Int) then some (Req.val (if ((x.sub l.toNat h.toNat).nil && (x.sub l.toNat h.toNat).l.isEmpty) = true then AV.nilS else AV.lst (x.sub l.toNat h.toNat).l.length ((x.sub l.toNat h.toNat).l.map f) (x.sub l.toNat h.toNat).clip)) else none := by
      intro l h
      by_cases hc : 0 ≤ l ∧ l ≤ h ∧ h ≤ (x.l.length : Int)
      · rw [if_pos hc, if_pos hc]
        simp only
        rw [if_pos (by omega)]
        simp only [Sl.sub, hsub, Bool.false_and, Bool.false_eq_true, if_false, List.map_take, List.map_drop, List.length_take, List.length_drop]
        congr 2
        congr 1
        omega
      · rw [if_neg hc, if_neg hc]
    cases lo <;> cases hi <;> simp only [] at hl hh <;> subst hl <;> subst hh <;> exact key _ _
@[go_sem] theorem slR_sl_hi {α : Type} (g : Option Req) (an : Option (Nat × Nat)) (f : α → AV) (x : Sl α) (k : IntKind) (h : Int) : slR g an (some (sl f x)) (some 1) (some none) (some (some (k, h))) = if 0 ≤ h ∧ h ≤ x.l.length then some (.val (sl f (x.sub 0 h.toNat))) else none := by
  rw [slR_sl g an f x 0 h _ _ rfl rfl]; simp
@[go_sem] theorem slR_sl_lo {α : Type} (g : Option Req) (an : Option (Nat × Nat)) (f : α → AV) (x : Sl α) (k : IntKind) (l : Int) : slR g an (some (sl f x)) (some 1) (some (some (k, l))) (some none) = if 0 ≤ l ∧ l ≤ x.l.length then some (.val (sl f (x.sub l.toNat x.l.length))) else none := by
  rw [slR_sl g an f x l x.l.length _ _ rfl rfl]; simp
@[go_sem] theorem slR_sl_both {α : Type} (g : Option Req) (an : Option (Nat × Nat)) (f : α → AV) (x : Sl α) (k k' : IntKind) (l h : Int) : slR g an (some (sl f x)) (some 1) (some (some (k, l))) (some (some (k', h))) = if 0 ≤ l ∧ l ≤ h ∧ h ≤ x.l.length then some (.val (sl f (x.sub l.toNat h.toNat))) else none :=
  slR_sl g an f x l h _ _ rfl rfl
/-! Growing. -/
def appR (tg esz : Nat) (a : Option AV) (src : Option Src) : Option Req :=
  match a, src with
  | some .nilS, some src => if src.n = 0 then some (.val .nilS) else some (.appnew tg esz 0 [] src)
  | some (.lst m cs clip), some src => if src.n = 0 then some (.val (.lst m cs clip)) else if clip then some (.appnew tg esz m cs src) else none
  | some (.own id ver off len e), some src => if src.n = 0 then some (.val (.own id ver off len e)) else if e = esz then some (.app tg id ver off len esz src) else none
  | _, _ => none
end
end Go.Proofs.YtcmjidnbbfcbjaaGreatDoor.V
/- Calls and their results, the store, as rules; no condition. -/
namespace Go.Proofs.YtcmjidnbbfcbjaaGreatDoor.V
open Go
set_option linter.unusedVariables false
set_option linter.unusedSimpArgs false
noncomputable section
variable {P : Program} {pol : Pol} {en : Env}

def isDone : X → Bool
  | .normal | .ret => true
  | _ => false
@[go_sem] theorem isDone_normal : isDone .normal = true := rfl
@[go_sem] theorem isDone_ret : isDone .ret = true := rfl
def frzQ (m : Mem) (b d : Nat) (v : AV) (k : AV → Prop) : Prop := ∃ v', frz m b d v = some v' ∧ k v'
def withR (vs : Option (List AV)) (k : List AV → Prop) : Prop :=
  match vs with
  | some vs => k vs
  | none => False
@[go_sem] theorem withR_some (vs : List AV) (k : List AV → Prop) : withR (some vs) k = k vs := rfl
def retPur (P : Program) (rs : List ResultVar) (m0 : Mem) (Q : AV → Mem → Prop) (x : X) (ts : List AV) (m : Mem) : Prop :=
  isDone x = true ∧ withR (resultsA P ⟨ts, m⟩ rs) fun vs => frzQ m m0.length frzDepth (oneOrTup vs) fun v => Q v m0
def retMut (P : Program) (rs : List ResultVar) (m0 : Mem) (Q : AV → Mem → Prop) (x : X) (ts : List AV) (m : Mem) : Prop :=
  isDone x = true ∧ withR (resultsA P ⟨ts, m⟩ rs) fun vs => frzQ m m0.length frzDepth (oneOrTup vs) fun v => Q v (m.take m0.length)
def retOpn (P : Program) (rs : List ResultVar) (Q : AV → Mem → Prop) (x : X) (ts : List AV) (m : Mem) : Prop :=
  isDone x = true ∧ withR (resultsA P ⟨ts, m⟩ rs) fun vs => Q (oneOrTup vs) m
@[go_sem] theorem retPur_ret (rs : List ResultVar) (m0 : Mem) (Q : AV → Mem → Prop) (x : X) (a : AV) (ts : List AV) (m : Mem) : retPur P rs m0 Q x (a :: ts) m = (isDone x = true ∧ withR (resultsA P ⟨a :: ts, m⟩ rs) (lock (fun vs => frzQ m m0.length 8 (oneOrTup vs) (lock (fun v => Q v m0) ())) ())) := rfl
@[go_sem] theorem retMut_ret (rs : List ResultVar) (m0 : Mem) (Q : AV → Mem → Prop) (x : X) (a : AV) (ts : List AV) (m : Mem) : retMut P rs m0 Q x (a :: ts) m = (isDone x = true ∧ withR (resultsA P ⟨a :: ts, m⟩ rs) (lock (fun vs => frzQ m m0.length 8 (oneOrTup vs) (lock (fun v => Q v (m.take m0.length)) ())) ())) := rfl
@[go_sem] theorem retOpn_ret (rs : List ResultVar) (Q : AV → Mem → Prop) (x : X) (a : AV) (ts : List AV) (m : Mem) : retOpn P rs Q x (a :: ts) m = (isDone x = true ∧ withR (resultsA P ⟨a :: ts, m⟩ rs) (lock (fun vs => Q (oneOrTup vs) m) ())) := rfl
theorem done_iff {x : X} (h : isDone x = true) : x = .normal ∨ x = .ret := by cases x <;> simp_all [isDone]
theorem callPur {f : FuncId} {fn : Func} {c : Code} {n : Nat} {rs : Array ResultVar} {args : List AV} {m : Mem} {Q : AV → Mem → Prop} (hf : P.funcs[f]? = some fn) (hb : fn.body = some c) (hm : pol.mode f = .pur) (hn : fn.ntmps = n) (hr : fn.results = rs)
    (h : Wf P pol ⟨m.length :: en.bases, m.length⟩ c (args ++ List.replicate (n - args.length) und) m (retPur P rs.toList m Q)) (hd : pol.dir f = none := by rfl) : WC P pol en (.func f) args m Q := by
  refine wcall hd hf hb (by rw [hm]; simp) ?_
  rw [hm, hn, hr]
  refine (Wf_ok h).mono fun x st hx => ?_
  obtain ⟨h1, h2⟩ := hx
  refine ⟨done_iff h1, ?_⟩
  unfold withR at h2
  split at h2
  · rename_i vs hvs; exact ⟨vs, hvs, h2⟩
  · exact h2.elim
theorem callMut {f : FuncId} {fn : Func} {c : Code} {n : Nat} {rs : Array ResultVar} {args : List AV} {m : Mem} {Q : AV → Mem → Prop} (hf : P.funcs[f]? = some fn) (hb : fn.body = some c) (hm : pol.mode f = .mut) (hn : fn.ntmps = n) (hr : fn.results = rs)
    (h : Wf P pol ⟨m.length :: en.bases, en.bar⟩ c (args ++ List.replicate (n - args.length) und) m (retMut P rs.toList m Q)) (hd : pol.dir f = none := by rfl) : WC P pol en (.func f) args m Q := by
  refine wcall hd hf hb (by rw [hm]; simp) ?_
  rw [hm, hn, hr]
  refine (Wf_ok h).mono fun x st hx => ?_
  obtain ⟨h1, h2⟩ := hx
  refine ⟨done_iff h1, ?_⟩
  unfold withR at h2
  split at h2
  · rename_i vs hvs; exact ⟨vs, hvs, h2⟩
  · exact h2.elim
theorem callOpn {f : FuncId} {fn : Func} {c : Code} {n : Nat} {rs : Array ResultVar} {args : List AV} {m : Mem} {Q : AV → Mem → Prop} (hf : P.funcs[f]? = some fn) (hb : fn.body = some c) (hm : pol.mode f = .opn) (hn : fn.ntmps = n) (hr : fn.results = rs)
    (h : Wf P pol en c (args ++ List.replicate (n - args.length) und) m (retOpn P rs.toList Q)) (hd : pol.dir f = none := by rfl) : WC P pol en (.func f) args m Q := by
  refine wcall hd hf hb (by rw [hm]; simp) ?_
  rw [hm, hn, hr]
  refine (Wf_ok h).mono fun x st hx => ?_
  obtain ⟨h1, h2⟩ := hx
  refine ⟨done_iff h1, ?_⟩
  unfold withR at h2
  split at h2
  · rename_i vs hvs; exact ⟨vs, hvs, h2⟩
  · exact h2.elim
@[go_sem] theorem flat_sc (v : Value) : flat (.sc v) = true := rfl
def scB : AV → Bool
  | .sc _ => true
  | _ => false
@[go_sem] theorem scB_sc (v : Value) : scB (.sc v) = true := rfl
@[go_sem] theorem flat_tup (vs : List AV) : flat (.tup vs) = vs.all scB := by
  simp only [flat]
  congr 1
/-- A call in a store of its own: what holds whatever the store. -/
theorem callCls {f : FuncId} {fn : Func} {c : Code} {n : Nat} {rs : Array ResultVar} {args args' : List AV} {m : Mem} {Q : AV → Mem → Prop} (hf : P.funcs[f]? = some fn) (hb : fn.body = some c) (hm : pol.mode f = .cls) (hn : fn.ntmps = n) (hr : fn.results = rs) (ha : args.mapM (frz m 0 frzDepth) = some args')
    (h : ∀ (en : Env) (m0 : Mem), (∀ B ∈ en.bases, B ≤ m0.length) → Wf P pol ⟨m0.length :: en.bases, m0.length⟩ c (args' ++ List.replicate (n - args'.length) und) m0 (retPur P rs.toList m0 fun v _ => flat v = true ∧ Q v m)) (hd : pol.dir f = none := by rfl) : WC P pol en (.func f) args m Q := by
  refine wcallC hd hf hb hm ha ?_
  rw [hn, hr]
  refine (Wf_ok (h ⟨[], 0⟩ [] (fun B hB => by cases hB))).mono fun x st hx => ?_
  obtain ⟨h1, h2⟩ := hx
  refine ⟨done_iff h1, ?_⟩
  unfold withR at h2
  split at h2
  · rename_i vs hvs; exact ⟨vs, hvs, h2⟩
  · exact h2.elim
/-! Results. -/
@[go_sem] theorem results_nil (st : St) : resultsA P st [] = some [] := rfl
def consR (v : Option AV) (vs : Option (List AV)) : Option (List AV) :=
  match v, vs with
  | some v, some vs => some (v :: vs)
  | _, _ => none
@[go_sem] theorem consR_some (v : AV) (vs : List AV) : consR (some v) (some vs) = some (v :: vs) := rfl
@[go_sem] theorem results_tmp (ts : List AV) (m : Mem) (t : Tmp) (rs : List ResultVar) : resultsA P ⟨ts, m⟩ (.tmp t :: rs) = consR (lget ts t) (resultsA P ⟨ts, m⟩ rs) := rfl
@[go_sem] theorem oneOrTup_one (v : AV) : oneOrTup [v] = v := rfl
@[go_sem] theorem oneOrTup_none : oneOrTup [] = .tup [] := rfl
@[go_sem] theorem oneOrTup_more (u v : AV) (vs : List AV) : oneOrTup (u :: v :: vs) = .tup (u :: v :: vs) := rfl
@[go_sem] theorem frzQ_sc (m : Mem) (b d : Nat) (v : Value) (k : AV → Prop) : frzQ m b (d + 1) (.sc v) k = k (.sc v) := by simp [frzQ, frz]
@[go_sem] theorem frzQ_nilS (m : Mem) (b d : Nat) (k : AV → Prop) : frzQ m b (d + 1) .nilS k = k .nilS := by simp [frzQ, frz]
@[go_sem] theorem frzQ_nilP (m : Mem) (b d : Nat) (k : AV → Prop) : frzQ m b (d + 1) .nilP k = k .nilP := by simp [frzQ, frz]
@[go_sem] theorem frzQ_nilM (m : Mem) (b d : Nat) (k : AV → Prop) : frzQ m b (d + 1) .nilM k = k .nilM := by simp [frzQ, frz]
@[go_sem] theorem frzQ_nilI (m : Mem) (b d : Nat) (k : AV → Prop) : frzQ m b (d + 1) .nilI k = k .nilI := by simp [frzQ, frz]
@[go_sem] theorem frzQ_nilF (m : Mem) (b d : Nat) (k : AV → Prop) : frzQ m b (d + 1) .nilF k = k .nilF := by simp [frzQ, frz]
def frzL (m : Mem) (b d : Nat) (vs : List AV) (k : List AV → Prop) : Prop := ∃ vs', vs.mapM (frz m b d) = some vs' ∧ k vs'
@[go_sem] theorem frzL_nil (m : Mem) (b d : Nat) (k : List AV → Prop) : frzL m b d [] k = k [] := by simp [frzL]
@[go_sem] theorem frzL_cons (m : Mem) (b d : Nat) (v : AV) (vs : List AV) (k : List AV → Prop) : frzL m b d (v :: vs) k = frzQ m b d v (lock (fun v => frzL m b d vs (lock (fun vs => k (v :: vs)) ())) ()) := by
  simp only [lock, frzL, frzQ, List.mapM_cons]
  cases frz m b d v with
  | none => simp
  | some v' =>
    cases List.mapM (frz m b d) vs with
    | none => simp
    | some vs' => simp
@[go_sem] theorem frzQ_tup (m : Mem) (b d : Nat) (vs : List AV) (k : AV → Prop) : frzQ m b (d + 1) (.tup vs) k = frzL m b d vs (lock (fun vs => k (.tup vs)) ()) := by
  simp only [lock, frzQ, frzL, frz]
  cases vs.mapM (frz m b d) with
  | none => simp
  | some vs' => simp
/-- A value of one cell with nothing of the store in it. -/
def Clean (v : AV) : Prop := v.leaf = true ∧ ∀ b, v.low b = true
theorem clean_frz {v : AV} (h : Clean v) (m : Mem) (b d : Nat) (hd : ∀ t u, v ≠ .ifc t u) : frz m b (d + 1) v = some v := by
  obtain ⟨h1, h2⟩ := h
  have h2 := h2 b
  cases v with
  | sc u => simp [frz]
  | ptr id ver off => simp [AV.low] at h2; simp [frz, h2]
  | mp id => simp [AV.low] at h2; simp [frz, h2]
  | it id => simp [AV.low] at h2; simp [frz, h2]
  | own id ver off len e => simp [AV.low] at h2; simp [frz, h2]
  | lst n cs c => simp only [AV.low] at h2; simp [frz, h2]
  | cptr cs => simp only [AV.low] at h2; simp [frz, h2]
  | agg cs => simp [AV.leaf] at h1
  | tup cs => simp [AV.leaf] at h1
  | clo fn a c => simp [frz, h2]
  | ifc t u => exact (hd t u rfl).elim
  | _ => simp [frz]
theorem clean_int (k : IntKind) (n : Int) : Clean (.sc (.int k n)) := ⟨rfl, fun _ => rfl⟩
theorem clean_sc (v : Value) : Clean (.sc v) := ⟨rfl, fun _ => rfl⟩
theorem clean_lst {n : Nat} {cs : List AV} {c : Bool} (h : ∀ v ∈ cs, ∀ b, v.low b = true) : Clean (.lst n cs c) := by
  refine ⟨rfl, fun b => ?_⟩
  simp only [AV.low, lowL_iff]
  exact fun v hv => h v hv b
theorem clean_sl {α : Type} {f : α → AV} (hf : ∀ a, Clean (f a)) (x : Sl α) : Clean (sl f x) := by
  unfold sl
  split
  · exact ⟨rfl, fun _ => rfl⟩
  · exact clean_lst fun v hv b => by
      simp only [List.mem_map] at hv
      obtain ⟨a, _, rfl⟩ := hv
      exact (hf a).2 b
theorem sl_ifc {α : Type} (f : α → AV) (x : Sl α) (t : TypeId) (u : AV) : sl f x ≠ .ifc t u := by
  unfold sl; split <;> simp
theorem frzQ_sl {α : Type} {f : α → AV} (hf : ∀ a, Clean (f a)) (m : Mem) (b d : Nat) (x : Sl α) (k : AV → Prop) : frzQ m b (d + 1) (sl f x) k = k (sl f x) := by
  unfold frzQ
  rw [clean_frz (clean_sl hf x) m b d (sl_ifc f x)]
  simp
/-- A row that was made here. -/
theorem frzQ_own {α : Type} {f : α → AV} (hf : ∀ a, Clean (f a)) (hi : ∀ a t u, f a ≠ .ifc t u) {m : Mem} {b d id ver : Nat} (l : List α) (hm : m[id]? = some (.cells ver (l.map f))) (hb : b ≤ id) (k : AV → Prop) :
    frzQ m b (d + 2) (.own id ver 0 l.length 1) k = k (sl f ⟨false, false, l⟩) := by
  unfold frzQ
  have h1 : (l.map f).mapM (frz m b (d + 1)) = some (l.map f) := by
    clear hm
    induction l with
    | nil => rfl
    | cons a l ih => simp only [List.map_cons, List.mapM_cons, ih, clean_frz (hf a) m b d (hi a)]; rfl
  have h2 : (l.map f).all AV.leaf = true := by
    simp only [List.all_map, List.all_eq_true]; intro a _; exact (hf a).1
  have : frz m b (d + 2) (.own id ver 0 l.length 1) = some (sl f ⟨false, false, l⟩) := by
    rw [frz]
    rw [if_neg (by omega), lget_eq, hm]
    simp only [true_and, Nat.mul_one, Nat.zero_add, List.length_map, Nat.le_refl, if_true, List.drop_zero]
    rw [List.take_of_length_le (by simp), h1]
    simp [h2, sl]
  rw [this]; simp
end
end Go.Proofs.YtcmjidnbbfcbjaaGreatDoor.V
/- The store as rules; no condition. -/
namespace Go.Proofs.YtcmjidnbbfcbjaaGreatDoor.V
open Go
set_option linter.unusedVariables false
set_option linter.unusedSimpArgs false
noncomputable section
variable {P : Program} {pol : Pol} {en : Env}

theorem getM (m l : Mem) (k : Nat) : (m ++ l)[m.length + k]? = l[k]? := by
  rw [List.getElem?_append_right (by omega)]; congr 1; omega
theorem getM0 (m l : Mem) : (m ++ l)[m.length]? = l[0]? := by
  rw [List.getElem?_append_right (by omega)]; congr 1; omega
theorem setM (m l : Mem) (k : Nat) (o : Ob) : (m ++ l).set (m.length + k) o = m ++ l.set k o := by
  rw [List.set_append_right _ _ (by omega)]; congr 2; omega
theorem setM0 (m l : Mem) (o : Ob) : (m ++ l).set m.length o = m ++ l.set 0 o := by
  rw [List.set_append_right _ _ (by omega)]; congr 2; omega
theorem takeM (m l : Mem) : (m ++ l).take m.length = m := by simp
attribute [go_sem] getM getM0 setM setM0 takeM

def Fits (en : Env) (n : Nat) : Prop := ∀ B ∈ en.bases, B ≤ n
def okTo (en : Env) (id : Nat) (low : Nat → Bool) : Prop := en.bar ≤ id ∧ en.bases.all (fun B => decide (B ≤ id) || low B) = true
theorem Fits.mono {en : Env} {n n' : Nat} (h : Fits en n) (hn : n ≤ n') : Fits en n' := fun B hB => Nat.le_trans (h B hB) hn
theorem Fits.pur {en : Env} {n : Nat} (h : Fits en n) : Fits ⟨n :: en.bases, n⟩ n := by
  intro B hB
  simp only [List.mem_cons] at hB
  rcases hB with rfl | hB
  · exact Nat.le_refl _
  · exact h B hB
theorem okTo_fits {en : Env} {n id : Nat} (h : Fits en n) (hb : en.bar ≤ n) (hid : n ≤ id) (low : Nat → Bool) : okTo en id low := by
  refine ⟨Nat.le_trans hb hid, ?_⟩
  rw [List.all_eq_true]
  intro B hB
  have := h B hB
  simp; left; omega
theorem okTo_pur {en : Env} {n id : Nat} (h : Fits en n) (hid : n ≤ id) (low : Nat → Bool) : okTo ⟨n :: en.bases, n⟩ id low := okTo_fits h.pur (Nat.le_refl _) hid low

def cellsQ (o : Option Ob) (ver : Nat) (k : List AV → Prop) : Prop :=
  match o with
  | some (.cells v cs) => v = ver ∧ k cs
  | _ => False
@[go_sem] theorem cellsQ_some (v ver : Nat) (cs : List AV) (k : List AV → Prop) : cellsQ (some (.cells v cs)) ver k = (v = ver ∧ k cs) := rfl
def atQ {α : Type} (c : Option α) (k : α → Prop) : Prop := ∃ a, c = some a ∧ k a
@[go_sem] theorem atQ_some {α : Type} (a : α) (k : α → Prop) : atQ (some a) k = k a := by simp [atQ]
@[go_sem] theorem atQ_map {α β : Type} (o : Option α) (f : α → β) (k : β → Prop) : atQ (o.map f) k = atQ o (lock (fun a => k (f a)) ()) := by
  cases o <;> simp [atQ, lock]
@[go_sem high] theorem WOf_mapQ {α : Type} (o : Option α) (f : α → Req) (m : Mem) (k : Req → AV → Mem → Prop) : WOf P pol en (o.map f) m k = atQ o (lock (fun a => WOf P pol en (some (f a)) m k) ()) := WOf_map o f m k
@[go_sem] theorem WOf_load1 (id ver off n : Nat) (m : Mem) (k : Req → AV → Mem → Prop) : WOf P pol en (some (.load id ver off n false)) m k = cellsQ m[id]? ver (lock (fun cs => atQ cs[off]? (lock (fun c => k (.load id ver off n false) c m) ())) ()) := by
  simp only [lock, WOf, perform, lget_eq, cellsQ, atQ]
  cases m[id]? with
  | none => rfl
  | some o =>
    cases o with
    | cells v cs =>
      simp only
      by_cases hv : v = ver
      · simp only [hv, if_true, true_and]
        cases cs[off]? <;> simp
      · simp [hv]
    | _ => rfl
@[go_sem] theorem WOf_loadN (id ver off n : Nat) (m : Mem) (k : Req → AV → Mem → Prop) : WOf P pol en (some (.load id ver off n true)) m k = cellsQ m[id]? ver (lock (fun cs => off + n ≤ cs.length ∧ k (.load id ver off n true) (.agg ((cs.drop off).take n)) m) ()) := by
  simp only [lock, WOf, perform, rd, lget_eq, cellsQ]
  cases m[id]? with
  | none => rfl
  | some o =>
    cases o with
    | cells v cs =>
      simp only
      by_cases hv : v = ver
      · by_cases hn : off + n ≤ cs.length <;> simp [hv, hn]
      · simp [hv]
    | _ => rfl
@[go_sem] theorem WOf_store (id ver off : Nat) (vs : List AV) (m : Mem) (k : Req → AV → Mem → Prop) : WOf P pol en (some (.store id ver off vs)) m k = cellsQ m[id]? ver (lock (fun cs => (vs.all AV.leaf = true ∧ 0 < vs.length ∧ off + vs.length ≤ cs.length) ∧ okTo en id (fun B => AV.lowL B vs) ∧ k (.store id ver off vs) und (m.set id (.cells ver (splice cs off vs)))) ()) := by
  simp only [lock, WOf, perform, lget_eq, cellsQ]
  cases m[id]? with
  | none => rfl
  | some o =>
    cases o with
    | cells v cs =>
      simp only [spliceK_eq, lsetK_eq]
      by_cases hc : vs.all AV.leaf = true ∧ 0 < vs.length ∧ v = ver ∧ off + vs.length ≤ cs.length ∧ en.bar ≤ id ∧ en.bases.all (fun B => decide (B ≤ id) || AV.lowL B vs) = true
      · rw [if_pos hc]
        obtain ⟨h1, h2, h3, h4, h5, h6⟩ := hc
        subst h3
        simp only [okTo, h1, h2, h4, h5, h6, true_and, and_self]
      · rw [if_neg hc]
        refine propext ⟨fun h => h.elim, fun h => hc ⟨h.2.1.1, h.2.1.2.1, h.1, h.2.1.2.2, h.2.2.1.1, h.2.2.1.2⟩⟩
    | _ => rfl
@[go_sem] theorem WOf_alloc (tg esz : Nat) (cs : List AV) (m : Mem) (k : Req → AV → Mem → Prop) : WOf P pol en (some (.alloc tg esz cs none)) m k = (cs.all AV.leaf = true ∧ k (.alloc tg esz cs none) (.ptr m.length tg 0) (m ++ [.cells tg cs])) := by
  simp only [WOf, perform, spine_eq, fNat_eq]
  by_cases h : cs.all AV.leaf = true
  · rw [if_pos h]; simp [h]
  · rw [if_neg h]; simp [h]
@[go_sem] theorem WOf_make (tg esz n : Nat) (cs : List AV) (m : Mem) (k : Req → AV → Mem → Prop) : WOf P pol en (some (.alloc tg esz cs (some n))) m k = (cs.all AV.leaf = true ∧ k (.alloc tg esz cs (some n)) (.own m.length tg 0 n esz) (m ++ [.cells tg cs])) := by
  simp only [WOf, perform, spine_eq, fNat_eq]
  by_cases h : cs.all AV.leaf = true
  · rw [if_pos h]; simp [h]
  · rw [if_neg h]; simp [h]
@[go_sem] theorem WOf_app (tg id ver off len esz n : Nat) (ys : List AV) (m : Mem) (k : Req → AV → Mem → Prop) : WOf P pol en (some (.app tg id ver off len esz (.lst n ys))) m k =
    cellsQ m[id]? ver (lock (fun cs => (ys.length = n * esz ∧ off + len * esz ≤ cs.length ∧ roomOk (len + n) esz = true ∧ 0 < n) ∧ okTo en id (fun B => AV.lowL B ys) ∧ k (.app tg id ver off len esz (.lst n ys)) (.own id (nextV tg ver) 0 (len + n) esz) (m.set id (.cells (nextV tg ver) ((cs.drop off).take (len * esz) ++ ys)))) ()) := by
  simp only [lock, WOf, perform, lget_eq, cellsQ, srcCells]
  cases m[id]? with
  | none => rfl
  | some o =>
    cases o with
    | cells v cs =>
      by_cases hy : ys.length = n * esz
      · simp only [if_pos hy, spine_eq, fNat_eq, lsetK_eq]
        by_cases hc : v = ver ∧ off + len * esz ≤ cs.length ∧ roomOk (len + n) esz = true ∧ 0 < n ∧ en.bar ≤ id ∧ en.bases.all (fun B => decide (B ≤ id) || AV.lowL B ys) = true
        · rw [if_pos hc]
          obtain ⟨h1, h2, h3, h4, h5, h6⟩ := hc
          subst h1
          simp only [okTo, hy, h2, h3, h4, h5, h6, true_and, and_self]
        · rw [if_neg hc]
          refine propext ⟨fun h => h.elim, fun h => hc ⟨h.1, h.2.1.2.1, h.2.1.2.2.1, h.2.1.2.2.2, h.2.2.1.1, h.2.2.1.2⟩⟩
      · simp only [if_neg hy]
        refine propext ⟨fun h => h.elim, fun h => hy h.2.1.1⟩
    | _ => rfl
@[go_sem] theorem WOf_appnew (tg esz j n : Nat) (pre ys : List AV) (m : Mem) (k : Req → AV → Mem → Prop) : WOf P pol en (some (.appnew tg esz j pre (.lst n ys))) m k =
    ((ys.length = n * esz ∧ pre.length = j * esz ∧ roomOk (j + n) esz = true ∧ 0 < n) ∧ k (.appnew tg esz j pre (.lst n ys)) (.own m.length tg 0 (j + n) esz) (m ++ [.cells tg (pre ++ ys)])) := by
  simp only [WOf, perform, srcCells]
  by_cases hy : ys.length = n * esz
  · simp only [if_pos hy, spine_eq, fNat_eq]
    by_cases hc : pre.length = j * esz ∧ roomOk (j + n) esz = true ∧ 0 < n
    · rw [if_pos hc]; simp [hy, hc]
    · rw [if_neg hc]
      refine propext ⟨fun h => h.elim, fun h => hc ⟨h.1.2.1, h.1.2.2.1, h.1.2.2.2⟩⟩
  · simp only [if_neg hy]
    refine propext ⟨fun h => h.elim, fun h => hy h.1.1⟩
@[go_sem] theorem WOf_newmap (m : Mem) (k : Req → AV → Mem → Prop) : WOf P pol en (some .newmap) m k = k .newmap (.mp m.length) (m ++ [.map []]) := by
  simp only [WOf, perform, spine_eq]
/-! Growing. -/
def appOk (P : Program) (t t1 : TypeId) : Option (Nat × Nat) :=
  match elemOfS P t, P.underlying t1 with
  | some e, some d =>
    match P.info? e, (d matches .int _), zeroOf P e with
    | some ie, false, some z => if z.cells.length ≠ ie.size || ie.bytes > 1024 then none else some (tagT e, ie.size)
    | _, _, _ => none
  | _, _ => none
theorem plan_append {ρ : Operand → Option AV} {d : Option Tmp} {ty : TypeId} {p : String} {af : Array Edge} {gd : Option (Nat × Bool)} {a x : Operand} {t t1 : TypeId} {tg s : Nat} (h : appOk P t t1 = some (tg, s)) {src : Option Src} (hs : (ρ x).bind srcOf = src) :
    plan P ρ ⟨d, .call ⟨.builtin .append, ⟨[a, x]⟩, ⟨[t, t1]⟩⟩, ty, p, af, gd⟩ = appR tg s (ρ a) src := by
  subst hs
  show planB P ρ ⟨d, .call ⟨.builtin .append, ⟨[a, x]⟩, ⟨[t, t1]⟩⟩, ty, p, af, gd⟩ .append ⟨[a, x]⟩ ⟨[t, t1]⟩ = _
  unfold appOk at h
  split at h
  case h_2 => cases h
  rename_i e dd he hd
  split at h
  case h_2 => cases h
  rename_i ie z hi hdd hz
  split at h
  · cases h
  rename_i hc
  cases h
  simp only [planB]
  have e0 : ((⟨[t, t1]⟩ : Array TypeId)[0]?).bind (elemOfS P) = some e := he
  have e1 : ((⟨[t, t1]⟩ : Array TypeId)[1]?).bind P.underlying = some dd := hd
  rw [e0, e1]
  cases dd with
  | int k => simp at hdd
  | _ =>
    simp only [hi, hz, appSrc, if_neg hc]
    cases (ρ x).bind srcOf with
    | none => simp only [appR]; cases ρ a with
      | none => rfl
      | some v => cases v <;> rfl
    | some src =>
      simp only [appR, if_neg hc]
      cases ρ a with
      | none => rfl
      | some v => cases v <;> rfl
def srcR (v : Option AV) : Option Src := v.bind srcOf
def appO (so : Option (Nat × Nat)) (a : Option AV) (src : Option Src) (g : Option Req) : Option Req :=
  match so with
  | some (tg, s) => appR tg s a src
  | none => g
@[go_sem] theorem appO_some (tg s : Nat) (a : Option AV) (src : Option Src) (g : Option Req) : appO (some (tg, s)) a src g = appR tg s a src := rfl
def same (P : Program) (ρ : Operand → Option AV) (o : Oper) : Option Req := plan P ρ o
@[go_sem] theorem plan_append' {ρ : Operand → Option AV} {d : Option Tmp} {ty : TypeId} {p : String} {af : Array Edge} {gd : Option (Nat × Bool)} {a x : Operand} {t t1 : TypeId} :
    plan P ρ ⟨d, .call ⟨.builtin .append, ⟨[a, x]⟩, ⟨[t, t1]⟩⟩, ty, p, af, gd⟩ = appO (appOk P t t1) (ρ a) (srcR (ρ x)) (same P ρ ⟨d, .call ⟨.builtin .append, ⟨[a, x]⟩, ⟨[t, t1]⟩⟩, ty, p, af, gd⟩) := by
  cases h : appOk P t t1 with
  | none => rfl
  | some s => obtain ⟨tg, s⟩ := s; exact plan_append h rfl
theorem atQ_get {α : Type} {l : List α} {i : Nat} {k : α → Prop} (h : i < l.length) (hk : k l[i]) : atQ l[i]? k := ⟨_, List.getElem?_eq_getElem h, hk⟩
@[go_sem] theorem srcR_lst (n : Nat) (cs : List AV) (c : Bool) : srcR (some (.lst n cs c)) = some (.lst n cs) := rfl
@[go_sem] theorem srcR_nilS : srcR (some .nilS) = some (.lst 0 []) := rfl
@[go_sem] theorem srcR_sl {α : Type} (f : α → AV) (x : Sl α) : srcR (some (sl f x)) = some (.lst x.l.length (x.l.map f)) := by
  unfold sl
  split
  · rename_i h; simp only [Bool.and_eq_true, List.isEmpty_iff] at h; rw [h.2]; rfl
  · rfl
@[go_sem] theorem srcR_own (a b c n f : Nat) : srcR (some (.own a b c n f)) = some (.own a b c n f) := rfl
@[go_sem] theorem appR_nil (tg s n : Nat) (cs : List AV) : appR tg s (some .nilS) (some (.lst (n + 1) cs)) = some (.appnew tg s 0 [] (.lst (n + 1) cs)) := rfl
@[go_sem] theorem appR_own (tg s id ver off len n : Nat) (cs : List AV) : appR tg s (some (.own id ver off len s)) (some (.lst (n + 1) cs)) = some (.app tg id ver off len s (.lst (n + 1) cs)) := by
  simp [appR, Src.n]
theorem take_map {α : Type} (f : α → AV) (l : List α) : ((l.map f).drop 0).take (l.length * 1) = l.map f := by
  rw [List.drop_zero, List.take_of_length_le (by simp)]
attribute [go_sem] List.getElem?_cons_zero List.getElem?_cons_succ take_map decide_eq_true_eq Option.map_some List.cons_append List.nil_append List.length_cons List.length_nil List.replicate_succ List.replicate_zero List.length_append List.append_assoc
end
end Go.Proofs.YtcmjidnbbfcbjaaGreatDoor.V
/- Help for loops: temporaries by number, a row that grows, parts of code; no condition. -/
namespace Go.Proofs.YtcmjidnbbfcbjaaGreatDoor.V
open Go
set_option linter.unusedVariables false
set_option linter.unusedSimpArgs false
noncomputable section
variable {P : Program} {pol : Pol} {en : Env}

def tg (ts : List AV) (i : Nat) : AV := ts.getD i und
@[go_sem] theorem tg_zero (a : AV) (l : List AV) : tg (a :: l) 0 = a := rfl
@[go_sem] theorem tg_succ (a : AV) (l : List AV) (n : Nat) : tg (a :: l) (n + 1) = tg l n := by simp [tg]
theorem expand {ts : List AV} {n : Nat} (h : ts.length = n) : ts = (List.range n).map (tg ts) := by
  apply List.ext_getElem
  · simp [h]
  · intro i h1 h2
    simp [tg, List.getD_eq_getElem?_getD, List.getElem?_eq_getElem h1]
/-- '[tg ts i, .., tg ts (i + n - 1)]'. -/
def tl (ts : List AV) : Nat → Nat → List AV
  | _, 0 => []
  | i, n + 1 => tg ts i :: tl ts (i + 1) n
theorem tl_eq (ts : List AV) : ∀ n i, tl ts i n = (List.range' i n).map (tg ts)
  | 0, i => rfl
  | n + 1, i => by rw [tl, tl_eq ts n (i + 1), List.range'_succ]; rfl
theorem expandT {ts : List AV} {n : Nat} (h : ts.length = n) : ts = tl ts 0 n := by
  rw [tl_eq, ← List.range_eq_range']; exact expand h
@[go_sem] theorem tl_zero (ts : List AV) (i : Nat) : tl ts i 0 = [] := rfl
@[go_sem] theorem tl_succ (ts : List AV) (i n : Nat) : tl ts i (n + 1) = tg ts i :: tl ts (i + 1) n := rfl

/-- The loop bodies of code, the outer ones first. -/
def loopsOf : Code → List Code
  | .seq a b => loopsOf a ++ loopsOf b
  | .cond _ a b => loopsOf a ++ loopsOf b
  | .block _ a => loopsOf a
  | .loop a => a :: loopsOf a
  | .scope a => loopsOf a
  | .rangeFunc _ _ a b => loopsOf a ++ loopsOf b
  | _ => []
def nthLoop (fn : Func) (n : Nat) : Code := (loopsOf (fn.body.getD .skip)).getD n .skip

/-- A value that is known, whatever it is. -/
def kv (v : AV) : AV := v
@[go_sem] theorem putC_kv (ts : List AV) (d : Option Tmp) (v : AV) (k : List AV → Prop) : putC ts d (kv v) k = k (put ts d (kv v)) := rfl
/-- A row of values of one cell each that this call has made, and grows. -/
def Row {α : Type} (f : α → AV) (m0 : Mem) (l : List α) (v : AV) (m : Mem) : Prop :=
  (l = [] ∧ v = .nilS ∧ m = m0) ∨ (∃ ver, v = .own m0.length ver 0 l.length 1 ∧ m = m0 ++ [.cells ver (l.map f)])
theorem Row.nil {α : Type} {f : α → AV} {m0 : Mem} : Row f m0 [] .nilS m0 := Or.inl ⟨rfl, rfl, rfl⟩
/-- One more. -/
theorem Row.app {α : Type} {f : α → AV} {m0 : Mem} {l : List α} {v : AV} {m : Mem} (h : Row f m0 l v m) (a : α) (hfit : Fits en m0.length) (hb : en.bar ≤ m0.length) (hn : l.length < 2 ^ 32) {tg : Nat} {k : Req → AV → Mem → Prop}
    (hk : ∀ r v' m', Row f m0 (l ++ [a]) v' m' → k r (kv v') m') : WOf P pol en (appR tg 1 (some (kv v)) (some (.lst 1 [f a]))) m k := by
  unfold kv at *
  rcases h with ⟨rfl, rfl, rfl⟩ | ⟨ver, rfl, rfl⟩
  · rw [appR_nil, WOf_appnew]
    refine ⟨⟨rfl, rfl, rfl, by omega⟩, hk _ _ _ (Or.inr ⟨tg, rfl, by simp⟩)⟩
  · rw [appR_own, WOf_app, getM0, List.getElem?_cons_zero, cellsQ_some]
    refine ⟨rfl, ⟨rfl, by simp, ?_, by omega⟩, okTo_fits hfit hb (Nat.le_refl _) _, ?_⟩
    · simp only [roomOk, Bool.and_eq_true, decide_eq_true_eq]; omega
    · rw [setM0, List.set_cons_zero, take_map]
      exact hk _ _ _ (Or.inr ⟨nextV tg ver, by simp, by simp⟩)
theorem Row.len {α : Type} {f : α → AV} {m0 : Mem} {l : List α} {v : AV} {m : Mem} (h : Row f m0 l v m) (e : TypeId) (g : Option Req) : lenR (some (kv v)) (some (.slice e)) g = some (.val (I l.length)) := by
  rcases h with ⟨rfl, rfl, rfl⟩ | ⟨ver, rfl, rfl⟩ <;> rfl
/-- What it is behind the call. -/
theorem Row.frz {α : Type} {f : α → AV} {m0 : Mem} {l : List α} {v : AV} {m : Mem} (h : Row f m0 l v m) (hf : ∀ a, Clean (f a)) (hi : ∀ a t u, f a ≠ .ifc t u) (d : Nat) (k : AV → Prop) (hk : ∀ x : Sl α, x.l = l → k (sl f x)) : frzQ m m0.length (d + 2) (kv v) k := by
  unfold kv
  rcases h with ⟨rfl, rfl, rfl⟩ | ⟨ver, rfl, rfl⟩
  · rw [frzQ_nilS]; exact hk ⟨true, false, []⟩ rfl
  · rw [frzQ_own hf hi l (by rw [getM0]; rfl) (Nat.le_refl _)]; exact hk _ rfl
/-! '[]T{x}'. -/
def buildOk (P : Program) (t : TypeId) : Bool :=
  match elemOfS P t with
  | some e => match szOf P e, zeroOf P e with
    | some 1, some z => z.cells.length == 1
    | _, _ => false
  | none => false
theorem cells_leaf {v : AV} (h : v.leaf = true) : v.cells = [v] := by cases v <;> simp_all [AV.leaf, AV.cells]
@[go_sem] theorem leaf_sl {α : Type} (f : α → AV) (x : Sl α) : (sl f x).leaf = true := by unfold sl; split <;> rfl
@[go_sem] theorem leaf_sc (v : Value) : (AV.sc v).leaf = true := rfl
@[go_sem] theorem leaf_nilS : AV.nilS.leaf = true := rfl
@[go_sem] theorem leaf_own (a b c d e : Nat) : (AV.own a b c d e).leaf = true := rfl
@[go_sem] theorem leaf_lst (a : Nat) (b : List AV) (c : Bool) : (AV.lst a b c).leaf = true := rfl
theorem plan_build {ρ : Operand → Option AV} {d : Option Tmp} {ty : TypeId} {p : String} {af : Array Edge} {gd : Option (Nat × Bool)} {t : TypeId} {x : Operand} {v : AV} (h : buildOk P t = true) (hx : ρ x = some v) (hv : v.leaf = true) (ow : ownP p = false) :
    plan P ρ ⟨d, .buildSlice t 1 ⟨[(0, x)]⟩, ty, p, af, gd⟩ = some (.val (.lst 1 [v] true)) := by
  unfold buildOk at h
  split at h
  · rename_i e he
    split at h
    · rename_i z hs hz
      have hz1 : z.cells.length = 1 := by simpa using h
      have hp : partsOf ρ ⟨[(0, x)]⟩ = some [(0, v)] := by simp [partsOf, hx]
      obtain ⟨c, hc⟩ : ∃ c, z.cells = [c] := by
        cases hq : z.cells with
        | nil => simp [hq] at hz1
        | cons c l => cases l with
          | nil => exact ⟨c, rfl⟩
          | cons _ _ => simp [hq] at hz1
      simp only [plan, hp, he, hs, hz, hc]
      simp [fillA, cells_leaf hv, hv, splice, List.replicate, ow]
    · cases h
  · cases h
/-- What it is whatever the part. -/
def bldG (P : Program) (ρ : Operand → Option AV) (o : Oper) : Option Req := plan P ρ o
def one1 (v : Option AV) (g : Option Req) : Option Req :=
  match v with
  | some v => if v.leaf = true then some (.val (.lst 1 [v] true)) else g
  | none => g
@[go_sem] theorem one1_some (v : AV) (g : Option Req) : one1 (some v) g = if v.leaf = true then some (.val (.lst 1 [v] true)) else g := rfl
@[go_sem] theorem plan_build1 {ρ : Operand → Option AV} {d : Option Tmp} {ty : TypeId} {p : String} {af : Array Edge} {gd : Option (Nat × Bool)} {t : TypeId} {x : Operand} (h : buildOk P t = true) (ow : ownP p = false) :
    plan P ρ ⟨d, .buildSlice t 1 ⟨[(0, x)]⟩, ty, p, af, gd⟩ = one1 (ρ x) (bldG P ρ ⟨d, .buildSlice t 1 ⟨[(0, x)]⟩, ty, p, af, gd⟩) := by
  cases hx : ρ x with
  | none => rfl
  | some v =>
    rw [one1_some]
    by_cases hv : v.leaf = true
    · rw [if_pos hv]; exact plan_build h hx hv ow
    · rw [if_neg hv]; rfl
end
end Go.Proofs.YtcmjidnbbfcbjaaGreatDoor.V
/- Calls, closures, structs, tuples as rules; no condition. -/
namespace Go.Proofs.YtcmjidnbbfcbjaaGreatDoor.V
open Go
set_option linter.unusedVariables false
set_option linter.unusedSimpArgs false
noncomputable section
variable {P : Program} {pol : Pol} {en : Env} {ρ : Operand → Option AV} {d : Option Tmp} {ty : TypeId} {p : String} {af : Array Edge} {gd : Option (Nat × Bool)}

@[go_sem] theorem putC_ite (c : Prop) [Decidable c] (a b : AV) (ts : List AV) (d : Option Tmp) (k : List AV → Prop) : putC ts d (if c then a else b) k = if c then putC ts d a k else putC ts d b k := by split <;> rfl
attribute [go_sem] decide_eq_false_iff_not Bool.not_eq_true Bool.not_eq_false Bool.not_eq_eq_eq_not Option.bind_some
/-! Calls. -/
def argsR (ρ : Operand → Option AV) (l : List Operand) : Option (List AV) := l.mapM ρ
@[go_sem] theorem argsR_nil : argsR ρ [] = some [] := rfl
@[go_sem] theorem argsR_cons (x : Operand) (l : List Operand) : argsR ρ (x :: l) = consR (ρ x) (argsR ρ l) := by
  unfold argsR
  rw [List.mapM_cons]
  cases ρ x with
  | none => rfl
  | some v => cases List.mapM ρ l <;> rfl
def callR (f : Option AV) (vs : Option (List AV)) : Option Req :=
  match f, vs with
  | some (.clo (.func f) first cap), some vs => some (.call (.func f) (first ++ vs ++ cap))
  | some (.clo (.yield id) first []), some vs => some (.call (.yield id) (first ++ vs))
  | _, _ => none
@[go_sem] theorem plan_callv (f : Operand) (args : List Operand) (ats : Array TypeId) : plan P ρ ⟨d, .call ⟨.value f, ⟨args⟩, ats⟩, ty, p, af, gd⟩ = callR (ρ f) (argsR ρ args) := rfl
@[go_sem] theorem callR_func (f : FuncId) (first cap vs : List AV) : callR (some (.clo (.func f) first cap)) (some vs) = some (.call (.func f) (first ++ vs ++ cap)) := rfl
@[go_sem] theorem callR_yield (id : Nat) (first vs : List AV) : callR (some (.clo (.yield id) first [])) (some vs) = some (.call (.yield id) (first ++ vs)) := rfl
attribute [go_sem] List.append_nil
def makeR (fn : Fn) (a b : Option (List AV)) : Option Req :=
  match fn, a, b with
  | .func f, some a, some b => some (.val (.clo (.func f) a b))
  | _, _, _ => none
@[go_sem] theorem plan_make (fn : Fn) (a b : List Operand) : plan P ρ ⟨d, .makeFunc fn ⟨a⟩ ⟨b⟩, ty, p, af, gd⟩ = makeR fn (argsR ρ a) (argsR ρ b) := rfl
@[go_sem] theorem makeR_func (f : FuncId) (a b : List AV) : makeR (.func f) (some a) (some b) = some (.val (.clo (.func f) a b)) := rfl
/-! Cells. -/
@[go_sem] theorem plan_alloc (t : TypeId) : plan P ρ ⟨d, .alloc t, ty, p, af, gd⟩ = (zeroOf P t).map fun z => .alloc (tagT t) 0 z.cells none := rfl
@[go_sem] theorem plan_box (t : TypeId) (x : Operand) : plan P ρ ⟨d, .box t x, ty, p, af, gd⟩ = (ρ x).map fun v => .alloc (tagT t) 0 v.cells none := rfl
def stoR (a v : Option AV) (n : Option Nat) : Option Req :=
  match a, v, n with
  | some (.ptr id ver off), some v, some n => if v.cells.length = n then some (.store id ver off v.cells) else none
  | _, _, _ => none
@[go_sem] theorem plan_store (t : TypeId) (a x : Operand) : plan P ρ ⟨d, .store t a x, ty, p, af, gd⟩ = stoR (ρ a) (ρ x) (szOf P t) := rfl
@[go_sem] theorem stoR_ptr (id ver off n : Nat) (v : AV) : stoR (some (.ptr id ver off)) (some v) (some n) = if v.cells.length = n then some (.store id ver off v.cells) else none := rfl
@[go_sem] theorem cells_agg (cs : List AV) : (AV.agg cs).cells = cs := rfl
@[go_sem] theorem cells_sc (v : Value) : (AV.sc v).cells = [.sc v] := rfl
@[go_sem] theorem cells_nilS : AV.nilS.cells = [.nilS] := rfl
@[go_sem] theorem cells_nilF : AV.nilF.cells = [.nilF] := rfl
@[go_sem] theorem cells_nilP : AV.nilP.cells = [.nilP] := rfl
@[go_sem] theorem cells_nilM : AV.nilM.cells = [.nilM] := rfl
@[go_sem] theorem cells_mp (a : Nat) : (AV.mp a).cells = [.mp a] := rfl
@[go_sem] theorem cells_it (a : Nat) : (AV.it a).cells = [.it a] := rfl
@[go_sem] theorem cells_own (a b c e f : Nat) : (AV.own a b c e f).cells = [.own a b c e f] := rfl
@[go_sem] theorem cells_ptr (a b c : Nat) : (AV.ptr a b c).cells = [.ptr a b c] := rfl
@[go_sem] theorem cells_lst (a : Nat) (b : List AV) (c : Bool) : (AV.lst a b c).cells = [.lst a b c] := rfl
@[go_sem] theorem cells_clo (a : Fn) (b c : List AV) : (AV.clo a b c).cells = [.clo a b c] := rfl
@[go_sem] theorem cells_sl {α : Type} (f : α → AV) (x : Sl α) : (sl f x).cells = [sl f x] := cells_leaf (leaf_sl f x)
@[go_sem] theorem leaf_ptr (a b c : Nat) : (AV.ptr a b c).leaf = true := rfl
@[go_sem] theorem leaf_mp (a : Nat) : (AV.mp a).leaf = true := rfl
@[go_sem] theorem leaf_it (a : Nat) : (AV.it a).leaf = true := rfl
@[go_sem] theorem leaf_clo (a : Fn) (b c : List AV) : (AV.clo a b c).leaf = true := rfl
@[go_sem] theorem leaf_nilF : AV.nilF.leaf = true := rfl
@[go_sem] theorem leaf_nilP : AV.nilP.leaf = true := rfl
@[go_sem] theorem leaf_nilM : AV.nilM.leaf = true := rfl
attribute [go_sem] List.all_cons List.all_nil Bool.and_true Bool.true_and
@[go_sem] theorem splice_nil (cs : List AV) (o : Nat) : splice cs o [] = cs := rfl
@[go_sem] theorem splice_cons (cs : List AV) (o : Nat) (v : AV) (vs : List AV) : splice cs o (v :: vs) = splice (cs.set o v) (o + 1) vs := rfl
/-! Fields. -/
def fldO (P : Program) (t : TypeId) (f : Nat) : Option (Nat × Nat × Bool) :=
  match P.underlying t with
  | some (.struct fs) => match fs[f]? with
    | some fd => match szOf P fd.type, aggOf P fd.type with
      | some n, some ag => some (fd.offset, n, ag)
      | _, _ => none
    | none => none
  | _ => none
def fldR (fo : Option (Nat × Nat × Bool)) (v : Option AV) : Option Req :=
  match fo, v with
  | some (o, n, true), some (.agg cs) => if o + n ≤ cs.length then some (.val (.agg ((cs.drop o).take n))) else none
  | some (o, _, false), some (.agg cs) => (lget cs o).map .val
  | _, _ => none
@[go_sem] theorem plan_field (t : TypeId) (x : Operand) (f : Nat) : plan P ρ ⟨d, .field t x f, ty, p, af, gd⟩ = fldR (fldO P t f) (ρ x) := by
  simp only [plan, fldR, fldO]
  cases ρ x with
  | none => cases P.underlying t with
    | none => rfl
    | some dd => cases dd <;> first | rfl | skip
                 rename_i fs
                 cases h : fs[f]? with
                 | none => simp [h]
                 | some fd => simp only [h]; cases szOf P fd.type with
                   | none => rfl
                   | some n => cases aggOf P fd.type with
                     | none => rfl
                     | some b => cases b <;> rfl
  | some v => cases P.underlying t with
    | none => rfl
    | some dd => cases dd <;> first | rfl | skip
                 rename_i fs
                 cases v <;> simp only <;> cases h : fs[f]? with
                 | none => simp [h]
                 | some fd => simp only [h]; cases szOf P fd.type with
                   | none => rfl
                   | some n => cases aggOf P fd.type with
                     | none => rfl
                     | some b => cases b <;> simp [lget_eq]
@[go_sem] theorem fldR_one (o n : Nat) (cs : List AV) : fldR (some (o, n, false)) (some (.agg cs)) = (lget cs o).map .val := rfl
@[go_sem] theorem fldR_agg (o n : Nat) (cs : List AV) : fldR (some (o, n, true)) (some (.agg cs)) = if o + n ≤ cs.length then some (.val (.agg ((cs.drop o).take n))) else none := rfl
def extR (v : Option AV) (i : Nat) : Option Req :=
  match v with
  | some (.tup vs) => (lget vs i).map .val
  | _ => none
@[go_sem] theorem plan_extract (t : Operand) (i : Nat) : plan P ρ ⟨d, .extract t i, ty, p, af, gd⟩ = extR (ρ t) i := by
  simp only [plan, extR]
  cases ρ t with
  | none => rfl
  | some v => cases v <;> first | rfl | simp only [lget_eq]
@[go_sem] theorem extR_tup (vs : List AV) (i : Nat) : extR (some (.tup vs)) i = (lget vs i).map .val := rfl
/-! More operators. -/
def negR (x : Option AV) (g : Option Req) : Option Req :=
  match x with
  | some (.sc (.int k a)) => some (.val (.sc (.int k (k.wrap (0 - a)))))
  | _ => g
@[go_sem] theorem negR_int (k : IntKind) (a : Int) (g : Option Req) : negR (some (.sc (.int k a))) g = some (.val (.sc (.int k (k.wrap (0 - a))))) := rfl
@[go_sem] theorem plan_neg (t : TypeId) (x : Operand) : plan P ρ ⟨d, .unOp .neg t x, ty, p, af, gd⟩ = negR (ρ x) (same P ρ ⟨d, .unOp .neg t x, ty, p, af, gd⟩) := by
  cases hx : ρ x with
  | none => rfl
  | some v =>
    cases v with
    | sc u =>
      cases u with
      | int k a =>
        simp only [plan, negR, hx, generic, plainOp, Bool.true_eq_false, if_false, Op.operands, List.mapM_cons, List.mapM_nil, Option.bind_some, AV.toV]
        simp only [execOp, hx, Option.bind_some, AV.toV, Option.getD_some]
        rfl
      | _ => rfl
    | _ => rfl
/-- A text as its bytes: with this form all rules go. -/
abbrev tx (l : List UInt8) : AV := .sc (.string ⟨⟨l⟩⟩)
def u8L (l : List UInt8) : List AV := l.map fun b => .sc (.int .u8 b.toNat)
theorem byteCells_eq (l : List UInt8) : byteCells ⟨⟨l⟩⟩ = u8L l := rfl
theorem bytesOf_u8L : ∀ l : List UInt8, bytesOf (u8L l) = some l
  | [] => rfl
  | b :: l => by
    have hb := b.toNat_lt
    have h : (0 : Int) ≤ (b.toNat : Int) ∧ (b.toNat : Int) < 256 := by omega
    show (if 0 ≤ (b.toNat : Int) ∧ (b.toNat : Int) < 256 then (bytesOf (u8L l)).map (UInt8.ofNat (b.toNat : Int).toNat :: ·) else none) = _
    rw [if_pos h, bytesOf_u8L l]
    simp
/-- To bytes, and back. -/
def toB (d : Option TypeDesc) (s : ByteArray) : Option Req :=
  match d with
  | some (.int .u8) => some (.val (.lst s.size (byteCells s) false))
  | _ => none
def ofB (d : Option TypeDesc) (n : Nat) (cs : List AV) : Option Req :=
  match d, bytesOf cs with
  | some (.int .u8), some l => if cs.length = n then some (.val (.sc (.string ⟨⟨l⟩⟩))) else none
  | _, _ => none
def ofO (d : Option TypeDesc) (id ver off n z : Nat) : Option Req :=
  match d with
  | some (.int .u8) => if z = 1 then some (.bstr id ver off n) else none
  | _ => none
def ofN (d : Option TypeDesc) : Option Req :=
  match d with
  | some (.int .u8) => some (.val (.sc (.string .empty)))
  | _ => none
def toU (s : Option Nat) (id ver off : Nat) : Option Req :=
  match s with
  | some (_ + 1) => some (.chk 0 id ver off 1 (.ptr id ver off))
  | _ => none
def ofU (s : Option Nat) (tg id ver off : Nat) : Option Req :=
  match s with
  | some (n + 1) => if tg ≠ 0 ∧ ver < 65536 ∧ off = 0 then some (.chk tg id ver off (n + 1) (.ptr id ver off)) else none
  | _ => none
def convR (P : Program) (x : Option AV) (s d : Option TypeDesc) (g : Option Req) : Option Req :=
  match x, s, d with
  | some (.sc (.int _ n)), some (.int _), some (.int k) => some (.val (.sc (.int k (k.wrap n))))
  | some (.sc (.string s)), some .string, some (.slice e) => toB (P.underlying e) s
  | some .nilS, some (.slice e), some .string => ofN (P.underlying e)
  | some (.lst n cs _), some (.slice e), some .string => ofB (P.underlying e) n cs
  | some (.own id ver off n z), some (.slice e), some .string => ofO (P.underlying e) id ver off n z
  | some (.ptr id ver off), some (.pointer t), some .unsafePointer => toU (szOf P t) id ver off
  | some (.ptr id ver off), some .unsafePointer, some (.pointer u) => ofU (szOf P u) (tagT u) id ver off
  | _, _, _ => g
@[go_sem] theorem plan_convert (s t : TypeId) (x : Operand) : plan P ρ ⟨d, .convert s t x, ty, p, af, gd⟩ = convR P (ρ x) (P.underlying s) (P.underlying t) (generic P ρ ⟨d, .convert s t x, ty, p, af, gd⟩) := rfl
@[go_sem] theorem convR_int (k0 k1 k : IntKind) (n : Int) (g : Option Req) : convR P (some (.sc (.int k0 n))) (some (.int k1)) (some (.int k)) g = some (.val (.sc (.int k (k.wrap n)))) := rfl
@[go_sem] theorem convR_toB (s : ByteArray) (e : TypeId) (g : Option Req) : convR P (some (.sc (.string s))) (some .string) (some (.slice e)) g = toB (P.underlying e) s := rfl
@[go_sem] theorem convR_ofB (n : Nat) (cs : List AV) (c : Bool) (e : TypeId) (g : Option Req) : convR P (some (.lst n cs c)) (some (.slice e)) (some .string) g = ofB (P.underlying e) n cs := rfl
@[go_sem] theorem convR_ofO (id ver off n z : Nat) (e : TypeId) (g : Option Req) : convR P (some (.own id ver off n z)) (some (.slice e)) (some .string) g = ofO (P.underlying e) id ver off n z := rfl
@[go_sem] theorem convR_ofN (e : TypeId) (g : Option Req) : convR P (some .nilS) (some (.slice e)) (some .string) g = ofN (P.underlying e) := rfl
/-! Arrays that nobody writes. -/
@[go_sem] theorem idxR_slp {α : Type} (f : α → AV) (l : List α) {n : Nat} {e : TypeId} (hs : szOf P e = some 1) (hl : n ≤ l.length) (ik : IntKind) (i : Int) : idxR P (some (.array n e)) (some (slp f l 0)) (some (.sc (.int ik i))) = if 0 ≤ i ∧ i < n then some (.val (slp f l i.toNat)) else none := by
  simp only [idxR, Option.bind_some, asI, hs, slp, Nat.mul_one, List.drop_zero, List.length_map, List.map_drop]
  by_cases hc : 0 ≤ i ∧ i < n
  · rw [if_pos hc, if_pos (by omega)]
  · rw [if_neg hc, if_neg (by omega)]
/-! 'make'. -/
def mkOk (P : Program) (t : TypeId) : Option (Nat × Nat × Nat × AV) :=
  match elemOfS P t with
  | some e => match P.info? e, zeroOf P e with
    | some ie, some z => if z.cells.length = ie.size ∧ 0 < ie.size then some (tagT e, ie.size, ie.bytes, z) else none
    | _, _ => none
  | none => none
def mkR (o : Option (Nat × Nat × Nat × AV)) (l c : Option AV) : Option Req :=
  match o, l.bind asI, c.bind asI with
  | some (tg, s, b, z), some (_, l), some (_, c) => if 0 ≤ l ∧ l ≤ c ∧ c < 2 ^ 62 ∧ b * c ≤ 2 ^ 48 then some (.alloc tg s ((List.replicate l.toNat z.cells).flatten) (some l.toNat)) else none
  | _, _, _ => none
@[go_sem] theorem plan_mk (t : TypeId) (l c : Operand) : plan P ρ ⟨d, .makeSlice t l c, ty, p, af, gd⟩ = mkR (mkOk P t) (ρ l) (ρ c) := by
  simp only [plan, mkR, mkOk]
  cases elemOfS P t with
  | none => simp
  | some e =>
    simp only
    cases (ρ l).bind asI with
    | none => split <;> simp_all
    | some l =>
      cases (ρ c).bind asI with
      | none => split <;> simp_all
      | some c =>
        cases hi : P.info? e with
        | none => simp [hi]
        | some ie =>
          cases hz : zeroOf P e with
          | none => simp [hi, hz]
          | some z =>
            simp only [hi, hz]
            by_cases hc : z.cells.length = ie.size ∧ 0 < ie.size
            · simp only [hc, and_self, and_true, if_true]
            · simp only [hc, and_false, if_false]
@[go_sem] theorem mkR_int (tg s b : Nat) (z : AV) (k k' : IntKind) (l c : Int) : mkR (some (tg, s, b, z)) (some (.sc (.int k l))) (some (.sc (.int k' c))) = if 0 ≤ l ∧ l ≤ c ∧ c < 2 ^ 62 ∧ b * c ≤ 2 ^ 48 then some (.alloc tg s ((List.replicate l.toNat z.cells).flatten) (some l.toNat)) else none := rfl
end
end Go.Proofs.YtcmjidnbbfcbjaaGreatDoor.V
/- Results in cells, structs that are given back; no condition. -/
namespace Go.Proofs.YtcmjidnbbfcbjaaGreatDoor.V
open Go
set_option linter.unusedVariables false
set_option linter.unusedSimpArgs false
noncomputable section
variable {P : Program} {pol : Pol} {en : Env} {ρ : Operand → Option AV} {d : Option Tmp} {ty : TypeId} {p : String} {af : Array Edge} {gd : Option (Nat × Bool)}
@[go_sem] theorem frzQ_agg (m : Mem) (b d : Nat) (vs : List AV) (k : AV → Prop) : frzQ m b (d + 1) (.agg vs) k = frzL m b d vs (lock (fun vs => vs.all AV.leaf = true ∧ k (.agg vs)) ()) := by
  simp only [lock, frzQ, frzL, frz]
  cases vs.mapM (frz m b d) with
  | none => simp
  | some vs' =>
    simp only
    by_cases h : vs'.all AV.leaf = true
    · rw [if_pos h]
      exact propext ⟨fun ⟨_, e, hk⟩ => by cases e; exact ⟨vs', rfl, h, hk⟩, fun ⟨_, e, _, hk⟩ => by cases e; exact ⟨_, rfl, hk⟩⟩
    · rw [if_neg h]
      exact propext ⟨(fun ⟨_, e, hk⟩ => by cases e), (fun ⟨_, e, h2, _⟩ => by cases e; exact (h h2).elim)⟩
def resC (v : Option AV) (n : Option Nat) (ag : Option Bool) (m : Mem) (rest : Option (List AV)) : Option (List AV) :=
  match v, n, ag with
  | some (.ptr id ver off), some n, some ag =>
    match perform ⟨[], 0⟩ (.load id ver off n ag) m, rest with
    | some (v, _), some vs => some (v :: vs)
    | _, _ => none
  | _, _, _ => none
@[go_sem] theorem results_cell (ts : List AV) (m : Mem) (a : Tmp) (t : TypeId) (rs : List ResultVar) : resultsA P ⟨ts, m⟩ (.cell a t :: rs) = resC (lget ts a) (szOf P t) (aggOf P t) m (resultsA P ⟨ts, m⟩ rs) := rfl
/-- One who reads cells. -/
def rdC (o : Option Ob) (ver off n : Nat) : Option AV :=
  match o with
  | some (.cells v cs) => if v = ver ∧ off + n ≤ cs.length then some (.agg ((cs.drop off).take n)) else none
  | _ => none
@[go_sem] theorem resC_agg (id ver off n : Nat) (m : Mem) (rest : Option (List AV)) : resC (some (.ptr id ver off)) (some n) (some true) m rest = consR (rdC m[id]? ver off n) rest := by
  simp only [resC, perform, rd, lget_eq, rdC]
  cases m[id]? with
  | none => rfl
  | some o =>
    cases o with
    | cells v cs =>
      simp only
      by_cases h : v = ver ∧ off + n ≤ cs.length
      · simp only [h, and_self, if_true, Option.map_some]; cases rest <;> rfl
      · rw [if_neg h, if_neg h]; cases rest <;> rfl
    | _ => rfl
def rd1 (o : Option Ob) (ver off : Nat) : Option AV :=
  match o with
  | some (.cells v cs) => if v = ver then lget cs off else none
  | _ => none
@[go_sem] theorem resC_one (id ver off n : Nat) (m : Mem) (rest : Option (List AV)) : resC (some (.ptr id ver off)) (some n) (some false) m rest = consR (rd1 m[id]? ver off) rest := by
  simp only [resC, perform, lget_eq, rd1]
  cases m[id]? with
  | none => rfl
  | some o =>
    cases o with
    | cells v cs =>
      simp only
      by_cases h : v = ver
      · simp only [h, if_true]
        cases cs[off]? with
        | none => rfl
        | some c => cases rest <;> rfl
      · rw [if_neg h, if_neg h]; rfl
    | _ => rfl
@[go_sem] theorem rdC_cells (ver off n : Nat) (cs : List AV) : rdC (some (.cells ver cs)) ver off n = if off + n ≤ cs.length then some (.agg ((cs.drop off).take n)) else none := by simp [rdC]
@[go_sem] theorem rd1_cells (ver off : Nat) (cs : List AV) : rd1 (some (.cells ver cs)) ver off = lget cs off := by simp [rd1]
attribute [go_sem] List.drop_zero List.take_succ_cons List.take_zero List.drop_succ_cons
/-! Structs. -/
def bldS (z : Option AV) (places : Option (List (Nat × Nat))) (ps : Option (List (Nat × AV))) : Option Req :=
  match z, places, ps with
  | some z, some places, some ps => (fillA (places[·]?) z.cells ps).map (.val ∘ .agg)
  | _, _, _ => none
def placesO (P : Program) (t : TypeId) : Option (List (Nat × Nat)) :=
  match P.underlying t with
  | some (.struct fs) => fs.toList.mapM fun f => (szOf P f.type).map (f.offset, ·)
  | _ => none
theorem plan_struct (t : TypeId) (parts : Array (Nat × Operand)) {fs : Array Field} (h : P.underlying t = some (.struct fs)) : plan P ρ ⟨d, .build t parts, ty, p, af, gd⟩ = bldS (zeroOf P t) (placesO P t) (partsOf ρ parts) := by
  simp only [plan, bldS, placesO, h]
  cases zeroOf P t with
  | none => rfl
  | some z =>
    cases partsOf ρ parts with
    | none => cases List.mapM (fun f : Field => (szOf P f.type).map (f.offset, ·)) fs.toList <;> rfl
    | some ps =>
      simp only
      cases List.mapM (fun f : Field => (szOf P f.type).map (f.offset, ·)) fs.toList <;> rfl
def bldO (z : Option AV) (places : Option (List (Nat × Nat))) (ps : Option (List (Nat × AV))) (g : Option Req) : Option Req :=
  match places with
  | some pl => bldS z (some pl) ps
  | none => g
@[go_sem] theorem plan_bldO (t : TypeId) (parts : Array (Nat × Operand)) : plan P ρ ⟨d, .build t parts, ty, p, af, gd⟩ = bldO (zeroOf P t) (placesO P t) (partsOf ρ parts) (same P ρ ⟨d, .build t parts, ty, p, af, gd⟩) := by
  cases h : placesO P t with
  | none => rfl
  | some pl =>
    have : ∃ fs, P.underlying t = some (.struct fs) := by
      unfold placesO at h
      split at h
      · rename_i fs hu; exact ⟨fs, hu⟩
      · cases h
    obtain ⟨fs, hu⟩ := this
    rw [plan_struct t parts hu, h]; rfl
@[go_sem] theorem bldO_some (z : AV) (pl : List (Nat × Nat)) (ps : List (Nat × AV)) (g : Option Req) : bldO (some z) (some pl) (some ps) g = (fillA (pl[·]?) z.cells ps).map fun cs => .val (.agg cs) := rfl
@[go_sem] theorem partsOf_nil : partsOf ρ ⟨[]⟩ = some [] := rfl
def consP (i : Nat) (v : Option AV) (ps : Option (List (Nat × AV))) : Option (List (Nat × AV)) :=
  match v, ps with
  | some v, some ps => some ((i, v) :: ps)
  | _, _ => none
@[go_sem] theorem consP_some (i : Nat) (v : AV) (ps : List (Nat × AV)) : consP i (some v) (some ps) = some ((i, v) :: ps) := rfl
@[go_sem] theorem partsOf_cons (i : Nat) (x : Operand) (l : List (Nat × Operand)) : partsOf ρ ⟨(i, x) :: l⟩ = consP i (ρ x) (partsOf ρ ⟨l⟩) := by
  simp only [partsOf, List.mapM_cons]
  cases ρ x with
  | none => rfl
  | some v =>
    cases h : l.mapM (fun x : Nat × Operand => match x with | (i, x) => Option.map (fun v => (i, v)) (ρ x)) with
    | none => simp [consP]
    | some ps => simp [consP]
@[go_sem] theorem fillA_nil (pl : Nat → Option (Nat × Nat)) (cs : List AV) : fillA pl cs [] = some cs := rfl
/-! Addresses of fields. -/
def fadR (fo : Option (Nat × Nat × Bool)) (v : Option AV) : Option Req :=
  match fo, v with
  | some (o, _ + 1, _), some (.ptr id ver off) => some (.val (.ptr id ver (off + o)))
  | some (o, _ + 1, _), some (.cptr cs) => if o ≤ cs.length then some (.val (.cptr (cs.drop o))) else none
  | _, _ => none
@[go_sem] theorem fadR_ptr (o n id ver off : Nat) (ag : Bool) : fadR (some (o, n + 1, ag)) (some (.ptr id ver off)) = some (.val (.ptr id ver (off + o))) := rfl
def fadO (fo : Option (Nat × Nat × Bool)) (v : Option AV) (g : Option Req) : Option Req :=
  match fo with
  | some x => fadR (some x) v
  | none => g
@[go_sem] theorem fadO_some (x : Nat × Nat × Bool) (v : Option AV) (g : Option Req) : fadO (some x) v g = fadR (some x) v := rfl
@[go_sem] theorem plan_fieldAddr (s : TypeId) (x : Operand) (f : Nat) : plan P ρ ⟨d, .fieldAddr s x f, ty, p, af, gd⟩ = fadO (fldO P s f) (ρ x) (same P ρ ⟨d, .fieldAddr s x f, ty, p, af, gd⟩) := by
  cases h : fldO P s f with
  | none => rfl
  | some o =>
    unfold fldO at h
    split at h
    · rename_i fs hu
      split at h
      · rename_i fd hfd
        split at h
        · rename_i n ag hn ha
          cases h
          simp only [plan, hu, fadO, fadR]
          cases ρ x with
          | none => cases n <;> rfl
          | some v =>
            simp only [hfd, hn]
            cases n with
            | zero => rfl
            | succ n => cases v <;> rfl
        · cases h
      · cases h
    · cases h
end
end Go.Proofs.YtcmjidnbbfcbjaaGreatDoor.V
