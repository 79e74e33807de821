/- Parts of the proof, joined (V13, V14, V15, V16, V17, V18, V19, V20, V21, V22, V23); no condition. -/
import Derived.Test.YtcmjidnbbfcbjaaGreatDoorMab
import Derived.Orders
/- A region's operations, calls among them, in the machine; no condition. -/
namespace Go.Proofs.YtcmjidnbbfcbjaaGreatDoor.V
open Go
set_option linter.unusedVariables false
set_option linter.unusedSimpArgs false
variable {P : Program} {pol : Pol}

theorem fNat_eq {β : Type} (n : Nat) (k : Nat → β) : fNat n k = k n := by cases n <;> rfl
theorem fInt_eq {β : Type} (n : Int) (k : Int → β) : fInt n k = k n := by cases n <;> simp only [fInt, fNat_eq]
theorem fBool_eq {β : Type} (n : Bool) (k : Bool → β) : fBool n k = k n := by cases n <;> rfl
theorem fVal_eq {β : Type} (v : Value) (k : Value → β) : fVal v k = k v := by
  cases v <;> simp only [fVal, fInt_eq, fBool_eq]
  case string s => obtain ⟨⟨l⟩⟩ := s; simp only [spine_eq]
mutual
theorem fA_eq {β : Type} : ∀ (v : AV) (k : AV → β), fA v k = k v
  | .sc v, k => by simp only [fA, fVal_eq]
  | .ptr _ _ _, k | .own _ _ _ _ _, k | .mp _, k | .it _, k => by simp only [fA, fNat_eq]
  | .cptr _, k => by simp only [fA, spine_eq]
  | .lst _ _ _, k => by simp only [fA, fNat_eq, spine_eq, fBool_eq]
  | .agg cs, k => by simp only [fA]; exact fAL_eq cs _
  | .tup cs, k => by simp only [fA]; exact fAL_eq cs _
  | .ifc _ v, k => by simp only [fA]; exact fA_eq v _
  | .clo _ _ _, k => by simp only [fA, spine_eq]
  | .nilP, k | .nilS, k | .nilM, k | .nilF, k | .nilI, k | .any, k => by simp only [fA]
theorem fAL_eq {β : Type} : ∀ (cs : List AV) (k : List AV → β), fAL cs k = k cs
  | [], k => by simp only [fAL]
  | c :: cs, k => by simp only [fAL]; rw [fA_eq c, fAL_eq cs]
end
def put (ts : List AV) (d : Option Tmp) (v : AV) : List AV :=
  match d with
  | some d => ts.set d v
  | none => ts
theorem putT_eq {β : Type} (ts : List AV) (d : Option Tmp) (v : AV) (k : List AV → β) : putT ts d v k = k (put ts d v) := by
  cases d with
  | none => rfl
  | some d => simp only [putT, put, lsetK_eq]

theorem rep_bool_inv {E : En} {v : AV} {b : Bool} (h : Rep E v (.bool b)) : v = .sc (.bool b) := by
  cases v with
  | sc u => simp only [Rep] at h; rw [h.1]
  | clo fn _ _ =>
    cases fn <;> simp only [Rep] at h
    case yield => obtain ⟨us, vs, _, _, B, p, s, pd, ts, ps, as, bd, _, _, h⟩ := h; cases h
    all_goals (obtain ⟨us, vs, _, _, h⟩ := h; cases h)
  | nilP | nilS | nilM | nilF | nilI => simp only [Rep] at h; cases h
  | ptr _ _ _ => simp only [Rep] at h; obtain ⟨a, h, _⟩ := h; cases h
  | cptr _ => simp only [Rep] at h; obtain ⟨a, us, h, _⟩ := h; cases h
  | lst _ _ _ => simp only [Rep] at h; obtain ⟨a, cap, us, h, _⟩ := h; cases h
  | own _ _ _ _ _ => simp only [Rep] at h; obtain ⟨a, cap, h, _⟩ := h; cases h
  | mp _ => simp only [Rep] at h; obtain ⟨B, p, es, _, h, _⟩ := h; cases h
  | it _ => simp only [Rep] at h; obtain ⟨B, p, es, k, _, h, _⟩ := h; cases h
  | any => simp only [Rep] at h; obtain ⟨n, h⟩ := h; cases h
  | ifc _ _ => simp only [Rep] at h; obtain ⟨u, h, _⟩ := h; cases h
  | agg _ => simp only [Rep] at h; obtain ⟨u, h, _⟩ := h; cases h
  | tup _ => simp only [Rep] at h; obtain ⟨u, h, _⟩ := h; cases h

structure FI (pol : Pol) (E : En) (st : St) (a : Act) : Prop where
  m : E.m = st.mem
  mi : MI pol E
  fr : FR E st.tmps a
theorem FR.get {E : En} {ts : List AV} {a : Act} (h : FR E ts a) (t : Nat) : (∀ v, ts[t]? = some v → ∃ u, a.tmps[t]? = some u ∧ Rep E v u) ∧ (ts[t]? = none → a.tmps[t]? = none) := by
  obtain ⟨us, hu, hl⟩ := h
  constructor
  · intro v hv
    obtain ⟨u, h1, h2⟩ := hl.get hv
    exact ⟨u, by rw [hu]; simpa using h1, h2⟩
  · intro hn
    rw [hu]
    have := hl.length
    simp at hn ⊢; omega
theorem FR.put {E : En} {ts : List AV} {a : Act} (h : FR E ts a) {v : AV} {u : Value} (hv : Rep E v u) (d : Option Tmp) : FR E (V.put ts d v) (a.put d u) := by
  obtain ⟨us, hu, hl⟩ := h
  cases d with
  | none => exact ⟨us, hu, hl⟩
  | some d => exact ⟨us.set d u, by simp [Act.put, hu], hl.set d hv⟩
theorem und_rep (E : En) : Rep E und undef := by simp only [Rep]; exact ⟨[], rfl, RepL.nil⟩
theorem wanted_eq {E : En} {ts : List AV} {a : Act} (h : FR E ts a) (ops : Array Oper) (o : Oper) : Region.wanted o (yielded ops a.tmps) = wantedA ops.toList o ts := by
  unfold Region.wanted wantedA
  cases o.guard with
  | none => rfl
  | some x =>
    obtain ⟨j, want⟩ := x
    simp only [yielded, lget_eq]
    have he : (ops.toList[j]?) = ops[j]? := by simp
    rw [he]
    cases hd : (ops[j]?).bind (·.dst) with
    | none => simp
    | some d =>
      simp only [Option.bind_some]
      obtain ⟨h1, h2⟩ := h.get d
      cases hv : ts[d]? with
      | none => rw [h2 hv]; simp
      | some v =>
        obtain ⟨u, hu, hr⟩ := h1 v hv
        rw [hu]
        cases u with
        | bool b => rw [rep_bool_inv hr]; simp
        | _ =>
          simp only
          split
          · rename_i b hb; cases hb; simp only [Rep] at hr; exact absurd hr.1 (by simp)
          · simp

/-- What a call of a function value becomes. -/
def FnR (E : En) : Fn → Fn → Prop
  | .func f, g => g = .func f
  | .yield id, g => ∃ B p s pd ts ps as bd, E.β[id]? = some (B, p) ∧ E.m[id]? = some (.loop s pd ts ps as bd) ∧ g = .yield B
  | _, _ => False
def goFn : Fn → Array Value → Sem Next
  | .func f, args => callFunc f args
  | .yield l, args => Instr.yield l args
  | _, _ => stuck ""
/-- The callee's frame. -/
def Enters (P : Program) : Next → Frame → Prop
  | .enter f args, fr => fr = Frame.enter P f args .normal
  | .round l f ts as bd, fr => fr = Frame.round l f ts as bd .normal
  | _, _ => False
def CallOk (P : Program) (pol : Pol) (call : CallT) : Prop :=
  ∀ en fn args m v m', call en fn args m = some (v, m') → ∀ E, E.m = m → MI pol E → ∀ us, RepL E args us → ∀ g, FnR E fn g →
    (∃ nx fr, (goFn g us.toArray).run P E.w = .ok nx E.w ∧ Enters P nx fr ∧
      ∀ c cs, ∃ E' u, Steps P (lone fr (c :: cs) E.w) (lone (c.finish u) cs E'.w) ∧ E'.m = m' ∧ MI pol E' ∧ Ext E E' ∧ Rep E' v u) ∨
    ((∃ f d, fn = .func f ∧ pol.dir f = some d) ∧ ∃ E' u, (goFn g us.toArray).run P E.w = .ok (.value u) E'.w ∧ E'.m = m' ∧ MI pol E' ∧ Ext E E' ∧ Rep E' v u)
/-- The law of a function whose calls are known. -/
structure DirOk (P : Program) (pol : Pol) (f : FuncId) (d : DirF) : Prop where
  ok : ∀ en args m v m', d en args m = some (v, m') → ∀ E, E.m = m → MI pol E → ∀ us, RepL E args us →
    (∃ nx fr, (goFn (.func f) us.toArray).run P E.w = .ok nx E.w ∧ Enters P nx fr ∧
      ∀ c cs, ∃ E' u, Steps P (lone fr (c :: cs) E.w) (lone (c.finish u) cs E'.w) ∧ E'.m = m' ∧ MI pol E' ∧ Ext E E' ∧ Rep E' v u) ∨
    (∃ E' u, (goFn (.func f) us.toArray).run P E.w = .ok (.value u) E'.w ∧ E'.m = m' ∧ MI pol E' ∧ Ext E E' ∧ Rep E' v u)
  pure : pol.mode f = .pur → ∀ en args m v m', d en args m = some (v, m') → m' = m
  alo : pol.alo f = true → ∀ en args m v m', d en args m = some (v, m') → ∃ o, m' = m ++ [o] ∧ ∀ m2, m2.length = m.length → d en args m2 = some (v, m2 ++ [o])

/-- What it gives hangs on its arguments alone. -/
def Quiet (d : DirF) : Prop := ∀ en args m v m', d en args m = some (v, m') → m' = m ∧ ∀ en2 m2, d en2 args m2 = some (v, m2)
theorem plan_call {E : En} {ρ : Operand → Option AV} {ρc : Operand → Value} (hρ : Opn E ρ ρc) {o : Oper} {fn : Fn} {args : List AV} (h : plan P ρ o = some (.call fn args)) :
    ∃ us g, RepL E args us ∧ FnR E fn g ∧ (∀ w, (execOp ρc o).run P w = (goFn g us.toArray).run P w) := by
  have hgen : generic P ρ o = some (.call fn args) → False := by
    intro hg
    obtain ⟨v, u, h1, _⟩ := generic_ok hρ hg
    cases h1
  have hB : ∀ b as ats, planB P ρ o b as ats = some (.call fn args) → False := by
    intro b as ats hb
    unfold planB at hb
    repeat' first
      | (exact hgen hb)
      | (cases hb; done)
      | split at hb
  cases ho : o.op with
  | call c =>
    obtain ⟨callee, as, ats⟩ := c
    cases callee with
    | builtin b => simp only [plan, ho] at h; exact (hB _ _ _ h).elim
    | invoke r m => exact (hgen (by simpa only [plan, ho] using h)).elim
    | value f =>
      simp only [plan, ho] at h
      split at h
      · rename_i f' first cap vs hf hvs
        cases h
        have hr := hρ f _ hf
        simp only [Rep] at hr
        obtain ⟨us, ws, h1, h2, hfv⟩ := hr
        have h3 := mapM_opn hρ hvs
        refine ⟨us ++ (as.map ρc).toList ++ ws, .func f', (h1.append h3).append h2, rfl, fun w => ?_⟩
        have hexec : execOp ρc o = callFunc f' ((us.toArray ++ as.map ρc) ++ ws.toArray) := by
          simp only [execOp, ho, resolve, hfv, Deferred.ofValue]
          rfl
        rw [hexec]
        simp only [goFn]
        congr 2
        apply Array.ext'; simp
      · rename_i id first vs hf hvs
        cases h
        have hr := hρ f _ hf
        simp only [Rep] at hr
        obtain ⟨us, ws, h1, h2, B, p, s, pd, ts, ps, as', bd, hB', hm, hfv⟩ := hr
        have h3 := mapM_opn hρ hvs
        refine ⟨us ++ (as.map ρc).toList, .yield B, h1.append h3, ⟨B, p, s, pd, ts, ps, as', bd, hB', hm, rfl⟩, fun w => ?_⟩
        have hexec : execOp ρc o = Instr.yield B (us.toArray ++ as.map ρc) := by
          simp only [execOp, ho, resolve, hfv, Deferred.ofValue]
          rfl
        rw [hexec]
        simp only [goFn]
        congr 2
        apply Array.ext'; simp
      · cases h
  | _ =>
    simp only [plan, ho] at h
    try unfold planSet at h
    try unfold ptrEq at h
    exfalso
    repeat' first
      | (cases h; done)
      | (exact hgen h)
      | (unfold arrSl at h)
      | (simp only [Option.map_eq_some_iff, Function.comp] at h; obtain ⟨_, _, h⟩ := h; cases h; done)
      | split at h

theorem plan_defer {ρ : Operand → Option AV} {o : Oper} {r : Req} (h : plan P ρ o = some r) (c : Call) (ho : o.op = .defer c) : False := by
  simp only [plan, ho] at h
  unfold generic at h
  simp [ho, plainOp] at h
end Go.Proofs.YtcmjidnbbfcbjaaGreatDoor.V
/- A region's operations in whatever order they are listed; no condition. -/
namespace Go.Proofs.YtcmjidnbbfcbjaaGreatDoor.V
open Go
set_option linter.unusedVariables false
set_option linter.unusedSimpArgs false
variable {P : Program} {pol : Pol}

theorem oneOp_eq (call : CallT) (en : Env) (o : Oper) (st : St) : oneOp P pol call en o st =
    match plan P (opnd pol st.tmps) o with
    | some (.call fn args) => match call en fn args st.mem with
      | some (v, m) => some (⟨put st.tmps o.dst v, m⟩, .call fn args)
      | none => none
    | some r => match perform en r st.mem with
      | some (v, m) => some (⟨put st.tmps o.dst v, m⟩, r)
      | none => none
    | none => none := by
  unfold oneOp
  simp only [fA_eq, putT_eq]
  rfl

theorem op_step {call : CallT} (hcall : CallOk P pol call) {en : Env} {ops : Array Oper} {i : Nat} {rest : List Nat} {o : Oper} {st st' : St} {r : Req} {E : En} {a : Act} (ho : ops[i]? = some o)
    (h : oneOp P pol call en o st = some (st', r)) (hI : FI pol E st a) (hw : Region.wanted o (yielded ops a.tmps) = true) (b : Frame) (k : List Item) (cs : List Frame) :
    ∃ E' a', Steps P (lone (fat b a (.inRegion ops (i :: rest) :: k)) cs E.w) (lone (fat b a' (.inRegion ops rest :: k)) cs E'.w) ∧ FI pol E' st' a' ∧ Ext E E' ∧ a'.defers = a.defers := by
  rw [oneOp_eq] at h
  have hρ := opnd_ok hI.mi hI.fr
  have hdef : ∀ (u : Value), (a.put o.dst u).defers = a.defers := fun u => by cases hd : o.dst <;> simp [Act.put]
  split at h
  · rename_i fn args hp
    split at h
    case h_2 => cases h
    rename_i v m hc
    cases h
    obtain ⟨us, g, h1, h2, h3⟩ := plan_call hρ hp
    have hd := fun c => plan_defer hp c
    rcases hcall en fn args st.mem v m hc E hI.m hI.mi us h1 g h2 with ⟨nx, fr, k1, k2, k3⟩ | ⟨_, E', u, k1, k2, k3, k4, k5⟩
    case inr =>
      refine ⟨E', a.put o.dst u, .one (st_op_val ho hw hd ((h3 E.w).trans k1)), ⟨k2, k3, (hI.fr.mono k4).put k5 _⟩, k4, hdef u⟩
    obtain ⟨E', u, s1, s2, s3, s4, s5⟩ := k3 (fat b a (.inRegion ops (i :: rest) :: k)) cs
    have hfin : (fat b a (.inRegion ops (i :: rest) :: k)).finish u = fat b (a.put o.dst u) (.inRegion ops rest :: k) := by
      rw [fat_finish, ho]; rfl
    rw [hfin] at s1
    have hex := (h3 E.w).trans k1
    refine ⟨E', a.put o.dst u, ?_, ⟨s2, s3, (hI.fr.mono s4).put s5 _⟩, s4, hdef u⟩
    cases nx with
    | enter f args => simp only [Enters] at k2; subst k2; exact .head (st_op_enter ho hw hd hex) s1
    | round l f ts as bd => simp only [Enters] at k2; subst k2; exact .head (st_op_round ho hw hd hex) s1
    | _ => exact k2.elim
  · rename_i hnc hp
    split at h
    case h_2 => cases h
    rename_i v m hpf
    cases h
    rw [← hI.m] at hpf
    obtain ⟨E', u, h1, h2, h3, h4, h5⟩ := plan_done hI.mi hρ hp (fun fn args e => by subst e; exact hnc _ _ rfl) hpf
    exact ⟨E', a.put o.dst u, .one (st_op ho hw (fun c => plan_defer hp c) h1), ⟨h2, h3, (hI.fr.mono h4).put h5 _⟩, h4, hdef u⟩
  · cases h

theorem runI_steps {call : CallT} (hcall : CallOk P pol call) {en : Env} {ops : Array Oper} : ∀ (l : List Nat) {st st' : St} {tr : List (Nat × Req)} {E : En} {a : Act},
    runI P pol call en ops.toList l st = some (st', tr) → FI pol E st a → ∀ (b : Frame) (k : List Item) (cs : List Frame),
    ∃ E' a', Steps P (lone (fat b a (.inRegion ops l :: k)) cs E.w) (lone (fat b a' k) cs E'.w) ∧ FI pol E' st' a' ∧ Ext E E' ∧ a'.defers = a.defers
  | [], st, st', tr, E, a, h, hI, b, k, cs => by
    simp only [runI, Option.some.injEq, Prod.mk.injEq] at h
    obtain ⟨rfl, rfl⟩ := h
    exact ⟨E, a, .one st_region_end, hI, Ext.refl E, rfl⟩
  | i :: l, st, st', tr, E, a, h, hI, b, k, cs => by
    simp only [runI, lget_eq] at h
    split at h
    · cases h
    rename_i o ho
    have ho' : ops[i]? = some o := by simpa using ho
    split at h
    · rename_i hw
      split at h
      case h_2 => cases h
      rename_i st1 r h1
      split at h
      case h_2 => cases h
      rename_i st2 tr2 h2
      cases h
      obtain ⟨E1, a1, s1, s2, s3, s4⟩ := op_step hcall (rest := l) ho' h1 hI (by rw [wanted_eq hI.fr]; exact hw) b k cs
      obtain ⟨E2, a2, t1, t2, t3, t4⟩ := runI_steps hcall l h2 s2 b k cs
      exact ⟨E2, a2, s1.trans t1, t2, s3.trans t3, t4.trans s4⟩
    · rename_i hw
      rw [putT_eq] at h
      split at h
      case h_2 => cases h
      rename_i st2 tr2 h2
      cases h
      have hI' : FI pol E ⟨put st.tmps o.dst und, st.mem⟩ (a.put ((ops[i]?).bind (·.dst)) undef) := ⟨hI.m, hI.mi, by rw [ho']; exact hI.fr.put (und_rep E) _⟩
      obtain ⟨E2, a2, t1, t2, t3, t4⟩ := runI_steps hcall l h2 hI' b k cs
      refine ⟨E2, a2, .head (st_op_skip ?_) t1, t2, t3, t4.trans ?_⟩
      · rw [ho']; simp only [Option.map_some, Option.getD_some]; rw [wanted_eq hI.fr]; simpa using hw
      · cases hd : (ops[i]?).bind (·.dst) <;> simp [Act.put]

theorem runL_runI {call : CallT} {en : Env} {ops : List Oper} : ∀ (n i : Nat) {st st' : St}, i + n = ops.length → runL P pol call en ops (ops.drop i) st = some st' → ∃ tr, runI P pol call en ops (List.range' i n) st = some (st', tr)
  | 0, i, st, st', hn, h => by
    have : ops.drop i = [] := List.drop_eq_nil_of_le (by omega)
    rw [this] at h
    simp only [runL, Option.some.injEq] at h; subst h
    exact ⟨[], rfl⟩
  | n + 1, i, st, st', hn, h => by
    have hi : i < ops.length := by omega
    rw [List.drop_eq_getElem_cons hi] at h
    have hg : lget ops i = some ops[i] := by rw [lget_eq]; exact List.getElem?_eq_getElem hi
    simp only [List.range'_succ, runI, hg]
    simp only [runL] at h
    split at h
    · rename_i hw
      rw [if_pos hw]
      split at h
      case h_2 => cases h
      rename_i st1 r h1
      obtain ⟨tr, ht⟩ := runL_runI n (i + 1) (by omega) h
      simp only [ht]
      exact ⟨_, rfl⟩
    · rename_i hw
      rw [if_neg hw]
      rw [putT_eq] at h ⊢
      obtain ⟨tr, ht⟩ := runL_runI n (i + 1) (by omega) h
      simp only [ht]
      exact ⟨_, rfl⟩
theorem runL_steps {call : CallT} (hcall : CallOk P pol call) {en : Env} {ops : Array Oper} {st st' : St} {E : En} {a : Act} (h : runL P pol call en ops.toList ops.toList st = some st') (hI : FI pol E st a) (b : Frame) (k : List Item) (cs : List Frame) (id : Nat) :
    ∃ E' a', Steps P (lone (fat b a (.code (.region id ops false) :: k)) cs E.w) (lone (fat b a' k) cs E'.w) ∧ FI pol E' st' a' ∧ Ext E E' ∧ a'.defers = a.defers := by
  obtain ⟨tr, ht⟩ := runL_runI (ops := ops.toList) ops.size 0 (by simp) (by simpa using h)
  rw [← List.range_eq_range'] at ht
  obtain ⟨E', a', s1, s2, s3, s4⟩ := runI_steps hcall (List.range ops.size) ht hI b k cs
  exact ⟨E', a', .head st_region s1, s2, s3, s4⟩
end Go.Proofs.YtcmjidnbbfcbjaaGreatDoor.V
/- The VM's store under a call: what stays, and what a result holds when the call's own objects go; no condition. -/
namespace Go.Proofs.YtcmjidnbbfcbjaaGreatDoor.V
open Go
set_option linter.unusedVariables false
set_option linter.unusedSimpArgs false
variable {P : Program} {pol : Pol}

def Ob.low (B : Nat) : Ob → Bool
  | .cells _ cs => AV.lowL B cs
  | .map es => es.all fun e => AV.low B e.2
  | .loop _ _ ts _ _ _ => AV.lowL B ts
  | .iter _ _ => true
def LowTo (B : Nat) (m : Mem) : Prop := ∀ (id : Nat) o, id < B → m[id]? = some o → o.low B = true
theorem lowL_iff (B : Nat) (cs : List AV) : AV.lowL B cs = true ↔ ∀ c ∈ cs, AV.low B c = true := by
  induction cs with
  | nil => simp [AV.lowL]
  | cons c cs ih => simp [AV.lowL, ih]
theorem lowL_splice {B : Nat} : ∀ {vs cs : List AV} {o : Nat}, AV.lowL B cs = true → AV.lowL B vs = true → AV.lowL B (splice cs o vs) = true
  | [], cs, o, h, _ => h
  | v :: vs, cs, o, h, k => by
    simp only [AV.lowL, Bool.and_eq_true] at k
    refine lowL_splice (vs := vs) ?_ k.2
    rw [lowL_iff] at h ⊢
    intro c hc
    rcases List.mem_or_eq_of_mem_set hc with hc | rfl
    · exact h c hc
    · exact k.1

structure Keep (en : Env) (m m' : Mem) : Prop where
  len : m.length ≤ m'.length
  bar : ∀ (id : Nat), id < en.bar → id < m.length → m'[id]? = m[id]?
  low : ∀ B ∈ en.bases, B ≤ m.length → LowTo B m → LowTo B m'
theorem Keep.refl (en : Env) (m : Mem) : Keep en m m := ⟨Nat.le_refl _, fun _ _ _ => rfl, fun _ _ _ h => h⟩
theorem Keep.trans {en : Env} {m m' m'' : Mem} (h : Keep en m m') (k : Keep en m' m'') : Keep en m m'' :=
  ⟨Nat.le_trans h.len k.len, fun id h1 h2 => (k.bar id h1 (Nat.lt_of_lt_of_le h2 h.len)).trans (h.bar id h1 h2), fun B hB hl hm => k.low B hB (Nat.le_trans hl h.len) (h.low B hB hl hm)⟩
/-- What a function whose calls are known does to the store. -/
def DirKeep (d : DirF) : Prop := ∀ en args m v m', d en args m = some (v, m') → Keep en m m'
theorem Keep.push (en : Env) (m : Mem) (o : Ob) : Keep en m (m ++ [o]) := by
  refine ⟨by simp, fun id _ h => List.getElem?_append_left h, fun B _ hl hm id o' hid ho => ?_⟩
  rw [List.getElem?_append_left (by omega)] at ho
  exact hm id o' hid ho
theorem Keep.set {en : Env} {m : Mem} {id : Nat} {o : Ob} (hb : en.bar ≤ id) (hlow : ∀ B ∈ en.bases, id < B → B ≤ m.length → (∀ o', m[id]? = some o' → o'.low B = true) → o.low B = true) : Keep en m (m.set id o) := by
  refine ⟨by simp, fun j h _ => List.getElem?_set_ne (by omega), fun B hB hl hm j o' hj ho => ?_⟩
  rw [List.getElem?_set] at ho
  split at ho
  · rename_i e; subst e
    split at ho
    · cases ho; exact hlow B hB hj hl fun o' ho' => hm _ o' hj ho'
    · cases ho
  · exact hm j o' hj ho
theorem bases_get {bases : List Nat} {id B : Nat} {q : Nat → Bool} (h : bases.all (fun B => decide (B ≤ id) || q B) = true) (hB : B ∈ bases) (hid : id < B) : q B = true := by
  have := List.all_eq_true.1 h B hB
  simp only [Bool.or_eq_true, decide_eq_true_eq] at this
  rcases this with h1 | h1
  · omega
  · exact h1
theorem perform_keep {en : Env} {r : Req} {m m' : Mem} {v : AV} (h : perform en r m = some (v, m')) : Keep en m m' := by
  cases r with
  | val v' => cases h; exact Keep.refl _ _
  | load id ver off n ag =>
    cases ag with
    | true => simp only [perform, Option.map_eq_some_iff] at h; obtain ⟨_, _, h⟩ := h; cases h; exact Keep.refl _ _
    | false =>
      simp only [perform] at h
      split at h
      · split at h
        · simp only [Option.map_eq_some_iff] at h; obtain ⟨_, _, h⟩ := h; cases h; exact Keep.refl _ _
        · cases h
      · cases h
  | store id ver off vs =>
    simp only [perform, lget_eq] at h
    split at h
    case h_2 => cases h
    rename_i v' cs hm
    split at h
    case isFalse => cases h
    rename_i hc
    obtain ⟨_, _, rfl, _, hb, hl⟩ := hc
    rw [spliceK_eq, lsetK_eq] at h
    cases h
    refine Keep.set hb fun B hB hid _ ho => ?_
    have := ho _ hm
    simp only [Ob.low] at this ⊢
    exact lowL_splice this (bases_get (q := fun B => AV.lowL B vs) hl hB hid)
  | alloc tag esz cs len =>
    cases len with
    | none =>
      simp only [perform, spine_eq, fNat_eq] at h
      split at h
      · cases h; exact Keep.push _ _ _
      · cases h
    | some n =>
      simp only [perform, spine_eq, fNat_eq] at h
      split at h
      · cases h; exact Keep.push _ _ _
      · cases h
  | newmap => simp only [perform, spine_eq] at h; cases h; exact Keep.push _ _ _
  | iter s => simp only [perform, spine_eq] at h; cases h; exact Keep.push _ _ _
  | nextS id =>
    simp only [perform, lget_eq] at h
    split at h
    case h_2 => cases h
    rename_i s p hm
    split at h
    case isFalse => cases h
    rename_i hb
    split at h
    · rw [fNat_eq, lsetK_eq] at h
      cases h
      exact Keep.set hb fun B hB hid _ ho => by simp [Ob.low]
    · cases h; exact Keep.refl _ _
  | bstr id ver off n =>
    simp only [perform] at h
    split at h
    · split at h
      · cases h; exact Keep.refl _ _
      · cases h
    · cases h
  | ustr tag id ver off n =>
    simp only [perform] at h
    split at h
    case h_2 => cases h
    split at h
    case h_2 => cases h
    split at h
    case isFalse => cases h
    rename_i hc
    rw [fNat_eq, lsetK_eq] at h
    cases h
    exact Keep.set hc.2 fun B hB hid _ ho => by simp [Ob.low, AV.lowL]
  | chk tag id ver off sz v =>
    simp only [perform] at h
    split at h
    case h_2 => cases h
    split at h
    case isFalse => cases h
    cases h; exact Keep.refl _ _
  | mapget kt id k z ok =>
    simp only [perform] at h
    split at h
    · split at h
      · cases h; exact Keep.refl _ _
      · cases h; exact Keep.refl _ _
      · cases h
    · cases h
  | mapset kt id k v' =>
    simp only [perform, lget_eq] at h
    split at h
    case h_2 => cases h
    rename_i es hm
    split at h
    case isFalse => cases h
    rename_i hc
    obtain ⟨hb, hl⟩ := hc
    split at h
    · rw [spine_eq, lsetK_eq] at h
      cases h
      refine Keep.set hb fun B hB hid _ ho => ?_
      have := ho _ hm
      simp only [Ob.low, List.all_eq_true] at this ⊢
      intro e he
      rcases List.mem_or_eq_of_mem_set he with he | rfl
      · exact this e he
      · exact bases_get (q := fun B => AV.low B v') hl hB hid
    · rw [spine_eq, lsetK_eq] at h
      cases h
      refine Keep.set hb fun B hB hid _ ho => ?_
      have := ho _ hm
      simp only [Ob.low, List.all_eq_true] at this ⊢
      intro e he
      rcases List.mem_append.1 he with he | he
      · exact this e he
      · simp at he; subst he; exact bases_get (q := fun B => AV.low B v') hl hB hid
    · cases h
  | maplen id =>
    simp only [perform] at h
    split at h
    · cases h; exact Keep.refl _ _
    · cases h
  | mapclear id =>
    simp only [perform, lget_eq] at h
    split at h
    case h_2 => cases h
    split at h
    case isFalse => cases h
    rename_i hb
    rw [lsetK_eq] at h
    cases h
    exact Keep.set hb fun B hB hid _ ho => by simp [Ob.low]
  | app tag id ver off len esz src =>
    simp only [perform, lget_eq] at h
    split at h
    case h_2 => cases h
    rename_i v' cs n ys hm hs
    split at h
    case isFalse => cases h
    rename_i hc
    obtain ⟨rfl, _, _, _, hb, hl⟩ := hc
    rw [spine_eq, fNat_eq, lsetK_eq] at h
    cases h
    refine Keep.set hb fun B hB hid _ ho => ?_
    have := ho _ hm
    simp only [Ob.low, lowL_iff] at this ⊢
    intro c hc
    rcases List.mem_append.1 hc with hc | hc
    · exact this c (List.mem_of_mem_drop (List.mem_of_mem_take hc))
    · exact (lowL_iff _ _).1 (bases_get (q := fun B => AV.lowL B ys) hl hB hid) c hc
  | appnew tag esz k pre src =>
    simp only [perform] at h
    split at h
    case h_2 => cases h
    split at h
    case isFalse => cases h
    rw [fNat_eq, spine_eq, spine_eq] at h
    cases h; exact Keep.push _ _ _
  | copy id ver off len esz src =>
    simp only [perform, lget_eq] at h
    split at h
    case h_2 => cases h
    rename_i v' cs n ys hm hs
    split at h
    case isFalse => cases h
    rename_i hc
    obtain ⟨rfl, _, _, hb, hl⟩ := hc
    rw [fNat_eq, spliceK_eq, lsetK_eq] at h
    cases h
    refine Keep.set hb fun B hB hid _ ho => ?_
    have := ho _ hm
    simp only [Ob.low] at this ⊢
    refine lowL_splice this ?_
    have h2 := bases_get (q := fun B => AV.lowL B ys) hl hB hid
    simp only [lowL_iff] at h2 ⊢
    exact fun c hc => h2 c (List.mem_of_mem_take hc)
  | mapdel kt id k =>
    simp only [perform, lget_eq] at h
    split at h
    case h_2 => cases h
    rename_i es hm
    split at h
    case isFalse => cases h
    rename_i hb
    split at h
    · rw [spine_eq, lsetK_eq] at h
      cases h
      refine Keep.set hb fun B hB hid _ ho => ?_
      have := ho _ hm
      simp only [Ob.low, List.all_eq_true] at this ⊢
      exact fun e he => this e (List.mem_of_mem_eraseIdx he)
    · cases h; exact Keep.refl _ _
    · cases h
  | call fn args => cases h

/-! A call's own objects go. -/
def En.cut (E : En) (n : Nat) : En := { w := E.w, β := E.β.take n, m := E.m.take n }
theorem cut_β {E : En} {n id : Nat} {x : Nat × Nat} (h : (E.cut n).β[id]? = some x) : E.β[id]? = some x ∧ id < n := by
  simp only [En.cut, List.getElem?_take] at h
  split at h
  · rename_i hid; exact ⟨h, hid⟩
  · cases h
theorem cut_β' {E : En} {n id : Nat} (h : id < n) : (E.cut n).β[id]? = E.β[id]? := by simp [En.cut, List.getElem?_take, h]
theorem cut_m' {E : En} {n id : Nat} (h : id < n) : (E.cut n).m[id]? = E.m[id]? := by simp [En.cut, List.getElem?_take, h]
theorem cut_live {E : En} {n b : Nat} (h : ¬ E.live b) : ¬ (E.cut n).live b := by
  rintro ⟨id, p, hid⟩
  exact h ⟨id, p, (cut_β hid).1⟩
theorem Held.cut {E : En} {n : Nat} {a : Addr} {us} (h : Held E a us) : Held (E.cut n) a us := fun i u hu => ⟨cut_live (h i u hu).1, (h i u hu).2⟩
mutual
theorem Rep.cut {E : En} {n : Nat} : ∀ (v : AV) (u : Value), Rep E v u → v.low n = true → Rep (E.cut n) v u
  | .sc _, _, h, _ | .nilP, _, h, _ | .nilS, _, h, _ | .nilM, _, h, _ | .nilF, _, h, _ | .nilI, _, h, _ | .any, _, h, _ => by simpa [Rep] using h
  | .ptr id ver off, u, h, hl => by
    simp only [AV.low, decide_eq_true_eq] at hl
    simp only [Rep] at h ⊢
    obtain ⟨a, rfl, ver', cs, hm, hle, hv⟩ := h
    refine ⟨a, rfl, ver', cs, (cut_m' hl).trans hm, hle, fun e => ?_⟩
    obtain ⟨B, p, hB, ha⟩ := hv e
    exact ⟨B, p, (cut_β' hl).trans hB, ha⟩
  | .cptr cs, u, h, hl => by
    simp only [AV.low] at hl
    simp only [Rep] at h ⊢
    obtain ⟨a, us, rfl, hs, hf, hr, hh⟩ := h
    exact ⟨a, us, rfl, hs, hf, RepL.cut cs us hr hl, hh.cut⟩
  | .lst k cs c, u, h, hl => by
    simp only [AV.low] at hl
    simp only [Rep] at h ⊢
    obtain ⟨a, cap, us, rfl, hn, hs, hc, hf, hr, hh⟩ := h
    exact ⟨a, cap, us, rfl, hn, hs, hc, hf, RepL.cut cs us hr hl, hh.cut⟩
  | .own id ver off len esz, u, h, hl => by
    simp only [AV.low, decide_eq_true_eq] at hl
    simp only [Rep] at h ⊢
    obtain ⟨a, cap, rfl, hn, ver', cs, hm, hle, hv⟩ := h
    refine ⟨a, cap, rfl, hn, ver', cs, (cut_m' hl).trans hm, hle, fun e => ?_⟩
    obtain ⟨h1, B, p, hB, ha⟩ := hv e
    exact ⟨h1, B, p, (cut_β' hl).trans hB, ha⟩
  | .mp id, u, h, hl => by
    simp only [AV.low, decide_eq_true_eq] at hl
    simp only [Rep] at h ⊢
    obtain ⟨B, p, es, hB, rfl, hm⟩ := h
    exact ⟨B, p, es, (cut_β' hl).trans hB, rfl, (cut_m' hl).trans hm⟩
  | .it id, u, h, hl => by
    simp only [AV.low, decide_eq_true_eq] at hl
    simp only [Rep] at h ⊢
    obtain ⟨B, p, s, k, hB, rfl, hm⟩ := h
    exact ⟨B, p, s, k, (cut_β' hl).trans hB, rfl, (cut_m' hl).trans hm⟩
  | .clo fn a b, u, h, hl => by
    simp only [AV.low, Bool.and_eq_true] at hl
    cases fn with
    | yield id =>
      simp only [decide_eq_true_eq] at hl
      simp only [Rep] at h ⊢
      obtain ⟨us, vs, ha, hb, B, p, s, pd, ts, ps, as, bd, hB, hm, rfl⟩ := h
      exact ⟨us, vs, RepL.cut a us ha hl.1.2, RepL.cut b vs hb hl.2, B, p, s, pd, ts, ps, as, bd, (cut_β' hl.1.1).trans hB, (cut_m' hl.1.1).trans hm, rfl⟩
    | func _ => simp only [Rep] at h ⊢; obtain ⟨us, vs, ha, hb, rfl⟩ := h; exact ⟨us, vs, RepL.cut a us ha hl.1.2, RepL.cut b vs hb hl.2, rfl⟩
    | method _ => simp only [Rep] at h ⊢; obtain ⟨us, vs, ha, hb, rfl⟩ := h; exact ⟨us, vs, RepL.cut a us ha hl.1.2, RepL.cut b vs hb hl.2, rfl⟩
    | methodOf _ _ => simp only [Rep] at h ⊢; obtain ⟨us, vs, ha, hb, rfl⟩ := h; exact ⟨us, vs, RepL.cut a us ha hl.1.2, RepL.cut b vs hb hl.2, rfl⟩
    | via _ _ _ _ => simp only [Rep] at h ⊢; obtain ⟨us, vs, ha, hb, rfl⟩ := h; exact ⟨us, vs, RepL.cut a us ha hl.1.2, RepL.cut b vs hb hl.2, rfl⟩
  | .ifc t v, u, h, hl => by
    simp only [AV.low] at hl
    simp only [Rep] at h ⊢
    obtain ⟨u', rfl, hu⟩ := h
    exact ⟨u', rfl, Rep.cut v u' hu hl⟩
  | .agg cs, u, h, hl => by
    simp only [AV.low] at hl
    simp only [Rep] at h ⊢
    obtain ⟨us, rfl, hf, hr⟩ := h
    exact ⟨us, rfl, hf, RepL.cut cs us hr hl⟩
  | .tup cs, u, h, hl => by
    simp only [AV.low] at hl
    simp only [Rep] at h ⊢
    obtain ⟨us, rfl, hr⟩ := h
    exact ⟨us, rfl, RepL.cut cs us hr hl⟩
theorem RepL.cut {E : En} {n : Nat} : ∀ (cs : List AV) (us : List Value), RepL E cs us → AV.lowL n cs = true → RepL (E.cut n) cs us
  | [], us, h, _ => by simpa [RepL] using h
  | c :: cs, us, h, hl => by
    simp only [AV.lowL, Bool.and_eq_true] at hl
    simp only [RepL] at h ⊢
    obtain ⟨u, us', rfl, h1, h2⟩ := h
    exact ⟨u, us', rfl, Rep.cut c u h1 hl.1, RepL.cut cs us' h2 hl.2⟩
end
theorem ObR.cut {E : En} {n : Nat} {o : Ob} {B p : Nat} (h : ObR E o B p) (hl : o.low n = true) : ObR (E.cut n) o B p := by
  cases o with
  | cells v cs => simp only [ObR, Ob.low] at h hl ⊢; obtain ⟨c, t, fz, us, h1, h2, h3, h4⟩ := h; exact ⟨c, t, fz, us, h1, h2, RepL.cut _ _ h3 hl, h4⟩
  | map es =>
    simp only [ObR, Ob.low] at h hl ⊢
    obtain ⟨ents, clock, h1, h2, h3⟩ := h
    refine ⟨ents, clock, h1, h2, fun i e x he hx => ?_⟩
    obtain ⟨k1, k2, k3⟩ := h3 i e x he hx
    exact ⟨k1, k2, Rep.cut _ _ k3 (List.all_eq_true.1 hl e (List.mem_of_getElem? he))⟩
  | loop st pd ts ps as bd => simp only [ObR, Ob.low] at h hl ⊢; obtain ⟨l, us, h1, h2, h3, h4, h5, h6, h7, h8⟩ := h; exact ⟨l, us, h1, h2, h3, h4, h5, h6, h7, RepL.cut _ _ h8 hl⟩
  | iter s k => simp only [ObR] at h ⊢; exact h
/-- Package variables hold no address of the store. -/
def GlobLow (pol : Pol) : Prop := ∀ g cs, pol.glob g = some cs → ∀ n, AV.lowL n cs = true
theorem MI.cut {E : En} {n : Nat} (hg : GlobLow pol) (h : MI pol E) (hn : n ≤ E.m.length) (hl : LowTo n E.m) : MI pol (E.cut n) := by
  refine ⟨by simp [En.cut, h.len], fun i j b p q hi hj => h.inj i j b p q (cut_β hi).1 (cut_β hj).1, fun id o ho => ?_, fun g cs hgc => ⟨Rep.cut _ _ (h.glob g cs hgc).rep (by simp only [AV.low]; exact hg g cs hgc n), (h.glob g cs hgc).whole⟩⟩
  simp only [En.cut, List.getElem?_take] at ho
  split at ho
  case isFalse => cases ho
  rename_i hid
  obtain ⟨B, p, hB, hr⟩ := h.ob id o ho
  exact ⟨B, p, (cut_β' hid).trans hB, hr.cut (hl id o hid ho)⟩
theorem Ext.cut {E0 E : En} {n : Nat} (h : Ext E0 E) (hn : E0.m.length = n) : Ext E0 (E.cut n) := by
  refine ⟨h.os, h.tape, h.output, h.size, fun b hb hl => ⟨cut_live (h.old b hb hl).1, (h.old b hb hl).2⟩, fun id o ho => ?_⟩
  obtain ⟨o', h1, h2, h3⟩ := h.ob id o ho
  have hid : id < n := by rw [← hn]; exact (List.getElem?_eq_some_iff.1 ho).1
  exact ⟨o', (cut_m' hid).trans h1, h2, fun hs => ⟨(cut_β' hid).trans (h3 hs).1, (h3 hs).2⟩⟩
/-- What is referred to lies in the store. -/
theorem rep_low {E : En} : (∀ (v : AV) (u : Value), Rep E v u → v.low E.m.length = true) := fun v u h => lowV v u h
where
  lowV : ∀ (v : AV) (u : Value), Rep E v u → v.low E.m.length = true
  | .sc _, _, _ | .nilP, _, _ | .nilS, _, _ | .nilM, _, _ | .nilF, _, _ | .nilI, _, _ | .any, _, _ => by simp [AV.low]
  | .ptr id ver off, u, h => by
    simp only [Rep] at h; obtain ⟨a, _, ver', cs, hm, _⟩ := h
    simp only [AV.low, decide_eq_true_eq]; exact (List.getElem?_eq_some_iff.1 hm).1
  | .cptr cs, u, h => by simp only [Rep] at h; obtain ⟨a, us, _, _, _, hr, _⟩ := h; simp only [AV.low]; exact lowC cs us hr
  | .lst k cs c, u, h => by simp only [Rep] at h; obtain ⟨a, cap, us, _, _, _, _, _, hr, _⟩ := h; simp only [AV.low]; exact lowC cs us hr
  | .own id ver off len esz, u, h => by
    simp only [Rep] at h; obtain ⟨a, cap, _, _, ver', cs, hm, _⟩ := h
    simp only [AV.low, decide_eq_true_eq]; exact (List.getElem?_eq_some_iff.1 hm).1
  | .mp id, u, h => by
    simp only [Rep] at h; obtain ⟨B, p, es, _, _, hm⟩ := h
    simp only [AV.low, decide_eq_true_eq]; exact (List.getElem?_eq_some_iff.1 hm).1
  | .it id, u, h => by
    simp only [Rep] at h; obtain ⟨B, p, s, k, _, _, hm⟩ := h
    simp only [AV.low, decide_eq_true_eq]; exact (List.getElem?_eq_some_iff.1 hm).1
  | .clo fn a b, u, h => by
    cases fn with
    | yield id =>
      simp only [Rep] at h; obtain ⟨us, vs, ha, hb, B, p, s, pd, ts, ps, as, bd, _, hm, _⟩ := h
      simp only [AV.low, Bool.and_eq_true, decide_eq_true_eq]; exact ⟨⟨(List.getElem?_eq_some_iff.1 hm).1, lowC a us ha⟩, lowC b vs hb⟩
    | func _ => simp only [Rep] at h; obtain ⟨us, vs, ha, hb, _⟩ := h; simp only [AV.low, Bool.and_eq_true]; exact ⟨⟨trivial, lowC a us ha⟩, lowC b vs hb⟩
    | method _ => simp only [Rep] at h; obtain ⟨us, vs, ha, hb, _⟩ := h; simp only [AV.low, Bool.and_eq_true]; exact ⟨⟨trivial, lowC a us ha⟩, lowC b vs hb⟩
    | methodOf _ _ => simp only [Rep] at h; obtain ⟨us, vs, ha, hb, _⟩ := h; simp only [AV.low, Bool.and_eq_true]; exact ⟨⟨trivial, lowC a us ha⟩, lowC b vs hb⟩
    | via _ _ _ _ => simp only [Rep] at h; obtain ⟨us, vs, ha, hb, _⟩ := h; simp only [AV.low, Bool.and_eq_true]; exact ⟨⟨trivial, lowC a us ha⟩, lowC b vs hb⟩
  | .ifc t v, u, h => by simp only [Rep] at h; obtain ⟨u', _, hu⟩ := h; simp only [AV.low]; exact lowV v u' hu
  | .agg cs, u, h => by simp only [Rep] at h; obtain ⟨us, _, _, hr⟩ := h; simp only [AV.low]; exact lowC cs us hr
  | .tup cs, u, h => by simp only [Rep] at h; obtain ⟨us, _, hr⟩ := h; simp only [AV.low]; exact lowC cs us hr
  lowC : ∀ (cs : List AV) (us : List Value), RepL E cs us → AV.lowL E.m.length cs = true
  | [], _, _ => rfl
  | c :: cs, us, h => by
    simp only [RepL] at h; obtain ⟨u, us', _, h1, h2⟩ := h
    simp only [AV.lowL, Bool.and_eq_true]; exact ⟨lowV c u h1, lowC cs us' h2⟩
theorem mi_low {E : En} (h : MI pol E) : LowTo E.m.length E.m := by
  intro id o _ ho
  obtain ⟨B, p, _, hr⟩ := h.ob id o ho
  cases o with
  | cells v cs => simp only [ObR] at hr; obtain ⟨c, t, fz, us, _, _, h3, _⟩ := hr; simp only [Ob.low]; exact rep_low.lowC cs us h3
  | map es =>
    simp only [ObR] at hr; obtain ⟨ents, clock, _, h2, h3⟩ := hr
    simp only [Ob.low, List.all_eq_true]
    intro e he
    obtain ⟨i, hi⟩ := List.mem_iff_getElem?.1 he
    have hlt : i < ents.toList.length := by rw [← h2]; exact (List.getElem?_eq_some_iff.1 hi).1
    exact rep_low _ _ (h3 i e _ hi (List.getElem?_eq_getElem hlt)).2.2
  | loop st pd ts ps as bd => simp only [ObR] at hr; obtain ⟨l, us, _, _, _, _, _, _, _, h8⟩ := hr; simp only [Ob.low]; exact rep_low.lowC ts us h8
  | iter s k => rfl
theorem mapM_length {α β : Type} {f : α → Option β} : ∀ {xs : List α} {ys : List β}, xs.mapM f = some ys → ys.length = xs.length := by
  intro xs
  induction xs with
  | nil => intro ys h; simp at h; subst h; rfl
  | cons x xs ih =>
    intro ys h
    simp only [List.mapM_cons] at h
    cases hx : f x with
    | none => simp [hx] at h
    | some c =>
      cases hr : xs.mapM f with
      | none => simp [hx, hr] at h
      | some zs => simp [hx, hr] at h; subst h; simp [ih hr]
theorem frz_ok {E : En} (h : MI pol E) {n : Nat} : ∀ (d : Nat) {v v' : AV} {u : Value}, frz E.m n d v = some v' → Rep E v u → Rep (E.cut n) v' u
  | 0, v, v', u, hf, _ => by simp [frz] at hf
  | d + 1, v, v', u, hf, hr => by
    have ihL : ∀ {cs cs' : List AV} {us : List Value}, cs.mapM (frz E.m n d) = some cs' → RepL E cs us → RepL (E.cut n) cs' us := by
      intro cs
      induction cs with
      | nil => intro cs' us hm hl; simp at hm; subst hm; simpa [RepL] using hl
      | cons c cs ih =>
        intro cs' us hm hl
        simp only [RepL] at hl
        obtain ⟨u, us', rfl, h1, h2⟩ := hl
        simp only [List.mapM_cons] at hm
        cases hx : frz E.m n d c with
        | none => simp [hx] at hm
        | some c' =>
          cases hy : cs.mapM (frz E.m n d) with
          | none => simp [hx, hy] at hm
          | some zs => simp [hx, hy] at hm; subst hm; exact RepL.cons (frz_ok h d hx h1) (ih hy h2)
    cases v with
    | sc w => simp only [frz] at hf; cases hf; exact Rep.cut _ _ hr rfl
    | nilP => simp only [frz] at hf; cases hf; exact Rep.cut _ _ hr rfl
    | nilS => simp only [frz] at hf; cases hf; exact Rep.cut _ _ hr rfl
    | nilM => simp only [frz] at hf; cases hf; exact Rep.cut _ _ hr rfl
    | nilF => simp only [frz] at hf; cases hf; exact Rep.cut _ _ hr rfl
    | nilI => simp only [frz] at hf; cases hf; exact Rep.cut _ _ hr rfl
    | any => simp only [frz] at hf; cases hf; exact Rep.cut _ _ hr rfl
    | ptr id ver off =>
      simp only [frz] at hf
      split at hf
      · rename_i hid; cases hf; exact Rep.cut _ _ hr (by simpa [AV.low] using hid)
      · cases hf
    | mp id =>
      simp only [frz] at hf
      split at hf
      · rename_i hid; cases hf; exact Rep.cut _ _ hr (by simpa [AV.low] using hid)
      · cases hf
    | it id =>
      simp only [frz] at hf
      split at hf
      · rename_i hid; cases hf; exact Rep.cut _ _ hr (by simpa [AV.low] using hid)
      · cases hf
    | own id ver off len esz =>
      simp only [frz, lget_eq] at hf
      split at hf
      · rename_i hid; cases hf; exact Rep.cut _ _ hr (by simpa [AV.low] using hid)
      rename_i hid
      split at hf
      case h_2 => cases hf
      rename_i ver' cs hm
      split at hf
      case isFalse => cases hf
      rename_i hc
      obtain ⟨rfl, hle⟩ := hc
      split at hf
      case h_2 => cases hf
      rename_i cs' hcs
      split at hf
      case isFalse => cases hf
      rename_i hleaf
      cases hf
      simp only [Rep] at hr ⊢
      obtain ⟨a, cap, rfl, hn, ver'', cs'', hm', _, hv⟩ := hr
      rw [hm] at hm'; cases hm'
      obtain ⟨_, B, p, hB, hcap, hbs⟩ := hv rfl
      obtain ⟨c, t, fz, us, k1, k2, k3, k4, _⟩ := obj_cells h hm hB
      refine ⟨a, cap, (us.drop off).take (len * esz), rfl, hn, ?_, by simp, hleaf, ihL hcs ((k3.drop off).take _), ?_⟩
      · rcases hcap with ⟨_, h0⟩ | rfl
        · exact Or.inl h0
        · exact Or.inl rfl
      · intro i u hu
        simp only [List.getElem?_take, List.getElem?_drop] at hu
        split at hu
        case isFalse => cases hu
        rename_i hi
        rcases hcap with ⟨h0, _⟩ | rfl
        · have : len = 0 := by omega
          subst this; simp at hi
        · refine ⟨?_, ?_⟩
          · rintro ⟨j, q, hj⟩
            obtain ⟨hj1, hj2⟩ := cut_β hj
            have := h.inj id j _ _ _ hB hj1
            omega
          · show E.w.cell? _ = _
            rw [cell_of k1]; have := k4 _ _ hu; rw [← this]; congr 1; simp only; omega
    | cptr cs =>
      simp only [frz] at hf
      split at hf
      · rename_i hl; cases hf; exact Rep.cut _ _ hr (by simpa [AV.low] using hl)
      · cases hf
    | lst k cs c =>
      simp only [frz] at hf
      split at hf
      · rename_i hl; cases hf; exact Rep.cut _ _ hr (by simpa [AV.low] using hl)
      · cases hf
    | clo fn a b =>
      simp only [frz] at hf
      split at hf
      · rename_i hl; cases hf; exact Rep.cut _ _ hr hl
      · cases hf
    | ifc t v =>
      simp only [frz] at hf
      split at hf
      · rename_i v1 hv1
        cases hf
        simp only [Rep] at hr ⊢
        obtain ⟨u', rfl, hu⟩ := hr
        exact ⟨u', rfl, frz_ok h d hv1 hu⟩
      · cases hf
    | agg cs =>
      simp only [frz] at hf
      split at hf
      · rename_i cs' hcs
        split at hf
        · rename_i hl
          cases hf
          simp only [Rep] at hr ⊢
          obtain ⟨us, rfl, _, hu⟩ := hr
          exact ⟨us, rfl, hl, ihL hcs hu⟩
        · cases hf
      · cases hf
    | tup cs =>
      simp only [frz] at hf
      split at hf
      · rename_i cs' hcs
        cases hf
        simp only [Rep] at hr ⊢
        obtain ⟨us, rfl, hu⟩ := hr
        exact ⟨us, rfl, ihL hcs hu⟩
      · cases hf
end Go.Proofs.YtcmjidnbbfcbjaaGreatDoor.V
/- Returns, rounds and loops over functions in the machine; no condition. -/
namespace Go.Proofs.YtcmjidnbbfcbjaaGreatDoor.V
open Go
set_option linter.unusedVariables false
set_option linter.unusedSimpArgs false
variable {P : Program} {pol : Pol}

/-- The marks of loops over functions among a frame's deferred calls. -/
def dfr (rs : List Nat) : List Deferred := rs.map fun r => { target := .collected r, args := #[] }
structure Df (E : En) (a : Act) (E' : En) (a' : Act) (rs : List Nat) : Prop where
  eq : a'.defers = dfr rs ++ a.defers
  nodup : rs.Nodup
  at_ : ∀ r ∈ rs, E.w.heap.size ≤ r ∧ E'.w.heap[r]? = some (.deferred (some [])) ∧ ¬ E'.live r
theorem Df.same {E : En} {a : Act} {E' : En} {a' : Act} (h : a'.defers = a.defers) : Df E a E' a' [] := ⟨by simpa [dfr] using h, List.nodup_nil, fun r hr => by simp at hr⟩
theorem Df.ext {E : En} {a : Act} {E' E'' : En} {a' : Act} {rs : List Nat} (h : Df E a E' a' rs) (x : Ext E' E'') : Df E a E'' a' rs :=
  ⟨h.eq, h.nodup, fun r hr => by
    obtain ⟨h1, h2, h3⟩ := h.at_ r hr
    obtain ⟨k1, k2⟩ := x.old r (Array.getElem?_eq_some_iff.1 h2).1 h3
    exact ⟨h1, k2.trans h2, k1⟩⟩
theorem Df.trans {E : En} {a : Act} {E' E'' : En} {a' a'' : Act} {rs rs' : List Nat} (h : Df E a E' a' rs) (k : Df E' a' E'' a'' rs') (x : Ext E E') (y : Ext E' E'') : Df E a E'' a'' (rs' ++ rs) := by
  have h' := h.ext y
  refine ⟨by rw [k.eq, h.eq]; simp [dfr], ?_, fun r hr => ?_⟩
  · rw [List.nodup_append]
    refine ⟨k.nodup, h.nodup, fun r hr s hs e => ?_⟩
    subst e
    have h1 := (k.at_ r hr).1
    have h2 := (Array.getElem?_eq_some_iff.1 (h.at_ r hs).2.1).1
    omega
  · rcases List.mem_append.1 hr with hr | hr
    · obtain ⟨k1, k2, k3⟩ := k.at_ r hr
      exact ⟨Nat.le_trans x.size k1, k2, k3⟩
    · exact h'.at_ r hr

/-! A block of deferred calls is taken. -/
def En.taken (E : En) (r : Nat) : En := { E with w := { E.w with heap := E.w.heap.setIfInBounds r (.deferred none) } }
theorem taken_heap {E : En} {r b : Nat} (h : b ≠ r) : (E.taken r).w.heap[b]? = E.w.heap[b]? := by simp [En.taken, Ne.symm h]
theorem taken_bs {E : En} {r b : Nat} (h : b ≠ r) : (E.taken r).bs b = E.bs b := bs_of_heap (taken_heap h)
theorem taken_W {E : En} {r : Nat} (h : MI pol E) (hr : E.w.heap[r]? = some (.deferred (some []))) (hl : ¬ E.live r) : ExtW E (E.taken r) := by
  refine ⟨fun b hb ⟨c, t, fz, hc⟩ => ⟨hb, taken_heap ?_⟩, fun id o ho => ⟨o, ho, keeps.refl o, fun _ => ⟨rfl, fun B p hB => taken_bs ?_⟩⟩⟩
  · rintro rfl; rw [hr] at hc; cases hc
  · rintro rfl; exact hl ⟨id, p, hB⟩
theorem MapR.monoW {E E' : En} (x : ExtW E E') {es ents} (h : MapR E es ents) : MapR E' es ents :=
  ⟨h.1, fun i e y he hy => let ⟨a, b, c⟩ := h.2 i e y he hy; ⟨a, b, Rep.monoW x _ _ c⟩⟩
theorem ObR.monoW {E E' : En} (x : ExtW E E') {o B p} (hh : E'.w.heap[B]? = E.w.heap[B]?) (h : ObR E o B p) : ObR E' o B p := by
  cases o with
  | cells v cs => simp only [ObR] at h ⊢; obtain ⟨c, t, fz, us, h1, h2, h3, h4⟩ := h; exact ⟨c, t, fz, us, hh.trans h1, h2, RepL.monoW x _ _ h3, h4⟩
  | map es => simp only [ObR] at h ⊢; obtain ⟨ents, clock, h1, h2⟩ := h; exact ⟨ents, clock, hh.trans h1, h2.monoW x⟩
  | loop st pd ts ps as bd => simp only [ObR] at h ⊢; obtain ⟨l, us, h1, h2, h3, h4, h5, h6, h7, h8⟩ := h; exact ⟨l, us, hh.trans h1, h2, h3, h4, h5, h6, h7, RepL.monoW x _ _ h8⟩
  | iter s k => simp only [ObR] at h ⊢; exact hh.trans h
theorem taken_mi {E : En} {r : Nat} (h : MI pol E) (hr : E.w.heap[r]? = some (.deferred (some []))) (hl : ¬ E.live r) : MI pol (E.taken r) := by
  have x := taken_W h hr hl
  refine ⟨h.len, h.inj, fun id o ho => ?_, fun g cs hg => (h.glob g cs hg).monoW x⟩
  obtain ⟨B, p, hB, ho'⟩ := h.ob id o ho
  exact ⟨B, p, hB, ho'.monoW x (taken_heap (by rintro rfl; exact hl ⟨id, p, hB⟩))⟩
theorem taken_ext {E0 E : En} {r : Nat} (x : Ext E0 E) (h0 : E0.w.heap.size ≤ r) (h : MI pol E) (hl : ¬ E.live r) : Ext E0 (E.taken r) := by
  refine ⟨x.os, x.tape, x.output, by simpa [En.taken] using x.size, fun b hb hlb => ?_, fun id o ho => ?_⟩
  · obtain ⟨k1, k2⟩ := x.old b hb hlb
    exact ⟨k1, (taken_heap (by omega)).trans k2⟩
  · obtain ⟨o', h1, h2, h3⟩ := x.ob id o ho
    refine ⟨o', h1, h2, fun hs => ⟨(h3 hs).1, fun B p hB => ?_⟩⟩
    rw [taken_bs]
    · exact (h3 hs).2 B p hB
    · rintro rfl
      exact hl ⟨id, p, (h3 hs).1.trans hB⟩
/-- A frame that returns. -/
def fatR (b : Frame) (a : Act) (k : List Item) : Frame := { fn := b.fn, tmps := a.tmps, todo := k, defers := a.defers, mode := .returning, kind := b.kind, roundOf := b.roundOf }
theorem st_take {b : Frame} {a : Act} {k : List Item} {cs : List Frame} {E : En} {r : Nat} {ds : List Deferred} (hd : a.defers = { target := .collected r, args := #[] } :: ds) (hr : E.w.heap[r]? = some (.deferred (some []))) :
    step P (lone (fatR b a k) cs E.w) = .next (lone (fatR b { a with defers := ds } k) cs (E.taken r).w) := by
  have ht : (Instr.takeDeferred r).run P E.w = .ok [] (E.taken r).w := by
    simp [Instr.takeDeferred, getObj, setObj, Sem.run, hr, En.taken]
  refine step_lone_go ?_
  simp [stepG, unwind, fatR, hd, ht]
/-- The deferred calls of a frame that returns: all of them are marks of loops. -/
theorem unwind_steps {E0 : En} {b : Frame} {k : List Item} {cs : List Frame} : ∀ (rs : List Nat) {E : En} {a : Act} (x : Ext E0 E) (h : MI pol E), rs.Nodup → a.defers = dfr rs → (∀ r ∈ rs, E0.w.heap.size ≤ r ∧ E.w.heap[r]? = some (.deferred (some [])) ∧ ¬ E.live r) →
    ∃ E', Steps P (lone (fatR b a k) cs E.w) (lone (fatR b { a with defers := [] } k) cs E'.w) ∧ E'.m = E.m ∧ E'.β = E.β ∧ Ext E0 E' ∧ MI pol E' ∧ ExtW E E'
  | [], E, a, x, h, _, hd, _ => ⟨E, by
      have : a = { a with defers := [] } := by cases a; simp [dfr] at hd; subst hd; rfl
      rw [← this]; exact Steps.refl _ _, rfl, rfl, x, h, (Ext.refl E).toW⟩
  | r :: rs, E, a, x, h, hn, hd, hat => by
    obtain ⟨h1, h2, h3⟩ := hat r (by simp)
    simp only [List.nodup_cons] at hn
    have hs := st_take (P := P) (b := b) (k := k) (cs := cs) (ds := dfr rs) (by simpa [dfr] using hd) h2
    obtain ⟨E', k1, k2, k3, k4, k5, k6⟩ := unwind_steps rs (E := E.taken r) (a := { a with defers := dfr rs }) (taken_ext x h1 h h3) (taken_mi h h2 h3) hn.2 rfl (fun s hsr => by
      obtain ⟨j1, j2, j3⟩ := hat s (by simp [hsr])
      exact ⟨j1, (taken_heap (by rintro rfl; exact hn.1 hsr)).trans j2, j3⟩)
    refine ⟨E', .head hs k1, k2, k3, k4, k5, ?_⟩
    have w1 := taken_W h h2 h3
    refine ⟨fun b' hb hc => ?_, fun id o ho => ?_⟩
    · obtain ⟨m1, m2⟩ := w1.old b' hb hc
      obtain ⟨c, t, fz, hc'⟩ := hc
      obtain ⟨m3, m4⟩ := k6.old b' m1 ⟨c, t, fz, m2.trans hc'⟩
      exact ⟨m3, m4.trans m2⟩
    · refine ⟨o, by rw [k2]; exact ho, keeps.refl o, fun _ => ⟨by rw [k3]; rfl, fun B p hB => ?_⟩⟩
      obtain ⟨o', q1, q2, q3⟩ := k6.ob id o ho
      have : o' = o := by rw [k2] at q1; have := q1.symm.trans ho; cases this; rfl
      subst this
      have q4 := (q3 (by cases o' <;> simp [sameVer])).2 B p hB
      rw [q4]
      exact taken_bs (by rintro rfl; exact h3 ⟨id, p, hB⟩)

/-! Results. -/
theorem loadVar_ok {E : En} (hM : MI pol E) {t : TypeId} {id ver off n : Nat} {ag : Bool} {en : Env} {v : AV} {m' : Mem} {a : Addr} (hs : szOf P t = some n) (hg : aggOf P t = some ag)
    (hp : perform en (.load id ver off n ag) E.m = some (v, m')) (hr : Rep E (.ptr id ver off) (.pointer (some a))) : ∃ u, (loadVar t a).run P E.w = .ok u E.w ∧ Rep E v u := by
  cases ag with
  | true =>
    simp only [perform, Option.map_eq_some_iff] at hp
    obtain ⟨cs, hcs, he⟩ := hp
    cases he
    obtain ⟨us, h1, h2, h3, h4⟩ := rd_ok hM hcs hr
    exact ⟨.agg us.toArray, run_loadVar_agg hg (by rw [hs, ← h1.length, h3]) h4, by simp only [Rep]; exact ⟨us, rfl, h2, h1⟩⟩
  | false =>
    simp only [perform, lget_eq] at hp
    split at hp
    case h_2 => cases hp
    rename_i v' cs' hm
    split at hp
    case isFalse => cases hp
    rename_i hv
    subst hv
    simp only [Option.map_eq_some_iff] at hp
    obtain ⟨c, hc, he⟩ := hp
    cases he
    simp only [Rep] at hr
    obtain ⟨a', ha', ver', cs'', hm', hle, hv⟩ := hr
    cases ha'
    rw [hm] at hm'; cases hm'
    obtain ⟨B, p, hB, rfl⟩ := hv rfl
    obtain ⟨c', t', fz, us, h1, h2, h3, h4, _⟩ := obj_cells hM hm hB
    obtain ⟨u, hu, hru⟩ := h3.get hc
    exact ⟨u, run_loadVar_leaf hg (by simp [cell_of h1, h4 _ _ hu]), hru⟩
def resF (a : Act) : ResultVar → Sem Value
  | .tmp t => pure (a.tmps.getD t undef)
  | .cell c t => do loadVar t (← asAddr (a.tmps.getD c undef))
theorem results_eq (fn : Func) (a : Act) : results fn a.tmps = (fn.results.mapM (resF a)) >>= fun vs => pure (if h : vs.size = 1 then vs[0] else .tuple vs) := by
  unfold results
  congr 2
theorem results_run {E : En} {st : St} {a : Act} (hI : FI pol E st a) {fn : Func} {vs : List AV} (h : resultsA P st fn.results.toList = some vs) : ∃ u, (results fn a.tmps).run P E.w = .ok u E.w ∧ Rep E (oneOrTup vs) u := by
  have tget : ∀ t v, lget st.tmps t = some v → Rep E v (a.tmps.getD t undef) := by
    intro t v hv
    rw [lget_eq] at hv
    obtain ⟨u, hu, hr⟩ := (hI.fr.get t).1 v hv
    have : a.tmps.getD t undef = u := by simp [Array.getD]; obtain ⟨h1, h2⟩ := Array.getElem?_eq_some_iff.1 hu; simp [h1, h2]
    rw [this]; exact hr
  have key : ∀ (l : List ResultVar) (vs : List AV), resultsA P st l = some vs → ∃ us, (l.mapM (resF a)).run P E.w = .ok us E.w ∧ RepL E vs us := by
    intro l
    induction l with
    | nil => intro vs h; simp only [resultsA, Option.some.injEq] at h; subst h; exact ⟨[], rfl, RepL.nil⟩
    | cons x l ih =>
      intro vs h
      cases x with
      | tmp t =>
        simp only [resultsA] at h
        split at h
        case h_2 => cases h
        rename_i v vs' hv hvs
        cases h
        obtain ⟨us, h1, h2⟩ := ih vs' hvs
        exact ⟨a.tmps.getD t undef :: us, by simp only [List.mapM_cons, Sem.run_bind, resF, Sem.run_pure, Result.andThen_ok, h1], RepL.cons (tget t v hv) h2⟩
      | cell c t =>
        simp only [resultsA] at h
        split at h
        case h_2 => cases h
        rename_i id ver off n ag hc hs hg
        split at h
        case h_2 => cases h
        rename_i v m' vs' hp hvs
        cases h
        obtain ⟨us, h1, h2⟩ := ih vs' hvs
        -- a load, as an operation would do it
        have hr := tget c _ hc
        obtain ⟨ad, had⟩ := ptr_addr hr
        rw [← hI.m] at hp
        rw [had] at hr
        obtain ⟨u, hu1, hu2⟩ := loadVar_ok hI.mi hs hg hp hr
        exact ⟨u :: us, by simp only [List.mapM_cons, Sem.run_bind, resF, had, asAddr, Sem.run_pure, Result.andThen_ok, hu1, h1], RepL.cons hu2 h2⟩
  obtain ⟨us, h1, h2⟩ := key _ _ h
  have hm : (fn.results.mapM (resF a)).run P E.w = .ok us.toArray E.w := by
    rw [Array.mapM_eq_mapM_toList]; simp [h1]
  have hres : (results fn a.tmps).run P E.w = .ok (if h : us.toArray.size = 1 then us.toArray[0] else .tuple us.toArray) E.w := by
    rw [results_eq, Sem.run_bind, hm]; rfl
  refine ⟨_, hres, ?_⟩
  have hlen := h2.length
  by_cases h1 : us.toArray.size = 1
  · rw [dif_pos h1]
    obtain ⟨u, rfl⟩ : ∃ u, us = [u] := by
      cases us with
      | nil => simp at h1
      | cons u us => cases us with
        | nil => exact ⟨u, rfl⟩
        | cons _ _ => simp at h1
    obtain ⟨v, rfl⟩ : ∃ v, vs = [v] := by
      cases vs with
      | nil => simp at hlen
      | cons v vs => cases vs with
        | nil => exact ⟨v, rfl⟩
        | cons _ _ => simp at hlen
    simp only [RepL] at h2
    obtain ⟨u', us', he, hr, _⟩ := h2
    cases he
    exact hr
  · rw [dif_neg h1]
    have : oneOrTup vs = .tup vs := by
      cases vs with
      | nil => rfl
      | cons v vs => cases vs with
        | nil => simp at hlen h1; omega
        | cons _ _ => rfl
    rw [this]; simp only [Rep]; exact ⟨us, rfl, h2⟩
end Go.Proofs.YtcmjidnbbfcbjaaGreatDoor.V
/- Calls of functions and of loops' bodies in the machine; no condition. -/
namespace Go.Proofs.YtcmjidnbbfcbjaaGreatDoor.V
open Go
set_option linter.unusedVariables false
set_option linter.unusedSimpArgs false
variable {P : Program} {pol : Pol}

def RO (E : En) (b : Frame) : Prop := ∀ l, b.roundOf = some l → ∃ (id p : Nat) (s : LoopState) (pd : Option Code) (ts : List AV) (ps : Array Tmp) (as bd : Code), E.β[id]? = some (l, p) ∧ E.m[id]? = some (.loop s pd ts ps as bd)
theorem loop_ext {E E' : En} (x : Ext E E') {id l p : Nat} (h : E.β[id]? = some (l, p)) {s pd ts ps as bd} (hm : E.m[id]? = some (.loop s pd ts ps as bd)) :
    E'.β[id]? = some (l, p) ∧ ∃ s' pd' ts' ps' as' bd', E'.m[id]? = some (.loop s' pd' ts' ps' as' bd') := by
  obtain ⟨o', h1, h2, h3⟩ := x.ob id _ hm
  cases o' with
  | loop s' pd' ts' ps' as' bd' => exact ⟨(h3 (by simp [sameVer])).1.trans h, s', pd', ts', ps', as', bd', h1⟩
  | cells _ _ => simp [keeps] at h2
  | map _ => simp [keeps] at h2
  | iter _ _ => simp [keeps] at h2
theorem RO.ext {E E' : En} (x : Ext E E') {b : Frame} (h : RO E b) : RO E' b := by
  intro l hl
  obtain ⟨id, p, s, pd, ts, ps, as, bd, h1, h2⟩ := h l hl
  obtain ⟨k1, s', pd', ts', ps', as', bd', k2⟩ := loop_ext x h1 h2
  exact ⟨id, p, s', pd', ts', ps', as', bd', k1, k2⟩
def startItems (c : Code) (k : List Item) : List Item :=
  match c with
  | .loop body => .code body :: .inLoop body :: k
  | c => .code c :: k
def ExOk (P : Program) (pol : Pol) (ex : Env → Code → St → Option (X × St)) : Prop :=
  ∀ en c st x st', ex en c st = some (x, st') → ∀ E a b, FI pol E st a → RO E b → ∀ k cs,
    ∃ E' a' rs, Arr P (lone (fat b a (startItems c k)) cs E.w) b k cs x a' E'.w ∧ FI pol E' st' a' ∧ Ext E E' ∧ Df E a E' a' rs
theorem st_start (c : Code) (b : Frame) (a : Act) (k : List Item) (cs : List Frame) (w : World) : Steps P (lone (fat b a (.code c :: k)) cs w) (lone (fat b a (startItems c k)) cs w) := by
  cases c with
  | loop body => exact .one st_loop
  | _ => exact Steps.refl _ _
theorem ExOk.code {ex} (h : ExOk P pol ex) {en c st x st'} (he : ex en c st = some (x, st')) {E a b} (hI : FI pol E st a) (hR : RO E b) (k cs) :
    ∃ E' a' rs, Arr P (lone (fat b a (.code c :: k)) cs E.w) b k cs x a' E'.w ∧ FI pol E' st' a' ∧ Ext E E' ∧ Df E a E' a' rs := by
  obtain ⟨E', a', rs, h1, h2⟩ := h en c st x st' he E a b hI hR k cs
  exact ⟨E', a', rs, h1.of_steps (st_start c b a k cs E.w), h2⟩

theorem st_end {b : Frame} {a : Act} {cs : List Frame} {w : World} (hb : b.roundOf = none) : step P (lone (fat b a []) cs w) = .next (lone (fatR b a []) cs w) :=
  step_lone_go (by simp [stepG, stepG.exec, fat, fatR, hb])
theorem st_ret {b : Frame} {a : Act} {k : List Item} {cs : List Frame} {w : World} (hb : b.roundOf = none) : step P (lone (fat b a (.code .ret :: k)) cs w) = .next (lone (fatR b a (.code .ret :: k)) cs w) :=
  step_lone_go (by simp [stepG, stepG.exec, fat, fatR, hb])

def ExKeep (ex : Env → Code → St → Option (X × St)) : Prop := ∀ en c st x st', ex en c st = some (x, st') → Keep en st.mem st'.mem

theorem FR.enter {E : En} {args : List AV} {us : List Value} (h : RepL E args us) (n : Nat) : FR E (args ++ List.replicate (n - args.length) und) { tmps := us.toArray ++ Array.replicate (n - us.toArray.size) undef, defers := [] } := by
  refine ⟨us ++ List.replicate (n - us.length) undef, ?_, h.append ?_⟩
  · apply Array.ext'; simp
  · rw [h.length]; exact RepL.replicate _ (und_rep E)

theorem callM_ok {md : Md} {ih : Bn} (hex : ExOk P pol ih.ex) (hkeep : ExKeep ih.ex) (hg : GlobLow pol) {en : Env} {f : FuncId} {args : List AV} {m m' : Mem} {v : AV} (h : callM P md ih en f args m = some (v, m')) {E : En} (hm : E.m = m) (hM : MI pol E) {us : List Value} (hus : RepL E args us) :
    Calls P f us.toArray E.w fun e w' => ∃ u E', e = .returned u ∧ E'.w = w' ∧ E'.m = m' ∧ MI pol E' ∧ Ext E E' ∧ Rep E' v u := by
  intro cs
  unfold callM at h
  split at h
  · cases h
  rename_i fn hfn
  split at h
  · cases h
  rename_i c hc
  simp only [fNat_eq, spine_eq] at h
  split at h
  case h_2 => cases h
  rename_i x st hx
  split at h
  case isFalse => cases h
  rename_i hxr
  split at h
  case h_2 => cases h
  rename_i vs hvs
  -- the callee's frame
  let b : Frame := { (default : Frame) with fn := f, kind := .normal }
  have hb : b.roundOf = none := rfl
  have henter : Frame.enter P f us.toArray .normal = fat b { tmps := us.toArray ++ Array.replicate (fn.ntmps - us.toArray.size) undef, defers := [] } [.code c] := by
    simp [Frame.enter, fat, hfn, hc, b]
    rfl
  have hI : FI pol E ⟨args ++ List.replicate (fn.ntmps - args.length) und, m⟩ { tmps := us.toArray ++ Array.replicate (fn.ntmps - us.toArray.size) undef, defers := [] } := ⟨hm, hM, FR.enter hus _⟩
  obtain ⟨E1, a1, rs, h1, h2, h3, h4⟩ := hex.code hx hI (b := b) (fun l hl => by rw [hb] at hl; cases hl) [] cs
  rw [← henter] at h1
  obtain ⟨kk, hret⟩ : ∃ kk, Steps P (lone (Frame.enter P f us.toArray .normal) cs E.w) (lone (fatR b a1 kk) cs E1.w) := by
    rcases hxr with rfl | rfl
    · exact ⟨[], Steps.trans h1 (.one (st_end hb))⟩
    · obtain ⟨kk, h1⟩ := h1
      exact ⟨_, Steps.trans h1 (.one (st_ret hb))⟩
  obtain ⟨E2, k1, k2, k3, k4, k5, k6⟩ := unwind_steps (P := P) (b := b) (k := kk) (cs := cs) rs h3 h2.mi h4.nodup (by simpa using h4.eq) h4.at_
  have hI2 : FI pol E2 st { a1 with defers := [] } := ⟨k2.trans h2.m, k5, by
    obtain ⟨us', q1, q2⟩ := h2.fr
    exact ⟨us', q1, RepL.monoW k6 _ _ q2⟩⟩
  obtain ⟨u, r1, r2⟩ := results_run (P := P) hI2 hvs
  have hleave : (fatR b { a1 with defers := [] } kk).leaving P E2.w (.returned u) := ⟨rfl, rfl, rfl, fn, hfn, r1⟩
  have hK := hkeep _ _ _ _ _ hx
  have hfin : ∃ E', E'.w = E2.w ∧ E'.m = m' ∧ MI pol E' ∧ Ext E E' ∧ Rep E' v u := by
    have hlow := mi_low hM
    rw [hm] at hlow
    cases md with
    | opn =>
      simp only at h
      cases h
      exact ⟨E2, rfl, hI2.m, k5, k4, r2⟩
    | «mut» =>
      simp only at h hK
      split at h
      case h_2 => cases h
      rename_i v' hv'
      cases h
      have hL := hK.low m.length (by simp) (Nat.le_refl _) hlow
      have hl := hK.len
      rw [← hI2.m] at hL hl hv'
      refine ⟨E2.cut m.length, rfl, by simp only [En.cut]; rw [hI2.m], MI.cut hg k5 hl hL, k4.cut (by rw [hm]), frz_ok k5 _ hv' r2⟩
    | pur =>
      simp only at h hK
      split at h
      case h_2 => cases h
      rename_i v' hv'
      cases h
      have hL := hK.low m.length (by simp) (Nat.le_refl _) hlow
      have hl := hK.len
      have hbar := hK.bar
      simp only at hbar hl
      have htake : st.mem.take m.length = m := by
        apply List.ext_getElem?
        intro i
        by_cases hi : i < m.length
        · rw [List.getElem?_take, if_pos hi]; exact hbar i hi hi
        · rw [List.getElem?_take, if_neg hi, List.getElem?_eq_none (by omega)]
      rw [← hI2.m] at hL hl hv' htake
      exact ⟨E2.cut m.length, rfl, htake, MI.cut hg k5 hl hL, k4.cut (by rw [hm]), frz_ok k5 _ hv' r2⟩
    | cls =>
      simp only at h hK
      split at h
      case h_2 => cases h
      rename_i v' hv'
      cases h
      have hL := hK.low m.length (by simp) (Nat.le_refl _) hlow
      have hl := hK.len
      have hbar := hK.bar
      simp only at hbar hl
      have htake : st.mem.take m.length = m := by
        apply List.ext_getElem?
        intro i
        by_cases hi : i < m.length
        · rw [List.getElem?_take, if_pos hi]; exact hbar i hi hi
        · rw [List.getElem?_take, if_neg hi, List.getElem?_eq_none (by omega)]
      rw [← hI2.m] at hL hl hv' htake
      exact ⟨E2.cut m.length, rfl, htake, MI.cut hg k5 hl hL, k4.cut (by rw [hm]), frz_ok k5 _ hv' r2⟩
  obtain ⟨E', e1, e2, e3, e4, e5⟩ := hfin
  exact ⟨.returned u, E2.w, _, ⟨u, E', rfl, e1, e2, e3, e4, e5⟩, Steps.trans hret k1, rfl, hleave⟩

theorem RepL.frzAll {E : En} (h : MI pol E) {n d : Nat} : ∀ {cs cs' : List AV} {us : List Value}, cs.mapM (frz E.m n d) = some cs' → RepL E cs us → RepL (E.cut n) cs' us
  | [], cs', us, hm, hl => by simp at hm; subst hm; simpa [RepL] using hl
  | c :: cs, cs', us, hm, hl => by
    simp only [RepL] at hl
    obtain ⟨u, us', rfl, h1, h2⟩ := hl
    simp only [List.mapM_cons] at hm
    cases hx : frz E.m n d c with
    | none => simp [hx] at hm
    | some c' =>
      cases hy : cs.mapM (frz E.m n d) with
      | none => simp [hx, hy] at hm
      | some zs => simp [hx, hy] at hm; subst hm; exact RepL.cons (frz_ok h d hx h1) (RepL.frzAll h hy h2)
theorem rep_flat {E E' : En} {v : AV} {u : Value} (hf : flat v = true) (h : Rep E v u) : Rep E' v u := by
  cases v with
  | sc w => simpa [Rep] using h
  | tup vs =>
    simp only [Rep] at h ⊢
    obtain ⟨us, rfl, hl⟩ := h
    refine ⟨us, rfl, ?_⟩
    simp only [flat, List.all_eq_true] at hf
    rw [RepL_iff] at hl ⊢
    refine ⟨hl.1, fun i c w hc hw => ?_⟩
    have h1 := hl.2 i c w hc hw
    have h2 := hf c (List.mem_of_getElem? hc)
    cases c with
    | sc q => simpa [Rep] using h1
    | _ => simp at h2
  | _ => simp [flat] at hf
theorem callF_ok {ih : Bn} (hex : ExOk P pol ih.ex) (hkeep : ExKeep ih.ex) (hg : GlobLow pol) {en : Env} {f : FuncId} (hd : pol.dir f = none) {args : List AV} {m m' : Mem} {v : AV} (h : callF P pol ih en f args m = some (v, m')) {E : En} (hm : E.m = m) (hM : MI pol E) {us : List Value} (hus : RepL E args us) :
    Calls P f us.toArray E.w fun e w' => ∃ u E', e = .returned u ∧ E'.w = w' ∧ E'.m = m' ∧ MI pol E' ∧ Ext E E' ∧ Rep E' v u := by
  unfold callF at h
  rw [hd] at h
  simp only at h
  split at h
  · split at h
    case h_2 => cases h
    rename_i args' hargs
    simp only [spine_eq] at h
    split at h
    case h_2 => cases h
    rename_i v1 m1 hc
    split at h
    case isFalse => cases h
    rename_i hflat
    cases h
    subst hm
    have hM0 : MI pol (E.cut 0) := MI.cut hg hM (Nat.zero_le _) (fun id o hid _ => by omega)
    have hus0 : RepL (E.cut 0) args' us := RepL.frzAll hM hargs hus
    refine (callM_ok hex hkeep hg hc (E := E.cut 0) (by simp [En.cut]) hM0 hus0).mono ?_
    rintro e w' ⟨u, E1, rfl, rfl, _, _, x, hr⟩
    have hnl : ∀ b, ¬ (E.cut 0).live b := by rintro b ⟨id, p, hb⟩; simp [En.cut] at hb
    have hheap : ∀ b, b < E.w.heap.size → E1.w.heap[b]? = E.w.heap[b]? := fun b hb => (x.old b hb (hnl b)).2
    let E' : En := ⟨E1.w, E.β, E.m⟩
    have hblock : ∀ id B p, E.β[id]? = some (B, p) → B < E.w.heap.size := fun id B p hB => by
      have hid : id < E.m.length := by rw [← hM.len]; exact (List.getElem?_eq_some_iff.1 hB).1
      obtain ⟨B', p', hB', ho⟩ := hM.ob id _ (List.getElem?_eq_getElem hid)
      rw [hB] at hB'; cases hB'
      cases hob : E.m[id] with
      | cells v cs => rw [hob] at ho; simp only [ObR] at ho; obtain ⟨c, t, fz, us, h1, _⟩ := ho; exact (Array.getElem?_eq_some_iff.1 h1).1
      | map es => rw [hob] at ho; simp only [ObR] at ho; obtain ⟨c, t, h1, _⟩ := ho; exact (Array.getElem?_eq_some_iff.1 h1).1
      | loop a b c d e f => rw [hob] at ho; simp only [ObR] at ho; obtain ⟨c, t, h1, _⟩ := ho; exact (Array.getElem?_eq_some_iff.1 h1).1
      | iter a b => rw [hob] at ho; simp only [ObR] at ho; exact (Array.getElem?_eq_some_iff.1 ho).1
    have hx : Ext E E' := by
      refine ⟨x.os, x.tape, x.output, x.size, fun b hb hl => ⟨hl, hheap b hb⟩, fun id o ho => ⟨o, ho, keeps.refl o, fun _ => ⟨rfl, fun B p hB => ?_⟩⟩⟩
      simp only [En.bs]
      rw [show E'.w.heap[B]? = E.w.heap[B]? from hheap B (hblock id B p hB)]
    have hM' : MI pol E' := by
      refine ⟨hM.len, hM.inj, fun id o ho => ?_, fun g cs hgc => (hM.glob g cs hgc).mono hx⟩
      obtain ⟨B, p, hB, hr⟩ := hM.ob id o ho
      exact ⟨B, p, hB, hr.monoW hx.toW (hheap B (hblock id B p hB))⟩
    exact ⟨u, E', rfl, rfl, rfl, hM', hx, rep_flat hflat hr⟩
  · exact callM_ok hex hkeep hg h hm hM hus

/-! Rounds of a loop over a function. -/
theorem loop_heap {E : En} (h : MI pol E) {id B p : Nat} {s pd ts ps as bd} (hm : E.m[id]? = some (.loop s pd ts ps as bd)) (hB : E.β[id]? = some (B, p)) :
    ∃ l us, E.w.heap[B]? = some (.loop l) ∧ l.state = s ∧ l.pending = pd ∧ l.params = ps ∧ l.assign = as ∧ l.body = bd ∧ l.tmps = us.toArray ∧ RepL E ts us := by
  obtain ⟨B', p', h1, h2⟩ := h.ob id _ hm
  rw [hB] at h1; cases h1
  exact h2
theorem run_getLoop {w : World} {l : Nat} {L : Loop} (h : w.heap[l]? = some (.loop L)) : (Instr.getLoop l).run P w = .ok L w := by
  simp [Instr.getLoop, getObj, Sem.run, h]
theorem run_setLoop {w : World} {l : Nat} {L L' : Loop} (h : w.heap[l]? = some (.loop L)) : (setObj l (.loop L')).run P w = .ok () { w with heap := w.heap.setIfInBounds l (.loop L') } := by
  simp [setObj, Sem.run, h]
/-- A loop's record written anew. -/
theorem loop_upd {E : En} (hM : MI pol E) {id B p : Nat} {s s' : LoopState} {pd pd' : Option Code} {ts : List AV} {ps : Array Tmp} {as bd : Code} {L : Loop} (hm : E.m[id]? = some (.loop s pd ts ps as bd)) (hB : E.β[id]? = some (B, p)) (hh : E.w.heap[B]? = some (.loop L)) :
    ∃ E', E'.w = { E.w with heap := E.w.heap.setIfInBounds B (.loop { L with state := s', pending := pd' }) } ∧ E'.m = E.m.set id (.loop s' pd' ts ps as bd) ∧ MI pol E' ∧ Ext E E' := by
  have hlt : B < E.w.heap.size := (Array.getElem?_eq_some_iff.1 hh).1
  obtain ⟨l, us, k1, k2, k3, k4, k5, k6, k7, k8⟩ := loop_heap hM hm hB
  rw [hh] at k1; cases k1
  obtain ⟨E', e1, e2, _, e4, e5⟩ := upd_ok hM (o' := .loop s' pd' ts ps as bd) (B' := B) (p' := p) (w' := { E.w with heap := E.w.heap.setIfInBounds B (.loop { L with state := s', pending := pd' }) }) hm hB rfl rfl rfl (by simp)
    (fun b _ hb => by simp [Ne.symm hb]) (.inl rfl) trivial (fun _ => ⟨rfl, rfl, by
      simp only [En.bs, hh]; simp [hlt]⟩) (fun E' x hw => by
      simp only [ObR]
      exact ⟨{ L with state := s', pending := pd' }, us, by rw [hw]; simp [hlt], rfl, rfl, k4, k5, k6, k7, RepL.mono x _ _ k8⟩)
  exact ⟨E', e1, e2, e4, e5⟩
theorem st_begin {b : Frame} {a : Act} {k : List Item} {cs : List Frame} {w : World} {l : Nat} {L : Loop} (hb : b.roundOf = some l) (hh : w.heap[l]? = some (.loop L)) (hs : L.state = .ready) :
    step P (lone (fat b a (.beginRound :: k)) cs w) = .next (lone (fat b a k) cs { w with heap := w.heap.setIfInBounds l (.loop { L with state := .busy }) }) := by
  have hr : (Instr.beginRound l).run P w = .ok () { w with heap := w.heap.setIfInBounds l (.loop { L with state := .busy }) } := by
    unfold Instr.beginRound
    simp [run_getLoop hh, run_setLoop hh, hs]
  refine step_lone_go ?_
  simp [stepG, stepG.exec, fat, hb, stepG.apply, hr, Frame.finish]
theorem run_endRound {w : World} {l : Nat} {L : Loop} (j : Option Code) (hh : w.heap[l]? = some (.loop L)) :
    (Instr.endRound l j).run P w = .ok (.bool j.isNone) { w with heap := w.heap.setIfInBounds l (.loop { L with state := if j.isNone then .ready else .done, pending := j }) } := by
  unfold Instr.endRound
  simp [run_getLoop hh, run_setLoop hh]
theorem st_leave {b : Frame} {a : Act} {todo : List Item} {c : Frame} {cs : List Frame} {w : World} {l : Nat} {L : Loop} {x : X} (hb : b.roundOf = some l) (hk : b.kind = .normal) (hh : w.heap[l]? = some (.loop L))
    (hx : match x with | .normal => todo = [] | .ret => ∃ kk, todo = .code .ret :: kk | .exit id => ∃ kk, todo = .code (.exit id) :: kk ∧ exitTo id kk = none | .goto g => ∃ kk, todo = .code (.goto g) :: kk ∧ gotoIn g kk = none) :
    step P (lone (fat b a todo) (c :: cs) w) = .next (lone (c.finish (.bool x.jump.isNone)) cs { w with heap := w.heap.setIfInBounds l (.loop { L with state := if x.jump.isNone then .ready else .done, pending := x.jump }) }) := by
  have hr := run_endRound (P := P) x.jump hh
  refine step_lone_go ?_
  cases x with
  | normal => subst hx; simp only [X.jump] at hr; simp [stepG, stepG.exec, fat, hb, hk, hr, doReturn, X.jump]
  | ret => obtain ⟨kk, rfl⟩ := hx; simp only [X.jump] at hr; simp [stepG, stepG.exec, fat, hb, hk, hr, doReturn, X.jump]
  | exit id => obtain ⟨kk, rfl, he⟩ := hx; simp only [X.jump] at hr; simp [stepG, stepG.exec, fat, hb, hk, he, hr, doReturn, X.jump]
  | goto g => obtain ⟨kk, rfl, he⟩ := hx; simp only [X.jump] at hr; simp [stepG, stepG.exec, fat, hb, hk, he, hr, doReturn, X.jump]
theorem setMany_rep {E : En} : ∀ {ps : List Tmp} {args : List AV} {us : List Value} {ts : List AV} {ds : Array Value} {dl : List Value}, ds = dl.toArray → RepL E ts dl → RepL E args us →
    ∃ dl', (ps.zip us).foldl (fun (tmps : Array Value) (x : Tmp × Value) => tmps.setIfInBounds x.1 x.2) ds = dl'.toArray ∧ RepL E (setMany ts (ps.zip args)) dl'
  | [], args, us, ts, ds, dl, hd, ht, ha => ⟨dl, by simpa using hd, by simpa [setMany] using ht⟩
  | p :: ps, [], us, ts, ds, dl, hd, ht, ha => by simp only [RepL] at ha; subst ha; exact ⟨dl, by simpa using hd, by simpa [setMany] using ht⟩
  | p :: ps, v :: args, us, ts, ds, dl, hd, ht, ha => by
    simp only [RepL] at ha
    obtain ⟨u, us', rfl, h1, h2⟩ := ha
    simp only [List.zip_cons_cons, List.foldl_cons, setMany]
    exact setMany_rep (dl := dl.set p u) (by rw [hd]; simp) (ht.set p h1) h2

theorem callY_ok {ih : Bn} (hex : ExOk P pol ih.ex) {en : Env} {id : Nat} {args : List AV} {m m' : Mem} {v : AV} (h : callY ih en id args m = some (v, m')) {E : En} (hm : E.m = m) (hM : MI pol E) {us : List Value} (hus : RepL E args us) {B p : Nat} (hB : E.β[id]? = some (B, p)) :
    ∃ nx fr, (goFn (.yield B) us.toArray).run P E.w = .ok nx E.w ∧ Enters P nx fr ∧
      ∀ c cs, ∃ E' u, Steps P (lone fr (c :: cs) E.w) (lone (c.finish u) cs E'.w) ∧ E'.m = m' ∧ MI pol E' ∧ Ext E E' ∧ Rep E' v u := by
  unfold callY at h
  split at h
  case isFalse => cases h
  split at h
  case h_2 => cases h
  rename_i pd ts ps as bd hml
  split at h
  case isFalse => cases h
  rename_i hlen
  rw [spine_eq] at h
  split at h
  case h_2 => cases h
  rename_i st1 hx1
  split at h
  case h_2 => cases h
  rename_i p2 t2 pa2 a2 b2 hm1
  rw [lsetK_eq] at h
  split at h
  case h_2 => cases h
  rename_i x st3 hx3
  split at h
  case h_2 => cases h
  rename_i s3 pd3 t3 pa3 a3 b3 hm3
  rw [lsetK_eq] at h
  cases h
  rw [lget_eq] at hml hm1 hm3
  rw [← hm] at hml
  obtain ⟨L, tl, l1, l2, l3, l4, l5, l6, l7, l8⟩ := loop_heap hM hml hB
  obtain ⟨dl, d1, d2⟩ := setMany_rep (ps := ps.toList) l7 l8 hus
  have hyield : (Instr.yield B us.toArray).run P E.w = .ok (.round B L.fn dl.toArray L.assign L.body) E.w := by
    unfold Instr.yield
    have hsz : us.length = L.params.size := by rw [l4, ← hlen, hus.length]
    have hz : (L.params.zip us.toArray).foldl (fun tmps (x : Tmp × Value) => tmps.setIfInBounds x.1 x.2) L.tmps = dl.toArray := by
      rw [← d1, ← l4, ← Array.foldl_toList, Array.toList_zip]
    simp only [Sem.run_bind, run_getLoop l1, Result.andThen_ok]
    rw [if_neg (by simpa using hsz)]
    simp only [Sem.run_pure]
    rw [hz]
  refine ⟨_, _, hyield, rfl, fun c cs => ?_⟩
  let b : Frame := { (default : Frame) with fn := L.fn, kind := .normal, roundOf := some B }
  have hround : Frame.round B L.fn dl.toArray L.assign L.body .normal = fat b { tmps := dl.toArray, defers := [] } [.code as, .beginRound, .code bd] := by
    simp [Frame.round, fat, b, l5, l6]
  rw [hround]
  have hRO : RO E b := fun l hl => by cases hl; exact ⟨id, p, _, _, _, _, _, _, hB, hml⟩
  have hI : FI pol E ⟨setMany ts (ps.toList.zip args), m⟩ { tmps := dl.toArray, defers := [] } := ⟨hm, hM, ⟨dl, rfl, d2⟩⟩
  obtain ⟨E1, a1, rs1, f1, f2, f3, f4⟩ := hex.code hx1 hI hRO [.beginRound, .code bd] (c :: cs)
  have f1 : Steps P _ (lone (fat b a1 [.beginRound, .code bd]) (c :: cs) E1.w) := f1
  obtain ⟨hB1, _⟩ := loop_ext f3 hB hml
  rw [← f2.m] at hm1
  obtain ⟨L1, tl1, g1, g2, g3, g4, g5, g6, g7, g8⟩ := loop_heap f2.mi hm1 hB1
  have hb1 := st_begin (P := P) (b := b) (a := a1) (k := [.code bd]) (cs := c :: cs) (l := B) rfl g1 g2
  obtain ⟨E2, e1, e2, e3, e4⟩ := loop_upd (s' := .busy) (pd' := p2) f2.mi hm1 hB1 g1
  have he1 : E2.w = { E1.w with heap := E1.w.heap.setIfInBounds B (.loop { L1 with state := .busy }) } := by rw [e1, ← g3]
  rw [← he1] at hb1
  have hI2 : FI pol E2 ⟨st1.tmps, st1.mem.set id (.loop .busy p2 t2 pa2 a2 b2)⟩ a1 := ⟨by rw [e2, f2.m], e3, f2.fr.mono e4⟩
  obtain ⟨E3, a3', rs3, i1, i2, i3, i4⟩ := hex.code hx3 hI2 ((hRO.ext f3).ext e4) [] (c :: cs)
  obtain ⟨hB2, _, _, _, _, _, _, hmm2⟩ := loop_ext e4 hB1 hm1
  obtain ⟨hB3, _⟩ := loop_ext i3 hB2 hmm2
  rw [← i2.m] at hm3
  obtain ⟨L3, tl3, j1, j2, j3, j4, j5, j6, j7, j8⟩ := loop_heap i2.mi hm3 hB3
  obtain ⟨E4, q1, q2, q3, q4⟩ := loop_upd (s' := if x.jump.isNone then .ready else .done) (pd' := x.jump) i2.mi hm3 hB3 j1
  have hlast : Steps P (lone (fat b a1 [.code bd]) (c :: cs) E2.w) (lone (c.finish (.bool x.jump.isNone)) cs E4.w) := by
    rw [q1]
    cases x with
    | normal => exact Steps.trans i1 (.one (st_leave (x := .normal) rfl rfl j1 rfl))
    | ret => obtain ⟨kk, i1⟩ := i1; exact Steps.trans i1 (.one (st_leave (x := .ret) rfl rfl j1 ⟨kk, rfl⟩))
    | exit e => obtain ⟨kk, i1, i1'⟩ := i1; exact Steps.trans i1 (.one (st_leave (x := .exit e) rfl rfl j1 ⟨kk, rfl, i1'⟩))
    | goto g => obtain ⟨kk, i1, i1'⟩ := i1; exact Steps.trans i1 (.one (st_leave (x := .goto g) rfl rfl j1 ⟨kk, rfl, i1'⟩))
  refine ⟨E4, .bool x.jump.isNone, Steps.trans f1 (.head hb1 hlast), by rw [q2, i2.m], q3, ((f3.trans e4).trans i3).trans q4, by simp [Rep, scalar]⟩
end Go.Proofs.YtcmjidnbbfcbjaaGreatDoor.V
/- Loops over functions, and all code, in the machine; no condition. -/
namespace Go.Proofs.YtcmjidnbbfcbjaaGreatDoor.V
open Go
set_option linter.unusedVariables false
set_option linter.unusedSimpArgs false
variable {P : Program} {pol : Pol}

/-- The block for the deferred calls of a loop's rounds, and the marks. -/
theorem enterLoop_run {b : Frame} {a : Act} {E : En} (hM : MI pol E) (hR : RO E b) {ts : List AV} (hf : FR E ts a) (params : Array Tmp) (assign body : Code) :
    ∃ (E1 : En) (l : Nat) (mark : List Deferred) (rs : List Nat), (Instr.enterLoop b.fn a.tmps params assign body b.roundOf).run P E.w = .ok (l, mark) E1.w ∧
      E1.m = E.m ++ [.loop .ready none ts params assign body] ∧ MI pol E1 ∧ Ext E E1 ∧ E1.β[E.m.length]? = some (l, 0) ∧ mark = dfr rs ∧ rs.Nodup ∧ (∀ r ∈ rs, E.w.heap.size ≤ r ∧ E1.w.heap[r]? = some (.deferred (some [])) ∧ ¬ E1.live r) := by
  obtain ⟨us, hu, hl⟩ := hf
  have mk : ∀ (F : En) (D : Nat), MI pol F → Ext E F → F.m = E.m → ∃ E1 : En, E1.w = (F.push (.loop { state := .ready, pending := none, fn := b.fn, tmps := a.tmps, params, assign, body, defers := D })).w ∧
      E1.m = E.m ++ [.loop .ready none ts params assign body] ∧ E1.β = F.β ++ [(F.w.heap.size, 0)] ∧ MI pol E1 ∧ Ext F E1 := by
    intro F D hF x hm
    obtain ⟨E1, h1, h2, h3, h4, h5⟩ := new_ok hF (.loop { state := .ready, pending := none, fn := b.fn, tmps := a.tmps, params, assign, body, defers := D }) (.loop .ready none ts params assign body) (fun E' y hw => by
      simp only [ObR]
      exact ⟨{ state := .ready, pending := none, fn := b.fn, tmps := a.tmps, params, assign, body, defers := D }, us, by rw [hw]; simp only [En.push, Array.getElem?_push_size], rfl, rfl, rfl, rfl, rfl, hu, RepL.mono (x.trans y) _ _ hl⟩)
    exact ⟨E1, h1, by rw [h2, hm], h3, h4, h5⟩
  cases hr : b.roundOf with
  | none =>
    have x0 := push_ext hM (.deferred (some []))
    have hM0 := push_mi hM (.deferred (some []))
    obtain ⟨E1, h1, h2, h3, h4, h5⟩ := mk (E.push (.deferred (some []))) E.w.heap.size hM0 x0 rfl
    have hD : (E.push (.deferred (some []))).w.heap[E.w.heap.size]? = some (.deferred (some [])) := by simp only [En.push, Array.getElem?_push_size]
    have hlt : E.w.heap.size < (E.push (.deferred (some []))).w.heap.size := by simp [En.push]
    have hnl : ¬ (E.push (.deferred (some []))).live E.w.heap.size := not_live_new hM
    obtain ⟨k1, k2⟩ := h5.old _ hlt hnl
    refine ⟨E1, E.w.heap.size + 1, dfr [E.w.heap.size], [E.w.heap.size], ?_, h2, h4, x0.trans h5, ?_, rfl, by simp, ?_⟩
    · unfold Instr.enterLoop
      simp [dfr, h1, En.push]
      rfl
    · rw [h3, ← hM.len]; simp [En.push]
    · intro r hr'
      simp at hr'; subst hr'
      exact ⟨Nat.le_refl _, k2.trans hD, k1⟩
  | some l0 =>
    obtain ⟨id, p, s, pd, ts', ps, as, bd, hB, hm⟩ := hR l0 hr
    obtain ⟨L, tl, g1, _⟩ := loop_heap hM hm hB
    obtain ⟨E1, h1, h2, h3, h4, h5⟩ := mk E L.defers hM (Ext.refl E) rfl
    refine ⟨E1, E.w.heap.size, [], [], ?_, h2, h4, h5, ?_, rfl, List.nodup_nil, fun r hr => by simp at hr⟩
    · unfold Instr.enterLoop
      simp [run_getLoop g1, h1, En.push]
    · rw [h3, ← hM.len]; simp
theorem st_rangeFunc {b : Frame} {a : Act} {k : List Item} {cs : List Frame} {w w1 w2 : World} {f : Operand} {params : Array Tmp} {assign body : Code} {l : Nat} {mark : List Deferred} {g : FuncId} {us vs : Array Value} {nx : Next} {fr : Frame}
    (he : (Instr.enterLoop b.fn a.tmps params assign body b.roundOf).run P w = .ok (l, mark) w1) (hf : a.eval f = .func (.func g) us vs)
    (hc : (callFunc g (us.push (.func (.yield l) #[] #[]) ++ vs)).run P w1 = .ok nx w2) (hn : Enters P nx fr) :
    step P (lone (fat b a (.code (.rangeFunc f params assign body) :: k)) cs w) = .next (lone fr (fat b { a with defers := mark ++ a.defers } (.inRangeFunc l :: k) :: cs) w2) := by
  have hev : ∀ k', (fat b { a with defers := mark ++ a.defers } k').eval f = .func (.func g) us vs := fun k' => by rw [fat_eval]; exact hf
  have hev' := hev (.inRangeFunc l :: k)
  simp only [fat] at hev'
  refine step_lone_go ?_
  have hop : (do let d ← resolve (fat b { a with defers := mark ++ a.defers } (.inRangeFunc l :: k)).eval { callee := .value f, args := #[.const (.func (.yield l) #[] #[])], argTypes := #[] } 0; invoke d.target d.args : Sem Next) = callFunc g (us.push (.func (.yield l) #[] #[]) ++ vs) := by
    have ha : (#[Operand.const (Value.func (Fn.yield l) #[] #[])].map (fat b { a with defers := mark ++ a.defers } (.inRangeFunc l :: k)).eval) = #[Value.func (Fn.yield l) #[] #[]] := by simp; rfl
    simp only [resolve, ha, hev, Deferred.ofValue, pure_bind, invoke]
    simp
  simp only [fat] at hop
  cases nx with
  | enter f' args => simp only [Enters] at hn; subst hn; simp [stepG, stepG.exec, fat, he, hop, stepG.apply, hc]
  | round l' f' ts as bd => simp only [Enters] at hn; subst hn; simp [stepG, stepG.exec, fat, he, hop, stepG.apply, hc]
  | _ => exact hn.elim
end Go.Proofs.YtcmjidnbbfcbjaaGreatDoor.V
/- All code in the machine, but for the order of drawn regions; no condition. -/
namespace Go.Proofs.YtcmjidnbbfcbjaaGreatDoor.V
open Go
set_option linter.unusedVariables false
set_option linter.unusedSimpArgs false
variable {P : Program} {pol : Pol}

theorem st_endRange {b : Frame} {a : Act} {k : List Item} {cs : List Frame} {w : World} {l : Nat} {L : Loop} (hh : w.heap[l]? = some (.loop L)) (hs : L.state ≠ .busy) :
    step P (lone (fat b a (.endRangeFunc l :: k)) cs w) = .next (lone (fat b a ((L.pending.map Item.code).toList ++ k)) cs { w with heap := w.heap.setIfInBounds l (.loop { L with state := .exhausted }) }) := by
  have hb : (L.state == .busy) = false := by simpa using hs
  have hr : (Instr.endLoop l).run P w = .ok L.pending { w with heap := w.heap.setIfInBounds l (.loop { L with state := .exhausted }) } := by
    unfold Instr.endLoop
    simp [run_getLoop hh, run_setLoop hh, hs]
  refine step_lone_go ?_
  simp [stepG, stepG.exec, fat, hr]

structure GoodP (P : Program) (pol : Pol) : Prop where
  ng : ∀ (f : Nat) (fn : Func), P.funcs[f]? = some fn → (fn.name == "runtime.NumGoroutine") = false
  mixed : P.follows .mixedOrders = true
  glob : GlobLow pol
  dir : ∀ f d, pol.dir f = some d → DirOk P pol f d
  dirKeep : ∀ f d, pol.dir f = some d → DirKeep d
  alo : ∀ f, pol.alo f = true → (pol.dir f).isSome = true
  qui : ∀ f, pol.qui f = true → ∃ d, pol.dir f = some d ∧ Quiet d

def CallKeep (call : CallT) : Prop := ∀ en fn args m v m', call en fn args m = some (v, m') → Keep en m m'
/-- A call that is run as one that writes nothing gives the store back. -/
structure PureOk (pol : Pol) (call : CallT) : Prop where
  pur : ∀ en f args m v m', pol.mode f = .pur → call en (.func f) args m = some (v, m') → m' = m
  alo : ∀ en f args m v m', pol.alo f = true → call en (.func f) args m = some (v, m') → ∃ o, m' = m ++ [o] ∧ ∀ m2, m2.length = m.length → call en (.func f) args m2 = some (v, m2 ++ [o])
  qui : ∀ en f args m v m', pol.qui f = true → call en (.func f) args m = some (v, m') → m' = m ∧ ∀ en2 m2, call en2 (.func f) args m2 = some (v, m2)
/-- In whatever order the operations of a region are listed, that draws its order. -/
def DrawOk (P : Program) (pol : Pol) : Prop := ∀ (call : CallT), PureOk pol call → CallKeep call → ∀ (en : Env) (ops : Array Oper) (st st' : St) (tr : List (Nat × Req)), runI P pol call en ops.toList (List.range ops.size) st = some (st', tr) → drawStatic ops = true → peace pol st.mem.length ops tr = true →
  ∀ t, ∃ tr', runI P pol call en ops.toList (Region.schedule true ops t) st = some (st', tr')

theorem callM_fn {md : Md} {ih : Bn} {en : Env} {f : FuncId} {args : List AV} {m : Mem} {r : AV × Mem} (h : callM P md ih en f args m = some r) : ∃ fd c, P.funcs[f]? = some fd ∧ fd.body = some c := by
  unfold callM at h
  split at h
  · cases h
  rename_i fd hfd
  split at h
  · cases h
  rename_i c hc
  exact ⟨fd, c, hfd, hc⟩
theorem callF_fn {ih : Bn} {en : Env} {f : FuncId} (hd : pol.dir f = none) {args : List AV} {m : Mem} {r : AV × Mem} (h : callF P pol ih en f args m = some r) : ∃ fd c, P.funcs[f]? = some fd ∧ fd.body = some c := by
  unfold callF at h
  rw [hd] at h
  simp only at h
  split at h
  · split at h
    case h_2 => cases h
    simp only [spine_eq] at h
    split at h
    case h_2 => cases h
    rename_i hc
    exact callM_fn hc
  · exact callM_fn h
theorem call_ok {ih : Bn} (hG : GoodP P pol) (hex : ExOk P pol ih.ex) (hkeep : ExKeep ih.ex) : CallOk P pol (stepV P pol ih).call := by
  intro en fn args m v m' h E hm hM us hus g hg
  cases fn with
  | func f =>
    simp only [FnR] at hg
    subst hg
    simp only [stepV] at h
    cases hd : pol.dir f with
    | some d =>
      have h' : d en args m = some (v, m') := by unfold callF at h; rw [hd] at h; exact h
      rcases (hG.dir f d hd).ok en args m v m' h' E hm hM us hus with k | k
      · exact .inl k
      · exact .inr ⟨⟨f, d, rfl, hd⟩, k⟩
    | none =>
    refine .inl ?_
    have hC := callF_ok hex hkeep hG.glob hd h hm hM hus
    have hcf : (callFunc f us.toArray).run P E.w = .ok (.enter f us.toArray) E.w := by
      obtain ⟨fd, c, hfd, hc⟩ := callF_fn hd h
      have hng := hG.ng f fd hfd
      unfold callFunc
      simp [hfd, hc]
      intro e; rw [e] at hng; simp at hng
    refine ⟨.enter f us.toArray, _, hcf, rfl, fun c cs => ?_⟩
    obtain ⟨e, w', fr, ⟨u, E', he, h1, h2, h3, h4, h5⟩, hsteps, _, hleave⟩ := hC (c :: cs)
    subst he
    refine ⟨E', u, ?_, h2, h3, h4, h5⟩
    rw [h1]
    exact Steps.trans hsteps (.one (step_leave_returned hleave))
  | yield id =>
    simp only [FnR] at hg
    obtain ⟨B, p, s, pd, ts, ps, as, bd, hB, _, rfl⟩ := hg
    simp only [stepV] at h
    exact .inl (callY_ok hex h hm hM hus hB)
  | method _ => exact hg.elim
  | methodOf _ _ => exact hg.elim
  | via _ _ _ _ => exact hg.elim

theorem ex_ok {ih : Bn} (hG : GoodP P pol) (hD : DrawOk P pol) (hcall : CallOk P pol ih.call) (hpure : PureOk pol ih.call) (hck : CallKeep ih.call) (hex : ExOk P pol ih.ex) : ExOk P pol (stepV P pol ih).ex := by
  intro en c st x st' h E a b hI hR k cs
  simp only [stepV] at h
  cases c with
  | skip => cases h; exact ⟨E, a, [], .one st_skip, hI, Ext.refl E, Df.same rfl⟩
  | label l => cases h; exact ⟨E, a, [], .one st_label, hI, Ext.refl E, Df.same rfl⟩
  | region id ops draw =>
    simp only at h
    cases draw with
    | false =>
      simp only [Bool.false_eq_true, if_false, Option.map_eq_some_iff] at h
      obtain ⟨st1, h1, h2⟩ := h
      cases h2
      obtain ⟨E', a', s1, s2, s3, s4⟩ := runL_steps hcall h1 hI b k cs id
      exact ⟨E', a', [], s1, s2, s3, Df.same s4⟩
    | true =>
      simp only [if_true] at h
      split at h
      case h_2 => cases h
      rename_i st1 tr h1
      split at h
      case isFalse => cases h
      rename_i hc
      cases h
      simp only [Bool.and_eq_true] at hc
      obtain ⟨tr', ht⟩ := hD _ hpure hck _ _ _ _ _ h1 hc.1 hc.2 (E.w.tape E.w.drawn (.order b.fn id))
      have hI' : FI pol { E with w := { E.w with drawn := E.w.drawn + 1 } } st a := ⟨hI.m, drew_mi hI.mi _, hI.fr.mono (drew_ext _)⟩
      obtain ⟨E', a', s1, s2, s3, s4⟩ := runI_steps hcall _ ht hI' b k cs
      refine ⟨E', a', [], .head ?_ s1, s2, (drew_ext _).trans s3, Df.same s4⟩
      show step P (lone (fat b a (.code (.region id ops true) :: k)) cs E.w) = _
      rw [st_region_draw, hG.mixed]
  | seq y z =>
    simp only at h
    split at h
    · rename_i st1 h1
      obtain ⟨E1, a1, rs1, s1, s2, s3, s4⟩ := hex.code h1 hI hR (.code z :: k) cs
      obtain ⟨E2, a2, rs2, t1, t2, t3, t4⟩ := hex.code h s2 (hR.ext s3) k cs
      exact ⟨E2, a2, rs2 ++ rs1, t1.of_steps (.head st_seq s1), t2, s3.trans t3, s4.trans t4 s3 t3⟩
    · rename_i hn
      obtain ⟨E1, a1, rs1, s1, s2, s3, s4⟩ := hex.code h hI hR (.code z :: k) cs
      have hx : x ≠ .normal := by rintro rfl; exact hn st' h
      exact ⟨E1, a1, rs1, (s1.pass (y := .code z) rfl hx).of_steps (.one st_seq), s2, s3, s4⟩
  | cond c y z =>
    simp only at h
    split at h
    case h_2 => cases h
    rename_i t hc
    have hcv := rep_bool ((opnd_ok hI.mi hI.fr) c _ hc)
    obtain ⟨E1, a1, rs1, s1, s2, s3, s4⟩ := hex.code h hI hR k cs
    exact ⟨E1, a1, rs1, s1.of_steps (.one (st_cond hcv)), s2, s3, s4⟩
  | block id y =>
    simp only at h
    split at h
    · rename_i i st1 h1
      obtain ⟨E1, a1, rs1, s1, s2, s3, s4⟩ := hex.code h1 hI hR (.inBlock id :: k) cs
      obtain ⟨kk, s1, s1'⟩ := s1
      simp only [Option.some.injEq, Prod.mk.injEq] at h
      obtain ⟨rfl, rfl⟩ := h
      refine ⟨E1, a1, rs1, ?_, s2, s3, s4⟩
      by_cases he : i = id
      · rw [if_pos he]
        exact Steps.head st_block (s1.trans (.one (st_exit (by rw [s1']; simp [exitTo, he]))))
      · rw [if_neg he]
        refine ⟨kk, Steps.head st_block s1, s1'.trans ?_⟩
        have : (id == i) = false := by simp; exact fun h => he h.symm
        simp [exitTo, this]
    · rename_i hn
      obtain ⟨E1, a1, rs1, s1, s2, s3, s4⟩ := hex.code h hI hR (.inBlock id :: k) cs
      refine ⟨E1, a1, rs1, ?_, s2, s3, s4⟩
      cases x with
      | normal => exact Steps.head st_block (Steps.trans s1 (.one st_inBlock))
      | exit i => exact (hn i st' h).elim
      | goto l => obtain ⟨kk, s1, s1'⟩ := s1; exact ⟨kk, Steps.head st_block s1, s1'.trans (by simp [gotoIn])⟩
      | ret => obtain ⟨kk, s1⟩ := s1; exact ⟨kk, Steps.head st_block s1⟩
  | loop y =>
    simp only at h
    split at h
    · rename_i st1 h1
      obtain ⟨E1, a1, rs1, s1, s2, s3, s4⟩ := hex.code h1 hI hR (.inLoop y :: k) cs
      obtain ⟨E2, a2, rs2, t1, t2, t3, t4⟩ := hex en (.loop y) st1 x st' h E1 a1 b s2 (hR.ext s3) k cs
      exact ⟨E2, a2, rs2 ++ rs1, t1.of_steps (Steps.trans s1 (.one st_inLoop)), t2, s3.trans t3, s4.trans t4 s3 t3⟩
    · rename_i hn
      obtain ⟨E1, a1, rs1, s1, s2, s3, s4⟩ := hex.code h hI hR (.inLoop y :: k) cs
      have hx : x ≠ .normal := by rintro rfl; exact hn st' h
      exact ⟨E1, a1, rs1, s1.pass (y := .inLoop y) rfl hx, s2, s3, s4⟩
  | rangeFunc f params assign body =>
    simp only at h
    split at h
    case h_2 => cases h
    rename_i g first cap hf
    split at h
    · cases h
    rename_i hdn
    rw [fNat_eq, spine_eq] at h
    split at h
    case h_2 => cases h
    rename_i v2 m2 hc2
    split at h
    case h_2 => cases h
    rename_i s p t pa as bd hm2
    split at h
    · cases h
    rename_i hs
    rw [lget_eq] at hm2
    have hfr := (opnd_ok hI.mi hI.fr) f _ hf
    simp only [Rep] at hfr
    obtain ⟨us, vs, hus, hvs, hfv⟩ := hfr
    obtain ⟨E1, l, mark, rs, e1, e2, e3, e4, e5, e6, e7, e8⟩ := enterLoop_run (P := P) hI.mi hR hI.fr params assign body
    have hyr : Rep E1 (.clo (.yield st.mem.length) [] []) (.func (.yield l) #[] #[]) := by
      simp only [Rep]
      exact ⟨[], [], RepL.nil, RepL.nil, l, 0, .ready, none, st.tmps, params, assign, body, by rw [← hI.m]; exact e5, by rw [e2, hI.m]; simp, rfl⟩
    have hargs : RepL E1 (first ++ [.clo (.yield st.mem.length) [] []] ++ cap) (us ++ [.func (.yield l) #[] #[]] ++ vs) :=
      ((RepL.mono e4 _ _ hus).append (RepL.cons hyr RepL.nil)).append (RepL.mono e4 _ _ hvs)
    obtain ⟨nx, fr, k1, k2, k3⟩ := (hcall en (.func g) _ _ v2 m2 hc2 E1 (by rw [e2, hI.m]) e3 _ hargs (.func g) rfl).resolve_right (by
      rintro ⟨⟨f', d, e, hd⟩, _⟩; cases e; rw [hd] at hdn; exact hdn rfl)
    have hcf : (callFunc g (us.toArray.push (.func (.yield l) #[] #[]) ++ vs.toArray)).run P E1.w = .ok nx E1.w := by
      rw [← k1]; simp only [goFn]; congr 2; apply Array.ext'; simp
    have hst := st_rangeFunc (P := P) (b := b) (a := a) (k := k) (cs := cs) (f := f) e1 hfv hcf k2
    obtain ⟨E2, u, t1, t2, t3, t4, t5⟩ := k3 (fat b { a with defers := mark ++ a.defers } (.inRangeFunc l :: k)) cs
    have hfin : (fat b { a with defers := mark ++ a.defers } (.inRangeFunc l :: k)).finish u = fat b { a with defers := mark ++ a.defers } (.endRangeFunc l :: k) := rfl
    rw [hfin] at t1
    have hmE1 : E1.m[st.mem.length]? = some (.loop .ready none st.tmps params assign body) := by rw [e2, hI.m]; simp
    have hβ1 : E1.β[st.mem.length]? = some (l, 0) := by rw [← hI.m]; exact e5
    obtain ⟨hβ2, _⟩ := loop_ext t4 hβ1 hmE1
    rw [← t2] at hm2
    obtain ⟨L, tl, j1, j2, j3, j4, j5, j6, j7, j8⟩ := loop_heap t3 hm2 hβ2
    have hend := st_endRange (P := P) (b := b) (a := { a with defers := mark ++ a.defers }) (k := k) (cs := cs) j1 (by rw [j2]; exact hs)
    obtain ⟨E3, q1, q2, q3, q4⟩ := loop_upd (s' := .exhausted) (pd' := p) t3 hm2 hβ2 j1
    have hq1 : E3.w = { E2.w with heap := E2.w.heap.setIfInBounds l (.loop { L with state := .exhausted }) } := by rw [q1, ← j3]
    rw [← hq1, j3] at hend
    have hx3 : Ext E E3 := (e4.trans t4).trans q4
    have hI3 : FI pol E3 ⟨st.tmps, E2.m.set st.mem.length (.loop .exhausted p t pa as bd)⟩ { a with defers := mark ++ a.defers } := ⟨q2, q3, by
      obtain ⟨us', r1, r2⟩ := hI.fr.mono hx3; exact ⟨us', r1, r2⟩⟩
    have hdf : Df E a E3 { a with defers := mark ++ a.defers } rs := by
      have h1 : Df E a E1 { a with defers := mark ++ a.defers } rs := ⟨by rw [e6], e7, e8⟩
      exact (h1.ext t4).ext q4
    have hpre : Steps P (lone (fat b a (.code (.rangeFunc f params assign body) :: k)) cs E.w) (lone (fat b { a with defers := mark ++ a.defers } ((p.map Item.code).toList ++ k)) cs E3.w) :=
      .head hst (t1.trans (.one hend))
    rw [← t2] at h
    cases p with
    | none =>
      simp only [lsetK_eq] at h
      cases h
      exact ⟨E3, _, rs, hpre, hI3, hx3, hdf⟩
    | some c =>
      simp only [lsetK_eq] at h
      obtain ⟨E4, a4, rs4, w1, w2, w3, w4⟩ := hex.code h hI3 (hR.ext hx3) k cs
      exact ⟨E4, a4, rs4 ++ rs, w1.of_steps hpre, w2, hx3.trans w3, hdf.trans w4 hx3 w3⟩
  | exit id => cases h; exact ⟨E, a, [], ⟨k, Steps.refl _ _, rfl⟩, hI, Ext.refl E, Df.same rfl⟩
  | goto l => cases h; exact ⟨E, a, [], ⟨k, Steps.refl _ _, rfl⟩, hI, Ext.refl E, Df.same rfl⟩
  | ret => cases h; exact ⟨E, a, [], ⟨k, Steps.refl _ _⟩, hI, Ext.refl E, Df.same rfl⟩
  | scope y =>
    simp only at h
    split at h
    · cases h
    · rename_i hn
      obtain ⟨E1, a1, rs1, s1, s2, s3, s4⟩ := hex.code h hI hR (.inScope y :: k) cs
      refine ⟨E1, a1, rs1, ?_, s2, s3, s4⟩
      cases x with
      | normal => exact Steps.head st_scope (Steps.trans s1 (.one st_inScope))
      | exit i => obtain ⟨kk, s1, s1'⟩ := s1; exact ⟨kk, Steps.head st_scope s1, s1'.trans (by simp [exitTo])⟩
      | goto l => exact (hn l st' h).elim
      | ret => obtain ⟨kk, s1⟩ := s1; exact ⟨kk, Steps.head st_scope s1⟩
  | refuse w => cases h

/-! What is kept. -/
theorem oneOp_keep {call : CallT} (hk : CallKeep call) {en : Env} {o : Oper} {st st' : St} {r : Req} (h : oneOp P pol call en o st = some (st', r)) : Keep en st.mem st'.mem := by
  rw [oneOp_eq] at h
  split at h
  · split at h
    · rename_i hc; cases h; exact hk _ _ _ _ _ _ hc
    · cases h
  · split at h
    · rename_i hp; cases h; exact perform_keep hp
    · cases h
  · cases h
theorem runI_keep {call : CallT} (hk : CallKeep call) {en : Env} {ops : List Oper} : ∀ (l : List Nat) {st st' : St} {tr}, runI P pol call en ops l st = some (st', tr) → Keep en st.mem st'.mem
  | [], st, st', tr, h => by simp only [runI, Option.some.injEq, Prod.mk.injEq] at h; obtain ⟨rfl, _⟩ := h; exact Keep.refl _ _
  | i :: l, st, st', tr, h => by
    simp only [runI] at h
    split at h
    · cases h
    split at h
    · split at h
      case h_2 => cases h
      rename_i st1 r h1
      split at h
      case h_2 => cases h
      rename_i st2 l2 h2
      cases h
      exact (oneOp_keep hk h1).trans (runI_keep hk l h2)
    · rw [putT_eq] at h
      split at h
      case h_2 => cases h
      rename_i st2 l2 h2
      cases h
      have := runI_keep hk l h2; exact this
theorem runL_keep {call : CallT} (hk : CallKeep call) {en : Env} {ops : List Oper} : ∀ (l : List Oper) {st st' : St}, runL P pol call en ops l st = some st' → Keep en st.mem st'.mem
  | [], st, st', h => by simp only [runL, Option.some.injEq] at h; subst h; exact Keep.refl _ _
  | o :: l, st, st', h => by
    simp only [runL] at h
    split at h
    · split at h
      case h_2 => cases h
      rename_i st1 r h1
      exact (oneOp_keep hk h1).trans (runL_keep hk l h)
    · rw [putT_eq] at h
      have := runL_keep hk l h; exact this
theorem loop_low {B : Nat} {s s' : LoopState} {p p' : Option Code} {t : List AV} {pa : Array Tmp} {as bd : Code} (h : (Ob.loop s p t pa as bd).low B = true) : (Ob.loop s' p' t pa as bd).low B = true := h
theorem Keep.loop {en : Env} {m : Mem} {id : Nat} (hb : en.bar ≤ id) {s s' : LoopState} {p p' : Option Code} {t : List AV} {pa : Array Tmp} {as bd : Code} (hm : m[id]? = some (.loop s p t pa as bd)) : Keep en m (m.set id (.loop s' p' t pa as bd)) :=
  Keep.set hb fun B _ _ _ ho => by have := ho _ hm; simpa [Ob.low] using this
theorem callM_keep {md : Md} {ih : Bn} (he : ExKeep ih.ex) {en : Env} {f : FuncId} {args : List AV} {m m' : Mem} {v : AV} (h : callM P md ih en f args m = some (v, m')) : Keep en m m' := by
  unfold callM at h
  split at h
  · cases h
  split at h
  · cases h
  simp only [fNat_eq, spine_eq] at h
  split at h
  case h_2 => cases h
  rename_i x st hx
  split at h
  case isFalse => cases h
  split at h
  case h_2 => cases h
  have hK := he _ _ _ _ _ hx
  cases md with
  | opn => simp only at h hK; cases h; exact hK
  | «mut» =>
    simp only at h hK
    split at h
    case h_2 => cases h
    cases h
    refine ⟨by have := hK.len; simp only [List.length_take]; omega, fun id h1 h2 => ?_, fun B hB hl hm => ?_⟩
    · rw [List.getElem?_take, if_pos h2]; exact hK.bar id h1 h2
    · intro id o hid ho
      rw [List.getElem?_take] at ho
      split at ho
      · exact hK.low B (by simp [hB]) hl hm id o hid ho
      · cases ho
  | pur =>
    simp only at h
    split at h
    case h_2 => cases h
    cases h; exact Keep.refl _ _
  | cls =>
    simp only at h
    split at h
    case h_2 => cases h
    cases h; exact Keep.refl _ _
theorem keep_step {ih : Bn} (hdk : ∀ f d, pol.dir f = some d → DirKeep d) (hk : CallKeep ih.call) (he : ExKeep ih.ex) : CallKeep (stepV P pol ih).call ∧ ExKeep (stepV P pol ih).ex := by
  constructor
  · intro en fn args m v m' h
    simp only [stepV] at h
    split at h
    · unfold callF at h
      split at h
      · rename_i d hd; exact hdk _ _ hd _ _ _ _ _ h
      split at h
      · split at h
        case h_2 => cases h
        simp only [spine_eq] at h
        split at h
        case h_2 => cases h
        split at h
        case isFalse => cases h
        cases h; exact Keep.refl _ _
      · exact callM_keep he h
    · unfold callY at h
      split at h
      case isFalse => cases h
      rename_i hb
      split at h
      case h_2 => cases h
      split at h
      case isFalse => cases h
      rw [spine_eq] at h
      split at h
      case h_2 => cases h
      rename_i st1 hx1
      split at h
      case h_2 => cases h
      rename_i hm1
      rw [lsetK_eq] at h
      split at h
      case h_2 => cases h
      rename_i x st3 hx3
      split at h
      case h_2 => cases h
      rename_i hm3
      rw [lsetK_eq] at h
      cases h
      rw [lget_eq] at hm1 hm3
      have k1 := he _ _ _ _ _ hx1
      have k3 := he _ _ _ _ _ hx3
      exact ((k1.trans (Keep.loop hb hm1)).trans k3).trans (Keep.loop hb hm3)
    · cases h
  · intro en c st x st' h
    simp only [stepV] at h
    cases c with
    | skip => cases h; exact Keep.refl _ _
    | label l => cases h; exact Keep.refl _ _
    | region id ops draw =>
      simp only at h
      cases draw with
      | false => simp only [Bool.false_eq_true, if_false, Option.map_eq_some_iff] at h; obtain ⟨st1, h1, h2⟩ := h; cases h2; exact runL_keep hk _ h1
      | true =>
        simp only [if_true] at h
        split at h
        case h_2 => cases h
        rename_i h1
        split at h
        · cases h; exact runI_keep hk _ h1
        · cases h
    | seq y z =>
      simp only at h
      split at h
      · rename_i st1 h1; exact (he _ _ _ _ _ h1).trans (he _ _ _ _ _ h)
      · exact he _ _ _ _ _ h
    | cond c y z =>
      simp only at h
      split at h
      · exact he _ _ _ _ _ h
      · cases h
    | block id y =>
      simp only at h
      split at h
      · rename_i h1; simp only [Option.some.injEq, Prod.mk.injEq] at h; obtain ⟨_, rfl⟩ := h; exact he _ _ _ _ _ h1
      · exact he _ _ _ _ _ h
    | loop y =>
      simp only at h
      split at h
      · rename_i st1 h1; exact (he _ _ _ _ _ h1).trans (he _ _ _ _ _ h)
      · exact he _ _ _ _ _ h
    | rangeFunc f params assign body =>
      simp only at h
      split at h
      case h_2 => cases h
      split at h
      · cases h
      rw [fNat_eq, spine_eq] at h
      split at h
      case h_2 => cases h
      rename_i v2 m2 hc2
      split at h
      case h_2 => cases h
      rename_i s p t pa as bd hm2
      split at h
      · cases h
      rw [lget_eq] at hm2
      have k1 := (Keep.push en st.mem _).trans (hk _ _ _ _ _ _ hc2)
      have k2 : Keep en st.mem (m2.set st.mem.length (.loop .exhausted p t pa as bd)) := by
        refine ⟨by simpa using k1.len, fun id h1 h2 => ?_, fun B hB hl hm => ?_⟩
        · rw [List.getElem?_set_ne (by omega)]; exact k1.bar id h1 h2
        · intro id o hid ho
          rw [List.getElem?_set_ne (by omega)] at ho
          exact k1.low B hB hl hm id o hid ho
      split at h
      · rw [lsetK_eq] at h; cases h; exact k2
      · rw [lsetK_eq] at h; exact k2.trans (he _ _ _ _ _ h)
    | exit id => cases h; exact Keep.refl _ _
    | goto l => cases h; exact Keep.refl _ _
    | ret => cases h; exact Keep.refl _ _
    | scope y =>
      simp only at h
      split at h
      · cases h
      · exact he _ _ _ _ _ h
    | refuse w => cases h
theorem vrun_keep (hdk : ∀ f d, pol.dir f = some d → DirKeep d) : ∀ n, CallKeep (vrun P pol n).call ∧ ExKeep (vrun P pol n).ex
  | 0 => ⟨(by intro en fn args m v m' h; cases h), (by intro en c st x st' h; cases h)⟩
  | n + 1 => keep_step hdk (vrun_keep hdk n).1 (vrun_keep hdk n).2
theorem vrun_pure (hdp : ∀ f d, pol.dir f = some d → DirOk P pol f d) (hal : ∀ f, pol.alo f = true → (pol.dir f).isSome = true) (hq : ∀ f, pol.qui f = true → ∃ d, pol.dir f = some d ∧ Quiet d) : ∀ n, PureOk pol (vrun P pol n).call
  | 0 => ⟨(by intro en f args m v m' _ h; cases h), (by intro en f args m v m' _ h; cases h), (by intro en f args m v m' _ h; cases h)⟩
  | n + 1 => by
    constructor
    · intro en f args m v m' hp h
      have h : callF P pol (vrun P pol n) en f args m = some (v, m') := h
      unfold callF at h
      rw [hp] at h
      split at h
      · rename_i d hd; exact (hdp _ _ hd).pure hp _ _ _ _ _ h
      simp only at h
      unfold callM at h
      split at h
      · cases h
      split at h
      · cases h
      simp only [fNat_eq, spine_eq] at h
      split at h
      case h_2 => cases h
      split at h
      case isFalse => cases h
      split at h
      case h_2 => cases h
      split at h
      case h_2 => cases h
      cases h; rfl
    · intro en f args m v m' hp h
      obtain ⟨d, hd⟩ := Option.isSome_iff_exists.1 (hal f hp)
      have h : callF P pol (vrun P pol n) en f args m = some (v, m') := h
      unfold callF at h
      rw [hd] at h
      obtain ⟨o, h1, h2⟩ := (hdp _ _ hd).alo hp _ _ _ _ _ h
      refine ⟨o, h1, fun m2 hm => ?_⟩
      show callF P pol (vrun P pol n) en f args m2 = _
      unfold callF
      rw [hd]; exact h2 m2 hm
    · intro en f args m v m' hp h
      obtain ⟨d, hd, hqd⟩ := hq f hp
      have h : callF P pol (vrun P pol n) en f args m = some (v, m') := h
      unfold callF at h
      rw [hd] at h
      obtain ⟨h1, h2⟩ := hqd _ _ _ _ _ h
      refine ⟨h1, fun en2 m2 => ?_⟩
      show callF P pol (vrun P pol n) en2 f args m2 = _
      unfold callF
      rw [hd]; exact h2 en2 m2
theorem vrun_ok (hG : GoodP P pol) (hD : DrawOk P pol) : ∀ n, CallOk P pol (vrun P pol n).call ∧ ExOk P pol (vrun P pol n).ex
  | 0 => ⟨(by intro en fn args m v m' h; cases h), (by intro en c st x st' h; cases h)⟩
  | n + 1 => ⟨call_ok hG (vrun_ok hG hD n).2 (vrun_keep hG.dirKeep n).2, ex_ok hG hD (vrun_ok hG hD n).1 (vrun_pure hG.dir hG.alo hG.qui n) (vrun_keep hG.dirKeep n).1 (vrun_ok hG hD n).2⟩
end Go.Proofs.YtcmjidnbbfcbjaaGreatDoor.V
/- The operations of a region that draws its order come to the same in every order; no condition. -/
namespace Go.Proofs.YtcmjidnbbfcbjaaGreatDoor.V
open Go
set_option linter.unusedVariables false
set_option linter.unusedSimpArgs false
variable {P : Program} {pol : Pol}

/-! What an operation asks hangs on its operands alone. -/
theorem mapM_congr {α β : Type} {f g : α → Option β} : ∀ {xs : List α}, (∀ x ∈ xs, f x = g x) → xs.mapM f = xs.mapM g
  | [], _ => rfl
  | x :: xs, h => by simp only [List.mapM_cons]; rw [h x (by simp), mapM_congr fun y hy => h y (by simp [hy])]
theorem generic_congr {ρ ρ' : Operand → Option AV} {o : Oper} (h : ∀ x ∈ o.op.operands.toList, ρ x = ρ' x) : generic P ρ o = generic P ρ' o := by
  unfold generic
  by_cases hp : plainOp o.op = false
  · simp [hp]
  · rw [if_neg hp, if_neg hp]
    have h1 : (o.op.operands.toList.mapM fun x => (ρ x).bind AV.toV) = o.op.operands.toList.mapM fun x => (ρ' x).bind AV.toV := mapM_congr fun x hx => by rw [h x hx]
    rw [h1, execOp_congr (fun x => ((ρ x).bind AV.toV).getD undef) (fun x => ((ρ' x).bind AV.toV).getD undef) o (by simpa using hp) (fun x hx => by rw [h x hx])]
theorem partsOf_congr {ρ ρ' : Operand → Option AV} {ps : Array (Nat × Operand)} (h : ∀ x ∈ ps.toList.map (·.2), ρ x = ρ' x) : partsOf ρ ps = partsOf ρ' ps := by
  unfold partsOf
  exact mapM_congr fun ⟨i, y⟩ hx => by show (ρ y).map _ = (ρ' y).map _; rw [h y (List.mem_map.2 ⟨_, hx, rfl⟩)]
theorem planB_congr {ρ ρ' : Operand → Option AV} {o : Oper} {b : Builtin} {args : Array Operand} {ats : Array TypeId} (h : ∀ x ∈ args.toList, ρ x = ρ' x) (hg : generic P ρ o = generic P ρ' o) : planB P ρ o b args ats = planB P ρ' o b args ats := by
  have h0 : ∀ i : Nat, (args[i]?).bind ρ = (args[i]?).bind ρ' := by
    intro i
    cases hx : args[i]? with
    | none => rfl
    | some x => simp only [Option.bind_some]; exact h x (Array.mem_toList_iff.2 (Array.mem_of_getElem? hx))
  unfold planB
  cases b with
  | len => simp only [h0, hg]
  | clear => simp only [h0, hg]
  | unsafeSliceData =>
    simp only
    cases hl : args.toList with
    | nil => rfl
    | cons a l =>
      cases l with
      | nil => have h1 := h a (by simp [hl]); simp only [h1]
      | cons _ _ => rfl
  | unsafeString =>
    simp only
    cases hl : args.toList with
    | nil => rfl
    | cons a l =>
      cases l with
      | nil => rfl
      | cons x l =>
        cases l with
        | nil =>
          have h1 := h a (by simp [hl]); have h2 := h x (by simp [hl])
          cases ats.toList with
          | nil => rfl
          | cons t l2 =>
            cases l2 with
            | nil => rfl
            | cons t2 l3 =>
              cases l3 with
              | nil => simp only [h1, h2]
              | cons _ _ => rfl
        | cons _ _ => rfl
  | append =>
    simp only
    cases hl : args.toList with
    | nil => rfl
    | cons a l =>
      cases l with
      | nil => rfl
      | cons x l =>
        cases l with
        | nil =>
          have h1 := h a (by simp [hl]); have h2 := h x (by simp [hl])
          cases (ats[0]?).bind (elemOfS P) <;> cases (ats[1]?).bind P.underlying <;> simp only [h1, h2]
        | cons _ _ => rfl
  | cap => simp only [h0, hg]
  | copy =>
    simp only
    cases hl : args.toList with
    | nil => rfl
    | cons a l =>
      cases l with
      | nil => rfl
      | cons x l =>
        cases l with
        | nil =>
          have h1 := h a (by simp [hl]); have h2 := h x (by simp [hl])
          cases (ats[0]?).bind (elemOfS P) <;> simp only [h1, h2]
        | cons _ _ => rfl
  | delete =>
    simp only
    cases hl : args.toList with
    | nil => rfl
    | cons a l =>
      cases l with
      | nil => rfl
      | cons x l =>
        cases l with
        | nil =>
          have h1 := h a (by simp [hl]); have h2 := h x (by simp [hl])
          cases (ats[0]?).bind P.underlying with
          | none => rfl
          | some d => cases d <;> first | rfl | simp only [h1, h2]
        | cons _ _ => rfl
  | _ => exact hg
theorem asI?_congr {ρ ρ' : Operand → Option AV} {lo : Option Operand} (h : ∀ x ∈ lo.toList, ρ x = ρ' x) : asI? ρ lo = asI? ρ' lo := by
  cases lo with
  | none => rfl
  | some x => simp only [asI?]; rw [h x (by simp)]
theorem plan_congr {ρ ρ' : Operand → Option AV} {o : Oper} (h : ∀ x ∈ o.op.operands.toList, ρ x = ρ' x) : plan P ρ o = plan P ρ' o := by
  have hg := generic_congr (P := P) h
  cases ho : o.op with
  | move x | assign x | box t x | nilCheck x | makeInterface t x | fieldAddr t x f | field t x f | extract x i =>
    have h1 := h x (by simp [ho, Op.operands])
    simp only [plan, ho, h1]
  | unOp op t x | convert s d x =>
    have h1 := h x (by simp [ho, Op.operands])
    simp only [plan, ho, h1, hg]
  | load t x => have h1 := h x (by simp [ho, Op.operands]); simp only [plan, ho, h1]
  | pick c a b =>
    have h1 := h c (by simp [ho, Op.operands]); have h2 := h a (by simp [ho, Op.operands]); have h3 := h b (by simp [ho, Op.operands])
    simp only [plan, ho, h1, h2, h3]
  | alloc t => simp only [plan, ho]
  | build t ps => simp only [plan, ho]; rw [partsOf_congr (fun x hx => h x (by simp only [ho, Op.operands]; exact hx))]
  | buildSlice t n ps => simp only [plan, ho]; rw [partsOf_congr (fun x hx => h x (by simp only [ho, Op.operands]; exact hx))]
  | insert t x k e | mapUpdate t x k e =>
    have h1 := h x (by simp [ho, Op.operands]); have h2 := h k (by simp [ho, Op.operands]); have h3 := h e (by simp [ho, Op.operands])
    simp only [plan, ho, planSet, h1, h2, h3]
  | store t x y | makeSlice t x y | indexAddr t x y =>
    have h1 := h x (by simp [ho, Op.operands]); have h2 := h y (by simp [ho, Op.operands])
    simp only [plan, ho, h1, h2]
  | lookup t x y ok =>
    have h1 := h x (by simp [ho, Op.operands]); have h2 := h y (by simp [ho, Op.operands])
    simp only [plan, ho, h1, h2]
  | binOp op t x y yt =>
    have h1 := h x (by simp [ho, Op.operands]); have h2 := h y (by simp [ho, Op.operands])
    simp only [plan, ho, h1, h2, hg]
  | makeFunc fn a b =>
    have h1 : a.toList.mapM ρ = a.toList.mapM ρ' := mapM_congr fun x hx => h x (by simp [ho, Op.operands]; left; exact Array.mem_toList_iff.1 hx)
    have h2 : b.toList.mapM ρ = b.toList.mapM ρ' := mapM_congr fun x hx => h x (by simp [ho, Op.operands]; right; exact Array.mem_toList_iff.1 hx)
    simp only [plan, ho, h1, h2]
  | makeMap t x =>
    cases x with
    | none =>
      simp only [plan, ho]
      cases P.underlying t with
      | none => rfl
      | some d => cases d <;> rfl
    | some x =>
      have h1 := h x (by simp [ho, Op.operands])
      simp only [plan, ho]
      cases P.underlying t with
      | none => rfl
      | some d => cases d <;> simp only [h1]
  | range t x | next x t => have h1 := h x (by simp [ho, Op.operands]); simp only [plan, ho, h1]
  | slice t x lo hi mx =>
    have h1 := h x (by simp [ho, Op.operands])
    have h2 := asI?_congr (lo := lo) fun y hy => h y (by simp [ho, Op.operands]; simp at hy; simp [hy])
    have h3 := asI?_congr (lo := hi) fun y hy => h y (by simp [ho, Op.operands]; simp at hy; simp [hy])
    cases mx with
    | none =>
      simp only [plan, ho, h1, h2, h3, hg]
      cases ρ' x with
      | none => rfl
      | some v => cases v <;> (try rfl) <;> cases (elemOfS P t).bind (szOf P) <;> cases asI? ρ' lo <;> cases asI? ρ' hi <;> rfl
    | some y =>
      have h4 := h y (by simp [ho, Op.operands])
      simp only [plan, ho, h1, h2, h3, hg]
      cases ρ' x with
      | none => rfl
      | some v =>
        cases v <;> (try rfl) <;> cases (elemOfS P t).bind (szOf P) <;> (try rfl) <;> cases asI? ρ' lo <;> (try rfl) <;> cases asI? ρ' hi <;> (try rfl) <;>
          (rename_i z; cases z <;> (try rfl); simp only [h4])
  | call c =>
    obtain ⟨callee, args, ats⟩ := c
    have ha : ∀ x ∈ args.toList, ρ x = ρ' x := fun x hx => h x (by simp only [ho, Op.operands, Call.operands]; simp; right; exact Array.mem_toList_iff.1 hx)
    cases callee with
    | builtin b => simp only [plan, ho]; exact planB_congr ha hg
    | value f =>
      have h1 := h f (by simp [ho, Op.operands, Call.operands])
      simp only [plan, ho, h1, mapM_congr ha]
    | invoke r m => simp only [plan, ho]; exact hg
  | _ => simp only [plan, ho]; exact hg
end Go.Proofs.YtcmjidnbbfcbjaaGreatDoor.V
/- Two operations of a drawn region that do not meddle with each other can change places; no condition. -/
namespace Go.Proofs.YtcmjidnbbfcbjaaGreatDoor.V
open Go
set_option linter.unusedVariables false
set_option linter.unusedSimpArgs false
noncomputable section
variable {P : Program} {pol : Pol}

/-! What an operation does to the store. -/
inductive Eff where
  | none
  | set (id : Nat) (o : Ob)
  | push (o : Ob)
def Eff.app : Eff → Mem → Mem
  | .none, m => m
  | .set id o, m => m.set id o
  | .push o, m => m ++ [o]
def Eff.fits (f : Foot) : Eff → Prop
  | .none => True
  | .set id _ => id ∈ f.wr ∧ id ∈ f.rd
  | .push _ => f.al = true

def act (call : CallT) (en : Env) (r : Req) (m : Mem) : Option (AV × Mem) :=
  match r with
  | .call fn args => call en fn args m
  | r => perform en r m
theorem srcCells_congr {m m' : Mem} {esz : Nat} {s : Src} (h : ∀ id ∈ (match s with | .own i .. => [i] | _ => [] : List Nat), m'[id]? = m[id]?) : srcCells m' esz s = srcCells m esz s := by
  cases s with
  | lst n cs => rfl
  | own id ver off len e =>
    have h1 := h id (by simp)
    simp only [srcCells, rd, lget_eq, h1]

theorem act_local {call : CallT} (hp : PureOk pol call) {en : Env} {r : Req} {m m1 : Mem} {v : AV} (ha : (r.foot pol).all = false) (hr : (r.foot pol).ra = false) (h : act call en r m = some (v, m1)) :
    ∃ e : Eff, m1 = e.app m ∧ e.fits (r.foot pol) ∧ ∀ m', (∀ id ∈ (r.foot pol).rd, m'[id]? = m[id]?) → ((r.foot pol).al = true → m'.length = m.length) → act call en r m' = some (v, e.app m') := by
  cases r with
  | val v' => simp only [act, perform] at h ⊢; cases h; exact ⟨.none, rfl, trivial, fun m' _ _ => rfl⟩
  | load id ver off n ag =>
    simp only [act] at h ⊢
    cases ag with
    | true =>
      simp only [perform, Option.map_eq_some_iff] at h
      obtain ⟨x, hx, h⟩ := h; cases h
      refine ⟨.none, rfl, trivial, fun m' h1 _ => ?_⟩
      have h1 := h1 id (by simp [Req.foot])
      simp only [rd, lget_eq] at hx
      simp only [perform, rd, lget_eq, h1, hx]; rfl
    | false =>
      simp only [perform, lget_eq] at h
      split at h
      case h_2 => cases h
      rename_i v' cs hm
      split at h
      case isFalse => cases h
      rename_i hv
      simp only [Option.map_eq_some_iff] at h
      obtain ⟨x, hx, h⟩ := h; cases h
      refine ⟨.none, rfl, trivial, fun m' h1 _ => ?_⟩
      have h1 := h1 id (by simp [Req.foot])
      simp only [perform, lget_eq, h1, hm, if_pos hv, hx]; rfl
  | store id ver off vs =>
    simp only [act, perform, lget_eq] at h ⊢
    split at h
    case h_2 => cases h
    rename_i v' cs hm
    split at h
    case isFalse => cases h
    rename_i hc
    rw [spliceK_eq, lsetK_eq] at h
    cases h
    refine ⟨.set id _, rfl, by simp [Eff.fits, Req.foot], fun m' h1 _ => ?_⟩
    have h1 := h1 id (by simp [Req.foot])
    simp only [h1, hm, if_pos hc, spliceK_eq, lsetK_eq]; rfl
  | alloc tag esz cs len =>
    simp only [act] at h ⊢
    cases len with
    | none =>
      simp only [perform, spine_eq, fNat_eq] at h ⊢
      split at h
      case isFalse => cases h
      rename_i hc
      cases h
      refine ⟨.push (.cells tag cs), rfl, by simp [Eff.fits, Req.foot], fun m' _ h1 => ?_⟩
      rw [if_pos hc, h1 (by simp [Req.foot])]; rfl
    | some n =>
      simp only [perform, spine_eq, fNat_eq] at h ⊢
      split at h
      case isFalse => cases h
      rename_i hc
      cases h
      refine ⟨.push (.cells tag cs), rfl, by simp [Eff.fits, Req.foot], fun m' _ h1 => ?_⟩
      rw [if_pos hc, h1 (by simp [Req.foot])]; rfl
  | newmap =>
    simp only [act, perform, spine_eq] at h ⊢
    cases h
    refine ⟨.push (.map []), rfl, by simp [Eff.fits, Req.foot], fun m' _ h1 => ?_⟩
    rw [h1 (by simp [Req.foot])]; rfl
  | iter s =>
    simp only [act, perform, spine_eq] at h ⊢
    cases h
    refine ⟨.push (.iter s 0), rfl, by simp [Eff.fits, Req.foot], fun m' _ h1 => ?_⟩
    rw [h1 (by simp [Req.foot])]; rfl
  | nextS id =>
    simp only [act, perform, lget_eq] at h ⊢
    split at h
    case h_2 => cases h
    rename_i s p hm
    split at h
    case isFalse => cases h
    rename_i hc
    split at h
    · rename_i hp
      rw [fNat_eq, lsetK_eq] at h
      cases h
      refine ⟨.set id _, rfl, by simp [Eff.fits, Req.foot], fun m' h1 _ => ?_⟩
      have h1 := h1 id (by simp [Req.foot])
      simp only [h1, hm, if_pos hc, if_pos hp, fNat_eq, lsetK_eq]; rfl
    · rename_i hp
      cases h
      refine ⟨.none, rfl, trivial, fun m' h1 _ => ?_⟩
      have h1 := h1 id (by simp [Req.foot])
      simp only [h1, hm, if_pos hc, if_neg hp]; rfl
  | bstr id ver off n =>
    simp only [act, perform] at h ⊢
    split at h
    case h_2 => cases h
    rename_i cs hr
    split at h
    case h_2 => cases h
    rename_i l hl
    cases h
    refine ⟨.none, rfl, trivial, fun m' h1 _ => ?_⟩
    have h1 := h1 id (by simp [Req.foot])
    have h2 : rd m' id ver off n = some cs := by rw [← hr]; unfold rd; rw [lget_eq, lget_eq, h1]
    simp only [h2, hl]; rfl
  | ustr tag id ver off n =>
    simp only [act, perform] at h ⊢
    split at h
    case h_2 => cases h
    rename_i cs hr
    split at h
    case h_2 => cases h
    rename_i l hl
    split at h
    case isFalse => cases h
    rename_i hc
    rw [fNat_eq, lsetK_eq] at h
    cases h
    refine ⟨.set id _, rfl, by simp [Eff.fits, Req.foot], fun m' h1 _ => ?_⟩
    have h1 := h1 id (by simp [Req.foot])
    have h2 : rd m' id ver off n = some cs := by rw [← hr]; unfold rd; rw [lget_eq, lget_eq, h1]
    simp only [h2, hl, if_pos hc, fNat_eq, lsetK_eq]; rfl
  | chk tag id ver off sz v' =>
    simp only [act, perform, lget_eq] at h ⊢
    split at h
    case h_2 => cases h
    rename_i v2 cs hm
    split at h
    case isFalse => cases h
    rename_i hc
    cases h
    refine ⟨.none, rfl, trivial, fun m' h1 _ => ?_⟩
    have h1 := h1 id (by simp [Req.foot])
    simp only [h1, hm, if_pos hc]; rfl
  | mapget kt id k z ok =>
    simp only [act, perform, lget_eq] at h ⊢
    split at h
    case h_2 => cases h
    rename_i es hm
    have hres : m1 = m := by
      split at h
      · cases h; rfl
      · cases h; rfl
      · cases h
    subst hres
    refine ⟨.none, rfl, trivial, fun m' h1 _ => ?_⟩
    have h1 := h1 id (by simp [Req.foot])
    simp only [h1, hm]
    split at h
    · cases h; rfl
    · cases h; rfl
    · cases h
  | mapset kt id k v' =>
    simp only [act, perform, lget_eq] at h ⊢
    split at h
    case h_2 => cases h
    rename_i es hm
    split at h
    case isFalse => cases h
    rename_i hc
    split at h
    · rename_i hf
      rw [spine_eq, lsetK_eq] at h
      cases h
      refine ⟨.set id _, rfl, by simp [Eff.fits, Req.foot], fun m' h1 _ => ?_⟩
      have h1 := h1 id (by simp [Req.foot])
      simp only [h1, hm, if_pos hc, hf, spine_eq, lsetK_eq]; rfl
    · rename_i hf
      rw [spine_eq, lsetK_eq] at h
      cases h
      refine ⟨.set id _, rfl, by simp [Eff.fits, Req.foot], fun m' h1 _ => ?_⟩
      have h1 := h1 id (by simp [Req.foot])
      simp only [h1, hm, if_pos hc, hf, spine_eq, lsetK_eq]; rfl
    · cases h
  | maplen id =>
    simp only [act, perform, lget_eq] at h ⊢
    split at h
    case h_2 => cases h
    rename_i es hm
    cases h
    refine ⟨.none, rfl, trivial, fun m' h1 _ => ?_⟩
    have h1 := h1 id (by simp [Req.foot])
    simp only [h1, hm]; rfl
  | mapclear id =>
    simp only [act, perform, lget_eq] at h ⊢
    split at h
    case h_2 => cases h
    rename_i es hm
    split at h
    case isFalse => cases h
    rename_i hc
    rw [lsetK_eq] at h
    cases h
    refine ⟨.set id _, rfl, by simp [Eff.fits, Req.foot], fun m' h1 _ => ?_⟩
    have h1 := h1 id (by simp [Req.foot])
    simp only [h1, hm, if_pos hc, lsetK_eq]; rfl
  | app tag id ver off len esz src =>
    simp only [act, perform, lget_eq] at h ⊢
    split at h
    case h_2 => cases h
    rename_i v' cs n ys hm hs
    split at h
    case isFalse => cases h
    rename_i hc
    rw [spine_eq, fNat_eq, lsetK_eq] at h
    cases h
    refine ⟨.set id _, rfl, by simp [Eff.fits, Req.foot], fun m' h1 _ => ?_⟩
    have h2 : srcCells m' esz src = srcCells m esz src := srcCells_congr fun i hi => h1 i (by simp only [Req.foot, List.mem_cons]; exact Or.inr hi)
    have h1 := h1 id (by simp [Req.foot])
    simp only [h1, h2, hm, hs, if_pos hc, spine_eq, fNat_eq, lsetK_eq]; rfl
  | copy id ver off len esz src =>
    simp only [act, perform, lget_eq] at h ⊢
    split at h
    case h_2 => cases h
    rename_i v' cs n ys hm hs
    split at h
    case isFalse => cases h
    rename_i hc
    rw [fNat_eq, spliceK_eq, lsetK_eq] at h
    cases h
    refine ⟨.set id _, rfl, by simp [Eff.fits, Req.foot], fun m' h1 _ => ?_⟩
    have h2 : srcCells m' esz src = srcCells m esz src := srcCells_congr fun i hi => h1 i (by simp only [Req.foot, List.mem_cons]; exact Or.inr hi)
    have h1 := h1 id (by simp [Req.foot])
    simp only [h1, h2, hm, hs, if_pos hc, spliceK_eq, fNat_eq, lsetK_eq]; rfl
  | mapdel kt id k =>
    simp only [act, perform, lget_eq] at h ⊢
    split at h
    case h_2 => cases h
    rename_i es hm
    split at h
    case isFalse => cases h
    rename_i hc
    split at h
    · rename_i hf
      rw [spine_eq, lsetK_eq] at h
      cases h
      refine ⟨.set id _, rfl, by simp [Eff.fits, Req.foot], fun m' h1 _ => ?_⟩
      have h1 := h1 id (by simp [Req.foot])
      simp only [h1, hm, if_pos hc, hf, spine_eq, lsetK_eq]; rfl
    · rename_i hf
      cases h
      refine ⟨.none, rfl, trivial, fun m' h1 _ => ?_⟩
      have h1 := h1 id (by simp [Req.foot])
      simp only [h1, hm, if_pos hc, hf]; rfl
    · cases h
  | appnew tag esz k pre src =>
    simp only [act, perform] at h ⊢
    split at h
    case h_2 => cases h
    rename_i n ys hs
    split at h
    case isFalse => cases h
    rename_i hc
    rw [fNat_eq, spine_eq, spine_eq] at h
    cases h
    refine ⟨.push (.cells tag (pre ++ ys)), rfl, by simp [Eff.fits, Req.foot], fun m' h1 h2 => ?_⟩
    have h3 : srcCells m' esz src = srcCells m esz src := srcCells_congr h1
    simp only [h3, hs, if_pos hc, fNat_eq, spine_eq, h2 (by simp [Req.foot])]; rfl
  | call fn args =>
    cases fn with
    | func f =>
      by_cases hq : pol.qui f = true
      · obtain ⟨h1, h2⟩ := hp.qui _ _ _ _ _ _ hq h
        exact ⟨.none, h1, trivial, fun m' _ _ => h2 en m'⟩
      simp only [Req.foot, if_neg hq] at ha hr ⊢
      split at ha
      · rename_i hf; rw [if_pos hf] at hr; cases hr
      rename_i hf
      split at ha
      case isFalse => cases ha
      rename_i hal
      obtain ⟨o, h1, h2⟩ := hp.alo _ _ _ _ _ _ hal h
      refine ⟨.push o, h1, by rw [if_neg hf, if_pos hal]; rfl, fun m' _ h3 => ?_⟩
      have := h2 m' (h3 (by rw [if_neg hf, if_pos hal]))
      exact this
    | yield id => simp [Req.foot] at ha
    | method _ => simp [Req.foot] at ha
    | methodOf _ _ => simp [Req.foot] at ha
    | via _ _ _ _ => simp [Req.foot] at ha
theorem act_quiet {call : CallT} (hp : PureOk pol call) {en : Env} {r : Req} {m m1 : Mem} {v : AV} (h : (r.foot pol).loud = false) (ha : act call en r m = some (v, m1)) : m1 = m ∧ ∀ m', act call en r m' = some (v, m') := by
  cases r with
  | val v => cases ha; exact ⟨rfl, fun _ => rfl⟩
  | call fn args =>
    cases fn with
    | func f =>
      by_cases hq : pol.qui f = true
      · obtain ⟨h1, h2⟩ := hp.qui _ _ _ _ _ _ hq ha
        exact ⟨h1, fun m' => h2 en m'⟩
      exfalso
      simp only [Req.foot, if_neg hq] at h; split at h <;> (try split at h) <;> simp [Foot.loud] at h
    | yield id => simp [Req.foot, Foot.loud] at h
    | method _ => simp [Req.foot, Foot.loud] at h
    | methodOf _ _ => simp [Req.foot, Foot.loud] at h
    | via _ _ _ _ => simp [Req.foot, Foot.loud] at h
  | _ => simp [Req.foot, Foot.loud] at h
/-- One that writes nothing leaves the store. -/
theorem act_still {call : CallT} (hp : PureOk pol call) {en : Env} {r : Req} {m m1 : Mem} {v : AV} (ha : (r.foot pol).all = false) (hw : (r.foot pol).writes = false) (h : act call en r m = some (v, m1)) : m1 = m := by
  by_cases hr : (r.foot pol).ra = false
  · obtain ⟨e, h1, h2, _⟩ := act_local hp ha hr h
    simp only [Foot.writes, Bool.or_eq_false_iff, Bool.not_eq_false', List.isEmpty_iff] at hw
    cases e with
    | none => exact h1
    | set id o => have := h2.1; simp [hw.2] at this
    | push o => simp only [Eff.fits] at h2; simp [h2] at hw
  · cases r with
    | call fn args =>
      cases fn with
      | func f =>
        by_cases hq : pol.qui f = true
        · exact (hp.qui _ _ _ _ _ _ hq h).1
        simp only [Req.foot, if_neg hq] at hr
        split at hr
        · rename_i hf; exact hp.pur _ _ _ _ _ _ hf h
        · split at hr <;> simp at hr
          rename_i hf hal; simp [Req.foot, hf, hal, hq] at ha
      | _ => simp [Req.foot] at ha
    | _ => simp [Req.foot] at hr
theorem Eff.len {e : Eff} {m : Mem} {f : Foot} (h : e.fits f) (ha : f.al = false) : (e.app m).length = m.length := by
  cases e with
  | none => rfl
  | set id o => simp [Eff.app]
  | push o => simp only [Eff.fits] at h; simp [h] at ha
theorem Eff.get {e : Eff} {m : Mem} {f : Foot} {ml id : Nat} (h : e.fits f) (hw : id ∉ f.wr) (ha : f.al = true → id < ml) (hl : ml ≤ m.length) : (e.app m)[id]? = m[id]? := by
  cases e with
  | none => rfl
  | set j o => exact List.getElem?_set_ne (by rintro rfl; exact hw h.1)
  | push o => exact List.getElem?_append_left (by have := ha h; omega)
theorem Eff.comm {e1 e2 : Eff} {m : Mem} {f1 f2 : Foot} {ml : Nat} (h1 : e1.fits f1) (h2 : e2.fits f2) (ha : (f1.al && f2.al) = false) (hw : ∀ id ∈ f1.wr, id ∉ f2.wr)
    (h12 : f1.al = true → ∀ id ∈ f2.rd, id < ml) (h21 : f2.al = true → ∀ id ∈ f1.rd, id < ml) (hl : ml ≤ m.length) : e1.app (e2.app m) = e2.app (e1.app m) := by
  cases e1 with
  | none => rfl
  | set i o =>
    cases e2 with
    | none => rfl
    | set j o' => exact List.set_comm _ _ (by rintro rfl; exact hw _ h1.1 h2.1)
    | push o' => simp only [Eff.app]; exact List.set_append_left _ _ (by have := h21 h2 i h1.2; omega)
  | push o =>
    cases e2 with
    | none => rfl
    | set j o' => simp only [Eff.app]; exact (List.set_append_left _ _ (by have := h12 h1 j h2.2; omega)).symm
    | push o' => simp only [Eff.fits] at h1 h2; simp [h1, h2] at ha

theorem act_swap {call : CallT} (hp : PureOk pol call) {en : Env} {r1 r2 : Req} {m m1 m2 : Mem} {v1 v2 : AV} {ml : Nat} (hl : ml ≤ m.length)
    (hc : (r1.foot pol).loud = true → (r2.foot pol).loud = true → confl ml (r1.foot pol) (r2.foot pol) = false)
    (h1 : act call en r1 m = some (v1, m1)) (h2 : act call en r2 m1 = some (v2, m2)) : ∃ m1', act call en r2 m = some (v2, m1') ∧ act call en r1 m1' = some (v1, m2) := by
  by_cases q1 : (r1.foot pol).loud = false
  · obtain ⟨rfl, g⟩ := act_quiet hp q1 h1
    exact ⟨m2, h2, g m2⟩
  by_cases q2 : (r2.foot pol).loud = false
  · obtain ⟨rfl, g⟩ := act_quiet hp q2 h2
    exact ⟨m, g m, h1⟩
  have q1 : (r1.foot pol).loud = true := by simpa using q1
  have q2 : (r2.foot pol).loud = true := by simpa using q2
  have hc := hc q1 q2
  simp only [confl, q1, q2, Bool.and_true, Bool.or_eq_false_iff] at hc
  obtain ⟨⟨⟨⟨⟨⟨⟨⟨a1, a2⟩, aa⟩, r1w⟩, r2w⟩, l12⟩, l21⟩, w1⟩, w2⟩ := hc
  have W1 : ∀ id ∈ (r1.foot pol).wr, id ∉ (r2.foot pol).rd := fun id hi hj => by
    have := List.any_eq_false.1 w1 id hi; simp at this; exact this hj
  have W2 : ∀ id ∈ (r2.foot pol).wr, id ∉ (r1.foot pol).rd := fun id hi hj => by
    have := List.any_eq_false.1 w2 id hi; simp at this; exact this hj
  have L12 : (r1.foot pol).al = true → ∀ id ∈ (r2.foot pol).rd, id < ml := fun h id hi => by
    rw [h, Bool.true_and] at l12
    have := List.any_eq_false.1 l12 id hi; simp at this; omega
  have L21 : (r2.foot pol).al = true → ∀ id ∈ (r1.foot pol).rd, id < ml := fun h id hi => by
    rw [h, Bool.true_and] at l21
    have := List.any_eq_false.1 l21 id hi; simp at this; omega
  by_cases hra : (r1.foot pol).ra = true ∨ (r2.foot pol).ra = true
  · have hw : (r1.foot pol).writes = false ∧ (r2.foot pol).writes = false := by
      have key : ∀ r : Req, (r.foot pol).ra = true → (r.foot pol).all = false → (r.foot pol).writes = false := by
        intro r hr ha
        cases r with
        | call fn args =>
          cases fn with
          | func f =>
            by_cases hq : pol.qui f = true
            · simp [Req.foot, hq] at hr
            simp only [Req.foot, if_neg hq] at hr ha ⊢
            split at hr
            · rename_i hf; rw [if_pos hf]; rfl
            · split at hr
              · cases hr
              · rename_i hf hal; rw [if_neg hf, if_neg hal] at ha; cases ha
          | _ => simp [Req.foot] at ha
        | _ => simp [Req.foot] at hr
      rcases hra with h | h
      · rw [h, Bool.true_and] at r1w; exact ⟨key _ h a1, r1w⟩
      · rw [h, Bool.true_and] at r2w; exact ⟨r2w, key _ h a2⟩
    have e1 := act_still hp a1 hw.1 h1
    subst e1
    have e2 := act_still hp a2 hw.2 h2
    subst e2
    exact ⟨_, h2, h1⟩
  · have hr1 : (r1.foot pol).ra = false := by cases h : (r1.foot pol).ra <;> simp_all
    have hr2 : (r2.foot pol).ra = false := by cases h : (r2.foot pol).ra <;> simp_all
    obtain ⟨e1, rfl, f1, g1⟩ := act_local hp a1 hr1 h1
    obtain ⟨e2, rfl, f2, g2⟩ := act_local hp a2 hr2 h2
    have hwr : ∀ id ∈ (r1.foot pol).wr, id ∉ (r2.foot pol).wr → True := fun _ _ _ => trivial
    have sub : ∀ r : Req, ∀ id ∈ (r.foot pol).wr, id ∈ (r.foot pol).rd := by
      intro r id
      cases r with
      | call fn args => cases fn <;> simp only [Req.foot] <;> (try split) <;> (try split) <;> (try split) <;> simp
      | _ => simp only [Req.foot] <;> simp <;> intro h <;> simp [h]
    refine ⟨e2.app m, g2 m (fun id hi => ?_) (fun ha => ?_), ?_⟩
    · exact (Eff.get f1 (fun h => W1 id h hi) (fun h => L12 h id hi) hl).symm
    · exact (Eff.len f1 (by cases h : (r1.foot pol).al <;> simp_all)).symm
    · rw [g1 (e2.app m) (fun id hi => Eff.get f2 (fun h => W2 id h hi) (fun h => L21 h id hi) hl) (fun ha => Eff.len f2 (by cases h : (r2.foot pol).al <;> simp_all))]
      rw [Eff.comm f1 f2 aa (fun id h h' => W1 id h (sub _ _ h')) L12 L21 hl]

/-! The same with the temporaries. -/
def reqI (P : Program) (pol : Pol) (ops : List Oper) (i : Nat) (ts : List AV) : Option Req :=
  match ops[i]? with
  | none => none
  | some o => if wantedA ops o ts = true then plan P (opnd pol ts) o else some (.val und)
def dstI (ops : List Oper) (i : Nat) : Option Tmp := (ops[i]?).bind (·.dst)
def stepI (P : Program) (pol : Pol) (call : CallT) (en : Env) (ops : List Oper) (i : Nat) (st : St) : Option (St × Req) :=
  match reqI P pol ops i st.tmps with
  | none => none
  | some r => match act call en r st.mem with
    | none => none
    | some (v, m) => some (⟨put st.tmps (dstI ops i) v, m⟩, r)
theorem runI_cons {call : CallT} {en : Env} {ops : List Oper} {i : Nat} {l : List Nat} {st : St} : runI P pol call en ops (i :: l) st =
    match stepI P pol call en ops i st with
    | none => none
    | some (st1, r) => match runI P pol call en ops l st1 with
      | none => none
      | some (st2, tr) => some (st2, (i, r) :: tr) := by
  simp only [runI, lget_eq, stepI, reqI, dstI]
  cases ops[i]? with
  | none => rfl
  | some o =>
    simp only [Option.bind_some]
    by_cases hw : wantedA ops o st.tmps = true
    · simp only [if_pos hw, oneOp_eq]
      cases plan P (opnd pol st.tmps) o with
      | none => rfl
      | some r =>
        cases r with
        | call fn args =>
          simp only [act]
          cases call en fn args st.mem with
          | none => rfl
          | some x =>
            simp only
            cases runI P pol call en ops l ⟨put st.tmps o.dst x.1, x.2⟩ <;> rfl
        | _ =>
          simp only [act]
          cases perform en _ st.mem with
          | none => rfl
          | some x =>
            simp only
            cases runI P pol call en ops l ⟨put st.tmps o.dst x.1, x.2⟩ <;> rfl
    · simp only [if_neg hw, putT_eq, act, perform]
      cases runI P pol call en ops l ⟨put st.tmps o.dst und, st.mem⟩ <;> rfl
theorem put_get {ts : List AV} {d : Option Tmp} {v : AV} {t : Tmp} (h : d ≠ some t) : (put ts d v)[t]? = ts[t]? := by
  cases d with
  | none => rfl
  | some d => exact List.getElem?_set_ne (by rintro rfl; exact h rfl)
theorem put_comm {ts : List AV} {d d' : Option Tmp} {v v' : AV} (h : ∀ t, d = some t → d' ≠ some t) : put (put ts d v) d' v' = put (put ts d' v') d v := by
  cases d with
  | none => rfl
  | some d => cases d' with
    | none => rfl
    | some d' => exact List.set_comm _ _ (by rintro rfl; exact h _ rfl rfl)
def namesI (ops : List Oper) (i : Nat) : List Tmp := match ops[i]? with | none => [] | some o => namesOf ops o
theorem reqI_congr {ops : List Oper} {i : Nat} {ts ts' : List AV} (h : ∀ t ∈ namesI ops i, ts[t]? = ts'[t]?) : reqI P pol ops i ts = reqI P pol ops i ts' := by
  unfold reqI
  cases ho : ops[i]? with
  | none => rfl
  | some o =>
    simp only [namesI, ho, namesOf] at h
    have hw : wantedA ops o ts = wantedA ops o ts' := by
      unfold wantedA
      cases hg : o.guard with
      | none => rfl
      | some x =>
        obtain ⟨j, want⟩ := x
        simp only [lget_eq]
        cases hd : (ops[j]?).bind (·.dst) with
        | none => rfl
        | some d =>
          have := h d (by simp [hg, hd])
          simp only [this]
    have hp : plan P (opnd pol ts) o = plan P (opnd pol ts') o := plan_congr fun x hx => by
      cases x with
      | tmp t =>
        simp only [opnd, lget_eq]
        exact h t (by simp only [List.mem_append, List.mem_filterMap]; exact Or.inr ⟨_, hx, rfl⟩)
      | _ => rfl
    simp only [hw, hp]
/-- Neither names what the other gives. -/
def Indep (ops : List Oper) (i j : Nat) : Prop := (∀ t ∈ namesI ops j, dstI ops i ≠ some t) ∧ (∀ t ∈ namesI ops i, dstI ops j ≠ some t)
theorem dst_names {ops : List Oper} {i : Nat} {t : Tmp} (h : dstI ops i = some t) : t ∈ namesI ops i := by
  unfold dstI at h; unfold namesI
  cases ho : ops[i]? with
  | none => simp [ho] at h
  | some o => simp [ho] at h; simp [namesOf, h]
theorem stepI_swap {call : CallT} (hp : PureOk pol call) {en : Env} {ops : List Oper} {i j : Nat} {st st1 st2 : St} {ri rj : Req} {ml : Nat} (hl : ml ≤ st.mem.length) (hi : Indep ops i j)
    (hc : (ri.foot pol).loud = true → (rj.foot pol).loud = true → confl ml (ri.foot pol) (rj.foot pol) = false)
    (h1 : stepI P pol call en ops i st = some (st1, ri)) (h2 : stepI P pol call en ops j st1 = some (st2, rj)) :
    ∃ st1', stepI P pol call en ops j st = some (st1', rj) ∧ stepI P pol call en ops i st1' = some (st2, ri) := by
  unfold stepI at h1 h2 ⊢
  split at h1
  · cases h1
  rename_i r1 q1
  split at h1
  · cases h1
  rename_i v1 m1 a1
  cases h1
  split at h2
  · cases h2
  rename_i r2 q2
  split at h2
  · cases h2
  rename_i v2 m2 a2
  cases h2
  obtain ⟨m1', b1, b2⟩ := act_swap hp hl hc a1 a2
  have q2' : reqI P pol ops j st.tmps = some rj := by rw [← q2]; exact reqI_congr fun t ht => (put_get (hi.1 t ht)).symm
  have q1' : reqI P pol ops i (put st.tmps (dstI ops j) v2) = some ri := by rw [← q1]; exact reqI_congr fun t ht => put_get (hi.2 t ht)
  refine ⟨⟨put st.tmps (dstI ops j) v2, m1'⟩, by simp only [q2', b1], ?_⟩
  simp only [q1', b2]
  rw [put_comm (ts := st.tmps) (d := dstI ops i) (d' := dstI ops j) fun t ht => hi.2 t (dst_names ht)]
end
end Go.Proofs.YtcmjidnbbfcbjaaGreatDoor.V
/- Whatever order a region draws, it comes to the same; so the VM is sound with no condition but the program's own facts. -/
namespace Go.Proofs.YtcmjidnbbfcbjaaGreatDoor.V
open Go
set_option linter.unusedVariables false
set_option linter.unusedSimpArgs false
noncomputable section
variable {P : Program} {pol : Pol}

theorem act_keep {call : CallT} (hk : CallKeep call) {en : Env} {r : Req} {m m' : Mem} {v : AV} (h : act call en r m = some (v, m')) : Keep en m m' := by
  unfold act at h
  split at h
  · exact hk _ _ _ _ _ _ h
  · exact perform_keep h
theorem stepI_keep {call : CallT} (hk : CallKeep call) {en : Env} {ops : List Oper} {i : Nat} {st st' : St} {r : Req} (h : stepI P pol call en ops i st = some (st', r)) : st.mem.length ≤ st'.mem.length := by
  unfold stepI at h
  split at h
  · cases h
  split at h
  · cases h
  rename_i v m h1
  cases h
  exact (act_keep hk h1).len

/-- Of two operations of a trace that no edge orders, neither meddles. -/
def Peace (pol : Pol) (ml : Nat) (b : List Nat) (tr : List (Nat × Req)) : Prop :=
  ∀ i ri j rj, (i, ri) ∈ tr → (j, rj) ∈ tr → i < j → ordered b i j = false → (ri.foot pol).loud = true → (rj.foot pol).loud = true → confl ml (ri.foot pol) (rj.foot pol) = false
theorem Peace.sub {ml : Nat} {b : List Nat} {tr tr' : List (Nat × Req)} (h : Peace pol ml b tr) (hs : ∀ x ∈ tr', x ∈ tr) : Peace pol ml b tr' :=
  fun i ri j rj hi hj => h i ri j rj (hs _ hi) (hs _ hj)

theorem move_front {call : CallT} (hp : PureOk pol call) (hk : CallKeep call) {en : Env} {ops : List Oper} {b : List Nat} {ml h : Nat} {c : List Nat} : ∀ (a : List Nat) {st st' : St} {tr : List (Nat × Req)},
    runI P pol call en ops (a ++ h :: c) st = some (st', tr) → (∀ x ∈ a, x < h ∧ ordered b x h = false ∧ Indep ops x h) → Peace pol ml b tr → ml ≤ st.mem.length →
    ∃ tr', runI P pol call en ops (h :: (a ++ c)) st = some (st', tr') ∧ ∀ x, x ∈ tr' ↔ x ∈ tr
  | [], st, st', tr, hr, _, _, _ => ⟨tr, hr, fun _ => Iff.rfl⟩
  | x :: a, st, st', tr, hr, ha, hP, hl => by
    rw [List.cons_append, runI_cons] at hr
    split at hr
    · cases hr
    rename_i st1 rx h1
    split at hr
    · cases hr
    rename_i st2 tr1 h2
    cases hr
    obtain ⟨tr2, h3, h4⟩ := move_front hp hk a h2 (fun y hy => ha y (by simp [hy])) (hP.sub fun y hy => by simp [hy]) (Nat.le_trans hl (stepI_keep hk h1))
    rw [runI_cons] at h3
    split at h3
    · cases h3
    rename_i st3 rh h5
    split at h3
    · cases h3
    rename_i st4 tr3 h6
    cases h3
    obtain ⟨x1, x2, x3⟩ := ha x (by simp)
    have hmem : (h, rh) ∈ tr1 := (h4 _).1 (by simp)
    obtain ⟨st1', s1, s2⟩ := stepI_swap hp hl x3 (hP x rx h rh (by simp) (by simp [hmem]) x1 x2) h1 h5
    refine ⟨(h, rh) :: (x, rx) :: tr3, ?_, fun y => ?_⟩
    · rw [runI_cons, s1]; simp only
      rw [List.cons_append, runI_cons, s2]; simp only [h6]
    · simp only [List.mem_cons, ← h4 y]
      constructor
      · rintro (h | h | h) <;> simp [h]
      · rintro (h | h | h) <;> simp [h]

theorem reorder {call : CallT} (hp : PureOk pol call) (hk : CallKeep call) {en : Env} {ops : List Oper} {b : List Nat} {ml : Nat} : ∀ (l2 l1 : List Nat) {st st' : St} {tr : List (Nat × Req)},
    runI P pol call en ops l1 st = some (st', tr) → l1.Pairwise (· < ·) → l1.Perm l2 → l2.Pairwise (fun h x => x < h → ordered b x h = false) →
    (∀ x ∈ l2, ∀ h ∈ l2, x < h → ordered b x h = false → Indep ops x h) → Peace pol ml b tr → ml ≤ st.mem.length → ∃ tr', runI P pol call en ops l2 st = some (st', tr')
  | [], l1, st, st', tr, hr, _, hpm, _, _, _, _ => by
    rw [List.perm_nil] at hpm; subst hpm; exact ⟨tr, hr⟩
  | h :: l2, l1, st, st', tr, hr, hs, hpm, hpw, hI, hP, hl => by
    have hm : h ∈ l1 := hpm.symm.subset (by simp)
    obtain ⟨a, c, rfl⟩ := List.append_of_mem hm
    have hpm2 : (a ++ c).Perm l2 := by
      have : (h :: (a ++ c)).Perm (h :: l2) := (List.perm_middle.symm).trans hpm
      exact this.cons_inv
    have hss := List.pairwise_append.1 hs
    obtain ⟨hpw1, hpw2⟩ := List.pairwise_cons.1 hpw
    obtain ⟨tr', h1, h2⟩ := move_front hp hk a hr (fun x hx => by
      have hxh : x < h := hss.2.2 x hx h (by simp)
      have hx2 : x ∈ l2 := hpm2.subset (by simp [hx])
      have ho := hpw1 x hx2 hxh
      exact ⟨hxh, ho, hI x (by simp [hx2]) h (by simp) hxh ho⟩) hP hl
    rw [runI_cons] at h1
    split at h1
    · cases h1
    rename_i st1 rh s1
    split at h1
    · cases h1
    rename_i st2 tr1 s2
    cases h1
    have hs2 : (a ++ c).Pairwise (· < ·) := by
      refine List.pairwise_append.2 ⟨hss.1, (List.pairwise_cons.1 hss.2.1).2, fun x hx y hy => hss.2.2 x hx y (by simp [hy])⟩
    obtain ⟨tr3, h3⟩ := reorder hp hk l2 (a ++ c) s2 hs2 hpm2 hpw2 (fun x hx y hy => hI x (by simp [hx]) y (by simp [hy])) (hP.sub fun y hy => (h2 y).1 (by simp [hy])) (Nat.le_trans hl (stepI_keep hk s1))
    refine ⟨(h, rh) :: tr3, ?_⟩
    rw [runI_cons, s1]; simp only [h3]

/-! The table of what comes ahead. -/
theorem msk_fold {acc : List Nat} {x : Nat} : ∀ (es : List Edge) (s : Nat), (es.foldl (fun s e => if Region.binds .any e then s ||| 2 ^ e.on ||| acc.getD e.on 0 else s) s).testBit x = true →
    s.testBit x = true ∨ ∃ e ∈ es, Region.binds .any e = true ∧ (e.on = x ∨ (acc.getD e.on 0).testBit x = true)
  | [], s, h => Or.inl h
  | e :: es, s, h => by
    rw [List.foldl_cons] at h
    rcases msk_fold es _ h with h | ⟨e', h1, h2, h3⟩
    · split at h
      · rename_i hb
        simp only [Nat.testBit_or, Bool.or_eq_true, Nat.testBit_two_pow, decide_eq_true_eq] at h
        rcases h with (h | h) | h
        · exact Or.inl h
        · exact Or.inr ⟨e, by simp, hb, Or.inl h⟩
        · exact Or.inr ⟨e, by simp, hb, Or.inr h⟩
      · exact Or.inl h
    · exact Or.inr ⟨e', by simp [h1], h2, h3⟩
theorem msk_bit {acc : List Nat} {o : Oper} {x : Nat} (h : (msk acc o).testBit x = true) : ∃ e ∈ o.after.toList, Region.binds .any e = true ∧ (e.on = x ∨ (acc.getD e.on 0).testBit x = true) := by
  rcases msk_fold _ _ h with h | h
  · simp at h
  · exact h
theorem bef_fold : ∀ (ops : List Oper) (acc : List Nat), ∃ l, ops.foldl (fun acc o => acc ++ [msk acc o]) acc = acc ++ l ∧ l.length = ops.length ∧ ∀ i o, ops[i]? = some o → l[i]? = some (msk (acc ++ l.take i) o)
  | [], acc => ⟨[], by simp, rfl, by simp⟩
  | o :: ops, acc => by
    obtain ⟨l, h1, h2, h3⟩ := bef_fold ops (acc ++ [msk acc o])
    refine ⟨msk acc o :: l, by rw [List.foldl_cons, h1]; simp, by simp [h2], fun i o' hi => ?_⟩
    cases i with
    | zero => simp at hi; subst hi; simp
    | succ i =>
      have := h3 i o' (by simpa using hi)
      simpa using this
theorem bef_get {ops : List Oper} {i : Nat} {o : Oper} (h : ops[i]? = some o) : (bef ops)[i]? = some (msk ((bef ops).take i) o) := by
  obtain ⟨l, h1, h2, h3⟩ := bef_fold ops []
  unfold bef
  rw [h1]
  simpa using h3 i o h

/-- All binding edges lead back. -/
def Back (ops : Array Oper) : Prop := ∀ (j : Nat) o, ops[j]? = some o → ∀ e ∈ o.after, Region.binds .any e = true → e.on < j
theorem ordered_edge {ops : Array Oper} (hb : Back ops) {x h : Nat} (hx : x < h) (ho : ordered (bef ops.toList) x h = true) : ∃ o, ops[h]? = some o ∧ ∃ e ∈ o.after, Region.binds .any e = true ∧ (e.on = x ∨ (((bef ops.toList).getD e.on 0).testBit x = true)) := by
  unfold ordered at ho
  rw [Nat.max_eq_right (by omega), Nat.min_eq_left (by omega)] at ho
  cases hh : ops[h]? with
  | none =>
    obtain ⟨l, h1, h2, h3⟩ := bef_fold ops.toList []
    have hlen : (bef ops.toList)[h]? = none := by
      have hsz : ops.toList.length = ops.size := by simp
      unfold bef; rw [h1]; simp at hh ⊢; omega
    rw [List.getD_eq_getElem?_getD, hlen] at ho
    simp at ho
  | some o =>
    have hg := bef_get (ops := ops.toList) (i := h) (o := o) (by simpa using hh)
    rw [List.getD_eq_getElem?_getD, hg, Option.getD_some] at ho
    obtain ⟨e, h1, h2, h3⟩ := msk_bit ho
    have he : e ∈ o.after := Array.mem_toList_iff.1 h1
    refine ⟨o, rfl, e, he, h2, ?_⟩
    rcases h3 with h3 | h3
    · exact Or.inl h3
    · refine Or.inr ?_
      have hlt := hb h o hh e he h2
      rw [List.getD_eq_getElem?_getD, List.getElem?_take, if_pos hlt] at h3
      rw [List.getD_eq_getElem?_getD]; exact h3

/-! The orders that a region draws. -/
def Closed (ops : Array Oper) (S L : List Nat) : Prop := ∀ p h q, L = p ++ h :: q → ∀ o, ops[h]? = some o → ∀ e ∈ o.after, Region.binds .any e = true → e.on ∈ S ∨ e.on ∈ p
theorem least : ∀ (l : List Nat), l ≠ [] → ∃ m ∈ l, ∀ k ∈ l, m ≤ k
  | [], h => (h rfl).elim
  | [a], _ => ⟨a, by simp, by simp⟩
  | a :: b :: l, _ => by
    obtain ⟨m, h1, h2⟩ := least (b :: l) (by simp)
    by_cases h : a ≤ m
    · exact ⟨a, by simp, fun k hk => by
        rcases List.mem_cons.1 hk with rfl | hk
        · exact Nat.le_refl _
        · exact Nat.le_trans h (h2 k hk)⟩
    · exact ⟨m, by simp [h1], fun k hk => by
        rcases List.mem_cons.1 hk with rfl | hk
        · omega
        · exact h2 k hk⟩
def Lst (listed : Array Bool) (n : Nat) (S : List Nat) : Prop := listed.size = n ∧ ∀ i, i < n → listed[i]? = some (decide (i ∈ S))
theorem Lst.getD {listed : Array Bool} {n : Nat} {S : List Nat} (h : Lst listed n S) {i : Nat} (hi : i < n) (d : Bool) : listed.getD i d = decide (i ∈ S) := by
  rw [Array.getD_eq_getD_getElem?, h.2 i hi]; rfl
theorem ready_iff {ops : Array Oper} {listed : Array Bool} {S : List Nat} (h : Lst listed ops.size S) (i : Nat) : i ∈ Region.ready .any ops listed ↔ i < ops.size ∧ i ∉ S ∧ ∃ o, ops[i]? = some o ∧ ∀ e ∈ o.after, Region.binds .any e = true → e.on < ops.size ∧ e.on ∈ S := by
  unfold Region.ready
  rw [List.mem_filter, List.mem_range, Bool.and_eq_true]
  constructor
  · rintro ⟨hi, h1, h2⟩
    rw [h.getD hi] at h1
    refine ⟨hi, by simpa using h1, ops[i], Array.getElem?_eq_getElem hi, fun e he hb => ?_⟩
    rw [Array.getElem?_eq_getElem hi] at h2
    simp only [Option.map_some, Option.getD_some, Array.all_eq_true_iff_forall_mem] at h2
    have := h2 e he
    rw [hb] at this
    simp only [Bool.not_true, Bool.false_or] at this
    by_cases hs : e.on < ops.size
    · rw [h.getD hs] at this
      exact ⟨hs, by simpa using this⟩
    · rw [Array.getD_eq_getD_getElem?, Array.getElem?_eq_none (by rw [h.1]; omega)] at this
      simp at this
  · rintro ⟨hi, h1, o, ho, h2⟩
    refine ⟨hi, by rw [h.getD hi]; simpa using h1, ?_⟩
    rw [ho]
    simp only [Option.map_some, Option.getD_some, Array.all_eq_true_iff_forall_mem]
    intro e he
    cases hb : Region.binds .any e with
    | false => rfl
    | true =>
      obtain ⟨h3, h4⟩ := h2 e he hb
      rw [h.getD h3]; simpa using h4
theorem go_spec {ops : Array Oper} (hb : Back ops) : ∀ (fuel t : Nat) (listed : Array Bool) (S U : List Nat), Lst listed ops.size S → U.Nodup → (∀ i, i ∈ U ↔ i < ops.size ∧ i ∉ S) → U.length = fuel →
    (Region.linearise.go .any ops fuel t listed []).Perm U ∧ Closed ops S (Region.linearise.go .any ops fuel t listed [])
  | 0, t, listed, S, U, _, _, _, hf => by
    have : U = [] := List.eq_nil_of_length_eq_zero hf
    subst this
    exact ⟨by simp [Region.linearise.go], by intro p h q hq; simp [Region.linearise.go] at hq⟩
  | fuel + 1, t, listed, S, U, hL, hn, hU, hf => by
    have hne : U ≠ [] := by rintro rfl; simp at hf
    obtain ⟨m, hm, hmin⟩ := least U hne
    have hmr : m ∈ Region.ready .any ops listed := by
      obtain ⟨h1, h2⟩ := (hU m).1 hm
      refine (ready_iff hL m).2 ⟨h1, h2, ops[m], Array.getElem?_eq_getElem h1, fun e he hbd => ?_⟩
      have hlt := hb m _ (Array.getElem?_eq_getElem h1) e he hbd
      refine ⟨by omega, ?_⟩
      by_cases hs : e.on ∈ S
      · exact hs
      · have := hmin e.on ((hU _).2 ⟨by omega, hs⟩); omega
    have hpos : 0 < (Region.ready .any ops listed).length := List.length_pos_of_mem hmr
    have hlt := Nat.mod_lt t hpos
    obtain ⟨i, hi⟩ : ∃ i, (Region.ready .any ops listed)[t % (Region.ready .any ops listed).length]? = some i := ⟨_, List.getElem?_eq_getElem hlt⟩
    have hgo : Region.linearise.go .any ops (fuel + 1) t listed [] = i :: Region.linearise.go .any ops fuel (t / (Region.ready .any ops listed).length) (listed.setIfInBounds i true) [] := by
      simp only [Region.linearise.go]
      change (match (Region.ready .any ops listed)[t % (Region.ready .any ops listed).length]? with
        | some i => Region.linearise.go .any ops fuel (t / (Region.ready .any ops listed).length) (listed.setIfInBounds i true) [i]
        | none => [].reverse) = _
      rw [hi]; simp only
      rw [linearise_go_acc, List.reverse_singleton, List.singleton_append]
    obtain ⟨i1, i2, o, ho, i3⟩ := (ready_iff hL i).1 (List.mem_of_getElem? hi)
    have hiU : i ∈ U := (hU i).2 ⟨i1, i2⟩
    have hL' : Lst (listed.setIfInBounds i true) ops.size (i :: S) := by
      refine ⟨by simp [hL.1], fun j hj => ?_⟩
      by_cases hji : i = j
      · subst hji; rw [Array.getElem?_setIfInBounds_self_of_lt (by rw [hL.1]; exact hj)]; simp
      · rw [Array.getElem?_setIfInBounds_ne hji, hL.2 j hj]
        have : j ≠ i := fun h => hji h.symm
        simp [this]
    obtain ⟨g1, g2⟩ := go_spec hb fuel (t / (Region.ready .any ops listed).length) _ (i :: S) (U.erase i) hL' (hn.erase i) (fun j => by
      rw [hn.mem_erase_iff, hU j]; simp only [List.mem_cons, not_or]
      constructor
      · rintro ⟨h1, h2, h3⟩; exact ⟨h2, h1, h3⟩
      · rintro ⟨h1, h2, h3⟩; exact ⟨h2, h1, h3⟩) (by rw [List.length_erase_of_mem hiU, hf]; rfl)
    rw [hgo]
    refine ⟨(g1.cons i).trans (List.perm_cons_erase hiU).symm, fun p h q hq o' ho' e he hbd => ?_⟩
    cases p with
    | nil =>
      simp only [List.nil_append, List.cons.injEq] at hq
      obtain ⟨rfl, _⟩ := hq
      rw [ho] at ho'; cases ho'
      exact Or.inl (i3 e he hbd).2
    | cons y p =>
      simp only [List.cons_append, List.cons.injEq] at hq
      obtain ⟨rfl, hq⟩ := hq
      rcases g2 p h q hq o' ho' e he hbd with h1 | h1
      · rcases List.mem_cons.1 h1 with h1 | h1
        · exact Or.inr (by simp [h1])
        · exact Or.inl h1
      · exact Or.inr (by simp [h1])
theorem closed_anc {ops : Array Oper} (hb : Back ops) {L : List Nat} (hC : Closed ops [] L) : ∀ (n h : Nat), h ≤ n → ∀ p q, L = p ++ h :: q → ∀ x, x < h → ordered (bef ops.toList) x h = true → x ∈ p
  | 0, h, hn, p, q, hq, x, hx, ho => by omega
  | n + 1, h, hn, p, q, hq, x, hx, ho => by
    obtain ⟨o, h1, e, h2, h3, h4⟩ := ordered_edge hb hx ho
    have he := hC p h q hq o h1 e h2 h3
    simp only [List.not_mem_nil, false_or] at he
    rcases h4 with h4 | h4
    · rw [← h4]; exact he
    · have hlt := hb h o h1 e h2 h3
      obtain ⟨p1, p2, rfl⟩ := List.append_of_mem he
      by_cases hxe : x < e.on
      · have ho' : ordered (bef ops.toList) x e.on = true := by
          unfold ordered; rw [Nat.max_eq_right (by omega), Nat.min_eq_left (by omega)]; exact h4
        have := closed_anc hb hC n e.on (by omega) p1 (p2 ++ h :: q) (by rw [hq]; simp) x hxe ho'
        simp [this]
      · exfalso
        cases hee : ops[e.on]? with
        | none =>
          have hs : ops.size ≤ e.on := by simpa using hee
          have : h < ops.size := by
            have := Array.getElem?_eq_some_iff.1 h1; obtain ⟨h5, _⟩ := this; exact h5
          omega
        | some oe =>
          have key : ∀ (k : Nat) oe, ops[k]? = some oe → ∀ x, k ≤ x → ((bef ops.toList).getD k 0).testBit x = false := by
            intro k
            induction k using Nat.strongRecOn with
            | ind k ih =>
              intro oe hk x hkx
              cases hbit : ((bef ops.toList).getD k 0).testBit x with
              | false => rfl
              | true =>
                exfalso
                have hg := bef_get (ops := ops.toList) (i := k) (o := oe) (by simpa using hk)
                rw [List.getD_eq_getElem?_getD, hg, Option.getD_some] at hbit
                obtain ⟨e', k1, k2, k3⟩ := msk_bit hbit
                have hlt' := hb k oe hk e' (Array.mem_toList_iff.1 k1) k2
                rcases k3 with k3 | k3
                · omega
                · rw [List.getD_eq_getElem?_getD, List.getElem?_take, if_pos hlt', ← List.getD_eq_getElem?_getD] at k3
                  have hks : k < ops.size := (Array.getElem?_eq_some_iff.1 hk).1
                  have := ih e'.on hlt' _ (Array.getElem?_eq_getElem (by omega)) x (by omega)
                  rw [this] at k3; cases k3
          have := key e.on oe hee x (by omega)
          rw [this] at h4; cases h4
theorem sched_spec {ops : Array Oper} (hb : Back ops) (t : Nat) : (Region.schedule true ops t).Perm (List.range ops.size) ∧ (Region.schedule true ops t).Pairwise (fun h x => x < h → ordered (bef ops.toList) x h = false) := by
  have hsc : Region.schedule true ops t = Region.linearise.go .any ops ops.size t (Array.replicate ops.size false) [] := by
    simp [Region.schedule, Region.linearise]
  rw [hsc]
  obtain ⟨h1, h2⟩ := go_spec hb ops.size t (Array.replicate ops.size false) [] (List.range ops.size) ⟨by simp, fun i hi => by simp [hi]⟩ List.nodup_range (fun i => by simp) (by simp)
  refine ⟨h1, ?_⟩
  have hnd : (Region.linearise.go .any ops ops.size t (Array.replicate ops.size false) []).Nodup := h1.nodup_iff.2 List.nodup_range
  rw [List.pairwise_iff_forall_sublist]
  intro h x hsub hx
  cases ho : ordered (bef ops.toList) x h with
  | false => rfl
  | true =>
    exfalso
    have hh : h ∈ Region.linearise.go .any ops ops.size t (Array.replicate ops.size false) [] := hsub.subset (by simp)
    obtain ⟨p, q, hq⟩ := List.append_of_mem hh
    have hxp := closed_anc hb h2 h h (Nat.le_refl _) p q hq x hx ho
    rw [hq] at hsub hnd
    have hn2 := List.nodup_append.1 hnd
    -- h then x is a sublist of p ++ h :: q, but x lies in p, and h does not
    have hhp : h ∉ p := fun hp => hn2.2.2 h hp h (by simp) rfl
    rw [List.sublist_append_iff] at hsub
    obtain ⟨l1, l2, e1, e2, e3⟩ := hsub
    cases l1 with
    | nil =>
      simp only [List.nil_append] at e1
      subst e1
      have hxq : x ∈ h :: q := e3.subset (by simp)
      exact hn2.2.2 x hxp x hxq rfl
    | cons y l1 =>
      simp only [List.cons_append, List.cons.injEq] at e1
      obtain ⟨rfl, _⟩ := e1
      exact hhp (e2.subset (by simp))

theorem draw_ok : DrawOk P pol := by
  intro call hp hk en ops st st' tr hr hs hpc t
  simp only [drawStatic, Bool.and_eq_true] at hs
  obtain ⟨⟨_, hs1⟩, hs2⟩ := hs
  have hmemz : ∀ {j : Nat} {o : Oper}, ops[j]? = some o → (o, j) ∈ ops.toList.zipIdx := fun {j o} h => by
    rw [List.mk_mem_zipIdx_iff_getElem?]; simpa using h
  have hb : Back ops := fun j o ho e he hbd => by
    have := List.all_eq_true.1 hs1 (o, j) (hmemz ho)
    have := List.all_eq_true.1 this e (Array.mem_toList_iff.2 he)
    rw [hbd] at this
    simpa using this
  obtain ⟨g1, g2⟩ := sched_spec hb t
  refine reorder hp hk (b := bef ops.toList) (ml := st.mem.length) _ _ hr List.pairwise_lt_range g1.symm g2 (fun x hx h hh hxh ho => ?_) (fun i ri j rj hi hj hij hor hl1 hl2 => ?_) (Nat.le_refl _)
  · have half : ∀ i j : Nat, i ≠ j → ordered (bef ops.toList) i j = false → ∀ t ∈ namesI ops.toList j, dstI ops.toList i ≠ some t := by
      intro i j hij hor t ht hd
      unfold namesI at ht
      split at ht
      · cases ht
      rename_i oj hoj
      unfold dstI at hd
      cases hoi : ops.toList[i]? with
      | none => rw [hoi] at hd; cases hd
      | some oi =>
        rw [hoi, Option.bind_some] at hd
        have := List.all_eq_true.1 hs2 (oj, j) (hmemz (by simpa using hoj))
        have := List.all_eq_true.1 this t ht
        have := List.all_eq_true.1 this (oi, i) (hmemz (by simpa using hoi))
        rw [hor] at this
        simp [hd, hij] at this
    refine ⟨half x h (by omega) ho, half h x (by omega) ?_⟩
    unfold ordered at ho ⊢
    rw [Nat.max_comm, Nat.min_comm]; exact ho
  · have := List.all_eq_true.1 hpc (j, rj) (List.mem_filter.2 ⟨hj, hl2⟩)
    have := List.all_eq_true.1 this (i, ri) (List.mem_filter.2 ⟨hi, hl1⟩)
    simp only [hor, Bool.or_false] at this
    simpa [hij] using this
/-- The pairs of operations of a trace that no edge orders. -/
def pairsU (pol : Pol) (ops : Array Oper) (tr : List (Nat × Req)) : List (Foot × Foot) :=
  let b := bef ops.toList
  let loud := tr.filter fun x => (x.2.foot pol).loud
  loud.flatMap fun (j, rj) => (loud.filter fun (i, ri) => decide (i < j) && !ordered b i j).map fun (i, ri) => (ri.foot pol, rj.foot pol)
theorem peace_of {ml : Nat} {ops : Array Oper} {tr : List (Nat × Req)} {L : List (Foot × Foot)} (h : pairsU pol ops tr = L) (hL : ∀ p ∈ L, confl ml p.1 p.2 = false) : peace pol ml ops tr = true := by
  subst h
  simp only [peace, List.all_eq_true]
  rintro ⟨j, rj⟩ hj ⟨i, ri⟩ hi
  simp only [Bool.or_eq_true, Bool.not_eq_true']
  by_cases h1 : i < j
  · by_cases h2 : ordered (bef ops.toList) i j = true
    · exact Or.inl (Or.inr h2)
    · have h2' : ordered (bef ops.toList) i j = false := by simpa using h2
      refine Or.inr (hL (ri.foot pol, rj.foot pol) ?_)
      unfold pairsU
      refine List.mem_flatMap.2 ⟨(j, rj), hj, List.mem_map.2 ⟨(i, ri), List.mem_filter.2 ⟨hi, ?_⟩, rfl⟩⟩
      show (decide (i < j) && !ordered (bef ops.toList) i j) = true
      rw [h2']; simp [h1]
  · exact Or.inl (Or.inl (by simpa using h1))

theorem vm_ok (hG : GoodP P pol) (n : Nat) : CallOk P pol (vrun P pol n).call ∧ ExOk P pol (vrun P pol n).ex := vrun_ok hG draw_ok n
end
end Go.Proofs.YtcmjidnbbfcbjaaGreatDoor.V
/- Runs of the VM without their fuel, and rules to show what code comes to; no condition. -/
namespace Go.Proofs.YtcmjidnbbfcbjaaGreatDoor.V
open Go
set_option linter.unusedVariables false
set_option linter.unusedSimpArgs false
noncomputable section
section
variable (P : Program) (pol : Pol)

/-- The call comes to 'v', whatever the fuel from some on. -/
def CallR (en : Env) (fn : Fn) (args : List AV) (m : Mem) (v : AV) (m' : Mem) : Prop := ∃ N, ∀ n, N ≤ n → (vrun P pol n).call en fn args m = some (v, m')
def WC (en : Env) (fn : Fn) (args : List AV) (m : Mem) (Q : AV → Mem → Prop) : Prop := ∃ v m', CallR P pol en fn args m v m' ∧ Q v m'
def W (en : Env) (c : Code) (st : St) (Q : X → St → Prop) : Prop := ∃ x st', (∃ N, ∀ n, N ≤ n → (vrun P pol n).ex en c st = some (x, st')) ∧ Q x st'
def WL (en : Env) (ops : List Oper) (l : List Oper) (st : St) (Q : St → Prop) : Prop := ∃ st', (∃ N, ∀ n, N ≤ n → runL P pol (vrun P pol n).call en ops l st = some st') ∧ Q st'
def WI (en : Env) (ops : List Oper) (l : List Nat) (st : St) (Q : St → List (Nat × Req) → Prop) : Prop := ∃ st' tr, (∃ N, ∀ n, N ≤ n → runI P pol (vrun P pol n).call en ops l st = some (st', tr)) ∧ Q st' tr
/-- One operation that is wanted. -/
def WO (en : Env) (o : Oper) (st : St) (Q : St → Req → Prop) : Prop :=
  match plan P (opnd pol st.tmps) o with
  | none => False
  | some (.call fn args) => WC P pol en fn args st.mem fun v m => Q ⟨put st.tmps o.dst v, m⟩ (.call fn args)
  | some r => match perform en r st.mem with
    | none => False
    | some (v, m) => Q ⟨put st.tmps o.dst v, m⟩ r
end
variable {P : Program} {pol : Pol}

theorem WO.get {en : Env} {o : Oper} {st : St} {Q : St → Req → Prop} (h : WO P pol en o st Q) : ∃ st' r, (∃ N, ∀ n, N ≤ n → oneOp P pol (vrun P pol n).call en o st = some (st', r)) ∧ Q st' r := by
  unfold WO at h
  split at h
  · exact h.elim
  · rename_i fn args hp
    obtain ⟨v, m', ⟨N, hN⟩, hQ⟩ := h
    exact ⟨_, _, ⟨N, fun n hn => by rw [oneOp_eq]; simp only [hp, hN n hn]⟩, hQ⟩
  · rename_i r hnc hp
    split at h
    · exact h.elim
    · rename_i v m hr
      refine ⟨_, _, ⟨0, fun n _ => ?_⟩, h⟩
      rw [oneOp_eq]; simp only [hp]
      cases r with
      | call fn args => exact (hnc fn args rfl).elim
      | _ => simp only [hr]
theorem WL.nil {en : Env} {ops : List Oper} {st : St} {Q : St → Prop} (h : Q st) : WL P pol en ops [] st Q := ⟨st, ⟨0, fun _ _ => rfl⟩, h⟩
theorem WL.cons {en : Env} {ops : List Oper} {o : Oper} {l : List Oper} {st : St} {Q : St → Prop}
    (h : if wantedA ops o st.tmps = true then WO P pol en o st fun st _ => WL P pol en ops l st Q else WL P pol en ops l ⟨put st.tmps o.dst und, st.mem⟩ Q) : WL P pol en ops (o :: l) st Q := by
  split at h
  · rename_i hw
    obtain ⟨st1, r, ⟨N, hN⟩, st2, ⟨M, hM⟩, hQ⟩ := h.get
    refine ⟨st2, ⟨max N M, fun n hn => ?_⟩, hQ⟩
    simp only [runL, if_pos hw, hN n (by omega), hM n (by omega)]
  · rename_i hw
    obtain ⟨st2, ⟨M, hM⟩, hQ⟩ := h
    refine ⟨st2, ⟨M, fun n hn => ?_⟩, hQ⟩
    simp only [runL, if_neg hw, putT_eq, hM n hn]
theorem WI.nil {en : Env} {ops : List Oper} {st : St} {Q : St → List (Nat × Req) → Prop} (h : Q st []) : WI P pol en ops [] st Q := ⟨st, [], ⟨0, fun _ _ => rfl⟩, h⟩
theorem WI.cons {en : Env} {ops : List Oper} {i : Nat} {o : Oper} {l : List Nat} {st : St} {Q : St → List (Nat × Req) → Prop} (ho : lget ops i = some o)
    (h : if wantedA ops o st.tmps = true then WO P pol en o st fun st r => WI P pol en ops l st fun st tr => Q st ((i, r) :: tr) else WI P pol en ops l ⟨put st.tmps o.dst und, st.mem⟩ fun st tr => Q st ((i, .val und) :: tr)) : WI P pol en ops (i :: l) st Q := by
  split at h
  · rename_i hw
    obtain ⟨st1, r, ⟨N, hN⟩, st2, tr, ⟨M, hM⟩, hQ⟩ := h.get
    refine ⟨st2, _, ⟨max N M, fun n hn => ?_⟩, hQ⟩
    simp only [runI, ho, if_pos hw, hN n (by omega), hM n (by omega)]
  · rename_i hw
    obtain ⟨st2, tr, ⟨M, hM⟩, hQ⟩ := h
    refine ⟨st2, _, ⟨M, fun n hn => ?_⟩, hQ⟩
    simp only [runI, ho, if_neg hw, putT_eq, hM n hn]

theorem vrun_succ (n : Nat) : vrun P pol (n + 1) = stepV P pol (vrun P pol n) := rfl
theorem ex_of {en : Env} {c : Code} {st : St} {y : Option (X × St)} (h : ∃ N, ∀ n, N ≤ n → (stepV P pol (vrun P pol n)).ex en c st = y) : ∃ N, ∀ n, N ≤ n → (vrun P pol n).ex en c st = y := by
  obtain ⟨N, hN⟩ := h
  refine ⟨N + 1, fun n hn => ?_⟩
  obtain ⟨k, rfl⟩ : ∃ k, n = k + 1 := ⟨n - 1, by omega⟩
  exact hN k (by omega)
theorem W.mono {en : Env} {c : Code} {st : St} {Q Q' : X → St → Prop} (h : W P pol en c st Q) (hq : ∀ x st, Q x st → Q' x st) : W P pol en c st Q' := by
  obtain ⟨x, st', h1, h2⟩ := h; exact ⟨x, st', h1, hq _ _ h2⟩
theorem WC.mono {en : Env} {fn : Fn} {args : List AV} {m : Mem} {Q Q' : AV → Mem → Prop} (h : WC P pol en fn args m Q) (hq : ∀ v m, Q v m → Q' v m) : WC P pol en fn args m Q' := by
  obtain ⟨x, st', h1, h2⟩ := h; exact ⟨x, st', h1, hq _ _ h2⟩
theorem W.skip {en : Env} {st : St} {Q : X → St → Prop} (h : Q .normal st) : W P pol en .skip st Q := ⟨_, _, ex_of ⟨0, fun _ _ => rfl⟩, h⟩
theorem W.label {en : Env} {l : Nat} {st : St} {Q : X → St → Prop} (h : Q .normal st) : W P pol en (.label l) st Q := ⟨_, _, ex_of ⟨0, fun _ _ => rfl⟩, h⟩
theorem W.exit {en : Env} {i : Nat} {st : St} {Q : X → St → Prop} (h : Q (.exit i) st) : W P pol en (.exit i) st Q := ⟨_, _, ex_of ⟨0, fun _ _ => rfl⟩, h⟩
theorem W.goto {en : Env} {i : Nat} {st : St} {Q : X → St → Prop} (h : Q (.goto i) st) : W P pol en (.goto i) st Q := ⟨_, _, ex_of ⟨0, fun _ _ => rfl⟩, h⟩
theorem W.ret {en : Env} {st : St} {Q : X → St → Prop} (h : Q .ret st) : W P pol en .ret st Q := ⟨_, _, ex_of ⟨0, fun _ _ => rfl⟩, h⟩
theorem W.region {en : Env} {id : Nat} {ops : Array Oper} {st : St} {Q : X → St → Prop} (h : WL P pol en ops.toList ops.toList st (Q .normal)) : W P pol en (.region id ops false) st Q := by
  obtain ⟨st', ⟨N, hN⟩, hQ⟩ := h
  refine ⟨_, _, ex_of ⟨N, fun n hn => ?_⟩, hQ⟩
  simp only [stepV, Bool.false_eq_true, if_false, hN n hn, Option.map_some]
theorem W.drawn {en : Env} {id : Nat} {ops : Array Oper} {st : St} {Q : X → St → Prop} (hs : drawStatic ops = true)
    (h : WI P pol en ops.toList (List.range ops.size) st fun st' tr => peace pol st.mem.length ops tr = true ∧ Q .normal st') : W P pol en (.region id ops true) st Q := by
  obtain ⟨st', tr, ⟨N, hN⟩, hp, hQ⟩ := h
  refine ⟨_, _, ex_of ⟨N, fun n hn => ?_⟩, hQ⟩
  simp only [stepV, if_true, hN n hn, hs, hp, Bool.and_true, if_true]
theorem W.seq {en : Env} {a b : Code} {st : St} {Q : X → St → Prop} (h : W P pol en a st fun x st => if x = .normal then W P pol en b st Q else Q x st) : W P pol en (.seq a b) st Q := by
  obtain ⟨x, st1, ⟨N, hN⟩, h⟩ := h
  split at h
  · rename_i hx; subst hx
    obtain ⟨x2, st2, ⟨M, hM⟩, hQ⟩ := h
    exact ⟨_, _, ex_of ⟨max N M, fun n hn => by simp only [stepV, hN n (by omega), hM n (by omega)]⟩, hQ⟩
  · rename_i hx
    refine ⟨_, _, ex_of ⟨N, fun n hn => ?_⟩, h⟩
    simp only [stepV, hN n (by omega)]
    split
    · rename_i he; cases he; exact (hx rfl).elim
    · rfl
theorem W.cond {en : Env} {c : Operand} {a b : Code} {st : St} {Q : X → St → Prop} {t : Bool} (hc : opnd pol st.tmps c = some (.sc (.bool t))) (h : W P pol en (if t then a else b) st Q) : W P pol en (.cond c a b) st Q := by
  obtain ⟨x, st1, ⟨N, hN⟩, h⟩ := h
  exact ⟨_, _, ex_of ⟨N, fun n hn => by simp only [stepV, hc, hN n hn]⟩, h⟩
theorem W.block {en : Env} {id : Nat} {a : Code} {st : St} {Q : X → St → Prop} (h : W P pol en a st fun x st => Q (if x = .exit id then .normal else x) st) : W P pol en (.block id a) st Q := by
  obtain ⟨x, st1, ⟨N, hN⟩, h⟩ := h
  refine ⟨_, _, ex_of ⟨N, fun n hn => ?_⟩, h⟩
  simp only [stepV, hN n hn]
  cases x with
  | exit i => simp only [X.exit.injEq]
  | _ => rfl
theorem W.scope {en : Env} {a : Code} {st : St} {Q : X → St → Prop} (h : W P pol en a st fun x st => (∀ l, x ≠ .goto l) ∧ Q x st) : W P pol en (.scope a) st Q := by
  obtain ⟨x, st1, ⟨N, hN⟩, h1, h2⟩ := h
  refine ⟨_, _, ex_of ⟨N, fun n hn => ?_⟩, h2⟩
  simp only [stepV, hN n hn]
  cases x with
  | goto l => exact (h1 l rfl).elim
  | _ => rfl
/-- A loop, by what holds ahead of each round, and a number that falls. -/
theorem W.loop {en : Env} {a : Code} {Q : X → St → Prop} (I : Nat → St → Prop) (step : ∀ k st, I k st → W P pol en a st fun x st => if x = .normal then ∃ k', k' < k ∧ I k' st else Q x st) : ∀ {k : Nat} {st : St}, I k st → W P pol en (.loop a) st Q := by
  intro k
  induction k using Nat.strongRecOn with
  | ind k ih =>
    intro st hI
    obtain ⟨x, st1, ⟨N, hN⟩, h⟩ := step k st hI
    split at h
    · rename_i hx; subst hx
      obtain ⟨k', hk, hI'⟩ := h
      obtain ⟨x2, st2, ⟨M, hM⟩, hQ⟩ := ih k' hk hI'
      exact ⟨_, _, ex_of ⟨max N M, fun n hn => by simp only [stepV, hN n (by omega), hM n (by omega)]⟩, hQ⟩
    · rename_i hx
      refine ⟨_, _, ex_of ⟨N, fun n hn => ?_⟩, h⟩
      simp only [stepV, hN n hn]
      split
      · rename_i he; cases he; exact (hx rfl).elim
      · rfl

/-! Calls of functions. -/
theorem wcall {en : Env} {f : FuncId} {fn : Func} {c : Code} {args : List AV} {m : Mem} {Q : AV → Mem → Prop} (hd : pol.dir f = none) (hf : P.funcs[f]? = some fn) (hb : fn.body = some c) (hne : pol.mode f ≠ .cls)
    (h : W P pol (match pol.mode f with | .opn => en | .mut => ⟨m.length :: en.bases, en.bar⟩ | .pur | .cls => ⟨m.length :: en.bases, m.length⟩) c ⟨args ++ List.replicate (fn.ntmps - args.length) und, m⟩ fun x st =>
      (x = .normal ∨ x = .ret) ∧ ∃ vs, resultsA P st fn.results.toList = some vs ∧
      match pol.mode f with
      | .opn => Q (oneOrTup vs) st.mem
      | .mut => ∃ v, frz st.mem m.length frzDepth (oneOrTup vs) = some v ∧ Q v (st.mem.take m.length)
      | .pur | .cls => ∃ v, frz st.mem m.length frzDepth (oneOrTup vs) = some v ∧ Q v m) : WC P pol en (.func f) args m Q := by
  obtain ⟨x, st, ⟨N, hN⟩, hx, vs, hvs, h⟩ := h
  have up : ∀ r, (∀ n, N ≤ n → callF P pol (vrun P pol n) en f args m = some r) → CallR P pol en (.func f) args m r.1 r.2 := by
    intro r hr
    refine ⟨N + 1, fun n hn => ?_⟩
    obtain ⟨k, rfl⟩ : ∃ k, n = k + 1 := ⟨n - 1, by omega⟩
    exact hr k (by omega)
  cases hm : pol.mode f with
  | opn =>
    simp only [hm] at h hN
    refine ⟨oneOrTup vs, st.mem, up (oneOrTup vs, st.mem) fun n hn => ?_, h⟩
    unfold callF callM
    simp only [hd, hf, hb, fNat_eq, spine_eq, hm, hN n hn, if_pos hx, hvs]
  | «mut» =>
    simp only [hm] at h hN
    obtain ⟨v, hv, h⟩ := h
    refine ⟨_, _, up (_, _) fun n hn => ?_, h⟩
    unfold callF callM
    simp only [hd, hf, hb, fNat_eq, spine_eq, hm, hN n hn, if_pos hx, hvs, hv]
  | pur =>
    simp only [hm] at h hN
    obtain ⟨v, hv, h⟩ := h
    refine ⟨_, _, up (_, _) fun n hn => ?_, h⟩
    unfold callF callM
    simp only [hd, hf, hb, fNat_eq, spine_eq, hm, hN n hn, if_pos hx, hvs, hv]
  | cls => exact (hne hm).elim
/-- A call in a store of its own. -/
theorem wcallC {en : Env} {f : FuncId} {fn : Func} {c : Code} {args args' : List AV} {m : Mem} {Q : AV → Mem → Prop} (hd : pol.dir f = none) (hf : P.funcs[f]? = some fn) (hb : fn.body = some c) (hm : pol.mode f = .cls) (ha : args.mapM (frz m 0 frzDepth) = some args')
    (h : W P pol ⟨[0], 0⟩ c ⟨args' ++ List.replicate (fn.ntmps - args'.length) und, []⟩ fun x st => (x = .normal ∨ x = .ret) ∧ ∃ vs, resultsA P st fn.results.toList = some vs ∧ ∃ v, frz st.mem 0 frzDepth (oneOrTup vs) = some v ∧ flat v = true ∧ Q v m) : WC P pol en (.func f) args m Q := by
  obtain ⟨x, st, ⟨N, hN⟩, hx, vs, hvs, v, hv, hfl, hQ⟩ := h
  refine ⟨v, m, ⟨N + 1, fun n hn => ?_⟩, hQ⟩
  obtain ⟨k, rfl⟩ : ∃ k, n = k + 1 := ⟨n - 1, by omega⟩
  show callF P pol (vrun P pol k) en f args m = _
  have hN' := hN k (by omega)
  unfold callF callM
  simp only [hd, hm, ha, hf, hb, fNat_eq, spine_eq, List.length_nil, hN', if_pos hx, hvs, hv, hfl, if_true]
/-- A call that is known. -/
theorem wcallD {en : Env} {f : FuncId} {d : DirF} {args : List AV} {m : Mem} {v : AV} {m' : Mem} {Q : AV → Mem → Prop} (hd : pol.dir f = some d) (h : d en args m = some (v, m')) (hQ : Q v m') : WC P pol en (.func f) args m Q := by
  refine ⟨v, m', ⟨1, fun n hn => ?_⟩, hQ⟩
  obtain ⟨k, rfl⟩ : ∃ k, n = k + 1 := ⟨n - 1, by omega⟩
  show callF P pol (vrun P pol k) en f args m = _
  unfold callF
  rw [hd]; exact h
end
end Go.Proofs.YtcmjidnbbfcbjaaGreatDoor.V
