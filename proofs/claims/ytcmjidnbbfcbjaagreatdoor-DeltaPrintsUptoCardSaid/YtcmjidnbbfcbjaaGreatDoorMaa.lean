/- Parts of the proof, joined (V1, V2, V3, V4, V5, V6, V7, V8, V9); no condition. -/
import Derived.Calls
import Derived.Laws.Cells
import Derived.Laws.CopyRow
import Derived.Laws.MakeOwn
import Derived.Laws.IdiomStrings
import Derived.Lib.Builder
import Derived.Lib.UnsafeStr
/- A small interpreter ('VM') of the model's code over values without addresses; no condition. -/
namespace Go.Proofs.YtcmjidnbbfcbjaaGreatDoor.V
open Go
set_option linter.unusedVariables false
set_option linter.unusedSimpArgs false
noncomputable section

/-- Values of the VM. 'sc': a bool, a number, a string. 'cptr': a pointer to memory that nobody writes, with the cells from there on. 'lst': a slice over such memory.
'own': a slice of an object in the VM's store. -/
inductive AV where
  | sc (v : Value)
  | nilP | nilS | nilM | nilF | nilI
  | ptr (id ver off : Nat)
  | cptr (cs : List AV)
  | lst (n : Nat) (cs : List AV) (clip : Bool)
  | own (id ver off len esz : Nat)
  | mp (id : Nat)
  | it (id : Nat)
  | any
  | clo (fn : Fn) (first cap : List AV)
  | ifc (t : TypeId) (v : AV)
  | agg (cs : List AV)
  | tup (vs : List AV)
  deriving Inhabited

abbrev und : AV := .tup []
def AV.leaf : AV → Bool
  | .agg _ | .tup _ => false
  | _ => true
def AV.cells : AV → List AV
  | .agg cs => cs
  | v => [v]

def scalar : Value → Bool
  | .bool _ | .int _ _ | .float _ _ | .complex _ _ _ | .string _ => true
  | _ => false

/-- A value of one cell that holds no address. -/
def ofLeaf : Value → Option AV
  | .pointer none => some .nilP
  | .slice none 0 0 => some .nilS
  | .map none => some .nilM
  | .nilFunc => some .nilF
  | .nilIface => some .nilI
  | v => if scalar v then some (.sc v) else none
def ofV1 : Value → Option AV
  | .agg cs => (cs.toList.mapM ofLeaf).map .agg
  | v => ofLeaf v
def ofV : Value → Option AV
  | .tuple vs => (vs.toList.mapM ofV1).map .tup
  | v => ofV1 v

mutual
def AV.toV : AV → Option Value
  | .sc v => some v
  | .nilP => some (.pointer none)
  | .nilS => some (.slice none 0 0)
  | .nilM => some (.map none)
  | .nilF => some .nilFunc
  | .nilI => some .nilIface
  | .agg cs => (AV.toVL cs).map fun l => .agg l.toArray
  | .tup cs => (AV.toVL cs).map fun l => .tuple l.toArray
  | .ifc t v => (AV.toV v).map (.iface t)
  | _ => none
def AV.toVL : List AV → Option (List Value)
  | [] => some []
  | c :: cs => match AV.toV c, AV.toVL cs with
    | some u, some us => some (u :: us)
    | _, _ => none
end

/-- Objects of the store: rows of cells (with a version), maps, the records of loops over functions. -/
inductive Ob where
  | cells (ver : Nat) (cs : List AV)
  | map (es : List (Value × AV))
  | loop (state : LoopState) (pending : Option Code) (tmps : List AV) (params : Array Tmp) (assign body : Code)
  | iter (s : ByteArray) (pos : Nat)
  deriving Inhabited
abbrev Mem := List Ob

/- The kernel is lazy: these give a value on in its normal form. Each is the identity (force_eq ..). -/
def fNat {β : Type} (n : Nat) (k : Nat → β) : β := Nat.casesOn (motive := fun _ => β) n (k 0) (fun m => k (Nat.succ m))
def fInt {β : Type} (n : Int) (k : Int → β) : β :=
  match n with
  | .ofNat a => fNat a fun a => k (.ofNat a)
  | .negSucc a => fNat a fun a => k (.negSucc a)
def fBool {β : Type} (b : Bool) (k : Bool → β) : β :=
  match b with
  | true => k true
  | false => k false
def spine {α β : Type} (l : List α) : (List α → β) → β :=
  List.rec (motive := fun _ => (List α → β) → β) (fun k => k []) (fun a _ ih k => ih fun l => k (a :: l)) l
/-- 'l[i]?' and 'l.set i v', quick in the kernel. -/
def lget {α : Type} (l : List α) : Nat → Option α :=
  List.rec (motive := fun _ => Nat → Option α) (fun _ => none) (fun a _ ih n => Nat.rec (motive := fun _ => Option α) (some a) (fun m _ => ih m) n) l
def lsetK {α β : Type} (v : α) (l : List α) : Nat → (List α → β) → β :=
  List.rec (motive := fun _ => Nat → (List α → β) → β) (fun _ k => k []) (fun a t ih n k => Nat.rec (motive := fun _ => β) (k (v :: t)) (fun m _ => ih m fun l => k (a :: l)) n) l
theorem lget_eq {α : Type} (l : List α) : ∀ i, lget l i = l[i]? := by
  induction l with
  | nil => intro i; rfl
  | cons a t ih => intro i; cases i with
    | zero => rfl
    | succ i => exact (ih i).trans (by simp)
theorem lsetK_eq {α β : Type} (v : α) (l : List α) : ∀ i (k : List α → β), lsetK v l i k = k (l.set i v) := by
  induction l with
  | nil => intro i k; rfl
  | cons a t ih => intro i k; cases i with
    | zero => rfl
    | succ i => exact ih i _
theorem spine_eq {α β : Type} (l : List α) : ∀ k : List α → β, spine l k = k l := by
  induction l with
  | nil => intro k; rfl
  | cons a t ih => intro k; exact ih _
def fVal {β : Type} (v : Value) (k : Value → β) : β :=
  match v with
  | .int i n => fInt n fun n => k (.int i n)
  | .bool b => fBool b fun b => k (.bool b)
  | .string ⟨⟨l⟩⟩ => spine l fun l => k (.string ⟨⟨l⟩⟩)
  | v => k v
mutual
def fA {β : Type} : AV → (AV → β) → β
  | .sc v, k => fVal v fun v => k (.sc v)
  | .ptr a b c, k => fNat a fun a => fNat b fun b => fNat c fun c => k (.ptr a b c)
  | .own a b c d e, k => fNat a fun a => fNat b fun b => fNat c fun c => fNat d fun d => fNat e fun e => k (.own a b c d e)
  | .cptr cs, k => spine cs fun cs => k (.cptr cs)
  | .lst n cs b, k => fNat n fun n => spine cs fun cs => fBool b fun b => k (.lst n cs b)
  | .mp a, k => fNat a fun a => k (.mp a)
  | .it a, k => fNat a fun a => k (.it a)
  | .agg cs, k => fAL cs fun cs => k (.agg cs)
  | .tup cs, k => fAL cs fun cs => k (.tup cs)
  | .ifc t v, k => fA v fun v => k (.ifc t v)
  | .clo f a b, k => spine a fun a => spine b fun b => k (.clo f a b)
  | v, k => k v
def fAL {β : Type} : List AV → (List AV → β) → β
  | [], k => k []
  | c :: cs, k => fA c fun c => fAL cs fun cs => k (c :: cs)
end

/-- A computation of the model that neither reads nor writes the world. -/
def pv {α : Type} (P : Program) : Sem α → Option α
  | .pure a => some a
  | .program k => pv P (k P)
  | _ => none

/-- How calls of a function are run: 'pur': what was there is not written, and the store is put back; 'mut': old objects may be written; 'opn': new objects stay; 'cls': what is handed on is laid in, the call runs in a store of its own, and answers scalars. -/
inductive Md where | pur | mut | opn | cls
  deriving DecidableEq
/-- 'bases': where the stores of the calls that are running begin, the last one first; 'bar': nothing below it is written. -/
structure Env where
  bases : List Nat
  bar : Nat
/-- 'dir': functions whose calls are known by a law of their own (DirOk): those without a body, that the model stands in for, and some of the library; 'alo': those of them that do nothing but make one new object; 'qui': those whose result hangs on their arguments alone, and that leave the store. -/
abbrev DirF := Env → List AV → Mem → Option (AV × Mem)
structure Pol where
  glob : Nat → Option (List AV)
  mode : FuncId → Md
  dir : FuncId → Option DirF := fun _ => none
  alo : FuncId → Bool := fun _ => false
  qui : FuncId → Bool := fun _ => false

/-- The version of a row of cells: what type its block has (0: not told), and how often it has turned. -/
def tagT (t : TypeId) : Nat := if t + 1 < 65536 then t + 1 else 0
def nextV (tag ver : Nat) : Nat := if ver % 65536 = tag then ver + 65536 else (ver / 65536 + 1) * 65536
/-- What an operation asks of the store. -/
inductive Src where
  | lst (n : Nat) (cs : List AV)
  | own (id ver off len esz : Nat)
def Src.n : Src → Nat
  | .lst n _ => n
  | .own _ _ _ n _ => n
inductive Req where
  | val (v : AV)
  | load (id ver off n : Nat) (ag : Bool)
  | store (id ver off : Nat) (vs : List AV)
  | alloc (tag esz : Nat) (cs : List AV) (len : Option Nat)
  | newmap
  | mapget (kt : TypeDesc) (id : Nat) (k : Value) (zero : AV) (ok : Bool)
  | mapset (kt : TypeDesc) (id : Nat) (k : Value) (v : AV)
  | maplen (id : Nat)
  | mapclear (id : Nat)
  | app (tag id ver off len esz : Nat) (src : Src)
  | appnew (tag esz : Nat) (n : Nat) (pre : List AV) (src : Src)
  | iter (s : ByteArray)
  | nextS (id : Nat)
  | bstr (id ver off n : Nat)
  | ustr (tag id ver off n : Nat)
  | chk (tag id ver off sz : Nat) (v : AV)
  | copy (id ver off len esz : Nat) (src : Src)
  | mapdel (kt : TypeDesc) (id : Nat) (k : Value)
  | call (fn : Fn) (args : List AV)

section
variable (P : Program) (pol : Pol)

def szOf (t : TypeId) : Option Nat := (P.info? t).map (·.size)
def aggOf (t : TypeId) : Option Bool :=
  match P.underlying t with
  | some (.struct _) | some (.array _ _) => some true
  | some _ => some false
  | none => none
def zeroOf (t : TypeId) : Option AV := ((P.info? t).bind (·.zero)).bind ofV1
def elemOfS (t : TypeId) : Option TypeId :=
  match P.underlying t with
  | some (.slice e) => some e
  | _ => none

def opnd (ts : List AV) : Operand → Option AV
  | .tmp t => lget ts t
  | .const v => ofV v
  | .global g => (pol.glob g).map .cptr
  | .func f => some (.clo (.func f) [] [])

def splice (cs : List AV) (o : Nat) : List AV → List AV
  | [] => cs
  | v :: vs => splice (cs.set o v) (o + 1) vs

def spliceK {β : Type} (cs : List AV) (o : Nat) (vs : List AV) (k : List AV → β) : β :=
  match vs with
  | [v] => lsetK v cs o k
  | vs => spine (splice cs o vs) k
/-- The cells of a struct, an array or a row of elements: parts filled into zeros. -/
def fillA (place : Nat → Option (Nat × Nat)) (cells : List AV) : List (Nat × AV) → Option (List AV)
  | [] => some cells
  | (i, v) :: rest =>
    match place i with
    | none => none
    | some (off, size) =>
      if v.cells.length ≠ size || off + v.cells.length > cells.length || !v.cells.all AV.leaf then none
      else fillA place (splice cells off v.cells) rest

def partsOf (ρ : Operand → Option AV) (ps : Array (Nat × Operand)) : Option (List (Nat × AV)) :=
  ps.toList.mapM fun (i, x) => (ρ x).map (i, ·)

def asI : AV → Option (IntKind × Int)
  | .sc (.int k n) => some (k, n)
  | _ => none
def asI? (ρ : Operand → Option AV) : Option Operand → Option (Option (IntKind × Int))
  | none => some none
  | some x => match (ρ x).bind asI with
    | some i => some (some i)
    | none => none

/-- The bounds of a slice: 0 ≤ low ≤ high ≤ len. -/
def bounds (n : Nat) (lo hi : Option (IntKind × Int)) : Option (Nat × Nat) :=
  let h : Int := match hi with | none => (n : Int) | some (_, h) => h
  let l : Int := match lo with | none => (0 : Int) | some (_, l) => l
  if 0 ≤ l ∧ l ≤ h ∧ h ≤ n then some (l.toNat, h.toNat) else none

def srcOf : AV → Option Src
  | .nilS => some (.lst 0 [])
  | .lst n cs _ => some (.lst n cs)
  | .own id ver off len e => some (.own id ver off len e)
  | .sc (.string s) => some (.lst s.size (s.data.toList.map fun b => .sc (.int .u8 b.toNat)))
  | _ => none

/-- What 'append' takes: the cells of a slice or a string, or (of 'make') so many zeros. -/
def appSrc (d : TypeDesc) (z : AV) (x : Option AV) : Option Src :=
  match d with
  | .int _ => match x with
    | some (.sc (.int .i64 n)) => if 0 ≤ n ∧ n ≤ 4294967296 then some (.lst n.toNat (List.replicate n.toNat z.cells).flatten) else none
    | _ => none
  | _ => x.bind srcOf
/-- The bytes of such cells. -/
def bytesOf : List AV → Option (List UInt8)
  | [] => some []
  | .sc (.int .u8 n) :: cs => if 0 ≤ n ∧ n < 256 then (bytesOf cs).map (UInt8.ofNat n.toNat :: ·) else none
  | _ => none
def byteCells (s : ByteArray) : List AV := s.data.toList.map fun b => .sc (.int .u8 b.toNat)

def plainOp : Op → Bool
  | .binOp .. | .unOp .. | .convert .. | .index .. | .slice .. | .call { callee := .builtin _, .. } => true
  | _ => false
def generic (ρ : Operand → Option AV) (o : Oper) : Option Req :=
  if plainOp o.op = false then none else
  match o.op.operands.toList.mapM fun x => (ρ x).bind AV.toV with
  | none => none
  | some _ =>
    match pv P (execOp (fun x => ((ρ x).bind AV.toV).getD undef) o) with
    | some (.value u) => (ofV u).map .val
    | _ => none

def isKeyT : TypeDesc → Value → Bool
  | .int k, .int j _ => k == j
  | .string, .string _ | .bool, .bool _ => true
  | _, _ => false

/-- The operators on two whole numbers. -/
def ibin (op : BinOp) (k : IntKind) (a : Int) (k' : IntKind) (b : Int) : Option Value :=
  match op with
  | .shl => if b < 0 then none else some (.int k (k.wrap (a * 2 ^ (min b.toNat k.bits))))
  | .shr => if b < 0 then none else some (.int k (a.fdiv (2 ^ (min b.toNat k.bits))))
  | op => if k ≠ k' then none else match op with
    | .add => some (.int k (k.wrap (a + b)))
    | .sub => some (.int k (k.wrap (a - b)))
    | .mul => some (.int k (k.wrap (a * b)))
    | .and => some (.int k (k.wrap (BitVec.ofInt k.bits a &&& BitVec.ofInt k.bits b).toNat))
    | .or => some (.int k (k.wrap (BitVec.ofInt k.bits a ||| BitVec.ofInt k.bits b).toNat))
    | .xor => some (.int k (k.wrap (BitVec.ofInt k.bits a ^^^ BitVec.ofInt k.bits b).toNat))
    | .andNot => some (.int k (k.wrap (BitVec.ofInt k.bits a &&& ~~~BitVec.ofInt k.bits b).toNat))
    | .eql => some (.bool (a == b))
    | .neq => some (.bool (a != b))
    | .lss => some (.bool (a < b))
    | .leq => some (.bool (a ≤ b))
    | .gtr => some (.bool (a > b))
    | .geq => some (.bool (a ≥ b))
    | _ => none

/-- Pointers held against each other. -/
def eqOp : BinOp → Option Bool
  | .eql => some true
  | .neq => some false
  | _ => none
def ptrEq (op : BinOp) (dt : Option TypeDesc) (x y : AV) : Option Req :=
  match eqOp op, dt with
  | some b, some (.pointer e) =>
    match y with
    | .nilP => some (.val (.sc (.bool !b)))
    | .ptr i' v' o' => match x with
      | .ptr i v o => if i = i' ∧ v = v' ∧ o = o' ∧ (P.info? e).isSome then some (.chk 0 i v o 1 (.sc (.bool b))) else none
      | _ => none
    | _ => none
  | _, _ => none
/-- What is not nil, held against nil. -/
def notNil : Option TypeDesc → AV → AV → Bool
  | some (.interface _), .ifc _ _, .nilI => true
  | some (.slice _), .own _ _ _ _ _, .nilS => true
  | some (.slice _), .lst _ _ _, .nilS => true
  | some (.map _ _), .mp _, .nilM => true
  | some (.func _ _ _), .clo _ _ _, .nilF => true
  | _, _, _ => false
/-- An array's length, and its elements' size, by its type or that of a pointer to it. -/
def arrOf (P : Program) (t : TypeId) : Option (Nat × Nat) :=
  match P.underlying t with
  | some (.array n e) => (szOf P e).map (n, ·)
  | some (.pointer a) => match P.underlying a with
    | some (.array n e) => (szOf P e).map (n, ·)
    | _ => none
  | _ => none
def arrSl (an : Option (Nat × Nat)) (v : AV) (lo hi : Option (IntKind × Int)) : Option Req :=
  match an with
  | some (n, s) => match bounds n lo hi, v with
    | some (l, h), .ptr id ver off => if 0 < n * s then some (.chk 0 id ver off (n * s) (.own id ver (off + l * s) (h - l) s)) else none
    | some (l, h), .cptr cs => if 0 < n * s ∧ n * s ≤ cs.length then some (.val (.lst (h - l) ((cs.drop (l * s)).take ((h - l) * s)) (decide (h = n)))) else none
    | _, _ => none
  | none => none
/-- What an operation, with its operands' values, asks for. -/
def planB (ρ : Operand → Option AV) (o : Oper) (b : Builtin) (args : Array Operand) (argTypes : Array TypeId) : Option Req :=
  match b with
  | .len => match (args[0]?).bind ρ, (argTypes[0]?).bind P.underlying with
    | some (.lst n _ _), some (.slice _) => some (.val (.sc (.int .i64 n)))
    | some (.own _ _ _ n _), some (.slice _) => some (.val (.sc (.int .i64 n)))
    | some .nilS, some (.slice _) => some (.val (.sc (.int .i64 0)))
    | some (.mp id), some (.map _ _) => some (.maplen id)
    | _, _ => generic P ρ o
  | .append => match args.toList, (argTypes[0]?).bind (elemOfS P), (argTypes[1]?).bind P.underlying with
    | [a, x], some e, some d =>
      match (P.info? e), zeroOf P e with
      | some ie, some z => match appSrc d z (ρ x) with
       | none => none
       | some src =>
        if z.cells.length ≠ ie.size || ie.bytes > 1024 then none else
        match ρ a with
        | some .nilS => if src.n = 0 then some (.val .nilS) else some (.appnew (tagT e) ie.size 0 [] src)
        | some (.lst m cs clip) => if src.n = 0 then some (.val (.lst m cs clip)) else if clip then some (.appnew (tagT e) ie.size m cs src) else none
        | some (.own id ver off len e') => if src.n = 0 then some (.val (.own id ver off len e')) else if e' = ie.size then some (.app (tagT e) id ver off len ie.size src) else none
        | _ => none
      | _, _ => none
    | _, _, _ => none
  | .unsafeSliceData => match args.toList with
    | [x] => match ρ x with
      | some (.own id ver off n _) => if 0 < n then some (.val (.ptr id ver off)) else none
      | some .nilS => some (.val .nilP)
      | _ => none
    | _ => none
  | .unsafeString => match args.toList, argTypes.toList with
    | [x, y], [t, _] =>
      match ρ x, ρ y, P.underlying t with
      | some (.ptr id ver off), some (.sc (.int .i64 n)), some (.pointer e) =>
        if P.cellsOf e = 1 ∧ tagT e ≠ 0 ∧ 0 < n ∧ n < 4611686018427387904 then some (.ustr (tagT e) id ver off n.toNat) else none
      | some .nilP, some (.sc (.int .i64 n)), _ => if n = 0 then some (.val (.sc (.string .empty))) else none
      | _, _, _ => none
    | _, _ => none
  | .clear => match (args[0]?).bind ρ, (argTypes[0]?).bind P.underlying with
    | some (.mp id), some (.map _ _) => some (.mapclear id)
    | _, _ => generic P ρ o
  | .copy => match args.toList, (argTypes[0]?).bind (elemOfS P) with
    | [a, x], some e =>
      match szOf P e, ρ a, (ρ x).bind srcOf with
      | some s, some (.own id ver off len e'), some src => if e' = s ∧ 0 < s then some (.copy id ver off len s src) else none
      | some _, some .nilS, some _ => some (.val (.sc (.int .i64 0)))
      | _, _, _ => none
    | _, _ => none
  | .delete => match args.toList, (argTypes[0]?).bind P.underlying with
    | [a, x], some (.map kt _) => match P.underlying kt, ρ a, (ρ x).bind AV.toV with
      | some kd, some (.mp id), some k => if isKeyT kd k then some (.mapdel kd id k) else none
      | _, _, _ => none
    | _, _ => none
  | .cap => match (args[0]?).bind ρ, (argTypes[0]?).bind P.underlying with
    | some (.lst n _ true), some (.slice _) => some (.val (.sc (.int .i64 n)))
    | some .nilS, some (.slice _) => some (.val (.sc (.int .i64 0)))
    | _, _ => generic P ρ o
  | _ => generic P ρ o

def planSet (ρ : Operand → Option AV) (t : TypeId) (x k e : Operand) : Option Req :=
  match P.underlying t, ρ x, (ρ k).bind AV.toV, ρ e with
  | some (.map kt _), some (.mp id), some k, some v =>
    match P.underlying kt with
    | some kd => if isKeyT kd k then some (.mapset kd id k v) else none
    | none => none
  | _, _, _, _ => none

/-- Places at which a row that is written down is written to later: there it is the call's own. -/
def ownP (p : String) : Bool := p == "delta.go:258"
def plan (ρ : Operand → Option AV) (o : Oper) : Option Req :=
  match o.op with
  | .move x | .assign x => (ρ x).map .val
  | .pick c a b => match ρ c with
    | some (.sc (.bool t)) => (if t then ρ a else ρ b).map .val
    | _ => none
  | .alloc t => (zeroOf P t).map fun z => .alloc (tagT t) 0 z.cells none
  | .box t x => (ρ x).map fun v => .alloc (tagT t) 0 v.cells none
  | .build t parts =>
    match zeroOf P t, P.underlying t, partsOf ρ parts with
    | some z, some (.struct fs), some ps =>
      match fs.toList.mapM fun f => (szOf P f.type).map (f.offset, ·) with
      | some places => (fillA (places[·]?) z.cells ps).map (.val ∘ .agg)
      | none => none
    | some z, some (.array _ e), some ps =>
      match szOf P e with
      | some s => (fillA (fun i => some (i * s, s)) z.cells ps).map (.val ∘ .agg)
      | none => none
    | _, _, _ => none
  | .buildSlice t len parts =>
    match elemOfS P t, partsOf ρ parts with
    | some e, some ps =>
      match szOf P e, zeroOf P e with
      | some s, some z =>
        if len * s > 2 ^ 24 || z.cells.length ≠ s then none
        else (fillA (fun i => some (i * s, s)) ((List.replicate len z.cells).flatten) ps).map fun cs => if ownP o.pos = true then .alloc (tagT e) s cs (some len) else .val (.lst len cs true)
      | _, _ => none
    | _, _ => none
  | .load t a => match ρ a, szOf P t, aggOf P t with
    | some (.ptr id ver off), some n, some ag => some (.load id ver off n ag)
    | some (.cptr cs), some n, some true => if n ≤ cs.length then some (.val (.agg (cs.take n))) else none
    | some (.cptr (c :: _)), some _, some false => some (.val c)
    | _, _, _ => none
  | .store t a x => match ρ a, ρ x, szOf P t with
    | some (.ptr id ver off), some v, some n => if v.cells.length = n then some (.store id ver off v.cells) else none
    | _, _, _ => none
  | .nilCheck x => match ρ x with
    | some (.ptr id ver off) => some (.val (.ptr id ver off))
    | some (.cptr cs) => some (.val (.cptr cs))
    | some (.clo (.func f) a b) => some (.val (.clo (.func f) a b))
    | some (.clo (.yield f) a b) => some (.val (.clo (.yield f) a b))
    | _ => none
  | .binOp op t x y _ => match ρ x, ρ y with
    | some (.sc (.int k a)), some (.sc (.int k' b)) => match ibin op k a k' b with
      | some v => some (.val (.sc v))
      | none => generic P ρ o
    | some (.ptr a b c), some v => ptrEq P op (P.underlying t) (.ptr a b c) v
    | some (.cptr cs), some v => ptrEq P op (P.underlying t) (.cptr cs) v
    | some x', some y' => if notNil (P.underlying t) x' y' then (eqOp op).map fun b => .val (.sc (.bool !b)) else generic P ρ o
    | _, _ => generic P ρ o
  | .unOp op _ x => match op, ρ x with
    | .not, some (.sc (.bool b)) => some (.val (.sc (.bool !b)))
    | _, _ => generic P ρ o
  | .convert src dst x => match ρ x, P.underlying src, P.underlying dst with
    | some (.sc (.int _ n)), some (.int _), some (.int k) => some (.val (.sc (.int k (k.wrap n))))
    | some (.sc (.string s)), some .string, some (.slice e) => match P.underlying e with
      | some (.int .u8) => some (.val (.lst s.size (byteCells s) false))
      | _ => none
    | some .nilS, some (.slice e), some .string => match P.underlying e with
      | some (.int .u8) => some (.val (.sc (.string .empty)))
      | _ => none
    | some (.lst n cs _), some (.slice e), some .string => match P.underlying e, bytesOf cs with
      | some (.int .u8), some l => if cs.length = n then some (.val (.sc (.string ⟨⟨l⟩⟩))) else none
      | _, _ => none
    | some (.own id ver off n z), some (.slice e), some .string => match P.underlying e with
      | some (.int .u8) => if z = 1 then some (.bstr id ver off n) else none
      | _ => none
    | some (.ptr id ver off), some (.pointer t), some .unsafePointer => match szOf P t with
      | some (_ + 1) => some (.chk 0 id ver off 1 (.ptr id ver off))
      | _ => none
    | some (.ptr id ver off), some .unsafePointer, some (.pointer u) => match szOf P u with
      | some (n + 1) => if tagT u ≠ 0 ∧ ver < 65536 ∧ off = 0 then some (.chk (tagT u) id ver off (n + 1) (.ptr id ver off)) else none
      | _ => none
    | _, _, _ => generic P ρ o
  | .makeInterface t x => match P.underlying t, ρ x with
    | some (.interface _), _ | none, _ | _, none => none
    | _, some v => some (.val (.ifc t v))
  | .makeFunc fn first captured =>
    match fn, first.toList.mapM ρ, captured.toList.mapM ρ with
    | .func f, some a, some b => some (.val (.clo (.func f) a b))
    | _, _, _ => none
  | .makeMap t r => match P.underlying t, r with
    | some (.map _ _), none => some .newmap
    | some (.map _ _), some x => match (ρ x).bind asI with
      | some _ => some .newmap
      | none => none
    | _, _ => none
  | .makeSlice t l c => match elemOfS P t, (ρ l).bind asI, (ρ c).bind asI with
    | some e, some (_, l), some (_, c) =>
      match P.info? e, zeroOf P e with
      | some ie, some z =>
        if 0 ≤ l ∧ l ≤ c ∧ c < 2 ^ 62 ∧ ie.bytes * c ≤ 2 ^ 48 ∧ z.cells.length = ie.size ∧ 0 < ie.size then
          some (.alloc (tagT e) ie.size ((List.replicate l.toNat z.cells).flatten) (some l.toNat))
        else none
      | _, _ => none
    | _, _, _ => none
  | .slice t x lo hi mx => match ρ x, mx, (elemOfS P t).bind (szOf P), asI? ρ lo, asI? ρ hi with
    | some (.lst n cs clip), none, some s, some lo, some hi =>
      match bounds n lo hi with
      | some (l, h) => if h * s ≤ cs.length then some (.val (.lst (h - l) ((cs.drop (l * s)).take ((h - l) * s)) (clip && decide (h = n)))) else none
      | none => none
    | some (.own id ver off n e), none, some s, some lo, some hi =>
      match bounds n lo hi with
      | some (l, h) => if e = s then some (.val (.own id ver (off + l * s) (h - l) e)) else none
      | none => none
    | some .nilS, none, some _, some lo, some hi =>
      match bounds 0 lo hi with
      | some _ => some (.val .nilS)
      | none => none
    | some (.lst n cs _), some y, some s, some lo, some (some hi) =>
      match bounds n lo (some hi), (ρ y).bind asI with
      | some (l, h), some (_, m) => if h ≤ m ∧ m ≤ n ∧ h * s ≤ cs.length then some (.val (.lst (h - l) ((cs.drop (l * s)).take ((h - l) * s)) (decide (m = h)))) else none
      | _, _ => none
    | some (.own id ver off n e), some y, some s, some lo, some (some hi) =>
      match bounds n lo (some hi), (ρ y).bind asI with
      | some (l, h), some (_, m) => if h ≤ m ∧ m ≤ n ∧ e = s then some (.val (.own id ver (off + l * s) (h - l) e)) else none
      | _, _ => none
    | some .nilS, some y, some _, some lo, some (some hi) =>
      match bounds 0 lo (some hi), (ρ y).bind asI with
      | some _, some (_, m) => if m = 0 then some (.val .nilS) else none
      | _, _ => none
    | some (.sc _), _, _, _, _ => generic P ρ o
    | some (.ptr id ver off), none, none, some lo, some hi => arrSl (arrOf P t) (.ptr id ver off) lo hi
    | some (.cptr cs), none, none, some lo, some hi => arrSl (arrOf P t) (.cptr cs) lo hi
    | _, _, _, _, _ => none
  | .fieldAddr s x f => match P.underlying s, ρ x with
    | some (.struct fs), some v =>
      match fs[f]? with
      | some fd =>
        match szOf P fd.type with
        | some (_ + 1) => match v with
          | .ptr id ver off => some (.val (.ptr id ver (off + fd.offset)))
          | .cptr cs => if fd.offset ≤ cs.length then some (.val (.cptr (cs.drop fd.offset))) else none
          | _ => none
        | _ => none
      | none => none
    | _, _ => none
  | .field t x f => match P.underlying t, ρ x with
    | some (.struct fs), some (.agg cs) =>
      match fs[f]? with
      | some fd => match szOf P fd.type, aggOf P fd.type with
        | some n, some true => if fd.offset + n ≤ cs.length then some (.val (.agg ((cs.drop fd.offset).take n))) else none
        | some _, some false => (cs[fd.offset]?).map .val
        | _, _ => none
      | none => none
    | _, _ => none
  | .indexAddr t x ix => match P.underlying t, ρ x, (ρ ix).bind asI with
    | some (.slice e), some v, some (_, i) =>
      match szOf P e, v with
      | some s, .lst n cs _ => if 0 ≤ i ∧ i < n ∧ i.toNat * s ≤ cs.length then some (.val (.cptr (cs.drop (i.toNat * s)))) else none
      | some s, .own id ver off n e => if 0 ≤ i ∧ i < n ∧ e = s then some (.val (.ptr id ver (off + i.toNat * s))) else none
      | _, _ => none
    | some (.array n e), some v, some (_, i) =>
      match szOf P e, v with
      | some s, .ptr id ver off => if 0 ≤ i ∧ i < n then some (.val (.ptr id ver (off + i.toNat * s))) else none
      | some s, .cptr cs => if 0 ≤ i ∧ i < n ∧ i.toNat * s ≤ cs.length then some (.val (.cptr (cs.drop (i.toNat * s)))) else none
      | _, _ => none
    | _, _, _ => none
  | .lookup t x k ok => match P.underlying t, ρ x, (ρ k).bind AV.toV with
    | some (.map kt e), some v, some k =>
      match P.underlying kt, zeroOf P e with
      | some kd, some z =>
        if isKeyT kd k then
          match v with
          | .nilM => some (.val (if ok then .tup [z, .sc (.bool false)] else z))
          | .mp id => some (.mapget kd id k z ok)
          | _ => none
        else none
      | _, _ => none
    | _, _, _ => none
  | .mapUpdate t x k e | .insert t x k e => planSet P ρ t x k e
  | .range t x => match P.underlying t, ρ x with
    | some .string, some (.sc (.string s)) => some (.iter s)
    | _, _ => none
  | .next x b => match ρ x, b with
    | some (.it id), true => some (.nextS id)
    | _, _ => none
  | .extract t ix => match ρ t with
    | some (.tup vs) => (vs[ix]?).map .val
    | _ => none
  | .call { callee := .builtin b, args, argTypes } => planB P ρ o b args argTypes
  | .call { callee := .value f, args, .. } =>
    match ρ f, args.toList.mapM ρ with
    | some (.clo (.func f) first cap), some vs => some (.call (.func f) (first ++ vs ++ cap))
    | some (.clo (.yield id) first []), some vs => some (.call (.yield id) (first ++ vs))
    | _, _ => none
  | _ => generic P ρ o

def rd (m : Mem) (id ver off n : Nat) : Option (List AV) :=
  match lget m id with
  | some (.cells v cs) => if v = ver ∧ off + n ≤ cs.length then some ((cs.drop off).take n) else none
  | _ => none

mutual
/-- All that it refers to lies below. -/
def AV.low (b : Nat) : AV → Bool
  | .ptr id _ _ | .own id _ _ _ _ | .mp id | .it id => id < b
  | .cptr cs | .lst _ cs _ | .agg cs | .tup cs => AV.lowL b cs
  | .clo fn first cap => (match fn with | .yield l => decide (l < b) | _ => true) && AV.lowL b first && AV.lowL b cap
  | .ifc _ v => AV.low b v
  | _ => true
def AV.lowL (b : Nat) : List AV → Bool
  | [] => true
  | c :: cs => AV.low b c && AV.lowL b cs
end

def findV (kt : TypeDesc) (k : Value) : List (Value × AV) → Nat → Option (Option (Nat × AV))
  | [], _ => some none
  | (k', v) :: es, i => if isKeyT kt k' then (if sameK k k' then some (some (i, v)) else findV kt k es (i + 1)) else none
where sameK : Value → Value → Bool
  | .int _ a, .int _ b => a == b
  | .string a, .string b => a == b
  | .bool a, .bool b => a == b
  | _, _ => false

def srcCells (m : Mem) (esz : Nat) : Src → Option (Nat × List AV)
  | .lst n cs => if cs.length = n * esz then some (n, cs) else none
  | .own id ver off len e => if e = esz then (rd m id ver off (len * esz)).map (len, ·) else none

/-- No slice grows past this many bytes' worth of cells. -/
def roomOk (n esz : Nat) : Bool := n ≤ 2 ^ 32 && 0 < esz && esz ≤ 64

def perform (en : Env) : Req → Mem → Option (AV × Mem)
  | .val v, m => some (v, m)
  | .load id ver off n true, m => (rd m id ver off n).map fun cs => (.agg cs, m)
  | .load id ver off _ false, m =>
    match lget m id with
    | some (.cells v cs) => if v = ver then (lget cs off).map fun c => (c, m) else none
    | _ => none
  | .store id ver off vs, m =>
    match lget m id with
    | some (.cells v cs) =>
      if vs.all AV.leaf ∧ 0 < vs.length ∧ v = ver ∧ off + vs.length ≤ cs.length ∧ en.bar ≤ id ∧ en.bases.all (fun B => decide (B ≤ id) || AV.lowL B vs) = true then spliceK cs off vs fun cs => lsetK (.cells v cs) m id fun m => some (und, m)
      else none
    | _ => none
  | .alloc tag _ cs none, m => fNat tag fun tag => spine cs fun cs => if cs.all AV.leaf then spine (m ++ [.cells tag cs]) fun m' => some (.ptr m.length tag 0, m') else none
  | .alloc tag esz cs (some n), m => fNat tag fun tag => spine cs fun cs => if cs.all AV.leaf then spine (m ++ [.cells tag cs]) fun m' => some (.own m.length tag 0 n esz, m') else none
  | .newmap, m => spine (m ++ [.map []]) fun m' => some (.mp m.length, m')
  | .mapget kt id k z ok, m =>
    match lget m id with
    | some (.map es) =>
      match findV kt k es 0 with
      | some (some (_, v)) => some (if ok then .tup [v, .sc (.bool true)] else v, m)
      | some none => some (if ok then .tup [z, .sc (.bool false)] else z, m)
      | none => none
    | _ => none
  | .mapset kt id k v, m =>
    match lget m id with
    | some (.map es) =>
      if en.bar ≤ id ∧ en.bases.all (fun B => decide (B ≤ id) || AV.low B v) = true then
        match findV kt k es 0 with
        | some (some (i, _)) => spine (es.set i (k, v)) fun es => lsetK (.map es) m id fun m => some (und, m)
        | some none => spine (es ++ [(k, v)]) fun es => lsetK (.map es) m id fun m => some (und, m)
        | none => none
      else none
    | _ => none
  | .maplen id, m =>
    match lget m id with
    | some (.map es) => some (.sc (.int .i64 es.length), m)
    | _ => none
  | .mapclear id, m =>
    match lget m id with
    | some (.map _) => if en.bar ≤ id then lsetK (.map []) m id fun m => some (und, m) else none
    | _ => none
  | .app tag id ver off len esz src, m =>
    match lget m id, srcCells m esz src with
    | some (.cells v cs), some (n, ys) =>
      if v = ver ∧ off + len * esz ≤ cs.length ∧ roomOk (len + n) esz = true ∧ 0 < n ∧ en.bar ≤ id ∧ en.bases.all (fun B => decide (B ≤ id) || AV.lowL B ys) = true then
        spine ((cs.drop off).take (len * esz) ++ ys) fun cs => fNat (nextV tag ver) fun ver => lsetK (.cells ver cs) m id fun m => some (.own id ver 0 (len + n) esz, m)
      else none
    | _, _ => none
  | .appnew tag esz k pre src, m =>
    match srcCells m esz src with
    | some (n, ys) =>
      if pre.length = k * esz ∧ roomOk (k + n) esz = true ∧ 0 < n then
        fNat tag fun tag => spine (pre ++ ys) fun cs => spine (m ++ [.cells tag cs]) fun m' => some (.own m.length tag 0 (k + n) esz, m')
      else none
    | none => none
  | .iter s, m => spine (m ++ [.iter s 0]) fun m' => some (.it m.length, m')
  | .nextS id, m =>
    match lget m id with
    | some (.iter s p) =>
      if en.bar ≤ id then
        if p < s.size then fNat (p + (Utf8.decode s p).2) fun q => lsetK (.iter s q) m id fun m' => some (.tup [.sc (.bool true), .sc (.int .i64 p), .sc (.int .i32 (Utf8.decode s p).1)], m')
        else some (.tup [.sc (.bool false)], m)
      else none
    | _ => none
  | .bstr id ver off n, m =>
    match rd m id ver off n with
    | some cs => match bytesOf cs with
      | some l => some (.sc (.string ⟨⟨l⟩⟩), m)
      | none => none
    | none => none
  | .ustr tag id ver off n, m =>
    match rd m id ver off n with
    | some cs => match bytesOf cs with
      | some l => if ver % 65536 = tag ∧ en.bar ≤ id then fNat (nextV tag ver) fun ver => lsetK (.cells ver []) m id fun m => some (.sc (.string ⟨⟨l⟩⟩), m) else none
      | none => none
    | none => none
  | .chk tag id ver off sz v, m =>
    match lget m id with
    | some (.cells v' cs) => if v' = ver ∧ (0 < sz ∧ off + sz ≤ cs.length) ∧ (tag = 0 ∨ ver % 65536 = tag) then some (v, m) else none
    | _ => none
  | .copy id ver off len esz src, m =>
    match lget m id, srcCells m esz src with
    | some (.cells v cs), some (n, ys) =>
      if v = ver ∧ off + len * esz ≤ cs.length ∧ 0 < esz ∧ en.bar ≤ id ∧ en.bases.all (fun B => decide (B ≤ id) || AV.lowL B ys) = true then
        fNat (min n len) fun k => spliceK cs off (ys.take (k * esz)) fun cs => lsetK (.cells v cs) m id fun m => some (.sc (.int .i64 k), m)
      else none
    | _, _ => none
  | .mapdel kt id k, m =>
    match lget m id with
    | some (.map es) =>
      if en.bar ≤ id then
        match findV kt k es 0 with
        | some (some (i, _)) => spine (es.eraseIdx i) fun es => lsetK (.map es) m id fun m => some (und, m)
        | some none => some (und, m)
        | none => none
      else none
    | _ => none
  | .call _ _, _ => none

/-- A result with what it refers to from 'base' on laid into it. -/
def frz (m : Mem) (base : Nat) : Nat → AV → Option AV
  | 0, _ => none
  | d + 1, v => match v with
    | .sc u => some (.sc u)
    | .nilP => some .nilP
    | .nilS => some .nilS
    | .nilM => some .nilM
    | .nilF => some .nilF
    | .nilI => some .nilI
    | .ptr id ver off => if id < base then some (.ptr id ver off) else none
    | .mp id => if id < base then some (.mp id) else none
    | .it id => if id < base then some (.it id) else none
    | .any => some .any
    | .own id ver off len esz =>
      if id < base then some (.own id ver off len esz) else
      match lget m id with
      | some (.cells ver' cs) =>
        if ver = ver' ∧ off + len * esz ≤ cs.length then
          match ((cs.drop off).take (len * esz)).mapM (frz m base d) with
          | some cs => if cs.all AV.leaf then some (.lst len cs false) else none
          | none => none
        else none
      | _ => none
    | .lst n cs c => if AV.lowL base cs then some (.lst n cs c) else none
    | .cptr cs => if AV.lowL base cs then some (.cptr cs) else none
    | .agg cs => match cs.mapM (frz m base d) with
      | some cs => if cs.all AV.leaf then some (.agg cs) else none
      | none => none
    | .tup cs => match cs.mapM (frz m base d) with
      | some cs => some (.tup cs)
      | none => none
    | .clo fn a b => if AV.low base (.clo fn a b) then some (.clo fn a b) else none
    | .ifc t v => match frz m base d v with
      | some v => some (.ifc t v)
      | none => none
def frzDepth : Nat := 8

structure St where
  tmps : List AV
  mem : Mem
inductive X where
  | normal
  | exit (id : Nat)
  | goto (l : Nat)
  | ret
  deriving DecidableEq

def putT {β : Type} (ts : List AV) (d : Option Tmp) (v : AV) (k : List AV → β) : β :=
  match d with
  | some d => lsetK v ts d k
  | none => k ts

def wantedA (ops : List Oper) (o : Oper) (ts : List AV) : Bool :=
  match o.guard with
  | none => true
  | some (j, want) =>
    match (lget ops j).bind (·.dst) with
    | some d => match lget ts d with
      | some (.sc (.bool b)) => b == want
      | _ => false
    | none => false

abbrev CallT := Env → Fn → List AV → Mem → Option (AV × Mem)

def oneOp (call : CallT) (en : Env) (o : Oper) (st : St) : Option (St × Req) :=
  match plan P (opnd pol st.tmps) o with
  | some (.call fn args) => match call en fn args st.mem with
    | some (v, m) => fA v fun v => putT st.tmps o.dst v fun ts => some (⟨ts, m⟩, .call fn args)
    | none => none
  | some r => match perform en r st.mem with
    | some (v, m) => fA v fun v => putT st.tmps o.dst v fun ts => some (⟨ts, m⟩, r)
    | none => none
  | none => none

def runL (call : CallT) (en : Env) (ops : List Oper) : List Oper → St → Option St
  | [], st => some st
  | o :: rest, st =>
    if wantedA ops o st.tmps then
      match oneOp P pol call en o st with
      | some (st, _) => runL call en ops rest st
      | none => none
    else putT st.tmps o.dst und fun ts => runL call en ops rest ⟨ts, st.mem⟩

/-- The same for the operations of these numbers, with what each asked of the store. -/
def runI (call : CallT) (en : Env) (ops : List Oper) : List Nat → St → Option (St × List (Nat × Req))
  | [], st => some (st, [])
  | i :: rest, st =>
    match lget ops i with
    | none => none
    | some o =>
      if wantedA ops o st.tmps then
        match oneOp P pol call en o st with
        | some (st, r) => match runI call en ops rest st with
          | some (st, l) => some (st, (i, r) :: l)
          | none => none
        | none => none
      else match (putT st.tmps o.dst und fun ts => runI call en ops rest ⟨ts, st.mem⟩) with
        | some (st, l) => some (st, (i, .val und) :: l)
        | none => none

structure Foot where
  rd : List Nat
  wr : List Nat
  al : Bool
  ra : Bool
  all : Bool
def Req.foot : Req → Foot
  | .val _ => ⟨[], [], false, false, false⟩
  | .load id .. => ⟨[id], [], false, false, false⟩
  | .store id .. => ⟨[id], [id], false, false, false⟩
  | .alloc .. | .newmap | .iter _ => ⟨[], [], true, false, false⟩
  | .nextS id => ⟨[id], [id], false, false, false⟩
  | .bstr id .. => ⟨[id], [], false, false, false⟩
  | .ustr _ id .. => ⟨[id], [id], false, false, false⟩
  | .chk _ id .. => ⟨[id], [], false, false, false⟩
  | .copy id _ _ _ _ s => ⟨id :: (match s with | .own i .. => [i] | _ => []), [id], false, false, false⟩
  | .mapdel _ id _ => ⟨[id], [id], false, false, false⟩
  | .mapget _ id .. | .maplen id => ⟨[id], [], false, false, false⟩
  | .mapset _ id .. | .mapclear id => ⟨[id], [id], false, false, false⟩
  | .app _ id _ _ _ _ s => ⟨id :: (match s with | .own i .. => [i] | _ => []), [id], false, false, false⟩
  | .appnew _ _ _ _ s => ⟨match s with | .own i .. => [i] | _ => [], [], true, false, false⟩
  | .call (.func f) _ => if pol.qui f then ⟨[], [], false, false, false⟩ else if pol.mode f = .pur then ⟨[], [], false, true, false⟩ else if pol.alo f then ⟨[], [], true, false, false⟩ else ⟨[], [], true, true, true⟩
  | .call .. => ⟨[], [], true, true, true⟩
def Foot.loud (f : Foot) : Bool := f.all || f.al || f.ra || !f.rd.isEmpty || !f.wr.isEmpty
def Foot.writes (f : Foot) : Bool := f.all || f.al || !f.wr.isEmpty
def confl (ml : Nat) (f g : Foot) : Bool :=
  (f.all && g.loud) || (g.all && f.loud) || (f.al && g.al) || (f.ra && g.writes) || (g.ra && f.writes) ||
  (f.al && g.rd.any fun i => decide (ml ≤ i)) || (g.al && f.rd.any fun i => decide (ml ≤ i)) ||
  f.wr.any (fun i => g.rd.contains i) || g.wr.any (fun i => f.rd.contains i)
/-- Which operations come ahead of which, whatever order is drawn (as bits). -/
def msk (acc : List Nat) (o : Oper) : Nat := o.after.toList.foldl (fun s e => if Region.binds .any e then s ||| 2 ^ e.on ||| acc.getD e.on 0 else s) 0
def bef (ops : List Oper) : List Nat := ops.foldl (fun acc o => acc ++ [msk acc o]) []
def ordered (b : List Nat) (i j : Nat) : Bool := (b.getD (max i j) 0).testBit (min i j)
def namesOf (ops : List Oper) (o : Oper) : List Tmp :=
  o.dst.toList ++ (match o.guard with | none => [] | some (j, _) => ((ops[j]?).bind (·.dst)).toList) ++ o.op.operands.toList.filterMap fun | .tmp t => some t | _ => none
def peace (ml : Nat) (ops : Array Oper) (tr : List (Nat × Req)) : Bool :=
  let b := bef ops.toList
  let loud := tr.filter fun x => (x.2.foot pol).loud
  loud.all fun (j, rj) => loud.all fun (i, ri) => !(i < j) || ordered b i j || !confl ml (ri.foot pol) (rj.foot pol)
def drawStatic (ops : Array Oper) : Bool :=
  let b := bef ops.toList
  ops.toList.all (fun o => o.after.toList.all fun e => !Region.binds .any e || decide (e.on < ops.size)) &&
  ops.toList.zipIdx.all (fun (o, j) => o.after.toList.all (fun e => !Region.binds .any e || decide (e.on < j))) &&
  ops.toList.zipIdx.all fun (o, j) => (namesOf ops.toList o).all fun t => ops.toList.zipIdx.all fun (o', i) => o'.dst != some t || i == j || ordered b i j

def resultsA (st : St) : List ResultVar → Option (List AV)
  | [] => some []
  | .tmp t :: rs => match lget st.tmps t, resultsA st rs with
    | some v, some vs => some (v :: vs)
    | _, _ => none
  | .cell a t :: rs =>
    match lget st.tmps a, szOf P t, aggOf P t with
    | some (.ptr id ver off), some n, some ag =>
      match perform ⟨[], 0⟩ (.load id ver off n ag) st.mem, resultsA st rs with
      | some (v, _), some vs => some (v :: vs)
      | _, _ => none
    | _, _, _ => none
def oneOrTup : List AV → AV
  | [v] => v
  | vs => .tup vs

def X.jump : X → Option Code
  | .normal => none
  | .exit i => some (.exit i)
  | .goto l => some (.goto l)
  | .ret => some .ret

structure Bn where
  ex : Env → Code → St → Option (X × St)
  call : CallT

def callM (md : Md) (ih : Bn) (en : Env) (f : FuncId) (args : List AV) (m : Mem) : Option (AV × Mem) :=
  match P.funcs[f]? with
  | none => none
  | some fn =>
    match fn.body with
    | none => none
    | some c =>
      fNat m.length fun ml =>
      let en' : Env := match md with
        | .opn => en
        | .mut => ⟨ml :: en.bases, en.bar⟩
        | .pur | .cls => ⟨ml :: en.bases, ml⟩
      spine (args ++ List.replicate (fn.ntmps - args.length) und) fun ts =>
      match ih.ex en' c ⟨ts, m⟩ with
      | some (x, st) =>
        if x = .normal ∨ x = .ret then
          match resultsA P st fn.results.toList with
          | some vs =>
            let v := oneOrTup vs
            match md with
            | .opn => some (v, st.mem)
            | .mut => match frz st.mem ml frzDepth v with
              | some v => spine (st.mem.take ml) fun m => some (v, m)
              | none => none
            | .pur | .cls => match frz st.mem ml frzDepth v with
              | some v => some (v, m)
              | none => none
          | none => none
        else none
      | none => none

def flat : AV → Bool
  | .sc _ => true
  | .tup vs => vs.all fun v => match v with | .sc _ => true | _ => false
  | _ => false
def callF (ih : Bn) (en : Env) (f : FuncId) (args : List AV) (m : Mem) : Option (AV × Mem) :=
  match pol.dir f with
  | some d => d en args m
  | none =>
  match pol.mode f with
  | .cls => match args.mapM (frz m 0 frzDepth) with
    | some args => match spine args fun args => callM P .pur ih ⟨[], 0⟩ f args [] with
      | some (v, _) => if flat v then some (v, m) else none
      | none => none
    | none => none
  | md => callM P md ih en f args m

def setMany (ts : List AV) : List (Tmp × AV) → List AV
  | [] => ts
  | (t, v) :: r => setMany (ts.set t v) r

def callY (ih : Bn) (en : Env) (id : Nat) (args : List AV) (m : Mem) : Option (AV × Mem) :=
  if en.bar ≤ id then
    match lget m id with
    | some (.loop .ready _ tmps params assign body) =>
      if args.length = params.size then
        match (spine (setMany tmps (params.toList.zip args)) fun ts => ih.ex en assign ⟨ts, m⟩) with
        | some (.normal, st1) =>
          match lget st1.mem id with
          | some (.loop .ready p2 t2 pa2 a2 b2) =>
            match (lsetK (.loop .busy p2 t2 pa2 a2 b2) st1.mem id fun m => ih.ex en body ⟨st1.tmps, m⟩) with
            | some (x, st3) =>
              match lget st3.mem id with
              | some (.loop _ _ t3 pa3 a3 b3) =>
                lsetK (.loop (if x.jump.isNone then .ready else .done) x.jump t3 pa3 a3 b3) st3.mem id fun m => some (.sc (.bool x.jump.isNone), m)
              | _ => none
            | none => none
          | _ => none
        | _ => none
      else none
    | _ => none
  else none

def stepV (ih : Bn) : Bn where
  call en fn args m := match fn with
    | .func f => callF P pol ih en f args m
    | .yield id => callY ih en id args m
    | _ => none
  ex en c st := match c with
    | .skip | .label _ => some (.normal, st)
    | .region _ ops draw =>
      if draw then
        match runI P pol ih.call en ops.toList (List.range ops.size) st with
        | some (st', tr) => if drawStatic ops && peace pol st.mem.length ops tr then some (.normal, st') else none
        | none => none
      else (runL P pol ih.call en ops.toList ops.toList st).map (.normal, ·)
    | .seq a b => match ih.ex en a st with
      | some (.normal, st) => ih.ex en b st
      | r => r
    | .cond c a b => match opnd pol st.tmps c with
      | some (.sc (.bool t)) => ih.ex en (if t then a else b) st
      | _ => none
    | .block id body => match ih.ex en body st with
      | some (.exit i, st) => some (if i = id then .normal else .exit i, st)
      | r => r
    | .loop body => match ih.ex en body st with
      | some (.normal, st) => ih.ex en (.loop body) st
      | r => r
    | .rangeFunc f params assign body =>
      match opnd pol st.tmps f with
      | some (.clo (.func g) first cap) =>
        if (pol.dir g).isSome then none else
        match (fNat st.mem.length fun ml => spine (st.mem ++ [.loop .ready none st.tmps params assign body]) fun m => ih.call en (.func g) (first ++ [.clo (.yield ml) [] []] ++ cap) m) with
        | some (_, m2) =>
          match lget m2 st.mem.length with
          | some (.loop s p t pa a b) =>
            if s = .busy then none else
            match p with
            | none => lsetK (.loop .exhausted p t pa a b) m2 st.mem.length fun m => some (.normal, ⟨st.tmps, m⟩)
            | some c => lsetK (.loop .exhausted p t pa a b) m2 st.mem.length fun m => ih.ex en c ⟨st.tmps, m⟩
          | _ => none
        | none => none
      | _ => none
    | .exit id => some (.exit id, st)
    | .goto l => some (.goto l, st)
    | .ret => some (.ret, st)
    | .scope body => match ih.ex en body st with
      | some (.goto _, _) => none
      | r => r
    | .refuse _ => none

def bot : Bn := ⟨fun _ _ _ => none, fun _ _ _ _ => none⟩
def vrun (n : Nat) : Bn := Nat.rec bot (fun _ ih => stepV P pol ih) n
end
end
end Go.Proofs.YtcmjidnbbfcbjaaGreatDoor.V
/- What a value of the VM stands for in the model's memory, and how memory may go on; no condition. -/
namespace Go.Proofs.YtcmjidnbbfcbjaaGreatDoor.V
open Go
set_option linter.unusedVariables false
set_option linter.unusedSimpArgs false

/-- A world, with the VM's store: object i lies in block β[i].1, its cells from β[i].2 on. -/
structure En where
  w : World
  β : List (Nat × Nat)
  m : Mem

def En.live (E : En) (b : Nat) : Prop := ∃ (id : Nat) (p : Nat), E.β[id]? = some (b, p)
def En.bs (E : En) (b : Nat) : Nat :=
  match E.w.heap[b]? with
  | some (.cells c _ fz) => if fz = (0, 0) then c.size else 0
  | _ => 0
/-- Cells that nobody writes any more. -/
def Held (E : En) (a : Addr) (us : List Value) : Prop := ∀ (i : Nat) u, us[i]? = some u → ¬ E.live a.block ∧ E.w.cell? ⟨a.block, a.off + i, none⟩ = some u

mutual
def Rep (E : En) : AV → Value → Prop
  | .sc u, v => v = u ∧ scalar u = true
  | .nilP, v => v = .pointer none
  | .nilS, v => v = .slice none 0 0
  | .nilM, v => v = .map none
  | .nilF, v => v = .nilFunc
  | .nilI, v => v = .nilIface
  | .ptr id ver off, v => ∃ a, v = .pointer (some a) ∧ ∃ ver' cs, E.m[id]? = some (.cells ver' cs) ∧ ver ≤ ver' ∧
      (ver = ver' → ∃ B p, E.β[id]? = some (B, p) ∧ a = ⟨B, p + off, none⟩)
  | .cptr cs, v => ∃ a us, v = .pointer (some a) ∧ a.spot = none ∧ cs.all AV.leaf = true ∧ RepL E cs us ∧ Held E a us
  | .lst n cs clip, v => ∃ a cap us, v = .slice (some a) n cap ∧ n ≤ cap ∧ (a.spot = none ∨ cap = 0) ∧ (clip = true → cap = n) ∧ cs.all AV.leaf = true ∧ RepL E cs us ∧ Held E a us
  | .own id ver off len esz, v => ∃ a cap, v = .slice (some a) len cap ∧ len ≤ cap ∧ ∃ ver' cs, E.m[id]? = some (.cells ver' cs) ∧ ver ≤ ver' ∧
      (ver = ver' → off + len * esz ≤ cs.length ∧ ∃ B p, E.β[id]? = some (B, p) ∧ ((cap = 0 ∧ a.spot = none) ∨ a = ⟨B, p + off, none⟩) ∧ p + off + cap * esz ≤ E.bs B)
  | .mp id, v => ∃ B p es, E.β[id]? = some (B, p) ∧ v = .map (some B) ∧ E.m[id]? = some (.map es)
  | .it id, v => ∃ B p s k, E.β[id]? = some (B, p) ∧ v = .pointer (some ⟨B, 0, none⟩) ∧ E.m[id]? = some (.iter s k)
  | .any, v => ∃ n : Int, v = .int .u8 n
  | .clo (.yield id) a b, v => ∃ us vs, RepL E a us ∧ RepL E b vs ∧ ∃ B p s pd ts ps as bd, E.β[id]? = some (B, p) ∧ E.m[id]? = some (.loop s pd ts ps as bd) ∧ v = .func (.yield B) us.toArray vs.toArray
  | .clo fn a b, v => ∃ us vs, RepL E a us ∧ RepL E b vs ∧ v = .func fn us.toArray vs.toArray
  | .ifc t x, v => ∃ u, v = .iface t u ∧ Rep E x u
  | .agg cs, v => ∃ us, v = .agg us.toArray ∧ cs.all AV.leaf = true ∧ RepL E cs us
  | .tup cs, v => ∃ us, v = .tuple us.toArray ∧ RepL E cs us
def RepL (E : En) : List AV → List Value → Prop
  | [], us => us = []
  | c :: cs, us => ∃ u us', us = u :: us' ∧ Rep E c u ∧ RepL E cs us'
end

theorem RepL_iff (E : En) (cs : List AV) : ∀ us, RepL E cs us ↔ cs.length = us.length ∧ ∀ (i : Nat) c u, cs[i]? = some c → us[i]? = some u → Rep E c u := by
  induction cs with
  | nil => intro us; cases us <;> simp [RepL]
  | cons c cs ih =>
    intro us
    cases us with
    | nil => simp [RepL]
    | cons u us =>
      simp only [RepL, List.cons.injEq, List.length_cons]
      constructor
      · rintro ⟨u', us', ⟨rfl, rfl⟩, h, hl⟩
        rw [ih] at hl
        refine ⟨by omega, fun i c' u' hc hu => ?_⟩
        cases i with
        | zero => simp at hc hu; subst hc hu; exact h
        | succ i => exact hl.2 i c' u' (by simpa using hc) (by simpa using hu)
      · rintro ⟨hl, h⟩
        refine ⟨u, us, ⟨rfl, rfl⟩, h 0 c u rfl rfl, (ih us).2 ⟨by omega, fun i c' u' hc hu => h (i + 1) c' u' (by simpa using hc) (by simpa using hu)⟩⟩

theorem RepL.length {E : En} {cs us} (h : RepL E cs us) : cs.length = us.length := ((RepL_iff E cs us).1 h).1
theorem RepL.get {E : En} {cs us} (h : RepL E cs us) {i : Nat} {c} (hc : cs[i]? = some c) : ∃ u, us[i]? = some u ∧ Rep E c u := by
  obtain ⟨hl, hg⟩ := (RepL_iff E cs us).1 h
  have hi : i < us.length := by rw [← hl]; exact (List.getElem?_eq_some_iff.1 hc).1
  exact ⟨us[i], List.getElem?_eq_getElem hi, hg i c _ hc (List.getElem?_eq_getElem hi)⟩
theorem RepL.nil {E : En} : RepL E [] [] := by simp [RepL]
theorem RepL.cons {E : En} {c cs u us} (h : Rep E c u) (hl : RepL E cs us) : RepL E (c :: cs) (u :: us) := by
  simp only [RepL]; exact ⟨u, us, rfl, h, hl⟩
theorem RepL.append {E : En} {cs us cs' us'} (h : RepL E cs us) (h' : RepL E cs' us') : RepL E (cs ++ cs') (us ++ us') := by
  induction cs generalizing us with
  | nil => simp [RepL] at h; subst h; simpa using h'
  | cons c cs ih => obtain ⟨u, us₁, rfl, hc, hl⟩ := h; exact RepL.cons hc (ih hl)
theorem RepL.take {E : En} {cs us} (n : Nat) (h : RepL E cs us) : RepL E (cs.take n) (us.take n) := by
  induction cs generalizing us n with
  | nil => simp [RepL] at h; subst h; simp [RepL]
  | cons c cs ih =>
    obtain ⟨u, us₁, rfl, hc, hl⟩ := h
    cases n with
    | zero => simp [RepL]
    | succ n => exact RepL.cons hc (ih n hl)
theorem RepL.drop {E : En} {cs us} (n : Nat) (h : RepL E cs us) : RepL E (cs.drop n) (us.drop n) := by
  induction cs generalizing us n with
  | nil => simp [RepL] at h; subst h; simp [RepL]
  | cons c cs ih =>
    obtain ⟨u, us₁, rfl, hc, hl⟩ := h
    cases n with
    | zero => exact RepL.cons hc hl
    | succ n => exact ih n hl
theorem RepL.set {E : En} {cs us c u} (i : Nat) (h : RepL E cs us) (hc : Rep E c u) : RepL E (cs.set i c) (us.set i u) := by
  induction cs generalizing us i with
  | nil => simp [RepL] at h; subst h; simp [RepL]
  | cons c' cs ih =>
    obtain ⟨u', us₁, rfl, hc', hl⟩ := h
    cases i with
    | zero => exact RepL.cons hc hl
    | succ i => exact RepL.cons hc' (ih i hl)
theorem RepL.replicate {E : En} {c u} (n : Nat) (h : Rep E c u) : RepL E (List.replicate n c) (List.replicate n u) := by
  induction n with
  | zero => exact RepL.nil
  | succ n ih => exact RepL.cons h ih
theorem RepL.mapM {α : Type} {E : En} {f : α → Option AV} {g : α → Value} {xs : List α} {cs : List AV} (h : xs.mapM f = some cs) (hf : ∀ x c, x ∈ xs → f x = some c → Rep E c (g x)) : RepL E cs (xs.map g) := by
  induction xs generalizing cs with
  | nil => simp at h; subst h; exact RepL.nil
  | cons x xs ih =>
    simp only [List.mapM_cons] at h
    cases hx : f x with
    | none => simp [hx] at h
    | some c =>
      cases hr : xs.mapM f with
      | none => simp [hx, hr] at h
      | some cs' =>
        simp [hx, hr] at h
        subst h
        exact RepL.cons (hf x c (by simp) hx) (ih hr fun y c hy => hf y c (by simp [hy]))

/-- How an object may have gone on. -/
def keeps : Ob → Ob → Prop
  | .cells v cs, .cells v' cs' => v ≤ v' ∧ (v = v' → cs'.length = cs.length)
  | .map _, .map _ => True
  | .loop .., .loop .. => True
  | .iter .., .iter .. => True
  | _, _ => False
def sameVer : Ob → Ob → Prop
  | .cells v _, .cells v' _ => v = v'
  | _, _ => True

structure Ext (E E' : En) : Prop where
  os : E'.w.os = E.w.os
  tape : E'.w.tape = E.w.tape
  output : E'.w.output = E.w.output
  size : E.w.heap.size ≤ E'.w.heap.size
  old : ∀ (b : Nat), b < E.w.heap.size → ¬ E.live b → ¬ E'.live b ∧ E'.w.heap[b]? = E.w.heap[b]?
  ob : ∀ (id : Nat) o, E.m[id]? = some o → ∃ o', E'.m[id]? = some o' ∧ keeps o o' ∧ (sameVer o o' → E'.β[id]? = E.β[id]? ∧ ∀ B p, E.β[id]? = some (B, p) → E'.bs B = E.bs B)

theorem keeps.refl (o : Ob) : keeps o o := by cases o <;> simp [keeps]
theorem Ext.refl (E : En) : Ext E E := ⟨rfl, rfl, rfl, Nat.le_refl _, fun _ _ h => ⟨h, rfl⟩, fun _ o h => ⟨o, h, keeps.refl o, fun _ => ⟨rfl, fun _ _ _ => rfl⟩⟩⟩
theorem Ext.trans {E F G : En} (h : Ext E F) (k : Ext F G) : Ext E G := by
  refine ⟨k.os.trans h.os, k.tape.trans h.tape, k.output.trans h.output, Nat.le_trans h.size k.size, fun b hb hl => ?_, fun id o ho => ?_⟩
  · obtain ⟨h1, h2⟩ := h.old b hb hl
    obtain ⟨k1, k2⟩ := k.old b (Nat.lt_of_lt_of_le hb h.size) h1
    exact ⟨k1, k2.trans h2⟩
  · obtain ⟨o1, h1, h2, h3⟩ := h.ob id o ho
    obtain ⟨o2, k1, k2, k3⟩ := k.ob id o1 h1
    refine ⟨o2, k1, ?_, ?_⟩
    · cases o <;> cases o1 <;> simp [keeps] at h2 <;> cases o2 <;> simp [keeps] at k2 <;> simp [keeps]
      obtain ⟨a, ha⟩ := h2
      obtain ⟨b, hb⟩ := k2
      exact ⟨Nat.le_trans a b, fun e => by
        have := ha (by omega)
        have := hb (by omega)
        omega⟩
    · intro hs
      have s1 : sameVer o o1 ∧ sameVer o1 o2 := by
        cases o <;> cases o1 <;> simp [keeps] at h2 <;> cases o2 <;> simp [keeps] at k2 <;> simp [sameVer] at hs ⊢
        omega
      obtain ⟨a1, a2⟩ := h3 s1.1
      obtain ⟨b1, b2⟩ := k3 s1.2
      exact ⟨b1.trans a1, fun B p hB => (b2 B p (a1.trans hB)).trans (a2 B p hB)⟩

theorem cell_lt {w : World} {a : Addr} {u : Value} (h : w.cell? a = some u) : a.block < w.heap.size := by
  unfold World.cell? at h
  split at h
  · rename_i hb; exact (Array.getElem?_eq_some_iff.1 hb).1
  · cases h
theorem cell_of_block {w w' : World} {a : Addr} (h : w'.heap[a.block]? = w.heap[a.block]?) : w'.cell? a = w.cell? a := by
  unfold World.cell?; rw [h]
/-- The part of it that values need. -/
structure ExtW (E E' : En) : Prop where
  old : ∀ (b : Nat), ¬ E.live b → (∃ c t fz, E.w.heap[b]? = some (.cells c t fz)) → ¬ E'.live b ∧ E'.w.heap[b]? = E.w.heap[b]?
  ob : ∀ (id : Nat) o, E.m[id]? = some o → ∃ o', E'.m[id]? = some o' ∧ keeps o o' ∧ (sameVer o o' → E'.β[id]? = E.β[id]? ∧ ∀ B p, E.β[id]? = some (B, p) → E'.bs B = E.bs B)
theorem Ext.toW {E E' : En} (x : Ext E E') : ExtW E E' :=
  ⟨fun b hl ⟨c, t, fz, h⟩ => x.old b (Array.getElem?_eq_some_iff.1 h).1 hl, x.ob⟩
theorem cells_of_cell {w : World} {a : Addr} {u : Value} (h : w.cell? a = some u) : ∃ c t fz, w.heap[a.block]? = some (.cells c t fz) := by
  unfold World.cell? at h
  split at h
  · rename_i c t fz hb; exact ⟨c, t, fz, hb⟩
  · cases h
theorem Held.monoW {E E' : En} {a : Addr} {us} (x : ExtW E E') (h : Held E a us) : Held E' a us := by
  intro i u hu
  obtain ⟨h1, h2⟩ := h i u hu
  obtain ⟨k1, k2⟩ := x.old a.block h1 (cells_of_cell (a := ⟨a.block, a.off + i, none⟩) h2)
  exact ⟨k1, (cell_of_block (a := ⟨a.block, a.off + i, none⟩) k2).trans h2⟩

mutual
theorem Rep.monoW {E E' : En} (x : ExtW E E') : ∀ (v : AV) (u : Value), Rep E v u → Rep E' v u
  | .sc _, _, h | .nilP, _, h | .nilS, _, h | .nilM, _, h | .nilF, _, h | .nilI, _, h | .any, _, h => by simpa [Rep] using h
  | .ptr id ver off, u, h => by
    simp only [Rep] at h ⊢
    obtain ⟨a, rfl, ver', cs, hm, hle, hv⟩ := h
    obtain ⟨o', h1, h2, h3⟩ := x.ob id _ hm
    cases o' with
    | cells v2 cs2 =>
      simp only [keeps] at h2
      refine ⟨a, rfl, v2, cs2, h1, by omega, fun e => ?_⟩
      have e1 : ver = ver' := by omega
      obtain ⟨B, p, hB, ha⟩ := hv e1
      exact ⟨B, p, (h3 (by simp [sameVer]; omega)).1.trans hB, ha⟩
    | map _ => simp [keeps] at h2
    | loop _ _ _ _ _ _ => simp [keeps] at h2
    | iter _ _ => simp [keeps] at h2
  | .cptr cs, u, h => by
    simp only [Rep] at h ⊢
    obtain ⟨a, us, rfl, hs, hf, hl, hh⟩ := h
    exact ⟨a, us, rfl, hs, hf, RepL.monoW x cs us hl, hh.monoW x⟩
  | .lst n cs c, u, h => by
    simp only [Rep] at h ⊢
    obtain ⟨a, cap, us, rfl, hn, hs, hc, hf, hl, hh⟩ := h
    exact ⟨a, cap, us, rfl, hn, hs, hc, hf, RepL.monoW x cs us hl, hh.monoW x⟩
  | .own id ver off len esz, u, h => by
    simp only [Rep] at h ⊢
    obtain ⟨a, cap, rfl, hn, ver', cs, hm, hle, hv⟩ := h
    obtain ⟨o', h1, h2, h3⟩ := x.ob id _ hm
    cases o' with
    | cells v2 cs2 =>
      simp only [keeps] at h2
      refine ⟨a, cap, rfl, hn, v2, cs2, h1, by omega, fun e => ?_⟩
      have e1 : ver = ver' := by omega
      obtain ⟨hl, B, p, hB, ha, hs⟩ := hv e1
      have hl2 := h2.2 (by omega)
      obtain ⟨k1, k2⟩ := h3 (by simp [sameVer]; omega)
      exact ⟨by omega, B, p, k1.trans hB, ha, by rw [k2 B p hB]; exact hs⟩
    | map _ => simp [keeps] at h2
    | loop _ _ _ _ _ _ => simp [keeps] at h2
    | iter _ _ => simp [keeps] at h2
  | .mp id, u, h => by
    simp only [Rep] at h ⊢
    obtain ⟨B, p, es, hB, rfl, hm⟩ := h
    obtain ⟨o', h1, h2, h3⟩ := x.ob id _ hm
    cases o' with
    | map es' => exact ⟨B, p, es', (h3 (by simp [sameVer])).1.trans hB, rfl, h1⟩
    | cells _ _ => simp [keeps] at h2
    | loop _ _ _ _ _ _ => simp [keeps] at h2
    | iter _ _ => simp [keeps] at h2
  | .it id, u, h => by
    simp only [Rep] at h ⊢
    obtain ⟨B, p, s, k, hB, rfl, hm⟩ := h
    obtain ⟨o', h1, h2, h3⟩ := x.ob id _ hm
    cases o' with
    | iter s' k' => exact ⟨B, p, s', k', (h3 (by simp [sameVer])).1.trans hB, rfl, h1⟩
    | cells _ _ => simp [keeps] at h2
    | loop _ _ _ _ _ _ => simp [keeps] at h2
    | map _ => simp [keeps] at h2
  | .clo fn a b, u, h => by
    cases fn with
    | yield id =>
      simp only [Rep] at h ⊢
      obtain ⟨us, vs, ha, hb, B, p, s, pd, ts, ps, as, bd, hB, hm, rfl⟩ := h
      obtain ⟨o', h1, h2, h3⟩ := x.ob id _ hm
      cases o' with
      | loop s' pd' ts' ps' as' bd' => exact ⟨us, vs, RepL.monoW x a us ha, RepL.monoW x b vs hb, B, p, s', pd', ts', ps', as', bd', (h3 (by simp [sameVer])).1.trans hB, h1, rfl⟩
      | cells _ _ => simp [keeps] at h2
      | map _ => simp [keeps] at h2
      | iter _ _ => simp [keeps] at h2
    | func _ => simp only [Rep] at h ⊢; obtain ⟨us, vs, ha, hb, rfl⟩ := h; exact ⟨us, vs, RepL.monoW x a us ha, RepL.monoW x b vs hb, rfl⟩
    | method _ => simp only [Rep] at h ⊢; obtain ⟨us, vs, ha, hb, rfl⟩ := h; exact ⟨us, vs, RepL.monoW x a us ha, RepL.monoW x b vs hb, rfl⟩
    | methodOf _ _ => simp only [Rep] at h ⊢; obtain ⟨us, vs, ha, hb, rfl⟩ := h; exact ⟨us, vs, RepL.monoW x a us ha, RepL.monoW x b vs hb, rfl⟩
    | via _ _ _ _ => simp only [Rep] at h ⊢; obtain ⟨us, vs, ha, hb, rfl⟩ := h; exact ⟨us, vs, RepL.monoW x a us ha, RepL.monoW x b vs hb, rfl⟩
  | .ifc t v, u, h => by
    simp only [Rep] at h ⊢
    obtain ⟨u', rfl, hu⟩ := h
    exact ⟨u', rfl, Rep.monoW x v u' hu⟩
  | .agg cs, u, h => by
    simp only [Rep] at h ⊢
    obtain ⟨us, rfl, hf, hl⟩ := h
    exact ⟨us, rfl, hf, RepL.monoW x cs us hl⟩
  | .tup cs, u, h => by
    simp only [Rep] at h ⊢
    obtain ⟨us, rfl, hl⟩ := h
    exact ⟨us, rfl, RepL.monoW x cs us hl⟩
theorem RepL.monoW {E E' : En} (x : ExtW E E') : ∀ (cs : List AV) (us : List Value), RepL E cs us → RepL E' cs us
  | [], us, h => by simpa [RepL] using h
  | c :: cs, us, h => by
    simp only [RepL] at h ⊢
    obtain ⟨u, us', rfl, h1, h2⟩ := h
    exact ⟨u, us', rfl, Rep.monoW x c u h1, RepL.monoW x cs us' h2⟩
end

theorem Held.mono {E E' : En} {a : Addr} {us} (x : Ext E E') (h : Held E a us) : Held E' a us := h.monoW x.toW
theorem Rep.mono {E E' : En} (x : Ext E E') : ∀ (v : AV) (u : Value), Rep E v u → Rep E' v u := Rep.monoW x.toW
theorem RepL.mono {E E' : En} (x : Ext E E') : ∀ (cs : List AV) (us : List Value), RepL E cs us → RepL E' cs us := RepL.monoW x.toW

def MapR (E : En) (es : List (Value × AV)) (ents : List MapEntry) : Prop :=
  es.length = ents.length ∧ ∀ (i : Nat) e x, es[i]? = some e → ents[i]? = some x → x.key = e.1 ∧ scalar e.1 = true ∧ Rep E e.2 x.val

def ObR (E : En) : Ob → Nat → Nat → Prop
  | .cells v cs, B, p => ∃ c t fz us, E.w.heap[B]? = some (.cells c t fz) ∧ cs.all AV.leaf = true ∧ RepL E cs us ∧ (∀ (i : Nat) u, us[i]? = some u → c[p + i]? = some u) ∧
      (fz = (0, 0) ∨ cs = []) ∧ (v % 65536 = 0 ∨ v % 65536 = t + 1) ∧ (v < 65536 → p = 0)
  | .map es, B, _ => ∃ ents clock, E.w.heap[B]? = some (.map ents clock) ∧ MapR E es ents.toList
  | .loop st pd ts ps as bd, B, _ => ∃ l us, E.w.heap[B]? = some (.loop l) ∧ l.state = st ∧ l.pending = pd ∧ l.params = ps ∧ l.assign = as ∧ l.body = bd ∧ l.tmps = us.toArray ∧ RepL E ts us
  | .iter s k, B, _ => E.w.heap[B]? = some (.stringIter s k)

/-- A package variable: its cells, and no more. -/
structure GRep (E : En) (g : Nat) (cs : List AV) : Prop where
  rep : Rep E (.cptr cs) (.pointer (some ⟨g, 0, none⟩))
  whole : cs ≠ [] → ∃ c t fz, E.w.heap[g]? = some (.cells c t fz) ∧ c.size = cs.length
theorem GRep.monoW {E E' : En} (x : ExtW E E') {g : Nat} {cs : List AV} (h : GRep E g cs) : GRep E' g cs := by
  refine ⟨Rep.monoW x _ _ h.rep, fun hne => ?_⟩
  obtain ⟨c, t, fz, h1, h2⟩ := h.whole hne
  have hr := h.rep
  simp only [Rep] at hr
  obtain ⟨a, us, ha, _, _, hl, hh⟩ := hr
  cases ha
  cases cs with
  | nil => exact (hne rfl).elim
  | cons d cs =>
    obtain ⟨u, us', rfl, _, _⟩ := hl
    exact ⟨c, t, fz, (x.old g (hh 0 u rfl).1 ⟨c, t, fz, h1⟩).2.trans h1, h2⟩
theorem GRep.mono {E E' : En} (x : Ext E E') {g : Nat} {cs : List AV} (h : GRep E g cs) : GRep E' g cs := h.monoW x.toW
/-- The store lies in the world. -/
structure MI (pol : Pol) (E : En) : Prop where
  len : E.β.length = E.m.length
  inj : ∀ (i j b p q : Nat), E.β[i]? = some (b, p) → E.β[j]? = some (b, q) → i = j
  ob : ∀ (id : Nat) o, E.m[id]? = some o → ∃ B p, E.β[id]? = some (B, p) ∧ ObR E o B p
  glob : ∀ g cs, pol.glob g = some cs → GRep E g cs

theorem Rep.leaf_one {E : En} : ∀ {v : AV} {u : Value}, Rep E v u → v.leaf = true → u.oneCell' = true := by
  intro v u h hl
  cases v with
  | sc u' => simp only [Rep] at h; obtain ⟨rfl, hs⟩ := h; cases u <;> simp [scalar] at hs <;> rfl
  | nilP | nilS | nilM | nilF | nilI => simp only [Rep] at h; subst h; rfl
  | ptr _ _ _ => simp only [Rep] at h; obtain ⟨a, rfl, _⟩ := h; rfl
  | cptr _ => simp only [Rep] at h; obtain ⟨a, us, rfl, _⟩ := h; rfl
  | lst _ _ _ => simp only [Rep] at h; obtain ⟨a, cap, us, rfl, _⟩ := h; rfl
  | own _ _ _ _ _ => simp only [Rep] at h; obtain ⟨a, cap, rfl, _⟩ := h; rfl
  | mp _ => simp only [Rep] at h; obtain ⟨B, p, es, hB, rfl, _⟩ := h; rfl
  | it _ => simp only [Rep] at h; obtain ⟨B, p, s, k, hB, rfl, _⟩ := h; rfl
  | any => simp only [Rep] at h; obtain ⟨n, rfl⟩ := h; rfl
  | clo fn _ _ => cases fn <;> simp only [Rep] at h
                  case yield => obtain ⟨us, vs, _, _, B, p, s, pd, ts, ps, as, bd, _, _, rfl⟩ := h; rfl
                  all_goals (obtain ⟨us, vs, _, _, rfl⟩ := h; rfl)
  | ifc _ _ => simp only [Rep] at h; obtain ⟨u', rfl, _⟩ := h; rfl
  | agg _ => simp [AV.leaf] at hl
  | tup _ => simp [AV.leaf] at hl
theorem RepL.ones {E : En} {cs us} (h : RepL E cs us) (hl : cs.all AV.leaf = true) : ∀ u ∈ us, u.oneCell' = true := by
  intro u hu
  obtain ⟨i, hi⟩ := List.mem_iff_getElem?.1 hu
  have hlen := h.length
  have hi' : i < cs.length := by rw [hlen]; exact (List.getElem?_eq_some_iff.1 hi).1
  obtain ⟨u', hu', hr⟩ := h.get (List.getElem?_eq_getElem hi')
  rw [hi] at hu'; cases hu'
  exact hr.leaf_one (List.all_eq_true.1 hl _ (List.getElem_mem hi'))

/-- The frame's slots. -/
def FR (E : En) (ts : List AV) (a : Act) : Prop := ∃ us, a.tmps = us.toArray ∧ RepL E ts us
theorem FR.mono {E E' : En} (x : Ext E E') {ts a} (h : FR E ts a) : FR E' ts a := by
  obtain ⟨us, h1, h2⟩ := h; exact ⟨us, h1, RepL.mono x ts us h2⟩
end Go.Proofs.YtcmjidnbbfcbjaaGreatDoor.V
/- Steps of the VM's store are steps of the model's memory; no condition. -/
namespace Go.Proofs.YtcmjidnbbfcbjaaGreatDoor.V
open Go
set_option linter.unusedVariables false
set_option linter.unusedSimpArgs false
variable {P : Program} {pol : Pol}

theorem addr_add (b o n : Nat) : (⟨b, o, none⟩ : Addr).add n = ⟨b, o + n, none⟩ := by unfold Addr.add; split <;> simp_all
theorem addr_add' (a : Addr) (h : a.spot = none) (n : Nat) : a.add n = ⟨a.block, a.off + n, none⟩ := by
  obtain ⟨b, o, s⟩ := a; simp only at h; subst h; exact addr_add b o n

/-! Values without addresses. -/
theorem pv_run {α : Type} {s : Sem α} : ∀ {a : α} (w : World), pv P s = some a → s.run P w = .ok a w := by
  induction s with
  | pure b => intro a w h; simp only [pv, Option.some.injEq] at h; subst h; rfl
  | program k ih => intro a w h; simp only [pv] at h; simp only [Sem.run]; exact ih P w h
  | _ => intro a w h; simp [pv] at h

theorem ofLeaf_rep {E : En} {v : Value} {c : AV} (h : ofLeaf v = some c) : Rep E c v ∧ c.leaf = true := by
  unfold ofLeaf at h
  split at h <;> first
    | (cases h; simp [Rep, AV.leaf]; done)
    | (split at h
       · rename_i hs; cases h; exact ⟨by simp [Rep, hs], rfl⟩
       · cases h)
theorem mapM_rep {E : En} {f : Value → Option AV} (hf : ∀ v c, f v = some c → Rep E c v) : ∀ {vs : List Value} {cs : List AV}, vs.mapM f = some cs → RepL E cs vs := by
  intro vs
  induction vs with
  | nil => intro cs h; simp at h; subst h; exact RepL.nil
  | cons v vs ih =>
    intro cs h
    simp only [List.mapM_cons] at h
    cases hx : f v with
    | none => simp [hx] at h
    | some c =>
      cases hr : vs.mapM f with
      | none => simp [hx, hr] at h
      | some cs' => simp [hx, hr] at h; subst h; exact RepL.cons (hf v c hx) (ih hr)
theorem mapM_leaf {f : Value → Option AV} (hf : ∀ v c, f v = some c → c.leaf = true) : ∀ {vs : List Value} {cs : List AV}, vs.mapM f = some cs → cs.all AV.leaf = true := by
  intro vs
  induction vs with
  | nil => intro cs h; simp at h; subst h; rfl
  | cons v vs ih =>
    intro cs h
    simp only [List.mapM_cons] at h
    cases hx : f v with
    | none => simp [hx] at h
    | some c =>
      cases hr : vs.mapM f with
      | none => simp [hx, hr] at h
      | some cs' => simp [hx, hr] at h; subst h; simp only [List.all_cons, hf v c hx, Bool.true_and]; exact ih hr
theorem ofV1_rep {E : En} {v : Value} {c : AV} (h : ofV1 v = some c) : Rep E c v := by
  unfold ofV1 at h
  split at h
  · rename_i cs
    cases hm : cs.toList.mapM ofLeaf with
    | none => simp [hm] at h
    | some l =>
      simp [hm] at h; subst h
      simp only [Rep]
      exact ⟨cs.toList, by simp, mapM_leaf (fun v c hc => (ofLeaf_rep (E := E) hc).2) hm, mapM_rep (fun v c hc => (ofLeaf_rep hc).1) hm⟩
  · exact (ofLeaf_rep h).1
theorem ofV_rep {E : En} {v : Value} {c : AV} (h : ofV v = some c) : Rep E c v := by
  unfold ofV at h
  split at h
  · rename_i cs
    cases hm : cs.toList.mapM ofV1 with
    | none => simp [hm] at h
    | some l => simp [hm] at h; subst h; simp only [Rep]; exact ⟨cs.toList, by simp, mapM_rep (fun v c hc => ofV1_rep hc) hm⟩
  · exact ofV1_rep h

mutual
theorem toV_eq {E : En} : ∀ (v : AV) (u u' : Value), Rep E v u → v.toV = some u' → u = u'
  | .sc _, u, u', h, k => by simp only [Rep] at h; simp only [AV.toV, Option.some.injEq] at k; exact h.1.trans k
  | .nilP, u, u', h, k | .nilS, u, u', h, k | .nilM, u, u', h, k | .nilF, u, u', h, k | .nilI, u, u', h, k => by simp only [Rep] at h; simp only [AV.toV, Option.some.injEq] at k; exact h.trans k
  | .agg cs, u, u', h, k => by
    simp only [Rep] at h; obtain ⟨us, rfl, _, hl⟩ := h
    simp only [AV.toV, Option.map_eq_some_iff] at k; obtain ⟨l, hk, rfl⟩ := k
    rw [toVL_eq cs us l hl hk]
  | .tup cs, u, u', h, k => by
    simp only [Rep] at h; obtain ⟨us, rfl, hl⟩ := h
    simp only [AV.toV, Option.map_eq_some_iff] at k; obtain ⟨l, hk, rfl⟩ := k
    rw [toVL_eq cs us l hl hk]
  | .ifc t v, u, u', h, k => by
    simp only [Rep] at h; obtain ⟨u₁, rfl, hl⟩ := h
    simp only [AV.toV, Option.map_eq_some_iff] at k; obtain ⟨l, hk, rfl⟩ := k
    rw [toV_eq v u₁ l hl hk]
  | .ptr _ _ _, _, _, _, k | .cptr _, _, _, _, k | .lst _ _ _, _, _, _, k | .own _ _ _ _ _, _, _, _, k | .mp _, _, _, _, k | .it _, _, _, _, k | .any, _, _, _, k | .clo _ _ _, _, _, _, k => by simp [AV.toV] at k
theorem toVL_eq {E : En} : ∀ (cs : List AV) (us us' : List Value), RepL E cs us → AV.toVL cs = some us' → us = us'
  | [], us, us', h, k => by simp only [RepL] at h; simp only [AV.toVL, Option.some.injEq] at k; exact h.trans k
  | c :: cs, us, us', h, k => by
    simp only [RepL] at h; obtain ⟨u, us₁, rfl, h1, h2⟩ := h
    simp only [AV.toVL] at k
    cases h3 : AV.toV c with
    | none => simp [h3] at k
    | some x =>
      cases h4 : AV.toVL cs with
      | none => simp [h3, h4] at k
      | some xs => simp [h3, h4] at k; subst k; rw [toV_eq c u x h1 h3, toVL_eq cs us₁ xs h2 h4]
end

/-! How the store goes on. -/
/-- A block of nobody's. -/
def En.push (E : En) (ob : Obj) : En := { E with w := { E.w with heap := E.w.heap.push ob } }

theorem MI.blk {E : En} (h : MI pol E) {id : Nat} {B p : Nat} (hB : E.β[id]? = some (B, p)) : B < E.w.heap.size := by
  have hid : id < E.m.length := by rw [← h.len]; exact (List.getElem?_eq_some_iff.1 hB).1
  obtain ⟨B', p', h1, h2⟩ := h.ob id _ (List.getElem?_eq_getElem hid)
  rw [hB] at h1; cases h1
  cases hm : E.m[id] <;> rw [hm] at h2 <;> simp only [ObR] at h2
  · obtain ⟨c, t, fz, us, hh, _⟩ := h2; exact (Array.getElem?_eq_some_iff.1 hh).1
  · obtain ⟨ents, clock, hh, _⟩ := h2; exact (Array.getElem?_eq_some_iff.1 hh).1
  · obtain ⟨l, us, hh, _⟩ := h2; exact (Array.getElem?_eq_some_iff.1 hh).1
  · exact (Array.getElem?_eq_some_iff.1 h2).1
theorem bs_of_heap {E E' : En} {B : Nat} (h : E'.w.heap[B]? = E.w.heap[B]?) : E'.bs B = E.bs B := by unfold En.bs; rw [h]
theorem MapR.mono {E E' : En} (x : Ext E E') {es ents} (h : MapR E es ents) : MapR E' es ents :=
  ⟨h.1, fun i e y he hy => let ⟨a, b, c⟩ := h.2 i e y he hy; ⟨a, b, Rep.mono x _ _ c⟩⟩
theorem ObR.mono {E E' : En} (x : Ext E E') {o B p} (hh : E'.w.heap[B]? = E.w.heap[B]?) (h : ObR E o B p) : ObR E' o B p := by
  cases o with
  | cells v cs => simp only [ObR] at h ⊢; obtain ⟨c, t, fz, us, h1, h2, h3, h4⟩ := h; exact ⟨c, t, fz, us, hh.trans h1, h2, RepL.mono x _ _ h3, h4⟩
  | map es => simp only [ObR] at h ⊢; obtain ⟨ents, clock, h1, h2⟩ := h; exact ⟨ents, clock, hh.trans h1, h2.mono x⟩
  | loop st pd ts ps as bd => simp only [ObR] at h ⊢; obtain ⟨l, us, h1, h2, h3, h4, h5, h6, h7, h8⟩ := h; exact ⟨l, us, hh.trans h1, h2, h3, h4, h5, h6, h7, RepL.mono x _ _ h8⟩
  | iter s k => simp only [ObR] at h ⊢; exact hh.trans h

theorem push_ext {E : En} (h : MI pol E) (ob : Obj) : Ext E (E.push ob) := by
  refine ⟨rfl, rfl, rfl, by simp [En.push], fun b hb hl => ⟨hl, ?_⟩, fun id o ho => ⟨o, ho, keeps.refl o, fun _ => ⟨rfl, fun B p hB => bs_of_heap ?_⟩⟩⟩
  · simp only [En.push, Array.getElem?_push]; rw [if_neg (by omega)]
  · have := h.blk hB; simp only [En.push, Array.getElem?_push]; rw [if_neg (by omega)]
theorem push_mi {E : En} (h : MI pol E) (ob : Obj) : MI pol (E.push ob) := by
  have x := push_ext h ob
  refine ⟨h.len, h.inj, fun id o ho => ?_, fun g cs hg => (h.glob g cs hg).mono x⟩
  obtain ⟨B, p, hB, hr⟩ := h.ob id o ho
  refine ⟨B, p, hB, hr.mono x ?_⟩
  have := h.blk hB; simp only [En.push, Array.getElem?_push]; rw [if_neg (by omega)]
theorem drew_ext {E : En} (n : Nat) : Ext E { E with w := { E.w with drawn := n } } :=
  ⟨rfl, rfl, rfl, Nat.le_refl _, fun _ _ hl => ⟨hl, rfl⟩, fun _ o ho => ⟨o, ho, keeps.refl o, fun _ => ⟨rfl, fun _ _ _ => rfl⟩⟩⟩
theorem drew_mi {E : En} (h : MI pol E) (n : Nat) : MI pol { E with w := { E.w with drawn := n } } := by
  have x := drew_ext (E := E) n
  exact ⟨h.len, h.inj, fun id o ho => let ⟨B, p, hB, hr⟩ := h.ob id o ho; ⟨B, p, hB, hr.mono x rfl⟩, fun g cs hg => (h.glob g cs hg).mono x⟩

/-- A new object in a new block. -/
theorem new_ok {E : En} (h : MI pol E) (ob : Obj) (o : Ob) (ho : ∀ E', Ext E E' → E'.w = (E.push ob).w → ObR E' o E.w.heap.size 0) :
    ∃ E', E'.w = (E.push ob).w ∧ E'.m = E.m ++ [o] ∧ E'.β = E.β ++ [(E.w.heap.size, 0)] ∧ MI pol E' ∧ Ext E E' := by
  let E' : En := { w := (E.push ob).w, β := E.β ++ [(E.w.heap.size, 0)], m := E.m ++ [o] }
  have hlen := h.len
  have hβ : ∀ id x, E.β[id]? = some x → E'.β[id]? = some x := fun id x hx => by
    have := (List.getElem?_eq_some_iff.1 hx).1
    show (E.β ++ _)[id]? = _; rw [List.getElem?_append_left this]; exact hx
  have hβ' : ∀ (id : Nat) x, E'.β[id]? = some x → (E.β[id]? = some x ∧ id < E.β.length) ∨ (id = E.β.length ∧ x = (E.w.heap.size, 0)) := fun id x hx => by
    simp only [E', List.getElem?_append] at hx
    split at hx
    · rename_i hl; exact .inl ⟨hx, hl⟩
    · right
      have h0 : id - E.β.length = 0 := by
        have := (List.getElem?_eq_some_iff.1 hx).1
        simp at this; omega
      rw [h0] at hx; simp at hx; exact ⟨by omega, hx.symm⟩
  have hheap : ∀ b, b < E.w.heap.size → E'.w.heap[b]? = E.w.heap[b]? := fun b hb => by
    simp only [E', En.push, Array.getElem?_push]; rw [if_neg (by omega)]
  have x : Ext E E' := by
    refine ⟨rfl, rfl, rfl, by simp [E', En.push], fun b hb hl => ⟨?_, hheap b hb⟩, fun id o' ho' => ⟨o', ?_, keeps.refl o', fun _ => ⟨?_, fun B p hB => bs_of_heap (hheap B (h.blk hB))⟩⟩⟩
    · rintro ⟨id, p, hid⟩
      rcases hβ' id _ hid with ⟨h1, _⟩ | ⟨_, h2⟩
      · exact hl ⟨id, p, h1⟩
      · cases h2; omega
    · have := (List.getElem?_eq_some_iff.1 ho').1
      show (E.m ++ _)[id]? = _; rw [List.getElem?_append_left this]; exact ho'
    · have h1 := (List.getElem?_eq_some_iff.1 ho').1
      rw [← hlen] at h1
      rw [List.getElem?_eq_getElem h1]
      exact hβ id _ (List.getElem?_eq_getElem h1)
  refine ⟨E', rfl, rfl, rfl, ⟨by simp [E', hlen], ?_, ?_, fun g cs hg => (h.glob g cs hg).mono x⟩, x⟩
  · intro i j b p q hi hj
    rcases hβ' i _ hi with ⟨h1, h1'⟩ | ⟨h1, h1'⟩ <;> rcases hβ' j _ hj with ⟨h2, h2'⟩ | ⟨h2, h2'⟩
    · exact h.inj i j b p q h1 h2
    · cases h2'; have := h.blk h1; omega
    · cases h1'; have := h.blk h2; omega
    · omega
  · intro id o' ho'
    simp only [E', List.getElem?_append] at ho'
    split at ho'
    · obtain ⟨B, p, hB, hr⟩ := h.ob id o' ho'
      exact ⟨B, p, hβ id _ hB, hr.mono x (hheap B (h.blk hB))⟩
    · rename_i hl
      have h0 : id - E.m.length = 0 := by
        have := (List.getElem?_eq_some_iff.1 ho').1
        simp at this; omega
      rw [h0] at ho'; simp at ho'; subst ho'
      have hid : id = E.β.length := by omega
      exact ⟨E.w.heap.size, 0, by subst hid; simp [E'], ho E' x rfl⟩

/-- An object turned: in its block, or in a new one. -/
theorem upd_ok {E : En} (h : MI pol E) {id : Nat} {o o' : Ob} {B p B' p' : Nat} {w' : World} (ho : E.m[id]? = some o) (hB : E.β[id]? = some (B, p))
    (hos : w'.os = E.w.os) (htape : w'.tape = E.w.tape) (hout : w'.output = E.w.output) (hsize : E.w.heap.size ≤ w'.heap.size)
    (hw : ∀ b, b < E.w.heap.size → b ≠ B → w'.heap[b]? = E.w.heap[b]?) (hB' : B' = B ∨ (E.w.heap.size ≤ B' ∧ w'.heap[B]? = E.w.heap[B]?)) (hk : keeps o o')
    (hs : sameVer o o' → B' = B ∧ p' = p ∧ ({ E with w := w' } : En).bs B = E.bs B)
    (hr : ∀ E', Ext E E' → E'.w = w' → ObR E' o' B' p') :
    ∃ E', E'.w = w' ∧ E'.m = E.m.set id o' ∧ E'.β = E.β.set id (B', p') ∧ MI pol E' ∧ Ext E E' := by
  let E' : En := { w := w', β := E.β.set id (B', p'), m := E.m.set id o' }
  have hidm : id < E.m.length := (List.getElem?_eq_some_iff.1 ho).1
  have hidb : id < E.β.length := (List.getElem?_eq_some_iff.1 hB).1
  have hβ : ∀ (j : Nat), E'.β[j]? = if id = j then some (B', p') else E.β[j]? := fun j => by
    simp only [E', List.getElem?_set]
    split
    · rename_i e; subst e; simp
    · rfl
  have hm : ∀ (j : Nat), E'.m[j]? = if id = j then some o' else E.m[j]? := fun j => by
    simp only [E', List.getElem?_set]
    split
    · rename_i e; subst e; simp
    · rfl
  have hBlt := h.blk hB
  have x : Ext E E' := by
    refine ⟨hos, htape, hout, hsize, fun b hb hl => ⟨?_, ?_⟩, fun j oj hj => ?_⟩
    · rintro ⟨j, q, hj⟩
      rw [hβ] at hj
      split at hj
      · cases hj
        rcases hB' with rfl | ⟨h1, _⟩
        · exact hl ⟨id, p, hB⟩
        · omega
      · exact hl ⟨j, q, hj⟩
    · exact hw b hb (fun e => hl ⟨id, p, by rw [e]; exact hB⟩)
    · by_cases e : id = j
      · subst e
        rw [ho] at hj; cases hj
        refine ⟨o', by rw [hm, if_pos rfl], hk, fun hv => ?_⟩
        obtain ⟨h1, h2, h3⟩ := hs hv
        refine ⟨by rw [hβ, if_pos rfl, h1, h2, hB], fun B₂ p₂ hB₂ => ?_⟩
        rw [hB] at hB₂; cases hB₂; exact h3
      · refine ⟨oj, by rw [hm, if_neg e]; exact hj, keeps.refl oj, fun _ => ⟨by rw [hβ, if_neg e], fun B₂ p₂ hB₂ => bs_of_heap (hw B₂ (h.blk hB₂) ?_)⟩⟩
        rintro rfl
        exact e (h.inj id j _ _ _ hB hB₂)
  refine ⟨E', rfl, rfl, rfl, ⟨by simp [E', h.len], ?_, ?_, fun g cs hg => (h.glob g cs hg).mono x⟩, x⟩
  · intro i j b q q' hi hj
    rw [hβ] at hi hj
    split at hi <;> split at hj
    · omega
    · rename_i e1 e2
      cases hi
      rcases hB' with rfl | ⟨h1, _⟩
      · exact absurd (h.inj id j _ _ _ hB hj) e2
      · have := h.blk hj; omega
    · rename_i e1 e2
      cases hj
      rcases hB' with rfl | ⟨h1, _⟩
      · exact absurd (h.inj id i _ _ _ hB hi) e1
      · have := h.blk hi; omega
    · exact h.inj i j _ _ _ hi hj
  · intro j oj hj
    rw [hm] at hj
    split at hj
    · rename_i e; cases hj; subst e
      exact ⟨B', p', by rw [hβ, if_pos rfl], hr E' x rfl⟩
    · rename_i e
      obtain ⟨B₂, p₂, hB₂, hr₂⟩ := h.ob j oj hj
      refine ⟨B₂, p₂, by rw [hβ, if_neg e]; exact hB₂, hr₂.mono x (hw B₂ (h.blk hB₂) ?_)⟩
      rintro rfl
      exact e (h.inj id j _ _ _ hB hB₂)
end Go.Proofs.YtcmjidnbbfcbjaaGreatDoor.V
/- What an operation asks of the VM's store is what it does to the model's memory: operations that write nothing; no condition. -/
namespace Go.Proofs.YtcmjidnbbfcbjaaGreatDoor.V
open Go
set_option linter.unusedVariables false
set_option linter.unusedSimpArgs false
variable {P : Program} {pol : Pol}

def RunsTo (r : Result Next) (u : Value) (w' : World) : Prop := r = .ok (.value u) w' ∨ (r = .ok .skip w' ∧ u = undef)
def Done (pol : Pol) (E : En) (r : Result Next) (v : AV) (m' : Mem) : Prop := ∃ E' u, RunsTo r u E'.w ∧ E'.m = m' ∧ MI pol E' ∧ Ext E E' ∧ Rep E' v u
theorem Done.same {E : En} {r : Result Next} {v : AV} {u : Value} (h : MI pol E) (hr : r = .ok (.value u) E.w) (hv : Rep E v u) : Done pol E r v E.m :=
  ⟨E, u, .inl hr, rfl, h, Ext.refl E, hv⟩

/-- The operands' values. -/
def Opn (E : En) (ρ : Operand → Option AV) (ρc : Operand → Value) : Prop := ∀ x v, ρ x = some v → Rep E v (ρc x)
theorem opnd_ok {E : En} {ts : List AV} {a : Act} (h : MI pol E) (hf : FR E ts a) : Opn E (opnd pol ts) a.eval := by
  intro x v hx
  cases x with
  | tmp t =>
    obtain ⟨us, hus, hl⟩ := hf
    simp only [opnd, lget_eq] at hx
    obtain ⟨u, hu, hr⟩ := hl.get hx
    have : a.eval (.tmp t) = u := by
      simp only [Act.eval, hus]
      have hlt := (List.getElem?_eq_some_iff.1 hu).1
      simp [Array.getD, hlt]
      exact (List.getElem?_eq_some_iff.1 hu).2
    rw [this]; exact hr
  | const c => exact ofV_rep hx
  | global g =>
    simp only [opnd, Option.map_eq_some_iff] at hx
    obtain ⟨cs, hc, rfl⟩ := hx
    exact (h.glob g cs hc).rep
  | func f => simp only [opnd, Option.some.injEq] at hx; subst hx; simp only [Rep]; exact ⟨[], [], RepL.nil, RepL.nil, rfl⟩

theorem mapM_some_mem {α β : Type} {f : α → Option β} : ∀ {xs : List α} {ys : List β}, xs.mapM f = some ys → ∀ x ∈ xs, ∃ y, f x = some y := by
  intro xs
  induction xs with
  | nil => intro ys _ x hx; cases hx
  | cons a xs ih =>
    intro ys h x hx
    simp only [List.mapM_cons] at h
    cases ha : f a with
    | none => simp [ha] at h
    | some b =>
      cases hr : xs.mapM f with
      | none => simp [ha, hr] at h
      | some zs =>
        rcases List.mem_cons.1 hx with rfl | hx
        · exact ⟨b, ha⟩
        · exact ih hr x hx

theorem execOp_congr (ρ ρ' : Operand → Value) (o : Oper) (hp : plainOp o.op = true) (h : ∀ x ∈ o.op.operands.toList, ρ x = ρ' x) : execOp ρ o = execOp ρ' o := by
  obtain ⟨dst, op, type, pos, after, guard⟩ := o
  cases op <;> simp only [plainOp, Bool.false_eq_true] at hp
  case binOp op t x y yt =>
    have h1 := h x (by simp [Op.operands]); have h2 := h y (by simp [Op.operands])
    simp only [execOp, h1, h2]
  case unOp op t x => have h1 := h x (by simp [Op.operands]); simp only [execOp, h1]
  case convert s d x => have h1 := h x (by simp [Op.operands]); simp only [execOp, h1]
  case index t x y =>
    have h1 := h x (by simp [Op.operands]); have h2 := h y (by simp [Op.operands])
    simp only [execOp, h1, h2]
  case slice t x lo hi mx =>
    have h1 := h x (by simp [Op.operands])
    have h2 : lo.map ρ = lo.map ρ' := by cases lo with | none => rfl | some l => simp [h l (by simp [Op.operands])]
    have h3 : hi.map ρ = hi.map ρ' := by cases hi with | none => rfl | some l => simp [h l (by simp [Op.operands])]
    have h4 : mx.map ρ = mx.map ρ' := by cases mx with | none => rfl | some l => simp [h l (by simp [Op.operands])]
    simp only [execOp, h1, h2, h3, h4]
  case call c =>
    obtain ⟨callee, args, ats⟩ := c
    cases callee with
    | builtin b =>
      have h1 : args.map ρ = args.map ρ' := by
        apply Array.map_congr_left
        intro x hx
        exact h x (by simp [Op.operands, Call.operands]; exact hx)
      simp only [execOp, resolve, h1]
    | value f => simp at hp
    | invoke r m => simp at hp

theorem generic_ok {E : En} {ρ : Operand → Option AV} {ρc : Operand → Value} (hρ : Opn E ρ ρc) {o : Oper} {r : Req} (h : generic P ρ o = some r) :
    ∃ v u, r = .val v ∧ (∀ w, (execOp ρc o).run P w = .ok (.value u) w) ∧ ∀ E', Rep E' v u := by
  unfold generic at h
  split at h
  · cases h
  rename_i hp
  split at h
  · cases h
  rename_i l hl
  split at h
  case h_2 => cases h
  rename_i u hu
  simp only [Option.map_eq_some_iff] at h
  obtain ⟨v, hv, rfl⟩ := h
  refine ⟨v, u, rfl, fun w => ?_, fun E' => ofV_rep hv⟩
  rw [execOp_congr ρc (fun x => ((ρ x).bind AV.toV).getD undef) o (by simpa using hp) ?_]
  · exact pv_run w hu
  intro x hx
  obtain ⟨y, hy⟩ := mapM_some_mem hl x hx
  rw [hy]
  cases hx' : ρ x with
  | none => simp [hx'] at hy
  | some a => simp [hx'] at hy; exact toV_eq a _ _ (hρ x a hx') hy
theorem generic_done {E : En} {ρ : Operand → Option AV} {ρc : Operand → Value} (hM : MI pol E) (hρ : Opn E ρ ρc) {o : Oper} {r : Req} (h : generic P ρ o = some r) :
    ∃ v, r = .val v ∧ Done pol E ((execOp ρc o).run P E.w) v E.m := by
  obtain ⟨v, u, h1, h2, h3⟩ := generic_ok hρ h
  exact ⟨v, h1, Done.same hM (h2 _) (h3 _)⟩

/-! Types. -/
theorem szOf_run {t : TypeId} {n : Nat} (h : szOf P t = some n) (w : World) : (sizeOf t).run P w = .ok n w := by
  simp only [szOf, Option.map_eq_some_iff] at h
  obtain ⟨i, hi, rfl⟩ := h
  simp [sizeOf, typeInfo, hi]
theorem aggOf_run {t : TypeId} {b : Bool} (h : aggOf P t = some b) (w : World) : (isAgg t).run P w = .ok b w := by
  unfold aggOf at h
  unfold isAgg
  cases hu : P.underlying t with
  | none => simp [hu] at h
  | some d =>
    simp only [Sem.run_bind, run_underlying hu, Result.andThen_ok]
    rw [hu] at h
    cases d <;> simp_all
theorem zeroOf_run {t : TypeId} {z : AV} (h : zeroOf P t = some z) : ∃ u, (∀ w, (zeroValue t).run P w = .ok u w) ∧ (∀ E, Rep E z u) ∧ z.cells.all AV.leaf = true := by
  unfold zeroOf at h
  cases hi : P.info? t with
  | none => simp [hi] at h
  | some i =>
    cases hz : i.zero with
    | none => simp [hi, hz] at h
    | some u =>
      simp [hi, hz] at h
      refine ⟨u, fun w => by simp [zeroValue, typeInfo, hi, hz], fun E => ofV1_rep h, ?_⟩
      unfold ofV1 at h
      split at h
      · rename_i cs
        cases hm : cs.toList.mapM ofLeaf with
        | none => simp [hm] at h
        | some l => simp [hm] at h; subst h; exact mapM_leaf (fun v c hc => (ofLeaf_rep (E := ⟨default, [], []⟩) hc).2) hm
      · have := (ofLeaf_rep (E := ⟨default, [], []⟩) h).2
        cases z <;> simp_all [AV.cells, AV.leaf]
theorem elem_run {t e : TypeId} (h : elemOfS P t = some e) : P.underlying t = some (.slice e) := by
  unfold elemOfS at h
  split at h
  · rename_i e' he; cases h; exact he
  · cases h

/-! Loads. -/
theorem Held.load {E : En} {a : Addr} {us : List Value} (h : Held E a us) (hs : a.spot = none) {u : Value} (h0 : us[0]? = some u) : (load a).run P E.w = .ok u E.w := by
  obtain ⟨_, h2⟩ := h 0 u h0
  have : (⟨a.block, a.off + 0, none⟩ : Addr) = a := by obtain ⟨b, o, s⟩ := a; simp at hs; subst hs; rfl
  rw [this] at h2
  simp [h2]
theorem all_take {cs : List AV} (h : cs.all AV.leaf = true) (n : Nat) : (cs.take n).all AV.leaf = true := by
  rw [List.all_eq_true] at h ⊢; exact fun x hx => h x (List.mem_of_mem_take hx)
theorem all_drop {cs : List AV} (h : cs.all AV.leaf = true) (n : Nat) : (cs.drop n).all AV.leaf = true := by
  rw [List.all_eq_true] at h ⊢; exact fun x hx => h x (List.mem_of_mem_drop hx)
theorem Held.cells {E : En} {a : Addr} {us : List Value} (h : Held E a us) (hs : a.spot = none) (n : Nat) : ∀ (j : Nat) v, (us.take n)[j]? = some v → E.w.cell? (a.add j) = some v := by
  intro j v hj
  simp only [List.getElem?_take] at hj
  split at hj
  · rw [addr_add' a hs]; exact (h j v hj).2
  · cases hj
theorem run_loadVar_leaf {t : TypeId} {a : Addr} {w w' : World} {u : Value} (h : aggOf P t = some false) (hl : (load a).run P w = .ok u w') : (loadVar t a).run P w = .ok u w' := by
  unfold loadVar
  simp only [Sem.run_bind, aggOf_run h, Result.andThen_ok, Bool.false_eq_true, if_false]
  exact hl
theorem run_loadVar_agg {t : TypeId} {a : Addr} {w : World} {us : List Value} (h : aggOf P t = some true) (hs : szOf P t = some us.length) (hl : ∀ j v, us[j]? = some v → w.cell? (a.add j) = some v) : (loadVar t a).run P w = .ok (.agg us.toArray) w := by
  unfold loadVar
  simp only [Sem.run_bind, aggOf_run h, Result.andThen_ok, if_true, szOf_run hs, run_loadCells_list (P := P) w a us hl, Sem.run_pure]
theorem run_loadAt {t : TypeId} {a : Addr} {w w' : World} {u : Value} (h : (loadVar t a).run P w = .ok u w') : (Instr.loadAt t (.pointer (some a))).run P w = .ok u w' := by
  simp [Instr.loadAt, Instr.sureAddr, h]

/-- The cells of an object, as they lie. -/
theorem obj_cells {E : En} (h : MI pol E) {id ver : Nat} {cs : List AV} (hm : E.m[id]? = some (.cells ver cs)) {B p : Nat} (hB : E.β[id]? = some (B, p)) :
    ∃ c t fz us, E.w.heap[B]? = some (.cells c t fz) ∧ cs.all AV.leaf = true ∧ RepL E cs us ∧ (∀ (i : Nat) u, us[i]? = some u → c[p + i]? = some u) ∧
      (fz = (0, 0) ∨ cs = []) ∧ (ver % 65536 = 0 ∨ ver % 65536 = t + 1) ∧ (ver < 65536 → p = 0) := by
  obtain ⟨B', p', h1, h2⟩ := h.ob id _ hm
  rw [hB] at h1; cases h1; exact h2
theorem cell_of {w : World} {B : Nat} {c : Array Value} {t : TypeId} {fz : Nat × Nat} (h : w.heap[B]? = some (.cells c t fz)) (i : Nat) : w.cell? ⟨B, i, none⟩ = c[i]? := by
  simp [World.cell?, h]
theorem rd_ok {E : En} (h : MI pol E) {id ver off n : Nat} {cs : List AV} (hr : rd E.m id ver off n = some cs) {a : Addr} (hp : Rep E (.ptr id ver off) (.pointer (some a))) :
    ∃ us, RepL E cs us ∧ cs.all AV.leaf = true ∧ cs.length = n ∧ ∀ (j : Nat) v, us[j]? = some v → E.w.cell? (a.add j) = some v := by
  unfold rd at hr
  rw [lget_eq] at hr
  split at hr
  case h_2 => cases hr
  rename_i v' cs' hm
  split at hr
  case isFalse => cases hr
  rename_i hc
  obtain ⟨rfl, hlen⟩ := hc
  cases hr
  simp only [Rep] at hp
  obtain ⟨a', ha, ver', cs'', hm', hle, hv⟩ := hp
  cases ha
  rw [hm] at hm'; cases hm'
  obtain ⟨B, p, hB, rfl⟩ := hv rfl
  obtain ⟨c, t, fz, us, h1, h2, h3, h4, _⟩ := obj_cells h hm hB
  refine ⟨(us.drop off).take n, (h3.drop off).take n, ?_, by simp; omega, fun j v hj => ?_⟩
  · rw [List.all_eq_true] at h2 ⊢
    intro x hx
    exact h2 x (List.mem_of_mem_drop (List.mem_of_mem_take hx))
  · rw [addr_add, cell_of h1]
    simp only [List.getElem?_take, List.getElem?_drop] at hj
    split at hj
    · have := h4 _ _ hj; rw [← this]; congr 1; omega
    · cases hj
theorem ptr_addr {E : En} {id ver off : Nat} {u : Value} (h : Rep E (.ptr id ver off) u) : ∃ a, u = .pointer (some a) := by
  simp only [Rep] at h; obtain ⟨a, h, _⟩ := h; exact ⟨a, h⟩

theorem load_ok {E : En} (hM : MI pol E) {ρ : Operand → Option AV} {ρc : Operand → Value} (hρ : Opn E ρ ρc) {o : Oper} {t : TypeId} {x : Operand} (ho : o.op = .load t x)
    {en : Env} {r : Req} {v : AV} {m' : Mem} (h : plan P ρ o = some r) (hp : perform en r E.m = some (v, m')) : Done pol E ((execOp ρc o).run P E.w) v m' := by
  have hrun : ∀ u, (Instr.loadAt t (ρc x)).run P E.w = .ok u E.w → (execOp ρc o).run P E.w = .ok (.value u) E.w := by
    intro u hu; simp [execOp, ho, hu]
  simp only [plan, ho] at h
  split at h
  · rename_i id ver off n ag hx hs hg
    cases h
    have hr := hρ x _ hx
    obtain ⟨a, ha⟩ := ptr_addr hr
    rw [ha] at hr
    cases ag with
    | true =>
      simp only [perform, Option.map_eq_some_iff] at hp
      obtain ⟨cs, hcs, he⟩ := hp
      cases he
      obtain ⟨us, h1, h2, h3, h4⟩ := rd_ok hM hcs hr
      refine Done.same hM (hrun (.agg us.toArray) ?_) (by simp only [Rep]; exact ⟨us, rfl, h2, h1⟩)
      rw [ha]
      exact run_loadAt (run_loadVar_agg hg (by rw [hs, ← h1.length, h3]) h4)
    | false =>
      simp only [perform] at hp
      rw [lget_eq] at hp
      split at hp
      case h_2 => cases hp
      rename_i v' cs' hm
      split at hp
      case isFalse => cases hp
      rename_i hv
      subst hv
      simp only [Option.map_eq_some_iff] at hp
      obtain ⟨c, hc, he⟩ := hp
      cases he
      simp only [Rep] at hr
      obtain ⟨a', ha', ver', cs'', hm', hle, hv⟩ := hr
      cases ha'
      rw [hm] at hm'; cases hm'
      obtain ⟨B, p, hB, rfl⟩ := hv rfl
      obtain ⟨c', t', fz, us, h1, h2, h3, h4, _⟩ := obj_cells hM hm hB
      rw [lget_eq] at hc
      obtain ⟨u, hu, hru⟩ := h3.get hc
      refine Done.same hM (hrun u ?_) hru
      rw [ha]
      exact run_loadAt (run_loadVar_leaf hg (by simp [cell_of h1, h4 _ _ hu]))
  · rename_i cs n hx hs hg
    split at h
    case isFalse => cases h
    rename_i hle
    cases h
    cases hp
    have hr := hρ x _ hx
    simp only [Rep] at hr
    obtain ⟨a, us, ha, hsp, hf, hl, hh⟩ := hr
    have hlen : n = (us.take n).length := by have := hl.length; simp; omega
    refine Done.same hM (hrun (.agg (us.take n).toArray) ?_) (by simp only [Rep]; exact ⟨_, rfl, all_take hf n, hl.take n⟩)
    rw [ha]
    exact run_loadAt (run_loadVar_agg hg (by rw [← hlen]; exact hs) (hh.cells hsp n))
  · rename_i c cs n hx hs hg
    cases h
    cases hp
    have hr := hρ x _ hx
    simp only [Rep] at hr
    obtain ⟨a, us, ha, hsp, hf, hl, hh⟩ := hr
    simp only [RepL] at hl
    obtain ⟨u, us', rfl, h1, h2⟩ := hl
    refine Done.same hM (hrun u ?_) h1
    rw [ha]
    exact run_loadAt (run_loadVar_leaf hg (hh.load hsp rfl))
  · cases h
end Go.Proofs.YtcmjidnbbfcbjaaGreatDoor.V
/- What an operation asks of the VM's store is what it does to the model's memory: values; no condition. -/
namespace Go.Proofs.YtcmjidnbbfcbjaaGreatDoor.V
open Go
set_option linter.unusedVariables false
set_option linter.unusedSimpArgs false
variable {P : Program} {pol : Pol}

theorem ibin_run {op : BinOp} {k k' : IntKind} {a b : Int} {v : Value} (h : ibin op k a k' b = some v) (t : TypeId) (x y : Operand) (w : World) :
    (eqGuard op t x y (.int k a) (.int k' b)).run P w = .ok () w ∧ (binOp op t (.int k a) (.int k' b)).run P w = .ok v w ∧ scalar v = true := by
  have hg : (eqGuard op t x y (.int k a) (.int k' b)).run P w = .ok () w := by cases op <;> simp [eqGuard]
  refine ⟨hg, ?_⟩
  unfold ibin at h
  split at h
  · split at h
    · cases h
    · rename_i hb; cases h; refine ⟨?_, rfl⟩; simp [binOp, Op.shift, hb]
  · split at h
    · cases h
    · rename_i hb; cases h; refine ⟨?_, rfl⟩; simp [binOp, Op.shift, hb]
  · rename_i h1 h2
    split at h
    · cases h
    rename_i hk
    have hk : k = k' := by simpa using hk
    subst hk
    cases op <;> simp only [reduceCtorEq, Option.some.injEq] at h <;> first
      | (exact absurd rfl h1)
      | (exact absurd rfl h2)
      | (subst h; refine ⟨?_, rfl⟩; simp [binOp, Op.intArith, Op.intBits, Op.intCmp])

theorem rep_int {E : En} {k n u} (h : Rep E (.sc (.int k n)) u) : u = .int k n := by simp only [Rep] at h; exact h.1
theorem rep_bool {E : En} {b u} (h : Rep E (.sc (.bool b)) u) : u = .bool b := by simp only [Rep] at h; exact h.1
theorem asI_rep {E : En} {v : AV} {u : Value} {k n} (h : Rep E v u) (ha : asI v = some (k, n)) : u = .int k n := by
  unfold asI at ha; split at ha
  · cases ha; exact rep_int h
  · cases ha

theorem move_ok {E : En} (hM : MI pol E) {ρ : Operand → Option AV} {ρc : Operand → Value} (hρ : Opn E ρ ρc) {o : Oper} {x : Operand} (ho : o.op = .move x ∨ o.op = .assign x) {r : Req} (h : plan P ρ o = some r) :
    ∃ v, r = .val v ∧ Done pol E ((execOp ρc o).run P E.w) v E.m := by
  have h' : (ρ x).map .val = some r := by rcases ho with ho | ho <;> simpa [plan, ho] using h
  simp only [Option.map_eq_some_iff] at h'
  obtain ⟨v, hv, rfl⟩ := h'
  exact ⟨v, rfl, Done.same (u := ρc x) hM (by rcases ho with ho | ho <;> simp [execOp, ho]) (hρ x v hv)⟩
theorem pick_ok {E : En} (hM : MI pol E) {ρ : Operand → Option AV} {ρc : Operand → Value} (hρ : Opn E ρ ρc) {o : Oper} {c a b : Operand} (ho : o.op = .pick c a b) {r : Req} (h : plan P ρ o = some r) :
    ∃ v, r = .val v ∧ Done pol E ((execOp ρc o).run P E.w) v E.m := by
  simp only [plan, ho] at h
  split at h
  case h_2 => cases h
  rename_i t hc
  simp only [Option.map_eq_some_iff] at h
  obtain ⟨v, hv, rfl⟩ := h
  have hcc := rep_bool (hρ c _ hc)
  cases t with
  | true => exact ⟨v, rfl, Done.same (u := ρc a) hM (by simp [execOp, ho, hcc, asBool]) (hρ a v hv)⟩
  | false => exact ⟨v, rfl, Done.same (u := ρc b) hM (by simp [execOp, ho, hcc, asBool]) (hρ b v hv)⟩
theorem nilCheck_ok {E : En} (hM : MI pol E) {ρ : Operand → Option AV} {ρc : Operand → Value} (hρ : Opn E ρ ρc) {o : Oper} {x : Operand} (ho : o.op = .nilCheck x) {r : Req} (h : plan P ρ o = some r) :
    ∃ v, r = .val v ∧ Done pol E ((execOp ρc o).run P E.w) v E.m := by
  simp only [plan, ho] at h
  split at h
  · rename_i id ver off hx; cases h
    have hr := hρ x _ hx
    obtain ⟨a, ha⟩ := ptr_addr hr
    exact ⟨_, rfl, Done.same (u := ρc x) hM (by simp [execOp, ho, ha]) hr⟩
  · rename_i cs hx; cases h
    have hr := hρ x _ hx
    have hr' := hr
    simp only [Rep] at hr'; obtain ⟨a, us, ha, _⟩ := hr'
    exact ⟨_, rfl, Done.same (u := ρc x) hM (by simp [execOp, ho, ha]) hr⟩
  · rename_i f a b hx; cases h
    have hr := hρ x _ hx
    have hr' := hr
    simp only [Rep] at hr'; obtain ⟨us, vs, _, _, ha⟩ := hr'
    exact ⟨_, rfl, Done.same (u := ρc x) hM (by simp [execOp, ho, ha]) hr⟩
  · rename_i f a b hx; cases h
    have hr := hρ x _ hx
    have hr' := hr
    simp only [Rep] at hr'; obtain ⟨us, vs, _, _, B, p, s, pd, ts, ps, as, bd, _, _, ha⟩ := hr'
    exact ⟨_, rfl, Done.same (u := ρc x) hM (by simp [execOp, ho, ha]) hr⟩
  · cases h
theorem unOp_ok {E : En} (hM : MI pol E) {ρ : Operand → Option AV} {ρc : Operand → Value} (hρ : Opn E ρ ρc) {o : Oper} {op : UnOp} {t : TypeId} {x : Operand} (ho : o.op = .unOp op t x) {r : Req} (h : plan P ρ o = some r) :
    ∃ v, r = .val v ∧ Done pol E ((execOp ρc o).run P E.w) v E.m := by
  simp only [plan, ho] at h
  split at h
  · rename_i b hx
    cases h
    have hx' := rep_bool (hρ x _ hx)
    exact ⟨_, rfl, Done.same (u := .bool !b) hM (by simp [execOp, ho, hx', Op.unary]) (by simp [Rep, scalar])⟩
  · exact generic_done hM hρ h
theorem makeInterface_ok {E : En} (hM : MI pol E) {ρ : Operand → Option AV} {ρc : Operand → Value} (hρ : Opn E ρ ρc) {o : Oper} {t : TypeId} {x : Operand} (ho : o.op = .makeInterface t x) {r : Req} (h : plan P ρ o = some r) :
    ∃ v, r = .val v ∧ Done pol E ((execOp ρc o).run P E.w) v E.m := by
  simp only [plan, ho] at h
  split at h
  · cases h
  · cases h
  · cases h
  · rename_i v hv h1 h2
    cases h
    refine ⟨_, rfl, Done.same (u := .iface t (ρc x)) hM ?_ (by simp only [Rep]; exact ⟨_, rfl, hρ x v hv⟩)⟩
    cases hu : P.underlying t with
    | none => exact absurd hu h2
    | some d => cases d <;> first | (exact absurd hu (h1 _)) | (simp [execOp, ho, Instr.makeInterface, run_underlying hu])
theorem mapM_opn {E : En} {ρ : Operand → Option AV} {ρc : Operand → Value} (hρ : Opn E ρ ρc) {xs : Array Operand} {cs : List AV} (h : xs.toList.mapM ρ = some cs) : RepL E cs (xs.map ρc).toList := by
  have := RepL.mapM (E := E) (g := ρc) h (fun x c _ hx => hρ x c hx)
  simpa using this
theorem makeFunc_ok {E : En} (hM : MI pol E) {ρ : Operand → Option AV} {ρc : Operand → Value} (hρ : Opn E ρ ρc) {o : Oper} {fn : Fn} {first captured : Array Operand} (ho : o.op = .makeFunc fn first captured) {r : Req} (h : plan P ρ o = some r) :
    ∃ v, r = .val v ∧ Done pol E ((execOp ρc o).run P E.w) v E.m := by
  simp only [plan, ho] at h
  split at h
  · rename_i f a b ha hb
    cases h
    refine ⟨_, rfl, Done.same (u := .func (.func f) (first.map ρc) (captured.map ρc)) hM (by simp [execOp, ho, Instr.makeFunc]) ?_⟩
    simp only [Rep]
    exact ⟨(first.map ρc).toList, (captured.map ρc).toList, mapM_opn hρ ha, mapM_opn hρ hb, by cases first; cases captured; simp⟩
  · cases h
theorem extract_ok {E : En} (hM : MI pol E) {ρ : Operand → Option AV} {ρc : Operand → Value} (hρ : Opn E ρ ρc) {o : Oper} {t : Operand} {ix : Nat} (ho : o.op = .extract t ix) {r : Req} (h : plan P ρ o = some r) :
    ∃ v, r = .val v ∧ Done pol E ((execOp ρc o).run P E.w) v E.m := by
  simp only [plan, ho] at h
  split at h
  · rename_i vs ht
    simp only [Option.map_eq_some_iff] at h
    obtain ⟨v, hv, rfl⟩ := h
    have hr := hρ t _ ht
    simp only [Rep] at hr
    obtain ⟨us, hu, hl⟩ := hr
    obtain ⟨u, hu', hr⟩ := hl.get hv
    exact ⟨_, rfl, Done.same (u := u) hM (by simp [execOp, ho, hu, Instr.extract, hu']) hr⟩
  · cases h
theorem fieldPlace_run {w : World} {a : Addr} {f : Field} {n : Nat} (h : szOf P f.type = some (n + 1)) : (fieldPlace a f).run P w = .ok (a.add f.offset) w := by
  simp [fieldPlace, szOf_run h]
theorem fieldAddr_ok {E : En} (hM : MI pol E) {ρ : Operand → Option AV} {ρc : Operand → Value} (hρ : Opn E ρ ρc) {o : Oper} {s : TypeId} {x : Operand} {f : Nat} (ho : o.op = .fieldAddr s x f) {r : Req} (h : plan P ρ o = some r) :
    ∃ v, r = .val v ∧ Done pol E ((execOp ρc o).run P E.w) v E.m := by
  simp only [plan, ho] at h
  split at h
  case h_2 => cases h
  rename_i fs v hs hx
  split at h
  case h_2 => cases h
  rename_i fd hfd
  split at h
  case h_2 => cases h
  rename_i n hn
  have hr := hρ x _ hx
  split at h
  · rename_i id ver off
    cases h
    obtain ⟨a, ha⟩ := ptr_addr hr
    refine ⟨_, rfl, Done.same (u := .pointer (some (a.add fd.offset))) hM (by simp [execOp, ho, Instr.fieldAt, run_underlying hs, hfd, ha, Instr.sureAddr, fieldPlace_run hn]) ?_⟩
    rw [ha] at hr
    simp only [Rep] at hr ⊢
    obtain ⟨a', ha', ver', cs, hm, hle, hv⟩ := hr
    cases ha'
    refine ⟨_, rfl, ver', cs, hm, hle, fun e => ?_⟩
    obtain ⟨B, p, hB, rfl⟩ := hv e
    exact ⟨B, p, hB, by rw [addr_add]; congr 1; omega⟩
  · rename_i cs
    split at h
    case isFalse => cases h
    rename_i hle
    cases h
    simp only [Rep] at hr
    obtain ⟨a, us, ha, hsp, hf, hl, hh⟩ := hr
    refine ⟨_, rfl, Done.same (u := .pointer (some (a.add fd.offset))) hM (by simp [execOp, ho, Instr.fieldAt, run_underlying hs, hfd, ha, Instr.sureAddr, fieldPlace_run hn]) ?_⟩
    simp only [Rep]
    refine ⟨_, us.drop fd.offset, rfl, by rw [addr_add' a hsp], all_drop hf _, hl.drop _, ?_⟩
    rw [addr_add' a hsp]
    intro i u hu
    simp only [List.getElem?_drop] at hu
    obtain ⟨h1, h2⟩ := hh _ u hu
    exact ⟨h1, by simp only [Nat.add_assoc]; exact h2⟩
  · cases h
theorem Held.shift {E : En} {a : Addr} {us : List Value} (h : Held E a us) (n : Nat) : Held E ⟨a.block, a.off + n, none⟩ (us.drop n) := by
  intro i u hu
  simp only [List.getElem?_drop] at hu
  obtain ⟨h1, h2⟩ := h _ u hu
  exact ⟨h1, by simp only [Nat.add_assoc]; exact h2⟩
theorem Held.take {E : En} {a : Addr} {us : List Value} (h : Held E a us) (n : Nat) : Held E a (us.take n) := by
  intro i u hu
  simp only [List.getElem?_take] at hu
  split at hu
  · exact h i u hu
  · cases hu
theorem field_ok {E : En} (hM : MI pol E) {ρ : Operand → Option AV} {ρc : Operand → Value} (hρ : Opn E ρ ρc) {o : Oper} {t : TypeId} {x : Operand} {f : Nat} (ho : o.op = .field t x f) {r : Req} (h : plan P ρ o = some r) :
    ∃ v, r = .val v ∧ Done pol E ((execOp ρc o).run P E.w) v E.m := by
  simp only [plan, ho] at h
  split at h
  case h_2 => cases h
  rename_i fs cs hs hx
  split at h
  case h_2 => cases h
  rename_i fd hfd
  have hr := hρ x _ hx
  simp only [Rep] at hr
  obtain ⟨us, hu, hf, hl⟩ := hr
  have hrun : ∀ u, (part fd.type us.toArray fd.offset).run P E.w = .ok u E.w → (execOp ρc o).run P E.w = .ok (.value u) E.w := by
    intro u h; simp [execOp, ho, Instr.field, run_underlying hs, hfd, hu, asAgg, h]
  split at h
  · rename_i n hn ha
    split at h
    case isFalse => cases h
    rename_i hle
    cases h
    refine ⟨_, rfl, Done.same (u := .agg ((us.drop fd.offset).take n).toArray) hM (hrun _ ?_) (by simp only [Rep]; exact ⟨_, rfl, all_take (all_drop hf _) _, (hl.drop _).take _⟩)⟩
    simp only [part, Sem.run_bind, aggOf_run ha, Result.andThen_ok, if_true, szOf_run hn, Sem.run_pure]
    congr 2
    simp [List.take_drop, Nat.add_comm]
  · rename_i n hn ha
    simp only [Option.map_eq_some_iff] at h
    obtain ⟨v, hv, rfl⟩ := h
    obtain ⟨u, hu', hr⟩ := hl.get hv
    refine ⟨_, rfl, Done.same (u := u) hM (hrun _ ?_) hr⟩
    simp only [part, Sem.run_bind, aggOf_run ha, Result.andThen_ok, Bool.false_eq_true, if_false]
    simp [hu']
  · cases h
theorem indexAddr_ok {E : En} (hM : MI pol E) {ρ : Operand → Option AV} {ρc : Operand → Value} (hρ : Opn E ρ ρc) {o : Oper} {t : TypeId} {x ix : Operand} (ho : o.op = .indexAddr t x ix) {r : Req} (h : plan P ρ o = some r) :
    ∃ v, r = .val v ∧ Done pol E ((execOp ρc o).run P E.w) v E.m := by
  simp only [plan, ho] at h
  split at h
  · rename_i e v k i ht hx hi
    cases hix : ρ ix with
    | none => simp [hix] at hi
    | some vi =>
    simp only [hix, Option.bind_some] at hi
    have hi' := asI_rep (hρ ix _ hix) hi
    have hr := hρ x _ hx
    split at h
    · rename_i s n cs c hs
      split at h
      case isFalse => cases h
      rename_i hc
      obtain ⟨h0, h1, h2⟩ := hc
      cases h
      simp only [Rep] at hr
      obtain ⟨a, cap, us, ha, hn, hsp, hcl, hf, hl, hh⟩ := hr
      have hsp : a.spot = none := hsp.resolve_right (by omega)
      refine ⟨_, rfl, Done.same (u := .pointer (some (a.add (i.toNat * s)))) hM ?_ ?_⟩
      · simp [execOp, ho, Instr.indexAt, hi', asIntOf, run_underlying ht, ha, szOf_run hs, h0, h1]
      · simp only [Rep]
        exact ⟨_, us.drop (i.toNat * s), rfl, by rw [addr_add' a hsp], all_drop hf _, hl.drop _, by rw [addr_add' a hsp]; exact hh.shift _⟩
    · rename_i s id ver off n e' hs
      split at h
      case isFalse => cases h
      rename_i hc
      obtain ⟨h0, h1, rfl⟩ := hc
      cases h
      simp only [Rep] at hr
      obtain ⟨a, cap, ha, hn, ver', cs, hm, hle, hv⟩ := hr
      refine ⟨_, rfl, Done.same (u := .pointer (some (a.add (i.toNat * e')))) hM ?_ ?_⟩
      · simp [execOp, ho, Instr.indexAt, hi', asIntOf, run_underlying ht, ha, szOf_run hs, h0, h1]
      · simp only [Rep]
        refine ⟨_, rfl, ver', cs, hm, hle, fun e => ?_⟩
        obtain ⟨_, B, p, hB, hcap, _⟩ := hv e
        refine ⟨B, p, hB, ?_⟩
        rcases hcap with ⟨rfl, _⟩ | rfl
        · omega
        · rw [addr_add]; congr 1; omega
    · cases h
  · rename_i n e v k i ht hx hi
    cases hix : ρ ix with
    | none => simp [hix] at hi
    | some vi =>
    simp only [hix, Option.bind_some] at hi
    have hi' := asI_rep (hρ ix _ hix) hi
    have hr := hρ x _ hx
    split at h
    · rename_i s id ver off hs
      split at h
      case isFalse => cases h
      rename_i hc
      obtain ⟨h0, h1⟩ := hc
      cases h
      simp only [Rep] at hr
      obtain ⟨a, ha, ver', cs, hm, hle, hv⟩ := hr
      refine ⟨_, rfl, Done.same (u := .pointer (some (a.add (i.toNat * s)))) hM ?_ ?_⟩
      · simp [execOp, ho, Instr.indexAt, hi', asIntOf, run_underlying ht, ha, Instr.sureAddr, szOf_run hs, h0, h1]
      · simp only [Rep]
        refine ⟨_, rfl, ver', cs, hm, hle, fun e => ?_⟩
        obtain ⟨B, p, hB, rfl⟩ := hv e
        exact ⟨B, p, hB, by rw [addr_add]; congr 1; omega⟩
    · rename_i s cs hs
      split at h
      case isFalse => cases h
      rename_i hc
      obtain ⟨h0, h1, h2⟩ := hc
      cases h
      simp only [Rep] at hr
      obtain ⟨a, us, ha, hsp, hf, hl, hh⟩ := hr
      refine ⟨_, rfl, Done.same (u := .pointer (some (a.add (i.toNat * s)))) hM ?_ ?_⟩
      · simp [execOp, ho, Instr.indexAt, hi', asIntOf, run_underlying ht, ha, Instr.sureAddr, szOf_run hs, h0, h1]
      · simp only [Rep]
        exact ⟨_, us.drop (i.toNat * s), rfl, by rw [addr_add' a hsp], all_drop hf _, hl.drop _, by rw [addr_add' a hsp]; exact hh.shift _⟩
    · cases h
  · cases h
end Go.Proofs.YtcmjidnbbfcbjaaGreatDoor.V
/- What an operation asks of the VM's store is what it does to the model's memory: rows of cells; no condition. -/
namespace Go.Proofs.YtcmjidnbbfcbjaaGreatDoor.V
open Go
set_option linter.unusedVariables false
set_option linter.unusedSimpArgs false
variable {P : Program} {pol : Pol}

/-! Parts filled into zeros. -/
theorem splice_length : ∀ (vs cs : List AV) (o : Nat), (splice cs o vs).length = cs.length
  | [], cs, o => rfl
  | v :: vs, cs, o => by simp only [splice]; rw [splice_length vs]; simp
theorem splice_all : ∀ (vs cs : List AV) (o : Nat), cs.all AV.leaf = true → vs.all AV.leaf = true → (splice cs o vs).all AV.leaf = true
  | [], cs, o, h, _ => h
  | v :: vs, cs, o, h, k => by
    simp only [List.all_cons, Bool.and_eq_true] at k
    refine splice_all vs _ _ ?_ k.2
    rw [List.all_eq_true] at h ⊢
    intro x hx
    rcases List.mem_or_eq_of_mem_set hx with hx | rfl
    · exact h x hx
    · exact k.1
def spliceV (cs : List Value) (o : Nat) : List Value → List Value
  | [] => cs
  | v :: vs => spliceV (cs.set o v) (o + 1) vs
theorem splice_rep {E : En} : ∀ {vs cs : List AV} {us ds : List Value} (o : Nat), RepL E cs ds → RepL E vs us → RepL E (splice cs o vs) (spliceV ds o us)
  | [], cs, us, ds, o, h, k => by simp only [RepL] at k; subst k; exact h
  | v :: vs, cs, us, ds, o, h, k => by
    simp only [RepL] at k
    obtain ⟨u, us', rfl, k1, k2⟩ := k
    exact splice_rep (o + 1) (h.set o k1) k2
theorem spliceV_length : ∀ (vs cs : List Value) (o : Nat), (spliceV cs o vs).length = cs.length
  | [], cs, o => rfl
  | v :: vs, cs, o => by simp only [spliceV]; rw [spliceV_length vs]; simp
theorem spliceV_get : ∀ (vs cs : List Value) (o i : Nat), o + vs.length ≤ cs.length → (spliceV cs o vs)[i]? = if i < o then cs[i]? else if i < o + vs.length then vs[i - o]? else cs[i]?
  | [], cs, o, i, h => by
    simp only [spliceV, List.length_nil, Nat.add_zero]
    by_cases h1 : i < o <;> simp [h1]
  | v :: vs, cs, o, i, h => by
    simp only [spliceV, List.length_cons] at h ⊢
    rw [spliceV_get vs (cs.set o v) (o + 1) i (by simp; omega)]
    by_cases h1 : i < o
    · rw [if_pos (by omega), if_pos h1, List.getElem?_set_ne (by omega)]
    · by_cases h2 : i = o
      · subst h2; rw [if_pos (by omega), if_neg (by omega), if_pos (by omega), List.getElem?_set_self (by omega)]; simp
      · rw [if_neg (by omega), if_neg h1]
        by_cases h3 : i < o + 1 + vs.length
        · rw [if_pos h3, if_pos (by omega)]
          have : i - o = (i - (o + 1)) + 1 := by omega
          rw [this]; simp
        · rw [if_neg h3, if_neg (by omega), List.getElem?_set_ne (by omega)]
theorem foldl_splice (off : Nat) : ∀ (us : List Value) (k : Nat) (ds : Array Value), ((us.zipIdx k).foldl (fun cs (x : Value × Nat) => cs.setIfInBounds (off + x.2) x.1) ds).toList = spliceV ds.toList (off + k) us
  | [], k, ds => by simp [spliceV]
  | u :: us, k, ds => by
    simp only [List.zipIdx_cons, List.foldl_cons, spliceV]
    rw [foldl_splice off us (k + 1)]
    simp [Nat.add_assoc]
theorem cells_rep {E : En} {v : AV} {u : Value} (h : Rep E v u) : RepL E v.cells u.cells.toList := by
  cases v with
  | agg cs => simp only [Rep] at h; obtain ⟨us, rfl, _, hl⟩ := h; simpa [AV.cells, Value.cells] using hl
  | tup cs =>
    have h' := h
    simp only [Rep] at h'; obtain ⟨us, rfl, _⟩ := h'
    exact RepL.cons h RepL.nil
  | _ =>
    have h1 := h.leaf_one rfl
    have : u.cells = #[u] := by cases u <;> first | rfl | (simp [Value.oneCell'] at h1)
    rw [this]
    exact RepL.cons h RepL.nil
theorem fill_rep {E : En} {place : Nat → Option (Nat × Nat)} : ∀ {ps : List (Nat × AV)} {qs : List (Nat × Value)} {cells : List AV} {ds : Array Value} {cells' : List AV},
    ps.length = qs.length → (∀ (i : Nat) p q, ps[i]? = some p → qs[i]? = some q → p.1 = q.1 ∧ Rep E p.2 q.2) → RepL E cells ds.toList → cells.all AV.leaf = true →
    fillA place cells ps = some cells' → ∃ ds', Instr.fill place ds qs = some ds' ∧ RepL E cells' ds'.toList ∧ cells'.all AV.leaf = true
  | [], qs, cells, ds, cells', hl, _, hc, hf, h => by
    cases qs with
    | nil => simp only [fillA, Option.some.injEq] at h; subst h; exact ⟨ds, rfl, hc, hf⟩
    | cons q qs => simp at hl
  | (i, v) :: ps, qs, cells, ds, cells', hl, hpq, hc, hf, h => by
    cases qs with
    | nil => simp at hl
    | cons q qs =>
      obtain ⟨j, u⟩ := q
      have h0 := hpq 0 _ _ rfl rfl
      simp only at h0
      obtain ⟨rfl, hr⟩ := h0
      simp only [fillA] at h
      split at h
      · cases h
      rename_i off size hp
      split at h
      · cases h
      rename_i hcond
      simp only [Bool.or_eq_true, decide_eq_true_eq, Bool.not_eq_true', not_or, Bool.not_eq_false, ne_eq, Decidable.not_not] at hcond
      obtain ⟨⟨h1, h2⟩, h3⟩ := hcond
      have hcr := cells_rep hr
      have hlen := hcr.length
      have hlen2 := hc.length
      have hstep := splice_rep off hc hcr
      have := fill_rep (ps := ps) (qs := qs) (cells := splice cells off v.cells) (ds := (u.cells.zipIdx).foldl (fun cs (x : Value × Nat) => cs.setIfInBounds (off + x.2) x.1) ds) (by simpa using hl)
        (fun i p q hp hq => hpq (i + 1) p q (by simpa using hp) (by simpa using hq)) (by
          rw [← Array.foldl_toList, Array.toList_zipIdx, foldl_splice]; simpa using hstep) (splice_all _ _ _ hf h3) h
      obtain ⟨ds', e1, e2, e3⟩ := this
      refine ⟨ds', ?_, e2, e3⟩
      simp only [Instr.fill, hp]
      rw [if_neg (by simp at hlen hlen2 ⊢; omega)]
      exact e1
theorem partsOf_rep {E : En} {ρ : Operand → Option AV} {ρc : Operand → Value} (hρ : Opn E ρ ρc) {ps : Array (Nat × Operand)} {qs : List (Nat × AV)} (h : partsOf ρ ps = some qs) :
    qs.length = (ps.map fun (x : Nat × Operand) => (x.1, ρc x.2)).toList.length ∧ ∀ (i : Nat) p q, qs[i]? = some p → (ps.map fun (x : Nat × Operand) => (x.1, ρc x.2)).toList[i]? = some q → p.1 = q.1 ∧ Rep E p.2 q.2 := by
  unfold partsOf at h
  rw [Array.toList_map]
  generalize ps.toList = l at h
  induction l generalizing qs with
  | nil => simp at h; subst h; simp
  | cons x l ih =>
    obtain ⟨j, x⟩ := x
    simp only [List.mapM_cons] at h
    cases hx : ρ x with
    | none => simp [hx] at h
    | some c =>
      cases hr : l.mapM (fun (p : Nat × Operand) => (ρ p.2).map (p.1, ·)) with
      | none => simp [hx, hr] at h
      | some zs =>
        simp [hx, hr] at h
        subst h
        obtain ⟨h1, h2⟩ := ih hr
        refine ⟨by simpa using h1, fun i p q hp hq => ?_⟩
        cases i with
        | zero => simp at hp hq; subst hp hq; exact ⟨rfl, hρ x c hx⟩
        | succ i => exact h2 i p q (by simpa using hp) (by simpa using hq)

/-! Rows of zeros. -/
theorem flatten_get (l : List Value) (k : Nat) : ∀ (n i : Nat), l.length = k → i < n * k → ((List.replicate n l).flatten)[i]? = l[i % k]?
  | 0, i, _, h => by simp at h
  | n + 1, i, hk, h => by
    simp only [List.replicate_succ, List.flatten_cons]
    by_cases hi : i < k
    · rw [List.getElem?_append_left (by omega), Nat.mod_eq_of_lt hi]
    · rw [List.getElem?_append_right (by omega), flatten_get l k n (i - l.length) hk (by rw [Nat.add_mul, Nat.one_mul] at h; omega), hk]
      exact (congrArg (l[·]?) (Nat.mod_eq_sub_mod (by omega))).symm
theorem flatten_length (l : List Value) (n : Nat) : ((List.replicate n l).flatten).length = n * l.length := by
  induction n with
  | zero => simp
  | succ n ih => simp only [List.replicate_succ, List.flatten_cons, List.length_append, ih, Nat.succ_mul]; omega
theorem zeros_eq (z : Array Value) (n : Nat) : ((Array.range (n * z.size)).map (z[· % z.size]!)).toList = (List.replicate n z.toList).flatten := by
  apply List.ext_getElem?
  intro i
  by_cases hi : i < n * z.size
  · rw [flatten_get z.toList z.size n i (by simp) hi]
    have hz : 0 < z.size := by rcases Nat.eq_zero_or_pos z.size with h | h; · rw [h] at hi; omega
                               · exact h
    have hm := Nat.mod_lt i hz
    simp [hi, getElem!_pos, hm]
  · have h1 : ((List.replicate n z.toList).flatten).length = n * z.size := by rw [flatten_length]; simp
    rw [List.getElem?_eq_none (by simp; omega), List.getElem?_eq_none (by omega)]
theorem RepL.flatten {E : En} {cs us} (h : RepL E cs us) (n : Nat) : RepL E (List.replicate n cs).flatten (List.replicate n us).flatten := by
  induction n with
  | zero => exact RepL.nil
  | succ n ih => simp only [List.replicate_succ, List.flatten_cons]; exact h.append ih
theorem all_flatten {cs : List AV} (h : cs.all AV.leaf = true) (n : Nat) : (List.replicate n cs).flatten.all AV.leaf = true := by
  induction n with
  | zero => rfl
  | succ n ih => simp only [List.replicate_succ, List.flatten_cons, List.all_append, h, ih, Bool.and_self]

theorem not_live_new {E : En} (h : MI pol E) : ¬ E.live E.w.heap.size := by
  rintro ⟨id, p, hid⟩
  have := h.blk hid
  omega
theorem push_cell {E : En} (c : Array Value) (t : TypeId) (i : Nat) : (E.push (.cells c t)).w.cell? ⟨E.w.heap.size, i, none⟩ = c[i]? := by
  simp only [World.cell?, En.push, Array.getElem?_push_size]; rfl
/-- A row that nobody will write: a slice over it. -/
theorem push_lst {E : En} (h : MI pol E) {cs : List AV} {ds : Array Value} (hl : RepL E cs ds.toList) (hf : cs.all AV.leaf = true) (t : TypeId) (n : Nat) :
    Rep (E.push (.cells ds t)) (.lst n cs true) (.slice (some ⟨E.w.heap.size, 0, none⟩) n n) := by
  simp only [Rep]
  refine ⟨_, n, ds.toList, rfl, Nat.le_refl _, Or.inl rfl, fun _ => rfl, hf, RepL.mono (push_ext h _) _ _ hl, fun i u hu => ⟨not_live_new h, ?_⟩⟩
  rw [Nat.zero_add, push_cell]
  simpa using hu

theorem places_run {fs : Array Field} {places : List (Nat × Nat)} (h : (fs.toList.mapM fun (f : Field) => (szOf P f.type).map (f.offset, ·)) = some places) (w : World) :
    (fs.mapM (m := Sem) fun (f : Field) => Prod.mk f.offset <$> sizeOf f.type).run P w = .ok places.toArray w := by
  have hq : ∀ (l : List Field) (pl : List (Nat × Nat)), (l.mapM fun (f : Field) => (szOf P f.type).map (f.offset, ·)) = some pl → (l.mapM (m := Sem) fun (f : Field) => Prod.mk f.offset <$> sizeOf f.type).run P w = .ok pl w := by
    intro l
    induction l with
    | nil => intro pl hp; simp at hp; subst hp; rfl
    | cons f l ih =>
      intro pl hp
      simp only [List.mapM_cons] at hp
      cases hf : szOf P f.type with
      | none => simp [hf] at hp
      | some s =>
        cases hr : l.mapM (fun (f : Field) => (szOf P f.type).map (f.offset, ·)) with
        | none => simp [hf, hr] at hp
        | some zs => simp [hf, hr] at hp; subst hp; simp [List.mapM_cons, szOf_run hf, ih zs hr]
  rw [Array.mapM_eq_mapM_toList]
  simp [hq _ _ h]
theorem zero_row {z : Array Value} {len s : Nat} (hz : z.size = s) : ((Array.range (len * s)).map ((if len * s = 0 then #[] else z)[· % (if len * s = 0 then #[] else z).size]!)) = ((List.replicate len z.toList).flatten).toArray := by
  by_cases h0 : len * s = 0
  · have : ((List.replicate len z.toList).flatten) = [] := by
      apply List.eq_nil_of_length_eq_zero
      rw [flatten_length]; simp [hz, h0]
    rw [this, h0]; simp
  · simp only [h0, if_false]
    rw [← hz, ← zeros_eq]
theorem build_ok {E : En} (hM : MI pol E) {ρ : Operand → Option AV} {ρc : Operand → Value} (hρ : Opn E ρ ρc) {o : Oper} {t : TypeId} {parts : Array (Nat × Operand)} (ho : o.op = .build t parts) {r : Req} (h : plan P ρ o = some r) :
    ∃ v, r = .val v ∧ Done pol E ((execOp ρc o).run P E.w) v E.m := by
  simp only [plan, ho] at h
  split at h
  · rename_i z fs ps hz ht hps
    split at h
    case h_2 => cases h
    rename_i places hpl
    obtain ⟨z', hz1, hz2, hz3⟩ := zeroOf_run hz
    simp only [Option.map_eq_some_iff, Function.comp] at h
    obtain ⟨cs, hcs, rfl⟩ := h
    obtain ⟨h1, h2⟩ := partsOf_rep hρ hps
    have hpm := places_run hpl
    obtain ⟨ds', e1, e2, e3⟩ := fill_rep (place := (places[·]?)) h1 h2 (cells_rep (hz2 E)) hz3 hcs
    refine ⟨_, rfl, Done.same (u := .agg ds') hM ?_ (by simp only [Rep]; exact ⟨ds'.toList, by simp, e3, e2⟩)⟩
    have e1' : Instr.fill (fun x => places[x]?) z'.cells (Array.map (fun x => (x.1, ρc x.2)) parts).toList = some ds' := e1
    simp [execOp, ho, Instr.build, hz1, run_underlying ht, hpm]
    simp at e1'
    simp [e1']
  · rename_i z n e ps hz ht hps
    split at h
    case h_2 => cases h
    rename_i s hs
    obtain ⟨z', hz1, hz2, hz3⟩ := zeroOf_run hz
    simp only [Option.map_eq_some_iff, Function.comp] at h
    obtain ⟨cs, hcs, rfl⟩ := h
    obtain ⟨h1, h2⟩ := partsOf_rep hρ hps
    obtain ⟨ds', e1, e2, e3⟩ := fill_rep (place := fun i => some (i * s, s)) h1 h2 (cells_rep (hz2 E)) hz3 hcs
    refine ⟨_, rfl, Done.same (u := .agg ds') hM ?_ (by simp only [Rep]; exact ⟨ds'.toList, by simp, e3, e2⟩)⟩
    simp at e1
    simp [execOp, ho, Instr.build, hz1, run_underlying ht, szOf_run hs, e1]
  · cases h
end Go.Proofs.YtcmjidnbbfcbjaaGreatDoor.V
/- What an operation asks of the VM's store is what it does to the model's memory: slices, new memory, stores; no condition. -/
namespace Go.Proofs.YtcmjidnbbfcbjaaGreatDoor.V
open Go
set_option linter.unusedVariables false
set_option linter.unusedSimpArgs false
variable {P : Program} {pol : Pol}

theorem asI?_rep {E : En} {ρ : Operand → Option AV} {ρc : Operand → Value} (hρ : Opn E ρ ρc) {lo : Option Operand} {l : Option (IntKind × Int)} (h : asI? ρ lo = some l) : lo.map ρc = l.map fun (k, n) => Value.int k n := by
  cases lo with
  | none => simp only [asI?, Option.some.injEq] at h; subst h; rfl
  | some x =>
    simp only [asI?] at h
    split at h
    · rename_i i hi
      cases h
      cases hx : ρ x with
      | none => simp [hx] at hi
      | some v =>
        simp only [hx, Option.bind_some] at hi
        obtain ⟨k, n⟩ := i
        simp [asI_rep (hρ x v hx) hi]
    · cases h
theorem bounds_runB (b : Bool) {n cap l h : Nat} {lo hi : Option (IntKind × Int)} (hb : bounds n lo hi = some (l, h)) (hn : n ≤ cap) (w : World) :
    (Instr.sliceBounds b n cap (lo.map fun (k, n) => Value.int k n) (hi.map fun (k, n) => Value.int k n) none).run P w = .ok (l, h, cap) w ∧ l ≤ h ∧ h ≤ n := by
  have hite : ∀ (x y : Int), (if 0 ≤ x ∧ x ≤ y ∧ y ≤ (n : Int) then some (x.toNat, y.toNat) else none) = some (l, h) → (0 ≤ x ∧ x ≤ y ∧ y ≤ (n : Int)) ∧ x.toNat = l ∧ y.toNat = h := by
    intro x y hxy
    split at hxy
    · rename_i hc; simp only [Option.some.injEq, Prod.mk.injEq] at hxy; exact ⟨hc, hxy⟩
    · cases hxy
  unfold bounds at hb
  cases lo with
  | none =>
    cases hi with
    | none => obtain ⟨hc, rfl, rfl⟩ := hite 0 n hb; refine ⟨by simp [Instr.sliceBounds], by omega, by omega⟩
    | some x =>
      obtain ⟨k, x⟩ := x
      obtain ⟨hc, rfl, rfl⟩ := hite 0 x hb
      refine ⟨?_, by omega, by omega⟩
      have : 0 ≤ x ∧ x ≤ (cap : Int) := by omega
      simp [Instr.sliceBounds, Instr.sliceBound, asIntOf, this]
  | some y =>
    obtain ⟨k', y⟩ := y
    cases hi with
    | none =>
      obtain ⟨hc, rfl, rfl⟩ := hite y n hb
      refine ⟨?_, by omega, by omega⟩
      have : 0 ≤ y ∧ y ≤ (n : Int) := by omega
      simp [Instr.sliceBounds, Instr.sliceBound, asIntOf, this]
    | some x =>
      obtain ⟨k, x⟩ := x
      obtain ⟨hc, rfl, rfl⟩ := hite y x hb
      refine ⟨?_, by omega, by omega⟩
      have h1 : 0 ≤ x ∧ x ≤ (cap : Int) := by omega
      simp [Instr.sliceBounds, Instr.sliceBound, asIntOf, h1, hc.1]
      intro hlt; omega
theorem bounds_run {n cap l h : Nat} {lo hi : Option (IntKind × Int)} (hb : bounds n lo hi = some (l, h)) (hn : n ≤ cap) (w : World) :
    (Instr.sliceBounds true n cap (lo.map fun (k, n) => Value.int k n) (hi.map fun (k, n) => Value.int k n) none).run P w = .ok (l, h, cap) w ∧ l ≤ h ∧ h ≤ n := bounds_runB true hb hn w
theorem slice_run {t e : TypeId} {s n cap l h : Nat} {a : Addr} {lo hi : Option (IntKind × Int)} (ht : elemOfS P t = some e) (hs : szOf P e = some s) (hb : bounds n lo hi = some (l, h)) (hn : n ≤ cap) (w : World) :
    (Instr.sliceAt t (.slice (some a) n cap) (lo.map fun (k, n) => Value.int k n) (hi.map fun (k, n) => Value.int k n) none).run P w =
      .ok (.slice (some (if cap = l then a else a.add (l * s))) (h - l) (cap - l)) w := by
  have h1 := (bounds_run (P := P) hb hn w).1
  unfold Instr.sliceAt
  simp only [Sem.run_bind, run_underlying (elem_run ht), Result.andThen_ok]
  unfold Instr.slice
  simp only [Sem.run_bind, run_underlying (elem_run ht), Result.andThen_ok, h1, szOf_run hs, Sem.run_pure]
  split <;> rfl
theorem slice_nil_run {t e : TypeId} {l h s : Nat} {lo hi : Option (IntKind × Int)} (ht : elemOfS P t = some e) (hs : szOf P e = some s) (hb : bounds 0 lo hi = some (l, h)) (w : World) :
    (Instr.sliceAt t (.slice none 0 0) (lo.map fun (k, n) => Value.int k n) (hi.map fun (k, n) => Value.int k n) none).run P w = .ok (.slice none 0 0) w := by
  obtain ⟨h1, h2, h3⟩ := bounds_run (P := P) hb (Nat.le_refl 0) w
  obtain rfl : h = 0 := by omega
  obtain rfl : l = 0 := by omega
  unfold Instr.sliceAt
  simp only [Sem.run_bind, run_underlying (elem_run ht), Result.andThen_ok]
  unfold Instr.slice
  simp only [Sem.run_bind, run_underlying (elem_run ht), Result.andThen_ok, h1, szOf_run hs, Sem.run_pure]
  rfl
def loI : Option (IntKind × Int) → Int
  | none => 0
  | some (_, l) => l
theorem bounds_inv {n l h : Nat} {k : IntKind} {x : Int} {lo : Option (IntKind × Int)} (hb : bounds n lo (some (k, x)) = some (l, h)) : (0 ≤ loI lo ∧ loI lo ≤ x ∧ x ≤ (n : Int)) ∧ (loI lo).toNat = l ∧ x.toNat = h := by
  have hite : ∀ (y : Int), (if 0 ≤ y ∧ y ≤ x ∧ x ≤ (n : Int) then some (y.toNat, x.toNat) else none) = some (l, h) → (0 ≤ y ∧ y ≤ x ∧ x ≤ (n : Int)) ∧ y.toNat = l ∧ x.toNat = h := by
    intro y hxy
    split at hxy
    · rename_i hc; simp only [Option.some.injEq, Prod.mk.injEq] at hxy; exact ⟨hc, hxy⟩
    · cases hxy
  unfold bounds at hb
  cases lo with
  | none => exact hite 0 hb
  | some y => obtain ⟨k', y⟩ := y; exact hite y hb
theorem slice3_run {t e : TypeId} {s n cap l h m : Nat} {k : IntKind} {a : Addr} {lo : Option (IntKind × Int)} {hi : IntKind × Int} (ht : elemOfS P t = some e) (hs : szOf P e = some s) (hb : bounds n lo (some hi) = some (l, h)) (hm : h ≤ m) (hn : m ≤ cap) (w : World) :
    (Instr.sliceAt t (.slice (some a) n cap) (lo.map fun (k, n) => Value.int k n) (some (Value.int hi.1 hi.2)) (some (.int k m))).run P w =
      .ok (.slice (some (if m = l then a else a.add (l * s))) (h - l) (m - l)) w := by
  obtain ⟨k2, x⟩ := hi
  have hc : (0 ≤ loI lo ∧ loI lo ≤ x ∧ x ≤ (n : Int)) ∧ (loI lo).toNat = l ∧ x.toNat = h := bounds_inv hb
  have h1 : (Instr.sliceBounds true n cap (lo.map fun (k, n) => Value.int k n) (some (Value.int k2 x)) (some (.int k m))).run P w = .ok (l, h, m) w := by
    have hmc : (0 : Int) ≤ (m : Int) ∧ (m : Int) ≤ (cap : Int) := by omega
    obtain ⟨hc1, hc2, rfl⟩ := hc
    have hx : 0 ≤ x ∧ x ≤ (m : Int) := by omega
    cases lo with
    | none => simp only [loI] at hc2; subst hc2; simp [Instr.sliceBounds, Instr.sliceBound, asIntOf, hmc, hx]; try omega
    | some y =>
      obtain ⟨k', y⟩ := y
      simp only [loI] at hc1 hc2
      subst hc2
      have hy : 0 ≤ y ∧ y ≤ ((x.toNat : Nat) : Int) := by omega
      simp [Instr.sliceBounds, Instr.sliceBound, asIntOf, hmc, hx, hy]; try omega
  unfold Instr.sliceAt
  simp only [Sem.run_bind, run_underlying (elem_run ht), Result.andThen_ok]
  unfold Instr.slice
  simp only [Sem.run_bind, run_underlying (elem_run ht), Result.andThen_ok, h1, szOf_run hs, Sem.run_pure]
  split <;> rfl
theorem slice3_nil {t e : TypeId} {l h s : Nat} {k : IntKind} {lo : Option (IntKind × Int)} {hi : IntKind × Int} (ht : elemOfS P t = some e) (hs : szOf P e = some s) (hb : bounds 0 lo (some hi) = some (l, h)) (w : World) :
    (Instr.sliceAt t (.slice none 0 0) (lo.map fun (k, n) => Value.int k n) (some (Value.int hi.1 hi.2)) (some (.int k 0))).run P w = .ok (.slice none 0 0) w := by
  obtain ⟨k2, x⟩ := hi
  have hc : (0 ≤ loI lo ∧ loI lo ≤ x ∧ x ≤ ((0 : Nat) : Int)) ∧ (loI lo).toNat = l ∧ x.toNat = h := bounds_inv hb
  have h1 : (Instr.sliceBounds true 0 0 (lo.map fun (k, n) => Value.int k n) (some (Value.int k2 x)) (some (.int k 0))).run P w = .ok (0, 0, 0) w := by
    obtain ⟨hc1, hc2, hc3⟩ := hc
    obtain rfl : x = 0 := by omega
    cases lo with
    | none => simp [Instr.sliceBounds, Instr.sliceBound, asIntOf]
    | some y =>
      obtain ⟨k', y⟩ := y
      simp only [loI] at hc1 hc2
      obtain rfl : y = 0 := by omega
      simp [Instr.sliceBounds, Instr.sliceBound, asIntOf]
  unfold Instr.sliceAt
  simp only [Sem.run_bind, run_underlying (elem_run ht), Result.andThen_ok]
  unfold Instr.slice
  simp only [Sem.run_bind, run_underlying (elem_run ht), Result.andThen_ok, h1, szOf_run hs, Sem.run_pure]
  rfl
theorem max_run {E : En} {ρ : Operand → Option AV} {ρc : Operand → Value} (hρ : Opn E ρ ρc) {y : Operand} {k : IntKind} {m : Int} (h : (ρ y).bind asI = some (k, m)) : ρc y = .int k m := by
  cases hx : ρ y with
  | none => simp [hx] at h
  | some v => simp only [hx, Option.bind_some] at h; exact asI_rep (hρ y v hx) h
theorem slice_ok {E : En} (hM : MI pol E) {ρ : Operand → Option AV} {ρc : Operand → Value} (hρ : Opn E ρ ρc) {o : Oper} {t : TypeId} {x : Operand} {lo hi mx : Option Operand} (ho : o.op = .slice t x lo hi mx) {r : Req} (h : plan P ρ o = some r) (hnp : ∀ id ver off, ρ x ≠ some (.ptr id ver off)) (hnc : ∀ cs, ρ x ≠ some (.cptr cs)) :
    ∃ v, r = .val v ∧ Done pol E ((execOp ρc o).run P E.w) v E.m := by
  simp only [plan, ho] at h
  have hrun : ∀ u l h, asI? ρ lo = some l → asI? ρ hi = some h → mx = none → (Instr.sliceAt t (ρc x) (l.map fun (k, n) => Value.int k n) (h.map fun (k, n) => Value.int k n) none).run P E.w = .ok u E.w → (execOp ρc o).run P E.w = .ok (.value u) E.w := by
    intro u l h hl hh hm hu
    simp only [execOp, ho, asI?_rep hρ hl, asI?_rep hρ hh, hm, Option.map_none]
    simp [hu]
  split at h
  · rename_i n cs clip s lo' hi' hx hs hlo hhi
    split at h
    case h_2 => cases h
    rename_i l hh hb
    split at h
    case isFalse => cases h
    rename_i hle
    cases h
    cases he : elemOfS P t with
    | none => simp [he] at hs
    | some e =>
    simp only [he, Option.bind_some] at hs
    have hr := hρ x _ hx
    simp only [Rep] at hr
    obtain ⟨a, cap, us, ha, hn, hsp, hcl, hf, hl, hd⟩ := hr
    obtain ⟨_, b1, b2⟩ := bounds_run (P := P) hb hn E.w
    refine ⟨_, rfl, Done.same hM (hrun _ _ _ hlo hhi rfl (by rw [ha]; exact slice_run he hs hb hn E.w)) ?_⟩
    simp only [Rep]
    refine ⟨_, _, (us.drop (l * s)).take ((hh - l) * s), rfl, by omega, ?_, ?_, all_take (all_drop hf _) _, (hl.drop _).take _, ?_⟩
    · split
      · exact Or.inr (by omega)
      · rw [addr_add' a (hsp.resolve_right (by omega))]; exact Or.inl rfl
    · intro hc
      simp only [Bool.and_eq_true, decide_eq_true_eq] at hc
      have := hcl hc.1; omega
    · by_cases hcl' : cap = l
      · rw [if_pos hcl']
        have : hh - l = 0 := by omega
        rw [this]; intro i u hu; simp at hu
      · rw [if_neg hcl', addr_add' a (hsp.resolve_right (by omega))]
        exact (hd.shift _).take _
  · rename_i id ver off n e' s lo' hi' hx hs hlo hhi
    split at h
    case h_2 => cases h
    rename_i l hh hb
    split at h
    case isFalse => cases h
    rename_i hes
    subst hes
    cases h
    cases he : elemOfS P t with
    | none => simp [he] at hs
    | some e =>
    simp only [he, Option.bind_some] at hs
    have hr := hρ x _ hx
    simp only [Rep] at hr
    obtain ⟨a, cap, ha, hn, ver', cs, hm, hle, hv⟩ := hr
    obtain ⟨_, b1, b2⟩ := bounds_run (P := P) hb hn E.w
    refine ⟨_, rfl, Done.same hM (hrun _ _ _ hlo hhi rfl (by rw [ha]; exact slice_run he hs hb hn E.w)) ?_⟩
    simp only [Rep]
    refine ⟨_, _, rfl, by omega, ver', cs, hm, hle, fun hve => ?_⟩
    obtain ⟨h1, B, p, hB, hcap, hbs⟩ := hv hve
    have hmul : (hh - l) * e' + l * e' = hh * e' := by rw [← Nat.add_mul]; congr 1; omega
    have hmul2 : hh * e' ≤ n * e' := Nat.mul_le_mul_right _ b2
    have hmul3 : (cap - l) * e' + l * e' = cap * e' := by rw [← Nat.add_mul]; congr 1; omega
    refine ⟨by omega, B, p, hB, ?_, by omega⟩
    by_cases hcl' : cap = l
    · left
      refine ⟨by omega, ?_⟩
      rw [if_pos hcl']
      rcases hcap with ⟨_, h0⟩ | rfl
      · exact h0
      · rfl
    · right
      rw [if_neg hcl']
      rcases hcap with ⟨h0, _⟩ | rfl
      · omega
      · rw [addr_add]; congr 1; omega
  · rename_i s lo' hi' hx hs hlo hhi
    split at h
    case h_2 => cases h
    rename_i b hb
    cases h
    cases he : elemOfS P t with
    | none => simp [he] at hs
    | some e =>
    simp only [he, Option.bind_some] at hs
    have hr := hρ x _ hx
    simp only [Rep] at hr
    obtain ⟨l, hh⟩ := b
    exact ⟨_, rfl, Done.same hM (hrun _ _ _ hlo hhi rfl (by rw [hr]; exact slice_nil_run he hs hb E.w)) (by simp [Rep])⟩
  · rename_i n cs clip y s lo' hi' hx hs hlo hhi
    split at h
    case h_2 => cases h
    rename_i l hh k m hb hy
    split at h
    case isFalse => cases h
    rename_i hc
    obtain ⟨hm1, hm2, hle⟩ := hc
    cases h
    cases he : elemOfS P t with
    | none => simp [he] at hs
    | some e =>
    simp only [he, Option.bind_some] at hs
    have hr := hρ x _ hx
    simp only [Rep] at hr
    obtain ⟨a, cap, us, ha, hn, hsp, hcl, hf, hl, hd⟩ := hr
    obtain ⟨_, b1, b2⟩ := bounds_run (P := P) hb hn E.w
    obtain ⟨m', rfl⟩ : ∃ m' : Nat, m = (m' : Int) := ⟨m.toNat, by omega⟩
    have hrun3 := slice3_run (P := P) (a := a) (cap := cap) (k := k) he hs hb (m := m') (by omega) (by omega) E.w
    refine ⟨_, rfl, Done.same (u := .slice (some (if m' = l then a else a.add (l * s))) (hh - l) (m' - l)) hM ?_ ?_⟩
    · simp only [execOp, ho, asI?_rep hρ hlo, asI?_rep hρ hhi, Option.map_some, max_run hρ hy, ha]
      obtain ⟨k3, x3⟩ := hi'
      simp only [hrun3, Sem.run_bind, Result.andThen_ok, Sem.run_pure]
    simp only [Rep]
    refine ⟨_, _, (us.drop (l * s)).take ((hh - l) * s), rfl, by omega, ?_, ?_, all_take (all_drop hf _) _, (hl.drop _).take _, ?_⟩
    · split
      · exact Or.inr (by omega)
      · rw [addr_add' a (hsp.resolve_right (by omega))]; exact Or.inl rfl
    · intro hc
      simp only [decide_eq_true_eq] at hc
      omega
    · by_cases hcl' : m' = l
      · rw [if_pos hcl']
        have : hh - l = 0 := by omega
        rw [this]; intro i u hu; simp at hu
      · rw [if_neg hcl', addr_add' a (hsp.resolve_right (by omega))]
        exact (hd.shift _).take _
  · rename_i id ver off n e' y s lo' hi' hx hs hlo hhi
    split at h
    case h_2 => cases h
    rename_i l hh k m hb hy
    split at h
    case isFalse => cases h
    rename_i hc
    obtain ⟨hm1, hm2, hes⟩ := hc
    subst hes
    cases h
    cases he : elemOfS P t with
    | none => simp [he] at hs
    | some e =>
    simp only [he, Option.bind_some] at hs
    have hr := hρ x _ hx
    simp only [Rep] at hr
    obtain ⟨a, cap, ha, hn, ver', cs, hm, hle, hv⟩ := hr
    obtain ⟨_, b1, b2⟩ := bounds_run (P := P) hb hn E.w
    obtain ⟨m', rfl⟩ : ∃ m' : Nat, m = (m' : Int) := ⟨m.toNat, by omega⟩
    have hrun3 := slice3_run (P := P) (a := a) (cap := cap) (k := k) he hs hb (m := m') (by omega) (by omega) E.w
    refine ⟨_, rfl, Done.same (u := .slice (some (if m' = l then a else a.add (l * e'))) (hh - l) (m' - l)) hM ?_ ?_⟩
    · simp only [execOp, ho, asI?_rep hρ hlo, asI?_rep hρ hhi, Option.map_some, max_run hρ hy, ha]
      obtain ⟨k3, x3⟩ := hi'
      simp only [hrun3, Sem.run_bind, Result.andThen_ok, Sem.run_pure]
    simp only [Rep]
    refine ⟨_, _, rfl, by omega, ver', cs, hm, hle, fun hve => ?_⟩
    obtain ⟨h1, B, p, hB, hcap, hbs⟩ := hv hve
    have hmul : (hh - l) * e' + l * e' = hh * e' := by rw [← Nat.add_mul]; congr 1; omega
    have hmul2 : hh * e' ≤ n * e' := Nat.mul_le_mul_right _ b2
    have hmul3 : (m' - l) * e' + l * e' = m' * e' := by rw [← Nat.add_mul]; congr 1; omega
    have hmul4 : m' * e' ≤ cap * e' := Nat.mul_le_mul_right _ (by omega)
    refine ⟨by omega, B, p, hB, ?_, by omega⟩
    by_cases hcl' : m' = l
    · left
      refine ⟨by omega, ?_⟩
      rw [if_pos hcl']
      rcases hcap with ⟨_, h0⟩ | rfl
      · exact h0
      · rfl
    · right
      rw [if_neg hcl']
      rcases hcap with ⟨h0, _⟩ | rfl
      · omega
      · rw [addr_add]; congr 1; omega
  · rename_i y s lo' hi' hx hs hlo hhi
    split at h
    case h_2 => cases h
    rename_i b k m hb hy
    split at h
    case isFalse => cases h
    rename_i hm0
    subst hm0
    cases h
    cases he : elemOfS P t with
    | none => simp [he] at hs
    | some e =>
    simp only [he, Option.bind_some] at hs
    have hr := hρ x _ hx
    simp only [Rep] at hr
    obtain ⟨l, hh⟩ := b
    refine ⟨_, rfl, Done.same (u := .slice none 0 0) hM ?_ (by simp [Rep])⟩
    have hrun3 := slice3_nil (P := P) (k := k) he hs hb E.w
    simp only [execOp, ho, asI?_rep hρ hlo, asI?_rep hρ hhi, Option.map_some, max_run hρ hy, hr]
    obtain ⟨k3, x3⟩ := hi'
    simp only [hrun3, Sem.run_bind, Result.andThen_ok, Sem.run_pure]
  · exact generic_done hM hρ h
  · rename_i hx _ _ _; exact absurd hx (hnp _ _ _)
  · rename_i hx _ _ _; exact absurd hx (hnc _)
  · cases h
theorem arr_run {t : TypeId} {s n l h : Nat} {a : Addr} {lo hi : Option (IntKind × Int)} (ht : arrOf P t = some (n, s)) (hb : bounds n lo hi = some (l, h)) (w : World) :
    (Instr.sliceAt t (.pointer (some a)) (lo.map fun (k, n) => Value.int k n) (hi.map fun (k, n) => Value.int k n) none).run P w =
      .ok (.slice (some (if n = l then a else a.add (l * s))) (h - l) (n - l)) w := by
  have h1 := (bounds_runB (P := P) false hb (Nat.le_refl n) w).1
  unfold arrOf at ht
  split at ht
  · rename_i k e hu
    simp only [Option.map_eq_some_iff, Prod.mk.injEq] at ht
    obtain ⟨s', hs, rfl, rfl⟩ := ht
    unfold Instr.sliceAt
    simp only [Sem.run_bind, run_underlying hu, Result.andThen_ok, Instr.sureAddr, Sem.run_pure, h1, szOf_run hs]
    try (split <;> rfl)
  · rename_i arr hu
    split at ht
    case h_2 => cases ht
    rename_i k e hu2
    simp only [Option.map_eq_some_iff, Prod.mk.injEq] at ht
    obtain ⟨s', hs, rfl, rfl⟩ := ht
    unfold Instr.sliceAt
    simp only [Sem.run_bind, run_underlying hu, Result.andThen_ok]
    unfold Instr.slice
    simp only [Sem.run_bind, run_underlying hu, Result.andThen_ok, asAddr, Sem.run_pure, run_underlying hu2, h1, szOf_run hs]
    try (split <;> rfl)
  · cases ht
theorem arrSl_ok {E : En} (hM : MI pol E) {ρ : Operand → Option AV} {ρc : Operand → Value} (hρ : Opn E ρ ρc) {o : Oper} {t : TypeId} {x : Operand} {lo hi : Option Operand} {lo' hi' : Option (IntKind × Int)} (ho : o.op = .slice t x lo hi none) {xv : AV} (hx : ρ x = some xv) (hlo : asI? ρ lo = some lo') (hhi : asI? ρ hi = some hi') {r : Req} (h : arrSl (arrOf P t) xv lo' hi' = some r) {en : Env} {v : AV} {m' : Mem} (hp : perform en r E.m = some (v, m')) : Done pol E ((execOp ρc o).run P E.w) v m' := by
  have hrun : ∀ u, (Instr.sliceAt t (ρc x) (lo'.map fun (k, n) => Value.int k n) (hi'.map fun (k, n) => Value.int k n) none).run P E.w = .ok u E.w → (execOp ρc o).run P E.w = .ok (.value u) E.w := by
    intro u hu
    simp only [execOp, ho, asI?_rep hρ hlo, asI?_rep hρ hhi, Option.map_none]
    simp [hu]
  unfold arrSl at h
  split at h
  case h_2 => cases h
  rename_i n s han
  have hr := hρ x _ hx
  split at h
  · rename_i l hh id ver off hb
    split at h
    case isFalse => cases h
    rename_i hns
    cases h
    simp only [perform, lget_eq] at hp
    split at hp
    case h_2 => cases hp
    rename_i v' cs hm
    split at hp
    case isFalse => cases hp
    rename_i hc
    obtain ⟨rfl, ⟨_, hle⟩, _⟩ := hc
    cases hp
    simp only [Rep] at hr
    obtain ⟨a, hu, ver', cs', hm', hv', hv⟩ := hr
    rw [hm] at hm'; cases hm'
    obtain ⟨B, p, hB, rfl⟩ := hv rfl
    obtain ⟨c, t', fz, us, k1, k2, k3, k4, k5, _⟩ := obj_cells hM hm hB
    obtain ⟨_, b1, b2⟩ := bounds_runB (P := P) false hb (Nat.le_refl n) E.w
    refine Done.same hM (hrun _ (by rw [hu]; exact arr_run han hb E.w)) ?_
    simp only [Rep]
    have hul := k3.length
    obtain rfl : fz = (0, 0) := k5.resolve_right (by rintro rfl; simp at hle; omega)
    have hsz : p + off + n * s ≤ c.size := by
      have := (Array.getElem?_eq_some_iff.1 (k4 (off + n * s - 1) us[off + n * s - 1] (List.getElem?_eq_getElem (by omega)))).1
      omega
    have hbs : E.bs B = c.size := by simp [En.bs, k1]
    have hm1 : (hh - l) * s + l * s = hh * s := by rw [← Nat.add_mul]; congr 1; omega
    have hm2 : hh * s ≤ n * s := Nat.mul_le_mul_right _ b2
    have hm3 : (n - l) * s + l * s = n * s := by rw [← Nat.add_mul]; congr 1; omega
    refine ⟨_, _, rfl, by omega, _, cs, hm, Nat.le_refl _, fun _ => ⟨by omega, B, p, hB, ?_, by rw [hbs]; omega⟩⟩
    by_cases hnl : n = l
    · left; rw [if_pos hnl]; exact ⟨by omega, rfl⟩
    · right; rw [if_neg hnl, addr_add]; congr 1; omega
  · rename_i l hh cs hb
    split at h
    case isFalse => cases h
    rename_i hns
    cases h; cases hp
    simp only [Rep] at hr
    obtain ⟨a, us, hu, hsp, hf, hl, hd⟩ := hr
    obtain ⟨_, b1, b2⟩ := bounds_runB (P := P) false hb (Nat.le_refl n) E.w
    refine Done.same hM (hrun _ (by rw [hu]; exact arr_run han hb E.w)) ?_
    simp only [Rep]
    refine ⟨_, _, (us.drop (l * s)).take ((hh - l) * s), rfl, by omega, ?_, ?_, all_take (all_drop hf _) _, (hl.drop _).take _, ?_⟩
    · split
      · exact Or.inl hsp
      · rw [addr_add' a hsp]; exact Or.inl rfl
    · intro hc; simp only [decide_eq_true_eq] at hc; omega
    · by_cases hnl : n = l
      · rw [if_pos hnl]
        have : hh - l = 0 := by omega
        rw [this]; intro i u hu; simp at hu
      · rw [if_neg hnl, addr_add' a hsp]
        exact (hd.shift _).take _
  · cases h
theorem slice_done {E : En} (hM : MI pol E) {ρ : Operand → Option AV} {ρc : Operand → Value} (hρ : Opn E ρ ρc) {o : Oper} {t : TypeId} {x : Operand} {lo hi mx : Option Operand} (ho : o.op = .slice t x lo hi mx) {r : Req} (h : plan P ρ o = some r) {en : Env} {v : AV} {m' : Mem} (hp : perform en r E.m = some (v, m')) : Done pol E ((execOp ρc o).run P E.w) v m' := by
  by_cases h1 : (∃ id ver off, ρ x = some (.ptr id ver off)) ∨ ∃ cs, ρ x = some (.cptr cs)
  · have h0 := h
    simp only [plan, ho] at h
    rcases h1 with ⟨id, ver, off, hx⟩ | ⟨cs, hx⟩
    all_goals
      split at h
      all_goals first
        | (cases h; done)
        | (rename_i e _ hlo hhi; rw [hx] at e; cases e; exact arrSl_ok hM hρ ho hx hlo hhi h hp)
        | (rename_i e _ _ _; rw [hx] at e; cases e; done)
        | (rename_i e _ _ _ _; rw [hx] at e; cases e; done)
        | (rename_i e; rw [hx] at e; cases e; done)
        | skip
  · obtain ⟨v', rfl, hd⟩ := slice_ok hM hρ ho h (fun id ver off e => h1 (.inl ⟨id, ver, off, e⟩)) (fun cs e => h1 (.inr ⟨cs, e⟩))
    cases hp; exact hd

/-! New memory. -/
theorem run_newRow (e : TypeId) (cells : Array Value) (E : En) : (newRow e cells).run P E.w = .ok ⟨E.w.heap.size, 0, none⟩ (E.push (.cells cells e)).w := by
  simp [newRow, En.push]
theorem fN {β : Type} (n : Nat) (k : Nat → β) : fNat n k = k n := by cases n <;> rfl
theorem tagT_lt (t : TypeId) : tagT t < 65536 := by unfold tagT; split <;> omega
theorem tagT_ok (t : TypeId) : tagT t % 65536 = 0 ∨ tagT t % 65536 = t + 1 := by
  unfold tagT; split
  · rename_i h; exact Or.inr (Nat.mod_eq_of_lt h)
  · exact Or.inl rfl
theorem nextV_lt (tag ver : Nat) : ver < nextV tag ver := by unfold nextV; split <;> omega
theorem nextV_ge (tag ver : Nat) : 65536 ≤ nextV tag ver := by unfold nextV; split <;> omega
theorem nextV_tag {tag ver : Nat} : nextV tag ver % 65536 = 0 ∨ (nextV tag ver % 65536 = ver % 65536 ∧ ver % 65536 = tag) := by unfold nextV; split <;> omega
theorem new_cells {E : En} (hM : MI pol E) {cs : List AV} {c : Array Value} {us : List Value} (hl : RepL E cs us) (hf : cs.all AV.leaf = true) (hc : ∀ (i : Nat) u, us[i]? = some u → c[i]? = some u) (e : TypeId) :
    ∃ E', E'.w = (E.push (.cells c e)).w ∧ E'.m = E.m ++ [.cells (tagT e) cs] ∧ E'.β = E.β ++ [(E.w.heap.size, 0)] ∧ MI pol E' ∧ Ext E E' :=
  new_ok hM (.cells c e) (.cells (tagT e) cs) fun E' x hw => by
    simp only [ObR]
    refine ⟨c, e, (0, 0), us, by rw [hw]; simp only [En.push, Array.getElem?_push_size], hf, RepL.mono x _ _ hl, fun i u hu => by rw [Nat.zero_add]; exact hc i u hu, Or.inl rfl, tagT_ok e, by simp⟩
theorem new_ptr {E E' : En} (hM : MI pol E) {cs : List AV} {v : Nat} (hm : E'.m = E.m ++ [.cells v cs]) (hβ : E'.β = E.β ++ [(E.w.heap.size, 0)]) : Rep E' (.ptr E.m.length v 0) (.pointer (some ⟨E.w.heap.size, 0, none⟩)) := by
  simp only [Rep]
  refine ⟨_, rfl, v, cs, by rw [hm]; simp, Nat.le_refl _, fun _ => ⟨E.w.heap.size, 0, ?_, rfl⟩⟩
  rw [hβ, ← hM.len]; simp
theorem new_own {E E' : En} (hM : MI pol E) {cs : List AV} {c : Array Value} {e : TypeId} {n cap esz v : Nat} (hw : E'.w = (E.push (.cells c e)).w) (hm : E'.m = E.m ++ [.cells v cs]) (hβ : E'.β = E.β ++ [(E.w.heap.size, 0)])
    (hn : n ≤ cap) (hlen : n * esz ≤ cs.length) (hc : cap * esz ≤ c.size) : Rep E' (.own E.m.length v 0 n esz) (.slice (some ⟨E.w.heap.size, 0, none⟩) n cap) := by
  simp only [Rep]
  refine ⟨_, cap, rfl, hn, v, cs, by rw [hm]; simp, Nat.le_refl _, fun _ => ⟨by omega, E.w.heap.size, 0, ?_, .inr rfl, ?_⟩⟩
  · rw [hβ, ← hM.len]; simp
  · have : E'.bs E.w.heap.size = c.size := by unfold En.bs; rw [hw]; simp only [En.push, Array.getElem?_push_size, if_true]
    omega
theorem box_ok {E : En} (hM : MI pol E) {ρ : Operand → Option AV} {ρc : Operand → Value} (hρ : Opn E ρ ρc) {o : Oper} {t : TypeId} {x : Operand} (ho : o.op = .box t x) {en : Env} {r : Req} {v : AV} {m' : Mem} (h : plan P ρ o = some r) (hp : perform en r E.m = some (v, m')) :
    Done pol E ((execOp ρc o).run P E.w) v m' := by
  simp only [plan, ho, Option.map_eq_some_iff] at h
  obtain ⟨z, hz, rfl⟩ := h
  simp only [perform, spine_eq, fN] at hp
  split at hp
  case isFalse => cases hp
  rename_i hf
  cases hp
  have hl := cells_rep (hρ x z hz)
  obtain ⟨E', h1, h2, h3, h4, h5⟩ := new_cells hM hl hf (c := (ρc x).cells) (fun i u hu => by simpa using hu) t
  exact ⟨E', _, .inl (by simp [execOp, ho, Instr.box, newVar, run_newRow, h1]), h2, h4, h5, new_ptr hM h2 h3⟩
theorem alloc_ok {E : En} (hM : MI pol E) {ρ : Operand → Option AV} {ρc : Operand → Value} {o : Oper} {t : TypeId} (ho : o.op = .alloc t) {en : Env} {r : Req} {v : AV} {m' : Mem} (h : plan P ρ o = some r) (hp : perform en r E.m = some (v, m')) :
    Done pol E ((execOp ρc o).run P E.w) v m' := by
  simp only [plan, ho, Option.map_eq_some_iff] at h
  obtain ⟨z, hz, rfl⟩ := h
  obtain ⟨z', hz1, hz2, hz3⟩ := zeroOf_run hz
  simp only [perform, spine_eq, fN, hz3, if_true] at hp
  cases hp
  obtain ⟨E', h1, h2, h3, h4, h5⟩ := new_cells hM (cells_rep (hz2 E)) hz3 (c := z'.cells) (fun i u hu => by simpa using hu) t
  exact ⟨E', _, .inl (by simp [execOp, ho, Instr.alloc, hz1, newVar, run_newRow, h1]), h2, h4, h5, new_ptr hM h2 h3⟩
theorem makeSlice_ok {E : En} (hM : MI pol E) {ρ : Operand → Option AV} {ρc : Operand → Value} (hρ : Opn E ρ ρc) {o : Oper} {t : TypeId} {x y : Operand} (ho : o.op = .makeSlice t x y) {en : Env} {r : Req} {v : AV} {m' : Mem} (h : plan P ρ o = some r) (hp : perform en r E.m = some (v, m')) :
    Done pol E ((execOp ρc o).run P E.w) v m' := by
  simp only [plan, ho] at h
  split at h
  case h_2 => cases h
  rename_i e k1 l k2 c he hl hc
  split at h
  case h_2 => cases h
  rename_i ie z hi hz
  split at h
  case isFalse => cases h
  rename_i hcond
  obtain ⟨h0, h1, h2, h3, h4, h5⟩ := hcond
  cases h
  obtain ⟨z', hz1, hz2, hz3⟩ := zeroOf_run hz
  have hxl : ρc x = .int k1 l := by
    cases hx : ρ x with
    | none => simp [hx] at hl
    | some a => simp only [hx, Option.bind_some] at hl; exact asI_rep (hρ x a hx) hl
  have hyc : ρc y = .int k2 c := by
    cases hx : ρ y with
    | none => simp [hx] at hc
    | some a => simp only [hx, Option.bind_some] at hc; exact asI_rep (hρ y a hx) hc
  have hff := all_flatten hz3 l.toNat
  simp only [perform, spine_eq, fN, hff, if_true] at hp
  cases hp
  have hzr := cells_rep (hz2 E)
  have hzs : z'.cells.size = ie.size := by have := hzr.length; simp at this; omega
  have hcap : l.toNat ≤ c.toNat := by omega
  have hcpos : 0 ≤ c := by omega
  -- the row that the model makes
  obtain ⟨row, hrow⟩ : ∃ row : Array Value, row = ((List.replicate c.toNat z'.cells.toList).flatten).toArray := ⟨_, rfl⟩
  have hpre : ∀ (i : Nat) u, ((List.replicate l.toNat z'.cells.toList).flatten)[i]? = some u → row[i]? = some u := by
    intro i u hu
    have hi : i < l.toNat * ie.size := by have := (List.getElem?_eq_some_iff.1 hu).1; rw [flatten_length] at this; simp [hzs] at this; exact this
    have hi' : i < c.toNat * ie.size := Nat.lt_of_lt_of_le hi (Nat.mul_le_mul_right _ hcap)
    rw [flatten_get z'.cells.toList ie.size _ _ (by simpa using hzs) hi] at hu
    rw [hrow]
    simp only [List.getElem?_toArray]
    rw [flatten_get z'.cells.toList ie.size _ _ (by simpa using hzs) hi']
    exact hu
  obtain ⟨E', e1, e2, e3, e4, e5⟩ := new_cells hM (hzr.flatten l.toNat) hff hpre e
  refine ⟨E', .slice (some ⟨E.w.heap.size, 0, none⟩) l.toNat c.toNat, .inl ?_, e2, e4, e5, new_own hM e1 e2 e3 hcap ?_ ?_⟩
  · have hw1 : IntKind.i64.wrap l = l := by simp [IntKind.wrap, IntKind.bits, IntKind.signed]; omega
    have hw2 : IntKind.i64.wrap c = c := by simp [IntKind.wrap, IntKind.bits, IntKind.signed]; omega
    have hnb : ¬ ((decide (c < 0) || decide ((ie.bytes : Int) * c > 2 ^ 48)) = true ∨ l < 0 ∨ l > c) := by
      simp; omega
    have hn1 : ¬ c < 0 := by omega
    have hn2 : ¬ l < 0 := by omega
    have hn3 : ¬ c < l := by omega
    have hn4 : ¬ (281474976710656 : Int) < (ie.bytes : Int) * c := by omega
    have hcells := zero_row (z := z'.cells) (len := c.toNat) (s := ie.size) hzs
    have hmk : (Instr.makeSlice t (.int k1 l) (.int k2 c)).run P E.w = .ok (.slice (some ⟨E.w.heap.size, 0, none⟩) l.toNat c.toNat) (E.push (.cells row e)).w := by
      unfold Instr.makeSlice
      simp only [Sem.run_bind, run_underlying (elem_run he), Result.andThen_ok, asInt, asIntOf, Sem.run_pure, typeInfo, run_program, hi, hw1, hw2]
      simp [hn1, hn2, hn3, hn4, sizeOf, typeInfo, hi]
      by_cases h00 : c.toNat * ie.size = 0
      · rw [if_pos h00]
        simp only [h00, if_true] at hcells
        have hr0 : row = (Array.range 0).map (fun _ => (default : Value)) := by rw [hrow, ← hcells]; simp
        rw [h00, ← hr0, run_newRow]; rfl
      · rw [if_neg h00]
        simp only [h00, if_false] at hcells
        rw [hz1]
        simp only [Result.andThen_ok, hcells, ← hrow, run_newRow]
    simp only [execOp, ho, hxl, hyc]
    simp [hmk, e1]
  · have : (List.replicate l.toNat z.cells).flatten.length = l.toNat * ie.size := by
      have := (hzr.flatten l.toNat).length; rw [this, flatten_length]; simp [hzs]
    omega
  · rw [hrow]; simp only [List.size_toArray, flatten_length]; simp [hzs]
theorem splice_len : ∀ (vs : List AV) (cs : List AV) (o : Nat), (splice cs o vs).length = cs.length
  | [], cs, o => rfl
  | v :: vs, cs, o => by rw [splice, splice_len vs]; simp
theorem fillA_len {place : Nat → Option (Nat × Nat)} : ∀ {ps : List (Nat × AV)} {cs ds : List AV}, fillA place cs ps = some ds → ds.length = cs.length
  | [], cs, ds, h => by simp only [fillA, Option.some.injEq] at h; rw [h]
  | (i, v) :: ps, cs, ds, h => by
    simp only [fillA] at h
    split at h
    · cases h
    · split at h
      · cases h
      · rw [fillA_len h, splice_len]
theorem buildSlice_ok {E : En} (hM : MI pol E) {ρ : Operand → Option AV} {ρc : Operand → Value} (hρ : Opn E ρ ρc) {o : Oper} {t : TypeId} {len : Nat} {parts : Array (Nat × Operand)} (ho : o.op = .buildSlice t len parts) {en : Env} {r : Req} {v : AV} {m' : Mem} (h : plan P ρ o = some r) (hp : perform en r E.m = some (v, m')) :
    Done pol E ((execOp ρc o).run P E.w) v m' := by
  simp only [plan, ho] at h
  split at h
  case h_2 => cases h
  rename_i e ps he hps
  split at h
  case h_2 => cases h
  rename_i s z hs hz
  split at h
  · cases h
  rename_i hc
  simp only [Bool.or_eq_true, decide_eq_true_eq, not_or, ne_eq, Decidable.not_not, Nat.not_lt] at hc
  obtain ⟨hc1, hc2⟩ := hc
  obtain ⟨z', hz1, hz2, hz3⟩ := zeroOf_run hz
  simp only [Option.map_eq_some_iff] at h
  obtain ⟨cs, hcs, rfl⟩ := h
  obtain ⟨h1, h2⟩ := partsOf_rep hρ hps
  have hzr := cells_rep (hz2 E)
  have hzs : z'.cells.size = s := by have := hzr.length; simp at this; omega
  obtain ⟨ds', e1, e2, e3⟩ := fill_rep (place := fun i => some (i * s, s)) (ds := ((List.replicate len z'.cells.toList).flatten).toArray) h1 h2 (by simpa using hzr.flatten len) (all_flatten hz3 len) hcs
  have hcells := zero_row (len := len) hzs
  simp only [Array.toList_map] at e1
  have hrow : (Instr.buildSlice t len (parts.map fun (x : Nat × Operand) => (x.1, ρc x.2))).run P E.w = .ok (.slice (some ⟨E.w.heap.size, 0, none⟩) len len) (E.push (.cells ds' e)).w := by
    have e1a := e1
    rw [← hcells] at e1a
    unfold Instr.buildSlice
    simp only [Sem.run_bind, run_underlying (elem_run he), Result.andThen_ok, szOf_run hs, if_neg (Nat.not_lt.2 hc1), Array.toList_map]
    by_cases h0 : len * s = 0
    · simp only [h0, if_true] at e1a ⊢
      simp only [pure_bind, e1a]
      simp [newRow, En.push]
    · simp only [h0, if_false] at e1a ⊢
      simp only [Sem.run_bind, hz1, Result.andThen_ok, pure_bind, e1a]
      simp [newRow, En.push]
  by_cases ow : ownP o.pos = true
  · rw [if_pos ow] at hp
    simp only [perform, spine_eq, fN, e3, if_true] at hp
    cases hp
    obtain ⟨E', g1, g2, g3, g4, g5⟩ := new_cells hM e2 e3 (c := ds') (fun i u hu => by simpa using hu) e
    refine ⟨E', .slice (some ⟨E.w.heap.size, 0, none⟩) len len, .inl ?_, g2, g4, g5, new_own hM g1 g2 g3 (Nat.le_refl _) ?_ ?_⟩
    · simp only [execOp, ho]
      simp [hrow, g1]
    · have := fillA_len hcs
      simp [this, hc2]
    · have h9 := e2.length
      have := fillA_len hcs
      rw [this] at h9
      simp [hc2] at h9
      omega
  · rw [if_neg ow] at hp
    cases hp
    refine ⟨E.push (.cells ds' e), .slice (some ⟨E.w.heap.size, 0, none⟩) len len, .inl ?_, rfl, push_mi hM _, push_ext hM _, push_lst hM e2 e3 e len⟩
    simp only [execOp, ho]
    simp [hrow]
end Go.Proofs.YtcmjidnbbfcbjaaGreatDoor.V
/- What an operation asks of the VM's store is what it does to the model's memory: stores and appends; no condition. -/
namespace Go.Proofs.YtcmjidnbbfcbjaaGreatDoor.V
open Go
set_option linter.unusedVariables false
set_option linter.unusedSimpArgs false
variable {P : Program} {pol : Pol}

theorem spliceK_eq {β : Type} (cs : List AV) (o : Nat) (vs : List AV) (k : List AV → β) : spliceK cs o vs k = k (splice cs o vs) := by
  unfold spliceK
  split
  · rw [lsetK_eq]; rfl
  · rw [spine_eq]
theorem take_append_drop_eq (ds us : List Value) (o : Nat) (h : o + us.length ≤ ds.length) : ds.take o ++ us ++ ds.drop (o + us.length) = spliceV ds o us := by
  apply List.ext_getElem?
  intro i
  rw [spliceV_get us ds o i h]
  by_cases h1 : i < o
  · rw [if_pos h1, List.append_assoc, List.getElem?_append_left (by simp; omega)]
    simp [h1]
  · rw [if_neg h1]
    by_cases h2 : i < o + us.length
    · rw [if_pos h2, List.getElem?_append_left (by simp; omega), List.getElem?_append_right (by simp; omega)]
      congr 1; simp; omega
    · rw [if_neg h2, List.getElem?_append_right (by simp; omega)]
      simp only [List.getElem?_drop, List.length_append, List.length_take]
      congr 1; omega
/-- Cells written into an object. -/
theorem write_ok {E : En} (hM : MI pol E) {id ver B p : Nat} {cs : List AV} (hm : E.m[id]? = some (.cells ver cs)) (hB : E.β[id]? = some (B, p)) {off : Nat} {zs : List AV} {vs : List Value} (hz : RepL E zs vs) (hf : zs.all AV.leaf = true) (hl : off + zs.length ≤ cs.length) (hpos : 0 < zs.length) :
    ∃ E', (storeCells ⟨B, p + off, none⟩ vs).run P E.w = .ok () E'.w ∧ E'.m = E.m.set id (.cells ver (splice cs off zs)) ∧ MI pol E' ∧ Ext E E' := by
  obtain ⟨c, t', fz, us, h1, h2, h3, h4, hfz, htg⟩ := obj_cells hM hm hB
  obtain rfl : fz = (0, 0) := hfz.resolve_right (by rintro rfl; rw [List.length_nil] at hl; omega)
  have hzl := hz.length
  have hones := hz.ones hf
  have hul := h3.length
  have hcs : (p + off) + vs.length ≤ c.size := by
    have hi := h4 (us.length - 1) (us[us.length - 1]'(by omega)) (List.getElem?_eq_getElem (by omega))
    have := (Array.getElem?_eq_some_iff.1 hi).1
    omega
  have hst := run_storeCells_at P B (p + off) t' vs 0 c E.w h1 (by simpa using hcs) hones
  simp only [Nat.add_zero] at hst
  rw [take_append_drop_eq _ _ _ (by simpa using hcs)] at hst
  obtain ⟨E', e1, e2, e3, e4, e5⟩ := upd_ok hM (o' := .cells ver (splice cs off zs)) (B' := B) (p' := p) (w' := E.w.setRow B (spliceV c.toList (p + off) vs).toArray) hm hB rfl rfl rfl (by simp)
    (fun b _ hb => setRow_other _ _ _ _ hb) (.inl rfl) (by simp [keeps, splice_length]) (fun _ => ⟨rfl, rfl, by
      have := setRow_heap E.w B c (spliceV c.toList (p + off) vs).toArray t' (0, 0) h1
      simp only [En.bs, this, h1]; simp [spliceV_length]⟩) (fun E' xx hw => by
      simp only [ObR]
      refine ⟨_, t', (0, 0), spliceV us off vs, by rw [hw]; exact setRow_heap E.w B c _ t' (0, 0) h1, splice_all _ _ _ h2 hf, RepL.mono xx _ _ (splice_rep off h3 hz), fun i u hu => ?_, .inl rfl, htg⟩
      simp only [List.getElem?_toArray]
      rw [spliceV_get _ _ _ _ (by omega)] at hu
      rw [spliceV_get _ _ _ _ (by simpa using hcs)]
      by_cases i1 : i < off
      · rw [if_pos i1] at hu; rw [if_pos (by omega)]; simpa using h4 i u hu
      · rw [if_neg i1] at hu; rw [if_neg (by omega)]
        by_cases i2 : i < off + vs.length
        · rw [if_pos i2] at hu; rw [if_pos (by omega)]; rw [← hu]; congr 1; omega
        · rw [if_neg i2] at hu; rw [if_neg (by omega)]; simpa using h4 i u hu)
  exact ⟨E', by rw [e1]; simpa using hst, e2, e4, e5⟩
theorem store_ok {E : En} (hM : MI pol E) {ρ : Operand → Option AV} {ρc : Operand → Value} (hρ : Opn E ρ ρc) {o : Oper} {t : TypeId} {a x : Operand} (ho : o.op = .store t a x) {en : Env} {r : Req} {v : AV} {m' : Mem} (h : plan P ρ o = some r) (hp : perform en r E.m = some (v, m')) :
    Done pol E ((execOp ρc o).run P E.w) v m' := by
  simp only [plan, ho] at h
  split at h
  case h_2 => cases h
  rename_i id ver off z n ha hx hn
  split at h
  case isFalse => cases h
  rename_i hlen
  cases h
  simp only [perform, lget_eq] at hp
  split at hp
  case h_2 => cases hp
  rename_i v' cs hm
  split at hp
  case isFalse => cases hp
  rename_i hc
  obtain ⟨hf, hpos, rfl, hl, _, _⟩ := hc
  rw [spliceK_eq, lsetK_eq] at hp
  cases hp
  have hr := hρ a _ ha
  simp only [Rep] at hr
  obtain ⟨ad, had, ver', cs', hm', hle, hv⟩ := hr
  rw [hm] at hm'; cases hm'
  obtain ⟨B, p, hB, rfl⟩ := hv rfl
  obtain ⟨c, t', fz, us, h1, h2, h3, h4, hfz, htg⟩ := obj_cells hM hm hB
  obtain rfl : fz = (0, 0) := hfz.resolve_right (by rintro rfl; rw [List.length_nil] at hl; omega)
  have hz := cells_rep (hρ x z hx)
  have hzl := hz.length
  have hones := hz.ones hf
  have hul := h3.length
  have hcs : (p + off) + (ρc x).cells.toList.length ≤ c.size := by
    have hi := h4 (us.length - 1) (us[us.length - 1]'(by omega)) (List.getElem?_eq_getElem (by omega))
    have := (Array.getElem?_eq_some_iff.1 hi).1
    omega
  have hst := run_storeCells_at P B (p + off) t' (ρc x).cells.toList 0 c E.w h1 (by simpa using hcs) hones
  simp only [Nat.add_zero] at hst
  rw [take_append_drop_eq _ _ _ (by simpa using hcs)] at hst
  obtain ⟨E', e1, e2, e3, e4, e5⟩ := upd_ok hM (o' := .cells v' (splice cs off z.cells)) (B' := B) (p' := p) (w' := E.w.setRow B (spliceV c.toList (p + off) (ρc x).cells.toList).toArray) hm hB rfl rfl rfl (by simp)
    (fun b _ hb => setRow_other _ _ _ _ hb) (.inl rfl) (by simp [keeps, splice_length]) (fun _ => ⟨rfl, rfl, by
      have := setRow_heap E.w B c (spliceV c.toList (p + off) (ρc x).cells.toList).toArray t' (0, 0) h1
      simp only [En.bs, this, h1]; simp [spliceV_length]⟩) (fun E' xx hw => by
      simp only [ObR]
      refine ⟨_, t', (0, 0), spliceV us off (ρc x).cells.toList, by rw [hw]; exact setRow_heap E.w B c _ t' (0, 0) h1, splice_all _ _ _ h2 hf, RepL.mono xx _ _ (splice_rep off h3 hz), fun i u hu => ?_, .inl rfl, htg⟩
      simp only [List.getElem?_toArray]
      rw [spliceV_get _ _ _ _ (by omega)] at hu
      rw [spliceV_get _ _ _ _ (by simpa using hcs)]
      by_cases i1 : i < off
      · rw [if_pos i1] at hu; rw [if_pos (by omega)]; simpa using h4 i u hu
      · rw [if_neg i1] at hu; rw [if_neg (by omega)]
        by_cases i2 : i < off + (ρc x).cells.toList.length
        · rw [if_pos i2] at hu; rw [if_pos (by omega)]; rw [← hu]; congr 1; omega
        · rw [if_neg i2] at hu; rw [if_neg (by omega)]; simpa using h4 i u hu)
  refine ⟨E', undef, .inr ⟨?_, rfl⟩, e2, e4, e5, by simp only [Rep]; exact ⟨[], rfl, RepL.nil⟩⟩
  have hsv : (storeVar t ⟨B, p + off, none⟩ (ρc x)).run P E.w = .ok () E'.w := by
    unfold storeVar
    have : (ρc x).cells.size = n := by simp at hzl; omega
    simp only [Sem.run_bind, szOf_run hn, Result.andThen_ok, this, ne_eq, not_true_eq_false, if_false]
    rw [e1]; simpa using hst
  simp [execOp, ho, had, Instr.storeAt, Instr.sureAddr, hsv]

/-! Maps. -/
theorem makeMap_ok {E : En} (hM : MI pol E) {ρ : Operand → Option AV} {ρc : Operand → Value} (hρ : Opn E ρ ρc) {o : Oper} {t : TypeId} {x : Option Operand} (ho : o.op = .makeMap t x) {en : Env} {r : Req} {v : AV} {m' : Mem} (h : plan P ρ o = some r) (hp : perform en r E.m = some (v, m')) :
    Done pol E ((execOp ρc o).run P E.w) v m' := by
  have key : r = .newmap → (Instr.makeMap t (x.map ρc)).run P E.w = .ok (.map (some E.w.heap.size)) (E.push (.map #[] 0)).w → Done pol E ((execOp ρc o).run P E.w) v m' := by
    intro hr hrun
    subst hr
    simp only [perform, spine_eq, Option.some.injEq, Prod.mk.injEq] at hp
    obtain ⟨rfl, rfl⟩ := hp
    obtain ⟨E', h1, h2, h3, h4, h5⟩ := new_ok hM (.map #[] 0) (.map []) (fun E' x hw => by
      simp only [ObR]
      exact ⟨#[], 0, by rw [hw]; simp only [En.push, Array.getElem?_push_size], rfl, fun i e x he => by simp at he⟩)
    refine ⟨E', .map (some E.w.heap.size), .inl (by simp [execOp, ho, hrun, h1]), h2, h4, h5, ?_⟩
    simp only [Rep]
    exact ⟨E.w.heap.size, 0, [], by rw [h3, ← hM.len]; simp, rfl, by rw [h2]; simp⟩
  simp only [plan, ho] at h
  split at h
  · cases h
    exact key rfl (by simp [Instr.makeMap, En.push])
  · rename_i kt e x' ht
    split at h
    case h_2 => cases h
    rename_i i hi
    cases h
    obtain ⟨k, n⟩ := i
    have hxl : ρc x' = .int k n := by
      cases hx : ρ x' with
      | none => simp [hx] at hi
      | some a => simp only [hx, Option.bind_some] at hi; exact asI_rep (hρ x' a hx) hi
    exact key rfl (by simp [Instr.makeMap, run_underlying ht, hxl, asInt, asIntOf, En.push])
  · cases h
theorem sameK_now {kd : TypeDesc} {k k' : Value} (h : isKeyT kd k = true) (h' : isKeyT kd k' = true) : Instr.sameNow kd k k' = some (findV.sameK k k') := by
  cases kd <;> cases k <;> simp [isKeyT] at h <;> cases k' <;> simp [isKeyT] at h' <;> simp [Instr.sameNow, findV.sameK]
  subst h h'; rfl

/-! Texts and bytes. -/
theorem bytesOf_rep {E : En} : ∀ {cs : List AV} {us : List Value} {l : List UInt8}, RepL E cs us → bytesOf cs = some l → us = l.map fun b => Value.int .u8 (b.toNat : Int)
  | [], us, l, h, k => by simp only [bytesOf, Option.some.injEq] at k; subst k; simpa [RepL] using h
  | c :: cs, us, l, h, k => by
    unfold bytesOf at k
    split at k
    · rename_i heq; cases heq
    · rename_i n cs' heq
      cases heq
      split at k
      case isFalse => cases k
      rename_i hn
      simp only [Option.map_eq_some_iff] at k
      obtain ⟨l', hl', rfl⟩ := k
      simp only [RepL] at h
      obtain ⟨u, us', rfl, h1, h2⟩ := h
      simp only [Rep] at h1
      obtain ⟨rfl, _⟩ := h1
      rw [bytesOf_rep h2 hl']
      simp only [List.map_cons, List.cons.injEq, Value.int.injEq, true_and, and_true]
      have : n.toNat % 256 = n.toNat := Nat.mod_eq_of_lt (by omega)
      simp [this]; omega
    · cases k
theorem byteCells_rep {E : En} (s : ByteArray) : RepL E (byteCells s) (s.data.toList.map fun b => .int .u8 b.toNat) := by
  unfold byteCells
  generalize s.data.toList = l
  induction l with
  | nil => exact RepL.nil
  | cons b l ih => exact RepL.cons (by simp [Rep, scalar]) ih
theorem byteCells_leaf (s : ByteArray) : (byteCells s).all AV.leaf = true := by
  unfold byteCells
  rw [List.all_eq_true]; intro x hx; obtain ⟨b, _, rfl⟩ := List.mem_map.1 hx; rfl
theorem bytesRow_get (s : ByteArray) (cap i : Nat) (u : Value) (h : (s.data.toList.map fun b => Value.int .u8 b.toNat)[i]? = some u) : (bytesRow s cap)[i]? = some u := by
  have hi : i < s.data.size := by have := (List.getElem?_eq_some_iff.1 h).1; simpa using this
  rw [bytesRow_at s cap i hi]
  rw [← h, List.getElem?_map, Array.getElem?_toList, Array.getElem?_eq_getElem hi]; rfl
theorem bytes_run {E : En} {src dst e : TypeId} {u : Value} {a : Addr} {n cap : Nat} {l : List UInt8} (hs : P.underlying src = some (.slice e)) (he : P.underlying e = some (.int .u8)) (hd : P.underlying dst = some .string)
    (hu : u = .slice (some a) n cap) (hn : l.length = n) (hc : ∀ (j : Nat) v, (l.map fun b => Value.int .u8 (b.toNat : Int))[j]? = some v → E.w.cell? (a.add j) = some v) : (convert src dst u).run P E.w = .ok (.string ⟨⟨l⟩⟩) E.w := by
  subst hu hn
  have := run_convert_bytes_back (P := P) E.w src dst e a cap l hs he hd (fun j hj => hc j _ (by simp [hj]))
  rw [this]
/-! Pointers. -/
theorem eq_nil {t e : TypeId} (h : P.underlying t = some (.pointer e)) (a : Addr) (w : World) : (Op.equal t (.pointer (some a)) (.pointer none)).run P w = .ok false w := by
  have h : ∀ d : Nat, (Op.equalIn (d + 1) t (.pointer (some a)) (.pointer none)).run P w = .ok false w := fun d => by simp [Op.equalIn, run_underlying h]
  simp only [Op.equal, Op.maxDepth]; exact h 9999
theorem eq_same {t e : TypeId} (h : P.underlying t = some (.pointer e)) (hi : (P.info? e).isSome = true) (a : Addr) (w : World) : (Op.equal t (.pointer (some a)) (.pointer (some a))).run P w = .ok true w := by
  obtain ⟨j, hj⟩ := Option.isSome_iff_exists.1 hi
  have h : ∀ d : Nat, (Op.equalIn (d + 1) t (.pointer (some a)) (.pointer (some a))).run P w = .ok true w := fun d => by
    simp [Op.equalIn, run_underlying h, sizeOf, typeInfo, hj, run_sameAddr_same]
  simp only [Op.equal, Op.maxDepth]; exact h 9999
/-- Where a pointer leads that was held against the store. -/
theorem chk_at {E : En} (hM : MI pol E) {tag id ver off sz : Nat} {w v : AV} {m' : Mem} {en : Env} {u : Value} (hp : perform en (.chk tag id ver off sz w) E.m = some (v, m')) (hr : Rep E (.ptr id ver off) u) :
    v = w ∧ m' = E.m ∧ ∃ B p c t fz, u = .pointer (some ⟨B, p + off, none⟩) ∧ E.β[id]? = some (B, p) ∧ E.w.heap[B]? = some (.cells c t fz) ∧ (0 < sz ∧ p + off + sz ≤ c.size) ∧ (tag = 0 ∨ ver % 65536 = tag) ∧ (ver % 65536 = 0 ∨ ver % 65536 = t + 1) ∧ (ver < 65536 → p = 0) := by
  simp only [perform, lget_eq] at hp
  split at hp
  case h_2 => cases hp
  rename_i v' cs hm
  split at hp
  case isFalse => cases hp
  rename_i hc
  obtain ⟨rfl, hoff, htag⟩ := hc
  cases hp
  simp only [Rep] at hr
  obtain ⟨a, rfl, ver', cs', hm', _, hv⟩ := hr
  rw [hm] at hm'; cases hm'
  obtain ⟨B, p, hB, rfl⟩ := hv rfl
  obtain ⟨c, t, fz, us, h1, h2, h3, h4, _, h6, h7⟩ := obj_cells hM hm hB
  refine ⟨rfl, rfl, B, p, c, t, fz, rfl, hB, h1, ⟨hoff.1, ?_⟩, htag, h6, h7⟩
  have hl := h3.length
  have := (Array.getElem?_eq_some_iff.1 (h4 (off + sz - 1) us[off + sz - 1] (List.getElem?_eq_getElem (by omega)))).1
  omega
theorem liesAt_row {e : TypeId} {s : Nat} (hs : P.cellsOf e = s) (h0 : s ≠ 0) (count off n : Nat) (ho : off % s = 0) (hn : off / s + n ≤ count) : liesAt P P.depth e count off e n = true := by
  have hd : P.depth = (2 * (P.types.size + Made.depth) + 1) + 1 := rfl
  rw [hd]
  simp only [liesAt, Bool.or_eq_true]
  left
  rw [hd]
  simp [rowAt, hs, h0, ho, hn, sameLayout]
theorem eqOp_some {op : BinOp} {b : Bool} (h : eqOp op = some b) : (op = .eql ∧ b = true) ∨ (op = .neq ∧ b = false) := by
  cases op <;> simp [eqOp] at h <;> simp [h]
theorem ptrEq_ok {E : En} (hM : MI pol E) {ρ : Operand → Option AV} {ρc : Operand → Value} (hρ : Opn E ρ ρc) {o : Oper} {op : BinOp} {t yt : TypeId} {x y : Operand} (ho : o.op = .binOp op t x y yt) {en : Env} {r : Req} {v xv yv : AV} {m' : Mem} {a : Addr}
    (hx : ρ x = some xv) (hy : ρ y = some yv) (ha : ρc x = .pointer (some a)) (h : ptrEq P op (P.underlying t) xv yv = some r) (hp : perform en r E.m = some (v, m')) : Done pol E ((execOp ρc o).run P E.w) v m' := by
  have peq : ∀ (u : Option Addr) (b q : Bool), eqOp op = some q → ρc y = .pointer u → (Op.equal t (.pointer (some a)) (.pointer u)).run P E.w = .ok b E.w → v = .sc (.bool (b == q)) → m' = E.m → Done pol E ((execOp ρc o).run P E.w) v m' := by
    intro u b q hop h2 h3 h4 h5
    subst h4 h5
    refine Done.same (u := .bool (b == q)) hM ?_ (by simp [Rep, scalar])
    rcases eqOp_some hop with ⟨rfl, rfl⟩ | ⟨rfl, rfl⟩ <;> cases u <;> simp [execOp, ho, ha, h2, eqGuard, binOp, h3]
  unfold ptrEq at h
  split at h
  case h_2 => cases h
  rename_i q e hop hdt
  have hry := hρ y _ hy
  split at h
  · cases h; cases hp
    simp only [Rep] at hry
    exact peq none false q hop hry (eq_nil hdt a E.w) (by cases q <;> rfl) rfl
  · split at h
    case h_2 => cases h
    rename_i i v1 o1
    split at h
    case isFalse => cases h
    rename_i hc
    obtain ⟨rfl, rfl, rfl, hi⟩ := hc
    cases h
    obtain ⟨k1, k2, B, p, c, t', fz, hu, hB, _⟩ := chk_at hM hp hry
    obtain ⟨_, _, B', p', c', t2, fz', hu', hB', _⟩ := chk_at hM hp (hρ x _ hx)
    rw [hB] at hB'; cases hB'
    rw [ha] at hu'
    have hay : ρc y = .pointer (some a) := hu.trans hu'.symm
    exact peq (some a) true q hop hay (eq_same hdt hi a E.w) (by rw [k1]; cases q <;> rfl) k2
  · cases h
theorem notNil_ok {E : En} (hM : MI pol E) {ρ : Operand → Option AV} {ρc : Operand → Value} (hρ : Opn E ρ ρc) {o : Oper} {op : BinOp} {t yt : TypeId} {x y : Operand} (ho : o.op = .binOp op t x y yt) {en : Env} {r : Req} {v xv yv : AV} {m' : Mem}
    (hx : ρ x = some xv) (hy : ρ y = some yv) (hn : notNil (P.underlying t) xv yv = true) (h : (eqOp op).map (fun b => Req.val (.sc (.bool !b))) = some r) (hp : perform en r E.m = some (v, m')) : Done pol E ((execOp ρc o).run P E.w) v m' := by
  simp only [Option.map_eq_some_iff] at h
  obtain ⟨q, hop, rfl⟩ := h
  cases hp
  have hrx := hρ x _ hx
  have hry := hρ y _ hy
  have fin : ∀ b : Bool, (execOp ρc o).run P E.w = .ok (.value (.bool b)) E.w → b = !q → Done pol E ((execOp ρc o).run P E.w) (.sc (.bool !q)) E.m := by
    intro b h1 h2
    subst h2
    exact Done.same (u := .bool !q) hM h1 (by simp [Rep, scalar])
  have eq0 : ∀ u1 u2 : Value, (∀ d : Nat, (Op.equalIn (d + 1) t u1 u2).run P E.w = .ok false E.w) → (Op.equal t u1 u2).run P E.w = .ok false E.w := by
    intro u1 u2 h
    simp only [Op.equal, Op.maxDepth]; exact h 9999
  unfold notNil at hn
  split at hn
  · rename_i ms t' v' hd
    simp only [Rep] at hrx hry
    obtain ⟨u, hu, _⟩ := hrx
    have he := eq0 (.iface t' u) .nilIface (fun d => by simp [Op.equalIn, run_underlying hd])
    rcases eqOp_some hop with ⟨rfl, rfl⟩ | ⟨rfl, rfl⟩ <;> exact fin _ (by simp [execOp, ho, hu, hry, eqGuard, binOp, he]) rfl
  · rename_i e a1 a2 a3 a4 a5 hd
    simp only [Rep] at hrx hry
    obtain ⟨a, cap, hu, _⟩ := hrx
    have he := eq0 (.slice (some a) a4 cap) (.slice none 0 0) (fun d => by simp [Op.equalIn, run_underlying hd])
    rcases eqOp_some hop with ⟨rfl, rfl⟩ | ⟨rfl, rfl⟩ <;> exact fin _ (by simp [execOp, ho, hu, hry, eqGuard, binOp, he]) rfl
  · rename_i e a1 a2 a3 hd
    simp only [Rep] at hrx hry
    obtain ⟨a, cap, us, hu, _⟩ := hrx
    have he := eq0 (.slice (some a) a1 cap) (.slice none 0 0) (fun d => by simp [Op.equalIn, run_underlying hd])
    rcases eqOp_some hop with ⟨rfl, rfl⟩ | ⟨rfl, rfl⟩ <;> exact fin _ (by simp [execOp, ho, hu, hry, eqGuard, binOp, he]) rfl
  · rename_i k e a1 hd
    simp only [Rep] at hrx hry
    obtain ⟨B, p, es, _, hu, _⟩ := hrx
    have he := eq0 (.map (some B)) (.map none) (fun d => by simp [Op.equalIn, run_underlying hd])
    rcases eqOp_some hop with ⟨rfl, rfl⟩ | ⟨rfl, rfl⟩ <;> exact fin _ (by simp [execOp, ho, hu, hry, eqGuard, binOp, he]) rfl
  · rename_i k1 k2 k3 fn a1 a2 hd
    have hu : ∃ f us vs, ρc x = .func f us vs := by
      cases fn <;> simp only [Rep] at hrx
      case yield => obtain ⟨us, vs, _, _, B, p, s, pd, ts, ps, as, bd, _, _, h⟩ := hrx; exact ⟨_, _, _, h⟩
      all_goals (obtain ⟨us, vs, _, _, h⟩ := hrx; exact ⟨_, _, _, h⟩)
    simp only [Rep] at hry
    obtain ⟨f, us, vs, hu⟩ := hu
    have he := eq0 (.func f us vs) .nilFunc (fun d => by simp [Op.equalIn, run_underlying hd])
    rcases eqOp_some hop with ⟨rfl, rfl⟩ | ⟨rfl, rfl⟩ <;> exact fin _ (by simp [execOp, ho, hu, hry, eqGuard, binOp, he]) rfl
  · cases hn
theorem binOp_ok {E : En} (hM : MI pol E) {ρ : Operand → Option AV} {ρc : Operand → Value} (hρ : Opn E ρ ρc) {o : Oper} {op : BinOp} {t yt : TypeId} {x y : Operand} (ho : o.op = .binOp op t x y yt) {en : Env} {r : Req} {v : AV} {m' : Mem} (h : plan P ρ o = some r) (hp : perform en r E.m = some (v, m')) :
    Done pol E ((execOp ρc o).run P E.w) v m' := by
  have gen : generic P ρ o = some r → Done pol E ((execOp ρc o).run P E.w) v m' := fun hg => by
    obtain ⟨v', rfl, hd⟩ := generic_done hM hρ hg
    cases hp; exact hd
  have h0 := h
  simp only [plan, ho] at h
  split at h
  · rename_i k a k' b hx hy
    split at h
    · rename_i v hv
      cases h; cases hp
      obtain ⟨h1, h2, h3⟩ := ibin_run (P := P) hv t x y E.w
      have hx' := rep_int (hρ x _ hx)
      have hy' := rep_int (hρ y _ hy)
      exact Done.same (u := v) hM (by simp [execOp, ho, hx', hy', h1, h2]) (by simp only [Rep]; exact ⟨trivial, h3⟩)
    · exact gen h
  · rename_i i ver off v2 hx hy
    have hrx := hρ x _ hx
    simp only [Rep] at hrx
    obtain ⟨a, ha, _⟩ := hrx
    exact ptrEq_ok hM hρ ho hx hy ha h hp
  · rename_i cs v2 hx hy
    have hrx := hρ x _ hx
    simp only [Rep] at hrx
    obtain ⟨a, us, ha, _⟩ := hrx
    exact ptrEq_ok hM hρ ho hx hy ha h hp
  · rename_i x' y' _ _ _ hx hy
    split at h
    · rename_i hn
      exact notNil_ok hM hρ ho hx hy hn h hp
    · exact gen h
  · exact gen h
theorem convert_ok {E : En} (hM : MI pol E) {ρ : Operand → Option AV} {ρc : Operand → Value} (hρ : Opn E ρ ρc) {o : Oper} {src dst : TypeId} {x : Operand} (ho : o.op = .convert src dst x) {en : Env} {r : Req} {v : AV} {m' : Mem} (h : plan P ρ o = some r) (hp : perform en r E.m = some (v, m')) :
    Done pol E ((execOp ρc o).run P E.w) v m' := by
  have hex : ∀ u w, (convert src dst (ρc x)).run P E.w = .ok u w → (execOp ρc o).run P E.w = .ok (.value u) w := fun u w hu => by simp [execOp, ho, hu]
  simp only [plan, ho] at h
  split at h
  · rename_i k n k1 k2 hx hs hd
    cases h; cases hp
    have hx' := rep_int (hρ x _ hx)
    exact Done.same (u := .int k2 (k2.wrap n)) hM (by simp [execOp, ho, hx', convert, run_underlying hs, run_underlying hd, Conv.intToInt]) (by simp [Rep, scalar])
  · rename_i s e hx hs hd
    split at h
    case h_2 => cases h
    rename_i he
    cases h; cases hp
    have hx' := hρ x _ hx
    simp only [Rep] at hx'
    have hrun := run_bytes_of_string (P := P) E.w src dst e s hs hd he
    have hM1 := drew_mi hM (E.w.drawn + 1)
    have hx1 := drew_ext (E := E) (E.w.drawn + 1)
    generalize hcap : grownCap E.w s.size 0 e = cap at hrun
    generalize hrow : bytesRow s cap = row at hrun
    have hge : s.size ≤ cap := by rw [← hcap]; unfold grownCap; simp only [Question.cut]; omega
    refine ⟨En.push { E with w := { E.w with drawn := E.w.drawn + 1 } } (.cells row e (row.size, row.size + 1)), .slice (some ⟨E.w.heap.size, 0, none⟩) s.size cap, .inl ?_, rfl, push_mi hM1 _, hx1.trans (push_ext hM1 _), ?_⟩
    · refine hex _ _ ?_
      rw [hx'.1, hrun]; rfl
    · simp only [Rep]
      refine ⟨_, cap, _, rfl, hge, Or.inl rfl, (fun h => by cases h), byteCells_leaf s, byteCells_rep s, fun i u hu => ⟨?_, ?_⟩⟩
      · have := not_live_new hM1; exact this
      · have := World.cell?_alloc_mark { E.w with drawn := E.w.drawn + 1 } row e (row.size, row.size + 1) i
        rw [Nat.zero_add]
        refine this.trans ?_
        rw [← hrow]; exact bytesRow_get s cap i u hu
  · rename_i e hx hs hd
    split at h
    case h_2 => cases h
    rename_i he
    cases h; cases hp
    have hx' := hρ x _ hx
    simp only [Rep] at hx'
    exact Done.same (u := .string .empty) hM (hex _ _ (by simp [hx', convert, run_underlying hs, run_underlying hd, run_underlying he, Conv.bytesToString])) (by simp [Rep, scalar])
  · rename_i n cs cl e hx hs hd
    split at h
    case h_2 => cases h
    rename_i l he hl
    split at h
    case isFalse => cases h
    rename_i hn
    cases h; cases hp
    have hx' := hρ x _ hx
    simp only [Rep] at hx'
    obtain ⟨a, cap, us, hu, hle, hsp, _, hf, hr, hh⟩ := hx'
    have hus := bytesOf_rep hr hl
    have hlen : l.length = n := by have := hr.length; rw [hus] at this; simp at this; omega
    refine Done.same (u := .string ⟨⟨l⟩⟩) hM (hex _ _ (bytes_run (E := E) hs he hd hu hlen fun j v hj => ?_)) (by simp [Rep, scalar])
    rw [← hus] at hj
    have h0 : cap ≠ 0 := by
      have := (List.getElem?_eq_some_iff.1 hj).1
      have := hr.length
      omega
    rw [addr_add' a (hsp.resolve_right h0)]
    exact (hh j v hj).2
  · rename_i id ver off n z e hx hs hd
    split at h
    case h_2 => cases h
    rename_i he
    split at h
    case isFalse => cases h
    rename_i hz
    subst hz
    cases h
    simp only [perform] at hp
    split at hp
    case h_2 => cases hp
    rename_i cs hcs
    split at hp
    case h_2 => cases hp
    rename_i l hl
    cases hp
    have hx' := hρ x _ hx
    simp only [Rep] at hx'
    obtain ⟨a, cap, hu, hle, ver', cs', hm, hve, hv⟩ := hx'
    unfold rd at hcs
    rw [lget_eq, hm] at hcs
    simp only at hcs
    split at hcs
    case isFalse => cases hcs
    rename_i hc
    obtain ⟨rfl, hlc⟩ := hc
    cases hcs
    obtain ⟨_, B, p, hB, hcap, hbs⟩ := hv rfl
    obtain ⟨c, t, fz, us, k1, k2, k3, k4, _⟩ := obj_cells hM hm hB
    have hus := bytesOf_rep ((k3.drop off).take n) hl
    have hlen : l.length = n := by
      have h1 := congrArg List.length hus
      have h2 := k3.length
      simp at h1; omega
    refine Done.same (u := .string ⟨⟨l⟩⟩) hM (hex _ _ (bytes_run (E := E) hs he hd hu hlen fun j v hj => ?_)) (by simp [Rep, scalar])
    rw [← hus] at hj
    simp only [List.getElem?_take, List.getElem?_drop] at hj
    split at hj
    case isFalse => cases hj
    rename_i hjn
    rcases hcap with ⟨h0, _⟩ | rfl
    · omega
    · rw [addr_add, cell_of k1]; have := k4 _ _ hj; rw [← this]; congr 1; omega
  · rename_i id ver off t hx hs hd
    split at h
    case h_2 => cases h
    rename_i n hsz
    cases h
    obtain ⟨k1, k2, B, p, c, t', fz, hu, hB, hh, hlt, _⟩ := chk_at hM hp (hρ x _ hx)
    subst k1 k2
    obtain ⟨j, hj, hjs⟩ : ∃ j, P.info? t = some j ∧ j.size ≠ 0 := by
      unfold szOf at hsz
      cases hq : P.info? t with
      | none => simp [hq] at hsz
      | some j => simp [hq] at hsz; exact ⟨j, rfl, by omega⟩
    refine Done.same hM (hex _ _ ?_) (hρ x _ hx)
    rw [hu]
    exact Go.Lib.run_to_unsafe E.w _ hs hd hj hjs (e := t') (cells := c.size) (by simp [World.shape?, hh]) (by simp only; omega)
  · rename_i id ver off u hx hs hd
    split at h
    case h_2 => cases h
    rename_i n hsz
    split at h
    case isFalse => cases h
    rename_i hc
    obtain ⟨htu, hver, rfl⟩ := hc
    cases h
    obtain ⟨k1, k2, B, p, c, t', fz, hu, hB, hh, hlt, htag, hty, hp0⟩ := chk_at hM hp (hρ x _ hx)
    subst k1 k2
    obtain rfl := hp0 hver
    obtain ⟨j, hj, hjs⟩ : ∃ j, P.info? u = some j ∧ j.size = n + 1 := by
      unfold szOf at hsz
      cases hq : P.info? u with
      | none => simp [hq] at hsz
      | some j => simp [hq] at hsz; exact ⟨j, rfl, hsz⟩
    have hut : t' = u := by
      have h1 := htag.resolve_left htu
      have h2 : tagT u = u + 1 := by
        unfold tagT at htu ⊢
        split
        · rfl
        · rename_i hq; rw [if_neg hq] at htu; exact absurd rfl htu
      rcases hty with h | h
      · rw [h1] at h; exact absurd h htu
      · rw [h1, h2] at h; exact (Nat.succ.inj h).symm
    subst hut
    have hcs : P.cellsOf t' = n + 1 := by simp [Program.cellsOf, hj, hjs]
    have hlies : liesAt P P.depth t' (c.size / P.cellsOf t') 0 t' 1 = true := by
      rw [hcs]
      exact liesAt_row hcs (by omega) _ 0 1 (by simp) (by rw [Nat.zero_div]; have := (Nat.le_div_iff_mul_le (k := n + 1) (x := 1) (y := c.size) (by omega)).2 (by omega); omega)
    refine Done.same hM (hex _ _ ?_) (hρ x _ hx)
    rw [hu]
    exact Go.Lib.run_from_unsafe E.w _ hs hd hj (e := t') (cells := c.size) (by simp [World.shape?, hh]) hlies
  · obtain ⟨v', rfl, hd⟩ := generic_done hM hρ h
    cases hp; exact hd

/-! Ranges over texts. -/
theorem range_ok {E : En} (hM : MI pol E) {ρ : Operand → Option AV} {ρc : Operand → Value} (hρ : Opn E ρ ρc) {o : Oper} {t : TypeId} {x : Operand} (ho : o.op = .range t x) {en : Env} {r : Req} {v : AV} {m' : Mem} (h : plan P ρ o = some r) (hp : perform en r E.m = some (v, m')) :
    Done pol E ((execOp ρc o).run P E.w) v m' := by
  simp only [plan, ho] at h
  split at h
  case h_2 => cases h
  rename_i s ht hx
  cases h
  simp only [perform, spine_eq, Option.some.injEq, Prod.mk.injEq] at hp
  obtain ⟨rfl, rfl⟩ := hp
  have hx' := hρ x _ hx
  simp only [Rep] at hx'
  obtain ⟨E', h1, h2, h3, h4, h5⟩ := new_ok hM (.stringIter s 0) (.iter s 0) (fun E' x hw => by
    simp only [ObR]
    rw [hw]; simp only [En.push, Array.getElem?_push_size])
  refine ⟨E', .pointer (some ⟨E.w.heap.size, 0, none⟩), .inl ?_, h2, h4, h5, ?_⟩
  · rw [h1]; simp [execOp, ho, hx'.1, Instr.range, run_underlying ht, En.push]
  · simp only [Rep]
    exact ⟨E.w.heap.size, 0, s, 0, by rw [h3, ← hM.len]; simp, rfl, by rw [h2]; simp⟩
theorem next_ok {E : En} (hM : MI pol E) {ρ : Operand → Option AV} {ρc : Operand → Value} (hρ : Opn E ρ ρc) {o : Oper} {x : Operand} {b : Bool} (ho : o.op = .next x b) {en : Env} {r : Req} {v : AV} {m' : Mem} (h : plan P ρ o = some r) (hp : perform en r E.m = some (v, m')) :
    Done pol E ((execOp ρc o).run P E.w) v m' := by
  simp only [plan, ho] at h
  split at h
  case h_2 => cases h
  rename_i id hx
  cases h
  have hx' := hρ x _ hx
  simp only [Rep] at hx'
  obtain ⟨B, p, s, k, hB, hu, hm'⟩ := hx'
  simp only [perform, lget_eq] at hp
  split at hp
  case h_2 => cases hp
  rename_i s' k' hm
  rw [hm] at hm'; obtain ⟨rfl, rfl⟩ : s' = s ∧ k' = k := by simpa using hm'
  obtain ⟨B', p', hB', hob⟩ := hM.ob id _ hm
  rw [hB] at hB'; cases hB'
  simp only [ObR] at hob
  split at hp
  case isFalse => cases hp
  have hlt : B < E.w.heap.size := (Array.getElem?_eq_some_iff.1 hob).1
  split at hp
  · rename_i hk
    have hfn : ∀ {β : Type} (n : Nat) (k : Nat → β), fNat n k = k n := fun n k => by cases n <;> rfl
    rw [hfn, lsetK_eq] at hp
    cases hp
    obtain ⟨E', e1, e2, _, e4, e5⟩ := upd_ok hM (o' := .iter s' (k' + (Utf8.decode s' k').2)) (B' := B) (p' := p) (w' := { E.w with heap := E.w.heap.setIfInBounds B (.stringIter s' (k' + (Utf8.decode s' k').2)) }) hm hB rfl rfl rfl (by simp)
      (fun b _ hb => by simp [Ne.symm hb]) (.inl rfl) trivial (fun _ => ⟨rfl, rfl, by
        simp only [En.bs, hob]; simp [hlt]⟩) (fun E' x hw => by
        simp only [ObR]
        rw [hw]; simp [hlt])
    refine ⟨E', .tuple #[.bool true, goInt k', .int .i32 (Utf8.decode s' k').1], .inl ?_, e2, e4, e5, ?_⟩
    · rw [e1]; simp [execOp, ho, hu, Instr.next, getObj, setObj, Sem.run, hob, hk]
    · simp only [Rep]
      exact ⟨[.bool true, goInt k', .int .i32 (Utf8.decode s' k').1], rfl, RepL.cons (by simp [Rep, scalar]) (RepL.cons (by simp [Rep, scalar, goInt]) (RepL.cons (by simp [Rep, scalar]) RepL.nil))⟩
  · rename_i hk
    cases hp
    refine Done.same (u := .tuple #[.bool false]) hM ?_ ?_
    · simp [execOp, ho, hu, Instr.next, getObj, Sem.run, hob, hk]
    · simp only [Rep]
      exact ⟨[.bool false], rfl, RepL.cons (by simp [Rep, scalar]) RepL.nil⟩
end Go.Proofs.YtcmjidnbbfcbjaaGreatDoor.V
/- What an operation asks of the VM's store is what it does to the model's memory: maps; no condition. -/
namespace Go.Proofs.YtcmjidnbbfcbjaaGreatDoor.V
open Go
set_option linter.unusedVariables false
set_option linter.unusedSimpArgs false
variable {P : Program} {pol : Pol}

theorem run_getObj_map {w : World} {r : Nat} {ents : Array MapEntry} {clock : Nat} (h : w.heap[r]? = some (.map ents clock)) : (getObj r).run P w = .ok (.map ents clock) w := by
  simp [getObj, Sem.run, h]
theorem run_setObj_map {w : World} {r : Nat} {ents : Array MapEntry} {clock : Nat} (o : Obj) (h : w.heap[r]? = some (.map ents clock)) : (setObj r o).run P w = .ok () { w with heap := w.heap.setIfInBounds r o } := by
  simp [setObj, Sem.run, h]
theorem checkKey_run {kt : TypeId} {kd : TypeDesc} {k : Value} (hk : P.underlying kt = some kd) (h : isKeyT kd k = true) (e : Bool) (w : World) : (Instr.checkKey e 10000 kt k).run P w = .ok () w := by
  unfold Instr.checkKey
  simp only [Sem.run_bind, run_underlying hk, Result.andThen_ok]
  cases kd <;> cases k <;> simp [isKeyT] at h <;> rfl
theorem findV_run {E : En} {kd : TypeDesc} {k : Value} (hk : isKeyT kd k = true) : ∀ {es : List (Value × AV)} {ents : List MapEntry} (i : Nat) {r : Option (Nat × AV)}, MapR E es ents → findV kd k es i = some r →
    ∃ r', Instr.findNow kd k ents i = some r' ∧ (match r, r' with | none, none => True | some (j, v), some (j', u) => j = j' ∧ Rep E v u ∧ i ≤ j ∧ ∃ x, ents[j - i]? = some x ∧ isKeyT kd x.key = true ∧ findV.sameK k x.key = true | _, _ => False)
  | [], ents, i, r, hm, h => by
    cases ents with
    | nil => simp only [findV, Option.some.injEq] at h; subst h; exact ⟨none, rfl, trivial⟩
    | cons x ents => have := hm.1; simp at this
  | (k', v) :: es, ents, i, r, hm, h => by
    cases ents with
    | nil => have := hm.1; simp at this
    | cons x ents =>
      obtain ⟨h1, h2, h3⟩ := hm.2 0 _ _ rfl rfl
      simp only at h1 h2 h3
      simp only [findV] at h
      split at h
      case isFalse => cases h
      rename_i hk'
      have hs := sameK_now hk hk'
      rw [← h1] at hs hk'
      split at h
      · rename_i hsame
        cases h
        rw [← h1] at hsame
        exact ⟨some (i, x.val), by simp only [Instr.findNow, hs, hsame], rfl, h3, Nat.le_refl _, x, by simp, hk', hsame⟩
      · rename_i hsame
        rw [← h1] at hsame
        have hm' : MapR E es ents := ⟨by have := hm.1; simpa using this, fun j e y he hy => hm.2 (j + 1) e y (by simpa using he) (by simpa using hy)⟩
        obtain ⟨r', e1, e2⟩ := findV_run hk (i + 1) hm' h
        refine ⟨r', by simp only [Instr.findNow, hs, hsame]; exact e1, ?_⟩
        cases r with
        | none => cases r' with
          | none => trivial
          | some _ => exact e2.elim
        | some a =>
          obtain ⟨j, v⟩ := a
          cases r' with
          | none => exact e2
          | some b =>
            obtain ⟨j', u⟩ := b
            obtain ⟨a1, a2, a3, y, a4, a5, a6⟩ := e2
            refine ⟨a1, a2, by omega, y, ?_, a5, a6⟩
            have : j - i = (j - (i + 1)) + 1 := by omega
            rw [this]; simpa using a4
theorem findKey_run {E : En} {kt : TypeId} {kd : TypeDesc} {k : Value} (hu : P.underlying kt = some kd) {es : List MapEntry} {r : Option (Nat × Value)} (h : Instr.findNow kd k es 0 = some r) (w : World) : (Instr.findKey kt k es).run P w = .ok r w := by
  unfold Instr.findKey
  simp only [Sem.run_bind, run_underlying hu, Result.andThen_ok, h, Sem.run_pure]

theorem lookup_ok {E : En} (hM : MI pol E) {ρ : Operand → Option AV} {ρc : Operand → Value} (hρ : Opn E ρ ρc) {o : Oper} {t : TypeId} {x k : Operand} {ok : Bool} (ho : o.op = .lookup t x k ok) {en : Env} {r : Req} {v : AV} {m' : Mem} (h : plan P ρ o = some r) (hp : perform en r E.m = some (v, m')) :
    Done pol E ((execOp ρc o).run P E.w) v m' := by
  simp only [plan, ho] at h
  split at h
  case h_2 => cases h
  rename_i kt e mv kv ht hx hk
  split at h
  case h_2 => cases h
  rename_i kd z hkd hz
  split at h
  case isFalse => cases h
  rename_i hkey
  obtain ⟨z', hz1, hz2, _⟩ := zeroOf_run hz
  have hkv : ρc k = kv := by
    cases hk' : ρ k with
    | none => simp [hk'] at hk
    | some a => simp [hk'] at hk; exact toV_eq a _ _ (hρ k a hk') hk
  have hr := hρ x _ hx
  have key : ∀ (y : Value × Bool) (c : AV), (execOp ρc o).run P E.w = .ok (.value (if ok then .tuple #[y.1, .bool y.2] else y.1)) E.w → Rep E c y.1 → v = (if ok then .tup [c, .sc (.bool y.2)] else c) → m' = E.m → Done pol E ((execOp ρc o).run P E.w) v m' := by
    intro y c h1 h2 h3 h4
    subst h3 h4
    refine Done.same hM h1 ?_
    cases ok with
    | false => exact h2
    | true => simp only [if_true, Rep]; exact ⟨[y.1, .bool y.2], rfl, RepL.cons h2 (RepL.cons (by simp [Rep, scalar]) RepL.nil)⟩
  split at h
  · cases h
    simp only [Rep] at hr
    simp only [perform, Option.some.injEq, Prod.mk.injEq] at hp
    obtain ⟨rfl, rfl⟩ := hp
    refine key (z', false) z ?_ (hz2 E) rfl rfl
    have hfk : (Instr.findKey kt kv []).run P E.w = .ok none E.w := findKey_run (E := E) hkd rfl E.w
    simp only [execOp, ho, hr, hkv]
    unfold Instr.lookup
    simp [run_underlying ht, checkKey_run hkd hkey, hfk, hz1]
  · rename_i id
    cases h
    simp only [perform, lget_eq] at hp
    split at hp
    case h_2 => cases hp
    rename_i es hm
    simp only [Rep] at hr
    obtain ⟨B, p, es', hB, hv, hm'⟩ := hr
    rw [hm] at hm'; cases hm'
    obtain ⟨B', p', hB', hob⟩ := hM.ob id _ hm
    rw [hB] at hB'; cases hB'
    simp only [ObR] at hob
    obtain ⟨ents, clock, hheap, hmr⟩ := hob
    have hgo := run_getObj_map (P := P) hheap
    split at hp
    · rename_i j c hfv
      cases hp
      obtain ⟨r', f1, f2⟩ := findV_run hkey 0 hmr hfv
      cases r' with
      | none => exact f2.elim
      | some b =>
        obtain ⟨j', u⟩ := b
        obtain ⟨_, f3, _⟩ := f2
        refine key (u, true) c ?_ f3 rfl rfl
        have hfk := findKey_run (E := E) (P := P) hkd f1 E.w
        simp only [execOp, ho, hv, hkv]
        unfold Instr.lookup
        simp [run_underlying ht, hgo, checkKey_run hkd hkey, hfk]
    · rename_i hfv
      cases hp
      obtain ⟨r', f1, f2⟩ := findV_run hkey 0 hmr hfv
      cases r' with
      | some b => exact f2.elim
      | none =>
        refine key (z', false) z ?_ (hz2 E) rfl rfl
        have hfk := findKey_run (E := E) (P := P) hkd f1 E.w
        simp only [execOp, ho, hv, hkv]
        unfold Instr.lookup
        simp [run_underlying ht, hgo, checkKey_run hkd hkey, hfk, hz1]
    · cases hp
  · cases h
theorem MapR.set {E : En} {es : List (Value × AV)} {ents : List MapEntry} (h : MapR E es ents) {j : Nat} {k : Value} {v : AV} {u : Value} (hk : scalar k = true) (hv : Rep E v u) (f : MapEntry → MapEntry) (hf : ∀ x, (f x).key = k ∧ (f x).val = u) :
    MapR E (es.set j (k, v)) (ents.modify j f) := by
  refine ⟨by simp [h.1], fun i e x he hx => ?_⟩
  rw [List.getElem?_modify] at hx
  rw [List.getElem?_set] at he
  by_cases hj : j = i
  · subst hj
    rw [if_pos rfl] at he
    split at he
    · cases he
      cases hq : ents[j]? with
      | none => simp [hq] at hx
      | some y => simp [hq] at hx; subst hx; exact ⟨(hf y).1, hk, by rw [(hf y).2]; exact hv⟩
    · cases he
  · rw [if_neg hj] at he
    cases hq : ents[i]? with
    | none => simp [hq] at hx
    | some y => simp [hq, hj] at hx; subst hx; exact h.2 i e y he hq
theorem MapR.push {E : En} {es : List (Value × AV)} {ents : List MapEntry} (h : MapR E es ents) {k : Value} {v : AV} {u : Value} (hk : scalar k = true) (hv : Rep E v u) (b : Nat) :
    MapR E (es ++ [(k, v)]) (ents ++ [{ key := k, val := u, born := b }]) := by
  refine ⟨by simp [h.1], fun i e x he hx => ?_⟩
  rw [List.getElem?_append] at he hx
  split at he
  · rw [if_pos (by have := h.1; omega)] at hx; exact h.2 i e x he hx
  · rw [if_neg (by have := h.1; omega)] at hx
    rw [h.1] at he
    cases hq : i - ents.length with
    | zero => rw [hq] at he hx; simp at he hx; subst he hx; exact ⟨rfl, hk, hv⟩
    | succ n => rw [hq] at he; simp at he
theorem isKeyT_scalar {kd : TypeDesc} {k : Value} (h : isKeyT kd k = true) : scalar k = true := by
  cases kd <;> cases k <;> simp [isKeyT] at h <;> rfl
/-- A map written anew. -/
theorem map_upd {E : En} (hM : MI pol E) {id : Nat} {es es' : List (Value × AV)} {B p : Nat} {ents ents' : Array MapEntry} {clock clock' : Nat} (hm : E.m[id]? = some (.map es)) (hB : E.β[id]? = some (B, p)) (hh : E.w.heap[B]? = some (.map ents clock)) (hr : MapR E es' ents'.toList) :
    ∃ E', E'.w = { E.w with heap := E.w.heap.setIfInBounds B (.map ents' clock') } ∧ E'.m = E.m.set id (.map es') ∧ MI pol E' ∧ Ext E E' := by
  have hlt : B < E.w.heap.size := (Array.getElem?_eq_some_iff.1 hh).1
  obtain ⟨E', e1, e2, _, e4, e5⟩ := upd_ok hM (o' := .map es') (B' := B) (p' := p) (w' := { E.w with heap := E.w.heap.setIfInBounds B (.map ents' clock') }) hm hB rfl rfl rfl (by simp)
    (fun b _ hb => by simp [Ne.symm hb]) (.inl rfl) trivial (fun _ => ⟨rfl, rfl, by
      simp only [En.bs, hh]; simp [hlt]⟩) (fun E' x hw => by
      simp only [ObR]
      exact ⟨ents', clock', by rw [hw]; simp [hlt], hr.mono x⟩)
  exact ⟨E', e1, e2, e4, e5⟩
theorem ba_eq {a b : ByteArray} (h : (a == b) = true) : a = b := by
  obtain ⟨x⟩ := a
  obtain ⟨y⟩ := b
  have e : x = y := by simpa using (show (x == y) = true from h)
  rw [e]
theorem sameBits_of {kd : TypeDesc} {k k' : Value} (h : isKeyT kd k = true) (h' : isKeyT kd k' = true) (hs : findV.sameK k k' = true) (n : Nat) : Instr.sameBits n k' k = true := by
  cases kd <;> cases k <;> simp [isKeyT] at h <;> cases k' <;> simp [isKeyT] at h' <;> simp only [findV.sameK] at hs <;> (have hs' := (by first | exact eq_of_beq hs | exact ba_eq hs : _ = _); subst hs') <;> first
    | (subst h h'; unfold Instr.sameBits; simp)
    | (unfold Instr.sameBits; simp; done)
    | (unfold Instr.sameBits; exact hs)
theorem mapset_ok {E : En} (hM : MI pol E) {ρ : Operand → Option AV} {ρc : Operand → Value} (hρ : Opn E ρ ρc) {o : Oper} {t : TypeId} {x k e : Operand} (ho : o.op = .mapUpdate t x k e ∨ o.op = .insert t x k e) {en : Env} {r : Req} {v : AV} {m' : Mem} (h : plan P ρ o = some r) (hp : perform en r E.m = some (v, m')) :
    Done pol E ((execOp ρc o).run P E.w) v m' := by
  have hex : (execOp ρc o).run P E.w = ((Instr.mapUpdate t (ρc x) (ρc k) (ρc e)).run P E.w).andThen fun _ w => .ok .skip w := by rcases ho with ho | ho <;> simp [execOp, ho]
  have h' : planSet P ρ t x k e = some r := by rcases ho with ho | ho <;> simpa only [plan, ho] using h
  unfold planSet at h'
  split at h'
  case h_2 => cases h'
  rename_i kt e' id kv ev ht hx hk he
  split at h'
  case h_2 => cases h'
  rename_i kd hkd
  split at h'
  case isFalse => cases h'
  rename_i hkey
  cases h'
  have hkv : ρc k = kv := by
    cases hk' : ρ k with
    | none => simp [hk'] at hk
    | some a => simp [hk'] at hk; exact toV_eq a _ _ (hρ k a hk') hk
  have hev := hρ e _ he
  have hr := hρ x _ hx
  simp only [Rep] at hr
  obtain ⟨B, p, es', hB, hv, hm'⟩ := hr
  simp only [perform, lget_eq] at hp
  split at hp
  case h_2 => cases hp
  rename_i es hm
  rw [hm] at hm'; cases hm'
  split at hp
  case isFalse => cases hp
  obtain ⟨B', p', hB', hob⟩ := hM.ob id _ hm
  rw [hB] at hB'; cases hB'
  simp only [ObR] at hob
  obtain ⟨ents, clock, hheap, hmr⟩ := hob
  have hgo := run_getObj_map (P := P) hheap
  have fin : ∀ (ents' : Array MapEntry) (clock' : Nat) (es' : List (Value × AV)), MapR E es' ents'.toList → (Instr.mapUpdate t (ρc x) (ρc k) (ρc e)).run P E.w = .ok () { E.w with heap := E.w.heap.setIfInBounds B (.map ents' clock') } → v = und → m' = E.m.set id (.map es') → Done pol E ((execOp ρc o).run P E.w) v m' := by
    intro ents' clock' es' h1 h2 h3 h4
    subst h3 h4
    obtain ⟨E', e1, e2, e3, e4⟩ := map_upd (clock' := clock') hM hm hB hheap h1
    exact ⟨E', undef, .inr ⟨by rw [hex, h2]; simp [e1], rfl⟩, e2, e3, e4, by simp only [Rep]; exact ⟨[], rfl, RepL.nil⟩⟩
  split at hp
  · rename_i j c hfv
    rw [spine_eq, lsetK_eq] at hp
    cases hp
    obtain ⟨r', f1, f2⟩ := findV_run hkey 0 hmr hfv
    cases r' with
    | none => exact f2.elim
    | some b =>
      obtain ⟨j', u⟩ := b
      obtain ⟨rfl, f3, _, y, f4, f5, f6⟩ := f2
      have hfk := findKey_run (E := E) (P := P) hkd f1 E.w
      rw [Nat.sub_zero] at f4
      have hks : ((ents[j]?).map (·.key)).getD kv = y.key := by
        have : ents[j]? = some y := by simpa using f4
        simp [this]
      refine fin (ents.modify j fun y => { y with key := kv, val := ρc e }) clock (es'.set j (kv, ev)) ?_ ?_ rfl rfl
      · rw [Array.toList_modify]
        exact hmr.set (isKeyT_scalar hkey) hev _ fun _ => ⟨rfl, rfl⟩
      · have hkts : (Instr.keyThatStays (((ents[j]?).map (·.key)).getD kv) kv).run P E.w = .ok kv E.w := by
          rw [hks]; unfold Instr.keyThatStays; rw [if_pos (sameBits_of hkey f5 f6 _)]; rfl
        unfold Instr.mapUpdate
        simp only [Sem.run_bind, run_underlying ht, Result.andThen_ok, hv, hkv, hgo, checkKey_run hkd hkey, hfk]
        rw [hkts]
        simp only [Result.andThen_ok, run_setObj_map _ hheap]
  · rename_i hfv
    rw [spine_eq, lsetK_eq] at hp
    cases hp
    obtain ⟨r', f1, f2⟩ := findV_run hkey 0 hmr hfv
    cases r' with
    | some b => exact f2.elim
    | none =>
      have hfk := findKey_run (E := E) (P := P) hkd f1 E.w
      refine fin (ents.push { key := kv, val := ρc e, born := clock }) (clock + 1) (es' ++ [(kv, ev)]) ?_ ?_ rfl rfl
      · rw [Array.toList_push]; exact hmr.push (isKeyT_scalar hkey) hev clock
      · unfold Instr.mapUpdate
        simp [run_underlying ht, hv, hkv, hgo, checkKey_run hkd hkey, hfk, run_setObj_map _ hheap]
  · cases hp
end Go.Proofs.YtcmjidnbbfcbjaaGreatDoor.V
