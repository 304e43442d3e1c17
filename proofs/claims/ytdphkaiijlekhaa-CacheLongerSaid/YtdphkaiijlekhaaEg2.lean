/-
  The engine, part 2: the table of types; operations that change nothing that is known (`pev`); contracts of pure functions (`FnOk`).
-/
import Derived.Test.YtdphkaiijlekhaaEg1
namespace Go.Eng
open Go Go.RowKit

inductive TD where
  | other | bool | str
  | int (k : IntKind)
  | slice (e : TypeId)
  | array (len : Nat) (e : TypeId)
  | struct (fs : List (Nat × TypeId))
  | ptr (e : TypeId)
  | map (k e : TypeId)

structure TI where
  size : Nat
  bytes : Nat
  agg : Bool
  zero : List SV
  desc : TD
  eqk : List EK := []

mutual
def closed : SV → Bool
  | .d _ => true
  | .dptr _ _ => true
  | .v _ => true
  | .any => true
  | .agg l => closedL l
  | .tup l => closedL l
  | .fn _ l => closedL l
  | _ => false
def closedL : List SV → Bool
  | [] => true
  | a :: l => closed a && closedL l
end

mutual
/-- Numbers, bools and texts alone. -/
def scalar : SV → Bool
  | .d (.sl _ _ _ _) => false
  | .d _ => true
  | .agg l => scalarL l
  | .tup l => scalarL l
  | _ => false
def scalarL : List SV → Bool
  | [] => true
  | a :: l => scalar a && scalarL l
end

def eqCell : EK → Value → Value → Bool
  | .int _, .int _ x, .int _ y => x == y
  | .bool, .bool x, .bool y => x == y
  | .str, .string x, .string y => x.toList == y.toList
  | _, _, _ => false
def eqCells : List EK → List Value → List Value → Bool
  | [], _, _ => true
  | k :: ks, x :: xs, y :: ys => eqCell k x y && eqCells ks xs ys
  | _, _, _ => false

def TDok (P : Program) (d : TypeDesc) : TD → Prop
  | .other => True
  | .bool => d = .bool
  | .str => d = .string
  | .int k => d = .int k
  | .slice e => d = .slice e
  | .array n e => d = .array n e
  | .ptr e => d = .pointer e
  | .map k e => d = .map k e
  | .struct fs => ∃ fields : Array Field, d = .struct fields ∧ fields.size = fs.length ∧ ∀ (j : Nat) (off : Nat) (ft : TypeId), fs[j]? = some (off, ft) → ∃ (f : Field) (fi : TypeInfo), fields[j]? = some f ∧ f.offset = off ∧ f.type = ft ∧ P.info? ft = some fi ∧ fi.size ≠ 0

def aggDesc : TypeDesc → Bool
  | .struct _ => true
  | .array _ _ => true
  | _ => false

structure TIok (P : Program) (t : TypeId) (ti : TI) : Prop where
  all : ∃ (info : TypeInfo) (d : TypeDesc) (z : Value), P.info? t = some info ∧ P.underlying t = some d ∧ info.size = ti.size ∧ info.bytes = ti.bytes ∧ info.zero = some z ∧ aggDesc d = ti.agg ∧
    z.cells.size = ti.zero.length ∧ ti.zero.length = ti.size ∧ (∀ (w : World) (M : Nat → Prop) (β : Env) (j : Nat) (s : SV) (u : Value), ti.zero[j]? = some s → z.cells[j]? = some u → Den w M β s u) ∧ (∀ (j : Nat) (u : Value), z.cells[j]? = some u → u.oneCell' = true) ∧ TDok P d ti.desc
  eqk : ti.eqk ≠ [] → ∀ (w : World) (xs ys : List Value), xs.length = ti.eqk.length → ys.length = ti.eqk.length → (∀ (j : Nat) (k : EK) (x : Value), ti.eqk[j]? = some k → xs[j]? = some x → fits k x) → (∀ (j : Nat) (k : EK) (y : Value), ti.eqk[j]? = some k → ys[j]? = some y → fits k y) →
    (Op.equal t (.agg xs.toArray) (.agg ys.toArray)).run P w = .ok (eqCells ti.eqk xs ys) w ∧ P.eqGuardType P.depth t = false
  zag : ∀ (info : TypeInfo) (z : Value), P.info? t = some info → info.zero = some z → z = mkVal ti.agg z.cells.toList
  key : ti.eqk ≠ [] → ti.agg = true ∧ ∀ (w : World) (b : Bool) (xs : List Value), xs.length = ti.eqk.length → Fits ti.eqk xs → (Instr.checkKey b 10000 t (.agg xs.toArray)).run P w = .ok () w

def TTok (P : Program) (TT : Nat → Option TI) : Prop := ∀ t ti, TT t = some ti → TIok P t ti

/-- The contract of a function that changes nothing that was there: at these arguments it returns this result. -/
def FnOk (P : Program) (f : FuncId) (args : List SV) (res : SV) : Prop :=
  (∀ (args : Array Value) (w : World), (callFunc f args).run P w = .ok (.enter f args) w) ∧ ∀ (M : Nat → Prop) (w : World) (vs : List Value), (∀ b, M b → b < w.heap.size) → args.length = vs.length →
    (∀ (j : Nat) (s : SV) (u : Value), args[j]? = some s → vs[j]? = some u → Den w M noE s u) →
    Calls P f vs.toArray w fun e w' => ∃ r, e = .returned r ∧ Step (fun _ => False) w w' ∧ Den w' M noE res r

/-- The contract of a function over known blocks: it returns one of the results R, and leaves the blocks that go with it. -/
def COk (P : Program) (f : FuncId) (args : List SV) (ks : List KB) (R : SV → List KB → Prop) : Prop :=
  (∀ (args : Array Value) (w : World), (callFunc f args).run P w = .ok (.enter f args) w) ∧ ∀ (X : Nat → Prop) (w : World) (β : Env) (fp : Nat → Nat → Prop) (vs : List Value), Mem X w β fp ks → args.length = vs.length →
    (∀ (j : Nat) (s : SV) (u : Value), args[j]? = some s → vs[j]? = some u → Den w (Mx X fp) β s u) →
    Calls P f vs.toArray w fun e w' => ∃ r s ks' β' fp', e = .returned r ∧ R s ks' ∧ Went X w β fp w' β' fp' ks' ∧ Den w' (Mx X fp') β' s r

def getT : List SV → Nat → SV
  | [], _ => .any
  | a :: _, 0 => a
  | _ :: l, n + 1 => getT l n
def setT : List SV → Nat → SV → List SV
  | [], _, _ => []
  | _ :: l, 0, v => v :: l
  | a :: l, n + 1, v => a :: setT l n v
def setK : List SV → Nat → SV → (List SV → Prop) → Prop
  | [], _, _, k => k []
  | _ :: l, 0, v, k => k (v :: l)
  | a :: l, n + 1, v, k => setK l n v (fun l' => k (a :: l'))
def getB : List KB → Nat → KB
  | [], _ => .gone
  | a :: _, 0 => a
  | _ :: l, n + 1 => getB l n
def setB : List KB → Nat → KB → List KB
  | [], _, _ => []
  | _ :: l, 0, v => v :: l
  | a :: l, n + 1, v => a :: setB l n v

theorem setK_eq (l : List SV) (n : Nat) (v : SV) (k : List SV → Prop) : setK l n v k = k (setT l n v) := by
  induction l generalizing n k with
  | nil => rfl
  | cons a l ih => cases n with
    | zero => rfl
    | succ n => simp only [setK, setT, ih]
theorem getT_eq (l : List SV) (n : Nat) : getT l n = (l[n]?).getD .any := by
  induction l generalizing n with
  | nil => rfl
  | cons a l ih => cases n with
    | zero => rfl
    | succ n => simp [getT, ih]
theorem setT_eq (l : List SV) (n : Nat) (v : SV) : setT l n v = l.set n v := by
  induction l generalizing n with
  | nil => rfl
  | cons a l ih => cases n with
    | zero => rfl
    | succ n => simp [setT, ih]
theorem getB_eq (l : List KB) (n : Nat) : getB l n = (l[n]?).getD .gone := by
  induction l generalizing n with
  | nil => rfl
  | cons a l ih => cases n with
    | zero => rfl
    | succ n => simp [getB, ih]
theorem setB_eq (l : List KB) (n : Nat) (v : KB) : setB l n v = l.set n v := by
  induction l generalizing n with
  | nil => rfl
  | cons a l ih => cases n with
    | zero => rfl
    | succ n => simp [setB, ih]

def nilS : SV := .d (.sl true 0 0 (fun _ => []))

/-! ### Functions that hand their result on, so that it is reckoned first -/

def ofConst : Value → SV
  | .int k n => .d (.int k n)
  | .bool true => .d .tt
  | .bool false => .d .ff
  | .string s => .d (.str s.data.toList)
  | .slice none 0 0 => nilS
  | v => .v v

def ofConstK (v : Value) (k : SV → Prop) : Prop :=
  match v with
  | .int j n => k (.d (.int j n))
  | .bool true => k (.d .tt)
  | .bool false => k (.d .ff)
  | .string s => k (.d (.str s.data.toList))
  | .slice none 0 0 => k nilS
  | v => k (.v v)

def getTK : List SV → Nat → (SV → Prop) → Prop
  | [], _, k => k .any
  | a :: _, 0, k => k a
  | _ :: l, n + 1, k => getTK l n k
def getBK : List KB → Nat → (KB → Prop) → Prop
  | [], _, k => k .gone
  | a :: _, 0, k => k a
  | _ :: l, n + 1, k => getBK l n k

def val (l : List SV) : Operand → SV
  | .tmp t => getT l t
  | .const v => ofConst v
  | .func f => .fn f []
  | .global _ => .any
def valK (l : List SV) (x : Operand) (k : SV → Prop) : Prop :=
  match x with
  | .tmp t => getTK l t k
  | .const v => ofConstK v k
  | .func f => k (.fn f [])
  | .global _ => k .any
def vals (l : List SV) : List Operand → List SV
  | [] => []
  | x :: r => val l x :: vals l r
def valsK (l : List SV) : List Operand → (List SV → Prop) → Prop
  | [], k => k []
  | x :: r, k => valK l x (fun v => valsK l r (fun vs => k (v :: vs)))
def appK : List SV → List SV → (List SV → Prop) → Prop
  | [], m, k => k m
  | a :: l, m, k => appK l m (fun r => k (a :: r))

def takeT : List SV → Nat → List SV
  | _, 0 => []
  | [], _ + 1 => []
  | a :: l, n + 1 => a :: takeT l n
def takeK : List SV → Nat → (List SV → Prop) → Prop
  | _, 0, k => k []
  | [], _ + 1, k => k []
  | a :: l, n + 1, k => takeK l n (fun r => k (a :: r))
def dropT : List SV → Nat → List SV
  | l, 0 => l
  | [], _ + 1 => []
  | _ :: l, n + 1 => dropT l n
def dropK : List SV → Nat → (List SV → Prop) → Prop
  | l, 0, k => k l
  | [], _ + 1, k => k []
  | _ :: l, n + 1, k => dropK l n k
def mapD : List DV → List SV
  | [] => []
  | a :: l => .d a :: mapD l
def mapDK : List DV → (List SV → Prop) → Prop
  | [], k => k []
  | a :: l, k => mapDK l (fun r => k (.d a :: r))
def lenL : List SV → Nat
  | [] => 0
  | _ :: l => lenL l + 1

/-- The cells from off on, as many as the type has, as a value of that type. -/
def pack (agg : Bool) (size : Nat) (l : List SV) (off : Nat) : SV :=
  match agg with
  | true => .agg (takeT (dropT l off) size)
  | false => getT l off
def packK (agg : Bool) (size : Nat) (l : List SV) (off : Nat) (k : SV → Prop) : Prop :=
  match Nat.ble (off + size) (lenL l) with
  | true => match agg with
    | true => dropK l off (fun m => takeK m size (fun r => k (.agg r)))
    | false => match size with
      | 1 => getTK l off k
      | _ => False
  | false => False

def byteAt (s : List UInt8) (i : Int) : Int := ((s[i.toNat]?).getD 0).toNat

def kEq : IntKind → IntKind → Bool
  | .i8, .i8 => true
  | .i16, .i16 => true
  | .i32, .i32 => true
  | .i64, .i64 => true
  | .u8, .u8 => true
  | .u16, .u16 => true
  | .u32, .u32 => true
  | .u64, .u64 => true
  | _, _ => false
theorem kEq_eq {a b : IntKind} (h : kEq a b = true) : a = b := by cases a <;> cases b <;> first | rfl | (simp [kEq] at h)

def boolK (x : DV) (k : Bool → Prop) (no : Prop) : Prop :=
  match x with
  | .bool b => k b
  | .tt => k true
  | .ff => k false
  | _ => no

def bin (td : TD) (op : BinOp) (x y : DV) (K : SV → Prop) : Prop :=
  match x, y with
  | .int k a, .int k' b =>
    match op with
    | .shl => 0 ≤ b ∧ K (.d (.int k (k.wrap (a * 2 ^ (min b.toNat k.bits)))))
    | .shr => 0 ≤ b ∧ K (.d (.int k (a.fdiv (2 ^ (min b.toNat k.bits)))))
    | op => match kEq k k' with
      | false => False
      | true => match op with
        | .add => K (.d (.int k (k.wrap (a + b))))
        | .sub => K (.d (.int k (k.wrap (a - b))))
        | .mul => K (.d (.int k (k.wrap (a * b))))
        | .quo => b ≠ 0 ∧ K (.d (.int k (k.wrap (a.tdiv b))))
        | .rem => b ≠ 0 ∧ K (.d (.int k (a.tmod b)))
        | .and => K (.d (.int k (bits .and k a b)))
        | .or => K (.d (.int k (bits .or k a b)))
        | .xor => K (.d (.int k (bits .xor k a b)))
        | .andNot => K (.d (.int k (bits .andNot k a b)))
        | .eql => K (.d (.bool (a == b)))
        | .neq => K (.d (.bool (a != b)))
        | .lss => K (.d (.bool (decide (a < b))))
        | .leq => K (.d (.bool (decide (a ≤ b))))
        | .gtr => K (.d (.bool (decide (a > b))))
        | .geq => K (.d (.bool (decide (a ≥ b))))
        | _ => False
  | .str a, .str b =>
    match op with
    | .add => a.length + b.length ≤ 9223372036854775807 ∧ K (.d (.str (a ++ b)))
    | .eql => K (.d (.bool (a == b)))
    | .neq => K (.d (.bool (!(a == b))))
    | .lss => K (.d (.bool (Op.bytesLess a b)))
    | .leq => K (.d (.bool (Op.bytesLess a b || a == b)))
    | .gtr => K (.d (.bool (!(Op.bytesLess a b || a == b))))
    | .geq => K (.d (.bool (!(Op.bytesLess a b))))
    | _ => False
  | .sl b _ _ _, .sl true 0 0 _ =>
    match td, op with
    | .slice _, .eql => K (.d (.bool b))
    | .slice _, .neq => K (.d (.bool (!b)))
    | _, _ => False
  | x, y => boolK x (fun p => boolK y (fun q =>
    match td, op with
    | .bool, .eql => K (.d (.bool (p == q)))
    | .bool, .neq => K (.d (.bool (!(p == q))))
    | _, _ => False) False) False

def pickI : List Int → Int → Int
  | [], _ => 0
  | x :: xs, i => if i = 0 then x else pickI xs (i - 1)
def putI : List Int → Int → Int → List Int
  | [], _, _ => []
  | x :: xs, i, v => (if i = 0 then v else x) :: putI xs (i - 1) v
/-- The numbers of some cells of one kind. -/
def intsK (k : IntKind) : List SV → (List Int → Prop) → Prop
  | [], c => c []
  | .d (.int k' n) :: l, c => match kEq k' k with
    | true => intsK k l (fun r => c (n :: r))
    | false => False
  | _, _ => False
/-- Cells of one kind with one of them put anew. -/
def putIK (k : IntKind) (i n : Int) : List SV → Int → (List SV → Prop) → Prop
  | [], _, c => c []
  | .d (.int k' x) :: l, j, c => match kEq k' k with
    | true => putIK k i n l (j + 1) (fun r => c (.d (.int k (if i = j then n else x)) :: r))
    | false => False
  | _, _, _ => False

def eqSK : List EK → List SV → List SV → (Bool → Prop) → Prop
  | [], [], [], c => c true
  | .int k :: ks, .d (.int k1 x) :: xs, .d (.int k2 y) :: ys, c => match kEq k k1, kEq k k2 with
    | true, true => eqSK ks xs ys (fun b => c ((x == y) && b))
    | _, _ => False
  | .bool :: ks, .d x :: xs, .d y :: ys, c => boolK x (fun p => boolK y (fun q => eqSK ks xs ys (fun b => c ((p == q) && b))) False) False
  | .str :: ks, .d (.str x) :: xs, .d (.str y) :: ys, c => eqSK ks xs ys (fun b => c ((x == y) && b))
  | _, _, _, _ => False

def getF : List (Nat × TypeId) → Nat → Option (Nat × TypeId)
  | [], _ => none
  | a :: _, 0 => some a
  | _ :: l, n + 1 => getF l n

/-- Cells put in place of others. -/
def putCells : List SV → Nat → List SV → List SV
  | l, _, [] => l
  | l, off, v :: vs => putCells (setT l off v) (off + 1) vs
def putK : List SV → Nat → List SV → (List SV → Prop) → Prop
  | l, _, [], c => c l
  | l, off, v :: vs, c => setK l off v (fun l' => putK l' (off + 1) vs c)
def cellsOf : SV → List SV
  | .agg l => l
  | v => [v]
def cellsK (v : SV) (k : List SV → Prop) : Prop :=
  match v with
  | .agg l => k l
  | .tup _ => False
  | .any => False
  | .v x => match x.oneCell' with
    | true => k [.v x]
    | false => False
  | v => k [v]

def fillK (TT : Nat → Option TI) (tmps : List SV) (fs : List (Nat × TypeId)) : List SV → List (Nat × Operand) → (List SV → Prop) → Prop
  | cs, [], c => c cs
  | cs, (i, x) :: r, c =>
    match getF fs i with
    | none => False
    | some (off, ft) => match TT ft with
      | none => False
      | some ti => valK tmps x (fun v => cellsK v (fun vs => match Nat.beq (lenL vs) ti.size, Nat.ble (off + ti.size) (lenL cs) with
        | true, true => putK cs off vs (fun cs' => fillK TT tmps fs cs' r c)
        | _, _ => False))

/-- The places of an array's elements. -/
def arrFs : Nat → Nat → Nat → TypeId → List (Nat × TypeId)
  | 0, _, _, _ => []
  | n + 1, off, size, e => (off, e) :: arrFs n (off + size) size e

def bytesOf (n : Nat) (f : Nat → List DV) : List UInt8 :=
  (List.range n).map fun i => match f i with
    | [.int .u8 x] => UInt8.ofNat x.toNat
    | _ => 0
def areBytes (n : Nat) (f : Nat → List DV) : Prop := ∀ i, i < n → ∃ x : Int, f i = [.int .u8 x]

def toBytes : List Int → List UInt8
  | [] => []
  | x :: xs => UInt8.ofNat x.toNat :: toBytes xs

def sub (s : List UInt8) (lo hi : Int) : List UInt8 := (s.drop lo.toNat).take (hi.toNat - lo.toNat)

/-- A bound of a slice expression. -/
def boundK (ts : List SV) (o : Option Operand) (dflt : Int) (K : Int → Prop) : Prop :=
  match o with
  | none => K dflt
  | some x => valK ts x (fun v => match v with
    | .d (.int _ n) => K n
    | _ => False)

/-- Where a pointer into a family of blocks leads to. -/
def arenaIx : SV → (Nat → Nat → Prop) → Prop
  | .np i n, K => K i n
  | .ap i n off, K => match off with
    | 0 => K i n
    | _ => False
  | _, _ => False
/-- Are two pointers one? -/
def ptrEqK (ks : List KB) (x y : SV) (K : DV → Prop) : Prop :=
  match x with
  | .ptr i a => match y with
    | .v (.pointer none) => K .ff
    | .ptr j b => match Nat.beq i j with
      | true => match Nat.beq a b with
        | true => K .tt
        | false => K .ff
      | false => getBK ks i (fun k => match k with
        | .cells _ _ => getBK ks j (fun k' => match k' with
          | .cells _ _ => K .ff
          | _ => False)
        | _ => False)
    | _ => False
  | .v (.pointer none) => match y with
    | .v (.pointer none) => K .tt
    | .ptr _ _ => K .ff
    | .ap _ _ _ => K .ff
    | .np _ n => K (.bool (n == 0))
    | _ => False
  | x => match y with
    | .v (.pointer none) => match x with
      | .ap _ _ _ => K .ff
      | .np _ n => K (.bool (n == 0))
      | _ => False
    | y => arenaIx x (fun i n => arenaIx y (fun j m => getBK ks i (fun k => match k with
      | .arena _ dom _ => getBK ks j (fun k' => match k' with
        | .arena _ dom' _ => ((n ≠ 0 → dom n) ∧ (m ≠ 0 → dom' m)) ∧ K (.bool (n == m))
        | _ => False)
      | _ => False)))

def negSK (b : DV) (K : SV → Prop) : Prop :=
  match b with
  | .tt => K (.d .ff)
  | .ff => K (.d .tt)
  | .bool b => K (.d (.bool (!b)))
  | _ => False

/-! ### Maps -/

def dBool : DV → Option Bool
  | .bool b => some b
  | .tt => some true
  | .ff => some false
  | _ => none
def dEq : DV → DV → Bool
  | .int k a, .int k' b => kEq k k' && a == b
  | .str a, .str b => a == b
  | x, y => match dBool x, dBool y with
    | some p, some q => p == q
    | _, _ => false
def keyEq : List DV → List DV → Bool
  | [], [] => true
  | a :: l, b :: m => dEq a b && keyEq l m
  | _, _ => false
def findM : List (List DV × List SV) → List DV → Option (List SV)
  | [], _ => none
  | (k, v) :: l, key => if keyEq key k then some v else findM l key
def putM : List (List DV × List SV) → List DV → List SV → List (List DV × List SV)
  | [], key, vs => [(key, vs)]
  | (k, v) :: l, key, vs => if keyEq key k then (key, vs) :: l else (k, v) :: putM l key vs
def delM : List (List DV × List SV) → List DV → List (List DV × List SV)
  | [], _ => []
  | (k, v) :: l, key => if keyEq key k then l else (k, v) :: delM l key

def fitD : EK → DV → Bool
  | .int k, .int k' _ => kEq k k'
  | .str, .str _ => true
  | .bool, .bool _ => true
  | .bool, .tt => true
  | .bool, .ff => true
  | _, _ => false
def fitDs : List EK → List DV → Bool
  | [], [] => true
  | e :: es, d :: ds => match fitD e d with
    | true => fitDs es ds
    | false => false
  | _, _ => false
def ekEq : List EK → List EK → Bool
  | [], [] => true
  | .int k :: l, .int k' :: m => match kEq k k' with
    | true => ekEq l m
    | false => false
  | .bool :: l, .bool :: m => ekEq l m
  | .str :: l, .str :: m => ekEq l m
  | _, _ => false
def bEq : Bool → Bool → Bool
  | true, true => true
  | false, false => true
  | _, _ => false
/-- The kinds of a key's cells. -/
def keks (agg : Bool) (desc : TD) (eqk : List EK) : List EK :=
  match agg with
  | true => eqk
  | false => match desc with
    | .int k => [.int k]
    | .str => [.str]
    | .bool => [.bool]
    | _ => []
/-- Cells that are data, each one. -/
def allDK : List SV → (List DV → Prop) → Prop
  | [], K => K []
  | .d x :: l, K => allDK l (fun ds => K (x :: ds))
  | _ :: _, _ => False
/-- A value that is looked up in a map with keys of these kinds. -/
def keyK (eks : List EK) (agg : Bool) (key : SV) (K : List DV → Prop) : Prop :=
  match eks with
  | [] => False
  | e :: es => match agg with
    | true => match key with
      | .agg l => allDK l (fun ds => match fitDs (e :: es) ds with
        | true => K ds
        | false => False)
      | _ => False
    | false => match key with
      | .d x => match fitDs (e :: es) [x] with
        | true => K [x]
        | false => False
      | _ => False
def valOfK (agg : Bool) (vs : List SV) (K : SV → Prop) : Prop :=
  match agg with
  | true => K (.agg vs)
  | false => match vs with
    | [v] => K v
    | _ => False
def lookK (c agg : Bool) (zero : List SV) (r : Option (List SV)) (K : SV → Prop) : Prop :=
  match r with
  | some vs => valOfK agg vs (fun v => match c with
    | true => K (.tup [v, .d .tt])
    | false => K v)
  | none => valOfK agg zero (fun v => match c with
    | true => K (.tup [v, .d .ff])
    | false => K v)

/-! ### Families of blocks -/

def atK (c : Col) (n : Nat) (K : SV → Prop) : Prop :=
  match c with
  | .int k f => K (.d (.int k (f n)))
  | .bool f => K (.d (.bool (f n)))
  | .str f => K (.d (.str (f n)))
  | .sl sz nil m g => K (.d (.sl (nil n) (m n) sz (g n)))
  | .np i f => K (.np i (f n))
  | .any => K .any
def colsK : List Col → Nat → (List SV → Prop) → Prop
  | [], _, K => K []
  | c :: l, n, K => atK c n (fun s => colsK l n (fun r => K (s :: r)))

/-- An operation that changes nothing that is known. -/
def pev (P : Program) (TT : Nat → Option TI) (ts : List SV) (ks : List KB) (o : Op) (K : SV → Prop) : Prop :=
  match o with
  | .move x => valK ts x K
  | .assign x => valK ts x K
  | .pick c a b => valK ts c (fun c => match c with
    | .d .tt => valK ts a K
    | .d .ff => valK ts b K
    | .d (.bool q) => (q = true → valK ts a K) ∧ (q = false → valK ts b K)
    | _ => False)
  | .load t a =>
    match TT t with
    | none => False
    | some ⟨size, _, agg, _, desc, _⟩ => valK ts a (fun a => match a with
      | .ptr i off => getBK ks i (fun b => match b with
        | .cells _ l => packK agg size l off K
        | _ => False)
      | .aptr i off len ix => match desc with
        | .int k => getBK ks i (fun b => match b with
          | .cells _ l => match Nat.ble (off + len) (lenL l) with
            | true => dropK l off (fun m => takeK m len (fun r => intsK k r (fun xs => K (.d (.int k (pickI xs ix))))))
            | false => False
          | _ => False)
        | _ => False
      | .dptr c off => mapDK c (fun l => packK agg size l off K)
      | .rptr i j off sz => getBK ks i (fun b => match b with
        | .row _ sz' _ _ f => match Nat.beq sz sz' with
          | true => mapDK (f j) (fun l => packK agg size l off K)
          | false => False
        | _ => False)
      | .ap i n off => getBK ks i (fun b => match b with
        | .arena _ dom cols => dom n ∧ colsK cols n (fun l => packK agg size l off K)
        | _ => False)
      | _ => False)
  | .lookup t x i c =>
    match TT t with
    | some ⟨_, _, _, _, .map kt et, _⟩ => match TT kt with
      | some ⟨_, _, ka, _, kd, eqk⟩ => match TT et with
        | some ⟨_, _, ea, zero, _, _⟩ => valK ts i (fun i => keyK (keks ka kd eqk) ka i (fun ds => valK ts x (fun x => match x with
          | .map b => getBK ks b (fun k => match k with
            | .map eks ka' ea' l => match ekEq (keks ka kd eqk) eks, bEq ka ka', bEq ea ea' with
              | true, true, true => ∃ r, findM l ds = r ∧ lookK c ea zero r K
              | _, _, _ => False
            | _ => False)
          | .v (.map none) => lookK c ea zero none K
          | _ => False)))
        | none => False
      | none => False
    | _ => False
  | .fieldAddr t x f =>
    match TT t with
    | some ⟨_, _, _, _, .struct fs, _⟩ => match getF fs f with
      | some (o, _) => valK ts x (fun x => match x with
        | .ptr i off => K (.ptr i (off + o))
        | .dptr c off => K (.dptr c (off + o))
        | .rptr i j off sz => K (.rptr i j (off + o) sz)
        | .ap i n off => K (.ap i n (off + o))
        | _ => False)
      | none => False
    | _ => False
  | .field t x f =>
    match TT t with
    | some ⟨_, _, _, _, .struct fs, _⟩ => match getF fs f with
      | some (o, ft) => match TT ft with
        | some ⟨size, _, agg, _, _, _⟩ => valK ts x (fun x => match x with
          | .agg l => packK agg size l o K
          | _ => False)
        | none => False
      | none => False
    | _ => False
  | .indexAddr t x i =>
    match TT t with
    | some ⟨_, _, _, _, .slice e, _⟩ => match TT e with
      | none => False
      | some ⟨size, _, _, _, desc, _⟩ => valK ts i (fun i => match i with
        | .d (.int _ ix) => valK ts x (fun x => match x with
          | .d (.sl _ n sz f) => match Nat.beq size sz with
            | true => (0 ≤ ix ∧ ix < n) ∧ K (.dptr (f ix.toNat) 0)
            | false => False
          | .all b => getBK ks b (fun k => match k with
            | .row _ sz n _ _ => match Nat.beq size sz with
              | true => (0 ≤ ix ∧ ix < n) ∧ K (.rptr b ix.toNat 0 size)
              | false => False
            | _ => False)
          | .row b lo n => getBK ks b (fun k => match k with
            | .row _ sz m _ _ => match Nat.beq size sz with
              | true => (0 ≤ ix ∧ ix < n ∧ lo + n ≤ m) ∧ K (.rptr b (lo + ix.toNat) 0 size)
              | false => False
            | _ => False)
          | .cs b off n _ => match desc with
            | .int _ => match size with
              | 1 => (0 ≤ ix ∧ ix < n) ∧ K (.aptr b off n ix)
              | _ => False
            | _ => (0 ≤ ix ∧ ix < n) ∧ K (.ptr b (off + ix.toNat * size))
          | _ => False)
        | _ => False)
    | some ⟨_, _, _, _, .array len e, _⟩ => match Nat.ble 2 len with
      | false => False
      | true => match TT e with
        | none => False
        | some ⟨size, _, _, _, desc, _⟩ => valK ts i (fun i => match i with
          | .d (.int _ ix) => valK ts x (fun x => match x with
            | .ptr b off => match desc with
              | .int _ => match size with
                | 1 => (0 ≤ ix ∧ ix < len) ∧ K (.aptr b off len ix)
                | _ => False
              | _ => (0 ≤ ix ∧ ix < len) ∧ K (.ptr b (off + ix.toNat * size))
            | _ => False)
          | _ => False)
    | _ => False
  | .index t x i =>
    match TT t with
    | some ⟨_, _, _, _, .str, _⟩ => valK ts x (fun x => valK ts i (fun i => match x, i with
      | .d (.str s), .d (.int _ ix) => (0 ≤ ix ∧ ix < s.length) ∧ K (.d (.int .u8 (byteAt s ix)))
      | _, _ => False))
    | some ⟨_, _, _, _, .array len e, _⟩ => match TT e with
      | none => False
      | some ⟨size, _, agg, _, desc, _⟩ => valK ts x (fun x => valK ts i (fun i => match x, i with
        | .agg l, .d (.int _ ix) => match desc with
          | .int k => match size, Nat.beq (lenL l) len with
            | 1, true => (0 ≤ ix ∧ ix < len) ∧ intsK k l (fun xs => K (.d (.int k (pickI xs ix))))
            | _, _ => False
          | _ => (0 ≤ ix ∧ ix < len) ∧ packK agg size l (ix.toNat * size) K
        | _, _ => False))
    | _ => False
  | .binOp op t x y _ => valK ts x (fun x => valK ts y (fun y => match x, y with
    | .d a, .d b => match TT t with
      | some ⟨_, _, _, _, desc, _⟩ => bin desc op a b K
      | none => False
    | .agg l, .agg m => match TT t with
      | some ⟨_, _, _, _, _, e :: es⟩ => match op with
        | .eql => eqSK (e :: es) l m (fun b => K (.d (.bool b)))
        | .neq => eqSK (e :: es) l m (fun b => K (.d (.bool (!b))))
        | _ => False
      | _ => False
    | .cs _ _ _ _, .d (.sl true 0 0 _) => match TT t with
      | some ⟨_, _, _, _, .slice _, _⟩ => match op with
        | .eql => K (.d .ff)
        | .neq => K (.d .tt)
        | _ => False
      | _ => False
    | .all i, .d (.sl true 0 0 _) => match TT t with
      | some ⟨_, _, _, _, .slice _, _⟩ => getBK ks i (fun b => match b with
        | .row _ _ n z _ => match z with
          | .no => match op with
            | .eql => K (.d .ff)
            | .neq => K (.d .tt)
            | _ => False
          | .iff => match op with
            | .eql => K (.d (.bool (Nat.beq n 0)))
            | .neq => K (.d (.bool (!(Nat.beq n 0))))
            | _ => False
          | .may => False
        | _ => False)
      | _ => False
    | x, y => match TT t with
      | some ⟨_, _, _, _, .ptr e, _⟩ => match TT e with
        | some ⟨size, _, _, _, _, _⟩ => match Nat.ble 1 size with
          | true => match op with
            | .eql => ptrEqK ks x y (fun b => K (.d b))
            | .neq => ptrEqK ks x y (fun b => negSK b K)
            | _ => False
          | false => False
        | none => False
      | _ => False))
  | .unOp op _ x => valK ts x (fun x => match op, x with
    | .not, .d .tt => K (.d .ff)
    | .not, .d .ff => K (.d .tt)
    | .not, .d (.bool b) => K (.d (.bool (!b)))
    | .neg, .d (.int k n) => K (.d (.int k (k.wrap (0 - n))))
    | .xor, .d (.int k n) => K (.d (.int k (bits .xor k (if k.signed then -1 else k.max) n)))
    | _, _ => False)
  | .convert src dst x =>
    match TT src with
    | none => False
    | some ⟨_, _, _, _, ds, _⟩ => match TT dst with
      | some ⟨_, _, _, _, .int k, _⟩ => valK ts x (fun x => match x with
        | .d (.int _ n) => K (.d (.int k (k.wrap n)))
        | _ => False)
      | some ⟨_, _, _, _, .str, _⟩ => valK ts x (fun x => match x with
        | .d (.str s) => K (.d (.str s))
        | .d (.sl _ n 1 f) => match ds with
          | .slice e => match TT e with
            | some ⟨_, _, _, _, .int .u8, _⟩ => areBytes n f ∧ K (.d (.str (bytesOf n f)))
            | _ => False
          | _ => False
        | .cs i off n _ => match ds with
          | .slice e => match TT e with
            | some ⟨_, _, _, _, .int .u8, _⟩ => getBK ks i (fun b => match b with
              | .cells _ l => match Nat.ble (off + n) (lenL l) with
                | true => dropK l off (fun m => takeK m n (fun r => intsK .u8 r (fun xs => K (.d (.str (toBytes xs))))))
                | false => False
              | _ => False)
            | _ => False
          | _ => False
        | .all i => match ds with
          | .slice e => match TT e with
            | some ⟨_, _, _, _, .int .u8, _⟩ => getBK ks i (fun b => match b with
              | .row _ 1 n _ f => areBytes n f ∧ K (.d (.str (bytesOf n f)))
              | _ => False)
            | _ => False
          | _ => False
        | .row i lo n => match ds with
          | .slice e => match TT e with
            | some ⟨_, _, _, _, .int .u8, _⟩ => getBK ks i (fun b => match b with
              | .row _ 1 m _ f => lo + n ≤ m ∧ areBytes n (fun j => f (lo + j)) ∧ K (.d (.str (bytesOf n (fun j => f (lo + j)))))
              | _ => False)
            | _ => False
          | _ => False
        | _ => False)
      | _ => False
  | .extract x i => valK ts x (fun x => match x with
    | .tup l => match Nat.ble (i + 1) (lenL l) with
      | true => getTK l i K
      | false => False
    | _ => False)
  | .makeFunc fn first caps =>
    match fn, first.toList with
    | .func f, [] => valsK ts caps.toList (fun l => K (.fn f l))
    | _, _ => False
  | .build t parts =>
    match TT t with
    | some ⟨_, _, true, zero, .struct fs, _⟩ => fillK TT ts fs zero parts.toList (fun cs => K (.agg cs))
    | some ⟨_, _, true, zero, .array n e, _⟩ => match TT e with
      | some ⟨size, _, _, _, _, _⟩ => fillK TT ts (arrFs n 0 size e) zero parts.toList (fun cs => K (.agg cs))
      | none => False
    | _ => False
  | .slice t x lo hi mx =>
    match mx with
    | some _ => False
    | none => match TT t with
      | some ⟨_, _, _, _, .str, _⟩ => valK ts x (fun x => match x with
        | .d (.str s) => boundK ts lo 0 (fun l => boundK ts hi s.length (fun h => (0 ≤ l ∧ l ≤ h ∧ h ≤ s.length) ∧ K (.d (.str (sub s l h)))))
        | _ => False)
      | some ⟨_, _, _, _, .slice e, _⟩ => match TT e with
        | none => False
        | some ⟨size, _, _, _, _, _⟩ => valK ts x (fun x => match x with
          | .d (.sl nl n sz f) => match Nat.beq size sz with
            | true => boundK ts lo 0 (fun l => boundK ts hi n (fun h => (0 ≤ l ∧ l ≤ h ∧ h ≤ n) ∧ K (.d (.sl nl (h - l).toNat sz (fun j => f (l.toNat + j))))))
            | false => False
          | .all i => getBK ks i (fun b => match b with
            | .row _ sz n _ _ => match Nat.beq size sz with
              | true => boundK ts lo 0 (fun l => boundK ts hi n (fun h => (0 ≤ l ∧ l ≤ h ∧ h ≤ n) ∧ K (.row i l.toNat (h - l).toNat)))
              | false => False
            | _ => False)
          | .row i lo' n => getBK ks i (fun b => match b with
            | .row _ sz _ _ _ => match Nat.beq size sz with
              | true => boundK ts lo 0 (fun l => boundK ts hi n (fun h => (0 ≤ l ∧ l ≤ h ∧ h ≤ n) ∧ K (.row i (lo' + l.toNat) (h - l).toNat)))
              | false => False
            | _ => False)
          | .cs i off n c => boundK ts lo 0 (fun l => boundK ts hi n (fun h => (0 ≤ l ∧ l ≤ h ∧ h ≤ n ∧ n ≤ c ∧ (l.toNat < c ∨ l = 0)) ∧ K (.cs i (off + l.toNat * size) (h - l).toNat (c - l.toNat))))
          | _ => False)
      | some ⟨_, _, _, _, .array n e, _⟩ => match TT e with
        | none => False
        | some ⟨size, _, _, _, _, _⟩ => valK ts x (fun x => match x with
          | .ptr i off => boundK ts lo 0 (fun l => boundK ts hi n (fun h => (0 ≤ l ∧ l ≤ h ∧ h ≤ n ∧ (l.toNat < n ∨ l = 0)) ∧ K (.cs i (off + l.toNat * size) (h - l).toNat (n - l.toNat))))
          | _ => False)
      | _ => False
  | .nilCheck x => valK ts x (fun x => match x with
    | .ptr i off => K (.ptr i off)
    | .dptr c off => K (.dptr c off)
    | .rptr i j off sz => K (.rptr i j off sz)
    | .ap i n off => K (.ap i n off)
    | .np i n => n ≠ 0 ∧ K (.ap i n 0)
    | .fn f caps => K (.fn f caps)
    | _ => False)
  | .call ⟨callee, args, argTypes⟩ =>
    match callee with
    | .builtin b =>
      match b, args.toList with
      | .len, [x] => match argTypes.toList with
        | [t] => match TT t with
          | none => False
          | some ⟨_, _, _, _, desc, _⟩ => match desc with
            | .array n _ => K (.d (.int .i64 n))
            | .str => valK ts x (fun x => match x with
              | .d (.str s) => K (.d (.int .i64 s.length))
              | _ => False)
            | .slice _ => valK ts x (fun x => match x with
              | .d (.sl _ n _ _) => K (.d (.int .i64 n))
              | .all i => getBK ks i (fun b => match b with
                | .row _ _ n _ _ => K (.d (.int .i64 n))
                | _ => False)
              | .row _ _ n => K (.d (.int .i64 n))
              | .cs _ _ n _ => K (.d (.int .i64 n))
              | _ => False)
            | .map _ _ => valK ts x (fun x => match x with
              | .map i => getBK ks i (fun b => match b with
                | .map _ _ _ l => K (.d (.int .i64 l.length))
                | _ => False)
              | .v (.map none) => K (.d (.int .i64 0))
              | _ => False)
            | _ => False
        | _ => False
      | .min, [x, y] => valK ts x (fun x => valK ts y (fun y => match x, y with
        | .d (.int k a), .d (.int k' b) => match kEq k k' with
          | true => K (.d (.int k (if b < a then b else a)))
          | false => False
        | _, _ => False))
      | .max, [x, y] => valK ts x (fun x => valK ts y (fun y => match x, y with
        | .d (.int k a), .d (.int k' b) => match kEq k k' with
          | true => K (.d (.int k (if b > a then b else a)))
          | false => False
        | _, _ => False))
      | _, _ => False
    | _ => False
  | _ => False

end Go.Eng
