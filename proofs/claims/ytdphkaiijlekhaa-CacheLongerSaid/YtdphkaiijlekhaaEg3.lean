/-
  The engine, part 3: operations that change what is known (`mev`), regions (`rev`), code (`sx`).
-/
import Derived.Test.YtdphkaiijlekhaaEg2
namespace Go.Eng
open Go Go.RowKit

def addB : List KB → KB → List KB
  | [], k => [k]
  | a :: l, k => a :: addB l k
def addBK : List KB → KB → (List KB → Prop) → Prop
  | [], k, c => c [k]
  | a :: l, k, c => addBK l k (fun l' => c (a :: l'))
def setBK : List KB → Nat → KB → (List KB → Prop) → Prop
  | [], _, _, c => c []
  | _ :: l, 0, v, c => c (v :: l)
  | a :: l, n + 1, v, c => setBK l n v (fun l' => c (a :: l'))
def lenB : List KB → Nat
  | [] => 0
  | _ :: l => lenB l + 1

theorem addB_eq (l : List KB) (k : KB) : addB l k = l ++ [k] := by
  induction l with
  | nil => rfl
  | cons a l ih => simp [addB, ih]
theorem addBK_eq (l : List KB) (k : KB) (c : List KB → Prop) : addBK l k c = c (l ++ [k]) := by
  induction l generalizing c with
  | nil => rfl
  | cons a l ih => simp [addBK, ih]
theorem setBK_eq (l : List KB) (n : Nat) (k : KB) (c : List KB → Prop) : setBK l n k c = c (l.set n k) := by
  induction l generalizing n c with
  | nil => rfl
  | cons a l ih => cases n with
    | zero => rfl
    | succ n => simp [setBK, ih]
theorem putK_eq (l : List SV) (off : Nat) (vs : List SV) (c : List SV → Prop) : putK l off vs c = c (putCells l off vs) := by
  induction vs generalizing l off with
  | nil => cases l <;> rfl
  | cons v vs ih => simp [putK, putCells, setK_eq, ih]
theorem lenB_eq (l : List KB) : lenB l = l.length := by
  induction l with
  | nil => rfl
  | cons a l ih => simp [lenB, ih]


def lenBK : List KB → Nat → (Nat → Prop) → Prop
  | [], n, k => k n
  | _ :: l, n, k => lenBK l (n + 1) k

def memN (t : Nat) : List Nat → Bool
  | [] => false
  | a :: l => match Nat.beq a t with
    | true => true
    | false => memN t l
/-! ### Rows -/

def chunk (ds : List DV) (sz : Nat) : Nat → List DV := fun j => (ds.drop (j * sz)).take sz
/-- As data; the numbers of the rows that are taken for it are handed on. -/
def dvK (ks : List KB) (s : SV) (K : DV → List Nat → Prop) : Prop :=
  match s with
  | .d x => K x []
  | .all i => getBK ks i (fun b => match b with
    | .row _ sz n z f => match z with
      | .no => K (.sl false n sz f) [i]
      | .iff => K (.sl (Nat.beq n 0) n sz f) [i]
      | .may => 0 < n ∧ K (.sl false n sz f) [i]
    | _ => False)
  | .row i lo n => getBK ks i (fun b => match b with
    | .row _ sz m z f => match z with
      | .no => lo + n ≤ m ∧ K (.sl false n sz (fun j => f (lo + j))) [i]
      | _ => (lo + n ≤ m ∧ 0 < m) ∧ K (.sl false n sz (fun j => f (lo + j))) [i]
    | _ => False)
  | .cs i off n c => getBK ks i (fun b => match b with
    | .cells _ l => match Nat.ble (off + n * Nat.div (lenL l - off) c) (lenL l) with
      | true => dropK l off (fun m => takeK m (n * Nat.div (lenL l - off) c) (fun r => allDK r (fun ds => K (.sl false n (Nat.div (lenL l - off) c) (chunk ds (Nat.div (lenL l - off) c))) [i])))
      | false => False
    | _ => False)
  | _ => False
def appN : List Nat → List Nat → (List Nat → Prop) → Prop
  | [], m, k => k m
  | a :: l, m, k => appN l m (fun r => k (a :: r))
def dvsK (ks : List KB) : List SV → (List DV → List Nat → Prop) → Prop
  | [], K => K [] []
  | a :: l, K => dvK ks a (fun d fr => dvsK ks l (fun ds fr' => appN fr fr' (fun r => K (d :: ds) r)))
/-- Rows that become data are no rows any more. -/
def goneK : List Nat → List KB → (List KB → Prop) → Prop
  | [], ks, K => K ks
  | i :: l, ks, K => setBK ks i .gone (fun ks' => goneK l ks' K)

/-- What is appended, or copied: n elements, and the rows that become data by it. -/
def srcK (ks : List KB) (sz : Nat) (x : SV) (K : Nat → (Nat → List DV) → List Nat → Prop) : Prop :=
  match x with
  | .d (.sl _ n sz' f) => match Nat.beq sz' sz with
    | true => K n f []
    | false => match n with
      | 0 => K 0 (fun _ => []) []
      | _ => False
  | .d (.str s) => match sz with
    | 1 => K s.length (fun j => [.int .u8 (byteAt s j)]) []
    | _ => False
  | .all i => getBK ks i (fun b => match b with
    | .row _ sz' n _ f => match Nat.beq sz' sz with
      | true => K n f []
      | false => False
    | _ => False)
  | .row i lo n => getBK ks i (fun b => match b with
    | .row _ sz' m _ f => match Nat.beq sz' sz with
      | true => lo + n ≤ m ∧ K n (fun j => f (lo + j)) []
      | false => False
    | _ => False)
  | .cs i off n _ => getBK ks i (fun b => match b with
    | .cells _ l => match Nat.ble (off + n * sz) (lenL l) with
      | true => dropK l off (fun m => takeK m (n * sz) (fun r => dvsK ks r (fun ds fr => K n (chunk ds sz) fr)))
      | false => False
    | _ => False)
  | _ => False

def catF (n : Nat) (f g : Nat → List DV) : Nat → List DV := fun t => if t < n then f t else g (t - n)
def midF (lo n : Nat) (f g : Nat → List DV) : Nat → List DV := fun t => if lo ≤ t ∧ t < lo + n then g (t - lo) else f t
def putD : List DV → Nat → List DV → List DV
  | l, _, [] => l
  | l, off, v :: vs => putD (l.set off v) (off + 1) vs
def oneF (j off : Nat) (vs : List DV) (f : Nat → List DV) : Nat → List DV := fun t => if t = j then putD (f t) off vs else f t

/-- A new row. -/
def newRowK (ks : List KB) (k : KB) (K : SV → List KB → Prop) : Prop := addBK ks k (fun ks' => lenBK ks 0 (fun j => K (.all j) ks'))

/-- Where a part of a slice literal goes. -/
def fillS (ts : List SV) (size : Nat) : List SV → List (Nat × Operand) → (List SV → Prop) → Prop
  | cs, [], c => c cs
  | cs, (i, x) :: r, c => valK ts x (fun v => cellsK v (fun vs => match Nat.beq (lenL vs) size, Nat.ble (i * size + size) (lenL cs) with
      | true, true => putK cs (i * size) vs (fun cs' => fillS ts size cs' r c)
      | _, _ => False))
def repK (z : List SV) : Nat → (List SV → Prop) → Prop
  | 0, c => c []
  | n + 1, c => repK z n (fun r => appK z r c)

def isSeq (TT : Nat → Option TI) (t : TypeId) : Bool :=
  match TT t with
  | some ⟨_, _, _, _, .slice _, _⟩ => true
  | some ⟨_, _, _, _, .str, _⟩ => true
  | _ => false

/-! ### Families of blocks, written -/

def lenC : List Col → Nat
  | [] => 0
  | _ :: l => lenC l + 1
/-- A cell of block n written. -/
def putcK (c : Col) (n : Nat) (v : SV) (K : Col → Prop) : Prop :=
  match c with
  | .int k f => match v with
    | .d (.int k' x) => match kEq k' k with
      | true => K (.int k (upd f n x))
      | false => False
    | _ => False
  | .bool f => match v with
    | .d x => boolK x (fun b => K (.bool (upd f n b))) False
    | _ => False
  | .str f => match v with
    | .d (.str x) => K (.str (upd f n x))
    | _ => False
  | .sl sz nil m g => match v with
    | .d (.sl b q sz' h) => match Nat.beq sz' sz with
      | true => K (.sl sz (upd nil n b) (upd m n q) (upd g n h))
      | false => match q with
        | 0 => K (.sl sz (upd nil n b) (upd m n 0) (upd g n (fun _ => [])))
        | _ => False
    | _ => False
  | .np i f => match v with
    | .np j x => match Nat.beq j i with
      | true => K (.np i (upd f n x))
      | false => False
    | .ap j x off => match Nat.beq j i, off with
      | true, 0 => K (.np i (upd f n x))
      | _, _ => False
    | .v (.pointer none) => K (.np i (upd f n 0))
    | _ => False
  | .any => K .any
def putCK : List Col → Nat → Nat → List SV → (List Col → Prop) → Prop
  | cols, _, _, [], K => K cols
  | [], _, _, _ :: _, _ => False
  | c :: l, 0, n, v :: vs, K => putcK c n v (fun c' => putCK l 0 n vs (fun l' => K (c' :: l')))
  | c :: l, off + 1, n, v :: vs, K => putCK l off n (v :: vs) (fun l' => K (c :: l'))

def isSomeInt (ts : List SV) (o : Option Operand) (K : Prop) : Prop :=
  match o with
  | none => K
  | some x => valK ts x (fun v => match v with
    | .d (.int _ _) => K
    | _ => False)

/-- The cells of a map's element. -/
def elemK (ea : Bool) (v : SV) (K : List SV → Prop) : Prop :=
  match ea with
  | true => match v with
    | .agg l => K l
    | _ => False
  | false => match v with
    | .agg _ => False
    | v => cellsK v K

/-- An operation that changes what is known. -/
def mev (TT : Nat → Option TI) (ts : List SV) (ks : List KB) (o : Op) (K : SV → List KB → Prop) : Prop :=
  match o with
  | .alloc t =>
    match TT t with
    | none => False
    | some ⟨_, _, _, zero, _, _⟩ => addBK ks (.cells t zero) (fun ks' => lenBK ks 0 (fun n => K (.ptr n 0) ks'))
  | .box t x =>
    match TT t with
    | none => False
    | some ⟨size, _, _, _, _, _⟩ => valK ts x (fun v => cellsK v (fun l => match Nat.beq (lenL l) size with
      | true => addBK ks (.cells t l) (fun ks' => lenBK ks 0 (fun n => K (.ptr n 0) ks'))
      | false => False))
  | .buildSlice t len parts =>
    match TT t with
    | some ⟨_, _, _, _, .slice e, _⟩ => match TT e with
      | some ⟨size, _, _, zero, _, _⟩ => match Nat.ble (len * size) 16777216 with
        | true => repK zero len (fun cs => fillS ts size cs parts.toList (fun cs' => addBK ks (.cells e cs') (fun ks' => lenBK ks 0 (fun n => K (.cs n 0 len len) ks'))))
        | false => False
      | none => False
    | _ => False
  | .makeSlice t len cap =>
    match TT t with
    | some ⟨_, _, _, _, .slice e, _⟩ => match TT e with
      | some ⟨size, bytes, _, zero, _, _⟩ => valK ts len (fun l => valK ts cap (fun c => match l, c with
        | .d (.int _ l), .d (.int _ c) => dvsK [] zero (fun ds _ => (0 ≤ l ∧ l ≤ c ∧ c * bytes ≤ 281474976710656 ∧ c ≤ 9223372036854775807) ∧ newRowK ks (.row e size l.toNat .no (fun _ => ds)) K)
        | _, _ => False))
      | none => False
    | _ => False
  | .convert src dst x =>
    match TT src, TT dst with
    | some _, some ⟨_, _, _, _, .slice e, _⟩ => match TT e with
      | some ⟨_, _, _, _, .int .u8, _⟩ => valK ts x (fun x => match x with
        | .d (.str s) => newRowK ks (.row e 1 s.length .no (fun j => [.int .u8 (byteAt s j)])) K
        | _ => False)
      | _ => False
    | _, _ => False
  | .store t a x =>
    match TT t with
    | none => False
    | some ⟨size, _, _, _, desc, _⟩ => valK ts x (fun v => valK ts a (fun a => match a with
      | .ptr i off => getBK ks i (fun b => match b with
        | .cells t' l => cellsK v (fun vs => match Nat.beq (lenL vs) size, Nat.ble (off + size) (lenL l), Nat.ble 1 size with
          | true, true, true => putK l off vs (fun l' => setBK ks i (.cells t' l') (fun ks' => K .any ks'))
          | _, _, _ => False)
        | _ => False)
      | .aptr i off len ix => match desc, v with
        | .int k, .d (.int k' n) => match size, kEq k' k with
          | 1, true => getBK ks i (fun b => match b with
            | .cells t' l => match Nat.ble (off + len) (lenL l) with
              | true => dropK l off (fun m => takeK m len (fun r => putIK k ix n r 0 (fun r' => putK l off r' (fun l' => setBK ks i (.cells t' l') (fun ks' => K .any ks')))))
              | false => False
            | _ => False)
          | _, _ => False
        | _, _ => False
      | .rptr i j off sz => getBK ks i (fun b => match b with
        | .row e sz' n z f => match Nat.beq sz sz' with
          | true => cellsK v (fun vs => match Nat.beq (lenL vs) size, Nat.ble (off + size) sz, Nat.ble 1 size with
            | true, true, true => dvsK ks vs (fun ds fr => match memN i fr with
              | false => goneK fr ks (fun ks => setBK ks i (.row e sz' n z (oneF j off ds f)) (fun ks' => K .any ks'))
              | true => False)
            | _, _, _ => False)
          | false => False
        | _ => False)
      | .ap i n off => getBK ks i (fun b => match b with
        | .arena t' dom cols => cellsK v (fun vs => match Nat.beq (lenL vs) size, Nat.ble (off + size) (lenC cols), Nat.ble 1 size with
          | true, true, true => dom n ∧ putCK cols off n vs (fun cols' => setBK ks i (.arena t' dom cols') (fun ks' => K .any ks'))
          | _, _, _ => False)
        | _ => False)
      | _ => False))
  | .makeMap t res =>
    match TT t with
    | some ⟨_, _, _, _, .map kt et, _⟩ => match TT kt, TT et with
      | some ⟨_, _, ka, _, kd, eqk⟩, some ⟨_, _, ea, _, _, _⟩ => isSomeInt ts res (addBK ks (.map (keks ka kd eqk) ka ea []) (fun ks' => lenBK ks 0 (fun n => K (.map n) ks')))
      | _, _ => False
    | _ => False
  | .mapUpdate t m k v =>
    match TT t with
    | some ⟨_, _, _, _, .map kt et, _⟩ => match TT kt, TT et with
      | some ⟨_, _, ka, _, kd, eqk⟩, some ⟨size, _, ea, _, _, _⟩ => valK ts k (fun key => keyK (keks ka kd eqk) ka key (fun ds => valK ts v (fun v => elemK ea v (fun vs => match Nat.beq (lenL vs) size with
        | true => valK ts m (fun m => match m with
          | .map b => getBK ks b (fun kb => match kb with
            | .map eks ka' ea' l => match ekEq (keks ka kd eqk) eks, bEq ka ka', bEq ea ea' with
              | true, true, true => ∃ l', putM l ds vs = l' ∧ setBK ks b (.map eks ka' ea' l') (fun ks' => K .any ks')
              | _, _, _ => False
            | _ => False)
          | _ => False)
        | false => False))))
      | _, _ => False
    | _ => False
  | .call ⟨.builtin .delete, args, argTypes⟩ =>
    match args.toList, argTypes.toList with
    | [m, k], [t, _] => match TT t with
      | some ⟨_, _, _, _, .map kt _, _⟩ => match TT kt with
        | some ⟨_, _, ka, _, kd, eqk⟩ => valK ts k (fun key => keyK (keks ka kd eqk) ka key (fun ds => valK ts m (fun m => match m with
          | .map b => getBK ks b (fun kb => match kb with
            | .map eks ka' ea' l => match ekEq (keks ka kd eqk) eks, bEq ka ka' with
              | true, true => ∃ l', delM l ds = l' ∧ setBK ks b (.map eks ka' ea' l') (fun ks' => K .any ks')
              | _, _ => False
            | _ => False)
          | _ => False)))
        | _ => False
      | _ => False
    | _, _ => False
  | .call ⟨.builtin .append, args, argTypes⟩ =>
    match args.toList, argTypes.toList with
    | [s, x], [st, xt] => match TT st with
      | some ⟨_, _, _, _, .slice e, _⟩ => match TT e with
        | some ⟨size, bytes, _, _, _, _⟩ => match Nat.ble 1 size && (Nat.ble 1 bytes && isSeq TT xt) with
          | true => valK ts x (fun x => srcK ks size x (fun k g fr => valK ts s (fun s => match s with
            | .d (.sl true 0 _ _) => k * bytes ≤ 70368744177664 ∧ goneK fr ks (fun ks => newRowK ks (.row e size k .iff g) K)
            | .all i => getBK ks i (fun b => match b with
              | .row e' sz n z f => match Nat.beq e' e, Nat.beq sz size, memN i fr with
                | true, true, false => (n + k) * bytes ≤ 70368744177664 ∧ goneK fr ks (fun ks => setBK ks i .gone (fun ks => newRowK ks (.row e size (n + k) z (catF n f g)) K))
                | _, _, _ => False
              | _ => False)
            | .row i 0 n => getBK ks i (fun b => match b with
              | .row e' sz m z f => match Nat.beq e' e, Nat.beq sz size, memN i fr with
                | true, true, false => (n ≤ m ∧ (n + k) * bytes ≤ 70368744177664) ∧ goneK fr ks (fun ks => setBK ks i .gone (fun ks => newRowK ks (.row e size (n + k) z.cut (catF n f g)) K))
                | _, _, _ => False
              | _ => False)
            | .cs i 0 n c => getBK ks i (fun b => match b with
              | .cells e' l => match Nat.beq e' e, Nat.beq n c, Nat.beq (lenL l) (n * size), memN i fr with
                | true, true, true, false => (n + k) * bytes ≤ 70368744177664 ∧ dvsK ks l (fun ds fr' => match memN i fr' with
                  | false => goneK fr ks (fun ks => goneK fr' ks (fun ks => setBK ks i .gone (fun ks => newRowK ks (.row e size (n + k) .no (catF n (chunk ds size) g)) K)))
                  | true => False)
                | _, _, _, _ => False
              | _ => False)
            | _ => False)))
          | false => False
        | none => False
      | _ => False
    | _, _ => False
  | _ => False

/-- Does it change what is known? -/
def isMem : Op → Bool
  | .alloc _ => true
  | .box _ _ => true
  | .store _ _ _ => true
  | .buildSlice _ _ _ => true
  | .makeSlice _ _ _ => true
  | .makeMap _ _ => true
  | .mapUpdate _ _ _ _ => true
  | .call ⟨.builtin .append, _, _⟩ => true
  | .call ⟨.builtin .copy, _, _⟩ => true
  | .call ⟨.builtin .clear, _, _⟩ => true
  | .call ⟨.builtin .delete, _, _⟩ => true
  | _ => false
/-- Does it make bytes of a text? -/
def isBytes (TT : Nat → Option TI) : Op → Bool
  | .convert _ dst _ => match TT dst with
    | some ⟨_, _, _, _, .slice _, _⟩ => true
    | _ => false
  | _ => false

/-- What an operation that is not carried out leaves in its slot. -/
def skipV : SV := .v (.tuple #[])
def putDst (d : Option Tmp) (v : SV) (ts : List SV) (K : List SV → Prop) : Prop :=
  match d with
  | none => K ts
  | some t => setK ts t v K

/-- Does it make one block, at the end of those that are known, and touch nothing else? -/
def isFresh : Op → Bool
  | .alloc _ => true
  | .box _ _ => true
  | .buildSlice _ _ _ => true
  | .makeSlice _ _ _ => true
  | .convert _ _ _ => true
  | _ => false
def hardOf (o : Op) : Bool :=
  match isFresh o with
  | true => false
  | false => true

/-! ### Calls -/

def goneL : List Nat → List KB → List KB
  | [], ks => ks
  | i :: l, ks => goneL l (setB ks i .gone)
def viewCK (ks : List KB) (s : SV) (K : SV → List Nat → Prop) : Prop :=
  match s with
  | .all _ => dvK ks s (fun d fr => K (.d d) fr)
  | .row _ _ _ => dvK ks s (fun d fr => K (.d d) fr)
  | .cs _ _ _ _ => dvK ks s (fun d fr => K (.d d) fr)
  | s => K s []
def viewCsK (ks : List KB) : List SV → (List SV → List Nat → Prop) → Prop
  | [], K => K [] []
  | a :: l, K => viewCK ks a (fun s fr => viewCsK ks l (fun l' fr' => appN fr fr' (fun r => K (s :: l') r)))
/-- An argument, the rows in it as data. -/
def viewK (TT : Nat → Option TI) (ks : List KB) (s : SV) (ty : Option TypeId) (K : SV → List Nat → Prop) : Prop :=
  match s with
  | .agg l => viewCsK ks l (fun l' fr => K (.agg l') fr)
  | .cs i off n c => match ty with
    | some t => match TT t with
      | some ⟨_, _, _, _, .slice e, _⟩ => match TT e with
        | some ⟨size, _, _, _, _, _⟩ => srcK ks size (.cs i off n c) (fun n g fr => K (.d (.sl false n size g)) (i :: fr))
        | none => False
      | _ => False
    | none => False
  | s => viewCK ks s K
def headT : List TypeId → Option TypeId
  | [] => none
  | t :: _ => some t
def tailT : List TypeId → List TypeId
  | [] => []
  | _ :: l => l
def viewsK (TT : Nat → Option TI) (ks : List KB) : List SV → List TypeId → (List SV → List Nat → Prop) → Prop
  | [], _, K => K [] []
  | a :: l, tys, K => viewK TT ks a (headT tys) (fun s fr => viewsK TT ks l (tailT tys) (fun l' fr' => appN fr fr' (fun r => K (s :: l') r)))

/-- How a call is met: `data`: by a contract over data; `view`: likewise, rows being looked at as data for the time of the call; `frz`: likewise, rows becoming data for good; `mem`: by a contract over known blocks. -/
inductive CallStop (P : Program) (TT : Nat → Option TI) (f : FuncId) (as : List SV) (tys : List TypeId) (ks : List KB) (K : Bool → SV → List KB → Prop) : Prop where
  | data (r : SV) : FnOk P f as r → closedL as = true → closed r = true → K false r ks → CallStop P TT f as tys ks K
  | view (r : SV) (as' : List SV) (fr : List Nat) : FnOk P f as' r → viewsK TT ks as tys (fun l t => l = as' ∧ t = fr) → closedL as' = true → scalar r = true → K false r ks → CallStop P TT f as tys ks K
  | frz (r : SV) (as' : List SV) (fr : List Nat) : FnOk P f as' r → viewsK TT ks as tys (fun l t => l = as' ∧ t = fr) → closedL as' = true → closed r = true → K true r (goneL fr ks) → CallStop P TT f as tys ks K
  | mem (r : SV) (ks' : List KB) : COk P f as ks (fun s k => s = r ∧ k = ks') → K true r ks' → CallStop P TT f as tys ks K

/-- A call of a function's value. -/
def cev (P : Program) (TT : Nat → Option TI) (ts : List SV) (ks : List KB) (g : Operand) (args : List Operand) (tys : List TypeId) (K : Bool → SV → List KB → Prop) : Prop :=
  valK ts g (fun g => match g with
    | .fn f caps => valsK ts args (fun as => appK as caps (fun as => CallStop P TT f as tys ks K))
    | _ => False)

def exec (P : Program) (TT : Nat → Option TI) (o : Oper) (ts : List SV) (ks : List KB) (K : Bool → List SV → List KB → Prop) : Prop :=
  match o.op with
  | .call ⟨.value g, args, tys⟩ => cev P TT ts ks g args.toList tys.toList (fun h v ks' => putDst o.dst v ts (fun ts' => K h ts' ks'))
  | op => match isMem op || isBytes TT op with
    | true => mev TT ts ks op (fun v ks' => putDst o.dst v ts (fun ts' => K (hardOf op) ts' ks'))
    | false => pev P TT ts ks op (fun v => putDst o.dst v ts (fun ts' => K false ts' ks))

def dstAt : List Oper → Nat → Option Tmp
  | [], _ => none
  | o :: _, 0 => o.dst
  | _ :: l, n + 1 => dstAt l n

def havoc : List Nat → List SV → List SV
  | [], l => l
  | t :: ts, l => havoc ts (setT l t .any)
def upds : List (Nat × SV) → List SV → List SV
  | [], l => l
  | (t, v) :: ts, l => upds ts (setT l t v)
def updsB : List (Nat × KB) → List KB → List KB
  | [], l => l
  | (t, v) :: ts, l => updsB ts (setB l t v)

def writesOps : List Oper → List Nat
  | [] => []
  | o :: r => match o.dst with
    | some t => t :: writesOps r
    | none => writesOps r
def writes : Code → List Nat
  | .region _ ops _ => writesOps ops.toList
  | .seq a b => writes a ++ writes b
  | .cond _ a b => writes a ++ writes b
  | .block _ a => writes a
  | .loop a => writes a
  | .scope a => writes a
  | _ => []

def SubV (a : SV) : SV → Prop
  | .any => True
  | .np i n => match a with
    | .ap j m off => j = i ∧ m = n ∧ off = 0
    | .v (.pointer none) => n = 0
    | a => a = .np i n
  | b => a = b
def SubL : List SV → List SV → Prop
  | [], [] => True
  | a :: l, b :: m => SubV a b ∧ SubL l m
  | _, _ => False
def SubZ : Z → Z → Prop
  | _, .may => True
  | .no, .no => True
  | .iff, .iff => True
  | _, _ => False
def SubM : List (List DV × List SV) → List (List DV × List SV) → Prop
  | l, m => l = m
def SubC (dom : Nat → Prop) : List Col → List Col → Prop
  | [], [] => True
  | c :: l, c' :: m => (∀ n, dom n → c.at n = c'.at n) ∧ SubC dom l m
  | _, _ => False
def SubK : KB → KB → Prop
  | _, .gone => True
  | .cells t l, .cells t' l' => t = t' ∧ SubL l l'
  | .row e sz n z f, .row e' sz' n' z' f' => e = e' ∧ sz = sz' ∧ n = n' ∧ SubZ z z' ∧ ∀ i, i < n → f i = f' i
  | .map eks ka ea l, .map eks' ka' ea' l' => (eks = eks' ∧ ka = ka' ∧ ea = ea') ∧ SubM l l'
  | .arena t dom cols, .arena t' dom' cols' => t = t' ∧ (∀ n, dom n ↔ dom' n) ∧ SubC dom cols cols'
  | .obj φ, .obj φ' => ∀ w M L fp, φ w M L fp → Stable φ' ∧ φ' w M L fp
  | .loop l ps a b st, .loop l' ps' a' b' st' => SubL l l' ∧ ps = ps' ∧ a = a' ∧ b = b' ∧ st = st'
  | _, _ => False
def SubB : List KB → List KB → Prop
  | [], [] => True
  | a :: l, b :: m => SubK a b ∧ SubB l m
  | _, _ => False

/-! ### Other numbers for the known blocks: ρ, the old number of each -/

def posN (i : Nat) : List Nat → Nat → Option Nat
  | [], _ => none
  | a :: l, p => match Nat.beq a i with
    | true => some p
    | false => posN i l (p + 1)
mutual
def renV (ρ : List Nat) : SV → SV
  | .ptr i off => match posN i ρ 0 with
    | some p => .ptr p off
    | none => .any
  | .aptr i off len ix => match posN i ρ 0 with
    | some p => .aptr p off len ix
    | none => .any
  | .all i => match posN i ρ 0 with
    | some p => .all p
    | none => .any
  | .row i lo n => match posN i ρ 0 with
    | some p => .row p lo n
    | none => .any
  | .cs i off n c => match posN i ρ 0 with
    | some p => .cs p off n c
    | none => .any
  | .rptr i j off sz => match posN i ρ 0 with
    | some p => .rptr p j off sz
    | none => .any
  | .map i => match posN i ρ 0 with
    | some p => .map p
    | none => .any
  | .ap i n off => match posN i ρ 0 with
    | some p => .ap p n off
    | none => .any
  | .np i n => match posN i ρ 0 with
    | some p => .np p n
    | none => .any
  | .yl i => match posN i ρ 0 with
    | some p => .yl p
    | none => .any
  | .agg l => .agg (renL ρ l)
  | .tup l => .tup (renL ρ l)
  | .fn f l => .fn f (renL ρ l)
  | .d x => .d x
  | .dptr c off => .dptr c off
  | .v x => .v x
  | .any => .any
def renL (ρ : List Nat) : List SV → List SV
  | [] => []
  | a :: l => renV ρ a :: renL ρ l
end
def renM (ρ : List Nat) : List (List DV × List SV) → List (List DV × List SV)
  | [] => []
  | (k, v) :: l => (k, renL ρ v) :: renM ρ l
def renC (ρ : List Nat) : Col → Col
  | .np i f => match posN i ρ 0 with
    | some p => .np p f
    | none => .any
  | c => c
def renCs (ρ : List Nat) : List Col → List Col
  | [] => []
  | c :: l => renC ρ c :: renCs ρ l
def renK (ρ : List Nat) : KB → KB
  | .cells t l => .cells t (renL ρ l)
  | .map eks ka ea l => .map eks ka ea (renM ρ l)
  | .arena t dom cols => .arena t dom (renCs ρ cols)
  | .loop l ps a b st => .loop (renL ρ l) ps a b st
  | k => k
def renB (ρ : List Nat) (ks : List KB) : List Nat → List KB
  | [] => []
  | o :: l => renK ρ (getB ks o) :: renB ρ ks l
/-- Are all numbers below m, and none twice? -/
def okN (m : Nat) : List Nat → Bool
  | [] => true
  | a :: l => match memN a l, Nat.ble (a + 1) m with
    | false, true => okN m l
    | _, _ => false
/-- Do the first n keep their numbers? -/
def keeps : Nat → Nat → List Nat → Bool
  | 0, _, _ => true
  | _ + 1, _, [] => false
  | n + 1, i, a :: l => match Nat.beq a i with
    | true => keeps n (i + 1) l
    | false => false

/-- All that the second state says the first says, under other numbers. nb: how many of the known blocks are others'. -/
def Subs (nb : Nat) (ρ : List Nat) (ts : List SV) (ks : List KB) (ts' : List SV) (ks' : List KB) : Prop :=
  match okN (lenB ks) ρ, keeps nb 0 ρ with
  | true, true => SubL (renL ρ ts) ts' ∧ SubB (renB ρ ks ρ) ks'
  | _, _ => False

def havocK : List Nat → List SV → (List SV → Prop) → Prop
  | [], l, k => k l
  | t :: ts, l, k => setK l t .any (fun l' => havocK ts l' k)
def updsK : List (Nat × SV) → List SV → (List SV → Prop) → Prop
  | [], l, k => k l
  | (t, v) :: ts, l, k => setK l t v (fun l' => updsK ts l' k)
def updsBK : List (Nat × KB) → List KB → (List KB → Prop) → Prop
  | [], l, k => k l
  | (t, v) :: ts, l, k => setBK l t v (fun l' => updsBK ts l' k)
def headK (body : Code) (ts : List SV) (ks : List KB) (u : List (Nat × SV)) (k : List (Nat × KB)) (c : List SV → List KB → Prop) : Prop :=
  havocK (writes body) ts (fun l => updsK u l (fun ts' => updsBK k ks (fun ks' => c ts' ks')))

/-- What is still to be done. `lp J`: the end of a loop's round, at which J is asked. -/
inductive It where
  | code (c : Code)
  | ops (draw : Bool) (hs : List Bool) (all rest : List Oper)
  | blk (id : Nat)
  | lp (J : List SV → List KB → Prop)
  | again (body : Code)

def popTo (id : Nat) : List It → Option (List It)
  | [] => none
  | .blk i :: r => match Nat.beq i id with
    | true => some r
    | false => popTo id r
  | _ :: r => popTo id r

/-! ### Regions whose order is open -/

def tmpsOf : List Operand → List Nat
  | [] => []
  | .tmp t :: r => t :: tmpsOf r
  | _ :: r => tmpsOf r
/-- The slots that an operation looks at. -/
def looks (all : List Oper) (o : Oper) : List Nat :=
  match o.guard with
  | none => tmpsOf o.op.operands.toList
  | some (j, _) => match dstAt all j with
    | some t => t :: tmpsOf o.op.operands.toList
    | none => tmpsOf o.op.operands.toList
def getN : List Nat → Nat → Nat
  | [], _ => 0
  | a :: _, 0 => a
  | _ :: l, n + 1 => getN l n
def forceK {α : Sort 1} (n : Nat) (k : Nat → α) : α :=
  match n with
  | 0 => k 0
  | m + 1 => k (m + 1)
/-- All that the edges lead to, each number a bit; acc: the same of the operations ahead, the last first, i of them. -/
def befOf (acc : List Nat) (i : Nat) : List Edge → Nat
  | [] => 0
  | e :: r => match Region.binds .any e with
    | true => Nat.lor (Nat.lor (Nat.shiftLeft 1 e.on) (getN acc (i - 1 - e.on))) (befOf acc i r)
    | false => befOf acc i r
def onLt (i : Nat) : List Edge → Bool
  | [] => true
  | e :: r => match Region.binds .any e with
    | true => match Nat.ble (e.on + 1) i with
      | true => onLt i r
      | false => false
    | false => onLt i r
/-- Has it all the bits below m? -/
def covers (m mask : Nat) : Bool := Nat.beq (Nat.land mask (2 ^ m - 1)) (2 ^ m - 1)
def sameDst : Option Tmp → Option Tmp → Bool
  | some a, some b => Nat.beq a b
  | _, _ => false
def offDst : Option Tmp → List Nat → Bool
  | none, _ => true
  | some d, l => match memN d l with
    | true => false
    | false => true
/-- Do two operations keep out of each other's slots? -/
def apart (all : List Oper) (x y : Oper) : Bool :=
  match offDst x.dst (looks all y) with
  | true => offDst y.dst (looks all x)
  | false => false
def pairOk (all : List Oper) (mask i : Nat) (x y : Oper) : Bool :=
  match sameDst x.dst y.dst with
  | true => false
  | false => match Nat.testBit mask i with
    | true => true
    | false => apart all x y
/-- The operations of one stretch, the last first, against the next one. -/
def pairsOk (all : List Oper) (mask : Nat) (y : Oper) : List (Nat × Oper) → Bool
  | [] => true
  | (i, x) :: r => match pairOk all mask i x y with
    | true => pairsOk all mask y r
    | false => false
/-- acc: what each operation ahead waits for, the last first; i: how many; m: where this stretch began; seg: its operations, the last first. -/
def drawGo (all : List Oper) : List Oper → List Bool → List Nat → Nat → Nat → List (Nat × Oper) → Bool
  | [], [], _, _, _, _ => true
  | o :: os, h :: hs, acc, i, m, seg => forceK (befOf acc i o.after.toList) (fun mask => match onLt i o.after.toList, covers m mask with
    | true, true => match h with
      | true => match covers i mask with
        | true => forceK (i + 1) (fun i' => drawGo all os hs (mask :: acc) i' i' [])
        | false => false
      | false => match pairsOk all mask o seg with
        | true => forceK (i + 1) (fun i' => drawGo all os hs (mask :: acc) i' m ((i, o) :: seg))
        | false => false
    | _, _ => false)
  | _, _, _, _, _, _ => false
def revB : List Bool → List Bool → List Bool
  | [], m => m
  | a :: l, m => revB l (a :: m)
/-- Whatever order is picked comes to the order of the text. -/
def drawOk (all : List Oper) (hs : List Bool) : Bool := drawGo all all hs [] 0 0 []

/-- The results of a function, off the temporaries and the known blocks. -/
def resK (TT : Nat → Option TI) (ts : List SV) (ks : List KB) : List ResultVar → (List SV → Prop) → Prop
  | [], c => c []
  | .tmp t :: r, c => getTK ts t (fun v => resK TT ts ks r (fun vs => c (v :: vs)))
  | .cell a t :: r, c => match TT t with
    | none => False
    | some ⟨size, _, agg, _, _, _⟩ => getTK ts a (fun p => match p with
      | .ptr i off => getBK ks i (fun b => match b with
        | .cells _ l => packK agg size l off (fun v => resK TT ts ks r (fun vs => c (v :: vs)))
        | _ => False)
      | _ => False)
/-- The value that a call returns. -/
def retV : List SV → SV
  | [s] => s
  | l => .tup l

def anys : Nat → List SV
  | 0 => []
  | n + 1 => .any :: anys n

/-- A function that is entered where it is called. -/
structure Inl where
  nargs : Nat
  extra : Nat
  results : List ResultVar
  body : Code

def subN : List Nat → List Nat → Bool
  | [], _ => true
  | a :: l, m => match memN a m with
    | true => subN l m
    | false => false
/-- Blocks whose slices of the blocks fr are data from now on. -/
def stillOk (ks : List KB) (fr : List Nat) : List (Nat × TypeId × List SV) → Prop
  | [] => True
  | (j, t, l') :: r => (∃ l, getB ks j = .cells t l ∧ viewCsK ks l (fun m f => m = l' ∧ subN f fr = true) ∧ memN j fr = false) ∧ stillOk ks fr r
def stillPut : List KB → List (Nat × TypeId × List SV) → List KB
  | ks, [] => ks
  | ks, (j, t, l') :: r => stillPut (setB ks j (.cells t l')) r

/-- How a call is met in a region whose order is the text's: as in others; by a contract that leaves several results open; or by one over data, slices of known blocks becoming data for good, in the blocks js too. -/
inductive SeqStop (P : Program) (TT : Nat → Option TI) (f : FuncId) (as : List SV) (tys : List TypeId) (ks : List KB) (K : SV → List KB → Prop) : Prop where
  | one : CallStop P TT f as tys ks (fun _ v k => K v k) → SeqStop P TT f as tys ks K
  | rel (R : SV → List KB → Prop) : COk P f as ks R → (∀ r ks', R r ks' → K r ks') → SeqStop P TT f as tys ks K
  | still (fr : List Nat) (js : List (Nat × TypeId × List SV)) (r : SV) (as' : List SV) : stillOk ks fr js → viewsK TT ks as tys (fun l t => l = as' ∧ subN t fr = true) → FnOk P f as' r → closedL as' = true → closed r = true → K r (stillPut (goneL fr ks) js) → SeqStop P TT f as tys ks K

/-- How a loop is met: `inv`: by what holds at each round's head (ι: what the rounds are counted by; ok: of which of these it is spoken; u: the live slots; k: the known blocks that change; μ falls); `once`: by its first round; `nilT`, `nilC`: an empty nil slice in a slot, or in a cell, is taken as a row ahead of it. -/
inductive LoopStop (nb : Nat) (body : Code) (ts : List SV) (ks : List KB) (round : (List SV → List KB → Prop) → List SV → List KB → Prop) (once : Prop) (again : List SV → List KB → Prop) : Prop where
  | inv (ι : Type) (ok : ι → Prop) (u : ι → List (Nat × SV)) (k : ι → List (Nat × KB)) (μ : ι → Nat) :
      (∃ i ρ, ok i ∧ headK body ts ks (u i) (k i) (fun ts' ks' => Subs nb ρ ts ks ts' ks')) →
      (∀ i, ok i → headK body ts ks (u i) (k i) (fun ts1 ks1 => round (fun ts2 ks2 => ∃ j ρ, ok j ∧ μ j < μ i ∧ headK body ts ks (u j) (k j) (fun ts' ks' => Subs nb ρ ts2 ks2 ts' ks')) ts1 ks1)) → LoopStop nb body ts ks round once again
  | once : once → LoopStop nb body ts ks round once again
  | nilT (t : Nat) (e : TypeId) (sz : Nat) (f : Nat → List DV) (sz' : Nat) (f' : Nat → List DV) : getT ts t = .d (.sl true 0 sz' f') → again (setT ts t (.all (lenB ks))) (addB ks (.row e sz 0 .iff f)) → LoopStop nb body ts ks round once again
  | nilC (i j : Nat) (e : TypeId) (sz : Nat) (f : Nat → List DV) (sz' : Nat) (f' : Nat → List DV) (t : TypeId) (l : List SV) : getB ks i = .cells t l → getT l j = .d (.sl true 0 sz' f') →
      again ts (addB (setB ks i (.cells t (setT l j (.all (lenB ks))))) (.row e sz 0 .iff f)) → LoopStop nb body ts ks round once again

/-- Where the code that is run stands: n: how many of the known blocks are others'; rd: in a round of which range over a function. -/
structure Nb where
  n : Nat
  rd : Option Nat

def setsK : List SV → List Tmp → List SV → (List SV → Prop) → Prop
  | l, [], [], k => k l
  | l, t :: ps, a :: as, k => setK l t a (fun l' => setsK l' ps as k)
  | _, _, _, _ => False
/-- The record of a range over a function goes on. -/
def toK (ks : List KB) (i : Nat) (st : RS) (K : List KB → Prop) : Prop :=
  getBK ks i (fun b => match b with
    | .loop l ps a c _ => setBK ks i (.loop l ps a c st) K
    | _ => False)
/-- One round. -/
def yieldK (rec : Nb → List It → List SV → List KB → (Exit → List SV → List KB → Prop) → Prop) (i : Nat) (as : List SV) (ks : List KB) (K : SV → List KB → Prop) : Prop :=
  getBK ks i (fun b => match b with
    | .loop tc ps asg body st => match st with
      | .ready => setsK tc ps as (fun t1 => lenBK ks 0 (fun nb => rec ⟨nb, some i⟩ [.code asg] t1 ks (fun e t2 k2 => match e with
        | .normal => getBK k2 i (fun b => match b with
          | .loop tc' ps' asg' body' st' => match st' with
            | .ready => setBK k2 i (.loop tc' ps' asg' body' .busy) (fun k3 => rec ⟨nb, some i⟩ [.code body] t2 k3 (fun e _ k4 => match e with
              | .normal => toK k4 i .ready (fun k5 => K (.d .tt) k5)
              | .ret => toK k4 i (.done .ret) (fun k5 => K (.d .ff) k5)
              | .exit id => toK k4 i (.done (.exit id)) (fun k5 => K (.d .ff) k5)
              | _ => False))
            | _ => False
          | _ => False)
        | _ => False)))
      | _ => False
    | _ => False)
def inRdK (nb : Nb) (ks : List KB) (K : Prop) : Prop :=
  match nb.rd with
  | none => K
  | some q => getBK ks q (fun b => match b with
    | .loop _ _ _ _ _ => K
    | _ => False)

/-- One operation, in the order of the text. -/
def execS (P : Program) (TT : Nat → Option TI) (IN : Nat → Option Inl) (rec : Nb → List It → List SV → List KB → (Exit → List SV → List KB → Prop) → Prop) (o : Oper) (ts : List SV) (ks : List KB) (K : List SV → List KB → Prop) : Prop :=
  match o.op with
  | .call ⟨.value g, args, tys⟩ => valK ts g (fun g => match g with
    | .fn f caps => valsK ts args.toList (fun as => appK as caps (fun as => match IN f with
      | some ⟨nargs, extra, results, body⟩ => match Nat.beq (lenL as) nargs with
        | true => appK as (anys extra) (fun ts1 => lenBK ks 0 (fun nb => rec ⟨nb, none⟩ [.code body] ts1 ks (fun e ts2 ks2 => match e with
          | .normal => resK TT ts2 ks2 results (fun vs => putDst o.dst (retV vs) ts (fun ts' => K ts' ks2))
          | .ret => resK TT ts2 ks2 results (fun vs => putDst o.dst (retV vs) ts (fun ts' => K ts' ks2))
          | _ => False)))
        | false => False
      | none => SeqStop P TT f as tys.toList ks (fun v ks' => putDst o.dst v ts (fun ts' => K ts' ks'))))
    | .yl i => valsK ts args.toList (fun as => yieldK rec i as ks (fun v ks' => putDst o.dst v ts (fun ts' => K ts' ks')))
    | _ => False)
  | op => match isMem op || isBytes TT op with
    | true => mev TT ts ks op (fun v ks' => putDst o.dst v ts (fun ts' => K ts' ks'))
    | false => pev P TT ts ks op (fun v => putDst o.dst v ts (fun ts' => K ts' ks))

/-! ### A new block that joins the family of its type -/

def arenaOf (t : TypeId) : List KB → Nat → Option Nat
  | [], _ => none
  | .arena t' _ _ :: l, i => match Nat.beq t' t with
    | true => some i
    | false => arenaOf t l (i + 1)
  | _ :: l, i => arenaOf t l (i + 1)
def absAt (ks : List KB) : List SV → Option (Nat × Nat)
  | [] => none
  | .ptr k _ :: l => match getB ks k with
    | .cells t _ => match arenaOf t ks 0 with
      | some i => some (k, i)
      | none => absAt ks l
    | _ => absAt ks l
  | _ :: l => absAt ks l
def hasArena : List KB → Bool
  | [] => false
  | .arena _ _ _ :: _ => true
  | _ :: l => hasArena l
def absF (ts : List SV) (ks : List KB) : Option (Nat × Nat) :=
  match hasArena ks with
  | true => absAt ks ts
  | false => none
mutual
/-- Known block k is block n of the family i from now on. -/
def subV (k i n : Nat) : SV → SV
  | .ptr j off => match Nat.beq j k with
    | true => .ap i n off
    | false => .ptr j off
  | .agg l => .agg (subL k i n l)
  | .tup l => .tup (subL k i n l)
  | .fn f l => .fn f (subL k i n l)
  | s => s
def subL (k i n : Nat) : List SV → List SV
  | [] => []
  | a :: l => subV k i n a :: subL k i n l
end
mutual
def subVK (k i n : Nat) (s : SV) (K : SV → Prop) : Prop :=
  match s with
  | .ptr j off => match Nat.beq j k with
    | true => K (.ap i n off)
    | false => K (.ptr j off)
  | .agg l => subLK k i n l (fun r => K (.agg r))
  | .tup l => subLK k i n l (fun r => K (.tup r))
  | .fn f l => subLK k i n l (fun r => K (.fn f r))
  | s => K s
def subLK (k i n : Nat) (l : List SV) (K : List SV → Prop) : Prop :=
  match l with
  | [] => K []
  | a :: l => subVK k i n a (fun s => subLK k i n l (fun r => K (s :: r)))
end
def subK (k i n : Nat) : KB → KB
  | .cells t l => .cells t (subL k i n l)
  | .loop l ps a b st => .loop (subL k i n l) ps a b st
  | b => b
def subBK (k i n : Nat) : List KB → (List KB → Prop) → Prop
  | [], K => K []
  | .cells t l :: r, K => subLK k i n l (fun l' => subBK k i n r (fun r' => K (.cells t l' :: r')))
  | .loop l ps a b st :: r, K => subLK k i n l (fun l' => subBK k i n r (fun r' => K (.loop l' ps a b st :: r')))
  | b :: r, K => subBK k i n r (fun r' => K (b :: r'))
def absK (ts : List SV) (ks : List KB) (k i : Nat) (K : List SV → List KB → Prop) : Prop :=
  getBK ks k (fun b => match b with
    | .cells t l => getBK ks i (fun b' => match b' with
      | .arena t' dom cols => match Nat.beq (lenL l) (lenC cols) && Nat.beq t t' with
        | true => ∀ n, n ≠ 0 → ¬ dom n → subLK k i n l (fun l' => putCK cols 0 n l' (fun cols' => setBK ks k .gone (fun k1 => setBK k1 i (.arena t' (fun m => m = n ∨ dom m) cols') (fun k2 => subBK k i n k2 (fun k3 => subLK k i n ts (fun ts' => K ts' k3))))))
        | false => False
      | _ => False)
    | _ => False)

/-! ### Regions whose order is open, and counts: every order is tried -/

def atB : List Bool → Nat → Bool
  | [], _ => false
  | a :: _, 0 => a
  | _ :: l, n + 1 => atB l n
def markB : List Bool → Nat → List Bool
  | [], _ => []
  | _ :: l, 0 => true :: l
  | a :: l, n + 1 => a :: markB l n
def edgesB (done : List Bool) : List Edge → Bool
  | [] => true
  | e :: r => match Region.binds .any e with
    | true => match atB done e.on with
      | true => edgesB done r
      | false => false
    | false => edgesB done r
def falses : List Oper → List Bool
  | [] => []
  | _ :: l => false :: falses l
def allT : List Bool → Bool
  | [] => true
  | true :: l => allT l
  | false :: _ => false
def hasReady (done : List Bool) : Nat → List Oper → Bool
  | _, [] => false
  | i, o :: os => match atB done i with
    | true => hasReady done (i + 1) os
    | false => match edgesB done o.after.toList with
      | true => true
      | false => hasReady done (i + 1) os
def eachK (done : List Bool) (F : Nat → Oper → Prop) : Nat → List Oper → Prop
  | _, [] => True
  | i, o :: os => match atB done i with
    | true => eachK done F (i + 1) os
    | false => match edgesB done o.after.toList with
      | true => F i o ∧ eachK done F (i + 1) os
      | false => eachK done F (i + 1) os
def schedK (P : Program) (TT : Nat → Option TI) (all : List Oper) (K : List SV → List KB → Prop) : Nat → List Bool → List SV → List KB → Prop
  | 0, done, ts, ks => match allT done with
    | true => K ts ks
    | false => False
  | k + 1, done, ts, ks => match hasReady done 0 all with
    | true => eachK done (fun i o => match o.guard with
      | none => exec P TT o ts ks (fun _ ts' ks' => schedK P TT all K k (markB done i) ts' ks')
      | some _ => False) 0 all
    | false => False
def freeEdge : List Edge → Bool
  | [] => false
  | e :: r => match Region.binds .any e with
    | true => freeEdge r
    | false => true
def anyFree : List Oper → Bool
  | [] => false
  | o :: r => match freeEdge o.after.toList with
    | true => true
    | false => anyFree r
def isStore : Op → Bool
  | .store _ _ _ => true
  | _ => false
def anyStore : List Oper → Bool
  | [] => false
  | o :: r => match isStore o.op with
    | true => true
    | false => anyStore r
/-- Does it write memory, in an order that is not bound? -/
def hardR : Bool → List Oper → Bool
  | false, _ => false
  | true, l => match anyStore l with
    | true => anyFree l
    | false => false

/-- One step; `rec` does the rest. -/
def stepF (P : Program) (TT : Nat → Option TI) (IN : Nat → Option Inl) (rec : Nb → List It → List SV → List KB → (Exit → List SV → List KB → Prop) → Prop)
    (nb : Nb) (stk : List It) (ts : List SV) (ks : List KB) (K : Exit → List SV → List KB → Prop) : Prop :=
    match stk with
    | [] => K .normal ts ks
    | .blk _ :: r => rec nb r ts ks K
    | .lp J :: _ => J ts ks
    | .ops true hs all os :: r =>
      match os with
      | [] => match drawOk all (revB hs []) with
          | true => rec nb r ts ks K
          | false => False
      | o :: os => match o.guard with
        | none => exec P TT o ts ks (fun h ts' ks' => rec nb (.ops true (h :: hs) all os :: r) ts' ks' K)
        | some (j, want) => match dstAt all j with
          | none => False
          | some t => getTK ts t (fun g => match g with
            | .d .tt => match want with
              | true => exec P TT o ts ks (fun h ts' ks' => rec nb (.ops true (h :: hs) all os :: r) ts' ks' K)
              | false => putDst o.dst skipV ts (fun ts' => rec nb (.ops true (false :: hs) all os :: r) ts' ks K)
            | .d .ff => match want with
              | false => exec P TT o ts ks (fun h ts' ks' => rec nb (.ops true (h :: hs) all os :: r) ts' ks' K)
              | true => putDst o.dst skipV ts (fun ts' => rec nb (.ops true (false :: hs) all os :: r) ts' ks K)
            | .v (.tuple _) => putDst o.dst skipV ts (fun ts' => rec nb (.ops true (false :: hs) all os :: r) ts' ks K)
            | .d (.bool b) =>
              (b = true → setK ts t (.d .tt) (fun ts => rec nb (.ops true hs all (o :: os) :: r) ts ks K)) ∧
              (b = false → setK ts t (.d .ff) (fun ts => rec nb (.ops true hs all (o :: os) :: r) ts ks K))
            | _ => False)
    | .ops false hs all os :: r =>
      match os with
      | [] => rec nb r ts ks K
      | o :: os => match o.guard with
        | none => execS P TT IN rec o ts ks (fun ts' ks' => rec nb (.ops false hs all os :: r) ts' ks' K)
        | some (j, want) => match dstAt all j with
          | none => False
          | some t => getTK ts t (fun g => match g with
            | .d .tt => match want with
              | true => execS P TT IN rec o ts ks (fun ts' ks' => rec nb (.ops false hs all os :: r) ts' ks' K)
              | false => putDst o.dst skipV ts (fun ts' => rec nb (.ops false hs all os :: r) ts' ks K)
            | .d .ff => match want with
              | false => execS P TT IN rec o ts ks (fun ts' ks' => rec nb (.ops false hs all os :: r) ts' ks' K)
              | true => putDst o.dst skipV ts (fun ts' => rec nb (.ops false hs all os :: r) ts' ks K)
            | .v (.tuple _) => putDst o.dst skipV ts (fun ts' => rec nb (.ops false hs all os :: r) ts' ks K)
            | .d (.bool b) =>
              (b = true → setK ts t (.d .tt) (fun ts => rec nb (.ops false hs all (o :: os) :: r) ts ks K)) ∧
              (b = false → setK ts t (.d .ff) (fun ts => rec nb (.ops false hs all (o :: os) :: r) ts ks K))
            | _ => False)
    | .code c :: r =>
      match c with
      | .skip => rec nb r ts ks K
      | .label _ => rec nb r ts ks K
      | .seq a b => rec nb (.code a :: .code b :: r) ts ks K
      | .block id c => rec nb (.code c :: .blk id :: r) ts ks K
      | .exit id => match popTo id r with
        | some r' => rec nb r' ts ks K
        | none => K (.exit id) ts ks
      | .ret => K .ret ts ks
      | .region id ops draw => match absF ts ks with
        | none => match hardR draw ops.toList with
          | false => rec nb (.ops draw [] ops.toList ops.toList :: r) ts ks K
          | true => ∃ ts' ks', schedK P TT ops.toList (fun t k => t = ts' ∧ k = ks') ops.toList.length (falses ops.toList) ts ks ∧ rec nb r ts' ks' K
        | some (k, i) => absK ts ks k i (fun ts' ks' => rec nb (.code (.region id ops draw) :: r) ts' ks' K)
      | .cond c x y => valK ts c (fun c => match c with
        | .d .tt => rec nb (.code x :: r) ts ks K
        | .d .ff => rec nb (.code y :: r) ts ks K
        | .d (.bool b) => (b = true → rec nb (.code x :: r) ts ks K) ∧ (b = false → rec nb (.code y :: r) ts ks K)
        | _ => False)
      | .loop body => rec nb (.again body :: r) ts ks K
      | .rangeFunc g ps asg body => valK ts g (fun g => match g with
        | .fn f caps => match IN f with
          | some ⟨nargs, extra, results, fb⟩ => match Nat.beq (lenL caps + 1) nargs with
            | true => inRdK nb ks (lenBK ks 0 (fun i => appK (.yl i :: caps) (anys extra) (fun t1 => addBK ks (.loop ts ps.toList asg body .ready) (fun k1 => rec ⟨i + 1, none⟩ [.code fb] t1 k1 (fun e t2 k2 =>
                match e with
                | .normal => resK TT t2 k2 results (fun _ => getBK k2 i (fun b => match b with
                  | .loop _ _ _ _ st => match st with
                    | .ready => setBK k2 i .gone (fun k3 => rec nb r ts k3 K)
                    | .done c => setBK k2 i .gone (fun k3 => rec nb (.code c :: r) ts k3 K)
                    | _ => False
                  | _ => False))
                | .ret => resK TT t2 k2 results (fun _ => getBK k2 i (fun b => match b with
                  | .loop _ _ _ _ st => match st with
                    | .ready => setBK k2 i .gone (fun k3 => rec nb r ts k3 K)
                    | .done c => setBK k2 i .gone (fun k3 => rec nb (.code c :: r) ts k3 K)
                    | _ => False
                  | _ => False))
                | _ => False)))))
            | false => False
          | none => False
        | _ => False)
      | _ => False
    | .again body :: r => LoopStop nb.n body ts ks (fun J ts1 ks1 => rec nb (.code body :: .lp J :: r) ts1 ks1 K) (rec nb (.code body :: .again body :: r) ts ks K) (fun ts1 ks1 => rec nb (.again body :: r) ts1 ks1 K)

/-- The condition under which what is still to be done, in a symbolic state, comes to what is asked of its end. -/
def run (P : Program) (TT : Nat → Option TI) (IN : Nat → Option Inl) (n : Nat) : Nb → List It → List SV → List KB → (Exit → List SV → List KB → Prop) → Prop :=
  Nat.rec (motive := fun _ => Nb → List It → List SV → List KB → (Exit → List SV → List KB → Prop) → Prop) (fun _ _ _ _ _ => False) (fun _ ih => stepF P TT IN ih) n

end Go.Eng
