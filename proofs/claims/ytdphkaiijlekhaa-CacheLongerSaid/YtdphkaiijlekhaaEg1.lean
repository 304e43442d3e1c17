/-
  The engine, part 1: readable data, symbolic values, known blocks, and what they denote in a world. Plain definitions and lemmas; no program in sight.
-/
import Derived.WalkKit
import Derived.CallsIn
import Derived.RangeFuncIn
namespace Go.Eng
open Go Go.RowKit

/-- Data that can be read out of memory. `sl nil n sz f`: a slice of n elements, element i being the cells `f i` (sz of them). -/
inductive DV : Type where
  | int (k : IntKind) (n : Int)
  | bool (b : Bool)
  | tt
  | ff
  | str (s : List UInt8)
  | sl (nil : Bool) (n sz : Nat) (f : Nat → List DV)

/-- Where a known block lies: its number, how many elements it has and has room for, their size, whether it is nil (no block at all). -/
structure Loc where
  b : Nat
  n : Nat
  c : Nat
  sz : Nat
  nil : Bool

/-- Is the slice of a row nil: never; while it is empty, and then alone; perhaps, while it is empty. -/
inductive Z where
  | no | iff | may
deriving DecidableEq
/-- Of fewer elements. -/
def Z.cut : Z → Z
  | .no => .no
  | _ => .may

/-- Symbolic values. -/
inductive SV : Type where
  | d (x : DV)
  | ptr (i off : Nat)
  | aptr (i off len : Nat) (ix : Int)
  | dptr (cells : List DV) (off : Nat)
  | all (i : Nat)
  | row (i lo n : Nat)
  | cs (i off n c : Nat)
  | rptr (i j off sz : Nat)
  | agg (l : List SV)
  | tup (l : List SV)
  | fn (f : FuncId) (caps : List SV)
  | map (i : Nat)
  | ap (i n off : Nat)
  | np (i n : Nat)
  | yl (i : Nat)
  | v (x : Value)
  | any

/-- A cell of a family of blocks, one of each block; blocks are told by their number and one (0: none). -/
inductive Col : Type where
  | int (k : IntKind) (f : Nat → Int)
  | bool (f : Nat → Bool)
  | str (f : Nat → List UInt8)
  | sl (sz : Nat) (nil : Nat → Bool) (n : Nat → Nat) (g : Nat → Nat → List DV)
  | np (i : Nat) (f : Nat → Nat)
  | any
def Col.at : Col → Nat → SV
  | .int k f, b => .d (.int k (f b))
  | .bool f, b => .d (.bool (f b))
  | .str f, b => .d (.str (f b))
  | .sl sz nil n g, b => .d (.sl (nil b) (n b) sz (g b))
  | .np i f, b => .np i (f b)
  | .any, _ => .any
def upd {α : Type} (f : Nat → α) (i : Nat) (a : α) : Nat → α := fun j => if j = i then a else f j
theorem upd_same {α : Type} (f : Nat → α) (i : Nat) (a : α) : upd f i a i = a := by simp [upd]
theorem upd_other {α : Type} (f : Nat → α) {i j : Nat} (a : α) (h : j ≠ i) : upd f i a j = f j := by simp [upd, h]

/-- How the cells of a flat struct or array are compared. -/
inductive EK where
  | int (k : IntKind)
  | bool
  | str
deriving DecidableEq
def fits : EK → Value → Prop
  | .int k, .int k' _ => k = k'
  | .bool, .bool _ => True
  | .str, .string _ => True
  | _, _ => False
def Fits (ks : List EK) (xs : List Value) : Prop := ∀ (j : Nat) (k : EK) (x : Value), ks[j]? = some k → xs[j]? = some x → fits k x

/-- How it stands with a range over a function: between rounds; in one; left by a jump; at its end. -/
inductive RS where
  | ready | busy | done (c : Code) | over
def RSok (r : Loop) : RS → Prop
  | .ready => r.state = .ready ∧ r.pending = none
  | .busy => r.state = .busy
  | .done c => r.state = .done ∧ r.pending = some c
  | .over => True

/-- Known blocks. `row e sz n z f`: n elements; z: when its slice is nil. `map`: entries, in the order in which they came (eks: the kinds of a key's cells; ka, ea: keys, elements are aggregates). `arena`: several blocks of one type. `obj`: something with a law of its own. -/
inductive KB : Type where
  | cells (t : TypeId) (l : List SV)
  | row (e : TypeId) (sz n : Nat) (z : Z) (f : Nat → List DV)
  | map (eks : List EK) (ka ea : Bool) (l : List (List DV × List SV))
  | arena (t : TypeId) (dom : Nat → Prop) (cols : List Col)
  | obj (φ : World → (Nat → Prop) → Loc → (Nat → Prop) → Prop)
  | loop (ts : List SV) (ps : List Tmp) (asg body : Code) (st : RS)
  | gone

def strV (s : List UInt8) : Value := .string ⟨s.toArray⟩

/-- In world w, outside the blocks M (which may still change), value v reads as the datum. -/
inductive Rd (w : World) (M : Nat → Prop) : DV → Value → Prop where
  | int (k : IntKind) (n : Int) : Rd w M (.int k n) (.int k n)
  | bool (b : Bool) : Rd w M (.bool b) (.bool b)
  | tt : Rd w M .tt (.bool true)
  | ff : Rd w M .ff (.bool false)
  | str (s : List UInt8) : Rd w M (.str s) (strV s)
  | nil (sz : Nat) (f : Nat → List DV) : Rd w M (.sl true 0 sz f) (.slice none 0 0)
  | sl (n sz : Nat) (f : Nat → List DV) (ad : Addr) (cap : Nat) (u : Nat → Nat → Value) : n ≤ cap →
      (0 < n → ad.block < w.heap.size ∧ ¬ M ad.block) →
      (∀ i, i < n → (f i).length = sz) →
      (∀ (i j : Nat) (d : DV), i < n → (f i)[j]? = some d → w.cell? (ad.add (i * sz + j)) = some (u i j)) →
      (∀ (i j : Nat) (d : DV), i < n → (f i)[j]? = some d → Rd w M d (u i j)) → Rd w M (.sl false n sz f) (.slice (some ad) n cap)

/-- One step of the world: what is not in M lies as it lay. -/
structure Step (M : Nat → Prop) (w w' : World) : Prop where
  os : w'.os = w.os
  tape : w'.tape = w.tape
  output : w'.output = w.output
  size : w.heap.size ≤ w'.heap.size
  block : ∀ b, b < w.heap.size → ¬ M b → w'.heap[b]? = w.heap[b]?

theorem Step.refl (M : Nat → Prop) (w : World) : Step M w w := ⟨rfl, rfl, rfl, Nat.le_refl _, fun _ _ _ => rfl⟩
theorem Step.trans {M : Nat → Prop} {a b c : World} (h : Step M a b) (k : Step M b c) : Step M a c :=
  ⟨k.os.trans h.os, k.tape.trans h.tape, k.output.trans h.output, Nat.le_trans h.size k.size,
    fun x hx hm => (k.block x (Nat.lt_of_lt_of_le hx h.size) hm).trans (h.block x hx hm)⟩
theorem Step.mono {M M' : Nat → Prop} {a b : World} (h : Step M a b) (hm : ∀ x, x < a.heap.size → M x → M' x) : Step M' a b :=
  ⟨h.os, h.tape, h.output, h.size, fun x hx hn => h.block x hx (fun e => hn (hm x hx e))⟩
theorem Step.of_below {w w' : World} (M : Nat → Prop) (h : Below w.heap.size w w') : Step M w w' :=
  ⟨h.os, h.tape, h.output, h.size, fun b hb _ => h.block b hb⟩
theorem Step.below {w w' : World} (h : Step (fun _ => False) w w') : Below w.heap.size w w' :=
  ⟨h.os, h.tape, h.output, h.size, fun b hb => h.block b hb (fun e => e)⟩
theorem Step.cell {M : Nat → Prop} {w w' : World} (h : Step M w w') {p : Addr} (hp : p.block < w.heap.size) (hm : ¬ M p.block) : w'.cell? p = w.cell? p :=
  World.cell?_of_block (w := w) (h.block p.block hp hm)
theorem Step.drew (M : Nat → Prop) (w : World) : Step M w w.drew := ⟨rfl, rfl, rfl, Nat.le_refl _, fun _ _ _ => rfl⟩
theorem Step.alloc (M : Nat → Prop) (w : World) (o : Obj) : Step M w (w.alloc o) :=
  ⟨rfl, rfl, rfl, by simp, fun b hb _ => Below.heap_alloc w o b hb⟩
theorem Step.setCell {M : Nat → Prop} (w : World) {p : Addr} (hp : M p.block) (u : Value) : Step M w (w.setCell p u) :=
  ⟨rfl, rfl, rfl, by simp, fun b _ hm => Below.heap_setCell w p u b (fun e => hm (e ▸ hp))⟩

/-- What can be read outside of M is read as it was. -/
structure Keep (M : Nat → Prop) (w w' : World) : Prop where
  size : w.heap.size ≤ w'.heap.size
  cell : ∀ (p : Addr) (u : Value), ¬ M p.block → w.cell? p = some u → w'.cell? p = some u
theorem Step.keep {M : Nat → Prop} {w w' : World} (h : Step M w w') : Keep M w w' := ⟨h.size, fun p u hm hp => by
  have hlt : p.block < w.heap.size := by
    rcases Nat.lt_or_ge p.block w.heap.size with e | e
    · exact e
    · simp [World.cell?, Array.getElem?_eq_none e] at hp
  rw [h.cell hlt hm]; exact hp⟩

theorem block_add (a : Addr) (n : Nat) : (a.add n).block = a.block := by unfold Addr.add; split <;> rfl
theorem add_add (a : Addr) (i j : Nat) : (a.add i).add j = a.add (i + j) := by
  unfold Addr.add
  by_cases hi : i = 0 <;> by_cases hj : j = 0 <;> simp [hi, hj, Nat.add_assoc]

theorem Rd.keep {w w' : World} {M M' : Nat → Prop} {x : DV} {v : Value} (h : Rd w M x v) (hs : Keep M w w') (hM : ∀ b, b < w.heap.size → M' b → M b) : Rd w' M' x v := by
  induction h with
  | int k n => exact .int k n
  | bool b => exact .bool b
  | tt => exact .tt
  | ff => exact .ff
  | str s => exact .str s
  | nil sz f => exact .nil sz f
  | sl n sz f ad cap u h1 h3 h4 h5 _ ih =>
    refine .sl n sz f ad cap u h1 (fun hn => ?_) h4 (fun i j d hi hd => ?_) ih
    · obtain ⟨a, b⟩ := h3 hn
      exact ⟨Nat.lt_of_lt_of_le a hs.size, fun e => b (hM _ a e)⟩
    · obtain ⟨a, b⟩ := h3 (by omega)
      exact hs.cell _ _ (by rw [block_add]; exact b) (h5 i j d hi hd)
theorem Rd.mono {w w' : World} {M M' : Nat → Prop} {x : DV} {v : Value} (h : Rd w M x v) (hs : Step M w w') (hM : ∀ b, b < w.heap.size → M' b → M b) : Rd w' M' x v := h.keep hs.keep hM

/-- Only the elements below n count. -/
theorem Rd.congr {w : World} {M : Nat → Prop} {b : Bool} {n sz : Nat} {f g : Nat → List DV} {v : Value} (h : Rd w M (.sl b n sz f) v) (hf : ∀ i, i < n → f i = g i) : Rd w M (.sl b n sz g) v := by
  cases h with
  | nil => exact .nil sz g
  | sl _ _ _ ad cap u h1 h3 h4 h5 h6 =>
    refine .sl n sz g ad cap u h1 h3 (fun i hi => hf i hi ▸ h4 i hi) (fun i j d hi hd => h5 i j d hi (by rw [hf i hi]; exact hd)) (fun i j d hi hd => h6 i j d hi (by rw [hf i hi]; exact hd))
/-- Of no elements the width does not count. -/
theorem Rd.width {w : World} {M : Nat → Prop} {b : Bool} {sz sz' : Nat} {f g : Nat → List DV} {v : Value} (h : Rd w M (.sl b 0 sz f) v) : Rd w M (.sl b 0 sz' g) v := by
  cases h with
  | nil => exact .nil sz' g
  | sl _ _ _ ad cap u h1 h3 h4 h5 h6 =>
    exact .sl 0 sz' g ad cap u h1 h3 (fun i hi => absurd hi (by omega)) (fun i j d hi => absurd hi (by omega)) (fun i j d hi => absurd hi (by omega))

abbrev Env := Nat → Option Loc
def noE : Env := fun _ => none
/-- All that is known of places is known still. -/
def Ext (β β' : Env) : Prop := ∀ i L, β i = some L → β' i = some L
theorem Ext.refl (β : Env) : Ext β β := fun _ _ h => h
theorem Ext.trans {a b c : Env} (h : Ext a b) (k : Ext b c) : Ext a c := fun i L e => k i L (h i L e)
theorem ext_noE (β : Env) : Ext noE β := fun _ _ h => by cases h

/-- What a symbolic value stands for. β: where each known block lies (or lay). -/
inductive Den (w : World) (M : Nat → Prop) (β : Env) : SV → Value → Prop where
  | d {x : DV} {v : Value} : Rd w M x v → Den w M β (.d x) v
  | ptr (i off : Nat) (L : Loc) : β i = some L → Den w M β (.ptr i off) (.pointer (some ⟨L.b, off, none⟩))
  | aptr (i off len : Nat) (ix : Int) (L : Loc) : 0 ≤ ix → ix < len → β i = some L → Den w M β (.aptr i off len ix) (.pointer (some ⟨L.b, off + ix.toNat, none⟩))
  | dptr (cells : List DV) (off : Nat) (ad : Addr) (u : Nat → Value) : ad.block < w.heap.size → ¬ M ad.block → (∀ (j : Nat) (d : DV), cells[j]? = some d → w.cell? (ad.add j) = some (u j)) →
      (∀ (j : Nat) (d : DV), cells[j]? = some d → Rd w M d (u j)) → Den w M β (.dptr cells off) (.pointer (some (ad.add off)))
  | allNil (i : Nat) (L : Loc) : β i = some L → L.nil = true → Den w M β (.all i) (.slice none 0 0)
  | all (i : Nat) (L : Loc) : β i = some L → L.nil = false → Den w M β (.all i) (.slice (some ⟨L.b, 0, none⟩) L.n L.c)
  | rowNil (i : Nat) (L : Loc) : β i = some L → L.nil = true → Den w M β (.row i 0 0) (.slice none 0 0)
  | row (i lo n off : Nat) (L : Loc) : β i = some L → L.nil = false → lo + n ≤ L.c → (lo < L.c ∨ lo = 0 → off = lo * L.sz) → Den w M β (.row i lo n) (.slice (some ⟨L.b, off, none⟩) n (L.c - lo))
  | cs (i off n c : Nat) (L : Loc) : β i = some L → n ≤ c → Den w M β (.cs i off n c) (.slice (some ⟨L.b, off, none⟩) n c)
  | rptr (i j off sz : Nat) (L : Loc) : β i = some L → j < L.n → Den w M β (.rptr i j off sz) (.pointer (some ⟨L.b, j * sz + off, none⟩))
  | agg (l : List SV) (vs : List Value) : l.length = vs.length → (∀ (j : Nat) (s : SV) (u : Value), l[j]? = some s → vs[j]? = some u → Den w M β s u) → (∀ u ∈ vs, u.oneCell' = true) → Den w M β (.agg l) (.agg vs.toArray)
  | tup (l : List SV) (vs : List Value) : l.length = vs.length → (∀ (j : Nat) (s : SV) (u : Value), l[j]? = some s → vs[j]? = some u → Den w M β s u) → Den w M β (.tup l) (.tuple vs.toArray)
  | fn (f : FuncId) (caps : List SV) (vs : List Value) : caps.length = vs.length → (∀ (j : Nat) (s : SV) (u : Value), caps[j]? = some s → vs[j]? = some u → Den w M β s u) → Den w M β (.fn f caps) (.func (.func f) #[] vs.toArray)
  | map (i : Nat) (L : Loc) : β i = some L → Den w M β (.map i) (.map (some L.b))
  | ap (i n off : Nat) (L : Loc) : β i = some L → Den w M β (.ap i (n + 1) off) (.pointer (some ⟨n, off, none⟩))
  | npNil (i : Nat) : Den w M β (.np i 0) (.pointer none)
  | np (i n : Nat) (L : Loc) : β i = some L → Den w M β (.np i (n + 1)) (.pointer (some ⟨n, 0, none⟩))
  | yl (i : Nat) (L : Loc) : β i = some L → Den w M β (.yl i) (.func (.yield L.b) #[] #[])
  | v (x : Value) : Den w M β (.v x) x
  | any (x : Value) : Den w M β .any x

/-- Later, fewer blocks that may change, more known places. -/
theorem Den.keep {w w' : World} {M M' : Nat → Prop} {β β' : Env} {s : SV} {v : Value} (h : Den w M β s v) (hs : Keep M w w') (hM : ∀ b, b < w.heap.size → M' b → M b) (hb : Ext β β') : Den w' M' β' s v := by
  induction h with
  | d h => exact .d (h.keep hs hM)
  | ptr i off L h => exact .ptr i off L (hb _ _ h)
  | aptr i off len ix L h1 h2 h3 => exact .aptr i off len ix L h1 h2 (hb _ _ h3)
  | dptr cells off ad u h1 h2 h3 h4 =>
    exact .dptr cells off ad u (Nat.lt_of_lt_of_le h1 hs.size) (fun e => h2 (hM _ h1 e)) (fun j d hd => hs.cell _ _ (by rw [block_add]; exact h2) (h3 j d hd)) (fun j d hd => (h4 j d hd).keep hs hM)
  | allNil i L h1 h2 => exact .allNil i L (hb _ _ h1) h2
  | all i L h1 h2 => exact .all i L (hb _ _ h1) h2
  | rowNil i L h1 h2 => exact .rowNil i L (hb _ _ h1) h2
  | row i lo n off L h1 h2 h3 h4 => exact .row i lo n off L (hb _ _ h1) h2 h3 h4
  | cs i off n c L h h1 => exact .cs i off n c L (hb _ _ h) h1
  | rptr i j off sz L h h1 => exact .rptr i j off sz L (hb _ _ h) h1
  | agg l vs h1 _ h3 ih => exact .agg l vs h1 (fun j s u a b => ih j s u a b) h3
  | tup l vs h1 _ ih => exact .tup l vs h1 (fun j s u a b => ih j s u a b)
  | fn f caps vs h1 _ ih => exact .fn f caps vs h1 (fun j s u a b => ih j s u a b)
  | map i L h => exact .map i L (hb _ _ h)
  | ap i n off L h => exact .ap i n off L (hb _ _ h)
  | npNil i => exact .npNil i
  | np i n L h => exact .np i n L (hb _ _ h)
  | yl i L h => exact .yl i L (hb _ _ h)
  | v x => exact .v x
  | any x => exact .any x

theorem Den.mono {w w' : World} {M M' : Nat → Prop} {β β' : Env} {s : SV} {v : Value} (h : Den w M β s v) (hs : Step M w w') (hM : ∀ b, b < w.heap.size → M' b → M b) (hb : Ext β β') : Den w' M' β' s v := h.keep hs.keep hM hb

/-- Cells as a value. -/
def mkVal (agg : Bool) (cs : List Value) : Value := if agg then .agg cs.toArray else cs.headD undef

/-- A law of a thing that lies in blocks of its own: it stands as long as these lie as they lay. -/
def Stable (φ : World → (Nat → Prop) → Loc → (Nat → Prop) → Prop) : Prop := ∀ w w' M M' L fp, φ w M L fp → Keep M w w' → (∀ b, fp b → w'.heap[b]? = w.heap[b]?) → (∀ b, b < w.heap.size → M' b → M b) → φ w' M' L fp

/-- An entry of a map. -/
structure EntAt (w : World) (M : Nat → Prop) (β : Env) (eks : List EK) (ka ea : Bool) (p : List DV × List SV) (e : MapEntry) : Prop where
  ex : ∃ kc vc : List Value, e.key = mkVal ka kc ∧ e.val = mkVal ea vc ∧ p.1.length = kc.length ∧ p.2.length = vc.length ∧ kc.length = eks.length ∧ (ka = false → kc.length = 1) ∧ (ea = false → vc.length = 1) ∧ Fits eks kc ∧
    (∀ (q : Nat) (d : DV) (u : Value), p.1[q]? = some d → kc[q]? = some u → Rd w M d u) ∧ (∀ (q : Nat) (s : SV) (u : Value), p.2[q]? = some s → vc[q]? = some u → Den w M β s u) ∧ (∀ u ∈ vc, u.oneCell' = true)
theorem EntAt.keep {w w' : World} {M M' : Nat → Prop} {β β' : Env} {eks : List EK} {ka ea : Bool} {p : List DV × List SV} {e : MapEntry} (h : EntAt w M β eks ka ea p e) (hs : Keep M w w') (hM : ∀ b, b < w.heap.size → M' b → M b) (hb : Ext β β') : EntAt w' M' β' eks ka ea p e := by
  obtain ⟨kc, vc, a1, a2, a3, a4, a5, a6, a7, a8, a9, a10, a11⟩ := h.ex
  exact ⟨kc, vc, a1, a2, a3, a4, a5, a6, a7, a8, fun q d u hd hu => (a9 q d u hd hu).keep hs hM, fun q s u hd hu => (a10 q s u hd hu).keep hs hM hb, a11⟩

/-- A known block lies in the world as it is known; fp: the blocks that belong to it. -/
inductive KBat (w : World) (M : Nat → Prop) (β : Env) (L : Loc) (fp : Nat → Prop) : KB → Prop where
  | cells (t : TypeId) (l : List SV) (vs : Array Value) : (∀ x, fp x ↔ x = L.b) → w.heap[L.b]? = some (.cells vs t (0, 0)) → l.length = vs.size →
      (∀ (j : Nat) (s : SV) (u : Value), l[j]? = some s → vs[j]? = some u → Den w M β s u) → (∀ (j : Nat) (u : Value), vs[j]? = some u → u.oneCell' = true) → KBat w M β L fp (.cells t l)
  | rowNil (e : TypeId) (sz : Nat) (z : Z) (f : Nat → List DV) : (∀ x, ¬ fp x) → L.nil = true → L.c = 0 → L.n = 0 → z ≠ .no → KBat w M β L fp (.row e sz 0 z f)
  | row (e : TypeId) (sz n : Nat) (z : Z) (f : Nat → List DV) (vs : Array Value) (fz : Nat × Nat) : (∀ x, fp x ↔ x = L.b) → L.nil = false → L.sz = sz → L.n = n → (z = .iff → 0 < n) →
      w.heap[L.b]? = some (.cells vs e fz) → (∀ o, o < vs.size → ¬ (fz.1 ≤ o ∧ o < fz.2)) → vs.size = L.c * sz → n ≤ L.c →
      (∀ k, k < n → (f k).length = sz) → (∀ (k j : Nat) (d : DV) (u : Value), k < n → (f k)[j]? = some d → vs[k * sz + j]? = some u → Rd w M d u) → (∀ (j : Nat) (u : Value), vs[j]? = some u → u.oneCell' = true) → KBat w M β L fp (.row e sz n z f)
  | map (eks : List EK) (ka ea : Bool) (l : List (List DV × List SV)) (es : Array MapEntry) (clock : Nat) : (∀ x, fp x ↔ x = L.b) → w.heap[L.b]? = some (.map es clock) → l.length = es.size →
      (∀ (j : Nat) (p : List DV × List SV) (e : MapEntry), l[j]? = some p → es[j]? = some e → EntAt w M β eks ka ea p e) → KBat w M β L fp (.map eks ka ea l)
  | arena (t : TypeId) (dom : Nat → Prop) (cols : List Col) : (∀ x, fp x ↔ dom (x + 1)) → ¬ dom 0 → (∀ x, dom (x + 1) → ∃ vs : Array Value, w.heap[x]? = some (.cells vs t (0, 0)) ∧ vs.size = cols.length ∧
      (∀ (j : Nat) (c : Col) (u : Value), cols[j]? = some c → vs[j]? = some u → Den w M β (c.at (x + 1)) u) ∧ (∀ (j : Nat) (u : Value), vs[j]? = some u → u.oneCell' = true)) → KBat w M β L fp (.arena t dom cols)
  | obj (φ : World → (Nat → Prop) → Loc → (Nat → Prop) → Prop) : Stable φ → φ w M L fp → KBat w M β L fp (.obj φ)
  | loop (ts : List SV) (ps : List Tmp) (asg body : Code) (st : RS) (r : Loop) : (∀ x, fp x ↔ x = L.b) → w.heap[L.b]? = some (.loop r) → ts.length = r.tmps.size →
      (∀ (j : Nat) (s : SV) (u : Value), ts[j]? = some s → r.tmps[j]? = some u → Den w M β s u) → r.params.toList = ps → r.assign = asg → r.body = body → RSok r st → KBat w M β L fp (.loop ts ps asg body st)

/-- The blocks that may still change. -/
def Mx (X : Nat → Prop) (fp : Nat → Nat → Prop) : Nat → Prop := fun b => X b ∨ ∃ i, fp i b

theorem KBat.keep {w w' : World} {M M' : Nat → Prop} {β β' : Env} {L : Loc} {fp : Nat → Prop} {k : KB} (h : KBat w M β L fp k) (hs : Keep M w w') (hM : ∀ b, b < w.heap.size → M' b → M b) (hβ : Ext β β')
    (hb : ∀ b, fp b → w'.heap[b]? = w.heap[b]?) : KBat w' M' β' L fp k := by
  cases h with
  | cells t l vs h0 h1 h3 h4 h5 => exact .cells t l vs h0 ((hb _ ((h0 _).2 rfl)).trans h1) h3 (fun j s u a b => (h4 j s u a b).keep hs hM hβ) h5
  | rowNil e sz z f h0 h1 h2 h3 h4 => exact .rowNil e sz z f h0 h1 h2 h3 h4
  | row e sz n z f vs fz h0 h1 h2 hn h3 h4 h5 h6 h7 h8 h9 h10 => exact .row e sz n z f vs fz h0 h1 h2 hn h3 ((hb _ ((h0 _).2 rfl)).trans h4) h5 h6 h7 h8 (fun k j d u a b c => (h9 k j d u a b c).keep hs hM) h10
  | map eks ka ea l es clock h0 h1 h2 h3 => exact .map eks ka ea l es clock h0 ((hb _ ((h0 _).2 rfl)).trans h1) h2 (fun j p e hp he => (h3 j p e hp he).keep hs hM hβ)
  | arena t dom cols h0 h1 h2 =>
    refine .arena t dom cols h0 h1 (fun x hx => ?_)
    obtain ⟨vs, a1, a2, a3, a4⟩ := h2 x hx
    exact ⟨vs, (hb _ ((h0 _).2 hx)).trans a1, a2, fun j c u hc hu => (a3 j c u hc hu).keep hs hM hβ, a4⟩
  | obj φ h1 h2 => exact .obj φ h1 (h1 _ _ _ _ _ _ h2 hs hb hM)
  | loop ts ps asg body st r h0 h1 h2 h3 h4 h5 h6 h7 => exact .loop ts ps asg body st r h0 ((hb _ ((h0 _).2 rfl)).trans h1) h2 (fun j s u a b => (h3 j s u a b).keep hs hM hβ) h4 h5 h6 h7

theorem KBat.mono {w w' : World} {M M' : Nat → Prop} {β β' : Env} {L : Loc} {fp : Nat → Prop} {k : KB} (h : KBat w M β L fp k) (hs : Step M w w') (hM : ∀ b, b < w.heap.size → M' b → M b) (hβ : Ext β β')
    (hb : ∀ b, fp b → w'.heap[b]? = w.heap[b]?) : KBat w' M' β' L fp k := h.keep hs.keep hM hβ hb

/-- What is known of the memory is so. X: blocks of others' that may still change, and are not touched here; fp: the blocks that belong to each known one. -/
structure Mem0 (X : Nat → Prop) (w : World) (β : Env) (fp : Nat → Nat → Prop) (ks : List KB) : Prop where
  xa : ∀ b, X b → b < w.heap.size
  xb : ∀ i b, fp i b → ¬ X b
  dis : ∀ i j b, fp i b → fp j b → i = j
  kw : ∀ i b, fp i b → b < w.heap.size
  kn : ∀ i b, fp i b → ∃ L, β i = some L
  kb : ∀ (i : Nat) (L : Loc) (k : KB), ks[i]? = some k → k ≠ .gone → β i = some L → KBat w (Mx X fp) β L (fp i) k
/-- Likewise, and nothing lies anywhere under a greater number. -/
structure Mem (X : Nat → Prop) (w : World) (β : Env) (fp : Nat → Nat → Prop) (ks : List KB) : Prop extends Mem0 X w β fp ks where
  kl : ∀ i, ks.length ≤ i → β i = none
  ka : ∀ i t dom cols, ks[i]? = some (.arena t dom cols) → ∃ L, β i = some L

/-- What becomes of a memory: only what was known has changed, and what is known of it is so again. -/
structure Went (X : Nat → Prop) (w : World) (β : Env) (fp : Nat → Nat → Prop) (w' : World) (β' : Env) (fp' : Nat → Nat → Prop) (ks' : List KB) : Prop where
  mem : Mem X w' β' fp' ks'
  st : Step (fun b => ∃ i, fp i b) w w'
  ext : Ext β β'
  own : ∀ i b, fp' i b → (∃ j, fp j b) ∨ w.heap.size ≤ b

theorem Went.refl {X : Nat → Prop} {w : World} {β : Env} {fp : Nat → Nat → Prop} {ks : List KB} (h : Mem X w β fp ks) : Went X w β fp w β fp ks :=
  ⟨h, Step.refl _ _, Ext.refl _, fun i _ hb => .inl ⟨i, hb⟩⟩
theorem Went.trans {X : Nat → Prop} {w w1 w2 : World} {β β1 β2 : Env} {fp fp1 fp2 : Nat → Nat → Prop} {ks1 ks2 : List KB} (h : Went X w β fp w1 β1 fp1 ks1) (k : Went X w1 β1 fp1 w2 β2 fp2 ks2) : Went X w β fp w2 β2 fp2 ks2 :=
  ⟨k.mem, ⟨k.st.os.trans h.st.os, k.st.tape.trans h.st.tape, k.st.output.trans h.st.output, Nat.le_trans h.st.size k.st.size, fun b hb hm =>
      (k.st.block b (Nat.lt_of_lt_of_le hb h.st.size) (fun ⟨i, hi⟩ => (h.own i b hi).elim hm (fun e => by omega))).trans (h.st.block b hb hm)⟩,
    h.ext.trans k.ext, fun i b hb => (k.own i b hb).elim (fun ⟨j, hj⟩ => h.own j b hj) (fun e => .inr (Nat.le_trans h.st.size e))⟩
/-- What stood for something stands for it still. -/
theorem Went.den {X : Nat → Prop} {w w' : World} {β β' : Env} {fp fp' : Nat → Nat → Prop} {ks' : List KB} (h : Went X w β fp w' β' fp' ks') {s : SV} {v : Value} (hd : Den w (Mx X fp) β s v) : Den w' (Mx X fp') β' s v :=
  hd.mono (h.st.mono (fun _ _ e => .inr e)) (fun b hb hm => hm.imp id (fun ⟨i, hi⟩ => (h.own i b hi).elim id (fun e => by omega))) h.ext

/-- Deferred calls are nothing but marks of loops over functions, in whose rounds nothing was deferred. -/
structure Dfs (w0 w : World) (M : Nat → Prop) (ds : List Deferred) : Prop where
  marks : ∀ d ∈ ds, ∃ r, d.target = .collected r ∧ w0.heap.size ≤ r ∧ w.heap[r]? = some (.deferred (some [])) ∧ ¬ M r
  un : ds.Pairwise (fun d e => ∀ r r', d.target = .collected r → e.target = .collected r' → r ≠ r')
theorem Dfs.nil (w0 w : World) (M : Nat → Prop) : Dfs w0 w M [] := ⟨fun d h => by simp at h, .nil⟩
theorem Dfs.mono {w0 w w' : World} {M M' : Nat → Prop} {ds : List Deferred} (h : Dfs w0 w M ds) (hs : Step M w w') (hM : ∀ b, b < w.heap.size → M' b → M b) : Dfs w0 w' M' ds :=
  ⟨fun d hd => by
    obtain ⟨r, h1, h2, h3, h4⟩ := h.marks d hd
    have hr : r < w.heap.size := by
      rcases Nat.lt_or_ge r w.heap.size with e | e
      · exact e
      · rw [Array.getElem?_eq_none e] at h3; cases h3
    exact ⟨r, h1, h2, (hs.block r hr h4).trans h3, fun e => h4 (hM r hr e)⟩, h.un⟩

/-- What a run of code began with. -/
structure Bs where
  X : Nat → Prop
  w0 : World
  β0 : Env
  fp0 : Nat → Nat → Prop

/-- The symbolic state fits the activation and the world. -/
structure Sat (B : Bs) (w : World) (β : Env) (fp : Nat → Nat → Prop) (ts : List SV) (ks : List KB) (a : Act) : Prop where
  went : Went B.X B.w0 B.β0 B.fp0 w β fp ks
  df : Dfs B.w0 w (Mx B.X fp) a.defers
  len : a.tmps.size = ts.length
  tm : ∀ (t : Nat) (s : SV) (v : Value), ts[t]? = some s → a.tmps[t]? = some v → Den w (Mx B.X fp) β s v

/-- The state goes on. -/
theorem Sat.on {B : Bs} {w w' : World} {β β' : Env} {fp fp' : Nat → Nat → Prop} {ts : List SV} {ks ks' : List KB} {a : Act} (h : Sat B w β fp ts ks a) (k : Went B.X w β fp w' β' fp' ks') : Sat B w' β' fp' ts ks' a :=
  ⟨h.went.trans k, h.df.mono (k.st.mono (fun _ _ e => .inr e)) (fun b hb hm => hm.imp id (fun ⟨i, hi⟩ => (k.own i b hi).elim id (fun e => by omega))), h.len, fun t s v a b => k.den (h.tm t s v a b)⟩

end Go.Eng
