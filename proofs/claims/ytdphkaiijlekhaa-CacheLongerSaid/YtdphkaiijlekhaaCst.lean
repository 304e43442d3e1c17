/-
  The cache as known blocks: [the cache, its links, its map]. Plain lemmas.
-/
import Derived.Test.YtdphkaiijlekhaaThing
import Derived.Test.YtdphkaiijlekhaaEgD
namespace Go.Proofs.Ytdphkaiijlekhaa
open Go Go.Eng
/-- A cache: its ring's link, its links (told by their numbers), the places that it knows. -/
structure CSt where
  room : Int
  r : Nat
  dom : Nat → Prop
  nm : Nat → List UInt8
  ty : Nat → Int
  ttl : Nat → Int
  ni : Nat → Bool
  ln : Nat → Nat
  dg : Nat → Nat → List DV
  rk : Nat → Int
  no : Nat → Bool
  nb : Nat → Bool
  til : Nat → Int
  an : Nat → List UInt8
  ak : Nat → Int
  bf : Nat → Nat
  bh : Nat → Nat
  m : List (List UInt8 × Int × Nat)
def ent (i : Nat) (e : List UInt8 × Int × Nat) : List DV × List SV := ([.str e.1, .int .u16 e.2.1], [.ap i e.2.2 0])
def entL (i : Nat) : List (List UInt8 × Int × Nat) → List (List DV × List SV)
  | [] => []
  | e :: l => ent i e :: entL i l
def CSt.cols (c : CSt) (i : Nat) : List Col := [.str c.nm, .int .u16 c.ty, .int .u32 c.ttl, .sl 1 c.ni c.ln c.dg, .int .u8 c.rk, .bool c.no, .bool c.nb, .int .i64 c.til, .str c.an, .int .u16 c.ak, .np i c.bf, .np i c.bh]
/-- The known blocks, from number j on. -/
def CSt.ks (c : CSt) (j : Nat) : List KB := [.cells 100 [.d (.int .i64 c.room), .np (j + 1) c.r, .map (j + 2)], .arena 108 c.dom (c.cols (j + 1)), .map [EK.str, EK.int .u16] true false (entL (j + 1) c.m)]
def CSt.th (c : CSt) (q : Nat) : Th := ⟨c.nm q, c.ty q, c.ttl q, c.ni q, c.ln q, c.dg q, c.rk q, c.no q, c.nb q, c.til q⟩
structure CSt.Wf (c : CSt) : Prop where
  h0 : ¬ c.dom 0
  hr : c.dom c.r
  hbf : ∀ n, c.dom n → c.dom (c.bf n)
  hbh : ∀ n, c.dom n → c.dom (c.bh n)
  hm : ∀ e ∈ c.m, c.dom e.2.2 ∧ c.an e.2.2 = e.1 ∧ c.ak e.2.2 = e.2.1 ∧ (c.ni e.2.2 = true → c.ln e.2.2 = 0) ∧ c.ln e.2.2 ≤ 100000 ∧ c.til e.2.2 ≤ 9223372036854775807
/-- What is known of a place. -/
def fnd {α : Type} : List (List UInt8 × Int × α) → List UInt8 → Int → Option α
  | [], _, _ => none
  | e :: l, a, k => if a = e.1 ∧ k = e.2.1 then some e.2.2 else fnd l a k
def put {α : Type} : List (List UInt8 × Int × α) → List UInt8 → Int → α → List (List UInt8 × Int × α)
  | [], a, k, x => [(a, k, x)]
  | e :: l, a, k, x => if a = e.1 ∧ k = e.2.1 then (a, k, x) :: l else e :: put l a k x
def del {α : Type} : List (List UInt8 × Int × α) → List UInt8 → Int → List (List UInt8 × Int × α)
  | [], _, _ => []
  | e :: l, a, k => if a = e.1 ∧ k = e.2.1 then l else e :: del l a k
theorem keyEq_ent (a : List UInt8) (k : Int) (e : List UInt8 × Int × Nat) (i : Nat) : keyEq [.str a, .int .u16 k] (ent i e).1 = decide (a = e.1 ∧ k = e.2.1) := by
  rw [Bool.eq_iff_iff]
  simp [ent, keyEq, dEq, kEq]
theorem find_ent (i : Nat) (l : List (List UInt8 × Int × Nat)) (a : List UInt8) (k : Int) : findM (entL i l) [.str a, .int .u16 k] = (fnd l a k).map (fun q => [.ap i q 0]) := by
  induction l with
  | nil => rfl
  | cons e l ih =>
    show (if keyEq [.str a, .int .u16 k] (ent i e).1 then some (ent i e).2 else findM (entL i l) [.str a, .int .u16 k]) = _
    rw [keyEq_ent, ih, fnd]
    by_cases h : a = e.1 ∧ k = e.2.1
    · simp [h, ent]
    · simp [h]
theorem put_ent (i : Nat) (l : List (List UInt8 × Int × Nat)) (a : List UInt8) (k : Int) (q : Nat) : putM (entL i l) [.str a, .int .u16 k] [.ap i q 0] = entL i (put l a k q) := by
  induction l with
  | nil => rfl
  | cons e l ih =>
    show (if keyEq [.str a, .int .u16 k] (ent i e).1 then _ else ent i e :: putM (entL i l) [.str a, .int .u16 k] [.ap i q 0]) = _
    rw [keyEq_ent, ih, put]
    by_cases h : a = e.1 ∧ k = e.2.1
    · simp [h, ent, entL]
    · simp [h, entL]
theorem del_ent (i : Nat) (l : List (List UInt8 × Int × Nat)) (a : List UInt8) (k : Int) : delM (entL i l) [.str a, .int .u16 k] = entL i (del l a k) := by
  induction l with
  | nil => rfl
  | cons e l ih =>
    show (if keyEq [.str a, .int .u16 k] (ent i e).1 then entL i l else ent i e :: delM (entL i l) [.str a, .int .u16 k]) = _
    rw [keyEq_ent, ih, del]
    by_cases h : a = e.1 ∧ k = e.2.1
    · simp [h]
    · simp [h, entL]
theorem entL_length (i : Nat) (l : List (List UInt8 × Int × Nat)) : (entL i l).length = l.length := by
  induction l with
  | nil => rfl
  | cons e l ih => simp [entL, ih]
theorem fnd_mem {α : Type} {l : List (List UInt8 × Int × α)} {a : List UInt8} {k : Int} {q : α} (h : fnd l a k = some q) : (a, k, q) ∈ l := by
  induction l with
  | nil => cases h
  | cons e l ih =>
    simp only [fnd] at h
    split at h
    · rename_i e1
      simp only [Option.some.injEq] at h
      obtain ⟨rfl, rfl⟩ := e1
      subst h
      exact List.mem_cons_self ..
    · exact List.mem_cons_of_mem _ (ih h)
theorem del_mem {α : Type} {l : List (List UInt8 × Int × α)} {a : List UInt8} {k : Int} {e : List UInt8 × Int × α} (h : e ∈ del l a k) : e ∈ l := by
  induction l with
  | nil => cases h
  | cons x l ih =>
    simp only [del] at h
    split at h
    · exact List.mem_cons_of_mem _ h
    · rcases List.mem_cons.1 h with rfl | h
      · exact List.mem_cons_self ..
      · exact List.mem_cons_of_mem _ (ih h)
theorem put_mem {α : Type} {l : List (List UInt8 × Int × α)} {a : List UInt8} {k : Int} {x : α} {e : List UInt8 × Int × α} (h : e ∈ put l a k x) : e = (a, k, x) ∨ e ∈ l := by
  induction l with
  | nil => exact .inl (by simpa [put] using h)
  | cons y l ih =>
    simp only [put] at h
    split at h
    · rcases List.mem_cons.1 h with rfl | h
      · exact .inl rfl
      · exact .inr (List.mem_cons_of_mem _ h)
    · rcases List.mem_cons.1 h with rfl | h
      · exact .inr (List.mem_cons_self ..)
      · exact (ih h).imp id (List.mem_cons_of_mem _)
def absL (f : Nat → Th) : List (List UInt8 × Int × Nat) → List (List UInt8 × Int × Th)
  | [] => []
  | e :: l => (e.1, e.2.1, f e.2.2) :: absL f l
theorem fnd_abs (f : Nat → Th) (l : List (List UInt8 × Int × Nat)) (a : List UInt8) (k : Int) : fnd (absL f l) a k = (fnd l a k).map f := by
  induction l with
  | nil => rfl
  | cons e l ih => simp only [absL, fnd]; split <;> simp [ih]
theorem put_abs (f : Nat → Th) (l : List (List UInt8 × Int × Nat)) (a : List UInt8) (k : Int) (q : Nat) : absL f (put l a k q) = put (absL f l) a k (f q) := by
  induction l with
  | nil => rfl
  | cons e l ih => simp only [absL, put]; split <;> simp [absL, ih]
theorem del_abs (f : Nat → Th) (l : List (List UInt8 × Int × Nat)) (a : List UInt8) (k : Int) : absL f (del l a k) = del (absL f l) a k := by
  induction l with
  | nil => rfl
  | cons e l ih => simp only [absL, del]; split <;> simp [absL, ih]
theorem absL_congr {f g : Nat → Th} {l : List (List UInt8 × Int × Nat)} (h : ∀ e ∈ l, f e.2.2 = g e.2.2) : absL f l = absL g l := by
  induction l with
  | nil => rfl
  | cons e l ih => simp only [absL]; rw [h e (List.mem_cons_self ..), ih (fun x hx => h x (List.mem_cons_of_mem _ hx))]
/-- What it holds, by places. -/
def CSt.abs (c : CSt) : List (List UInt8 × Int × Th) := absL c.th c.m
end Go.Proofs.Ytdphkaiijlekhaa
