/-
  The engine, part 12: what is known of a memory, behind a new block, a store, a row that becomes data. The engine, part 13: rows as data; what is appended or copied. The engine, part 14: new blocks, and append. The engine, part 15: operations that change what is known are carried out as `mev` says. The engine, part 16: `mev` is sound. The engine, part 17: all operations that change what is known; calls by contract. The engine, part 18: calls by contract. The engine, part 19: what an operation comes to is one value (`Ex`). The engine, part K: data put onto a slice literal without elements: the result is data, nothing that is known changes. The engine, part 20: the way through a region's operations; weaker states under other numbers; a loop by an index.
-/
import Derived.Deep.Upon
import Derived.Laws.MakeOwn
import Derived.Great.BuildSlice
import Derived.Lib.ConvBytes
import Derived.Laws.IdiomCopy
import Derived.Lib.UnsafeStr
import Derived.OrdersIn
import Derived.Test.YtdphkaiijlekhaaM1
set_option linter.unusedVariables false
set_option linter.unusedSimpArgs false
namespace Go.Eng
open Go Go.RowKit

def updP (f : Nat → Nat → Prop) (i : Nat) (p : Nat → Prop) : Nat → Nat → Prop := fun j => if j = i then p else f j
theorem updP_same (f : Nat → Nat → Prop) (i : Nat) (p : Nat → Prop) : updP f i p i = p := by simp [updP]
theorem updP_other (f : Nat → Nat → Prop) {i j : Nat} (p : Nat → Prop) (h : j ≠ i) : updP f i p j = f j := by simp [updP, h]

section
variable {X : Nat → Prop} {w w' : World} {β β' : Env} {fp fp' : Nat → Nat → Prop} {ks ks' : List KB}

theorem Mem0.mlt (h : Mem0 X w β fp ks) : ∀ b, Mx X fp b → b < w.heap.size := by
  rintro b (hx | ⟨i, hi⟩)
  · exact h.xa b hx
  · exact h.kw i b hi
theorem Mem0.kb' (h : Mem0 X w β fp ks) : ∀ (i : Nat) (L : Loc) (k : KB), ks[i]? = some k → k ≠ .gone → β i = some L → ∃ fp', KBat w (Mx X fp) β L fp' k := fun i L k hk hne hL =>
  ⟨_, h.kb i L k hk hne hL⟩
theorem Mem0.at (h : Mem0 X w β fp ks) {i : Nat} {k : KB} (hk : ks[i]? = some k) (hne : k ≠ .gone) {L : Loc} (hL : β i = some L) : KBat w (Mx X fp) β L (fp i) k := h.kb i L k hk hne hL
theorem Mem.out (h : Mem X w β fp ks) {i : Nat} (hi : ks.length ≤ i) : ∀ b, ¬ fp i b := fun b hb => by
  obtain ⟨L, hL⟩ := h.kn i b hb
  rw [h.kl i hi] at hL
  cases hL
theorem Mem0.apart (h : Mem0 X w β fp ks) : Apart β ks := fun i j L L' t t' l l' hne hi hj hL hL' e => by
  have h1 := h.at hi (by simp) hL
  have h2 := h.at hj (by simp) hL'
  cases h1 with
  | cells _ _ _ f1 =>
  cases h2 with
  | cells _ _ _ f2 => exact hne (h.dis i j L.b ((f1 _).2 rfl) ((f2 _).2 e))

/-- A memory that changes. -/
theorem Mem.go (h : Mem X w β fp ks) (hst : Step (fun b => ∃ i, fp i b) w w') (hext : Ext β β') (hown : ∀ i b, fp' i b → (∃ j, fp j b) ∨ w.heap.size ≤ b)
    (hdis : ∀ i j b, fp' i b → fp' j b → i = j) (hkw : ∀ i b, fp' i b → b < w'.heap.size) (hkl : ∀ i, ks'.length ≤ i → β' i = none) (hka : ∀ i t dom cols, ks'[i]? = some (.arena t dom cols) → ∃ L, β' i = some L) (hkn : ∀ i b, fp' i b → ∃ L, β' i = some L)
    (hkb : ∀ (i : Nat) (L : Loc) (k : KB), ks'[i]? = some k → k ≠ .gone → β' i = some L → (ks[i]? = some k ∧ β i = some L ∧ fp' i = fp i ∧ ∀ b, fp i b → w'.heap[b]? = w.heap[b]?) ∨ KBat w' (Mx X fp') β' L (fp' i) k) : Went X w β fp w' β' fp' ks' := by
  have hM : ∀ b, b < w.heap.size → Mx X fp' b → Mx X fp b := fun b hb hm => hm.imp id (fun ⟨i, hi⟩ => (hown i b hi).elim id (fun e => by omega))
  refine ⟨⟨⟨fun b hb => Nat.lt_of_lt_of_le (h.xa b hb) hst.size, fun i b hi hx => (hown i b hi).elim (fun ⟨j, hj⟩ => h.xb j b hj hx) (fun e => by have := h.xa b hx; omega), hdis, hkw, hkn, fun i L k hk hne hL => ?_⟩, hkl, hka⟩, hst, hext, hown⟩
  rcases hkb i L k hk hne hL with ⟨h1, hL0, h2, h3⟩ | h1
  · have hb := h.kb i L k h1 hne hL0
    rw [h2]
    exact hb.mono (hst.mono (fun _ _ e => .inr e)) hM hext h3
  · exact h1

theorem ext_upd {β : Env} {n : Nat} (L : Loc) (h : β n = none) : Ext β (upd β n (some L)) := fun i L' e => by
  by_cases hi : i = n
  · subst hi; rw [h] at e; cases e
  · rw [upd_other _ _ hi]; exact e

theorem Mem.ka_add (h : Mem X w β fp ks) (k : KB) (L : Loc) : ∀ i t dom cols, (ks ++ [k])[i]? = some (.arena t dom cols) → ∃ L', upd β ks.length (some L) i = some L' := fun i t dom cols hi => by
  by_cases e : i = ks.length
  · subst e; exact ⟨L, upd_same _ _ _⟩
  · have hlt : i < ks.length := by
      have := (List.getElem?_eq_some_iff.1 hi).1
      simp at this
      omega
    rw [List.getElem?_append_left hlt] at hi
    rw [upd_other _ _ e]
    exact h.ka i t dom cols hi
theorem Mem.ka_set (h : Mem X w β fp ks) {i : Nat} {L : Loc} (hL : β i = some L) (k : KB) : ∀ j t dom cols, (ks.set i k)[j]? = some (.arena t dom cols) → ∃ L', β j = some L' := fun j t dom cols hj => by
  rw [List.getElem?_set] at hj
  split at hj
  · rename_i e; subst e; exact ⟨L, hL⟩
  · exact h.ka j t dom cols hj
/-- A new block, known from now on. -/
theorem Mem.alloc (h : Mem X w β fp ks) (o : Obj) (L : Loc) (k : KB) (hL : L.b = w.heap.size)
    (hk : KBat (w.alloc o) (Mx X (updP fp ks.length (· = w.heap.size))) (upd β ks.length (some L)) L (· = w.heap.size) k) :
    Went X w β fp (w.alloc o) (upd β ks.length (some L)) (updP fp ks.length (· = w.heap.size)) (ks ++ [k]) := by
  have hn := h.kl ks.length (Nat.le_refl _)
  refine h.go (Step.alloc _ w o) (ext_upd L hn) (fun i b hb => ?_) (fun i j b hi hj => ?_) (fun i b hb => ?_) (fun i hi => ?_) (h.ka_add k L) (fun i b hb => ?_) (fun i L' k' hk' hne hL' => ?_)
  · by_cases hi : i = ks.length
    · subst hi; rw [updP_same] at hb; exact .inr (by omega)
    · rw [updP_other _ _ hi] at hb; exact .inl ⟨i, hb⟩
  · by_cases h1 : i = ks.length <;> by_cases h2 : j = ks.length
    · omega
    · subst h1; rw [updP_same] at hi; rw [updP_other _ _ h2] at hj; have := h.kw j b hj; omega
    · subst h2; rw [updP_same] at hj; rw [updP_other _ _ h1] at hi; have := h.kw i b hi; omega
    · rw [updP_other _ _ h1] at hi; rw [updP_other _ _ h2] at hj; exact h.dis i j b hi hj
  · by_cases hi : i = ks.length
    · subst hi; rw [updP_same] at hb; subst hb; simp
    · rw [updP_other _ _ hi] at hb; have := h.kw i b hb; simp; omega
  · have hi' : i ≠ ks.length := by simp at hi; omega
    rw [upd_other _ _ hi']
    exact h.kl i (by simp at hi; omega)
  · by_cases hi : i = ks.length
    · subst hi; exact ⟨L, upd_same _ _ _⟩
    · rw [updP_other _ _ hi] at hb; rw [upd_other _ _ hi]; exact h.kn i b hb
  · by_cases hi : i = ks.length
    · subst hi
      rw [List.getElem?_append_right (Nat.le_refl _)] at hk'
      simp at hk'
      subst hk'
      rw [upd_same] at hL'
      cases hL'
      exact .inr (by rw [updP_same]; exact hk)
    · have hlt : i < ks.length := by
        have := (List.getElem?_eq_some_iff.1 hk').1
        simp at this
        omega
      rw [List.getElem?_append_left hlt] at hk'
      rw [upd_other _ _ hi] at hL'
      exact .inl ⟨hk', hL', updP_other _ _ hi, fun b hb => Below.heap_alloc w o b (h.kw i b hb)⟩

/-- A known block written anew. -/
theorem Mem.set (h : Mem X w β fp ks) {i : Nat} {L : Loc} (k : KB) (o : Obj) (hi : i < ks.length) (hL : β i = some L) (hfp : ∀ x, fp i x ↔ x = L.b)
    (hk : KBat (World.setBlock w L.b o) (Mx X fp) β L (fp i) k) : Went X w β fp (World.setBlock w L.b o) β fp (ks.set i k) := by
  refine h.go (Step.setBlock w ⟨i, (hfp _).2 rfl⟩ o) (Ext.refl _) (fun j b hb => .inl ⟨j, hb⟩) h.dis (fun j b hb => by simpa [World.setBlock] using h.kw j b hb) (fun j hj => h.kl j (by simpa using hj)) (h.ka_set hL k) h.kn (fun j L' k' hk' hne hL' => ?_)
  rw [List.getElem?_set] at hk'
  by_cases e : i = j
  · subst e
    rw [if_pos rfl, if_pos hi] at hk'
    cases hk'
    obtain rfl : L = L' := Option.some.inj (hL.symm.trans hL')
    exact .inr hk
  · rw [if_neg e] at hk'
    exact .inl ⟨hk', hL', rfl, fun b hb => setBlock_other w L.b b o (fun eb => e (h.dis i j b ((hfp b).2 eb) hb))⟩

theorem Mem.drew (h : Mem X w β fp ks) : Went X w β fp w.drew β fp ks :=
  h.go (Step.drew _ w) (Ext.refl _) (fun i b hb => .inl ⟨i, hb⟩) h.dis h.kw h.kl h.ka h.kn (fun i L k hk _ hL => .inl ⟨hk, hL, rfl, fun _ _ => rfl⟩)

/-- Known blocks given up. -/
def fpGone (fr : List Nat) (fp : Nat → Nat → Prop) : Nat → Nat → Prop := fun i b => i ∉ fr ∧ fp i b
theorem goneL_get (fr : List Nat) (ks : List KB) (i : Nat) (k : KB) (h : (goneL fr ks)[i]? = some k) (hne : k ≠ .gone) : i ∉ fr ∧ ks[i]? = some k := by
  induction fr generalizing ks with
  | nil => exact ⟨by simp, h⟩
  | cons j fr ih =>
    simp only [goneL] at h
    obtain ⟨h1, h2⟩ := ih _ h
    rw [setB_eq, List.getElem?_set] at h2
    split at h2
    · split at h2
      · cases h2; exact absurd rfl hne
      · cases h2
    · rename_i e
      exact ⟨by simp [h1, Ne.symm e], h2⟩
theorem goneL_length (fr : List Nat) (ks : List KB) : (goneL fr ks).length = ks.length := by
  induction fr generalizing ks with
  | nil => rfl
  | cons j fr ih => simp only [goneL]; rw [ih, setB_eq, List.length_set]
theorem Mem.gone (h : Mem X w β fp ks) (fr : List Nat) : Went X w β fp w β (fpGone fr fp) (goneL fr ks) := by
  refine h.go (Step.refl _ _) (Ext.refl _) (fun i b hb => .inl ⟨i, hb.2⟩) (fun i j b hi hj => h.dis i j b hi.2 hj.2) (fun i b hb => h.kw i b hb.2) (fun i hi => ?_) (fun i t dom cols hi => h.ka i t dom cols (goneL_get fr ks i _ hi (by simp)).2) (fun i b hb => h.kn i b hb.2) (fun i L k hk hne hL => ?_)
  · rw [goneL_length] at hi
    exact h.kl i hi
  · obtain ⟨h1, h2⟩ := goneL_get fr ks i k hk hne
    exact .inl ⟨h2, hL, by funext b; simp [fpGone, h1], fun _ _ => rfl⟩
theorem Mem0.goneM (h : Mem0 X w β fp ks) (fr : List Nat) : ∀ b, Mx X (fpGone fr fp) b → Mx X fp b := fun _ hm => hm.imp id (fun ⟨i, hi⟩ => ⟨i, hi.2⟩)
theorem Mem0.goneOut (h : Mem0 X w β fp ks) {fr : List Nat} {i b : Nat} (hi : i ∈ fr) (hb : fp i b) : ¬ Mx X (fpGone fr fp) b := by
  rintro (hx | ⟨j, hj, hjb⟩)
  · exact h.xb i b hb hx
  · exact hj (h.dis i j b hb hjb ▸ hi)

/-- A row that goes on under another number: block b, whatever became of it, was the row's. -/
theorem Mem.again (h : Mem X w β fp ks) {i : Nat} {L L' : Loc} (k : KB) (o : Obj) (hi : i < ks.length) (hL : β i = some L) (hfp : ∀ x, fp i x ↔ x = L.b) (hL' : L'.b = L.b)
    (hk : KBat (World.setBlock w L.b o) (Mx X (updP (updP fp i (fun _ => False)) ks.length (· = L.b))) (upd β ks.length (some L')) L' (· = L.b) k) :
    Went X w β fp (World.setBlock w L.b o) (upd β ks.length (some L')) (updP (updP fp i (fun _ => False)) ks.length (· = L.b)) (ks.set i .gone ++ [k]) := by
  have hn := h.kl ks.length (Nat.le_refl _)
  have hin : i ≠ ks.length := by omega
  refine h.go (Step.setBlock w ⟨i, (hfp _).2 rfl⟩ o) (ext_upd L' hn) (fun j b hb => ?_) (fun p q b hp hq => ?_) (fun j b hb => ?_) (fun j hj => ?_) (fun j t dom cols hj => ?_) (fun j b hb => ?_) (fun j L2 k' hk' hne hL2 => ?_)
  · by_cases hj : j = ks.length
    · subst hj; rw [updP_same] at hb; exact .inl ⟨i, (hfp b).2 hb⟩
    · rw [updP_other _ _ hj] at hb
      by_cases e : j = i
      · subst e; rw [updP_same] at hb; exact hb.elim
      · rw [updP_other _ _ e] at hb; exact .inl ⟨j, hb⟩
  · have key : ∀ j, updP (updP fp i (fun _ => False)) ks.length (· = L.b) j b → (j = ks.length ∧ b = L.b) ∨ (j ≠ ks.length ∧ j ≠ i ∧ fp j b) := fun j hj => by
      by_cases h1 : j = ks.length
      · subst h1; rw [updP_same] at hj; exact .inl ⟨rfl, hj⟩
      · rw [updP_other _ _ h1] at hj
        by_cases e : j = i
        · subst e; rw [updP_same] at hj; exact hj.elim
        · rw [updP_other _ _ e] at hj; exact .inr ⟨h1, e, hj⟩
    rcases key p hp with ⟨a1, a2⟩ | ⟨a1, a2, a3⟩ <;> rcases key q hq with ⟨b1, b2⟩ | ⟨b1, b2, b3⟩
    · omega
    · exact absurd (h.dis q i b b3 ((hfp b).2 a2)) b2
    · exact absurd (h.dis p i b a3 ((hfp b).2 b2)) a2
    · exact h.dis p q b a3 b3
  · by_cases hj : j = ks.length
    · subst hj; rw [updP_same] at hb; subst hb; simpa [World.setBlock] using h.kw i L.b ((hfp _).2 rfl)
    · rw [updP_other _ _ hj] at hb
      by_cases e : j = i
      · subst e; rw [updP_same] at hb; exact hb.elim
      · rw [updP_other _ _ e] at hb; simpa [World.setBlock] using h.kw j b hb
  · simp at hj
    have hj' : j ≠ ks.length := by omega
    rw [upd_other _ _ hj']
    exact h.kl j (by omega)
  · by_cases e : j = ks.length
    · subst e; exact ⟨L', upd_same _ _ _⟩
    · have hlt : j < ks.length := by
        have := (List.getElem?_eq_some_iff.1 hj).1
        simp at this
        omega
      rw [List.getElem?_append_left (by simpa using hlt)] at hj
      rw [upd_other _ _ e]
      exact h.ka_set hL .gone j t dom cols hj
  · by_cases hj : j = ks.length
    · subst hj; exact ⟨L', upd_same _ _ _⟩
    · rw [updP_other _ _ hj] at hb
      rw [upd_other _ _ hj]
      by_cases e : j = i
      · subst e; exact ⟨L, hL⟩
      · rw [updP_other _ _ e] at hb; exact h.kn j b hb
  · by_cases hj : j = ks.length
    · subst hj
      rw [List.getElem?_append_right (by simp)] at hk'
      simp at hk'
      subst hk'
      rw [upd_same] at hL2
      cases hL2
      exact .inr (by rw [updP_same]; exact hk)
    · have hlt : j < ks.length := by
        have := (List.getElem?_eq_some_iff.1 hk').1
        simp at this
        omega
      rw [List.getElem?_append_left (by simpa using hlt), List.getElem?_set] at hk'
      by_cases e : i = j
      · subst e
        rw [if_pos rfl, if_pos hi] at hk'
        cases hk'
        exact absurd rfl hne
      · rw [if_neg e] at hk'
        rw [upd_other _ _ hj] at hL2
        refine .inl ⟨hk', hL2, by rw [updP_other _ _ hj, updP_other _ _ (Ne.symm e)], fun b hb => setBlock_other w L.b b o (fun eb => e (h.dis i j b ((hfp b).2 eb) hb))⟩

/-- An empty nil slice, taken as a row. -/
theorem Mem.nilRow (h : Mem X w β fp ks) (e : TypeId) (sz : Nat) (z : Z) (hz : z ≠ .no) (f : Nat → List DV) :
    Went X w β fp w (upd β ks.length (some ⟨0, 0, 0, sz, true⟩)) fp (ks ++ [.row e sz 0 z f]) := by
  have hn := h.kl ks.length (Nat.le_refl _)
  refine h.go (Step.refl _ _) (ext_upd _ hn) (fun i b hb => .inl ⟨i, hb⟩) h.dis h.kw (fun i hi => ?_) (h.ka_add _ _) (fun i b hb => ?_) (fun i L' k' hk' hne hL' => ?_)
  · simp at hi
    rw [upd_other _ _ (show i ≠ ks.length by omega)]
    exact h.kl i (by omega)
  · obtain ⟨L, hL⟩ := h.kn i b hb
    exact ⟨L, ext_upd _ hn i L hL⟩
  · by_cases hi : i = ks.length
    · subst hi
      rw [List.getElem?_append_right (Nat.le_refl _)] at hk'
      simp at hk'
      subst hk'
      rw [upd_same] at hL'
      cases hL'
      exact .inr (.rowNil e sz z f (h.out (Nat.le_refl _)) rfl rfl rfl hz)
    · have hlt : i < ks.length := by
        have := (List.getElem?_eq_some_iff.1 hk').1
        simp at this
        omega
      rw [List.getElem?_append_left hlt] at hk'
      rw [upd_other _ _ hi] at hL'
      exact .inl ⟨hk', hL', rfl, fun _ _ => rfl⟩

/-- One block of a family written anew. -/
theorem Mem.setArena (h : Mem X w β fp ks) {i n : Nat} {L : Loc} {t : TypeId} {dom : Nat → Prop} {cols : List Col} (hki : ks[i]? = some (.arena t dom cols)) (hL : β i = some L) (hn : dom (n + 1)) (cols' : List Col) (vs' : Array Value) (hl : vs'.size = cols'.length)
    (hd : ∀ (j : Nat) (c : Col) (u : Value), cols'[j]? = some c → vs'[j]? = some u → Den w (Mx X fp) β (c.at (n + 1)) u) (h1 : ∀ (j : Nat) (u : Value), vs'[j]? = some u → u.oneCell' = true)
    (hlen : cols'.length = cols.length) (hsame : ∀ (j : Nat) (c c' : Col) (m : Nat), cols[j]? = some c → cols'[j]? = some c' → m ≠ n + 1 → ∀ (w : World) (M : Nat → Prop) (u : Value), Den w M β (c.at m) u → Den w M β (c'.at m) u) :
    Went X w β fp (World.setBlock w n (.cells vs' t (0, 0))) β fp (ks.set i (.arena t dom cols')) := by
  have hil : i < ks.length := (List.getElem?_eq_some_iff.1 hki).1
  have hb := h.at hki (by simp) hL
  cases hb with
  | arena _ _ _ hfp h0 hall =>
    have hst : Step (fun b => ∃ i, fp i b) w (World.setBlock w n (.cells vs' t (0, 0))) := Step.setBlock w ⟨i, (hfp n).2 hn⟩ _
    have hst' := hst.mono (M' := Mx X fp) (fun _ _ e => .inr e)
    obtain ⟨_, hbn, _⟩ := hall n hn
    refine h.go hst (Ext.refl _) (fun j b hb => .inl ⟨j, hb⟩) h.dis (fun j b hb => by simpa [World.setBlock] using h.kw j b hb) (fun j hj => h.kl j (by simpa using hj)) (h.ka_set hL _) h.kn (fun j L' k' hk' hne hL' => ?_)
    rw [List.getElem?_set] at hk'
    by_cases e : i = j
    · subst e
      rw [if_pos rfl, if_pos hil] at hk'
      cases hk'
      refine .inr (.arena t dom cols' hfp h0 (fun x hx => ?_))
      by_cases hxn : x = n
      · subst hxn
        exact ⟨vs', setBlock_same _ _ _ (lt_of_block hbn), hl, fun j c u hc hu => (hd j c u hc hu).mono hst' (fun _ _ e => e) (Ext.refl _), h1⟩
      · obtain ⟨vs, a1, a2, a3, a4⟩ := hall x hx
        refine ⟨vs, (setBlock_other _ _ _ _ hxn).trans a1, by rw [a2, hlen], fun j c u hc hu => ?_, a4⟩
        have hj : j < cols.length := by rw [← hlen]; exact (List.getElem?_eq_some_iff.1 hc).1
        have hcj := List.getElem?_eq_getElem hj
        exact hsame j _ c (x + 1) hcj hc (by omega) _ _ u ((a3 j _ u hcj hu).mono hst' (fun _ _ e => e) (Ext.refl _))
    · rw [if_neg e] at hk'
      exact .inl ⟨hk', hL', rfl, fun b hb => setBlock_other w n b _ (fun eb => e (h.dis i j b ((hfp b).2 (by rw [eb]; exact hn)) hb))⟩

/-- A family without blocks. -/
theorem Mem.newArena (h : Mem X w β fp ks) (t : TypeId) (cols : List Col) : Went X w β fp w (upd β ks.length (some ⟨0, 0, 0, 0, false⟩)) fp (ks ++ [.arena t (fun _ => False) cols]) := by
  have hn := h.kl ks.length (Nat.le_refl _)
  refine h.go (Step.refl _ _) (ext_upd _ hn) (fun i b hb => .inl ⟨i, hb⟩) h.dis h.kw (fun i hi => ?_) (h.ka_add _ _) (fun i b hb => ?_) (fun i L' k' hk' hne hL' => ?_)
  · simp at hi
    rw [upd_other _ _ (show i ≠ ks.length by omega)]
    exact h.kl i (by omega)
  · obtain ⟨L, hL⟩ := h.kn i b hb
    exact ⟨L, ext_upd _ hn i L hL⟩
  · by_cases hi : i = ks.length
    · subst hi
      rw [List.getElem?_append_right (Nat.le_refl _)] at hk'
      simp at hk'
      subst hk'
      exact .inr (.arena t _ cols (fun x => ⟨fun e => absurd e (h.out (Nat.le_refl _) x), fun e => e.elim⟩) (fun e => e) (fun x e => e.elim))
    · have hlt : i < ks.length := by
        have := (List.getElem?_eq_some_iff.1 hk').1
        simp at this
        omega
      rw [List.getElem?_append_left hlt] at hk'
      rw [upd_other _ _ hi] at hL'
      exact .inl ⟨hk', hL', rfl, fun _ _ => rfl⟩

end
end Go.Eng
namespace Go.Eng
open Go Go.RowKit

section
variable {P : Program} {X : Nat → Prop} {w : World} {β : Env} {fp : Nat → Nat → Prop} {ks : List KB}

theorem Mx_gone {fr fr' : List Nat} (h : ∀ i ∈ fr, i ∈ fr') : ∀ b, Mx X (fpGone fr' fp) b → Mx X (fpGone fr fp) b := fun _ hm => hm.imp id (fun ⟨i, hi, hb⟩ => ⟨i, fun e => hi (h i e), hb⟩)
theorem rd_less {M M' : Nat → Prop} {d : DV} {v : Value} (h : Rd w M d v) (hM : ∀ b, M' b → M b) : Rd w M' d v := h.mono (Step.refl _ _) (fun b _ e => hM b e)

/-- The elements of a row, from lo on, as data. -/
theorem row_rd {M M' : Nat → Prop} {L : Loc} {e sz m : Nat} {vs : Array Value} {fz : Nat × Nat} {f : Nat → List DV} (hb : w.heap[L.b]? = some (.cells vs e fz)) (hvs : vs.size = L.c * sz) (hm : m ≤ L.c)
    (hfl : ∀ k, k < m → (f k).length = sz) (hr : ∀ (k j : Nat) (d : DV) (u : Value), k < m → (f k)[j]? = some d → vs[k * sz + j]? = some u → Rd w M d u) (lo n off cap : Nat) (h1 : lo + n ≤ m) (h2 : n ≤ cap) (h3 : 0 < n → off = lo * sz)
    (hn : ¬ M' L.b) (hM : ∀ b, M' b → M b) : Rd w M' (.sl false n sz (fun j => f (lo + j))) (.slice (some ⟨L.b, off, none⟩) n cap) := by
  have hin : ∀ i j, i < n → j < sz → (lo + i) * sz + j < vs.size := fun i j hi hj => by
    rw [hvs]
    calc (lo + i) * sz + j < (lo + i) * sz + sz := by omega
      _ = (lo + i + 1) * sz := by rw [Nat.add_mul (lo + i) 1, Nat.one_mul]
      _ ≤ L.c * sz := Nat.mul_le_mul_right _ (by omega)
  refine .sl n sz _ ⟨L.b, off, none⟩ cap (fun i j => vs[(lo + i) * sz + j]?.getD undef) h2 (fun _ => ⟨lt_of_block hb, hn⟩) (fun i hi => hfl _ (by omega)) (fun i j d hi hd => ?_) (fun i j d hi hd => ?_)
  · have hj : j < sz := by have := (List.getElem?_eq_some_iff.1 hd).1; rw [hfl _ (by omega)] at this; exact this
    rw [show (⟨L.b, off, none⟩ : Addr).add (i * sz + j) = ⟨L.b, off + (i * sz + j), none⟩ from by unfold Addr.add; split <;> simp_all, h3 (by omega), show lo * sz + (i * sz + j) = (lo + i) * sz + j from by rw [Nat.add_mul]; omega]
    simp [World.cell?, hb, hin i j hi hj]
  · have hj : j < sz := by have := (List.getElem?_eq_some_iff.1 hd).1; rw [hfl _ (by omega)] at this; exact this
    refine rd_less ?_ hM
    have := hr (lo + i) j d (vs[(lo + i) * sz + j]'(hin i j hi hj)) (by omega) hd (Array.getElem?_eq_getElem _)
    simpa [hin i j hi hj] using this

theorem allDK_spec : ∀ (l : List SV) (K : List DV → Prop), allDK l K → ∃ ds : List DV, K ds ∧ l = ds.map SV.d
  | [], _, h => ⟨[], h, rfl⟩
  | .d x :: l, K, h => by
    obtain ⟨ds, hk, rfl⟩ := allDK_spec l _ h
    exact ⟨x :: ds, hk, rfl⟩
theorem chunk_len {ds : List DV} {n sz : Nat} (h : ds.length = n * sz) (j : Nat) (hj : j < n) : (chunk ds sz j).length = sz := by
  unfold chunk
  have : (j + 1) * sz ≤ n * sz := Nat.mul_le_mul_right _ hj
  rw [Nat.add_mul, Nat.one_mul] at this
  simp [h]
  omega

theorem dvK_spec (h : Mem0 X w β fp ks) {s : SV} {K : DV → List Nat → Prop} (hk : dvK ks s K) {v : Value} (hv : Den w (Mx X fp) β s v) :
    ∃ d fr, K d fr ∧ (∀ i ∈ fr, i < ks.length) ∧ ∀ fr', (∀ i ∈ fr, i ∈ fr') → Rd w (Mx X (fpGone fr' fp)) d v := by
  have hout : ∀ (i : Nat) (L : Loc) (fr' : List Nat), i ∈ fr' → (∀ x, fp i x ↔ x = L.b) → ¬ Mx X (fpGone fr' fp) L.b := fun i L fr' hi hf => h.goneOut hi ((hf _).2 rfl)
  unfold dvK at hk
  split at hk
  · rename_i x
    exact ⟨x, [], hk, by simp, fun fr' _ => rd_less (den_data hv) (h.goneM fr')⟩
  · rename_i i
    rw [getBK_eq] at hk
    split at hk
    · rename_i e sz n z f hg
      have hki := getB_some hg (by simp)
      have hi : i < ks.length := (List.getElem?_eq_some_iff.1 hki).1
      cases hv with
      | allNil _ L hL hnil =>
        have hb := h.at hki (by simp) hL
        cases hb with
        | rowNil _ _ _ _ _ _ _ _ hz =>
          split at hk
          · exact absurd rfl hz
          · exact ⟨_, _, hk, by simp [hi], fun fr' _ => .nil _ _⟩
          · omega
        | row _ _ _ _ _ vs fz hfp hnil' => rw [hnil] at hnil'; cases hnil'
      | all _ L hL hnil =>
        have hb := h.at hki (by simp) hL
        cases hb with
        | rowNil _ _ _ _ _ hnil' => rw [hnil] at hnil'; cases hnil'
        | row _ _ _ _ _ vs fz hfp _ hLs hLn hzz hb hfz hvs hng hfl hr _ =>
          have key : ∀ fr', i ∈ fr' → Rd w (Mx X (fpGone fr' fp)) (.sl false n sz f) (.slice (some ⟨L.b, 0, none⟩) L.n L.c) := fun fr' hi' => by
            have := row_rd (M' := Mx X (fpGone fr' fp)) hb hvs hng hfl hr 0 n 0 L.c (by omega) hng (by simp) (hout i L fr' hi' hfp) (h.goneM fr')
            simp only [Nat.zero_add] at this
            rw [hLn]
            exact this
          split at hk
          · exact ⟨_, _, hk, by simp [hi], fun fr' hf => key fr' (hf i (by simp))⟩
          · have : Nat.beq n 0 = false := by
              have := hzz rfl
              cases n with
              | zero => omega
              | succ n => rfl
            rw [this] at hk
            exact ⟨_, _, hk, by simp [hi], fun fr' hf => key fr' (hf i (by simp))⟩
          · exact ⟨_, _, hk.2, by simp [hi], fun fr' hf => key fr' (hf i (by simp))⟩
    · exact hk.elim
  · rename_i i lo n
    rw [getBK_eq] at hk
    split at hk
    · rename_i e sz m z f hg
      have hki := getB_some hg (by simp)
      have hi : i < ks.length := (List.getElem?_eq_some_iff.1 hki).1
      cases hv with
      | rowNil _ L hL hnil =>
        have hb := h.at hki (by simp) hL
        cases hb with
        | rowNil _ _ _ _ _ _ _ _ hz =>
          split at hk
          · exact absurd rfl hz
          · omega
        | row _ _ _ _ _ vs fz hfp hnil' => rw [hnil] at hnil'; cases hnil'
      | row _ _ _ off L hL hnil hc ho =>
        have hb := h.at hki (by simp) hL
        cases hb with
        | rowNil _ _ _ _ _ hnil' => rw [hnil] at hnil'; cases hnil'
        | row _ _ _ _ _ vs fz hfp _ hLs hLn hzz hb hfz hvs hng hfl hr _ =>
          have key : lo + n ≤ m → ∀ fr', i ∈ fr' → Rd w (Mx X (fpGone fr' fp)) (.sl false n sz (fun j => f (lo + j))) (.slice (some ⟨L.b, off, none⟩) n (L.c - lo)) := fun hle fr' hi' =>
            row_rd (M' := Mx X (fpGone fr' fp)) hb hvs hng hfl hr lo n off (L.c - lo) hle (by omega) (fun hn => by rw [ho (.inl (by omega)), hLs]) (hout i L fr' hi' hfp) (h.goneM fr')
          split at hk
          · exact ⟨_, _, hk.2, by simp [hi], fun fr' hf => key hk.1 fr' (hf i (by simp))⟩
          · exact ⟨_, _, hk.2, by simp [hi], fun fr' hf => key hk.1.1 fr' (hf i (by simp))⟩
    · exact hk.elim
  · rename_i i off n c
    rw [getBK_eq] at hk
    split at hk
    · rename_i t l hg
      split at hk
      · rename_i hble
        generalize Nat.div (lenL l - off) c = sz at *
        rw [lenL_eq] at hble
        have hble := ble_of hble
        rw [dropK_eq, takeK_eq] at hk
        have hki := getB_some hg (by simp)
        have hi : i < ks.length := (List.getElem?_eq_some_iff.1 hki).1
        obtain ⟨ds, hk, hds⟩ := allDK_spec _ _ hk
        have hdl : ds.length = n * sz := by
          have := congrArg List.length hds
          simp at this
          omega
        cases hv with
        | cs _ _ _ _ L hL hnc =>
          have hb := h.at hki (by simp) hL
          cases hb with
          | cells _ _ vs hfp hb hl hd h1 =>
            refine ⟨_, _, hk, by simp [hi], fun fr' hf => ?_⟩
            have hat : ∀ j q d, j < n → (chunk ds sz j)[q]? = some d → q < sz ∧ l[off + (j * sz + q)]? = some (.d d) ∧ off + (j * sz + q) < vs.size := fun j q d hj hdd => by
              have hq : q < sz := by have := (List.getElem?_eq_some_iff.1 hdd).1; rw [chunk_len hdl _ hj] at this; exact this
              unfold chunk at hdd
              rw [List.getElem?_take, if_pos hq, List.getElem?_drop] at hdd
              have hlt := (List.getElem?_eq_some_iff.1 hdd).1
              have : ((l.drop off).take (n * sz))[j * sz + q]? = some (.d d) := by rw [hds, List.getElem?_map, hdd]; rfl
              rw [List.getElem?_take, if_pos (by omega), List.getElem?_drop] at this
              exact ⟨hq, this, by have := (List.getElem?_eq_some_iff.1 this).1; omega⟩
            refine .sl n sz _ ⟨L.b, off, none⟩ c (fun j q => vs[off + (j * sz + q)]?.getD undef) hnc (fun _ => ⟨lt_of_block hb, hout i L fr' (hf i (by simp)) hfp⟩) (fun j hj => chunk_len hdl j hj) (fun j q d hj hdd => ?_) (fun j q d hj hdd => ?_)
            · obtain ⟨_, _, hlt⟩ := hat j q d hj hdd
              rw [add_lit0]
              simp [World.cell?, hb, hlt]
            · obtain ⟨_, hls, hlt⟩ := hat j q d hj hdd
              have := den_data (hd _ _ (vs[off + (j * sz + q)]'hlt) hls (Array.getElem?_eq_getElem _))
              simpa [hlt] using rd_less this (h.goneM fr')
      · exact hk.elim
    · exact hk.elim
  · exact hk.elim

theorem appN_eq (l m : List Nat) (k : List Nat → Prop) : appN l m k = k (l ++ m) := by
  induction l generalizing k with
  | nil => rfl
  | cons a l ih => simp [appN, ih]
theorem goneK_eq (fr : List Nat) (ks : List KB) (K : List KB → Prop) : goneK fr ks K = K (goneL fr ks) := by
  induction fr generalizing ks with
  | nil => rfl
  | cons i fr ih => simp only [goneK, goneL, setBK_eq, ih, setB_eq]

theorem dvsK_spec (h : Mem0 X w β fp ks) : ∀ (l : List SV) (K : List DV → List Nat → Prop) (vs : List Value), dvsK ks l K → l.length = vs.length → (∀ (j : Nat) (s : SV) (u : Value), l[j]? = some s → vs[j]? = some u → Den w (Mx X fp) β s u) →
    ∃ ds fr, K ds fr ∧ ds.length = l.length ∧ (∀ i ∈ fr, i < ks.length) ∧ ∀ fr', (∀ i ∈ fr, i ∈ fr') → ∀ (j : Nat) (d : DV) (u : Value), ds[j]? = some d → vs[j]? = some u → Rd w (Mx X (fpGone fr' fp)) d u := by
  intro l
  induction l with
  | nil => intro K vs hk hl _; exact ⟨[], [], hk, rfl, by simp, fun _ _ j d u hd => by simp at hd⟩
  | cons a l ih =>
    intro K vs hk hl hd
    match vs, hl with
    | v :: vs, hl =>
      simp only [dvsK] at hk
      obtain ⟨d, fr, hk, h1, h2⟩ := dvK_spec h hk (hd 0 a v rfl rfl)
      obtain ⟨ds, fr2, hk, h3, h4, h5⟩ := ih _ vs hk (by simpa using hl) (fun j s u hs hu => hd (j + 1) s u (by simpa using hs) (by simpa using hu))
      rw [appN_eq] at hk
      refine ⟨d :: ds, fr ++ fr2, hk, by simp [h3], fun i hi => (List.mem_append.1 hi).elim (h1 i) (h4 i), fun fr' hf j x u hx hu => ?_⟩
      cases j with
      | zero => simp at hx hu; subst hx hu; exact h2 fr' (fun i hi => hf i (by simp [hi]))
      | succ j => exact h5 fr' (fun i hi => hf i (by simp [hi])) j x u (by simpa using hx) (by simpa using hu)

/-- What a source yields. -/
structure SrcOk (P : Program) (w : World) (M : Nat → Prop) (sz : Nat) (tx : TypeId) (v : Value) (k : Nat) (g : Nat → List DV) (us : List Value) : Prop where
  src : Src P sz tx v k us w
  wid : ∀ j, j < k → (g j).length = sz
  rd : ∀ (j q : Nat) (d : DV) (u : Value), j < k → (g j)[q]? = some d → us[j * sz + q]? = some u → Rd w M d u

theorem SrcOk.less {M M' : Nat → Prop} {sz : Nat} {tx : TypeId} {v : Value} {k : Nat} {g : Nat → List DV} {us : List Value} (h : SrcOk P w M sz tx v k g us) (hM : ∀ b, M' b → M b) : SrcOk P w M' sz tx v k g us :=
  ⟨h.src, h.wid, fun j q d u a b c => rd_less (h.rd j q d u a b c) hM⟩

theorem srcK_spec (h : Mem0 X w β fp ks) {sz : Nat} (hsz : 0 < sz) {x : SV} {K : Nat → (Nat → List DV) → List Nat → Prop} (hk : srcK ks sz x K) {v : Value} (hv : Den w (Mx X fp) β x v) {tx : TypeId}
    (htx : (∃ e', P.underlying tx = some (.slice e')) ∨ P.underlying tx = some .string) :
    ∃ k g fr us, K k g fr ∧ (∀ i ∈ fr, i < ks.length) ∧ ∀ fr', (∀ i ∈ fr, i ∈ fr') → SrcOk P w (Mx X (fpGone fr' fp)) sz tx v k g us := by
  have nilSrc : ∀ c, Src P sz tx (.slice none 0 c) 0 [] w := fun c => by
    rcases htx with ⟨e', he⟩ | he
    · exact Src.ofNil w he c
    · exact ⟨.inr he, fun _ => rfl, run_firstCells_none w sz 0 0 c, run_firstCells_none w.drew sz 0 0 c, by simp, fun _ h => by cases h⟩
  have slSrc : ∀ (ad : Addr) (n c : Nat) (news : List Value), news.length = n * sz → (∀ (j : Nat) (u : Value), news[j]? = some u → w.cell? (ad.add j) = some u) → (∀ u ∈ news, u.oneCell' = true) → Src P sz tx (.slice (some ad) n c) n news w := fun ad n c news hl hn h1 => by
    rcases htx with ⟨e', he⟩ | he
    · exact Src.ofSlice w he ad n c news hl hn h1
    · exact ⟨.inr he, fun _ => rfl, run_firstCells_some w sz n ad n c news hl hn, run_firstCells_some w.drew sz n ad n c news hl (by simpa using hn), hl, h1⟩
  have divmod : ∀ j q, q < sz → (j * sz + q) / sz = j ∧ (j * sz + q) % sz = q := fun j q hq => by
    constructor
    · rw [Nat.mul_comm, Nat.mul_add_div hsz, Nat.div_eq_of_lt hq, Nat.add_zero]
    · rw [Nat.mul_comm, Nat.mul_add_mod, Nat.mod_eq_of_lt hq]
  have lt_mul : ∀ m n, m < n * sz → m / sz < n := fun m n hm => Nat.div_lt_of_lt_mul (by rw [Nat.mul_comm]; exact hm)
  unfold srcK at hk
  split at hk
  · rename_i nl n sz' f
    split at hk
    · rename_i hb
      cases beq_of hb
      cases den_data hv with
      | nil => exact ⟨0, f, [], [], hk, by simp, fun _ _ => ⟨nilSrc 0, fun j hj => absurd hj (by omega), fun j q d u hj => absurd hj (by omega)⟩⟩
      | sl _ _ _ ad cap u hcap hblk hlen hcell hrd =>
        refine ⟨n, f, [], (List.range (n * sz)).map (fun m => u (m / sz) (m % sz)), hk, by simp, fun fr' _ => ⟨slSrc ad n cap _ (by simp) (fun j x hx => ?_) (fun x hx => ?_), hlen, fun j q d x hj hd hx => ?_⟩⟩
        · obtain ⟨hj, rfl⟩ := rangeMap_get (u := fun m => u (m / sz) (m % sz)) hx
          have h1 := lt_mul j n hj
          have h2 : j % sz < (f (j / sz)).length := by rw [hlen _ h1]; exact Nat.mod_lt _ hsz
          have := hcell (j / sz) (j % sz) _ h1 (List.getElem?_eq_getElem h2)
          rwa [Nat.mul_comm, Nat.div_add_mod] at this
        · simp at hx
          obtain ⟨m, hm, rfl⟩ := hx
          have h1 := lt_mul m n hm
          have h2 : m % sz < (f (m / sz)).length := by rw [hlen _ h1]; exact Nat.mod_lt _ hsz
          exact oneCell_rd (hrd (m / sz) (m % sz) _ h1 (List.getElem?_eq_getElem h2))
        · have hq : q < sz := by have := (List.getElem?_eq_some_iff.1 hd).1; rw [hlen _ hj] at this; exact this
          obtain ⟨e1, e2⟩ := divmod j q hq
          obtain ⟨_, rfl⟩ := rangeMap_get (u := fun m => u (m / sz) (m % sz)) hx
          simp only [e1, e2]
          exact rd_less (hrd j q d hj hd) (h.goneM fr')
    · split at hk
      · refine ⟨0, _, [], [], hk, by simp, fun _ _ => ⟨?_, fun j hj => absurd hj (by omega), fun j q d u hj => absurd hj (by omega)⟩⟩
        cases den_data hv with
        | nil => exact nilSrc 0
        | sl _ _ _ ad cap u => exact slSrc ad 0 cap [] (by simp) (fun j x hx => by simp at hx) (fun x hx => by simp at hx)
      · exact hk.elim
  · rename_i s
    split at hk
    · cases den_str hv
      have hsrc : Src P 1 tx (strV s) s.length (byteCells ⟨s.toArray⟩) w := by
        have hss : (⟨s.toArray⟩ : ByteArray).size = s.length := size_str s
        have f1 := fun w' : World => firstCells_string (P := P) ⟨s.toArray⟩ w'
        rw [hss] at f1
        exact ⟨htx, fun w' => by simp [Builtin.lenOf, strV, hss], f1 w, f1 w.drew, by rw [byteCells_length, hss, Nat.mul_one], fun u hu => by
          obtain ⟨_, _, rfl⟩ := List.mem_map.1 hu
          rfl⟩
      refine ⟨s.length, _, [], byteCells ⟨s.toArray⟩, hk, by simp, fun fr' _ => ⟨hsrc, fun j _ => rfl, fun j q d u hj hd hu => ?_⟩⟩
      cases q with
      | zero =>
        simp at hd
        subst hd
        simp [byteCells] at hu
        obtain ⟨x, hx, rfl⟩ := hu
        have : byteAt s (j : Int) = x.toNat := by
          unfold byteAt
          simp [hx]
        rw [this]
        exact .int _ _
      | succ q => simp at hd
    · exact hk.elim
  · rename_i i
    rw [getBK_eq] at hk
    split at hk
    · rename_i e sz' n z f hg
      split at hk
      · rename_i hb
        cases beq_of hb
        have hki := getB_some hg (by simp)
        cases hv with
        | allNil _ L hL hnil =>
          have hb := h.at hki (by simp) hL
          cases hb with
          | rowNil => exact ⟨0, f, [], [], hk, by simp, fun _ _ => ⟨nilSrc 0, fun j hj => absurd hj (by omega), fun j q d u hj => absurd hj (by omega)⟩⟩
          | row _ _ _ _ _ vs fz hfp hnil' => rw [hnil] at hnil'; cases hnil'
        | all _ L hL hnil =>
          have hb := h.at hki (by simp) hL
          cases hb with
          | rowNil _ _ _ _ _ hnil' => rw [hnil] at hnil'; cases hnil'
          | row _ _ _ _ _ vs fz hfp _ hLs hLn hzz hb hfz hvs hng hfl hr h1 =>
            have hle : n * sz ≤ vs.size := by rw [hvs]; exact Nat.mul_le_mul_right _ hng
            refine ⟨n, f, [], vs.toList.take (n * sz), hk, by simp, fun fr' _ => ⟨?_, hfl, fun j q d u hj hd hu => ?_⟩⟩
            · rw [hLn]
              refine slSrc _ n _ _ (by simp; omega) (fun j x hx => ?_) (fun x hx => ?_)
              · rw [List.getElem?_take] at hx
                split at hx
                · rw [add_lit0]; simpa [World.cell?, hb] using hx
                · cases hx
              · obtain ⟨j, hj, rfl⟩ := List.mem_iff_getElem.1 (List.mem_of_mem_take hx)
                exact h1 j _ (by simp)
            · rw [List.getElem?_take] at hu
              split at hu
              · exact rd_less (hr j q d u hj hd (by simpa using hu)) (h.goneM fr')
              · cases hu
      · exact hk.elim
    · exact hk.elim
  · rename_i i lo n
    rw [getBK_eq] at hk
    split at hk
    · rename_i e sz' m z f hg
      split at hk
      · rename_i hb
        cases beq_of hb
        obtain ⟨hle, hk⟩ := hk
        have hki := getB_some hg (by simp)
        cases hv with
        | rowNil _ L hL hnil => exact ⟨0, _, [], [], hk, by simp, fun _ _ => ⟨nilSrc 0, fun j hj => absurd hj (by omega), fun j q d u hj => absurd hj (by omega)⟩⟩
        | row _ _ _ off L hL hnil hc ho =>
          have hb := h.at hki (by simp) hL
          cases hb with
          | rowNil _ _ _ _ _ hnil' => rw [hnil] at hnil'; cases hnil'
          | row _ _ _ _ _ vs fz hfp _ hLs hLn hzz hb hfz hvs hng hfl hr h1 =>
            have hle' : lo * sz + n * sz ≤ vs.size := by rw [hvs, ← Nat.add_mul]; exact Nat.mul_le_mul_right _ hc
            refine ⟨n, _, [], (vs.toList.drop (lo * sz)).take (n * sz), hk, by simp, fun fr' _ => ⟨?_, fun j hj => hfl _ (by omega), fun j q d u hj hd hu => ?_⟩⟩
            · refine slSrc _ n _ _ (by simp; omega) (fun j x hx => ?_) (fun x hx => ?_)
              · rw [List.getElem?_take] at hx
                split at hx
                · rename_i hj
                  have hn : 0 < n := by
                    rcases Nat.eq_zero_or_pos n with e | e
                    · subst e; simp at hj
                    · exact e
                  rw [List.getElem?_drop] at hx
                  rw [add_lit0, ho (.inl (by omega)), hLs]; simpa [World.cell?, hb] using hx
                · cases hx
              · obtain ⟨j, hj, rfl⟩ := List.mem_iff_getElem.1 (List.mem_of_mem_drop (List.mem_of_mem_take hx))
                exact h1 j _ (by simp)
            · rw [List.getElem?_take] at hu
              split at hu
              · rw [List.getElem?_drop] at hu
                refine rd_less (hr (lo + j) q d u (by omega) hd ?_) (h.goneM fr')
                rw [Nat.add_mul, Nat.add_assoc]; simpa using hu
              · cases hu
      · exact hk.elim
    · exact hk.elim
  · rename_i i off n c
    rw [getBK_eq] at hk
    split at hk
    · rename_i t l hg
      split at hk
      · rename_i hble
        rw [lenL_eq] at hble
        have hble := ble_of hble
        rw [dropK_eq, takeK_eq] at hk
        have hki := getB_some hg (by simp)
        cases hv with
        | cs _ _ _ _ L hL hnc =>
          have hb := h.at hki (by simp) hL
          cases hb with
          | cells _ _ vs hfp hb hl hd h1 =>
            obtain ⟨ds, fr, hk, h2, h3, h4⟩ := dvsK_spec h _ _ ((vs.toList.drop off).take (n * sz)) hk (by simp [hl]) (fun j s u hs hu => by
              rw [List.getElem?_take] at hs hu
              split at hs
              · rename_i hj
                rw [if_pos hj] at hu
                rw [List.getElem?_drop] at hs hu
                exact hd _ _ _ hs (by simpa using hu)
              · cases hs)
            have hdl : ds.length = n * sz := by rw [h2]; simp; omega
            have hch : ∀ j, j < n → (chunk ds sz j).length = sz := fun j hj => by
              unfold chunk
              have : (j + 1) * sz ≤ n * sz := Nat.mul_le_mul_right _ hj
              rw [Nat.add_mul, Nat.one_mul] at this
              simp [hdl]
              omega
            refine ⟨n, _, fr, (vs.toList.drop off).take (n * sz), hk, h3, fun fr' hf => ⟨slSrc _ n _ _ (by simp; omega) (fun j x hx => ?_) (fun x hx => ?_), hch, fun j q d u hj hdd hu => ?_⟩⟩
            · rw [List.getElem?_take] at hx
              split at hx
              · rw [List.getElem?_drop] at hx
                rw [add_lit0]; simpa [World.cell?, hb] using hx
              · cases hx
            · obtain ⟨j, hj, rfl⟩ := List.mem_iff_getElem.1 (List.mem_of_mem_drop (List.mem_of_mem_take hx))
              exact h1 j _ (by simp)
            · have hq : q < sz := by have := (List.getElem?_eq_some_iff.1 hdd).1; rw [hch _ hj] at this; exact this
              unfold chunk at hdd
              rw [List.getElem?_take, if_pos hq, List.getElem?_drop] at hdd
              exact h4 fr' hf _ d u hdd hu
      · exact hk.elim
    · exact hk.elim
  · exact hk.elim

end
end Go.Eng
namespace Go.Eng
open Go Go.RowKit

section
variable {P : Program} {X : Nat → Prop} {w : World} {β : Env} {fp : Nat → Nat → Prop} {ks : List KB}

theorem setBlock_self {w : World} {b : Nat} {o : Obj} (h : w.heap[b]? = some o) : World.setBlock w b o = w := by
  have hlt := lt_of_block h
  unfold World.setBlock
  have : w.heap.setIfInBounds b o = w.heap := by
    apply Array.ext_getElem?
    intro i
    rw [Array.getElem?_setIfInBounds]
    split
    · rename_i e; subst e; rw [h]
    · rfl
  rw [this]
theorem setCells_eq {w : World} {b : Nat} {cs : Array Value} {t : TypeId} {fz : Nat × Nat} (h : w.heap[b]? = some (.cells cs t fz)) (off : Nat) (us : List Value) : w.setCells b off us = World.setBlock w b (.cells (blockSet cs off us) t fz) := by
  induction us generalizing w cs off with
  | nil => simp only [World.setCells, blockSet]; exact (setBlock_self h).symm
  | cons u us ih =>
    simp only [World.setCells, blockSet]
    rw [setCell_eq_setBlock h, ih (setBlock_same _ _ _ (lt_of_block h)), setBlock_setBlock]

theorem alloc_M (h : Mem X w β fp ks) (n : Nat) : ∀ b, b < w.heap.size → Mx X (updP fp n (· = w.heap.size)) b → Mx X fp b := fun b hb hm => hm.imp id (fun ⟨i, hi⟩ => by
  by_cases e : i = n
  · subst e; rw [updP_same] at hi; omega
  · rw [updP_other _ _ e] at hi; exact ⟨i, hi⟩)

def locB (b : Nat) : Loc := ⟨b, 0, 0, 0, false⟩

/-- A new block of cells. -/
theorem Mem.newCells (h : Mem X w β fp ks) (t : TypeId) (l : List SV) (vs : Array Value) (hl : l.length = vs.size) (hd : ∀ (j : Nat) (s : SV) (u : Value), l[j]? = some s → vs[j]? = some u → Den w (Mx X fp) β s u) (h1 : ∀ (j : Nat) (u : Value), vs[j]? = some u → u.oneCell' = true) :
    Went X w β fp (w.alloc (.cells vs t)) (upd β ks.length (some (locB w.heap.size))) (updP fp ks.length (· = w.heap.size)) (ks ++ [.cells t l]) := by
  have hn := h.kl ks.length (Nat.le_refl _)
  refine h.alloc _ (locB w.heap.size) _ rfl (.cells t l vs (fun x => Iff.rfl) (by show (w.heap.push _)[w.heap.size]? = _; simp) hl (fun j s u a b => (hd j s u a b).mono (Step.alloc _ w _) (alloc_M h _) (ext_upd _ hn)) h1)

/-- A new row. -/
theorem Mem.newRow (h : Mem X w β fp ks) (e : TypeId) (sz n c : Nat) (z : Z) (f : Nat → List DV) (vs : Array Value) (fz : Nat × Nat) (hfz : ∀ o, o < vs.size → ¬ (fz.1 ≤ o ∧ o < fz.2)) (hz : z = .iff → 0 < n) (hsz : vs.size = c * sz) (hn : n ≤ c) (hfl : ∀ k, k < n → (f k).length = sz)
    (hr : ∀ (k j : Nat) (d : DV) (u : Value), k < n → (f k)[j]? = some d → vs[k * sz + j]? = some u → Rd w (Mx X fp) d u) (h1 : ∀ (j : Nat) (u : Value), vs[j]? = some u → u.oneCell' = true) :
    Went X w β fp (w.alloc (.cells vs e fz)) (upd β ks.length (some ⟨w.heap.size, n, c, sz, false⟩)) (updP fp ks.length (· = w.heap.size)) (ks ++ [.row e sz n z f]) ∧
      Den (w.alloc (.cells vs e fz)) (Mx X (updP fp ks.length (· = w.heap.size))) (upd β ks.length (some ⟨w.heap.size, n, c, sz, false⟩)) (.all ks.length) (.slice (some ⟨w.heap.size, 0, none⟩) n c) := by
  refine ⟨h.alloc _ ⟨w.heap.size, n, c, sz, false⟩ _ rfl (.row e sz n z f vs fz (fun x => Iff.rfl) rfl rfl rfl hz (by show (w.heap.push _)[w.heap.size]? = _; simp) hfz hsz hn hfl (fun k j d u a b c => (hr k j d u a b c).mono (Step.alloc _ w _) (alloc_M h _)) h1), ?_⟩
  exact .all ks.length ⟨w.heap.size, n, c, sz, false⟩ (upd_same _ _ _) rfl

theorem catF_len {n k sz : Nat} {f g : Nat → List DV} (hf : ∀ j, j < n → (f j).length = sz) (hg : ∀ j, j < k → (g j).length = sz) : ∀ j, j < n + k → (catF n f g j).length = sz := fun j hj => by
  unfold catF
  split
  · exact hf j (by assumption)
  · exact hg _ (by omega)

theorem grown_ge (w : World) (need old : Nat) (e : TypeId) : need ≤ grownCap w need old e := by
  unfold grownCap
  simp only [Question.cut]
  omega

theorem zeroCells_one {z : Array Value} (hz : ∀ (j : Nat) (u : Value), z[j]? = some u → u.oneCell' = true) (n : Nat) : ∀ (j : Nat) (u : Value), (Builtin.zeroCells z n)[j]? = some u → u.oneCell' = true := fun j u hu => by
  unfold Builtin.zeroCells at hu
  rw [Array.getElem?_map] at hu
  cases hr : (Array.range (n * z.size))[j]? with
  | none => rw [hr] at hu; cases hu
  | some m =>
    rw [hr] at hu
    simp only [Option.map_some] at hu
    cases hu
    have hj : j < n * z.size := by
      have := (Array.getElem?_eq_some_iff.1 hr).1
      simpa using this
    have hp : 0 < z.size := by
      rcases Nat.eq_zero_or_pos z.size with e | e
      · rw [e] at hj; omega
      · exact e
    have hm := Nat.mod_lt m hp
    rw [getElem!_pos z (m % z.size) hm]
    exact hz _ _ (Array.getElem?_eq_getElem hm)

section
variable {st xt ty e : TypeId} {info : TypeInfo} {z0 : Value} {sz : Nat}

/-- Onto a new row. -/
theorem append_grow (h : Mem X w β fp ks) (hst : P.underlying st = some (.slice e)) (hi : P.info? e = some info) (hz0 : info.zero = some z0) (hsz : info.size = sz) (hzs : z0.cells.size = sz) (hz1 : ∀ (j : Nat) (u : Value), z0.cells[j]? = some u → u.oneCell' = true)
    (base : Option Addr) (n cap : Nat) (f : Nat → List DV) (olds : List Value) (hold : (Builtin.firstCells sz n (.slice base n cap)).run P w.drew = .ok olds.toArray w.drew) (hol : olds.length = n * sz) (ho1 : ∀ u ∈ olds, u.oneCell' = true)
    (hfl : ∀ k, k < n → (f k).length = sz) (hr : ∀ (k j : Nat) (d : DV) (u : Value), k < n → (f k)[j]? = some d → olds[k * sz + j]? = some u → Rd w (Mx X fp) d u)
    {x : Value} {k : Nat} {g : Nat → List DV} {us : List Value} (hs : SrcOk P w (Mx X fp) sz xt x k g us) (hgr : cap < n + k) (hby : (n + k) * info.bytes ≤ 70368744177664) (h63 : n + k ≤ 9223372036854775807) (z : Z) :
    ∃ v w' β' fp', (Builtin.append_ #[st, xt] ty #[.slice base n cap, x]).run P w = .ok v w' ∧ Went X w β fp w' β' fp' (ks ++ [.row e sz (n + k) z (catF n f g)]) ∧ Den w' (Mx X fp') β' (.all ks.length) v := by
  subst hsz
  have hfit : Builtin.nextslicecap (n + k) cap * info.bytes ≤ 281474976710656 := by
    have h1 := nextslicecap_le hgr
    have h2 := Nat.mul_le_mul_right info.bytes h1
    rw [Nat.mul_assoc] at h2
    omega
  have hrun := run_append_grow_src w st xt ty e info z0 hst hi hz0 base n cap olds hold x k us hs.src hgr (by omega) hfit
  have hge := grown_ge w (n + k) cap e
  generalize grownCap w (n + k) cap e = c at hrun hge
  have hW := h.drew
  have hus := hs.src.newsLen
  have hget : ∀ m u, ((olds ++ us).toArray ++ Builtin.zeroCells z0.cells (c - (n + k)))[m]? = some u → m < (n + k) * info.size → (if m < n * info.size then olds[m]? else us[m - n * info.size]?) = some u := fun m u hu hm => by
    rw [Nat.add_mul] at hm
    rw [Array.getElem?_append_left (by simp; omega)] at hu
    simp only [List.getElem?_toArray] at hu
    split
    · rename_i hlt; rw [List.getElem?_append_left (by omega)] at hu; exact hu
    · rename_i hlt; rw [List.getElem?_append_right (by omega), hol] at hu; exact hu
  have hlt : ∀ t q, t < n + k → q < info.size → t * info.size + q < (n + k) * info.size := fun t q ht hq => by
    calc t * info.size + q < t * info.size + info.size := by omega
      _ = (t + 1) * info.size := by rw [Nat.add_mul, Nat.one_mul]
      _ ≤ (n + k) * info.size := Nat.mul_le_mul_right _ ht
  have hcl := catF_len hfl hs.wid
  obtain ⟨hW2, hden⟩ := hW.mem.newRow e info.size (n + k) c z (catF n f g) ((olds ++ us).toArray ++ Builtin.zeroCells z0.cells (c - (n + k))) (0, 0) (by simp) (fun _ => by omega) (by
      rw [Array.size_append, size_zeroCells, hzs]; simp [hol, hus]
      rw [← Nat.add_mul, ← Nat.add_mul]; congr 1; omega) hge hcl (fun t q d u ht hd hu => by
      have hq : q < info.size := by have := (List.getElem?_eq_some_iff.1 hd).1; rw [hcl _ ht] at this; exact this
      have h2 := hget _ u hu (hlt t q ht hq)
      have hst : Step (Mx X fp) w w.drew := Step.drew _ w
      unfold catF at hd
      split at hd
      · rename_i htn
        rw [if_pos (by
          calc t * info.size + q < t * info.size + info.size := by omega
            _ = (t + 1) * info.size := by rw [Nat.add_mul, Nat.one_mul]
            _ ≤ n * info.size := Nat.mul_le_mul_right _ htn)] at h2
        exact (hr t q d u htn hd h2).mono hst (fun _ _ e => e)
      · rename_i htn
        have hle : n * info.size ≤ t * info.size := Nat.mul_le_mul_right _ (by omega)
        rw [if_neg (by omega), show t * info.size + q - n * info.size = (t - n) * info.size + q from by rw [Nat.sub_mul]; omega] at h2
        exact (hs.rd (t - n) q d u (by omega) hd h2).mono hst (fun _ _ e => e)) (fun j u hu => by
      rcases Nat.lt_or_ge j ((olds ++ us).toArray.size) with hj | hj
      · rw [Array.getElem?_append_left hj] at hu
        simp only [List.getElem?_toArray] at hu
        rcases List.mem_append.1 (List.mem_of_getElem? hu) with hm | hm
        · exact ho1 u hm
        · exact hs.src.one u hm
      · rw [Array.getElem?_append_right hj] at hu
        exact zeroCells_one hz1 _ _ u hu)
  exact ⟨_, _, _, _, hrun, hW.trans hW2, hden⟩

/-- Onto nil. -/
theorem append_nil (h : Mem X w β fp ks) (hst : P.underlying st = some (.slice e)) (hi : P.info? e = some info) (hz0 : info.zero = some z0) (hsz : info.size = sz) (hzs : z0.cells.size = sz) (hz1 : ∀ (j : Nat) (u : Value), z0.cells[j]? = some u → u.oneCell' = true) (hpos : 0 < sz)
    {x : Value} {k : Nat} {g : Nat → List DV} {us : List Value} (hs : SrcOk P w (Mx X fp) sz xt x k g us) (hby : k * info.bytes ≤ 70368744177664) (h63 : k ≤ 9223372036854775807) (z : Z) (hz : z ≠ .no) (f : Nat → List DV) :
    ∃ v w' β' fp', (Builtin.append_ #[st, xt] ty #[.slice none 0 0, x]).run P w = .ok v w' ∧ Went X w β fp w' β' fp' (ks ++ [.row e sz (0 + k) z (catF 0 f g)]) ∧ Den w' (Mx X fp') β' (.all ks.length) v := by
  by_cases hk : k = 0
  · subst hk
    have hus : us = [] := List.eq_nil_of_length_eq_zero (by rw [hs.src.newsLen]; simp)
    subst hus
    have hrun := run_append_nothing w st xt ty e info hst hi none 0 0 (Nat.le_refl _) x (hsz ▸ hs.src)
    have hW := h.nilRow e sz z hz (catF 0 f g)
    exact ⟨_, _, _, _, hrun, hW, .allNil ks.length _ (upd_same _ _ _) rfl⟩
  · exact append_grow h hst hi hz0 hsz hzs hz1 none 0 0 f [] (run_firstCells_none w.drew sz 0 0 0) (by simp) (by simp) (fun k hk => absurd hk (by omega)) (fun k j d u hk => absurd hk (by omega)) hs (by omega) (by simpa using hby) (by omega) z

/-- Onto the first n elements of a row. -/
theorem append_row (h : Mem X w β fp ks) (hst : P.underlying st = some (.slice e)) (hi : P.info? e = some info) (hz0 : info.zero = some z0) (hsz : info.size = sz) (hzs : z0.cells.size = sz) (hz1 : ∀ (j : Nat) (u : Value), z0.cells[j]? = some u → u.oneCell' = true)
    {i m n : Nat} {z : Z} {f : Nat → List DV} (hki : ks[i]? = some (.row e sz m z f)) {L : Loc} (hL : β i = some L) (hnil : L.nil = false) (hn : n ≤ m)
    {x : Value} {k : Nat} {g : Nat → List DV} {us : List Value} (hs : SrcOk P w (Mx X fp) sz xt x k g us) (hby : (n + k) * info.bytes ≤ 70368744177664) (h63 : n + k ≤ 9223372036854775807) (z' : Z) (hz' : z' = .iff → 0 < n + k) :
    ∃ v w' β' fp', (Builtin.append_ #[st, xt] ty #[.slice (some ⟨L.b, 0, none⟩) n L.c, x]).run P w = .ok v w' ∧ Went X w β fp w' β' fp' (ks.set i .gone ++ [.row e sz (n + k) z' (catF n f g)]) ∧ Den w' (Mx X fp') β' (.all ks.length) v := by
  have hil : i < ks.length := (List.getElem?_eq_some_iff.1 hki).1
  have hb := h.at hki (by simp) hL
  cases hb with
  | rowNil _ _ _ _ _ hnil' => rw [hnil] at hnil'; cases hnil'
  | row _ _ _ _ _ vs fz hfp _ hLs hLn hzz hb hfz hvs hng hfl hr h1 =>
    have hus := hs.src.newsLen
    by_cases hroom : n + k ≤ L.c
    · have hin : n * sz + us.length ≤ vs.size := by rw [hus, hvs, ← Nat.add_mul]; exact Nat.mul_le_mul_right _ hroom
      have hrun := run_append_room_src (P := P) w st xt ty e info hst hi L.b 0 n L.c x k us (hsz ▸ hs.src) hroom (fun j hj => by
        rw [hsz, Nat.zero_add]
        have : n * sz + j < vs.size := by omega
        simp [World.cell?, hb, this]) (fun j hj => by
        rw [hsz, Nat.zero_add]
        have := hfz (n * sz + j) (by omega)
        obtain ⟨lo, hi⟩ := fz
        simp [World.frozen?, hb]
        intro hlo
        simp at this
        exact this hlo)
      rw [hsz, Nat.zero_add, setCells_eq hb] at hrun
      have hM : ∀ b, b < w.heap.size → Mx X (updP (updP fp i (fun _ => False)) ks.length (· = L.b)) b → Mx X fp b := fun b _ hm => hm.imp id (fun ⟨j, hj⟩ => by
        by_cases h1 : j = ks.length
        · subst h1; rw [updP_same] at hj; exact ⟨i, (hfp b).2 hj⟩
        · rw [updP_other _ _ h1] at hj
          by_cases e : j = i
          · subst e; rw [updP_same] at hj; exact hj.elim
          · rw [updP_other _ _ e] at hj; exact ⟨j, hj⟩)
      have hst' : Step (Mx X fp) w (World.setBlock w L.b (.cells (blockSet vs (n * sz) us) e fz)) := Step.setBlock w (.inr ⟨i, (hfp _).2 rfl⟩) _
      have hfl' : ∀ t, t < n → (f t).length = sz := fun t ht => hfl t (by omega)
      have hcl := catF_len hfl' hs.wid
      have hW := h.again (L' := ⟨L.b, n + k, L.c, sz, false⟩) (.row e sz (n + k) z' (catF n f g)) (.cells (blockSet vs (n * sz) us) e fz) hil hL hfp rfl
        (.row e sz (n + k) z' (catF n f g) (blockSet vs (n * sz) us) fz (fun x => Iff.rfl) rfl rfl rfl hz' (setBlock_same _ _ _ (lt_of_block hb)) (by rw [blockSet_size]; exact hfz) (by rw [blockSet_size]; exact hvs) hroom hcl (fun t q d u ht hd hu => by
          have hq : q < sz := by have := (List.getElem?_eq_some_iff.1 hd).1; rw [hcl _ ht] at this; exact this
          rw [blockSet_get _ _ _ _ hin] at hu
          unfold catF at hd
          split at hd
          · rename_i htn
            have hlt : t * sz + q < n * sz := by
              calc t * sz + q < t * sz + sz := by omega
                _ = (t + 1) * sz := by rw [Nat.add_mul, Nat.one_mul]
                _ ≤ n * sz := Nat.mul_le_mul_right _ htn
            rw [if_neg (by omega)] at hu
            exact (hr t q d u (by omega) hd hu).mono hst' hM
          · rename_i htn
            have hle : n * sz ≤ t * sz := Nat.mul_le_mul_right _ (by omega)
            have hlt : t * sz + q < (n + k) * sz := by
              calc t * sz + q < t * sz + sz := by omega
                _ = (t + 1) * sz := by rw [Nat.add_mul, Nat.one_mul]
                _ ≤ (n + k) * sz := Nat.mul_le_mul_right _ ht
            rw [if_pos (by rw [hus, ← Nat.add_mul]; omega), show t * sz + q - n * sz = (t - n) * sz + q from by rw [Nat.sub_mul]; omega] at hu
            exact (hs.rd (t - n) q d u (by omega) hd hu).mono hst' hM) (fun j u hu => by
          rw [blockSet_get _ _ _ _ hin] at hu
          split at hu
          · exact hs.src.one u (List.mem_of_getElem? hu)
          · exact h1 j u hu))
      exact ⟨_, _, _, _, hrun, hW, .all ks.length ⟨L.b, n + k, L.c, sz, false⟩ (upd_same _ _ _) rfl⟩
    · have hW := h.gone [i]
      have hks : goneL [i] ks = ks.set i .gone := by simp [goneL, setB_eq]
      rw [hks] at hW
      have hle : n * sz ≤ vs.size := by rw [hvs]; exact Nat.mul_le_mul_right _ (by omega)
      have hlen : (ks.set i KB.gone).length = ks.length := by simp
      obtain ⟨v, w', β', fp', r1, r2, r3⟩ := append_grow (P := P) (st := st) (xt := xt) (ty := ty) hW.mem hst hi hz0 hsz hzs hz1 (some ⟨L.b, 0, none⟩) n L.c f (vs.toList.take (n * sz)) (run_firstCells_some w.drew sz n ⟨L.b, 0, none⟩ n L.c _ (by simp; omega) (fun j u hu => by
          rw [List.getElem?_take] at hu
          split at hu
          · rw [add_lit0]
            show w.cell? _ = _
            simpa [World.cell?, hb] using hu
          · cases hu)) (by simp; omega) (fun u hu => by
          obtain ⟨j, hj, rfl⟩ := List.mem_iff_getElem.1 (List.mem_of_mem_take hu)
          exact h1 j _ (by simp)) (fun t ht => hfl t (by omega)) (fun t q d u ht hd hu => by
          rw [List.getElem?_take] at hu
          split at hu
          · exact rd_less (hr t q d u (by omega) hd (by simpa using hu)) (h.goneM [i])
          · cases hu) (hs.less (h.goneM [i])) (by omega) hby h63 z'
      rw [hlen] at r3
      exact ⟨v, w', β', fp', r1, hW.trans r2, r3⟩

end
end
end Go.Eng
namespace Go.Eng
open Go Go.RowKit

section
variable {P : Program} {TT : Nat → Option TI} {X : Nat → Prop} {w : World} {β : Env} {fp : Nat → Nat → Prop} {ts : List SV} {ks : List KB} {a : Act} {K : SV → List KB → Prop} {o : Oper} {r : Option Nat} {n : Nat} {next : Act → World → Prop} {Q : Exit → Act → World → Prop}

/-- Onto a slice literal, which has no room. -/
theorem append_cs (h : Mem X w β fp ks) {st xt ty e : TypeId} {info : TypeInfo} {z0 : Value} {sz : Nat} (hst : P.underlying st = some (.slice e)) (hi : P.info? e = some info) (hz0 : info.zero = some z0) (hsz : info.size = sz) (hzs : z0.cells.size = sz) (hz1 : ∀ (j : Nat) (u : Value), z0.cells[j]? = some u → u.oneCell' = true)
    {i n : Nat} {l : List SV} (hki : ks[i]? = some (.cells e l)) {L : Loc} (hL : β i = some L) (hpos : 0 < sz) (hll : l.length = n * sz) {ds : List DV} (hdl : ds.length = l.length)
    (hds : ∀ vs : Array Value, w.heap[L.b]? = some (.cells vs e (0, 0)) → ∀ (j : Nat) (d : DV) (u : Value), ds[j]? = some d → vs[j]? = some u → Rd w (Mx X fp) d u)
    {x : Value} {k : Nat} {g : Nat → List DV} {us : List Value} (hs : SrcOk P w (Mx X fp) sz xt x k g us) (hby : (n + k) * info.bytes ≤ 70368744177664) (h63 : n + k ≤ 9223372036854775807) :
    ∃ v w' β' fp', (Builtin.append_ #[st, xt] ty #[.slice (some ⟨L.b, 0, none⟩) n n, x]).run P w = .ok v w' ∧ Went X w β fp w' β' fp' (ks.set i .gone ++ [.row e sz (n + k) .no (catF n (chunk ds sz) g)]) ∧ Den w' (Mx X fp') β' (.all ks.length) v := by
  have hil : i < ks.length := (List.getElem?_eq_some_iff.1 hki).1
  have hb := h.at hki (by simp) hL
  cases hb with
  | cells _ _ vs hfp hb hl hd h1 =>
    have hvs : vs.size = n * sz := by rw [← hl, hll]
    have hch : ∀ j, j < n → (chunk ds sz j).length = sz := fun j hj => by
      unfold chunk
      have : (j + 1) * sz ≤ n * sz := Nat.mul_le_mul_right _ hj
      rw [Nat.add_mul, Nat.one_mul] at this
      simp [hdl, hll]
      omega
    have hcr : ∀ (t q : Nat) (d : DV) (u : Value), t < n → (chunk ds sz t)[q]? = some d → vs[t * sz + q]? = some u → Rd w (Mx X fp) d u := fun t q d u ht hdd hu => by
      have hq : q < sz := by have := (List.getElem?_eq_some_iff.1 hdd).1; rw [hch _ ht] at this; exact this
      unfold chunk at hdd
      rw [List.getElem?_take, if_pos hq, List.getElem?_drop] at hdd
      exact hds vs hb _ d u hdd hu
    by_cases hk : k = 0
    · subst hk
      have hus : us = [] := List.eq_nil_of_length_eq_zero (by rw [hs.src.newsLen]; simp)
      subst hus
      have hrun := run_append_nothing w st xt ty e info hst hi (some ⟨L.b, 0, none⟩) n n (Nat.le_refl _) x (hsz ▸ hs.src)
      have hself := setBlock_self hb
      have hM : ∀ b, b < w.heap.size → Mx X (updP (updP fp i (fun _ => False)) ks.length (· = L.b)) b → Mx X fp b := fun b _ hm => hm.imp id (fun ⟨j, hj⟩ => by
        by_cases h1 : j = ks.length
        · subst h1; rw [updP_same] at hj; exact ⟨i, (hfp b).2 hj⟩
        · rw [updP_other _ _ h1] at hj
          by_cases e : j = i
          · subst e; rw [updP_same] at hj; exact hj.elim
          · rw [updP_other _ _ e] at hj; exact ⟨j, hj⟩)
      have hW := h.again (L' := ⟨L.b, n, n, sz, false⟩) (.row e sz (n + 0) .no (catF n (chunk ds sz) g)) (.cells vs e (0, 0)) hil hL hfp rfl
        (.row e sz (n + 0) .no _ vs (0, 0) (fun x => Iff.rfl) rfl rfl rfl (fun e => by cases e) (setBlock_same _ _ _ (lt_of_block hb)) (by simp) hvs (Nat.le_refl _) (fun t ht => by rw [show catF n (chunk ds sz) g t = chunk ds sz t from if_pos ht]; exact hch t ht) (fun t q d u ht hdd hu => by
          rw [show catF n (chunk ds sz) g t = chunk ds sz t from if_pos ht] at hdd
          rw [hself]
          exact (hcr t q d u ht hdd hu).mono (Step.refl _ _) hM) h1)
      rw [hself] at hW
      exact ⟨_, _, _, _, hrun, hW, .all ks.length ⟨L.b, n, n, sz, false⟩ (upd_same _ _ _) rfl⟩
    · have hW := h.gone [i]
      have hks : goneL [i] ks = ks.set i .gone := by simp [goneL, setB_eq]
      rw [hks] at hW
      have hlen : (ks.set i KB.gone).length = ks.length := by simp
      obtain ⟨v, w', β', fp', r1, r2, r3⟩ := append_grow (P := P) (st := st) (xt := xt) (ty := ty) hW.mem hst hi hz0 hsz hzs hz1 (some ⟨L.b, 0, none⟩) n n (chunk ds sz) vs.toList (run_firstCells_some w.drew sz n ⟨L.b, 0, none⟩ n n _ (by simp [hvs]) (fun j u hu => by
          rw [add_lit0]
          show w.cell? _ = _
          simpa [World.cell?, hb] using hu)) (by simp [hvs]) (fun u hu => by
          obtain ⟨j, hj, rfl⟩ := List.mem_iff_getElem.1 hu
          exact h1 j _ (by simp)) hch (fun t q d u ht hdd hu => rd_less (hcr t q d u ht hdd (by simpa using hu)) (h.goneM [i])) (hs.less (h.goneM [i])) (by omega) hby h63 .no
      rw [hlen] at r3
      exact ⟨v, w', β', fp', r1, hW.trans r2, r3⟩

theorem memN_mem {t : Nat} {l : List Nat} (h : t ∈ l) : memN t l = true := by
  induction l with
  | nil => cases h
  | cons a l ih =>
    simp only [memN]
    split
    · rfl
    · rename_i hb
      rcases List.mem_cons.1 h with e | h
      · subst e; rw [show Nat.beq t t = true from Nat.beq_refl t] at hb; cases hb
      · exact ih h
theorem notMem {t : Nat} {l : List Nat} (h : memN t l = false) : t ∉ l := fun e => by rw [memN_mem e] at h; cases h

theorem goneL_other (fr : List Nat) (ks : List KB) (i : Nat) (h : i ∉ fr) : (goneL fr ks)[i]? = ks[i]? := by
  induction fr generalizing ks with
  | nil => rfl
  | cons j fr ih =>
    simp only [goneL]
    rw [ih _ (fun e => h (by simp [e])), setB_eq, List.getElem?_set, if_neg (fun e => h (by simp [e]))]
theorem fpGone_other (fr : List Nat) (fp : Nat → Nat → Prop) (i : Nat) (h : i ∉ fr) : fpGone fr fp i = fp i := by funext b; simp [fpGone, h]

theorem isSeq_spec (hTT : TTok P TT) {t : TypeId} (h : isSeq TT t = true) : (∃ e', P.underlying t = some (.slice e')) ∨ P.underlying t = some .string := by
  unfold isSeq at h
  split at h
  · rename_i ht
    obtain ⟨info, d, z, hi, hu, _, _, _, _, _, _, _, _, hd⟩ := find_TT hTT ht
    cases hd
    exact .inl ⟨_, hu⟩
  · rename_i ht
    obtain ⟨info, d, z, hi, hu, _, _, _, _, _, _, _, _, hd⟩ := find_TT hTT ht
    cases hd
    exact .inr hu
  · cases h

theorem repK_eq (z : List SV) (n : Nat) (c : List SV → Prop) : repK z n c = c ((List.replicate n z).flatten) := by
  induction n generalizing c with
  | zero => rfl
  | succ n ih => simp only [repK, ih, appK_eq, List.replicate_succ, List.flatten_cons]
theorem rep_get {α : Type} (z : List α) (n m : Nat) (s : α) (h : ((List.replicate n z).flatten)[m]? = some s) : z[m % z.length]? = some s ∧ m < n * z.length := by
  induction n generalizing m with
  | zero => simp at h
  | succ n ih =>
    rw [List.replicate_succ, List.flatten_cons] at h
    rcases Nat.lt_or_ge m z.length with hm | hm
    · rw [List.getElem?_append_left hm] at h
      rw [Nat.mod_eq_of_lt hm]
      exact ⟨h, by rw [Nat.add_mul]; omega⟩
    · rw [List.getElem?_append_right hm] at h
      obtain ⟨a, b⟩ := ih (m - z.length) h
      rw [← Nat.mod_eq_sub_mod hm] at a
      exact ⟨a, by rw [Nat.add_mul]; omega⟩

theorem fillS_spec {M : Nat → Prop} (hT : ∀ x, Den w M β (val ts x) (a.eval x)) {size : Nat} :
    ∀ (parts : List (Nat × Operand)) (cs : List SV) (c : List SV → Prop) (vs : List Value), fillS ts size cs parts c → cs.length = vs.length →
      (∀ (j : Nat) (s : SV) (u : Value), cs[j]? = some s → vs[j]? = some u → Den w M β s u) → (∀ u ∈ vs, u.oneCell' = true) →
      ∃ (cs' : List SV) (vs' : List Value), c cs' ∧ Instr.fill (fun i => some (i * size, size)) vs.toArray (parts.map fun p => (p.1, a.eval p.2)) = some vs'.toArray ∧ cs'.length = vs'.length ∧
        (∀ (j : Nat) (s : SV) (u : Value), cs'[j]? = some s → vs'[j]? = some u → Den w M β s u) ∧ (∀ u ∈ vs', u.oneCell' = true) := by
  intro parts
  induction parts with
  | nil => intro cs c vs h hl hd h1; exact ⟨cs, vs, by simpa [fillS] using h, rfl, hl, hd, h1⟩
  | cons p parts ih =>
    obtain ⟨i, x⟩ := p
    intro cs c vs h hl hd h1
    simp only [fillS] at h
    rw [valK_eq] at h
    obtain ⟨h, hcells⟩ := cellsK_spec (w := w) (M := M) (β := β) h
    obtain ⟨c1, c2, c3⟩ := hcells _ (hT x)
    split at h
    · rename_i hb1 hb2
      rw [lenL_eq] at hb1 hb2
      have hb1 := beq_of hb1
      have hb2 := ble_of hb2
      rw [putK_eq] at h
      have c3' : ∀ u ∈ (a.eval x).cells.toList, u.oneCell' = true := fun u hu => c3 u (by simpa using hu)
      obtain ⟨d1, d2⟩ := den_put (w := w) (M := M) (β := β) (off := i * size) (us := (a.eval x).cells.toList) hl (by simpa using c1) (by omega) hd (fun j s u hs hu => c2 j s u hs (by simpa using hu))
      obtain ⟨cs', vs', hc, hfill, r1, r2, r3⟩ := ih _ c (blockSet vs.toArray (i * size) (a.eval x).cells.toList).toList h (by simpa using d1) (fun j s u hs hu => d2 j s u hs (by simpa using hu)) (fun u hu => by
        obtain ⟨j, hj, rfl⟩ := List.mem_iff_getElem.1 hu
        exact blockSet_one (off := i * size) (us := (a.eval x).cells.toList) (by simp; omega) h1 c3' j _ (by simp))
      refine ⟨cs', vs', hc, ?_, r1, r2, r3⟩
      simp only [List.map_cons, Instr.fill]
      have hs : (a.eval x).cells.size = size := by omega
      rw [if_neg (by simp [hs]; omega)]
      have hfold := fold_blockSet (a.eval x).cells.toList vs.toArray (i * size) 0
      rw [Nat.add_zero] at hfold
      have hz : (a.eval x).cells.zipIdx.foldl (fun cs (x : Value × Nat) => cs.setIfInBounds (i * size + x.2) x.1) vs.toArray = blockSet vs.toArray (i * size) (a.eval x).cells.toList := by
        rw [← hfold, ← Array.foldl_toList]
        simp
      rw [hz]
      simpa using hfill
    · exact h.elim

/-- What an operation on known blocks owes. -/
def MemNext (X : Nat → Prop) (w : World) (β : Env) (fp : Nat → Nat → Prop) (a : Act) (o : Oper) (K : SV → List KB → Prop) (next : Act → World → Prop) : Prop :=
  ∀ r ks' v w' β' fp', K r ks' → Went X w β fp w' β' fp' ks' → Den w' (Mx X fp') β' r v → next (a.put o.dst v) w'

theorem run_storeVar {t : TypeId} {i : TypeInfo} (hi : P.info? t = some i) (b off : Nat) (v : Value) (t' : TypeId) (fz : Nat × Nat) (cs : Array Value) (hb : w.heap[b]? = some (.cells cs t' fz)) (hfz : ∀ o, o < cs.size → ¬ (fz.1 ≤ o ∧ o < fz.2))
    (hsz : v.cells.size = i.size) (hin : off + i.size ≤ cs.size) (h1 : ∀ u ∈ v.cells, u.oneCell' = true) (hpos : 0 < i.size) :
    (storeVar t ⟨b, off, none⟩ v).run P w = .ok () (World.setBlock w b (.cells (blockSet cs off v.cells.toList) t' fz)) := by
  have hne : v.cells.toList ≠ [] := fun e => by
    have := congrArg List.length e
    simp at this
    rw [this] at hsz
    simp at hsz
    omega
  have := run_storeCells (P := P) b t' fz v.cells.toList w cs off 0 hb (by simp; omega) hfz (fun u hu => h1 u (by simpa using hu))
  rw [if_neg hne, Nat.add_zero] at this
  simp [storeVar, run_sizeOf hi, hsz, this]

theorem putIK_spec {k : IntKind} {i m : Int} {l : List SV} : ∀ {j : Int} {c : List SV → Prop}, putIK k i m l j c → ∃ (xs : List Int) (l' : List SV), l = xs.map (fun n => .d (.int k n)) ∧ c l' ∧ l'.length = l.length ∧
    ∀ (q : Nat) (x : Int), xs[q]? = some x → l'[q]? = some (.d (.int k (if i = j + q then m else x))) := by
  induction l with
  | nil => intro j c h; exact ⟨[], [], rfl, h, rfl, by simp⟩
  | cons s l ih =>
    intro j c h
    cases s with
    | d x =>
      cases x with
      | int k' x =>
        simp only [putIK] at h
        split at h
        · rename_i hk
          cases kEq_eq hk
          obtain ⟨xs, l', rfl, hc, hlen, hg⟩ := ih h
          refine ⟨x :: xs, _, rfl, hc, by simp [hlen], fun q y hq => ?_⟩
          cases q with
          | zero => simp at hq; subst hq; simp
          | succ q =>
            simp at hq
            have := hg q y hq
            simp only [List.getElem?_cons_succ]
            rw [this]
            congr 3
            rw [show j + 1 + (q : Int) = j + ((q + 1 : Nat) : Int) from by omega]
        · exact h.elim
      | _ => exact h.elim
    | _ => exact h.elim

/-- A known block of cells is written anew. -/
theorem Mem.store (h : Mem X w β fp ks) {i : Nat} {L : Loc} {t : TypeId} {l l' : List SV} {vs vs' : Array Value} (hk : ks[i]? = some (.cells t l)) (hL : β i = some L) (hfp : ∀ x, fp i x ↔ x = L.b) (hblk : w.heap[L.b]? = some (.cells vs t (0, 0)))
    (hl : l'.length = vs'.size) (hd : ∀ (j : Nat) (s : SV) (u : Value), l'[j]? = some s → vs'[j]? = some u → Den w (Mx X fp) β s u) (h1 : ∀ (j : Nat) (u : Value), vs'[j]? = some u → u.oneCell' = true) :
    Went X w β fp (World.setBlock w L.b (.cells vs' t (0, 0))) β fp (ks.set i (.cells t l')) :=
  h.set (.cells t l') _ (List.getElem?_eq_some_iff.1 hk).1 hL hfp (.cells t l' vs' hfp (setBlock_same _ _ _ (lt_of_block hblk)) hl
    (fun j s u a b => (hd j s u a b).mono (Step.setBlock w (.inr ⟨i, (hfp _).2 rfl⟩) _) (fun _ _ e => e) (Ext.refl _)) h1)

theorem putD_length (l : List DV) (off : Nat) (vs : List DV) : (putD l off vs).length = l.length := by
  induction vs generalizing l off with
  | nil => cases l <;> rfl
  | cons v vs ih => simp [putD, ih]
theorem putD_get (l : List DV) (off : Nat) (vs : List DV) (j : Nat) (hin : off + vs.length ≤ l.length) : (putD l off vs)[j]? = if off ≤ j ∧ j < off + vs.length then vs[j - off]? else l[j]? := by
  induction vs generalizing l off with
  | nil => simp [putD]; intro _ _; omega
  | cons v vs ih =>
    simp only [List.length_cons] at hin
    simp only [putD, List.length_cons]
    rw [ih (l.set off v) (off + 1) (by simp; omega)]
    by_cases h1 : off + 1 ≤ j ∧ j < off + 1 + vs.length
    · rw [if_pos h1, if_pos (by omega), show j - off = (j - (off + 1)) + 1 from by omega]
      simp
    · rw [if_neg h1, List.getElem?_set]
      by_cases h2 : off = j
      · subst h2
        rw [if_pos rfl, if_pos (by omega), if_pos (by omega)]
        simp
      · rw [if_neg h2, if_neg (by omega)]

/-- A cell of a family written. -/
theorem putcK_spec {c : Col} {n : Nat} {v : SV} {K : Col → Prop} (h : putcK c n v K) : ∃ c', K c' ∧ (∀ m, m ≠ n → c'.at m = c.at m) ∧ ∀ (w : World) (M : Nat → Prop) (β : Env) (u : Value), Den w M β v u → Den w M β (c'.at n) u := by
  unfold putcK at h
  split at h
  · split at h
    · split at h
      · rename_i k f k' x hk
        cases kEq_eq hk
        exact ⟨_, h, fun m hm => by simp [Col.at, upd_other _ _ hm], fun w M β u hu => by simpa [Col.at, upd_same] using hu⟩
      · exact h.elim
    · exact h.elim
  · split at h
    · rename_i f x
      obtain ⟨b, h, hb⟩ := boolK_spec h
      exact ⟨_, h, fun m hm => by simp [Col.at, upd_other _ _ hm], fun w M β u hu => by
        rw [hb w M u (den_data hu)]
        simp only [Col.at, upd_same]
        exact .d (.bool b)⟩
    · exact h.elim
  · split at h
    · exact ⟨_, h, fun m hm => by simp [Col.at, upd_other _ _ hm], fun w M β u hu => by simpa [Col.at, upd_same] using hu⟩
    · exact h.elim
  · rename_i sz nil q g
    split at h
    · rename_i b q' sz' h'
      split at h
      · rename_i hsz
        cases beq_of hsz
        exact ⟨_, h, fun m hm => by simp [Col.at, upd_other _ _ hm], fun w M β u hu => by simpa [Col.at, upd_same] using hu⟩
      · split at h
        · exact ⟨_, h, fun m hm => by simp [Col.at, upd_other _ _ hm], fun w M β u hu => by
            simp only [Col.at, upd_same]
            exact .d (den_data hu).width⟩
        · exact h.elim
    · exact h.elim
  · split at h
    · split at h
      · rename_i i f j x hj
        cases beq_of hj
        exact ⟨_, h, fun m hm => by simp [Col.at, upd_other _ _ hm], fun w M β u hu => by simpa [Col.at, upd_same] using hu⟩
      · exact h.elim
    · split at h
      · rename_i i f j x off hj
        cases beq_of hj
        exact ⟨_, h, fun m hm => by simp [Col.at, upd_other _ _ hm], fun w M β u hu => by
          simp only [Col.at, upd_same]
          cases hu with
          | ap _ n _ L hL => exact .np _ n L hL⟩
      · exact h.elim
    · exact ⟨_, h, fun m hm => by simp [Col.at, upd_other _ _ hm], fun w M β u hu => by
        simp only [Col.at, upd_same]
        cases hu
        exact .npNil _⟩
    · exact h.elim
  · exact ⟨_, h, fun m hm => rfl, fun w M β u hu => .any _⟩

theorem lenC_eq (l : List Col) : lenC l = l.length := by
  induction l with
  | nil => rfl
  | cons a l ih => simp [lenC, ih]

/-- Cells of a family written. -/
theorem putCK_spec : ∀ {cols : List Col} {off n : Nat} {vs : List SV} {K : List Col → Prop}, putCK cols off n vs K → ∃ cols', K cols' ∧ cols'.length = cols.length ∧ (∀ (j : Nat) (c : Col), cols[j]? = some c → ∃ c', cols'[j]? = some c' ∧ (∀ m, m ≠ n → c'.at m = c.at m) ∧
    ((off ≤ j ∧ j < off + vs.length ∧ ∃ v, vs[j - off]? = some v ∧ ∀ (w : World) (M : Nat → Prop) (β : Env) (u : Value), Den w M β v u → Den w M β (c'.at n) u) ∨ (¬ (off ≤ j ∧ j < off + vs.length) ∧ c' = c))) := by
  intro cols
  induction cols with
  | nil =>
    intro off n vs K h
    cases vs with
    | nil => exact ⟨[], by simpa [putCK] using h, rfl, fun j c hc => by simp at hc⟩
    | cons => simp [putCK] at h
  | cons c l ih =>
    intro off n vs K h
    cases vs with
    | nil => exact ⟨c :: l, by simpa [putCK] using h, rfl, fun j c' hc => ⟨c', hc, fun _ _ => rfl, .inr ⟨by rw [List.length_nil]; omega, rfl⟩⟩⟩
    | cons v vs =>
      cases off with
      | zero =>
        simp only [putCK] at h
        obtain ⟨c', h, g1, g2⟩ := putcK_spec h
        obtain ⟨l', h, g3, g4⟩ := ih h
        refine ⟨c' :: l', h, by simp [g3], fun j cj hc => ?_⟩
        cases j with
        | zero => simp at hc; subst hc; exact ⟨c', rfl, g1, .inl ⟨Nat.le_refl _, by simp, v, rfl, g2⟩⟩
        | succ j =>
          obtain ⟨c2, e1, e2, e3⟩ := g4 j cj (by simpa using hc)
          refine ⟨c2, by simpa using e1, e2, ?_⟩
          rcases e3 with ⟨f1, f2, f3⟩ | ⟨f1, f2⟩
          · exact .inl ⟨Nat.zero_le _, by simp; omega, by simpa using f3⟩
          · exact .inr ⟨by simp; simp at f1; omega, f2⟩
      | succ off =>
        simp only [putCK] at h
        obtain ⟨l', h, g3, g4⟩ := ih h
        refine ⟨c :: l', h, by simp [g3], fun j cj hc => ?_⟩
        cases j with
        | zero => simp at hc; subst hc; exact ⟨c, rfl, fun _ _ => rfl, .inr ⟨by omega, rfl⟩⟩
        | succ j =>
          obtain ⟨c2, e1, e2, e3⟩ := g4 j cj (by simpa using hc)
          refine ⟨c2, by simpa using e1, e2, ?_⟩
          rcases e3 with ⟨f1, f2, f3⟩ | ⟨f1, f2⟩
          · exact .inl ⟨by omega, by omega, by rw [show j + 1 - (off + 1) = j - off from by omega]; exact f3⟩
          · exact .inr ⟨by omega, f2⟩

end
end Go.Eng
namespace Go.Eng
open Go Go.RowKit

section
variable {P : Program} {TT : Nat → Option TI} {X : Nat → Prop} {w : World} {β : Env} {fp : Nat → Nat → Prop} {ts : List SV} {ks : List KB} {a : Act} {K : SV → List KB → Prop} {o : Oper} {r : Option Nat} {n : Nat} {next : Act → World → Prop} {Q : Exit → Act → World → Prop}

theorem newRowK_eq (ks : List KB) (k : KB) (K : SV → List KB → Prop) : newRowK ks k K = K (.all ks.length) (ks ++ [k]) := by
  simp [newRowK, addBK_eq, lenBK_eq]

theorem mev_store (hTT : TTok P TT) {t : TypeId} {x y : Operand} (ho : o.op = .store t x y) (h : mev TT ts ks (.store t x y) K) (hM : Mem X w β fp ks) (hT : ∀ x, Den w (Mx X fp) β (val ts x) (a.eval x)) (hn : MemNext X w β fp a o K next) : o.wpIn (wideF r) n P a w next Q := by
  have hnd : ∀ c, o.op ≠ .defer c := fun c hc => by rw [ho] at hc; cases hc
  simp only [mev] at h
  split at h
  · exact h.elim
  · rename_i size bytes agg zero desc eqk ht
    rw [valK_eq, valK_eq] at h
    have hv := hT y
    have hp := hT x
    obtain ⟨info, d, z, hi, hu, hsz, hrest⟩ := find_TT hTT ht
    simp only at hsz
    clear hrest
    split at h
    · rename_i i off hx
      rw [hx] at hp
      have ep : ∃ L, β i = some L ∧ a.eval x = .pointer (some ⟨L.b, off, none⟩) := by
        generalize a.eval x = av at hp
        cases hp with
        | ptr _ _ L hL => exact ⟨L, hL, rfl⟩
      obtain ⟨L, hL, ep⟩ := ep
      rw [getBK_eq] at h
      split at h
      · rename_i t' l hg
        have hk := getB_some hg (by simp)
        obtain ⟨h, hcells⟩ := cellsK_spec (w := w) (M := Mx X fp) (β := β) h
        obtain ⟨c1, c2, c3⟩ := hcells _ hv
        split at h
        · rename_i hb1 hb2 hb3
          rw [lenL_eq] at hb1 hb2
          have hb1 := beq_of hb1
          have hb2 := ble_of hb2
          have hpos := ble_of hb3
          rw [putK_eq, setBK_eq] at h
          have hkb := hM.at hk (by simp) hL
          cases hkb with
          | cells _ _ vs hfp hblk hl hd h1 =>
            have c3' : ∀ u ∈ (a.eval y).cells.toList, u.oneCell' = true := fun u hu => c3 u (by simpa using hu)
            obtain ⟨d1, d2⟩ := den_put (w := w) (M := Mx X fp) (β := β) (off := off) (l := l) (cs := vs.toList) (us := (a.eval y).cells.toList) (by simpa using hl) (by simpa using c1) (by omega) (fun j s u hs hu => hd j s u hs (by simpa using hu)) (fun j s u hs hu => c2 j s u hs (by simpa using hu))
            have hW := hM.store (vs' := blockSet vs off (a.eval y).cells.toList) hk hL hfp hblk (by simpa using d1) (fun j s u hs hu => d2 j s u hs (by simpa using hu)) (fun j u hu =>
              blockSet_one (cs := vs.toList) (us := (a.eval y).cells.toList) (off := off) (by simp; omega) (fun u hu => by
                obtain ⟨q, hq, rfl⟩ := List.mem_iff_getElem.1 hu
                exact h1 q _ (by simp)) c3' j u (by simpa using hu))
            refine wpIn_of_skip hnd ?_ (hn _ _ _ _ _ _ h hW (.any _))
            have hrun := run_storeVar (P := P) (w := w) hi L.b off (a.eval y) t' (0, 0) vs hblk (by simp) (by omega) (by omega) c3 (by omega)
            simp [execOp, ho, Instr.storeAt, Instr.sureAddr, ep, hrun]
        · exact h.elim
      · exact h.elim
    · rename_i i off len ix hx
      rw [hx] at hp
      have ep : ∃ L, 0 ≤ ix ∧ ix < len ∧ β i = some L ∧ a.eval x = .pointer (some ⟨L.b, off + ix.toNat, none⟩) := by
        generalize a.eval x = av at hp
        cases hp with
        | aptr _ _ _ _ L h0 h1 hL => exact ⟨L, h0, h1, hL, rfl⟩
      obtain ⟨L, h0, h1, hL, ep⟩ := ep
      split at h
      · rename_i k k' m hy
        rw [hy] at hv
        have ev := den_int hv
        split at h
        · rename_i hkk
          cases kEq_eq hkk
          rw [getBK_eq] at h
          split at h
          · rename_i t' l hg
            have hk := getB_some hg (by simp)
            split at h
            · rename_i hble
              rw [lenL_eq] at hble
              have hble := ble_of hble
              rw [dropK_eq, takeK_eq] at h
              obtain ⟨xs, l', hxs, h, hlen, hget⟩ := putIK_spec h
              rw [putK_eq, setBK_eq] at h
              have hkb := hM.at hk (by simp) hL
              cases hkb with
              | cells _ _ vs hfp hblk hl hd hone =>
                have hl' : l'.length = len := by rw [hlen]; simp; omega
                have hxl : xs.length = len := by
                  have := congrArg List.length hxs
                  simp at this
                  omega
                have hW := hM.store (l' := putCells l off l') (vs' := blockSet vs (off + ix.toNat) [.int k m]) hk hL hfp hblk (by rw [putCells_length, blockSet_size]; exact hl) (fun j s u hs hu => by
                  rw [putCells_get _ _ _ _ (by omega)] at hs
                  rw [blockSet_get _ _ _ _ (by simp; omega)] at hu
                  split at hs
                  · rename_i hj
                    have hq : j - off < xs.length := by omega
                    have hs2 := hget (j - off) _ (List.getElem?_eq_getElem hq)
                    rw [hs2] at hs
                    cases hs
                    split at hu
                    · rename_i hj2
                      simp at hj2 hu
                      have hje : j = off + ix.toNat := by omega
                      subst hje
                      simp at hu
                      subst hu
                      rw [if_pos (by omega)]
                      exact .d (.int _ _)
                    · rename_i hj2
                      simp at hj2
                      rw [if_neg (by omega)]
                      have hsl : l[j]? = some (.d (.int k (xs[j - off]'hq))) := by
                        have h2 : ((l.drop off).take len)[j - off]? = some (.d (.int k (xs[j - off]'hq))) := by rw [hxs]; simp [hq]
                        rw [List.getElem?_take, if_pos (by omega), List.getElem?_drop] at h2
                        rw [show off + (j - off) = j from by omega] at h2
                        exact h2
                      exact hd j _ u hsl hu
                  · rename_i hj
                    rw [if_neg (by simp; omega)] at hu
                    exact hd j s u hs hu) (fun j u hu => by
                  rw [blockSet_get _ _ _ _ (by simp; omega)] at hu
                  split at hu
                  · have := List.mem_of_getElem? hu
                    simp at this
                    subst this
                    rfl
                  · exact hone j u hu)
                refine wpIn_of_skip hnd ?_ (hn _ _ _ _ _ _ h hW (.any _))
                have hrun := run_storeVar (P := P) (w := w) hi L.b (off + ix.toNat) (.int k m) t' (0, 0) vs hblk (by simp) (by simp [Value.cells]; omega) (by omega) (by simp [Value.cells, Value.oneCell']) (by omega)
                simp [execOp, ho, Instr.storeAt, Instr.sureAddr, ep, ev, hrun, Value.cells]
            · exact h.elim
          · exact h.elim
        · exact h.elim
      · exact h.elim
    · rename_i i j off sz hx
      rw [hx] at hp
      have ep : ∃ L, β i = some L ∧ j < L.n ∧ a.eval x = .pointer (some ⟨L.b, j * sz + off, none⟩) := by
        generalize a.eval x = av at hp
        cases hp with
        | rptr _ _ _ _ L hL hj => exact ⟨L, hL, hj, rfl⟩
      obtain ⟨L, hL, hj, ep⟩ := ep
      rw [getBK_eq] at h
      split at h
      · rename_i e sz' m z' f hg
        have hk := getB_some hg (by simp)
        split at h
        · rename_i hb
          cases beq_of hb
          obtain ⟨h, hcells⟩ := cellsK_spec (w := w) (M := Mx X fp) (β := β) h
          obtain ⟨c1, c2, c3⟩ := hcells _ hv
          split at h
          · rename_i hb1 hb2 hb3
            rw [lenL_eq] at hb1
            have hb1 := beq_of hb1
            have hb2 := ble_of hb2
            have hpos := ble_of hb3
            obtain ⟨ds, fr, h, e1, e2, e3⟩ := dvsK_spec hM.toMem0 _ _ (a.eval y).cells.toList h (by simpa using c1) (fun j s u hs hu => c2 j s u hs (by simpa using hu))
            split at h
            · rename_i hmem
              have hnot := notMem hmem
              rw [goneK_eq, setBK_eq] at h
              have hW := hM.gone fr
              have hk1 : (goneL fr ks)[i]? = some (.row e sz m z' f) := by rw [goneL_other _ _ _ hnot]; exact hk
              have hkb := hW.mem.at hk1 (by simp) hL
              cases hkb with
              | rowNil _ _ _ _ _ _ _ hLn => rw [hLn] at hj; omega
              | row _ _ _ _ _ vs fz hfp hnil hLs hLn hzz hblk hfz hvs hng hfl hr hone =>
                have hjm : j < m := hLn ▸ hj
                have hjc : (j + 1) * sz ≤ vs.size := by rw [hvs]; exact Nat.mul_le_mul_right _ (by omega)
                rw [Nat.add_mul, Nat.one_mul] at hjc
                have c3' : ∀ u ∈ (a.eval y).cells.toList, u.oneCell' = true := fun u hu => c3 u (by simpa using hu)
                have hsl : (a.eval y).cells.toList.length = size := by simp; omega
                have hdl : ds.length = size := by omega
                have hin : j * sz + off + (a.eval y).cells.toList.length ≤ vs.size := by omega
                have hst : Step (Mx X (fpGone fr fp)) w (World.setBlock w L.b (.cells (blockSet vs (j * sz + off) (a.eval y).cells.toList) e fz)) := Step.setBlock w (.inr ⟨i, (hfp _).2 rfl⟩) _
                have hW2 := hW.mem.set (.row e sz m z' (oneF j off ds f)) (.cells (blockSet vs (j * sz + off) (a.eval y).cells.toList) e fz) (by rw [goneL_length]; exact (List.getElem?_eq_some_iff.1 hk).1) hL hfp
                  (.row e sz m z' _ _ fz hfp hnil hLs hLn hzz (setBlock_same _ _ _ (lt_of_block hblk)) (by rw [blockSet_size]; exact hfz) (by rw [blockSet_size]; exact hvs) hng (fun t ht => by
                    unfold oneF
                    split
                    · rw [putD_length]; exact hfl t ht
                    · exact hfl t ht) (fun t q d u ht hd hu => by
                    rw [blockSet_get _ _ _ _ hin] at hu
                    unfold oneF at hd
                    split at hd
                    · rename_i htj
                      subst htj
                      have hq : q < sz := by have := (List.getElem?_eq_some_iff.1 hd).1; rw [putD_length, hfl _ ht] at this; exact this
                      rw [putD_get _ _ _ _ (by rw [hfl _ ht]; omega)] at hd
                      split at hd
                      · rename_i hqr
                        rw [if_pos (by omega), show t * sz + q - (t * sz + off) = q - off from by omega] at hu
                        exact (e3 fr (fun _ hi => hi) _ d u hd hu).mono hst (fun _ _ e => e)
                      · rename_i hqr
                        rw [if_neg (by omega)] at hu
                        exact (hr t q d u ht hd hu).mono hst (fun _ _ e => e)
                    · rename_i htj
                      have hq : q < sz := by have := (List.getElem?_eq_some_iff.1 hd).1; rw [hfl _ ht] at this; exact this
                      rw [if_neg (by
                        rintro ⟨a1, a2⟩
                        apply htj
                        rcases Nat.lt_trichotomy t j with hlt | heq | hgt
                        · have : (t + 1) * sz ≤ j * sz := Nat.mul_le_mul_right _ hlt
                          rw [Nat.add_mul, Nat.one_mul] at this
                          omega
                        · exact heq
                        · have : (j + 1) * sz ≤ t * sz := Nat.mul_le_mul_right _ hgt
                          rw [Nat.add_mul, Nat.one_mul] at this
                          omega)] at hu
                      exact (hr t q d u ht hd hu).mono hst (fun _ _ e => e)) (fun q u hu => by
                    rw [blockSet_get _ _ _ _ hin] at hu
                    split at hu
                    · exact c3' u (List.mem_of_getElem? hu)
                    · exact hone q u hu))
                refine wpIn_of_skip hnd ?_ (hn _ _ _ _ _ _ h (hW.trans hW2) (.any _))
                have hrun := run_storeVar (P := P) (w := w) hi L.b (j * sz + off) (a.eval y) e fz vs hblk hfz (by simp at hsl; omega) (by simp at hsl; omega) c3 (by omega)
                simp [execOp, ho, Instr.storeAt, Instr.sureAddr, ep, hrun]
            · exact h.elim
          · exact h.elim
        · exact h.elim
      · exact h.elim
    · rename_i i n off hx
      rw [hx] at hp
      have ep : ∃ m L, n = m + 1 ∧ β i = some L ∧ a.eval x = .pointer (some ⟨m, off, none⟩) := by
        generalize a.eval x = av at hp
        cases hp with
        | ap _ m _ L hL => exact ⟨m, L, rfl, hL, rfl⟩
      obtain ⟨m, L, rfl, hL, ep⟩ := ep
      rw [getBK_eq] at h
      split at h
      · rename_i t' dom cols hg
        have hk := getB_some hg (by simp)
        obtain ⟨h, hcells⟩ := cellsK_spec (w := w) (M := Mx X fp) (β := β) h
        obtain ⟨c1, c2, c3⟩ := hcells _ hv
        split at h
        · rename_i hb1 hb2 hb3
          rw [lenL_eq] at hb1
          rw [lenC_eq] at hb2
          have hb1 := beq_of hb1
          have hb2 := ble_of hb2
          have hpos := ble_of hb3
          obtain ⟨hdom, h⟩ := h
          obtain ⟨cols', h, g1, g2⟩ := putCK_spec h
          rw [setBK_eq] at h
          have hkb := hM.at hk (by simp) hL
          cases hkb with
          | arena _ _ _ hfp h0 hall =>
            obtain ⟨vs, hblk, hl, hd, h1⟩ := hall m hdom
            have c3' : ∀ u ∈ (a.eval y).cells.toList, u.oneCell' = true := fun u hu => c3 u (by simpa using hu)
            have hin : off + (a.eval y).cells.toList.length ≤ vs.size := by rw [hl]; simp; omega
            have hW := hM.setArena (n := m) hk hL hdom cols' (blockSet vs off (a.eval y).cells.toList) (by rw [blockSet_size, hl, g1]) (fun j c u hc hu => by
                have hj : j < cols.length := by rw [← g1]; exact (List.getElem?_eq_some_iff.1 hc).1
                obtain ⟨c', e1, e2, e3⟩ := g2 j _ (List.getElem?_eq_getElem hj)
                rw [hc] at e1
                cases e1
                rw [blockSet_get _ _ _ _ hin] at hu
                rcases e3 with ⟨f1, f2, v, fv, f3⟩ | ⟨f1, f2⟩
                · rw [if_pos ⟨f1, by simp; omega⟩] at hu
                  exact f3 _ _ _ _ (c2 _ v u fv (by simpa using hu))
                · rw [if_neg (by simp; omega)] at hu
                  rw [f2]
                  exact hd j _ u (List.getElem?_eq_getElem hj) hu) (fun j u hu =>
              blockSet_one (cs := vs.toList) (us := (a.eval y).cells.toList) (off := off) (by simpa using hin) (fun u hu => by
                obtain ⟨q, hq, rfl⟩ := List.mem_iff_getElem.1 hu
                exact h1 q _ (by simp)) c3' j u (by simpa using hu)) g1 (fun j c c' q hc hc' hq w M u hu => by
                obtain ⟨c2, e1, e2, _⟩ := g2 j c hc
                rw [hc'] at e1
                cases e1
                rw [e2 q hq]
                exact hu)
            refine wpIn_of_skip hnd ?_ (hn _ _ _ _ _ _ h hW (.any _))
            have hrun := run_storeVar (P := P) (w := w) hi m off (a.eval y) t' (0, 0) vs hblk (by simp) (by omega) (by omega) c3 (by omega)
            simp [execOp, ho, Instr.storeAt, Instr.sureAddr, ep, hrun]
        · exact h.elim
      · exact h.elim
    · exact h.elim

theorem rangeMod_get {z : Array Value} {n m : Nat} {u : Value} (h : ((Array.range n).map (z[· % z.size]!))[m]? = some u) (hz : 0 < z.size) : m < n ∧ z[m % z.size]? = some u := by
  rw [Array.getElem?_map] at h
  cases hr : (Array.range n)[m]? with
  | none => rw [hr] at h; cases h
  | some q =>
    rw [hr] at h
    simp only [Option.map_some] at h
    have hm : m < n := by have := (Array.getElem?_eq_some_iff.1 hr).1; simpa using this
    have hq : q = m := by
      have := (Array.getElem?_eq_some_iff.1 hr).2
      simpa using this.symm
    subst hq
    have hl := Nat.mod_lt q hz
    rw [getElem!_pos z (q % z.size) hl] at h
    exact ⟨hm, by rw [Array.getElem?_eq_getElem hl]; exact h⟩

theorem mev_append (hTT : TTok P TT) {args : Array Operand} {argTypes : Array TypeId} (ho : o.op = .call ⟨.builtin .append, args, argTypes⟩) (h : mev TT ts ks (.call ⟨.builtin .append, args, argTypes⟩) K) (hM : Mem X w β fp ks) (hT : ∀ x, Den w (Mx X fp) β (val ts x) (a.eval x)) (hn : MemNext X w β fp a o K next) : o.wpIn (wideF r) n P a w next Q := by
  have hnd : ∀ c, o.op ≠ .defer c := fun c hc => by rw [ho] at hc; cases hc
  obtain ⟨args⟩ := args
  obtain ⟨argTypes⟩ := argTypes
  simp only [mev] at h
  split at h
  · rename_i s x st xt
    split at h
    · rename_i _ _ _ _ e _ ht
      split at h
      · rename_i size bytes _ _ _ _ hte
        split at h
        · rename_i hbs
          rw [Bool.and_eq_true, Bool.and_eq_true] at hbs
          have hpos : 0 < size := ble_of hbs.1
          have hbp : 0 < bytes := ble_of hbs.2.1
          have htx := isSeq_spec hTT hbs.2.2
          obtain ⟨info0, d0, z0', hi0, hu0, _, _, _, _, _, _, _, _, hd0⟩ := find_TT hTT ht
          cases hd0
          obtain ⟨info, de, z0, hi, hue, hsz, hby, hz0, _, hzl, hzs, _, hz1, _⟩ := find_TT hTT hte
          simp only at hsz hby hzl hzs
          have hzs' : z0.cells.size = size := by omega
          rw [valK_eq] at h
          obtain ⟨k, g, fr, us, h, hfr, hsrc⟩ := srcK_spec hM.toMem0 hpos h (hT x) htx
          have hS := hsrc fr (fun _ hi => hi)
          have hk63 : ∀ n, (n + k) * bytes ≤ 70368744177664 → n + k ≤ 9223372036854775807 := fun n hb => by
            have : (n + k) * 1 ≤ (n + k) * bytes := Nat.mul_le_mul_left _ (by omega)
            omega
          rw [valK_eq] at h
          have hv := hT s
          have fin : ∀ (ks' : List KB) (i : Nat) (v : Value) (w' : World) (β' : Env) (fp' : Nat → Nat → Prop), (Builtin.append_ #[st, xt] o.type #[a.eval s, a.eval x]).run P w = .ok v w' → Went X w β fp w' β' fp' ks' → Den w' (Mx X fp') β' (.all i) v → K (.all i) ks' → o.wpIn (wideF r) n P a w next Q := fun ks' i v w' β' fp' hrun hW hd hK => by
            refine wpIn_of_run hnd ?_ (hn _ _ _ _ _ _ hK hW hd)
            simp [execOp, ho, resolve, invoke, builtin, hrun]
          have hW0 := hM.gone fr
          split at h
          · rename_i sz' f' hx
            rw [hx] at hv
            have ev : a.eval s = .slice none 0 0 := by
              generalize a.eval s = av at hv
              cases den_data hv; rfl
            obtain ⟨hb, h⟩ := h
            rw [goneK_eq, newRowK_eq] at h
            obtain ⟨v, w', β', fp', r1, r2, r3⟩ := append_nil (P := P) (st := st) (xt := xt) (ty := o.type) hW0.mem hu0 hi hz0 hsz hzs' hz1 hpos hS (by rw [hby]; exact hb) (by have := hk63 0 (by simpa using hb); omega) .iff (by simp) (fun _ => [])
            refine fin _ _ v w' β' fp' (by rw [ev]; exact r1) (hW0.trans r2) r3 ?_
            have : catF 0 (fun _ => []) g = g := by funext t; simp [catF]
            rw [this, Nat.zero_add]
            exact h
          · rename_i i hx
            rw [hx] at hv
            rw [getBK_eq] at h
            split at h
            · rename_i e' sz m z f hg
              have hki := getB_some hg (by simp)
              split at h
              · rename_i he hs' hmem
                cases beq_of he
                cases beq_of hs'
                have hnot := notMem hmem
                obtain ⟨hb, h⟩ := h
                rw [goneK_eq, setBK_eq, newRowK_eq] at h
                simp only [List.length_set] at h
                have hk1 : (goneL fr ks)[i]? = some (.row e size m z f) := by rw [goneL_other _ _ _ hnot]; exact hki
                have hcase : (∃ L, β i = some L ∧ L.nil = true ∧ a.eval s = .slice none 0 0) ∨ (∃ L, β i = some L ∧ L.nil = false ∧ a.eval s = .slice (some ⟨L.b, 0, none⟩) L.n L.c) := by
                  generalize a.eval s = av at hv
                  cases hv with
                  | allNil _ L hL hnil => exact .inl ⟨L, hL, hnil, rfl⟩
                  | all _ L hL hnil => exact .inr ⟨L, hL, hnil, rfl⟩
                rcases hcase with ⟨L, hL, hnil, ev⟩ | ⟨L, hL, hnil, ev⟩
                · have hkb := hW0.mem.at hk1 (by simp) hL
                  cases hkb with
                  | row _ _ _ _ _ vs fz hfp hnil' => rw [hnil] at hnil'; cases hnil'
                  | rowNil _ _ _ _ _ _ _ _ hz =>
                    have hW1 := hW0.mem.gone [i]
                    have hks : goneL [i] (goneL fr ks) = (goneL fr ks).set i .gone := by simp [goneL, setB_eq]
                    rw [hks] at hW1
                    obtain ⟨v, w', β', fp', r1, r2, r3⟩ := append_nil (P := P) (st := st) (xt := xt) (ty := o.type) hW1.mem hu0 hi hz0 hsz hzs' hz1 hpos (hS.less (hW0.mem.goneM [i])) (by rw [hby]; simpa using hb) (by have := hk63 0 (by simpa using hb); omega) z hz f
                    simp only [List.length_set] at r3
                    exact fin _ _ v w' β' fp' (by rw [ev]; exact r1) ((hW0.trans hW1).trans r2) r3 h
                · have hkb := hW0.mem.at hk1 (by simp) hL
                  cases hkb with
                  | rowNil _ _ _ _ _ hnil' => rw [hnil] at hnil'; cases hnil'
                  | row _ _ _ _ _ vs fz hfp _ hLs hLn hzz hblk hfz hvs hng hfl hr hone =>
                    obtain ⟨v, w', β', fp', r1, r2, r3⟩ := append_row (P := P) (st := st) (xt := xt) (ty := o.type) hW0.mem hu0 hi hz0 hsz hzs' hz1 hk1 hL hnil (Nat.le_refl m) hS (by rw [hby]; exact hb) (hk63 m hb) z (fun e => by have := hzz e; omega)
                    exact fin _ _ v w' β' fp' (by rw [ev, hLn]; exact r1) (hW0.trans r2) r3 h
              · exact h.elim
            · exact h.elim
          · rename_i i m' hx
            rw [hx] at hv
            rw [getBK_eq] at h
            split at h
            · rename_i e' sz m z f hg
              have hki := getB_some hg (by simp)
              split at h
              · rename_i he hs' hmem
                cases beq_of he
                cases beq_of hs'
                have hnot := notMem hmem
                obtain ⟨⟨hle, hb⟩, h⟩ := h
                rw [goneK_eq, setBK_eq, newRowK_eq] at h
                simp only [List.length_set] at h
                have hk1 : (goneL fr ks)[i]? = some (.row e size m z f) := by rw [goneL_other _ _ _ hnot]; exact hki
                have hcase : (∃ L, β i = some L ∧ L.nil = true ∧ m' = 0 ∧ a.eval s = .slice none 0 0) ∨ (∃ L, β i = some L ∧ L.nil = false ∧ m' ≤ L.c ∧ a.eval s = .slice (some ⟨L.b, 0, none⟩) m' L.c) := by
                  generalize a.eval s = av at hv
                  cases hv with
                  | rowNil _ L hL hnil => exact .inl ⟨L, hL, hnil, rfl, rfl⟩
                  | row _ _ _ off L hL hnil hc ho' => exact .inr ⟨L, hL, hnil, by omega, by rw [ho' (.inr rfl), Nat.zero_mul]; simp⟩
                rcases hcase with ⟨L, hL, hnil, hm0, ev⟩ | ⟨L, hL, hnil, hmc, ev⟩
                · subst hm0
                  have hkb := hW0.mem.at hk1 (by simp) hL
                  cases hkb with
                  | row _ _ _ _ _ vs fz hfp hnil' => rw [hnil] at hnil'; cases hnil'
                  | rowNil _ _ _ _ _ _ _ _ hz =>
                    have hW1 := hW0.mem.gone [i]
                    have hks : goneL [i] (goneL fr ks) = (goneL fr ks).set i .gone := by simp [goneL, setB_eq]
                    rw [hks] at hW1
                    obtain ⟨v, w', β', fp', r1, r2, r3⟩ := append_nil (P := P) (st := st) (xt := xt) (ty := o.type) hW1.mem hu0 hi hz0 hsz hzs' hz1 hpos (hS.less (hW0.mem.goneM [i])) (by rw [hby]; simpa using hb) (by have := hk63 0 (by simpa using hb); omega) z.cut (by cases z <;> simp [Z.cut] at hz ⊢) f
                    simp only [List.length_set] at r3
                    exact fin _ _ v w' β' fp' (by rw [ev]; exact r1) ((hW0.trans hW1).trans r2) r3 h
                · have hkb := hW0.mem.at hk1 (by simp) hL
                  cases hkb with
                  | rowNil _ _ _ _ _ hnil' => rw [hnil] at hnil'; cases hnil'
                  | row _ _ _ _ _ vs fz hfp _ hLs hLn hzz hblk hfz hvs hng hfl hr hone =>
                    obtain ⟨v, w', β', fp', r1, r2, r3⟩ := append_row (P := P) (st := st) (xt := xt) (ty := o.type) hW0.mem hu0 hi hz0 hsz hzs' hz1 hk1 hL hnil hle hS (by rw [hby]; exact hb) (hk63 m' hb) z.cut (by cases z <;> simp [Z.cut])
                    exact fin _ _ v w' β' fp' (by rw [ev]; exact r1) (hW0.trans r2) r3 h
              · exact h.elim
            · exact h.elim
          · rename_i i m' c' hx
            rw [hx] at hv
            rw [getBK_eq] at h
            split at h
            · rename_i e' l hg
              have hki := getB_some hg (by simp)
              split at h
              · rename_i he hnc hll hmem
                cases beq_of he
                cases beq_of hnc
                rw [lenL_eq] at hll
                have hll := beq_of hll
                have hnot := notMem hmem
                obtain ⟨hb, h⟩ := h
                have hcase : ∃ L, β i = some L ∧ a.eval s = .slice (some ⟨L.b, 0, none⟩) m' m' := by
                  generalize a.eval s = av at hv
                  cases hv with
                  | cs _ _ _ _ L hL hnc => exact ⟨L, hL, rfl⟩
                obtain ⟨L, hL, ev⟩ := hcase
                have hkb := hM.at hki (by simp) hL
                cases hkb with
                | cells _ _ vs hfp hblk hl hd hone =>
                  obtain ⟨ds, fr2, h, e1, e2, e3⟩ := dvsK_spec hM.toMem0 _ _ vs.toList h (by simpa using hl) (fun j s u hs hu => hd j s u hs (by simpa using hu))
                  split at h
                  · rename_i hmem2
                    have hnot2 := notMem hmem2
                    rw [goneK_eq, goneK_eq, setBK_eq, newRowK_eq] at h
                    simp only [List.length_set] at h
                    have hW1 := hW0.mem.gone fr2
                    have hk1 : (goneL fr2 (goneL fr ks))[i]? = some (.cells e l) := by rw [goneL_other _ _ _ hnot2, goneL_other _ _ _ hnot]; exact hki
                    have hsub : ∀ b, Mx X (fpGone fr2 (fpGone fr fp)) b → Mx X (fpGone (fr ++ fr2) fp) b := fun b hm => hm.imp id (fun ⟨j, hj, hj', hb⟩ => ⟨j, by simp [hj, hj'], hb⟩)
                    obtain ⟨v, w', β', fp', r1, r2, r3⟩ := append_cs (P := P) (st := st) (xt := xt) (ty := o.type) hW1.mem hu0 hi hz0 hsz hzs' hz1 hk1 hL hpos hll e1 (fun vs' hb' j d u hdd hu => by
                      rw [hblk] at hb'
                      cases hb'
                      exact rd_less (e3 (fr ++ fr2) (fun i hi => by simp [hi]) j d u hdd (by simpa using hu)) hsub) (hS.less (hW0.mem.goneM fr2)) (by rw [hby]; exact hb) (hk63 m' hb)
                    exact fin _ _ v w' β' fp' (by rw [ev]; exact r1) ((hW0.trans hW1).trans r2) r3 h
                  · exact h.elim
              · exact h.elim
            · exact h.elim
          · exact h.elim
        · exact h.elim
      · exact h.elim
    · exact h.elim
  · exact h.elim

end
end Go.Eng
namespace Go.Eng
open Go Go.RowKit

section
variable {P : Program} {TT : Nat → Option TI} {X : Nat → Prop} {w : World} {β : Env} {fp : Nat → Nat → Prop} {ts : List SV} {ks : List KB} {a : Act} {K : SV → List KB → Prop} {o : Oper} {r : Option Nat} {n : Nat} {next : Act → World → Prop} {Q : Exit → Act → World → Prop}

theorem mev_buildSlice (hTT : TTok P TT) {t : TypeId} {len : Nat} {parts : Array (Nat × Operand)} (ho : o.op = .buildSlice t len parts) (h : mev TT ts ks (.buildSlice t len parts) K) (hM : Mem X w β fp ks) (hT : ∀ x, Den w (Mx X fp) β (val ts x) (a.eval x)) (hn : MemNext X w β fp a o K next) : o.wpIn (wideF r) n P a w next Q := by
  have hnd : ∀ c, o.op ≠ .defer c := fun c hc => by rw [ho] at hc; cases hc
  simp only [mev] at h
  split at h
  · rename_i _ _ _ _ e _ ht
    split at h
    · rename_i size bytes agg zero desc eqk hte
      split at h
      · rename_i hble
        have hble := ble_of hble
        obtain ⟨info0, d0, z0', hi0, hu0, _, _, _, _, _, _, _, _, hd0⟩ := find_TT hTT ht
        cases hd0
        obtain ⟨info, de, z0, hi, hue, hsz, hby, hz0, _, hzl, hzs, hzd, hz1, _⟩ := find_TT hTT hte
        simp only at hsz hzl hzs hzd
        rw [repK_eq] at h
        have hlen0 : ((List.replicate len zero).flatten).length = len * size := by simp [hzs]
        have hbase : ((Array.range (len * info.size)).map (z0.cells[· % z0.cells.size]!)).toList.length = len * size := by simp [hsz]
        have hzpos : ∀ m, m < len * size → 0 < z0.cells.size := fun m hm => by
          rcases Nat.eq_zero_or_pos z0.cells.size with e0 | e0
          · rw [hzl, hzs] at e0; rw [e0] at hm; omega
          · exact e0
        obtain ⟨cs', vs', h, hfill, r1, r2, r3⟩ := fillS_spec (a := a) hT parts.toList _ _ ((Array.range (len * info.size)).map (z0.cells[· % z0.cells.size]!)).toList h (by rw [hlen0, hbase]) (fun j s u hs hu => by
            obtain ⟨a1, a2⟩ := rep_get zero len j s hs
            have hu' : ((Array.range (len * info.size)).map (z0.cells[· % z0.cells.size]!))[j]? = some u := by rw [← Array.getElem?_toList]; exact hu
            obtain ⟨b1, b2⟩ := rangeMod_get hu' (hzpos j (by rw [hzs] at a2; exact a2))
            rw [hzl] at b2
            exact hzd w _ β _ s u a1 b2) (fun u hu => by
            obtain ⟨j, hj, rfl⟩ := List.mem_iff_getElem.1 hu
            have hu' := List.getElem?_eq_getElem hj
            rw [Array.getElem?_toList] at hu'
            rw [hbase] at hj
            obtain ⟨b1, b2⟩ := rangeMod_get hu' (hzpos j hj)
            exact hz1 _ _ b2)
        rw [addBK_eq, lenBK_eq, Nat.zero_add] at h
        have hW := hM.newCells e cs' vs'.toArray (by simpa using r1) (fun j s u hs hu => r2 j s u hs (by simpa using hu)) (fun j u hu => r3 u (List.mem_of_getElem? (by simpa using hu)))
        refine wpIn_of_run hnd ?_ (hn _ _ (.slice (some ⟨w.heap.size, 0, none⟩) len len) _ _ _ h hW (.cs _ 0 len len (locB w.heap.size) (upd_same _ _ _) (Nat.le_refl _)))
        have hrun : (Instr.buildSlice t len (parts.map fun (i, x) => (i, a.eval x))).run P w = .ok (.slice (some ⟨w.heap.size, 0, none⟩) len len) (w.alloc (.cells vs'.toArray e)) := by
          have hp : (parts.map fun (i, x) => (i, a.eval x)).toList = parts.toList.map fun p => (p.1, a.eval p.2) := by simp
          have hfill' : Instr.fill (fun i => some (i * info.size, info.size)) ((Array.range (len * info.size)).map (z0.cells[· % z0.cells.size]!)) (parts.map fun (i, x) => (i, a.eval x)).toList = some vs'.toArray := by
            rw [hp, hsz]
            rw [hsz, Array.toArray_toList] at hfill
            exact hfill
          have h24 : ¬ (len * info.size > 2 ^ 24) := by rw [hsz]; omega
          by_cases hz : len * info.size = 0
          · rw [hz, Array.range_zero', Array.map_empty] at hfill'
            simp only [Instr.buildSlice, Sem.run_bind, run_underlying hu0, Result.andThen_ok, run_sizeOf hi, hz]
            have hfill2 : Instr.fill (fun i => some (i * info.size, info.size)) #[] (List.map (fun x => (x.1, a.eval x.2)) parts.toList) = some vs'.toArray := by rw [← hp]; exact hfill'
            simp [newRow, Array.range_zero', hfill2]
          · exact run_buildSlice w t e len _ _ info z0 hu0 hi hz0 h24 hz hfill'
        simp [execOp, ho, hrun]
      · exact h.elim
    · exact h.elim
  · exact h.elim

theorem mev_makeSlice (hTT : TTok P TT) {t : TypeId} {x y : Operand} (ho : o.op = .makeSlice t x y) (h : mev TT ts ks (.makeSlice t x y) K) (hM : Mem X w β fp ks) (hT : ∀ x, Den w (Mx X fp) β (val ts x) (a.eval x)) (hn : MemNext X w β fp a o K next) : o.wpIn (wideF r) n P a w next Q := by
  have hnd : ∀ c, o.op ≠ .defer c := fun c hc => by rw [ho] at hc; cases hc
  simp only [mev] at h
  split at h
  · rename_i _ _ _ _ e _ ht
    split at h
    · rename_i size bytes agg zero desc eqk hte
      obtain ⟨info0, d0, z0', hi0, hu0, _, _, _, _, _, _, _, _, hd0⟩ := find_TT hTT ht
      cases hd0
      obtain ⟨info, de, z0, hi, hue, hsz, hby, hz0, _, hzl, hzs, hzd, hz1, _⟩ := find_TT hTT hte
      simp only at hsz hzl hzs hzd hby
      rw [valK_eq, valK_eq] at h
      have hx := hT x
      have hy := hT y
      split at h
      · rename_i k l k' c ex ey
        rw [ex] at hx; rw [ey] at hy
        have e1 := den_int hx
        have e2 := den_int hy
        have hE : Mem (Mx X fp) w noE (fun _ _ => False) [] := ⟨⟨hM.mlt, fun _ _ h => h.elim, fun _ _ _ h => h.elim, fun _ _ h => h.elim, fun _ _ h => h.elim, fun i L k hk => by simp at hk⟩, fun _ _ => rfl, fun i t dom cols hi => by simp at hi⟩
        obtain ⟨ds, fr, h, f1, f2, f3⟩ := dvsK_spec hE.toMem0 _ _ z0.cells.toList h (by simpa using hzl.symm) (fun j s u hs hu => hzd w _ noE j s u hs (by simpa using hu))
        obtain ⟨⟨h0, h1, h2, h3⟩, h⟩ := h
        rw [newRowK_eq] at h
        have hsize : ds.length = size := by rw [f1, hzs]
        have hgetm : ∀ (kk q : Nat) (u : Value), q < size → (madeCells z0.cells (c.toNat * info.size))[kk * size + q]? = some u → z0.cells[q]? = some u := fun kk q u hq hu => by
          obtain ⟨_, b2⟩ := rangeMod_get hu (by omega)
          rw [hzl, hzs, Nat.mul_comm, Nat.mul_add_mod, Nat.mod_eq_of_lt hq] at b2
          exact b2
        obtain ⟨hW, hden⟩ := hM.newRow e size l.toNat c.toNat .no (fun _ => ds) (madeCells z0.cells (c.toNat * info.size)) (0, 0) (by simp) (fun e => by cases e) (by rw [size_madeCells, hsz]) (by omega) (fun _ _ => hsize) (fun kk q d u _ hd hu => by
            have hq : q < size := by have := (List.getElem?_eq_some_iff.1 hd).1; omega
            have hu' := hgetm kk q u hq hu
            have := f3 fr (fun _ h => h) q d u hd (by simpa using hu')
            exact rd_less this (fun b hb => .inl hb)) (fun j u hu => by
            have hj : j < c.toNat * info.size := by have := (Array.getElem?_eq_some_iff.1 hu).1; rw [size_madeCells] at this; exact this
            have hp : 0 < z0.cells.size := by
              rcases Nat.eq_zero_or_pos z0.cells.size with e0 | e0
              · rw [hzl, hzs, ← hsz] at e0; rw [e0] at hj; omega
              · exact e0
            obtain ⟨_, b2⟩ := rangeMod_get hu hp
            exact hz1 _ _ b2)
        refine wpIn_of_run hnd ?_ (hn _ _ _ _ _ _ h hW hden)
        have hrun := run_make (P := P) w t e info z0 hu0 hi hz0 k k' l c h0 h1 (by rw [hby, Int.mul_comm]; exact h2) h3
        simp [execOp, ho, e1, e2, hrun]
      · exact h.elim
    · exact h.elim
  · exact h.elim

theorem bytesWorld_eq (w : World) (e : TypeId) (s : ByteArray) : Lib.bytesWorld w e s = w.drew.alloc (.cells (Lib.bytesCells w e s) e ((Lib.bytesCells w e s).size, (Lib.bytesCells w e s).size + 1)) := by
  have hh : (Lib.bytesWorld w e s).heap = (w.drew.alloc (.cells (Lib.bytesCells w e s) e ((Lib.bytesCells w e s).size, (Lib.bytesCells w e s).size + 1))).heap := by
    apply Array.ext_getElem?
    intro i
    rcases Nat.lt_trichotomy i w.heap.size with h | h | h
    · rw [Lib.bytesWorld_at_old w e s i h]
      exact (Below.heap_alloc w.drew _ i h).symm
    · subst h
      rw [Lib.bytesWorld_at_new]
      show _ = (w.heap.push _)[w.heap.size]?
      simp
    · rw [Array.getElem?_eq_none (by rw [Lib.bytesWorld_size]; omega)]
      show _ = (w.heap.push _)[i]?
      rw [Array.getElem?_eq_none (by simp; omega)]
  have h2 : ∀ w' : World, (Lib.bytesWorld w e s).heap = w'.heap → w'.tape = w.tape → w'.drawn = w.drew.drawn → w'.os = w.os → w'.output = w.output → Lib.bytesWorld w e s = w' := by
    intro w' a b c d f
    have g1 : (Lib.bytesWorld w e s).tape = w.tape := by simp [Lib.bytesWorld, World.freeze, World.alloc, World.drew, -World.alloc_eq, -World.drew_eq]
    have g2 : (Lib.bytesWorld w e s).drawn = w.drew.drawn := by simp [Lib.bytesWorld, World.freeze, World.alloc, World.drew, -World.alloc_eq, -World.drew_eq]
    have g3 : (Lib.bytesWorld w e s).os = w.os := by simp [Lib.bytesWorld, World.freeze, World.alloc, World.drew, -World.alloc_eq, -World.drew_eq]
    have g4 : (Lib.bytesWorld w e s).output = w.output := by simp [Lib.bytesWorld, World.freeze, World.alloc, World.drew, -World.alloc_eq, -World.drew_eq]
    generalize Lib.bytesWorld w e s = w1 at *
    obtain ⟨h1, t1, d1, o1, u1⟩ := w1
    obtain ⟨h2, t2, d2, o2, u2⟩ := w'
    simp only at a b c d f g1 g2 g3 g4
    subst a
    simp [b, c, d, f, g1, g2, g3, g4]
  exact h2 _ hh rfl rfl rfl rfl

theorem mev_convert (hTT : TTok P TT) {src dst : TypeId} {x : Operand} (ho : o.op = .convert src dst x) (h : mev TT ts ks (.convert src dst x) K) (hM : Mem X w β fp ks) (hT : ∀ x, Den w (Mx X fp) β (val ts x) (a.eval x)) (hn : MemNext X w β fp a o K next) : o.wpIn (wideF r) n P a w next Q := by
  have hnd : ∀ c, o.op ≠ .defer c := fun c hc => by rw [ho] at hc; cases hc
  simp only [mev] at h
  split at h
  · rename_i _ _ tis _ _ _ _ e _ hts ht
    obtain ⟨_, us, _, _, hsrc, _⟩ := find_TT hTT hts
    split at h
    · rename_i _ _ _ _ _ hte
      obtain ⟨info0, d0, z0', hi0, hu0, _, _, _, _, _, _, _, _, hd0⟩ := find_TT hTT ht
      cases hd0
      obtain ⟨info1, d1, z1', hi1, hu1, _, _, _, _, _, _, _, _, hd1⟩ := find_TT hTT hte
      cases hd1
      rw [valK_eq] at h
      have hx := hT x
      split at h
      · rename_i s ex
        rw [ex] at hx
        have ev := den_str hx
        rw [newRowK_eq] at h
        have hrun := Lib.run_convert_string_bytes (P := P) w src dst e ⟨s.toArray⟩ hsrc hu0 hu1
        rw [bytesWorld_eq, size_str] at hrun
        have hge := grown_ge w s.length 0 e
        have hC : (Lib.bytesCells w e ⟨s.toArray⟩).size = grownCap w s.length 0 e := by
          unfold Lib.bytesCells
          rw [size_str]
          simp
          omega
        have hW := hM.drew
        have hget : ∀ j u, j < s.length → (Lib.bytesCells w e ⟨s.toArray⟩)[j]? = some u → ∃ b, s[j]? = some b ∧ u = .int .u8 b.toNat := fun j u hj hu => by
          unfold Lib.bytesCells at hu
          rw [Array.getElem?_append_left (by simpa using hj)] at hu
          simp at hu
          obtain ⟨b, h1, h2⟩ := hu
          exact ⟨b, h1, h2.symm⟩
        obtain ⟨hW2, hden⟩ := hW.mem.newRow e 1 s.length (grownCap w s.length 0 e) .no (fun j => [.int .u8 (byteAt s j)]) (Lib.bytesCells w e ⟨s.toArray⟩) ((Lib.bytesCells w e ⟨s.toArray⟩).size, (Lib.bytesCells w e ⟨s.toArray⟩).size + 1) (fun o ho => by omega) (fun e => by cases e) (by rw [hC, Nat.mul_one]) hge (fun _ _ => rfl) (fun k q d u hk hd hu => by
            cases q with
            | zero =>
              simp at hd
              subst hd
              obtain ⟨b, hb, rfl⟩ := hget k u hk (by simpa using hu)
              have : byteAt s (k : Int) = b.toNat := by unfold byteAt; simp [hb]
              rw [this]
              exact .int _ _
            | succ q => simp at hd) (fun j u hu => by
            unfold Lib.bytesCells at hu
            rw [Array.getElem?_append] at hu
            split at hu
            · simp at hu
              obtain ⟨b, _, rfl⟩ := hu
              rfl
            · have := Array.mem_of_getElem? hu
              simp at this
              rw [this.2]
              rfl)
        refine wpIn_of_run hnd ?_ (hn _ _ _ _ _ _ h (hW.trans hW2) hden)
        simp only [execOp, ho, ev, strV, Sem.run_bind, hrun, Result.andThen_ok, Sem.run_pure]
        rfl
      · exact h.elim
    · exact h.elim
  · exact h.elim

theorem elemK_spec {ea : Bool} {v : SV} {c : List SV → Prop} (h : elemK ea v c) : ∃ vs, c vs ∧ ∀ (w : World) (M : Nat → Prop) (β : Env) (u : Value), Den w M β v u → ∃ vc, u = mkVal ea vc ∧ vs.length = vc.length ∧ (ea = false → vc.length = 1) ∧ (∀ (q : Nat) (s : SV) (x : Value), vs[q]? = some s → vc[q]? = some x → Den w M β s x) ∧ ∀ x ∈ vc, x.oneCell' = true := by
  unfold elemK at h
  split at h
  · split at h
    · rename_i l
      refine ⟨l, h, fun w M β u hu => ?_⟩
      cases hu with
      | agg _ vs h1 h2 h3 => exact ⟨vs, rfl, h1, fun e => by (cases e), h2, h3⟩
    · exact h.elim
  · split at h
    · exact h.elim
    · rename_i hna
      have hc : cellsOf v = [v] := by
        unfold cellsOf
        split
        · exact absurd rfl (hna _)
        · rfl
      have h' : c (cellsOf v) := by
        unfold cellsK at h
        split at h
        · exact absurd rfl (hna _)
        · exact h.elim
        · exact h.elim
        · split at h
          · rw [hc]; exact h
          · exact h.elim
        · rw [hc]; exact h
      refine ⟨[v], by rw [← hc]; exact h', fun w M β u hu => ?_⟩
      obtain ⟨_, hcells⟩ := cellsK_spec (w := w) (M := M) (β := β) h
      obtain ⟨c1, c2, c3⟩ := hcells u hu
      rw [hc] at c1
      have hone : u.oneCell' = true := by
        cases hag : u with
        | agg cs =>
          subst hag
          simp only [Value.cells] at c1 c2 c3
          cases hu <;> first | (exact absurd rfl (hna _)) | skip
          all_goals first | (rename_i hr; cases hr) | skip
          all_goals (first | (unfold cellsK at h; simp only at h) | skip)
          all_goals (first | (split at h; (rename_i h1; exact h1); exact h.elim) | exact h.elim | skip)
        | _ => subst hag; exact c3 _ (by simp [Value.cells])
      refine ⟨[u], rfl, rfl, fun _ => rfl, fun q s x hs hx => ?_, fun x hx => ?_⟩
      · cases q with
        | zero => simp at hs hx; subst hs hx; exact hu
        | succ q => simp at hs
      · simp at hx; subst hx; exact hone

theorem eqCells_eq {eks : List EK} : ∀ {xs ys : List Value}, xs.length = eks.length → ys.length = eks.length → Fits eks xs → Fits eks ys → eqCells eks xs ys = true → xs = ys := by
  induction eks with
  | nil =>
    intro xs ys h1 h2 _ _ _
    rw [List.eq_nil_of_length_eq_zero h1, List.eq_nil_of_length_eq_zero h2]
  | cons k eks ih =>
    intro xs ys h1 h2 f1 f2 he
    match xs, ys, h1, h2 with
    | x :: xs, y :: ys, h1, h2 =>
      simp only [eqCells, Bool.and_eq_true] at he
      have hx := f1 0 k x rfl rfl
      have hy := f2 0 k y rfl rfl
      have hxy : x = y := by
        have he1 := he.1
        cases k with
        | int k =>
          cases x <;> simp [fits] at hx
          cases y <;> simp [fits] at hy
          subst hx hy
          simp [eqCell] at he1
          rw [he1]
        | bool =>
          cases x <;> simp [fits] at hx
          cases y <;> simp [fits] at hy
          simp [eqCell] at he1
          rw [he1]
        | str =>
          cases x <;> simp [fits] at hx
          cases y <;> simp [fits] at hy
          rename_i p q
          have : (p == q) = true := by rw [bytes_beq]; simpa [eqCell] using he1
          have hd : (p.data == q.data) = true := this
          simp only [beq_iff_eq] at hd
          rw [ByteArray.ext hd]
      rw [hxy, ih (by simpa using h1) (by simpa using h2) (fun j k x a b => f1 (j + 1) k x (by simpa using a) (by simpa using b)) (fun j k x a b => f2 (j + 1) k x (by simpa using a) (by simpa using b)) he.2]
theorem sameBits_one {k : EK} {x : Value} (h : fits k x) (n : Nat) : Instr.sameBits n x x = true := by
  cases k <;> cases x <;> simp [fits] at h <;> cases n <;> simp [Instr.sameBits, bytes_beq]
theorem sameBits_refl {eks : List EK} {ka : Bool} {xs : List Value} (hl : xs.length = eks.length) (h1 : ka = false → xs.length = 1) (hf : Fits eks xs) : Instr.sameBits 10000 (mkVal ka xs) (mkVal ka xs) = true := by
  cases ka with
  | false =>
    match xs, h1 rfl, hl, hf with
    | [x], _, hl, hf => match eks, hl with
      | [k], _ => exact sameBits_one (hf 0 k x rfl rfl) _
  | true =>
    show Instr.sameBits (9999 + 1) (.agg xs.toArray) (.agg xs.toArray) = true
    simp only [Instr.sameBits, beq_self_eq_true, Bool.true_and, List.all_eq_true]
    intro p hp
    obtain ⟨j, hj, rfl⟩ := List.mem_iff_getElem.1 hp
    simp only [List.getElem_zip]
    have hj' : j < xs.length := by simpa using hj
    exact sameBits_one (hf j (eks[j]'(by omega)) (xs[j]) (List.getElem?_eq_getElem _) (List.getElem?_eq_getElem _)) _

theorem run_setObjM {b : Nat} {es : Array MapEntry} {clock : Nat} (o : Obj) (h : w.heap[b]? = some (.map es clock)) : (setObj b o).run P w = .ok () (World.setBlock w b o) := by
  simp [setObj, Sem.run, h, World.setBlock]

theorem mev_makeMap (hTT : TTok P TT) {t : TypeId} {res : Option Operand} (ho : o.op = .makeMap t res) (h : mev TT ts ks (.makeMap t res) K) (hM : Mem X w β fp ks) (hT : ∀ x, Den w (Mx X fp) β (val ts x) (a.eval x)) (hn : MemNext X w β fp a o K next) : o.wpIn (wideF r) n P a w next Q := by
  have hnd : ∀ c, o.op ≠ .defer c := fun c hc => by rw [ho] at hc; cases hc
  simp only [mev] at h
  split at h
  · rename_i _ _ _ _ kt et _ ht
    obtain ⟨info0, d0, z0, hi0, hu0, _, _, _, _, _, _, _, _, hd0⟩ := find_TT hTT ht
    cases hd0
    split at h
    · rename_i _ _ ka _ kd eqk _ _ ea _ _ _ hkt het
      have hn0 := hM.kl ks.length (Nat.le_refl _)
      have hmk : ∀ ks', (∃ s : SV, s = .map ks.length ∧ ks' = ks ++ [.map (keks ka kd eqk) ka ea []] ∧ K s ks') → (execOp a.eval o).run P w = .ok (.value (.map (some w.heap.size))) (w.alloc (.map #[] 0)) → o.wpIn (wideF r) n P a w next Q := by
        rintro _ ⟨s, rfl, rfl, hK⟩ hrun
        have hW := hM.alloc (.map #[] 0) (locB w.heap.size) (.map (keks ka kd eqk) ka ea []) rfl (.map _ _ _ [] #[] 0 (fun x => Iff.rfl) (by show (w.heap.push _)[w.heap.size]? = _; simp) rfl (fun j p e hp => by simp at hp))
        exact wpIn_of_run hnd hrun (hn _ _ _ _ _ _ hK hW (.map _ (locB w.heap.size) (upd_same _ _ _)))
      unfold isSomeInt at h
      split at h
      · rw [addBK_eq, lenBK_eq, Nat.zero_add] at h
        refine hmk _ ⟨_, rfl, rfl, h⟩ ?_
        simp [execOp, ho, Instr.makeMap]
      · rename_i x
        rw [valK_eq] at h
        have hx := hT x
        split at h
        · rename_i k q ex
          rw [ex] at hx
          have ev := den_int hx
          rw [addBK_eq, lenBK_eq, Nat.zero_add] at h
          refine hmk _ ⟨_, rfl, rfl, h⟩ ?_
          simp [execOp, ho, Instr.makeMap, ev, run_underlying hu0, asInt, asIntOf]
        · exact h.elim
    · exact h.elim
  · exact h.elim

theorem mev_mapUpdate (hTT : TTok P TT) {t : TypeId} {m k v : Operand} (ho : o.op = .mapUpdate t m k v) (h : mev TT ts ks (.mapUpdate t m k v) K) (hM : Mem X w β fp ks) (hT : ∀ x, Den w (Mx X fp) β (val ts x) (a.eval x)) (hn : MemNext X w β fp a o K next) : o.wpIn (wideF r) n P a w next Q := by
  have hnd : ∀ c, o.op ≠ .defer c := fun c hc => by rw [ho] at hc; cases hc
  simp only [mev] at h
  split at h
  · rename_i _ _ _ _ kt et _ ht
    obtain ⟨info0, d0, z0, hi0, hu0, _, _, _, _, _, _, _, _, hd0⟩ := find_TT hTT ht
    cases hd0
    split at h
    · rename_i _ _ ka _ kd eqk _ _ ea _ _ _ hkt het
      rw [valK_eq] at h
      obtain ⟨hne, ds, h, hkey⟩ := keyK_spec (w := w) (M := Mx X fp) (β := β) h
      obtain ⟨kc, ekc, hkl, hdl, hkf, hkr⟩ := hkey _ (hT k)
      have hK := keyTy_of hTT hkt hne
      rw [valK_eq] at h
      obtain ⟨vs, h, hel⟩ := elemK_spec h
      obtain ⟨vc, evc, v1, v2, v3, v4⟩ := hel w (Mx X fp) β _ (hT v)
      split at h
      · rw [valK_eq] at h
        have hm := hT m
        split at h
        · rename_i b hx
          rw [hx] at hm
          have ev : ∃ L, a.eval m = .map (some L.b) ∧ β b = some L := by
            generalize a.eval m = av at hm
            cases hm with
            | map _ L hL => exact ⟨L, rfl, hL⟩
          obtain ⟨L, ev, hL⟩ := ev
          rw [getBK_eq] at h
          split at h
          · rename_i eks ka' ea' l hg
            have hk := getB_some hg (by simp)
            split at h
            · rename_i q1 q2 q3
              have q1 := ekEq_eq q1
              have q2 := bEq_eq q2
              have q3 := bEq_eq q3
              subst q1 q2 q3
              obtain ⟨l', hl', h⟩ := h
              rw [setBK_eq] at h
              have hkb := hM.at hk (by simp) hL
              have hil : b < ks.length := (List.getElem?_eq_some_iff.1 hk).1
              cases hkb with
              | map _ _ _ _ es clock hfp hb hl hent =>
                have hfind := findKey_run (P := P) (w := w) (M := Mx X fp) (β := β) hK hkl hdl hkf hkr l es.toList (by simpa using hl) (fun j p e hp he => hent j p e hp (by simpa using he))
                have hchk := hK.chk w false kc hkl hkf
                have hka1 : ka = false → kc.length = 1 := fun e => by
                  subst e
                  rw [hkl]
                  have hne' := hne
                  simp only [keks] at hne' ⊢
                  cases kd <;> first | rfl | exact absurd rfl hne'
                have hst : ∀ o', Step (Mx X fp) w (World.setBlock w L.b o') := fun o' => Step.setBlock w (.inr ⟨b, (hfp _).2 rfl⟩) o'
                have hent' : ∀ o' p e, EntAt w (Mx X fp) β (keks ka kd eqk) ka ea p e → EntAt (World.setBlock w L.b o') (Mx X fp) β (keks ka kd eqk) ka ea p e := fun o' p e he => he.keep (hst o').keep (fun _ _ e => e) (Ext.refl _)
                have hnew : ∀ bo, EntAt w (Mx X fp) β (keks ka kd eqk) ka ea (ds, vs) ⟨mkVal ka kc, mkVal ea vc, bo⟩ := fun bo => ⟨kc, vc, rfl, rfl, hdl, v1, hkl, hka1, v2, hkf, hkr, v3, v4⟩
                rcases idxM_spec l ds 0 with ⟨b1, b2, b3, _⟩ | ⟨j, p, b1, b2, b3, b4, b5, _⟩
                · rw [b3] at hl'
                  subst hl'
                  have hW := hM.set (.map (keks ka kd eqk) ka ea (l ++ [(ds, vs)])) (.map (es.push ⟨mkVal ka kc, mkVal ea vc, clock⟩) (clock + 1)) hil hL hfp (.map _ _ _ _ _ _ hfp (setBlock_same _ _ _ (lt_of_block hb)) (by simp [hl]) (fun j p e hp he => hent' _ _ _ (by
                    by_cases hj : j < l.length
                    · rw [List.getElem?_append_left hj] at hp
                      rw [Array.getElem?_push_lt (by omega), ← Array.getElem?_eq_getElem] at he
                      exact hent j p e hp he
                    · have hj' : j = l.length := by
                        have := (List.getElem?_eq_some_iff.1 hp).1
                        simp at this; omega
                      subst hj'
                      rw [List.getElem?_append_right (Nat.le_refl _)] at hp
                      rw [hl, Array.getElem?_push_size] at he
                      simp at hp he
                      subst hp he
                      exact hnew _)))
                  refine wpIn_of_skip hnd ?_ (hn _ _ _ _ _ _ h hW (.any _))
                  rw [b1] at hfind
                  simp only [Option.bind_none] at hfind
                  simp only [execOp, ho, ev, ekc, evc, Instr.mapUpdate, Sem.run_bind, run_underlying hu0, Result.andThen_ok, run_getObjM hb, hchk, hfind, run_setObjM _ hb, Sem.run_pure]
                · rw [b5] at hl'
                  subst hl'
                  have hlt : j < es.size := by rw [← hl]; exact (List.getElem?_eq_some_iff.1 b2).1
                  have hej := Array.getElem?_eq_getElem hlt
                  obtain ⟨kc', vc', a1, a2, a3, a4, a5, a6, a7, a8, a9, a10, a11⟩ := (hent j p es[j] b2 hej).ex
                  have hkk : kc = kc' := eqCells_eq hkl a5 hkf a8 (by rw [eqCells_keyEq hkl a5 hdl a3 hkf a8 hkr a9]; exact b3)
                  subst hkk
                  have hW := hM.set (.map (keks ka kd eqk) ka ea (l.set j (ds, vs))) (.map (es.modify j fun e => { e with key := mkVal ka kc, val := mkVal ea vc }) clock) hil hL hfp (.map _ _ _ _ _ _ hfp (setBlock_same _ _ _ (lt_of_block hb)) (by simp [hl]) (fun q p' e hp he => hent' _ _ _ (by
                    rw [List.getElem?_set] at hp
                    rw [Array.getElem?_modify] at he
                    by_cases hq : j = q
                    · subst hq
                      rw [if_pos rfl, if_pos (by omega)] at hp
                      rw [if_pos rfl, hej] at he
                      cases hp
                      simp only [Option.map_some] at he
                      cases he
                      exact hnew _
                    · rw [if_neg hq] at hp he
                      exact hent q p' e hp he)))
                  refine wpIn_of_skip hnd ?_ (hn _ _ _ _ _ _ h hW (.any _))
                  rw [b1] at hfind
                  have hej' : es.toList[0 + j]? = some es[j] := by simp
                  simp only [Option.bind_some, hej', Option.map_some] at hfind
                  have hkeep : (Instr.keyThatStays (((es[j]?).map (·.key)).getD (mkVal ka kc)) (mkVal ka kc)).run P w = .ok (mkVal ka kc) w := by
                    rw [hej]
                    simp only [Option.map_some, Option.getD_some, a1, Instr.keyThatStays, sameBits_refl hkl hka1 hkf, if_true, Sem.run_pure]
                  simp only [execOp, ho, ev, ekc, evc, Instr.mapUpdate, Sem.run_bind, run_underlying hu0, Result.andThen_ok, run_getObjM hb, hchk, hfind, hkeep, run_setObjM _ hb, Sem.run_pure, Nat.zero_add]
            · exact h.elim
          · exact h.elim
        · exact h.elim
      · exact h.elim
    · exact h.elim
  · exact h.elim

theorem mev_delete (hTT : TTok P TT) {args : Array Operand} {argTypes : Array TypeId} (ho : o.op = .call ⟨.builtin .delete, args, argTypes⟩) (h : mev TT ts ks (.call ⟨.builtin .delete, args, argTypes⟩) K) (hM : Mem X w β fp ks) (hT : ∀ x, Den w (Mx X fp) β (val ts x) (a.eval x)) (hn : MemNext X w β fp a o K next) : o.wpIn (wideF r) n P a w next Q := by
  have hnd : ∀ c, o.op ≠ .defer c := fun c hc => by rw [ho] at hc; cases hc
  obtain ⟨args⟩ := args
  obtain ⟨argTypes⟩ := argTypes
  simp only [mev] at h
  split at h
  · rename_i m k t t2
    split at h
    · rename_i _ _ _ _ kt et _ ht
      obtain ⟨info0, d0, z0, hi0, hu0, _, _, _, _, _, _, _, _, hd0⟩ := find_TT hTT ht
      cases hd0
      split at h
      · rename_i _ _ ka _ kd eqk hkt
        rw [valK_eq] at h
        obtain ⟨hne, ds, h, hkey⟩ := keyK_spec (w := w) (M := Mx X fp) (β := β) h
        obtain ⟨kc, ekc, hkl, hdl, hkf, hkr⟩ := hkey _ (hT k)
        have hK := keyTy_of hTT hkt hne
        rw [valK_eq] at h
        have hm := hT m
        split at h
        · rename_i b hx
          rw [hx] at hm
          have ev : ∃ L, a.eval m = .map (some L.b) ∧ β b = some L := by
            generalize a.eval m = av at hm
            cases hm with
            | map _ L hL => exact ⟨L, rfl, hL⟩
          obtain ⟨L, ev, hL⟩ := ev
          rw [getBK_eq] at h
          split at h
          · rename_i eks ka' ea l hg
            have hk := getB_some hg (by simp)
            split at h
            · rename_i q1 q2
              have q1 := ekEq_eq q1
              have q2 := bEq_eq q2
              subst q1 q2
              obtain ⟨l', hl', h⟩ := h
              rw [setBK_eq] at h
              have hkb := hM.at hk (by simp) hL
              have hil : b < ks.length := (List.getElem?_eq_some_iff.1 hk).1
              cases hkb with
              | map _ _ _ _ es clock hfp hb hl hent =>
                have hfind := findKey_run (P := P) (w := w) (M := Mx X fp) (β := β) hK hkl hdl hkf hkr l es.toList (by simpa using hl) (fun j p e hp he => hent j p e hp (by simpa using he))
                have hchk := hK.chk w es.isEmpty kc hkl hkf
                have hst : ∀ o', Step (Mx X fp) w (World.setBlock w L.b o') := fun o' => Step.setBlock w (.inr ⟨b, (hfp _).2 rfl⟩) o'
                have hent' : ∀ o' p e, EntAt w (Mx X fp) β (keks ka kd eqk) ka ea p e → EntAt (World.setBlock w L.b o') (Mx X fp) β (keks ka kd eqk) ka ea p e := fun o' p e he => he.keep (hst o').keep (fun _ _ e => e) (Ext.refl _)
                rcases idxM_spec l ds 0 with ⟨b1, b2, _, b3⟩ | ⟨j, p, b1, b2, b3, b4, _, b5⟩
                · rw [b3] at hl'
                  subst hl'
                  have hW := hM.set (.map (keks ka kd eqk) ka ea l) (.map es clock) hil hL hfp (.map _ _ _ _ _ _ hfp (setBlock_same _ _ _ (lt_of_block hb)) hl (fun j p e hp he => hent' _ _ _ (hent j p e hp he)))
                  refine wpIn_of_run hnd ?_ (hn _ _ _ _ _ _ h hW (.any (.tuple #[])))
                  rw [b1] at hfind
                  simp only [Option.bind_none] at hfind
                  simp [execOp, ho, resolve, invoke, builtin, ev, ekc, Builtin.delete_, run_underlying hu0, run_getObjM hb, hchk, hfind, run_setObjM _ hb]
                · rw [b5] at hl'
                  subst hl'
                  have hlt : j < es.size := by rw [← hl]; exact (List.getElem?_eq_some_iff.1 b2).1
                  have hej := Array.getElem?_eq_getElem hlt
                  have hW := hM.set (.map (keks ka kd eqk) ka ea (l.eraseIdx j)) (.map (es.eraseIdxIfInBounds j) clock) hil hL hfp (.map _ _ _ _ _ _ hfp (setBlock_same _ _ _ (lt_of_block hb)) (by
                    have : (es.eraseIdxIfInBounds j).toList = es.toList.eraseIdx j := by simp [Array.eraseIdxIfInBounds, hlt]
                    rw [← Array.length_toList, this, List.length_eraseIdx, List.length_eraseIdx, hl]
                    simp) (fun q p' e hp he => hent' _ _ _ (by
                    rw [List.getElem?_eraseIdx] at hp
                    have he' : es.toList[if q < j then q else q + 1]? = some e := by
                      have : (es.eraseIdxIfInBounds j).toList = es.toList.eraseIdx j := by simp [Array.eraseIdxIfInBounds, hlt]
                      rw [← Array.getElem?_toList, this, List.getElem?_eraseIdx] at he
                      split at he <;> rename_i hqj
                      · rw [if_pos hqj]; exact he
                      · rw [if_neg hqj]; exact he
                    split at hp <;> rename_i hqj
                    · rw [if_pos hqj] at he'; exact hent q p' e hp (by simpa using he')
                    · rw [if_neg hqj] at he'; exact hent (q + 1) p' e hp (by simpa using he'))))
                  refine wpIn_of_run hnd ?_ (hn _ _ _ _ _ _ h hW (.any (.tuple #[])))
                  rw [b1] at hfind
                  have hej' : es.toList[0 + j]? = some es[j] := by simp
                  simp only [Option.bind_some, hej', Option.map_some] at hfind
                  simp [execOp, ho, resolve, invoke, builtin, ev, ekc, Builtin.delete_, run_underlying hu0, run_getObjM hb, hchk, hfind, run_setObjM _ hb]
            · exact h.elim
          · exact h.elim
        · exact h.elim
      · exact h.elim
    · exact h.elim
  · exact h.elim

/-- Copying: what is copied is read first; there is room for all of it. -/
theorem run_copy_src {dt xt ty e : TypeId} {info : TypeInfo} {sz : Nat} (hdt : P.underlying dt = some (.slice e)) (hi : P.info? e = some info) (hsz : info.size = sz) {v : Value} {k : Nat} {us : List Value} (hs : Src P sz xt v k us w)
    {b off n c : Nat} (hk : k ≤ n) {vs : Array Value} {t : TypeId} {fz : Nat × Nat} (hb : w.heap[b]? = some (.cells vs t fz)) (hin : off + us.length ≤ vs.size) (hfz : ∀ o, o < vs.size → ¬ (fz.1 ≤ o ∧ o < fz.2)) :
    (Builtin.copy_ #[dt, xt] ty #[.slice (some ⟨b, off, none⟩) n c, v]).run P w = .ok (goInt k) (World.setBlock w b (.cells (blockSet vs off us) t fz)) := by
  have hst := run_storeCells_cells (P := P) b off us 0 w (fun j hj => by
    have : off + j < vs.size := by omega
    simp [World.cell?, hb, this]) (fun j hj => by
    have := hfz (off + 0 + j) (by omega)
    obtain ⟨lo, hi⟩ := fz
    simp [World.frozen?, hb]
    intro hlo
    simp at this
    exact this hlo) hs.one
  rw [Nat.add_zero, setCells_eq hb] at hst
  have hm : Nat.min k n = k := Nat.min_eq_left hk
  simp [Builtin.copy_, run_underlying hdt, hs.len, sizeOf, typeInfo, hi, hsz, hm, hs.cells, hst]
theorem run_copy_nil0 {dt xt ty e : TypeId} {info : TypeInfo} {sz : Nat} (hdt : P.underlying dt = some (.slice e)) (hi : P.info? e = some info) (hsz : info.size = sz) {v : Value} {us : List Value} (hs : Src P sz xt v 0 us w) {n c : Nat} :
    (Builtin.copy_ #[dt, xt] ty #[.slice none n c, v]).run P w = .ok (goInt 0) w := by
  have hm : Nat.min 0 n = 0 := Nat.zero_min n
  simp [Builtin.copy_, run_underlying hdt, hs.len, sizeOf, typeInfo, hi, hsz, hm, hs.cells]
theorem midF_len {lo k sz m : Nat} {f g : Nat → List DV} (hf : ∀ j, j < m → (f j).length = sz) (hg : ∀ j, j < k → (g j).length = sz) : ∀ j, j < m → (midF lo k f g j).length = sz := fun j hj => by
  unfold midF
  split
  · exact hg _ (by omega)
  · exact hf _ hj
/-- A row, some of its elements put anew. -/
theorem copy_row (h : Mem X w β fp ks) {dt xt ty e : TypeId} {info : TypeInfo} {sz : Nat} (hdt : P.underlying dt = some (.slice e)) (hi : P.info? e = some info) (hsz : info.size = sz)
    {i m n lo off : Nat} {z : Z} {f : Nat → List DV} {e' : TypeId} (hki : ks[i]? = some (.row e' sz m z f)) {L : Loc} (hL : β i = some L) (hnil : L.nil = false) {v : Value} {k : Nat} {g : Nat → List DV} {us : List Value} (hs : SrcOk P w (Mx X fp) sz xt v k g us) (hk : k ≤ n) (hn : lo + n ≤ m) (c : Nat)
    (hoff : 0 < k → off = lo * sz) :
    ∃ w', (Builtin.copy_ #[dt, xt] ty #[.slice (some ⟨L.b, off, none⟩) n c, v]).run P w = .ok (goInt k) w' ∧ Went X w β fp w' β fp (ks.set i (.row e' sz m z (midF lo k f g))) := by
  have hil : i < ks.length := (List.getElem?_eq_some_iff.1 hki).1
  have hb := h.at hki (by simp) hL
  cases hb with
  | rowNil _ _ _ _ _ hnil' => rw [hnil] at hnil'; cases hnil'
  | row _ _ _ _ _ vs fz hfp _ hLs hLn hzz hb hfz hvs hng hfl hr h1 =>
    have hus := hs.src.newsLen
    rcases Nat.eq_zero_or_pos k with rfl | hpos
    · -- nothing is copied
      have hus0 : us = [] := List.length_eq_zero_iff.1 (by rw [hus, Nat.zero_mul])
      have hm0 : Nat.min 0 n = 0 := Nat.zero_min n
      have hsrc := hs.src
      rw [hus0] at hsrc
      have hrun : (Builtin.copy_ #[dt, xt] ty #[.slice (some ⟨L.b, off, none⟩) n c, v]).run P w = .ok (goInt 0) w := by
        simp [Builtin.copy_, run_underlying hdt, hsrc.len, sizeOf, typeInfo, hi, hsz, hm0, hsrc.cells, storeCells]
      refine ⟨w, hrun, ?_⟩
      have hf0 : midF lo 0 f g = f := funext fun t => by unfold midF; rw [if_neg (by omega)]
      rw [hf0]
      have : ks.set i (.row e' sz m z f) = ks := by
        apply List.ext_getElem?
        intro j
        rw [List.getElem?_set]
        by_cases hj : i = j
        · subst hj; rw [if_pos rfl, if_pos hil, hki]
        · rw [if_neg hj]
      rw [this]
      exact Went.refl h
    · have ho := hoff hpos
      subst ho
      have hin : lo * sz + us.length ≤ vs.size := by
        rw [hus, hvs, ← Nat.add_mul]
        exact Nat.mul_le_mul_right _ (by omega)
      refine ⟨_, run_copy_src hdt hi hsz hs.src hk hb hin hfz, ?_⟩
      have hst' : Step (Mx X fp) w (World.setBlock w L.b (.cells (blockSet vs (lo * sz) us) e' fz)) := Step.setBlock w (.inr ⟨i, (hfp _).2 rfl⟩) _
      refine h.set (.row e' sz m z (midF lo k f g)) (.cells (blockSet vs (lo * sz) us) e' fz) hil hL hfp ?_
      refine .row e' sz m z (midF lo k f g) (blockSet vs (lo * sz) us) fz hfp hnil hLs hLn hzz (setBlock_same _ _ _ (lt_of_block hb)) (by rw [blockSet_size]; exact hfz) (by rw [blockSet_size]; exact hvs) hng (midF_len hfl hs.wid) (fun t q d u ht hd hu => ?_) (fun j u hu => ?_)
      · have hq : q < sz := by have := (List.getElem?_eq_some_iff.1 hd).1; rw [midF_len hfl hs.wid _ ht] at this; exact this
        rw [blockSet_get _ _ _ _ hin] at hu
        unfold midF at hd
        split at hd
        · rename_i htn
          have hle : lo * sz ≤ t * sz := Nat.mul_le_mul_right _ htn.1
          have hlt : t * sz + q < (lo + k) * sz := by
            calc t * sz + q < t * sz + sz := by omega
              _ = (t + 1) * sz := by rw [Nat.add_mul, Nat.one_mul]
              _ ≤ (lo + k) * sz := Nat.mul_le_mul_right _ (by omega)
          rw [if_pos (by rw [hus, ← Nat.add_mul]; omega), show t * sz + q - lo * sz = (t - lo) * sz + q from by rw [Nat.sub_mul]; omega] at hu
          exact (hs.rd (t - lo) q d u (by omega) hd hu).mono hst' (fun _ _ e => e)
        · rename_i htn
          rw [if_neg (by
            rintro ⟨a1, a2⟩
            apply htn
            rw [hus, ← Nat.add_mul] at a2
            refine ⟨?_, ?_⟩
            · rcases Nat.lt_or_ge t lo with hc | hc
              · have : (t + 1) * sz ≤ lo * sz := Nat.mul_le_mul_right _ hc
                rw [Nat.add_mul, Nat.one_mul] at this
                omega
              · exact hc
            · rcases Nat.lt_or_ge t (lo + k) with hc | hc
              · exact hc
              · have : (lo + k) * sz ≤ t * sz := Nat.mul_le_mul_right _ hc
                omega)] at hu
          exact (hr t q d u ht hd hu).mono hst' (fun _ _ e => e)
      · rw [blockSet_get _ _ _ _ hin] at hu
        split at hu
        · exact hs.src.one u (List.mem_of_getElem? hu)
        · exact h1 j u hu
theorem copyIK_spec {k : Nat} {g : Nat → List DV} : ∀ {l : List SV} {q : Nat} {c : List SV → Prop}, copyIK k g q l c → ∃ l', c l' ∧ l'.length = l.length ∧ ∀ j s, l'[j]? = some s → ∃ (k1 : IntKind) (a b : Int), g (q + j) = [.int k1 a] ∧ l[j]? = some (.d (.int k1 b)) ∧ s = .d (.int k1 (if q + j < k then a else b))
  | [], q, c, h => ⟨[], h, rfl, fun j s hs => by simp at hs⟩
  | .d (.int k1 b) :: l, q, c, h => by
    simp only [copyIK] at h
    split at h
    · rename_i k2 a hg
      split at h
      · rename_i hk
        obtain rfl := kEq_eq hk
        obtain ⟨l', h1, h2, h3⟩ := copyIK_spec h
        refine ⟨_, h1, by simp [h2], fun j s hs => ?_⟩
        cases j with
        | zero =>
          simp only [List.getElem?_cons_zero, Option.some.injEq] at hs
          exact ⟨_, a, b, hg, rfl, hs.symm⟩
        | succ j =>
          obtain ⟨k3, a', b', e1, e2, e3⟩ := h3 j s (by simpa using hs)
          have e : q + 1 + j = q + (j + 1) := by omega
          rw [e] at e1 e3
          exact ⟨k3, a', b', e1, by simpa using e2, e3⟩
      · exact h.elim
    · exact h.elim
  | .d (.bool _) :: _, _, _, h => h.elim
  | .d .tt :: _, _, _, h => h.elim
  | .d .ff :: _, _, _, h => h.elim
  | .d (.str _) :: _, _, _, h => h.elim
  | .d (.sl _ _ _ _) :: _, _, _, h => h.elim
  | .ptr _ _ :: _, _, _, h => h.elim
  | .aptr _ _ _ _ :: _, _, _, h => h.elim
  | .dptr _ _ :: _, _, _, h => h.elim
  | .all _ :: _, _, _, h => h.elim
  | .row _ _ _ :: _, _, _, h => h.elim
  | .cs _ _ _ _ :: _, _, _, h => h.elim
  | .rptr _ _ _ _ :: _, _, _, h => h.elim
  | .agg _ :: _, _, _, h => h.elim
  | .tup _ :: _, _, _, h => h.elim
  | .fn _ _ :: _, _, _, h => h.elim
  | .map _ :: _, _, _, h => h.elim
  | .ap _ _ _ :: _, _, _, h => h.elim
  | .np _ _ :: _, _, _, h => h.elim
  | .yl _ :: _, _, _, h => h.elim
  | .v _ :: _, _, _, h => h.elim
  | .any :: _, _, _, h => h.elim
theorem mev_copy (hTT : TTok P TT) {args : Array Operand} {argTypes : Array TypeId} (ho : o.op = .call ⟨.builtin .copy, args, argTypes⟩) (h : mev TT ts ks (.call ⟨.builtin .copy, args, argTypes⟩) K) (hM : Mem X w β fp ks) (hT : ∀ x, Den w (Mx X fp) β (val ts x) (a.eval x)) (hn : MemNext X w β fp a o K next) : o.wpIn (wideF r) n P a w next Q := by
  have hnd : ∀ c, o.op ≠ .defer c := fun c hc => by rw [ho] at hc; cases hc
  obtain ⟨args⟩ := args
  obtain ⟨argTypes⟩ := argTypes
  simp only [mev] at h
  split at h
  · rename_i d x dt xt
    split at h
    · rename_i _ _ _ _ e _ ht
      split at h
      · rename_i size bytes _ _ _ _ hte
        split at h
        · rename_i hbs
          rw [Bool.and_eq_true] at hbs
          have hpos : 0 < size := ble_of hbs.1
          have htx := isSeq_spec hTT hbs.2
          obtain ⟨info0, d0, z0', hi0, hu0, _, _, _, _, _, _, _, _, hd0⟩ := find_TT hTT ht
          cases hd0
          obtain ⟨info, de, z0, hi, hue, hsz, _⟩ := find_TT hTT hte
          simp only at hsz
          rw [valK_eq] at h
          obtain ⟨k, g, fr, us, hh, hfr, hsrc⟩ := srcK_spec hM.toMem0 hpos h (hT x) htx
          clear h
          have h := hh
          clear hh
          split at h
          · rw [valK_eq] at h
            have hS0 := hsrc [] (fun _ hi => hi)
            have hS : SrcOk P w (Mx X fp) size xt (a.eval x) k g us := hS0.less (fun b hm => hm.imp id (fun ⟨i, hi⟩ => ⟨i, by simp, hi⟩))
            have hv := hT d
            have fin : ∀ (ks' : List KB) (w' : World), (Builtin.copy_ #[dt, xt] o.type #[a.eval d, a.eval x]).run P w = .ok (goInt k) w' → Went X w β fp w' β fp ks' → K (.d (.int .i64 k)) ks' → o.wpIn (wideF r) n P a w next Q := fun ks' w' hrun hW hK => by
              refine wpIn_of_run hnd ?_ (hn _ _ _ _ _ _ hK hW (.d (.int .i64 k)))
              simp [execOp, ho, resolve, invoke, builtin, hrun, goInt]
            unfold copyK at h
            split at h
            · rename_i i hx
              rw [hx] at hv
              rw [getBK_eq] at h
              split at h
              · rename_i e' sz m z f hg
                have hk := getB_some hg (by simp)
                split at h
                · rename_i hb1
                  have hb1 := beq_of hb1
                  subst hb1
                  obtain ⟨hkm, h⟩ := h
                  rw [setBK_eq] at h
                  generalize a.eval d = av at hv fin
                  cases hv with
                  | all _ L hL hnil =>
                    have hat := hM.at hk (by simp) hL
                    cases hat with
                    | rowNil _ _ _ _ _ hnil' => rw [hnil] at hnil'; cases hnil'
                    | row _ _ _ _ _ vs fz hfp h8 hLs hLn hzz hb hfz hvs hng hfl hr h1 =>
                      obtain ⟨w', r1, r2⟩ := copy_row (P := P) (ty := o.type) hM hu0 hi hsz hk hL hnil hS (n := L.n) (lo := 0) (off := 0) (by omega) (by omega) L.c (fun _ => by simp)
                      exact fin _ _ r1 r2 h
                  | allNil _ L hL hnil =>
                    have hat := hM.at hk (by simp) hL
                    cases hat with
                    | rowNil _ _ _ _ _ _ _ _ _ =>
                      have hk0 : k = 0 := by omega
                      subst hk0
                      have hf0 : midF 0 0 f g = f := funext fun t => by unfold midF; rw [if_neg (by omega)]
                      rw [hf0] at h
                      have hset : ks.set i (.row e' sz 0 z f) = ks := by
                        apply List.ext_getElem?
                        intro j
                        rw [List.getElem?_set]
                        by_cases hj : i = j
                        · subst hj; rw [if_pos rfl, if_pos (List.getElem?_eq_some_iff.1 hk).1, hk]
                        · rw [if_neg hj]
                      rw [hset] at h
                      exact fin _ _ (run_copy_nil0 hu0 hi hsz hS.src) (Went.refl hM) h
                    | row _ _ _ _ _ vs fz hfp h8 => rw [hnil] at h8; cases h8
                · exact h.elim
              · exact h.elim
            · rename_i i lo m hx
              rw [hx] at hv
              rw [getBK_eq] at h
              split at h
              · rename_i e' sz m' z f hg
                have hk := getB_some hg (by simp)
                split at h
                · rename_i hb1
                  have hb1 := beq_of hb1
                  subst hb1
                  obtain ⟨⟨hkm, hlm⟩, h⟩ := h
                  rw [setBK_eq] at h
                  generalize a.eval d = av at hv fin
                  cases hv with
                  | row _ _ _ off L hL hnil h3 h4 =>
                    have hat := hM.at hk (by simp) hL
                    cases hat with
                    | rowNil _ _ _ _ _ hnil' => rw [hnil] at hnil'; cases hnil'
                    | row _ _ _ _ _ vs fz hfp h8 hLs hLn hzz hb hfz hvs hng hfl hr h1 =>
                      obtain ⟨w', r1, r2⟩ := copy_row (P := P) (ty := o.type) (off := off) hM hu0 hi hsz hk hL hnil hS hkm hlm (L.c - lo) (fun hp => by rw [h4 (.inl (by omega)), hLs])
                      exact fin _ _ r1 r2 h
                  | rowNil _ L hL hnil =>
                    have hk0 : k = 0 := by omega
                    subst hk0
                    have hf0 : midF 0 0 f g = f := funext fun t => by unfold midF; rw [if_neg (by omega)]
                    rw [hf0] at h
                    have hset : ks.set i (.row e' sz m' z f) = ks := by
                      apply List.ext_getElem?
                      intro j
                      rw [List.getElem?_set]
                      by_cases hj : i = j
                      · subst hj; rw [if_pos rfl, if_pos (List.getElem?_eq_some_iff.1 hk).1, hk]
                      · rw [if_neg hj]
                    rw [hset] at h
                    exact fin _ _ (run_copy_nil0 hu0 hi hsz hS.src) (Went.refl hM) h
                · exact h.elim
              · exact h.elim
            · rename_i i off m c hx
              rw [hx] at hv
              split at h
              · rw [getBK_eq] at h
                split at h
                · rename_i t l hg
                  have hk := getB_some hg (by simp)
                  split at h
                  · rename_i hb1
                    rw [lenL_eq] at hb1
                    have hb1 := ble_of hb1
                    obtain ⟨hkm, h⟩ := h
                    rw [dropK_eq, takeK_eq] at h
                    obtain ⟨r', h, hl', hr'⟩ := copyIK_spec h
                    rw [putK_eq, setBK_eq] at h
                    generalize a.eval d = av at hv fin
                    cases hv with
                    | cs _ _ _ _ L hL hnc =>
                      have hat := hM.at hk (by simp) hL
                      cases hat with
                      | cells _ _ vs hfp hblk hlen hd h1 =>
                        have hus := hS.src.newsLen
                        rw [Nat.mul_one] at hus
                        have hin : off + us.length ≤ vs.size := by omega
                        have hrun := run_copy_src (P := P) (ty := o.type) (c := c) hu0 hi hsz hS.src hkm hblk hin (fun o ho hh => by simp at hh)
                        have hrl : r'.length = m := by
                          rw [hl']
                          simp
                          omega
                        have hW := hM.store (l' := putCells l off r') (vs' := blockSet vs off us) hk hL hfp hblk (by rw [putCells_length, blockSet_size, hlen]) (fun j s u hs hu => ?_) (fun j u hu => ?_)
                        · exact fin _ _ hrun hW h
                        · rw [blockSet_get _ _ _ _ hin] at hu
                          rw [putCells_get _ _ _ _ (by omega)] at hs
                          by_cases hj : off ≤ j ∧ j < off + r'.length
                          · rw [if_pos hj] at hs
                            obtain ⟨k1, a1, b1, e1, e2, e3⟩ := hr' (j - off) s hs
                            rw [Nat.zero_add] at e1 e3
                            rw [e3]
                            by_cases hjk : j - off < k
                            · rw [if_pos hjk]
                              rw [if_pos (by omega)] at hu
                              exact .d (hS.rd (j - off) 0 _ u hjk (by rw [e1]; rfl) (by rw [Nat.mul_one, Nat.add_zero]; exact hu))
                            · rw [if_neg hjk]
                              rw [if_neg (by omega)] at hu
                              rw [List.getElem?_take] at e2
                              split at e2
                              · rw [List.getElem?_drop] at e2
                                exact hd j _ u (by rw [← e2]; congr 1; omega) hu
                              · cases e2
                          · rw [if_neg hj] at hs
                            rw [if_neg (by omega)] at hu
                            exact hd j s u hs hu
                        · rw [blockSet_get _ _ _ _ hin] at hu
                          split at hu
                          · exact hS.src.one u (List.mem_of_getElem? hu)
                          · exact h1 j u hu
                  · exact h.elim
                · exact h.elim
              · exact h.elim
            · exact h.elim
          · exact h.elim
        · exact h.elim
      · exact h.elim
    · exact h.elim
  · exact h.elim

theorem freeze_set {w : World} {b : Nat} {vs : Array Value} {e : TypeId} {fz : Nat × Nat} (h : w.heap[b]? = some (.cells vs e fz)) (n : Nat) (hn : n ≠ 0) :
    ∃ o, w.freeze ⟨b, 0, none⟩ n = World.setBlock w b o := by
  obtain ⟨lo, hi⟩ := fz
  refine ⟨.cells vs e (if lo == hi then (0, 0 + n) else (min lo 0, max hi (0 + n))), ?_⟩
  unfold World.freeze World.setBlock
  rw [if_neg hn]
  congr 1
  apply Array.ext_getElem?
  intro j
  have hb : b < w.heap.size := lt_of_block h
  rw [Array.getElem?_modify, Array.getElem?_setIfInBounds]
  by_cases e1 : b = j
  · subst e1
    rw [if_pos rfl, if_pos rfl, if_pos hb, h]
    rfl
  · rw [if_neg e1, if_neg e1]
theorem bytesOf_oct {n : Nat} {f : Nat → List DV} (h : areOct n f) (j : Nat) (x : UInt8) (hx : (bytesOf n f)[j]? = some x) : j < n ∧ f j = [.int .u8 (x.toNat : Int)] := by
  obtain ⟨h1, y, h2, h3⟩ := areBytes_get (fun i hi => by obtain ⟨x, hx⟩ := h i hi; exact ⟨_, hx⟩) j x hx
  obtain ⟨z, hz⟩ := h j h1
  rw [h2] at hz
  injection hz with hz1 _
  injection hz1 with _ hz2
  refine ⟨h1, ?_⟩
  rw [h2, hz2]
  rw [hz2] at h3
  have : z = x := by rw [← h3]; simp
  rw [this]
theorem mev_unsafeString (hTT : TTok P TT) {args : Array Operand} {argTypes : Array TypeId} (ho : o.op = .call ⟨.builtin .unsafeString, args, argTypes⟩) (h : mev TT ts ks (.call ⟨.builtin .unsafeString, args, argTypes⟩) K) (hM : Mem X w β fp ks) (hT : ∀ x, Den w (Mx X fp) β (val ts x) (a.eval x)) (hn : MemNext X w β fp a o K next) : o.wpIn (wideF r) n P a w next Q := by
  have hnd : ∀ c, o.op ≠ .defer c := fun c hc => by rw [ho] at hc; cases hc
  obtain ⟨args⟩ := args
  obtain ⟨argTypes⟩ := argTypes
  simp only [mev] at h
  split at h
  · rename_i p m pt it
    rw [valK_eq] at h
    split at h
    · rename_i c hm
      have hvm := hT m
      rw [hm] at hvm
      have em := den_int hvm
      rw [valK_eq] at h
      have hv := hT p
      split at h
      · rename_i hp
        rw [hp] at hv
        have ep : a.eval p = .pointer none := by
          generalize a.eval p = av at hv
          cases hv; rfl
        obtain ⟨hc, h⟩ := h
        subst hc
        refine wpIn_of_run hnd ?_ (hn _ _ _ _ _ _ h (Went.refl hM) (.d (.str [])))
        simp [execOp, ho, resolve, invoke, builtin, ep, em, Lib.run_unsafeString_none, strV]
        rfl
      · rename_i i hp
        rw [hp] at hv
        split at h
        · rename_i _ _ _ _ e _ ht
          split at h
          · rename_i _ _ _ _ _ hte
            rw [getBK_eq] at h
            split at h
            · rename_i e' k z f hg
              split at h
              · rename_i hee
                have hee : e' = e := Nat.eq_of_beq_eq_true hee
                subst hee
                obtain ⟨⟨hc, h63, hoct⟩, h⟩ := h
                rw [setBK_eq] at h
                obtain ⟨info0, d0, z0', hi0, hu0, _, _, _, _, _, _, _, _, hd0⟩ := find_TT hTT ht
                cases hd0
                obtain ⟨info, de, z0, hi, hue, hsz, _⟩ := find_TT hTT hte
                simp only at hsz
                have hki := getB_some hg (by simp)
                have hil : i < ks.length := (List.getElem?_eq_some_iff.1 hki).1
                generalize hav : a.eval p = av at hv
                cases hv with
                | rptr _ _ _ _ L hL hj =>
                  have hb := hM.at hki (by simp) hL
                  cases hb with
                  | rowNil _ _ _ _ _ _ hc0 hn0 => omega
                  | row _ _ _ _ _ vs fz hfp hnil hLs hLn hzz hb hfz hvs hng hfl hr h1 =>
                    have hk0 : k ≠ 0 := by omega
                    have hlen : (bytesOf k f).length = k := by simp [bytesOf]
                    have hcs : P.cellsOf e' = 1 := by simp [Program.cellsOf, hi, hsz]
                    have hshape : w.shape? L.b = some (e', vs.size) := by simp [World.shape?, hb]
                    have hrun := Lib.run_unsafeString_row (P := P) (w := w) pt it o.type e' hu0 hcs L.b vs.size hshape (bytesOf k f) (by intro e0; rw [e0] at hlen; simp at hlen; omega) (by omega) (by omega) (fun j x hx => by
                      obtain ⟨hjk, hfj⟩ := bytesOf_oct hoct j x hx
                      have hlt : j < vs.size := by omega
                      have hrj := hr j 0 (.int .u8 (x.toNat : Int)) (vs[j]'hlt) hjk (by simp [hfj]) (by simp)
                      have := rd_int hrj
                      have ea : ((⟨L.b, 0, none⟩ : Addr).add j) = ⟨L.b, j, none⟩ := by unfold Addr.add; split <;> simp_all
                      rw [ea]
                      simp [World.cell?, hb, hlt, this])
                    rw [hlen] at hrun
                    obtain ⟨ob, hob⟩ := freeze_set hb k hk0
                    rw [hob] at hrun
                    have W1 := hM.set (.obj (fun _ _ _ _ => True)) ob hil hL hfp (.obj _ (fun _ _ _ _ _ _ _ _ _ _ => trivial) trivial)
                    have W2 := W1.mem.gone [i]
                    have hks : goneL [i] (ks.set i (.obj (fun _ _ _ _ => True))) = ks.set i .gone := by simp [goneL, setB_eq]
                    rw [hks] at W2
                    have W := W1.trans W2
                    refine wpIn_of_run hnd ?_ (hn _ _ _ _ _ _ h W (.d (.str _)))
                    have e0 : (0 * 1 + 0 : Nat) = 0 := rfl
                    rw [e0] at hav
                    subst hc
                    simp [execOp, ho, resolve, invoke, builtin, hav, em, hrun, strV]
              · exact h.elim
            · exact h.elim
          · exact h.elim
        · exact h.elim
      · exact h.elim
    · exact h.elim
  · exact h.elim


theorem mev_sound (hTT : TTok P TT) (h : mev TT ts ks o.op K) (hM : Mem X w β fp ks) (hT : ∀ x, Den w (Mx X fp) β (val ts x) (a.eval x)) (hn : MemNext X w β fp a o K next) : o.wpIn (wideF r) n P a w next Q := by
  have hnd : ∀ c, o.op ≠ .defer c := fun c hc => by rw [hc] at h; exact h
  cases ho : o.op with
  | alloc t =>
    rw [ho] at h
    simp only [mev] at h
    split at h
    · exact h.elim
    · rename_i size bytes agg zero desc eqk ht
      rw [addBK_eq, lenBK_eq, Nat.zero_add] at h
      obtain ⟨info, d, z, hi, hu, hsz, _, hz, hag, hzl, hzs, hzd, hz1, _⟩ := find_TT hTT ht
      have hW := hM.newCells t zero z.cells hzl.symm (fun j s u a b => hzd _ _ _ j s u a b) hz1
      refine wpIn_of_run hnd ?_ (hn _ _ (.pointer (some ⟨w.heap.size, 0, none⟩)) _ _ _ h hW (.ptr _ 0 (locB w.heap.size) (upd_same _ _ _)))
      simp [execOp, ho, Instr.alloc, run_zeroValue hi hz, newVar, newRow]
  | box t x =>
    rw [ho] at h
    simp only [mev] at h
    split at h
    · exact h.elim
    · rename_i size bytes agg zero desc eqk ht
      rw [valK_eq] at h
      obtain ⟨h, hcells⟩ := cellsK_spec (w := w) (M := Mx X fp) (β := β) h
      obtain ⟨c1, c2, c3⟩ := hcells _ (hT x)
      split at h
      · rw [addBK_eq, lenBK_eq, Nat.zero_add] at h
        have hW := hM.newCells t (cellsOf (val ts x)) (a.eval x).cells c1 c2 (fun j u hu => c3 u (Array.mem_of_getElem? hu))
        refine wpIn_of_run hnd ?_ (hn _ _ (.pointer (some ⟨w.heap.size, 0, none⟩)) _ _ _ h hW (.ptr _ 0 (locB w.heap.size) (upd_same _ _ _)))
        simp [execOp, ho, Instr.box, newVar, newRow]
      · exact h.elim
  | store t x y => rw [ho] at h; exact mev_store hTT ho h hM hT hn
  | buildSlice t l ps => rw [ho] at h; exact mev_buildSlice hTT ho h hM hT hn
  | makeSlice t x y => rw [ho] at h; exact mev_makeSlice hTT ho h hM hT hn
  | makeMap t x => rw [ho] at h; exact mev_makeMap hTT ho h hM hT hn
  | mapUpdate t x y z => rw [ho] at h; exact mev_mapUpdate hTT ho h hM hT hn
  | convert s d x => rw [ho] at h; exact mev_convert hTT ho h hM hT hn
  | call c =>
    obtain ⟨callee, args, argTypes⟩ := c
    rw [ho] at h
    cases callee with
    | builtin b => cases b <;> first | exact mev_append hTT ho h hM hT hn | exact mev_delete hTT ho h hM hT hn | exact mev_copy hTT ho h hM hT hn | exact mev_unsafeString hTT ho h hM hT hn | exact h.elim
    | value g => exact h.elim
    | invoke r m => exact h.elim
  | _ => rw [ho] at h; exact h.elim

end
end Go.Eng
namespace Go.Eng
open Go Go.RowKit

section
variable {P : Program} {TT : Nat → Option TI} {X : Nat → Prop} {w : World} {β : Env} {fp : Nat → Nat → Prop} {ts : List SV} {ks : List KB} {a : Act} {o : Oper} {r : Option Nat} {n : Nat} {next : Act → World → Prop} {Q : Exit → Act → World → Prop}

theorem den_less {M M' : Nat → Prop} {s : SV} {v : Value} (h : Den w M β s v) (hM : ∀ b, M' b → M b) : Den w M' β s v := h.mono (Step.refl _ _) (fun b _ e => hM b e) (Ext.refl _)

theorem viewCK_spec (h : Mem0 X w β fp ks) {s : SV} {K : SV → List Nat → Prop} (hk : viewCK ks s K) {v : Value} (hv : Den w (Mx X fp) β s v) :
    ∃ s' fr, K s' fr ∧ (∀ i ∈ fr, i < ks.length) ∧ ∀ fr', (∀ i ∈ fr, i ∈ fr') → Den w (Mx X (fpGone fr' fp)) β s' v := by
  unfold viewCK at hk
  split at hk
  · obtain ⟨d, fr, hk, h1, h2⟩ := dvK_spec h hk hv
    exact ⟨_, fr, hk, h1, fun fr' hf => .d (h2 fr' hf)⟩
  · obtain ⟨d, fr, hk, h1, h2⟩ := dvK_spec h hk hv
    exact ⟨_, fr, hk, h1, fun fr' hf => .d (h2 fr' hf)⟩
  · obtain ⟨d, fr, hk, h1, h2⟩ := dvK_spec h hk hv
    exact ⟨_, fr, hk, h1, fun fr' hf => .d (h2 fr' hf)⟩
  · exact ⟨s, [], hk, by simp, fun fr' _ => den_less hv (h.goneM fr')⟩

theorem viewCsK_spec (h : Mem0 X w β fp ks) : ∀ (l : List SV) (K : List SV → List Nat → Prop) (vs : List Value), viewCsK ks l K → l.length = vs.length → (∀ (j : Nat) (s : SV) (u : Value), l[j]? = some s → vs[j]? = some u → Den w (Mx X fp) β s u) →
    ∃ l' fr, K l' fr ∧ l'.length = l.length ∧ (∀ i ∈ fr, i < ks.length) ∧ ∀ fr', (∀ i ∈ fr, i ∈ fr') → ∀ (j : Nat) (s : SV) (u : Value), l'[j]? = some s → vs[j]? = some u → Den w (Mx X (fpGone fr' fp)) β s u := by
  intro l
  induction l with
  | nil => intro K vs hk hl _; exact ⟨[], [], hk, rfl, by simp, fun _ _ j d u hd => by simp at hd⟩
  | cons a l ih =>
    intro K vs hk hl hd
    match vs, hl with
    | v :: vs, hl =>
      simp only [viewCsK] at hk
      obtain ⟨d, fr, hk, h1, h2⟩ := viewCK_spec h hk (hd 0 a v rfl rfl)
      obtain ⟨ds, fr2, hk, h3, h4, h5⟩ := ih _ vs hk (by simpa using hl) (fun j s u hs hu => hd (j + 1) s u (by simpa using hs) (by simpa using hu))
      rw [appN_eq] at hk
      refine ⟨d :: ds, fr ++ fr2, hk, by simp [h3], fun i hi => (List.mem_append.1 hi).elim (h1 i) (h4 i), fun fr' hf j x u hx hu => ?_⟩
      cases j with
      | zero => simp at hx hu; subst hx hu; exact h2 fr' (fun i hi => hf i (by simp [hi]))
      | succ j => exact h5 fr' (fun i hi => hf i (by simp [hi])) j x u (by simpa using hx) (by simpa using hu)

/-- A slice of cells as data. -/
theorem cs_rd (h : Mem0 X w β fp ks) {i off n c size : Nat} {K : Nat → (Nat → List DV) → List Nat → Prop} (hk : srcK ks size (.cs i off n c) K) {v : Value} (hv : Den w (Mx X fp) β (.cs i off n c) v) :
    ∃ k g fr, K k g fr ∧ (∀ q ∈ i :: fr, q < ks.length) ∧ ∀ fr', (∀ q ∈ i :: fr, q ∈ fr') → Rd w (Mx X (fpGone fr' fp)) (.sl false k size g) v := by
  cases hv with
  | cs _ _ _ _ L hL hnc =>
    unfold srcK at hk
    simp only at hk
    rw [getBK_eq] at hk
    split at hk
    · rename_i t l hg
      split at hk
      · rename_i hble
        rw [lenL_eq] at hble
        have hble := ble_of hble
        rw [dropK_eq, takeK_eq] at hk
        have hki := getB_some hg (by simp)
        have hil : i < ks.length := (List.getElem?_eq_some_iff.1 hki).1
        have hb := h.at hki (by simp) hL
        cases hb with
        | cells _ _ vs hfp hb hl hd h1 =>
          obtain ⟨ds, fr, hk, h2, h3, h4⟩ := dvsK_spec h _ _ ((vs.toList.drop off).take (n * size)) hk (by simp [hl]) (fun j s u hs hu => by
            rw [List.getElem?_take] at hs hu
            split at hs
            · rename_i hj
              rw [if_pos hj] at hu
              rw [List.getElem?_drop] at hs hu
              exact hd _ _ _ hs (by simpa using hu)
            · cases hs)
          have hdl : ds.length = n * size := by rw [h2]; simp; omega
          have hch : ∀ j, j < n → (chunk ds size j).length = size := fun j hj => by
            unfold chunk
            have : (j + 1) * size ≤ n * size := Nat.mul_le_mul_right _ hj
            rw [Nat.add_mul, Nat.one_mul] at this
            simp [hdl]
            omega
          have hin : ∀ j q, j < n → q < size → off + (j * size + q) < vs.size := fun j q hj hq => by
            have : (j + 1) * size ≤ n * size := Nat.mul_le_mul_right _ hj
            rw [Nat.add_mul, Nat.one_mul] at this
            omega
          refine ⟨n, _, fr, hk, fun q hq => ?_, fun fr' hf => .sl n size _ ⟨L.b, off, none⟩ c (fun j q => vs[off + (j * size + q)]?.getD undef) hnc (fun _ => ⟨lt_of_block hb, h.goneOut (hf i (by simp)) ((hfp _).2 rfl)⟩) hch (fun j q d hj hdd => ?_) (fun j q d hj hdd => ?_)⟩
          · rcases List.mem_cons.1 hq with e | e
            · subst e; exact hil
            · exact h3 q e
          · have hq : q < size := by have := (List.getElem?_eq_some_iff.1 hdd).1; rw [hch _ hj] at this; exact this
            rw [add_lit0]
            simp [World.cell?, hb, hin j q hj hq]
          · have hq : q < size := by have := (List.getElem?_eq_some_iff.1 hdd).1; rw [hch _ hj] at this; exact this
            unfold chunk at hdd
            rw [List.getElem?_take, if_pos hq, List.getElem?_drop] at hdd
            have hlt := hin j q hj hq
            refine h4 fr' (fun i hi => hf i (by simp [hi])) (j * size + q) d _ hdd ?_
            rw [List.getElem?_take, if_pos (by
              have : (j + 1) * size ≤ n * size := Nat.mul_le_mul_right _ hj
              rw [Nat.add_mul, Nat.one_mul] at this
              omega), List.getElem?_drop]
            simp [hlt]
      · exact hk.elim
    · exact hk.elim

theorem viewK_spec (hTT : TTok P TT) (h : Mem0 X w β fp ks) {s : SV} {ty : Option TypeId} {K : SV → List Nat → Prop} (hk : viewK TT ks s ty K) {v : Value} (hv : Den w (Mx X fp) β s v) :
    ∃ s' fr, K s' fr ∧ (∀ i ∈ fr, i < ks.length) ∧ ∀ fr', (∀ i ∈ fr, i ∈ fr') → Den w (Mx X (fpGone fr' fp)) β s' v := by
  unfold viewK at hk
  split at hk
  · rename_i l
    cases hv with
    | agg _ vs hl hd h1 =>
      obtain ⟨l', fr, hk, e1, e2, e3⟩ := viewCsK_spec h l _ vs hk hl hd
      exact ⟨_, fr, hk, e2, fun fr' hf => .agg l' vs (by omega) (e3 fr' hf) h1⟩
  · rename_i i off n c
    split at hk
    · split at hk
      · rename_i _ _ _ _ e _ ht
        split at hk
        · rename_i size _ _ _ _ _ hte
          obtain ⟨k, g, fr, hk, h1, h2⟩ := cs_rd h hk hv
          exact ⟨_, _, hk, h1, fun fr' hf => .d (h2 fr' hf)⟩
        · exact hk.elim
      · exact hk.elim
    · exact hk.elim
  · exact viewCK_spec h hk hv

theorem viewsK_spec (hTT : TTok P TT) (h : Mem0 X w β fp ks) : ∀ (l : List SV) (tys : List TypeId) (K : List SV → List Nat → Prop) (vs : List Value), viewsK TT ks l tys K → l.length = vs.length → (∀ (j : Nat) (s : SV) (u : Value), l[j]? = some s → vs[j]? = some u → Den w (Mx X fp) β s u) →
    ∃ l' fr, K l' fr ∧ l'.length = l.length ∧ (∀ i ∈ fr, i < ks.length) ∧ ∀ fr', (∀ i ∈ fr, i ∈ fr') → ∀ (j : Nat) (s : SV) (u : Value), l'[j]? = some s → vs[j]? = some u → Den w (Mx X (fpGone fr' fp)) β s u := by
  intro l
  induction l with
  | nil => intro tys K vs hk hl _; exact ⟨[], [], hk, rfl, by simp, fun _ _ j d u hd => by simp at hd⟩
  | cons a l ih =>
    intro tys K vs hk hl hd
    match vs, hl with
    | v :: vs, hl =>
      simp only [viewsK] at hk
      obtain ⟨d, fr, hk, h1, h2⟩ := viewK_spec hTT h hk (hd 0 a v rfl rfl)
      obtain ⟨ds, fr2, hk, h3, h4, h5⟩ := ih _ _ vs hk (by simpa using hl) (fun j s u hs hu => hd (j + 1) s u (by simpa using hs) (by simpa using hu))
      rw [appN_eq] at hk
      refine ⟨d :: ds, fr ++ fr2, hk, by simp [h3], fun i hi => (List.mem_append.1 hi).elim (h1 i) (h4 i), fun fr' hf j x u hx hu => ?_⟩
      cases j with
      | zero => simp at hx hu; subst hx hu; exact h2 fr' (fun i hi => hf i (by simp [hi]))
      | succ j => exact h5 fr' (fun i hi => hf i (by simp [hi])) j x u (by simpa using hx) (by simpa using hu)

theorem Mem.quiet (h : Mem X w β fp ks) {w' : World} (hs : Step (fun _ => False) w w') : Went X w β fp w' β fp ks :=
  h.go (hs.mono (fun _ _ e => e.elim)) (Ext.refl _) (fun i b hb => .inl ⟨i, hb⟩) h.dis (fun i b hb => Nat.lt_of_lt_of_le (h.kw i b hb) hs.size) h.kl h.ka h.kn (fun i L k hk _ hL => .inl ⟨hk, hL, rfl, fun b hb => hs.block b (h.kw i b hb) (fun e => e)⟩)

/-- The values of the arguments of a call. -/
theorem args_den {M : Nat → Prop} (hT : ∀ x, Den w M β (val ts x) (a.eval x)) (args : List Operand) (caps : List SV) (vs : List Value) (hl : caps.length = vs.length) (hd : ∀ (j : Nat) (s : SV) (u : Value), caps[j]? = some s → vs[j]? = some u → Den w M β s u) :
    (vals ts args ++ caps).length = (args.map a.eval ++ vs).length ∧ ∀ (j : Nat) (s : SV) (u : Value), (vals ts args ++ caps)[j]? = some s → (args.map a.eval ++ vs)[j]? = some u → Den w M β s u := by
  refine ⟨by simp [vals_length, hl], fun j s u hs hu => ?_⟩
  by_cases hj : j < args.length
  · rw [List.getElem?_append_left (by rw [vals_length]; exact hj), vals_get] at hs
    rw [List.getElem?_append_left (by simpa using hj), List.getElem?_map] at hu
    cases hx : args[j]? with
    | none => rw [hx] at hs; cases hs
    | some x =>
      rw [hx] at hs hu
      cases hs
      cases hu
      exact hT x
  · rw [List.getElem?_append_right (by rw [vals_length]; omega), vals_length] at hs
    rw [List.getElem?_append_right (by simp; omega), List.length_map] at hu
    exact hd _ _ _ hs hu

/-- The call of a function's value, in the machine. -/
theorem call_wp {g : Operand} {args : Array Operand} {tys : Array TypeId} (ho : o.op = .call ⟨.value g, args, tys⟩) {f : FuncId} {vs : List Value} (ev : a.eval g = .func (.func f) #[] vs.toArray) (hent : ∀ (args : Array Value) (w : World), (callFunc f args).run P w = .ok (.enter f args) w)
    {R : Ending → World → Prop} (hc : Calls P f (args.toList.map a.eval ++ vs).toArray w R) (hR : ∀ e w', R e w' → ∃ v, e = .returned v ∧ next (a.put o.dst v) w') : o.wpIn (wideF r) n P a w next Q := by
  refine ⟨fun _ _ => trivial, ?_⟩
  rw [Oper.semAt_eq _ _ _ (by rw [ho]; simp)]
  have hrun : (execOp a.eval o).run P w = .ok (.enter f (args.toList.map a.eval ++ vs).toArray) w := by
    have hargs : args.map a.eval ++ vs.toArray = (args.toList.map a.eval ++ vs).toArray := by apply Array.ext'; simp
    simp only [execOp, ho, resolve, ev, Deferred.ofValue, Sem.run_bind, Sem.run_pure, Result.andThen_ok, invoke, Array.empty_append, hargs, hent]
  rw [hrun]
  refine ⟨fun hsm => by simp [wideF, Fence.wide] at hsm, callsIn_wideF ?_⟩
  refine hc.mono ?_
  intro e w' he
  obtain ⟨v, rfl, hv⟩ := hR e w' he
  exact hv

/-- What a call owes. -/
def CallNext (X : Nat → Prop) (w : World) (β : Env) (fp : Nat → Nat → Prop) (a : Act) (o : Oper) (K : Bool → SV → List KB → Prop) (next : Act → World → Prop) : Prop :=
  ∀ h r ks' v w' β' fp', K h r ks' → Went X w β fp w' β' fp' ks' → Den w' (Mx X fp') β' r v → next (a.put o.dst v) w'

theorem fnOk_calls {f : FuncId} {as : List SV} {res : SV} {M : Nat → Prop} {vs : List Value} (hok : FnOk P f as res) (hM : ∀ b, M b → b < w.heap.size) (hl : as.length = vs.length) (hd : ∀ (j : Nat) (s : SV) (u : Value), as[j]? = some s → vs[j]? = some u → Den w M β s u) (hcl : closedL as = true) :
    Calls P f vs.toArray w fun e w' => ∃ v, e = .returned v ∧ Step (fun _ => False) w w' ∧ Den w' M noE res v :=
  hok.2 M w vs hM hl (fun j s u hs hu => (hd j s u hs hu).closed (closedL_get hcl j s hs) _)

theorem callStop_sound (hTT : TTok P TT) {K : Bool → SV → List KB → Prop} {g : Operand} {args : Array Operand} {tys : Array TypeId} {tl : List TypeId} (ho : o.op = .call ⟨.value g, args, tys⟩) {f : FuncId} {caps : List SV} {vs : List Value} (ev : a.eval g = .func (.func f) #[] vs.toArray)
    (hl : caps.length = vs.length) (hd : ∀ (j : Nat) (s : SV) (u : Value), caps[j]? = some s → vs[j]? = some u → Den w (Mx X fp) β s u) (h : CallStop P TT f (vals ts args.toList ++ caps) tl ks K) (hM : Mem X w β fp ks) (hT : ∀ x, Den w (Mx X fp) β (val ts x) (a.eval x)) (hn : CallNext X w β fp a o K next) :
    o.wpIn (wideF r) n P a w next Q := by
  obtain ⟨al, ad⟩ := args_den (a := a) hT args.toList caps vs hl hd
  cases h with
  | data res hok hcl hcr hK =>
    refine call_wp ho ev hok.1 (fnOk_calls hok hM.mlt al ad hcl) ?_
    rintro e w' ⟨v, rfl, hst, hden⟩
    exact ⟨v, rfl, hn _ _ _ _ _ _ _ hK (hM.quiet hst) (hden.closed hcr β)⟩
  | view res as' fr hok hview hcl hsc hK =>
    obtain ⟨l', fr', ⟨rfl, rfl⟩, e1, e2, e3⟩ := viewsK_spec hTT hM.toMem0 _ _ _ _ hview al ad
    refine call_wp ho ev hok.1 (fnOk_calls hok (fun b hb => hM.mlt b (hM.goneM fr' b hb)) (by omega) (e3 fr' (fun _ h => h)) hcl) ?_
    rintro e w' ⟨v, rfl, hst, hden⟩
    exact ⟨v, rfl, hn _ _ _ _ _ _ _ hK (hM.quiet hst) (hden.scalar hsc _ _ _)⟩
  | frz res as' fr hok hview hcl hcr hK =>
    obtain ⟨l', fr', ⟨rfl, rfl⟩, e1, e2, e3⟩ := viewsK_spec hTT hM.toMem0 _ _ _ _ hview al ad
    refine call_wp ho ev hok.1 (fnOk_calls hok (fun b hb => hM.mlt b (hM.goneM fr' b hb)) (by omega) (e3 fr' (fun _ h => h)) hcl) ?_
    rintro e w' ⟨v, rfl, hst, hden⟩
    have hW := hM.gone fr'
    exact ⟨v, rfl, hn _ _ _ _ _ _ _ hK (hW.trans (hW.mem.quiet hst)) (hden.closed hcr β)⟩
  | mem res ks' hok hK =>
    refine call_wp ho ev hok.1 (hok.2 X w β fp _ hM al ad) ?_
    rintro e w' ⟨v, s, k2, β', fp', rfl, ⟨rfl, rfl⟩, hW, hden⟩
    exact ⟨v, rfl, hn _ _ _ _ _ _ _ hK hW hden⟩

/-- A call that changes nothing that is known. -/
theorem callFree_sound (hTT : TTok P TT) {K : Bool → SV → List KB → Prop} {g : Operand} {args : Array Operand} {tys : Array TypeId} {tl : List TypeId} (ho : o.op = .call ⟨.value g, args, tys⟩) {f : FuncId} {caps : List SV} {vs : List Value} (ev : a.eval g = .func (.func f) #[] vs.toArray)
    (hl : caps.length = vs.length) (hd : ∀ (j : Nat) (s : SV) (u : Value), caps[j]? = some s → vs[j]? = some u → Den w (Mx X fp) β s u) (h : CallStop P TT f (vals ts args.toList ++ caps) tl ks K) (hf : ∀ s k, ¬ K true s k) (hM : Mem0 X w β fp ks) (hT : ∀ x, Den w (Mx X fp) β (val ts x) (a.eval x))
    (hn : ∀ s k v w', K false s k → Step (fun _ => False) w w' → Den w' (Mx X fp) β s v → next (a.put o.dst v) w') :
    o.wpIn (wideF r) n P a w next Q := by
  obtain ⟨al, ad⟩ := args_den (a := a) hT args.toList caps vs hl hd
  cases h with
  | data res hok hcl hcr hK =>
    refine call_wp ho ev hok.1 (fnOk_calls hok hM.mlt al ad hcl) ?_
    rintro e w' ⟨v, rfl, hst, hden⟩
    exact ⟨v, rfl, hn _ _ _ _ hK hst (hden.closed hcr β)⟩
  | view res as' fr hok hview hcl hsc hK =>
    obtain ⟨l', fr', ⟨rfl, rfl⟩, e1, e2, e3⟩ := viewsK_spec hTT hM _ _ _ _ hview al ad
    refine call_wp ho ev hok.1 (fnOk_calls hok (fun b hb => hM.mlt b (hM.goneM fr' b hb)) (by omega) (e3 fr' (fun _ h => h)) hcl) ?_
    rintro e w' ⟨v, rfl, hst, hden⟩
    exact ⟨v, rfl, hn _ _ _ _ hK hst (hden.scalar hsc _ _ _)⟩
  | frz res as' fr hok hview hcl hcr hK => exact absurd hK (hf _ _)
  | mem res ks' hok hK => exact absurd hK (hf _ _)

theorem fn_value {M : Nat → Prop} {g : Operand} {f : FuncId} {caps : List SV} (hv : Den w M β (.fn f caps) (a.eval g)) : ∃ vs : List Value, a.eval g = .func (.func f) #[] vs.toArray ∧ caps.length = vs.length ∧ ∀ (j : Nat) (s : SV) (u : Value), caps[j]? = some s → vs[j]? = some u → Den w M β s u := by
  generalize a.eval g = av at hv
  cases hv with
  | fn _ _ vs hl hd => exact ⟨vs, rfl, hl, hd⟩

theorem cev_sound (hTT : TTok P TT) {K : Bool → SV → List KB → Prop} {g : Operand} {args : Array Operand} {tys : Array TypeId} (ho : o.op = .call ⟨.value g, args, tys⟩) (h : cev P TT ts ks g args.toList tys.toList K) (hM : Mem X w β fp ks) (hT : ∀ x, Den w (Mx X fp) β (val ts x) (a.eval x)) (hn : CallNext X w β fp a o K next) :
    o.wpIn (wideF r) n P a w next Q := by
  unfold cev at h
  rw [valK_eq] at h
  have hv := hT g
  split at h
  · rename_i f caps hg
    rw [hg] at hv
    rw [valsK_eq, appK_eq] at h
    obtain ⟨vs, ev, hl, hd⟩ := fn_value hv
    exact callStop_sound hTT ho ev hl hd h hM hT hn
  · exact h.elim

theorem cevFree_sound (hTT : TTok P TT) {K : Bool → SV → List KB → Prop} {g : Operand} {args : Array Operand} {tys : Array TypeId} (ho : o.op = .call ⟨.value g, args, tys⟩) (h : cev P TT ts ks g args.toList tys.toList K) (hf : ∀ s k, ¬ K true s k) (hM : Mem0 X w β fp ks) (hT : ∀ x, Den w (Mx X fp) β (val ts x) (a.eval x))
    (hn : ∀ s k v w', K false s k → Step (fun _ => False) w w' → Den w' (Mx X fp) β s v → next (a.put o.dst v) w') : o.wpIn (wideF r) n P a w next Q := by
  unfold cev at h
  rw [valK_eq] at h
  have hv := hT g
  split at h
  · rename_i f caps hg
    rw [hg] at hv
    rw [valsK_eq, appK_eq] at h
    obtain ⟨vs, ev, hl, hd⟩ := fn_value hv
    exact callFree_sound hTT ho ev hl hd h hf hM hT hn
  · exact h.elim

theorem memN_in {t : Nat} {l : List Nat} (h : memN t l = true) : t ∈ l := by
  induction l with
  | nil => cases h
  | cons a l ih =>
    simp only [memN] at h
    split at h
    · rename_i e
      rw [Nat.eq_of_beq_eq_true e]
      exact List.mem_cons_self ..
    · exact List.mem_cons_of_mem _ (ih h)
theorem memN_out {t : Nat} {l : List Nat} (h : memN t l = false) : t ∉ l := by
  induction l with
  | nil => simp
  | cons a l ih =>
    simp only [memN] at h
    split at h
    · cases h
    · rename_i e
      intro hm
      rcases List.mem_cons.1 hm with rfl | hm
      · rw [Nat.beq_refl] at e
        cases e
      · exact ih h hm
theorem subN_mem {l m : List Nat} (h : subN l m = true) : ∀ i ∈ l, i ∈ m := by
  induction l with
  | nil => intro i hi; cases hi
  | cons a l ih =>
    simp only [subN] at h
    split at h
    · rename_i e
      intro i hi
      rcases List.mem_cons.1 hi with rfl | hi
      · exact memN_in e
      · exact ih h i hi
    · cases h
theorem stillOk_at {fr : List Nat} : ∀ {js : List (Nat × TypeId × List SV)}, stillOk ks fr js → ∀ p ∈ js, ∃ l, getB ks p.1 = .cells p.2.1 l ∧ viewCsK ks l (fun m f => m = p.2.2 ∧ subN f fr = true) ∧ memN p.1 fr = false
  | [], _, p, hp => by cases hp
  | (j, t, l') :: r, h, p, hp => by
    rcases List.mem_cons.1 hp with rfl | hp
    · exact h.1
    · exact stillOk_at h.2 p hp
theorem stillPut_length : ∀ (js : List (Nat × TypeId × List SV)) (l : List KB), (stillPut l js).length = l.length
  | [], _ => rfl
  | (j, t, l') :: r, l => by simp only [stillPut]; rw [stillPut_length r, setB_eq, List.length_set]
theorem stillPut_get : ∀ (js : List (Nat × TypeId × List SV)) (l : List KB) (i : Nat) (k : KB), (stillPut l js)[i]? = some k → l[i]? = some k ∨ ∃ p ∈ js, p.1 = i ∧ k = .cells p.2.1 p.2.2
  | [], l, i, k, h => .inl h
  | (j, t, l') :: r, l, i, k, h => by
    rcases stillPut_get r _ i k h with h | ⟨p, hp, h1, h2⟩
    · rw [setB_eq, List.getElem?_set] at h
      split at h
      · rename_i e
        split at h
        · simp only [Option.some.injEq] at h
          exact .inr ⟨(j, t, l'), List.mem_cons_self .., e, h.symm⟩
        · cases h
      · exact .inl h
    · exact .inr ⟨p, List.mem_cons_of_mem _ hp, h1, h2⟩
theorem Mem.still (h : Mem X w β fp ks) {fr : List Nat} {js : List (Nat × TypeId × List SV)} (hs : stillOk ks fr js) : Went X w β fp w β (fpGone fr fp) (stillPut (goneL fr ks) js) := by
  refine h.go (Step.refl _ _) (Ext.refl _) (fun i b hb => .inl ⟨i, hb.2⟩) (fun i j b hi hj => h.dis i j b hi.2 hj.2) (fun i b hb => h.kw i b hb.2) (fun i hi => ?_) (fun i t dom cols hi => ?_) (fun i b hb => h.kn i b hb.2) (fun i L k hk hne hL => ?_)
  · rw [stillPut_length, goneL_length] at hi
    exact h.kl i hi
  · rcases stillPut_get _ _ _ _ hi with hi | ⟨p, _, _, e⟩
    · exact h.ka i t dom cols (goneL_get fr ks i _ hi (by simp)).2
    · cases e
  · rcases stillPut_get _ _ _ _ hk with hk | ⟨p, hp, rfl, rfl⟩
    · obtain ⟨h1, h2⟩ := goneL_get fr ks i k hk hne
      exact .inl ⟨h2, hL, by funext b; simp [fpGone, h1], fun _ _ => rfl⟩
    · obtain ⟨l, hg, hv, hm⟩ := stillOk_at hs p hp
      have hnm := memN_out hm
      have hkb := h.kb p.1 L _ (getB_some hg (by simp)) (by simp) hL
      refine .inr ?_
      cases hkb with
      | cells _ _ vs h0 h1 h3 h4 h5 =>
        obtain ⟨l', f', ⟨rfl, hsub⟩, e1, _, e3⟩ := viewCsK_spec h.toMem0 l _ vs.toList hv (by simpa using h3) (fun j s u hs hu => h4 j s u hs (by simpa using hu))
        exact .cells _ _ vs (fun x => by simp only [fpGone]; rw [← h0 x]; exact ⟨fun a => a.2, fun a => ⟨hnm, a⟩⟩) h1 (by omega) (fun j s u hs hu => e3 fr (subN_mem hsub) j s u hs (by simpa using hu)) h5

theorem seqStop_sound (hTT : TTok P TT) {K : SV → List KB → Prop} {g : Operand} {args : Array Operand} {tys : Array TypeId} {tl : List TypeId} (ho : o.op = .call ⟨.value g, args, tys⟩) {f : FuncId} {caps : List SV} {vs : List Value} (ev : a.eval g = .func (.func f) #[] vs.toArray)
    (hl : caps.length = vs.length) (hd : ∀ (j : Nat) (s : SV) (u : Value), caps[j]? = some s → vs[j]? = some u → Den w (Mx X fp) β s u) (h : SeqStop P TT f (vals ts args.toList ++ caps) tl ks K) (hM : Mem X w β fp ks) (hT : ∀ x, Den w (Mx X fp) β (val ts x) (a.eval x)) (hn : MemNext X w β fp a o K next) :
    o.wpIn (wideF r) n P a w next Q := by
  obtain ⟨al, ad⟩ := args_den (a := a) hT args.toList caps vs hl hd
  cases h with
  | one h => exact callStop_sound hTT ho ev hl hd h hM hT (fun _ r ks' v w' β' fp' hK hW hD => hn r ks' v w' β' fp' hK hW hD)
  | rel R hok hK =>
    refine call_wp ho ev hok.1 (hok.2 X w β fp _ hM al ad) ?_
    rintro e w' ⟨v, s, k2, β', fp', rfl, hr, hW, hden⟩
    exact ⟨v, rfl, hn _ _ _ _ _ _ (hK _ _ hr) hW hden⟩
  | still fr js res as' hst hview hok hcl hcr hK =>
    obtain ⟨l', fr', ⟨rfl, hsub⟩, e1, e2, e3⟩ := viewsK_spec hTT hM.toMem0 _ _ _ _ hview al ad
    refine call_wp ho ev hok.1 (fnOk_calls hok (fun b hb => hM.mlt b (hM.goneM fr b hb)) (by omega) (e3 fr (subN_mem hsub)) hcl) ?_
    rintro e w' ⟨v, rfl, hq, hden⟩
    have hW := hM.still hst
    exact ⟨v, rfl, hn _ _ _ _ _ _ hK (hW.trans (hW.mem.quiet hq)) (hden.closed hcr β)⟩

end
end Go.Eng
namespace Go.Eng
open Go Go.RowKit

/-- If it holds for K it holds for one value alone, of which K holds. -/
def Ex {α : Type} (F : (α → Prop) → Prop) : Prop := ∀ K : α → Prop, F K → ∃ s, F (fun x => x = s) ∧ K s
namespace Ex
variable {α : Type}
theorem self (s : α) : Ex (fun K : α → Prop => K s) := fun _ h => ⟨s, rfl, h⟩
theorem no : Ex (fun _ : α → Prop => False) := fun _ h => h.elim
theorem and {c : Prop} {F : (α → Prop) → Prop} (h : Ex F) : Ex (fun K => c ∧ F K) := fun K hk => by
  obtain ⟨s, a, b⟩ := h K hk.2
  exact ⟨s, ⟨hk.1, a⟩, b⟩
theorem two {b : Bool} {F G : (α → Prop) → Prop} (hF : Ex F) (hG : Ex G) : Ex (fun K => (b = true → F K) ∧ (b = false → G K)) := fun K hk => by
  cases b with
  | false =>
    obtain ⟨s, x, y⟩ := hG K (hk.2 rfl)
    exact ⟨s, ⟨fun e => (by cases e), fun _ => x⟩, y⟩
  | true =>
    obtain ⟨s, x, y⟩ := hF K (hk.1 rfl)
    exact ⟨s, ⟨fun _ => x, fun e => (by cases e)⟩, y⟩
/-- A function that hands its result on. -/
theorem on {β : Type} {H : (β → Prop) → Prop} {v : β} (hH : ∀ k, H k = k v) {G : β → (α → Prop) → Prop} (h : Ex (G v)) : Ex (fun K => H (fun x => G x K)) := fun K hk => by
  have hk' : G v K := by have := hH (fun x => G x K); rw [← this]; exact hk
  obtain ⟨s, a, b⟩ := h K hk'
  refine ⟨s, ?_, b⟩
  have := hH (fun x => G x (fun y => y = s))
  show H (fun x => G x (fun y => y = s))
  rw [this]
  exact a
theorem val {ts : List SV} {x : Operand} {G : SV → (α → Prop) → Prop} (h : ∀ v, Ex (G v)) : Ex (fun K => valK ts x (fun v => G v K)) := on (fun k => valK_eq ts x k) (h _)
theorem vals {ts : List SV} {x : List Operand} {G : List SV → (α → Prop) → Prop} (h : ∀ v, Ex (G v)) : Ex (fun K => valsK ts x (fun v => G v K)) := on (fun k => valsK_eq ts x k) (h _)
theorem app {l m : List SV} {G : List SV → (α → Prop) → Prop} (h : ∀ v, Ex (G v)) : Ex (fun K => appK l m (fun v => G v K)) := on (fun k => appK_eq l m k) (h _)
theorem getT {ts : List SV} {n : Nat} {G : SV → (α → Prop) → Prop} (h : ∀ v, Ex (G v)) : Ex (fun K => getTK ts n (fun v => G v K)) := on (fun k => getTK_eq ts n k) (h _)
theorem getB {ts : List KB} {n : Nat} {G : KB → (α → Prop) → Prop} (h : ∀ v, Ex (G v)) : Ex (fun K => getBK ts n (fun v => G v K)) := on (fun k => getBK_eq ts n k) (h _)
theorem take {l : List SV} {n : Nat} {G : List SV → (α → Prop) → Prop} (h : ∀ v, Ex (G v)) : Ex (fun K => takeK l n (fun v => G v K)) := on (fun k => takeK_eq l n k) (h _)
theorem drop {l : List SV} {n : Nat} {G : List SV → (α → Prop) → Prop} (h : ∀ v, Ex (G v)) : Ex (fun K => dropK l n (fun v => G v K)) := on (fun k => dropK_eq l n k) (h _)
theorem mapD {l : List DV} {G : List SV → (α → Prop) → Prop} (h : ∀ v, Ex (G v)) : Ex (fun K => mapDK l (fun v => G v K)) := on (fun k => mapDK_eq l k) (h _)
theorem put {l m : List SV} {n : Nat} {G : List SV → (α → Prop) → Prop} (h : ∀ v, Ex (G v)) : Ex (fun K => putK l n m (fun v => G v K)) := on (fun k => putK_eq l n m k) (h _)
theorem addB {l : List KB} {k : KB} {G : List KB → (α → Prop) → Prop} (h : ∀ v, Ex (G v)) : Ex (fun K => addBK l k (fun v => G v K)) := on (fun c => addBK_eq l k c) (h _)
theorem setB {l : List KB} {n : Nat} {k : KB} {G : List KB → (α → Prop) → Prop} (h : ∀ v, Ex (G v)) : Ex (fun K => setBK l n k (fun v => G v K)) := on (fun c => setBK_eq l n k c) (h _)
theorem lenB {l : List KB} {n : Nat} {G : Nat → (α → Prop) → Prop} (h : ∀ v, Ex (G v)) : Ex (fun K => lenBK l n (fun v => G v K)) := on (fun c => lenBK_eq l n c) (h _)
theorem bool {x : DV} {G : Bool → (α → Prop) → Prop} (h : ∀ v, Ex (G v)) : Ex (fun K => boolK x (fun v => G v K) False) := by
  unfold boolK
  split
  · exact h _
  · exact h _
  · exact h _
  · exact no
theorem cells {v : SV} {G : List SV → (α → Prop) → Prop} (h : ∀ v, Ex (G v)) : Ex (fun K => cellsK v (fun l => G l K)) := by
  unfold cellsK
  split
  · exact h _
  · exact no
  · exact no
  · split
    · exact h _
    · exact no
  · exact h _
theorem pack {agg : Bool} {size : Nat} {l : List SV} {off : Nat} {G : SV → (α → Prop) → Prop} (h : ∀ v, Ex (G v)) : Ex (fun K => packK agg size l off (fun v => G v K)) := by
  unfold packK
  split
  · split
    · exact drop fun m => take fun r => h _
    · split
      · exact getT h
      · exact no
  · exact no
theorem ints {k : IntKind} : ∀ {l : List SV} {G : List Int → (α → Prop) → Prop} (_ : ∀ v, Ex (G v)), Ex (fun K => intsK k l (fun v => G v K)) := by
  intro l
  induction l with
  | nil => intro G h; exact h []
  | cons s l ih =>
    intro G h
    cases s with
    | d x => cases x with
      | int k' n =>
        simp only [intsK]
        split
        · exact ih fun r => h (n :: r)
        · exact no
      | _ => exact no
    | _ => exact no
theorem putI {k : IntKind} {i n : Int} : ∀ {l : List SV} {j : Int} {G : List SV → (α → Prop) → Prop} (_ : ∀ v, Ex (G v)), Ex (fun K => putIK k i n l j (fun v => G v K)) := by
  intro l
  induction l with
  | nil => intro j G h; exact h []
  | cons s l ih =>
    intro j G h
    cases s with
    | d x => cases x with
      | int k' n =>
        simp only [putIK]
        split
        · exact ih fun r => h (_ :: r)
        · exact no
      | _ => exact no
    | _ => exact no
theorem eqS {es : List EK} : ∀ {l m : List SV} {G : Bool → (α → Prop) → Prop} (_ : ∀ v, Ex (G v)), Ex (fun K => eqSK es l m (fun v => G v K)) := by
  induction es with
  | nil => intro l m G h; cases l <;> cases m <;> first | exact h true | exact no
  | cons e es ih =>
    intro l m G h
    cases l with
    | nil => cases e <;> exact no
    | cons s xs => cases m with
      | nil => cases e <;> cases s <;> first | exact no | (rename_i x; cases x <;> exact no)
      | cons t ys =>
        cases s with
        | d x => cases t with
          | d y =>
            cases e with
            | int k => cases x <;> cases y <;> first | exact no | (simp only [eqSK]; split <;> first | exact no | exact ih fun r => h _)
            | bool => exact bool fun p => bool fun q => ih fun r => h _
            | str => cases x <;> cases y <;> first | exact no | exact ih fun r => h _
          | _ => cases e <;> first | exact no | (cases x <;> exact no)
        | _ => cases e <;> exact no
theorem fill {TT : Nat → Option TI} {ts : List SV} {fs : List (Nat × TypeId)} : ∀ {parts : List (Nat × Operand)} {cs : List SV} {G : List SV → (α → Prop) → Prop} (_ : ∀ v, Ex (G v)), Ex (fun K => fillK TT ts fs cs parts (fun v => G v K)) := by
  intro parts
  induction parts with
  | nil => intro cs G h; exact h cs
  | cons p parts ih =>
    intro cs G h
    simp only [fillK]
    split
    · exact no
    · split
      · exact no
      · refine val fun v => cells fun vs => ?_
        split
        · exact put fun cs' => ih h
        · exact no
theorem bin {td : TD} {op : BinOp} {x y : DV} : Ex (fun K : SV → Prop => Go.Eng.bin td op x y K) := by
  unfold Go.Eng.bin
  repeat' (first | exact no | exact self _ | refine and ?_ | refine bool fun _ => ?_ | split)
theorem bound {ts : List SV} {o : Option Operand} {d : Int} {G : Int → (α → Prop) → Prop} (h : ∀ v, Ex (G v)) : Ex (fun K => boundK ts o d (fun v => G v K)) := by
  unfold boundK
  split
  · exact h _
  · refine val fun v => ?_
    split
    · exact h _
    · exact no
theorem arena {x : SV} {G : Nat → Nat → (α → Prop) → Prop} (h : ∀ i n, Ex (G i n)) : Ex (fun K => arenaIx x (fun i n => G i n K)) := by
  cases x with
  | np i n => exact h i n
  | ap i n off => cases off with
    | zero => exact h i n
    | succ => exact no
  | _ => exact no
theorem ptrEq {ks : List KB} {x y : SV} {G : DV → (α → Prop) → Prop} (h : ∀ v, Ex (G v)) : Ex (fun K => ptrEqK ks x y (fun v => G v K)) := by
  unfold ptrEqK
  repeat' (first | exact no | exact h _ | refine and ?_ | refine arena fun _ _ => ?_ | refine getB fun _ => ?_ | split)
theorem neg {x : DV} {G : SV → (α → Prop) → Prop} (h : ∀ v, Ex (G v)) : Ex (fun K => negSK x (fun v => G v K)) := by
  unfold negSK
  repeat' (first | exact no | exact h _ | split)
/-- A value that is told. -/
theorem told {γ : Type} {v : γ} {G : γ → (α → Prop) → Prop} (h : ∀ v, Ex (G v)) : Ex (fun K => ∃ r, v = r ∧ G r K) := fun K hk => by
  obtain ⟨r, rfl, hk⟩ := hk
  obtain ⟨s, a, b⟩ := h _ K hk
  exact ⟨s, ⟨_, rfl, a⟩, b⟩
theorem allD0 : ∀ {l : List SV} {G : List DV → (α → Prop) → Prop} (_ : ∀ v, Ex (G v)), Ex (fun K => allDK l (fun v => G v K)) := by
  intro l
  induction l with
  | nil => intro G h; exact h _
  | cons a l ih =>
    intro G h
    cases a <;> first | exact no | exact ih fun ds => h _
theorem key {eks : List EK} {ka : Bool} {x : SV} {G : List DV → (α → Prop) → Prop} (h : ∀ v, Ex (G v)) : Ex (fun K => keyK eks ka x (fun v => G v K)) := by
  unfold keyK
  repeat' (first | exact no | exact h _ | refine allD0 fun _ => ?_ | split)
theorem valOf {agg : Bool} {vs : List SV} {G : SV → (α → Prop) → Prop} (h : ∀ v, Ex (G v)) : Ex (fun K => valOfK agg vs (fun v => G v K)) := by
  unfold valOfK
  repeat' (first | exact no | exact h _ | split)
theorem look {c agg : Bool} {zero : List SV} {r : Option (List SV)} {G : SV → (α → Prop) → Prop} (h : ∀ v, Ex (G v)) : Ex (fun K => lookK c agg zero r (fun v => G v K)) := by
  unfold lookK
  repeat' (first | exact no | exact h _ | refine valOf fun _ => ?_ | split)
theorem cols {l : List Col} {n : Nat} {G : List SV → (α → Prop) → Prop} (h : ∀ v, Ex (G v)) : Ex (fun K => colsK l n (fun v => G v K)) := on (fun k => colsK_eq l n k) (h _)
theorem putc {c : Col} {n : Nat} {v : SV} {G : Col → (α → Prop) → Prop} (h : ∀ v, Ex (G v)) : Ex (fun K => putcK c n v (fun v => G v K)) := by
  unfold putcK
  repeat' (first | exact no | exact h _ | refine bool fun _ => ?_ | split)
theorem putC : ∀ {l : List Col} {off n : Nat} {vs : List SV} {G : List Col → (α → Prop) → Prop} (_ : ∀ v, Ex (G v)), Ex (fun K => putCK l off n vs (fun v => G v K)) := by
  intro l
  induction l with
  | nil => intro off n vs G h; cases vs <;> first | (simp only [putCK]; exact h _) | (simp only [putCK]; exact no)
  | cons c l ih =>
    intro off n vs G h
    cases vs with
    | nil => simp only [putCK]; exact h _
    | cons v vs => cases off with
      | zero => simp only [putCK]; exact putc fun _ => ih fun _ => h _
      | succ off => simp only [putCK]; exact ih fun _ => h _
theorem elem {ea : Bool} {v : SV} {G : List SV → (α → Prop) → Prop} (h : ∀ v, Ex (G v)) : Ex (fun K => elemK ea v (fun l => G l K)) := by
  unfold elemK
  repeat' (first | exact no | exact h _ | refine cells fun _ => ?_ | split)
theorem isInt {ts : List SV} {o : Option Operand} {F : (α → Prop) → Prop} (h : Ex F) : Ex (fun K => isSomeInt ts o (F K)) := by
  unfold isSomeInt
  repeat' (first | exact no | exact h | refine val fun _ => ?_ | split)
theorem appN {l m : List Nat} {G : List Nat → (α → Prop) → Prop} (h : ∀ v, Ex (G v)) : Ex (fun K => Go.Eng.appN l m (fun v => G v K)) := on (fun k => appN_eq l m k) (h _)
theorem gone {l : List Nat} {ks : List KB} {G : List KB → (α → Prop) → Prop} (h : ∀ v, Ex (G v)) : Ex (fun K => goneK l ks (fun v => G v K)) := on (fun k => goneK_eq l ks k) (h _)
theorem allD : ∀ {l : List SV} {G : List DV → (α → Prop) → Prop} (_ : ∀ v, Ex (G v)), Ex (fun K => allDK l (fun v => G v K)) := by
  intro l
  induction l with
  | nil => intro G h; exact h _
  | cons a l ih =>
    intro G h
    cases a <;> first | exact no | exact ih fun ds => h _
theorem dv {ks : List KB} {s : SV} {G : DV → List Nat → (α → Prop) → Prop} (h : ∀ d l, Ex (G d l)) : Ex (fun K => dvK ks s (fun d l => G d l K)) := by
  unfold dvK
  repeat' (first | exact no | exact h _ _ | refine and ?_ | refine getB fun _ => ?_ | refine drop fun _ => ?_ | refine take fun _ => ?_ | refine allD fun _ => ?_ | split)
theorem dvs {ks : List KB} : ∀ {l : List SV} {G : List DV → List Nat → (α → Prop) → Prop} (_ : ∀ d l, Ex (G d l)), Ex (fun K => dvsK ks l (fun d l => G d l K)) := by
  intro l
  induction l with
  | nil => intro G h; exact h _ _
  | cons a l ih => intro G h; exact dv fun d fr => ih fun ds fr' => appN fun r => h _ _
theorem src {ks : List KB} {sz : Nat} {x : SV} {G : Nat → (Nat → List DV) → List Nat → (α → Prop) → Prop} (h : ∀ n g l, Ex (G n g l)) : Ex (fun K => srcK ks sz x (fun n g l => G n g l K)) := by
  unfold srcK
  repeat' (first | exact no | exact h _ _ _ | refine and ?_ | refine getB fun _ => ?_ | refine drop fun _ => ?_ | refine take fun _ => ?_ | refine dvs fun _ _ => ?_ | split)
theorem rep {z : List SV} {n : Nat} {G : List SV → (α → Prop) → Prop} (h : ∀ v, Ex (G v)) : Ex (fun K => repK z n (fun v => G v K)) := on (fun k => repK_eq z n k) (h _)
theorem fillS {ts : List SV} {size : Nat} : ∀ {parts : List (Nat × Operand)} {cs : List SV} {G : List SV → (α → Prop) → Prop} (_ : ∀ v, Ex (G v)), Ex (fun K => Go.Eng.fillS ts size cs parts (fun v => G v K)) := by
  intro parts
  induction parts with
  | nil => intro cs G h; exact h cs
  | cons p parts ih =>
    intro cs G h
    simp only [Go.Eng.fillS]
    refine val fun v => cells fun vs => ?_
    split
    · exact put fun cs' => ih h
    · exact no
theorem newRow {ks : List KB} {k : KB} {G : SV → List KB → (α → Prop) → Prop} (h : ∀ s l, Ex (G s l)) : Ex (fun K => newRowK ks k (fun s l => G s l K)) := by
  unfold newRowK
  exact addB fun _ => lenB fun _ => h _ _
theorem copyI {k : Nat} {g : Nat → List DV} : ∀ {l : List SV} {q : Nat} {G : List SV → (α → Prop) → Prop}, (∀ r, Ex (G r)) → Ex (fun K => copyIK k g q l (fun r => G r K)) := by
  intro l
  induction l with
  | nil => intro q G h; exact h []
  | cons a l ih =>
    intro q G h
    cases a with
    | d x =>
      cases x with
      | int k1 b =>
        simp only [copyIK]
        split
        · split
          · exact ih fun r => h _
          · exact no
        · exact no
      | _ => exact no
    | _ => exact no
theorem copy {ks : List KB} {size : Nat} {d : SV} {k : Nat} {g : Nat → List DV} {G : SV → List KB → (α → Prop) → Prop} (h : ∀ s l, Ex (G s l)) : Ex (fun K => copyK ks size d k g (fun s l => G s l K)) := by
  unfold copyK
  split
  · refine getB fun _ => ?_
    split
    · split
      · exact and (setB fun _ => h _ _)
      · exact no
    · exact no
  · refine getB fun _ => ?_
    split
    · split
      · exact and (setB fun _ => h _ _)
      · exact no
    · exact no
  · split
    · refine getB fun _ => ?_
      split
      · split
        · exact and (drop fun _ => take fun _ => copyI fun _ => put fun _ => setB fun _ => h _ _)
        · exact no
      · exact no
    · exact no
  · exact no
end Ex

theorem pev_ex (P : Program) (TT : Nat → Option TI) (ts : List SV) (ks : List KB) (op : Op) : Ex (fun K => pev P TT ts ks op K) := by
  cases op with
  | call c =>
    obtain ⟨callee, args, argTypes⟩ := c
    simp only [pev]
    repeat' (first | exact Ex.no | exact Ex.self _ | refine Ex.and ?_ | refine Ex.val fun _ => ?_ | refine Ex.vals fun _ => ?_ | refine Ex.getB fun _ => ?_ | split)
  | _ =>
    simp only [pev]
    repeat' (first | exact Ex.no | exact Ex.self _ | exact Ex.bin | refine Ex.and ?_ | refine Ex.two ?_ ?_ | refine Ex.val fun _ => ?_ | refine Ex.vals fun _ => ?_ | refine Ex.getB fun _ => ?_ | refine Ex.getT fun _ => ?_ | refine Ex.pack fun _ => ?_ | refine Ex.drop fun _ => ?_ | refine Ex.take fun _ => ?_ | refine Ex.ints fun _ => ?_ | refine Ex.mapD fun _ => ?_ | refine Ex.eqS fun _ => ?_ | refine Ex.fill fun _ => ?_ | refine Ex.bound fun _ => ?_ | refine Ex.ptrEq fun _ => ?_ | refine Ex.neg fun _ => ?_ | refine Ex.key fun _ => ?_ | refine Ex.told fun _ => ?_ | refine Ex.look fun _ => ?_ | refine Ex.cols fun _ => ?_ | split)

theorem mev_ex (TT : Nat → Option TI) (ts : List SV) (ks : List KB) (op : Op) : Ex (fun K : SV × List KB → Prop => mev TT ts ks op (fun s k => K (s, k))) := by
  cases op with
  | call c =>
    obtain ⟨callee, args, argTypes⟩ := c
    cases callee with
    | builtin b =>
      cases b with
      | append =>
        simp only [mev]
        repeat' (first | exact Ex.no | exact Ex.self _ | refine Ex.and ?_ | refine Ex.val fun _ => ?_ | refine Ex.src fun _ _ _ => ?_ | refine Ex.getB fun _ => ?_ | refine Ex.gone fun _ => ?_ | refine Ex.setB fun _ => ?_ | refine Ex.newRow fun _ _ => ?_ | refine Ex.dvs fun _ _ => ?_ | split)
      | copy =>
        simp only [mev]
        repeat' (first | exact Ex.no | exact Ex.self _ | refine Ex.val fun _ => ?_ | refine Ex.src fun _ _ _ => ?_ | refine Ex.copy fun _ _ => ?_ | split)
      | unsafeString =>
        simp only [mev]
        repeat' (first | exact Ex.no | exact Ex.self _ | refine Ex.and ?_ | refine Ex.val fun _ => ?_ | refine Ex.getB fun _ => ?_ | refine Ex.setB fun _ => ?_ | split)
      | delete =>
        simp only [mev]
        repeat' (first | exact Ex.no | exact Ex.self _ | refine Ex.val fun _ => ?_ | refine Ex.getB fun _ => ?_ | refine Ex.key fun _ => ?_ | refine Ex.told fun _ => ?_ | refine Ex.setB fun _ => ?_ | split)
      | _ => exact Ex.no
    | _ => exact Ex.no
  | makeMap t x =>
    simp only [mev]
    repeat' (first | exact Ex.no | exact Ex.self _ | refine Ex.isInt ?_ | refine Ex.addB fun _ => ?_ | refine Ex.lenB fun _ => ?_ | split)
  | mapUpdate t m k v =>
    simp only [mev]
    repeat' (first | exact Ex.no | exact Ex.self _ | refine Ex.val fun _ => ?_ | refine Ex.getB fun _ => ?_ | refine Ex.key fun _ => ?_ | refine Ex.elem fun _ => ?_ | refine Ex.told fun _ => ?_ | refine Ex.setB fun _ => ?_ | split)
  | alloc t =>
    simp only [mev]
    repeat' (first | exact Ex.no | exact Ex.self _ | refine Ex.addB fun _ => ?_ | refine Ex.lenB fun _ => ?_ | split)
  | box t x =>
    simp only [mev]
    repeat' (first | exact Ex.no | exact Ex.self _ | refine Ex.val fun _ => ?_ | refine Ex.cells fun _ => ?_ | refine Ex.addB fun _ => ?_ | refine Ex.lenB fun _ => ?_ | split)
  | buildSlice t l ps =>
    simp only [mev]
    repeat' (first | exact Ex.no | exact Ex.self _ | refine Ex.rep fun _ => ?_ | refine Ex.fillS fun _ => ?_ | refine Ex.addB fun _ => ?_ | refine Ex.lenB fun _ => ?_ | split)
  | makeSlice t x y =>
    simp only [mev]
    repeat' (first | exact Ex.no | exact Ex.self _ | refine Ex.and ?_ | refine Ex.val fun _ => ?_ | refine Ex.dvs fun _ _ => ?_ | refine Ex.newRow fun _ _ => ?_ | split)
  | convert s d x =>
    simp only [mev]
    repeat' (first | exact Ex.no | exact Ex.self _ | refine Ex.val fun _ => ?_ | refine Ex.newRow fun _ _ => ?_ | split)
  | store t x y =>
    simp only [mev]
    repeat' (first | exact Ex.no | exact Ex.self _ | refine Ex.val fun _ => ?_ | refine Ex.getB fun _ => ?_ | refine Ex.cells fun _ => ?_ | refine Ex.put fun _ => ?_ | refine Ex.setB fun _ => ?_ | refine Ex.drop fun _ => ?_ | refine Ex.take fun _ => ?_ | refine Ex.putI fun _ => ?_ | refine Ex.dvs fun _ _ => ?_ | refine Ex.gone fun _ => ?_ | refine Ex.and ?_ | refine Ex.putC fun _ => ?_ | split)
  | _ => exact Ex.no

theorem cev_ex (P : Program) (TT : Nat → Option TI) (ts : List SV) (ks : List KB) (g : Operand) (args : List Operand) (tys : List TypeId) : Ex (fun K : Bool × SV × List KB → Prop => cev P TT ts ks g args tys (fun h s k => K (h, s, k))) := by
  unfold cev
  refine Ex.val fun v => ?_
  split
  · refine Ex.vals fun _ => Ex.app fun as => ?_
    intro K h
    cases h with
    | data r h1 h2 h3 h4 => exact ⟨(false, r, ks), .data r h1 h2 h3 rfl, h4⟩
    | view r as' fr h1 h2 h3 h4 h5 => exact ⟨(false, r, ks), .view r as' fr h1 h2 h3 h4 rfl, h5⟩
    | frz r as' fr h1 h2 h3 h4 h5 => exact ⟨(true, r, goneL fr ks), .frz r as' fr h1 h2 h3 h4 rfl, h5⟩
    | mem r ks' h1 h2 => exact ⟨(true, r, ks'), .mem r ks' h1 rfl, h2⟩
  · exact Ex.no

end Go.Eng
namespace Go.Eng
open Go Go.RowKit
section
variable {P : Program} {TT : Nat → Option TI} {w : World} {β : Env} {ts : List SV} {a : Act} {K : SV → Prop} {o : Oper} {M : Nat → Prop}
theorem emptyMem (hM : ∀ b, M b → b < w.heap.size) : Mem M w noE (fun _ _ => False) [] :=
  ⟨⟨hM, fun _ _ h => h.elim, fun _ _ _ h => h.elim, fun _ _ h => h.elim, fun _ _ h => h.elim, fun i L k hk => by simp at hk⟩, fun _ _ => rfl, fun i t d c h => by simp at h⟩
theorem appD_ok (hTT : TTok P TT) (h : appDK TT ts o.op K) (hM : ∀ b, M b → b < w.heap.size) (hT : ∀ x, Den w M β (val ts x) (a.eval x)) :
    ∃ d v w', K (.d d) ∧ (execOp a.eval o).run P w = .ok (.value v) w' ∧ Step (fun _ => False) w w' ∧ Den w' M β (.d d) v := by
  unfold appDK at h
  split at h
  · rename_i args argTypes ho
    obtain ⟨args⟩ := args
    obtain ⟨argTypes⟩ := argTypes
    simp only at h
    split at h
    · rename_i s x st xt
      split at h
      · rename_i _ _ _ _ e _ ht
        split at h
        · rename_i size bytes _ _ _ _ hte
          split at h
          · rename_i hbs
            rw [Bool.and_eq_true, Bool.and_eq_true] at hbs
            have hpos : 0 < size := ble_of hbs.1
            have hbp : 0 < bytes := ble_of hbs.2.1
            have htx := isSeq_spec hTT hbs.2.2
            obtain ⟨info0, d0, z0', hi0, hu0, _, _, _, _, _, _, _, _, hd0⟩ := find_TT hTT ht
            cases hd0
            obtain ⟨info, de, z0, hi, hue, hsz, hby, hz0, _, hzl, hzs, _, hz1, _⟩ := find_TT hTT hte
            simp only at hsz hby hzl hzs
            have hzs' : z0.cells.size = size := by omega
            rw [valK_eq] at h
            have hvs := hT s
            split at h
            · rename_i i hs
              rw [hs] at hvs
              rw [valK_eq] at h
              have hvx := hT x
              split at h
              · rename_i b n sz f hx
                rw [hx] at hvx
                split at h
                · rename_i hbe
                  have hsz' : sz = size := beq_of hbe
                  subst hsz'
                  obtain ⟨hb, hK⟩ := h
                  have hn63 : n ≤ 9223372036854775807 := by
                    have : n * 1 ≤ n * bytes := Nat.mul_le_mul_left _ (by omega)
                    omega
                  have hE := emptyMem (w := w) hM
                  have hmx : ∀ q, Mx M (fun _ _ => False) q ↔ M q := fun q => ⟨fun h => h.elim id (fun ⟨_, h⟩ => h.elim), .inl⟩
                  have hdx : Den w (Mx M (fun _ _ => False)) noE (.d (.sl b n sz f)) (a.eval x) := .d (rd_less (den_data hvx) (fun q hq => (hmx q).1 hq))
                  obtain ⟨k, g, fr, us, hk, _, hsrc⟩ := srcK_spec (K := fun k g fr => k = n ∧ g = f ∧ fr = []) hE.toMem0 hpos (by show (match Nat.beq sz sz with | true => _ | false => _); rw [Nat.beq_refl]; exact ⟨rfl, rfl, rfl⟩) hdx htx
                  obtain ⟨rfl, rfl, rfl⟩ := hk
                  have hS := (hsrc [] (fun _ hi => hi)).less (M' := Mx M (fun _ _ => False)) (fun q hq => .inl ((hmx q).1 hq))
                  have fin : ∀ (v : Value) (w' : World), (Builtin.append_ #[st, xt] o.type #[a.eval s, a.eval x]).run P w = .ok v w' → (execOp a.eval o).run P w = .ok (.value v) w' := fun v w' hrun => by
                    simp [execOp, ho, resolve, invoke, builtin, hrun]
                  generalize a.eval s = vs at hvs fin
                  cases hvs with
                  | cs _ _ _ _ L hL _ =>
                    by_cases hk0 : k = 0
                    · subst hk0
                      have hus : us = [] := List.eq_nil_of_length_eq_zero (by rw [hS.src.newsLen]; simp)
                      subst hus
                      have hrun := run_append_nothing w st xt o.type e info hu0 hi (some ⟨L.b, 0, none⟩) 0 0 (Nat.le_refl _) (a.eval x) (hsz ▸ hS.src)
                      refine ⟨_, _, _, hK, fin _ _ hrun, Step.refl _ _, .d ?_⟩
                      exact .sl 0 sz g ⟨L.b, 0, none⟩ 0 (fun _ _ => undef) (Nat.le_refl _) (fun h => absurd h (Nat.lt_irrefl _)) (fun i hi => absurd hi (Nat.not_lt_zero _)) (fun i j d hi => absurd hi (Nat.not_lt_zero _)) (fun i j d hi => absurd hi (Nat.not_lt_zero _))
                    · obtain ⟨v, w', β', fp', r1, r2, r3⟩ := append_grow (P := P) (st := st) (xt := xt) (ty := o.type) hE hu0 hi hz0 hsz hzs' hz1 (some ⟨L.b, 0, none⟩) 0 0 (fun _ => []) [] (run_firstCells_some w.drew sz 0 ⟨L.b, 0, none⟩ 0 0 _ (by simp) (fun j u hu => by simp at hu)) (by simp) (fun u hu => by cases hu) (fun k hk => absurd hk (Nat.not_lt_zero _)) (fun k j d u hk => absurd hk (Nat.not_lt_zero _)) hS (by omega) (by rw [hby, Nat.zero_add]; exact hb) (by omega) .no
                      obtain ⟨d, fr, ⟨rfl, rfl⟩, _, hrd⟩ := dvK_spec (K := fun d fr => d = .sl false (0 + k) sz (catF 0 (fun _ => []) g) ∧ fr = [0]) r2.mem.toMem0 (s := .all 0) ⟨rfl, rfl⟩ r3
                      have hc : catF 0 (fun _ => []) g = g := by funext t; simp [catF]
                      have hrd := hrd [0] (fun _ h => h)
                      rw [hc, Nat.zero_add] at hrd
                      exact ⟨_, v, w', hK, fin _ _ r1, r2.st.mono (fun q _ ⟨_, hq⟩ => hq), .d (rd_less hrd (fun q hq => .inl hq))⟩
                · exact h.elim
              · exact h.elim
            · exact h.elim
          · exact h.elim
        · exact h.elim
      · exact h.elim
    · exact h.elim
  · exact h.elim
theorem appDK_agree {ts ts' : List SV} {op : Op} (h : ∀ x ∈ op.operands, val ts x = val ts' x) : appDK TT ts op K = appDK TT ts' op K := by
  unfold appDK
  split
  · rename_i args argTypes
    obtain ⟨args⟩ := args
    split
    · rename_i s x st xt hl _
      have hl : args = [s, x] := hl
      subst hl
      simp [Op.operands, Call.operands] at h
      simp only [valK_eq, h.1, h.2]
    · rfl
  · rfl
theorem appDK_ex (TT : Nat → Option TI) (ts : List SV) (op : Op) : Ex (fun K : SV → Prop => appDK TT ts op K) := by
  unfold appDK
  repeat' (first | exact Ex.no | exact Ex.self _ | refine Ex.and ?_ | refine Ex.val fun _ => ?_ | split)
end
end Go.Eng
namespace Go.Eng
open Go Go.RowKit

def putT (d : Option Tmp) (s : SV) (ts : List SV) : List SV :=
  match d with
  | none => ts
  | some t => setT ts t s
theorem putDst_eq (d : Option Tmp) (s : SV) (ts : List SV) (K : List SV → Prop) : putDst d s ts K = K (putT d s ts) := by
  cases d <;> simp [putDst, putT, setK_eq]

def guardOk (all : List Oper) (ts : List SV) (o : Oper) : Option Bool :=
  match o.guard with
  | none => some true
  | some (j, want) => match dstAt all j with
    | none => none
    | some t => match getT ts t with
      | .d .tt => some want
      | .d .ff => some (!want)
      | .v (.tuple _) => some false
      | _ => none

/-- The call of a function's value. -/
def isCall : Op → Bool
  | .call ⟨.value _, _, _⟩ => true
  | _ => false

/-- What one operation comes to: its value and what is known after it. h: no other operation may be moved past it. -/
inductive Evs (P : Program) (TT : Nat → Option TI) (ts : List SV) (ks : List KB) (op : Op) : Bool → SV → List KB → Prop where
  | pure (s : SV) : isCall op = false → (isMem op || isBytes TT op) = false → pev P TT ts ks op (fun x => x = s) → Evs P TT ts ks op false s ks
  | mem (s : SV) (k1 : List KB) : isCall op = false → (isMem op || isBytes TT op) = true → mev TT ts ks op (fun x k => (x, k) = (s, k1)) → Evs P TT ts ks op (hardOf op) s k1
  | call (g : Operand) (args : Array Operand) (tys : Array TypeId) (h : Bool) (s : SV) (k1 : List KB) : op = .call ⟨.value g, args, tys⟩ → cev P TT ts ks g args.toList tys.toList (fun h' x k => (h', x, k) = (h, s, k1)) → Evs P TT ts ks op h s k1
  | app (s : SV) : appDK TT ts op (fun x => x = s) → Evs P TT ts ks op false s ks

inductive Stp (P : Program) (TT : Nat → Option TI) (all : List Oper) (ts : List SV) (ks : List KB) (o : Oper) : Bool → SV → List KB → Prop where
  | ev {h : Bool} {s : SV} {k1 : List KB} : guardOk all ts o = some true → Evs P TT ts ks o.op h s k1 → Stp P TT all ts ks o h s k1
  | skip : guardOk all ts o = some false → Stp P TT all ts ks o false skipV ks

/-- The way through a region's operations, in the order of the text. -/
inductive Tr (P : Program) (TT : Nat → Option TI) (all : List Oper) : List Oper → List SV → List KB → List SV → List KB → List Bool → Prop where
  | nil (ts : List SV) (ks : List KB) : Tr P TT all [] ts ks ts ks []
  | step {o : Oper} {os : List Oper} {ts ts' : List SV} {ks ks' : List KB} {h : Bool} {hs : List Bool} {s : SV} {k1 : List KB} : Stp P TT all ts ks o h s k1 → Tr P TT all os (putT o.dst s ts) k1 ts' ks' hs → Tr P TT all (o :: os) ts ks ts' ks' (h :: hs)
  | refine_ {o : Oper} {os : List Oper} {ts ts' : List SV} {ks ks' : List KB} {hs : List Bool} (t : Nat) (b : Bool) : getT ts t = .d (.bool b) → Tr P TT all (o :: os) (setT ts t (.d (if b then .tt else .ff))) ks ts' ks' hs → Tr P TT all (o :: os) ts ks ts' ks' hs

theorem exec_ev {P : Program} {TT : Nat → Option TI} {o : Oper} {ts : List SV} {ks : List KB} {K : Bool → List SV → List KB → Prop} (h : exec P TT o ts ks K) : ∃ hd s k1, Evs P TT ts ks o.op hd s k1 ∧ K hd (putT o.dst s ts) k1 := by
  have noncall : isCall o.op = false → (match isMem o.op || isBytes TT o.op with
    | true => mev TT ts ks o.op (fun v ks' => putDst o.dst v ts (fun ts' => K (hardOf o.op) ts' ks'))
    | false => pev P TT ts ks o.op (fun v => putDst o.dst v ts (fun ts' => K false ts' ks))) → ∃ hd s k1, Evs P TT ts ks o.op hd s k1 ∧ K hd (putT o.dst s ts) k1 := fun hc h => by
    split at h
    · rename_i hm
      obtain ⟨⟨s, k1⟩, hev, hk⟩ := mev_ex TT ts ks o.op (fun p => putDst o.dst p.1 ts (fun ts' => K (hardOf o.op) ts' p.2)) h
      rw [putDst_eq] at hk
      exact ⟨_, s, k1, .mem s k1 hc hm hev, hk⟩
    · rename_i hm
      obtain ⟨s, hev, hk⟩ := pev_ex P TT ts ks o.op _ h
      rw [putDst_eq] at hk
      exact ⟨_, s, ks, .pure s hc hm hev, hk⟩
  unfold exec at h
  split at h
  · rename_i g args tys ho
    obtain ⟨⟨hd, s, k1⟩, hev, hk⟩ := cev_ex P TT ts ks g args.toList tys.toList (fun p => putDst o.dst p.2.1 ts (fun ts' => K p.1 ts' p.2.2)) h
    rw [putDst_eq] at hk
    exact ⟨hd, s, k1, .call g args tys hd s k1 ho hev, hk⟩
  · rename_i hno
    refine noncall ?_ h
    unfold isCall
    split
    · rename_i g args tys he
      exact absurd he (hno g args tys)
    · rfl

section
variable {P : Program} {TT : Nat → Option TI} {IN : Nat → Option Inl} {K : Exit → List SV → List KB → Prop} {all : List Oper} {r : List It} {nb : Nb}

theorem run_succ (n : Nat) : run P TT IN (n + 1) = stepF P TT IN (run P TT IN n) := rfl

theorem execD_ev {P : Program} {TT : Nat → Option TI} {o : Oper} {ts : List SV} {ks : List KB} {K : Bool → List SV → List KB → Prop} (h : execD P TT o ts ks K) : ∃ hd s k1, Evs P TT ts ks o.op hd s k1 ∧ K hd (putT o.dst s ts) k1 := by
  unfold execD at h
  split at h
  · obtain ⟨s, hev, hk⟩ := appDK_ex TT ts o.op _ h
    rw [putDst_eq] at hk
    exact ⟨false, s, ks, .app s hev, hk⟩
  · exact exec_ev h
theorem exec_tr {o : Oper} {os : List Oper} {ts : List SV} {ks : List KB} {n : Nat} {hs : List Bool} (hg : guardOk all ts o = some true) (h : execD P TT o ts ks (fun h ts' ks' => run P TT IN n nb (.ops true (h :: hs) all os :: r) ts' ks' K))
    (ih : ∀ ts ks hs, run P TT IN n nb (.ops true hs all os :: r) ts ks K → ∃ n' ts' ks' hs', n' ≤ n ∧ Tr P TT all os ts ks ts' ks' hs' ∧ drawOk all (revB (revB hs' hs) []) = true ∧ run P TT IN n' nb r ts' ks' K) :
    ∃ n' ts' ks' hs', n' ≤ n + 1 ∧ Tr P TT all (o :: os) ts ks ts' ks' hs' ∧ drawOk all (revB (revB hs' hs) []) = true ∧ run P TT IN n' nb r ts' ks' K := by
  obtain ⟨hd, s, k1, hev, hk⟩ := execD_ev h
  obtain ⟨n', ts', ks', hs', hn, htr, hdr, hrun⟩ := ih _ _ _ hk
  exact ⟨n', ts', ks', _, by omega, .step (.ev hg hev) htr, hdr, hrun⟩

theorem run_ops : ∀ (n : Nat) (os : List Oper) (ts : List SV) (ks : List KB) (hs : List Bool), run P TT IN n nb (.ops true hs all os :: r) ts ks K → ∃ n' ts' ks' hs', n' ≤ n ∧ Tr P TT all os ts ks ts' ks' hs' ∧ drawOk all (revB (revB hs' hs) []) = true ∧ run P TT IN n' nb r ts' ks' K := by
  intro n
  induction n with
  | zero => intro os ts ks hs h; exact h.elim
  | succ n ih =>
    intro os ts ks hs h
    rw [run_succ] at h
    simp only [stepF] at h
    cases os with
    | nil =>
      simp only at h
      split at h
      · rename_i hd
        exact ⟨n, ts, ks, [], by omega, .nil ts ks, hd, h⟩
      · exact h.elim
    | cons o os =>
      simp only at h
      split at h
      · rename_i hg
        exact exec_tr (by simp [guardOk, hg]) h (ih os)
      · rename_i j want hg
        split at h
        · exact h.elim
        · rename_i t hd
          rw [getTK_eq] at h
          split at h
          · rename_i hv
            split at h
            · exact exec_tr (by simp [guardOk, hg, hd, hv]) h (ih os)
            · rw [putDst_eq] at h
              obtain ⟨n', ts', ks', hs', hn, htr, hdr, hrun⟩ := ih _ _ _ _ h
              exact ⟨n', ts', ks', _, by omega, .step (.skip (by simp [guardOk, hg, hd, hv])) htr, hdr, hrun⟩
          · rename_i hv
            split at h
            · exact exec_tr (by simp [guardOk, hg, hd, hv]) h (ih os)
            · rw [putDst_eq] at h
              obtain ⟨n', ts', ks', hs', hn, htr, hdr, hrun⟩ := ih _ _ _ _ h
              exact ⟨n', ts', ks', _, by omega, .step (.skip (by simp [guardOk, hg, hd, hv])) htr, hdr, hrun⟩
          · rename_i hv
            rw [putDst_eq] at h
            obtain ⟨n', ts', ks', hs', hn, htr, hdr, hrun⟩ := ih _ _ _ _ h
            exact ⟨n', ts', ks', _, by omega, .step (.skip (by simp [guardOk, hg, hd, hv])) htr, hdr, hrun⟩
          · rename_i b hv
            obtain ⟨h1, h2⟩ := h
            cases b with
            | true =>
              have h1 := h1 rfl
              rw [setK_eq] at h1
              obtain ⟨n', ts', ks', hs', hn, htr, hdr, hrun⟩ := ih _ _ _ _ h1
              exact ⟨n', ts', ks', hs', by omega, .refine_ t true hv htr, hdr, hrun⟩
            | false =>
              have h2 := h2 rfl
              rw [setK_eq] at h2
              obtain ⟨n', ts', ks', hs', hn, htr, hdr, hrun⟩ := ih _ _ _ _ h2
              exact ⟨n', ts', ks', hs', by omega, .refine_ t false hv htr, hdr, hrun⟩
          · exact h.elim
end

theorem revB_eq (l m : List Bool) : revB l m = l.reverse ++ m := by
  induction l generalizing m with
  | nil => rfl
  | cons a l ih => simp [revB, ih]

theorem dstAt_eq (all : List Oper) (j : Nat) : dstAt all j = (all[j]?).bind (·.dst) := by
  induction all generalizing j with
  | nil => rfl
  | cons o l ih => cases j with
    | zero => rfl
    | succ j => simp [dstAt, ih]

section
variable {P : Program} {TT : Nat → Option TI} {B : Bs} {w : World} {β : Env} {fp : Nat → Nat → Prop} {ts : List SV} {ks : List KB} {a : Act} {rd : Option Nat} {n : Nat} {Q : Exit → Act → World → Prop}

theorem Sat.val (h : Sat B w β fp ts ks a) (x : Operand) : Den w (Mx B.X fp) β (val ts x) (a.eval x) := by
  cases x with
  | tmp t =>
    simp only [Go.Eng.val, Act.eval, getT_eq]
    cases hs : ts[t]? with
    | none => exact .any _
    | some s =>
      have hlt : t < a.tmps.size := by rw [h.len]; exact (List.getElem?_eq_some_iff.1 hs).1
      simp only [Option.getD_some]
      have := h.tm t s _ hs (Array.getElem?_eq_getElem hlt)
      simpa [Array.getD, hlt] using this
  | const v =>
    simp only [Go.Eng.val, Act.eval]
    unfold ofConst
    split
    · exact .d (.int _ _)
    · exact .d .tt
    · exact .d .ff
    · rename_i s
      have : (Value.string s) = strV s.data.toList := by
        show Value.string s = .string ⟨s.data.toList.toArray⟩
        simp
      rw [this]
      exact .d (.str _)
    · exact .d (.nil 0 _)
    · exact .v _
  | func f => exact .fn f [] [] rfl (fun j s u hs => by simp at hs)
  | global g => exact .any _

theorem Sat.put (h : Sat B w β fp ts ks a) (d : Option Tmp) {s : SV} {v : Value} (hd : Den w (Mx B.X fp) β s v) : Sat B w β fp (putT d s ts) ks (a.put d v) := by
  cases d with
  | none => exact h
  | some d =>
    refine ⟨h.went, h.df, ?_, fun t s' v' hs hv => ?_⟩
    · simp only [putT, setT_eq, List.length_set]
      simpa [Act.put] using h.len
    · simp only [putT] at hs
      rw [setT_eq, List.getElem?_set] at hs
      have hv : (a.tmps.setIfInBounds d v)[t]? = some v' := hv
      rw [Array.getElem?_setIfInBounds] at hv
      split at hs
      · rename_i e
        subst e
        rw [if_pos rfl] at hv
        split at hs
        · split at hv
          · cases hs; cases hv; exact hd
          · cases hv
        · cases hs
      · rename_i e
        rw [if_neg e] at hv
        exact h.tm t s' v' hs hv

/-- A slot whose bool is known. -/
theorem Sat.refine_ (h : Sat B w β fp ts ks a) (t : Nat) {b : Bool} (ht : getT ts t = .d (.bool b)) : Sat B w β fp (setT ts t (.d (if b then .tt else .ff))) ks a := by
  refine ⟨h.went, h.df, by rw [setT_eq]; simpa using h.len, fun u s' v' hs hv => ?_⟩
  rw [setT_eq, List.getElem?_set] at hs
  split at hs
  · rename_i e
    subst e
    split at hs
    · rename_i hlt
      rw [getT_eq, List.getElem?_eq_getElem hlt] at ht
      have hd := h.tm t _ v' (List.getElem?_eq_getElem hlt) hv
      simp only [Option.getD_some] at ht
      rw [ht] at hd
      cases hs
      cases hd with
      | d hd =>
        cases hd
        cases b
        · exact .d .ff
        · exact .d .tt
    · cases hs
  · exact h.tm u s' v' hs hv

theorem wanted_of (hS : ∀ (t : Nat) (s : SV), getT ts t = s → s ≠ .any → Den w (Mx B.X fp) β s (a.tmps.getD t undef)) {all : List Oper} {o : Oper} {b : Bool} (h : guardOk all ts o = some b) : Region.wanted o (yielded all.toArray a.tmps) = b := by
  unfold guardOk at h
  unfold Region.wanted
  split at h
  · rename_i hg; simp [hg]; simpa using h
  · rename_i j want hg
    split at h
    · cases h
    · rename_i t hd
      rw [dstAt_eq] at hd
      split at h
      · rename_i hv
        have := hS t _ hv (by simp)
        have hv' : a.tmps.getD t undef = .bool true := by
          generalize a.tmps.getD t undef = x at this
          cases this with | d h => cases h; rfl
        have hv2 : a.tmps[t]? = some (.bool true) := by
          cases hq : a.tmps[t]? with
          | none => simp [hq, undef] at hv'
          | some x => simpa [hq] using hv'
        simp [hg, yielded, hd, hv2]
        cases want <;> simp at h <;> subst h <;> rfl
      · rename_i hv
        have := hS t _ hv (by simp)
        have hv' : a.tmps.getD t undef = .bool false := by
          generalize a.tmps.getD t undef = x at this
          cases this with | d h => cases h; rfl
        have hv2 : a.tmps[t]? = some (.bool false) := by
          cases hq : a.tmps[t]? with
          | none => simp [hq, undef] at hv'
          | some x => simpa [hq] using hv'
        simp [hg, yielded, hd, hv2]
        cases want <;> simp at h <;> subst h <;> rfl
      · rename_i z hv
        have := hS t _ hv (by simp)
        have hv' : a.tmps.getD t undef = .tuple z := by
          generalize a.tmps.getD t undef = x at this
          cases this; rfl
        obtain rfl := Option.some.inj h
        cases hq : a.tmps[t]? with
        | none => simp [hg, yielded, hd, hq]
        | some x =>
          have hx : x = .tuple z := by simpa [hq] using hv'
          simp [hg, yielded, hd, hq, hx]
      · cases h

theorem Sat.slot (hS : Sat B w β fp ts ks a) : ∀ (t : Nat) (s : SV), getT ts t = s → s ≠ .any → Den w (Mx B.X fp) β s (a.tmps.getD t undef) := by
  intro t s hs _
  have := hS.val (.tmp t)
  simp only [Go.Eng.val, Act.eval, hs] at this
  exact this
theorem put_defers (a : Act) (d : Option Tmp) (v : Value) : (a.put d v).defers = a.defers := by cases d <;> rfl

theorem nodefer_pev {ts : List SV} {ks : List KB} {op : Op} {K : SV → Prop} (h : pev P TT ts ks op K) : ∀ c, op ≠ .defer c := fun c hc => by rw [hc] at h; exact h

/-- One operation carried out. -/
theorem evs_sound (hTT : TTok P TT) {o : Oper} {h : Bool} {s : SV} {k1 : List KB} {X : Nat → Prop} (hst : Evs P TT ts ks o.op h s k1) (hM : Mem X w β fp ks) (hT : ∀ x, Den w (Mx X fp) β (val ts x) (a.eval x)) {next : Act → World → Prop}
    (hn : ∀ v w' β' fp', Went X w β fp w' β' fp' k1 → Den w' (Mx X fp') β' s v → next (a.put o.dst v) w') : o.wpIn (wideF rd) n P a w next Q := by
  cases hst with
  | pure _ hc hm hev =>
    obtain ⟨s', v, hK, hr, hd⟩ := pev_sound hTT hev hT hM.kb' hM.apart
    subst hK
    exact wpIn_of_run (nodefer_pev hev) hr (hn v w β fp (Went.refl hM) hd)
  | mem _ _ hc hm hev =>
    refine mev_sound hTT hev hM hT (fun s' k' v w' β' fp' hs' hW hden => ?_)
    obtain ⟨rfl, rfl⟩ := Prod.mk.inj hs'
    exact hn v w' β' fp' hW hden
  | app _ hev =>
    obtain ⟨d, v, w', hK, hr, hst, hd⟩ := appD_ok hTT hev hM.mlt hT
    refine wpIn_of_run (fun c hc => ?_) hr (hn v w' β fp (hM.quiet hst) (hK ▸ hd))
    unfold appDK at hev
    rw [hc] at hev
    exact hev
  | call g args tys _ _ _ ho hev =>
    refine cev_sound hTT ho hev hM hT (fun h' s' k' v w' β' fp' hs' hW hden => ?_)
    obtain ⟨rfl, he⟩ := Prod.mk.inj hs'
    obtain ⟨rfl, rfl⟩ := Prod.mk.inj he
    exact hn v w' β' fp' hW hden

/-! ### Other numbers -/

theorem posN_spec {i : Nat} {ρ : List Nat} : ∀ {p q : Nat}, posN i ρ p = some q → ∃ k, q = p + k ∧ ρ[k]? = some i := by
  induction ρ with
  | nil => intro p q h; cases h
  | cons a l ih =>
    intro p q h
    simp only [posN] at h
    split at h
    · rename_i hb
      cases h
      exact ⟨0, rfl, by rw [beq_of hb]; rfl⟩
    · obtain ⟨k, rfl, hk⟩ := ih h
      exact ⟨k + 1, by omega, by simpa using hk⟩
/-- Where the blocks lie, under their new numbers. -/
def renE (ρ : List Nat) (β : Env) : Env := fun k => (ρ[k]?).bind β
def renF (ρ : List Nat) (fp : Nat → Nat → Prop) : Nat → Nat → Prop := fun k b => ∃ i, ρ[k]? = some i ∧ fp i b
theorem renE_at {ρ : List Nat} {β : Env} {i p : Nat} {L : Loc} (h : posN i ρ 0 = some p) (hL : β i = some L) : renE ρ β p = some L := by
  obtain ⟨k, rfl, hk⟩ := posN_spec h
  rw [Nat.zero_add]
  simp [renE, hk, hL]

theorem renL_get (ρ : List Nat) (l : List SV) (j : Nat) : (renL ρ l)[j]? = (l[j]?).map (renV ρ) := by
  induction l generalizing j with
  | nil => simp [renL]
  | cons a l ih => cases j <;> simp [renL, ih]
theorem renL_length (ρ : List Nat) (l : List SV) : (renL ρ l).length = l.length := by
  induction l with
  | nil => rfl
  | cons a l ih => simp [renL, ih]
theorem renM_get (ρ : List Nat) (l : List (List DV × List SV)) (j : Nat) : (renM ρ l)[j]? = (l[j]?).map (fun p => (p.1, renL ρ p.2)) := by
  induction l generalizing j with
  | nil => simp [renM]
  | cons a l ih => obtain ⟨k, v⟩ := a; cases j <;> simp [renM, ih]
theorem renM_length (ρ : List Nat) (l : List (List DV × List SV)) : (renM ρ l).length = l.length := by
  induction l with
  | nil => rfl
  | cons a l ih => obtain ⟨k, v⟩ := a; simp [renM, ih]

theorem renCs_get (ρ : List Nat) (l : List Col) (j : Nat) : (renCs ρ l)[j]? = (l[j]?).map (renC ρ) := by
  induction l generalizing j with
  | nil => simp [renCs]
  | cons a l ih => cases j <;> simp [renCs, ih]
theorem renCs_length (ρ : List Nat) (l : List Col) : (renCs ρ l).length = l.length := by
  induction l with
  | nil => rfl
  | cons a l ih => simp [renCs, ih]
theorem Den.ren {M : Nat → Prop} (ρ : List Nat) {s : SV} {v : Value} (h : Den w M β s v) : Den w M (renE ρ β) (renV ρ s) v := by
  induction h with
  | d h => exact .d h
  | ptr i off L h =>
    simp only [renV]
    split
    · exact .ptr _ _ L (renE_at (by assumption) h)
    · exact .any _
  | aptr i off len ix L h1 h2 h3 =>
    simp only [renV]
    split
    · exact .aptr _ _ _ _ L h1 h2 (renE_at (by assumption) h3)
    · exact .any _
  | dptr cells off ad u h1 h2 h3 h4 => exact .dptr cells off ad u h1 h2 h3 h4
  | allNil i L h h1 =>
    simp only [renV]
    split
    · exact .allNil _ L (renE_at (by assumption) h) h1
    · exact .any _
  | all i L h h1 =>
    simp only [renV]
    split
    · exact .all _ L (renE_at (by assumption) h) h1
    · exact .any _
  | rowNil i L h h1 =>
    simp only [renV]
    split
    · exact .rowNil _ L (renE_at (by assumption) h) h1
    · exact .any _
  | row i lo n off L h h1 h2 h3 =>
    simp only [renV]
    split
    · exact .row _ lo n off L (renE_at (by assumption) h) h1 h2 h3
    · exact .any _
  | cs i off n c L h h1 =>
    simp only [renV]
    split
    · exact .cs _ off n c L (renE_at (by assumption) h) h1
    · exact .any _
  | rptr i j off sz L h h1 =>
    simp only [renV]
    split
    · exact .rptr _ j off sz L (renE_at (by assumption) h) h1
    · exact .any _
  | agg l vs h1 _ h3 ih =>
    refine .agg _ vs (by rw [renL_length]; exact h1) (fun j s u a b => ?_) h3
    rw [renL_get] at a
    cases hl : l[j]? with
    | none => rw [hl] at a; cases a
    | some s0 => rw [hl] at a; cases a; exact ih j s0 u hl b
  | tup l vs h1 _ ih =>
    refine .tup _ vs (by rw [renL_length]; exact h1) (fun j s u a b => ?_)
    rw [renL_get] at a
    cases hl : l[j]? with
    | none => rw [hl] at a; cases a
    | some s0 => rw [hl] at a; cases a; exact ih j s0 u hl b
  | fn f l vs h1 _ ih =>
    refine .fn f _ vs (by rw [renL_length]; exact h1) (fun j s u a b => ?_)
    rw [renL_get] at a
    cases hl : l[j]? with
    | none => rw [hl] at a; cases a
    | some s0 => rw [hl] at a; cases a; exact ih j s0 u hl b
  | map i L h =>
    simp only [renV]
    split
    · exact .map _ L (renE_at (by assumption) h)
    · exact .any _
  | ap i n off L h =>
    simp only [renV]
    split
    · exact .ap _ n off L (renE_at (by assumption) h)
    · exact .any _
  | npNil i =>
    simp only [renV]
    split
    · exact .npNil _
    · exact .any _
  | np i n L h =>
    simp only [renV]
    split
    · exact .np _ n L (renE_at (by assumption) h)
    · exact .any _
  | yl i L h =>
    simp only [renV]
    split
    · exact .yl _ L (renE_at (by assumption) h)
    · exact .any _
  | v x => exact .v x
  | any x => exact .any x

theorem KBat.ren {M : Nat → Prop} (ρ : List Nat) {L : Loc} {f : Nat → Prop} {k : KB} (h : KBat w M β L f k) : KBat w M (renE ρ β) L f (renK ρ k) := by
  cases h with
  | cells t l vs h0 h1 h3 h4 h5 =>
    refine .cells t _ vs h0 h1 (by rw [renL_length]; exact h3) (fun j s u a b => ?_) h5
    rw [renL_get] at a
    cases hl : l[j]? with
    | none => rw [hl] at a; cases a
    | some s0 => rw [hl] at a; cases a; exact (h4 j s0 u hl b).ren ρ
  | rowNil e sz z f h0 h1 h2 h3 h4 => exact .rowNil e sz z f h0 h1 h2 h3 h4
  | row e sz n z f vs fz h0 h1 h2 hn h3 h4 h5 h6 h7 h8 h9 h10 => exact .row e sz n z f vs fz h0 h1 h2 hn h3 h4 h5 h6 h7 h8 h9 h10
  | map eks ka ea l es clock h0 h1 h2 h3 =>
    refine .map eks ka ea _ es clock h0 h1 (by rw [renM_length]; exact h2) (fun j p e hp he => ?_)
    rw [renM_get] at hp
    cases hl : l[j]? with
    | none => rw [hl] at hp; cases hp
    | some p0 =>
      rw [hl] at hp
      cases hp
      obtain ⟨kc, vc, a1, a2, a3, a4, a5, a6, a7, a8, a9, a10, a11⟩ := (h3 j p0 e hl he).ex
      refine ⟨kc, vc, a1, a2, a3, by simp [renL_length, a4], a5, a6, a7, a8, a9, fun q s u hs hu => ?_, a11⟩
      simp only [renL_get] at hs
      cases hq : p0.2[q]? with
      | none => rw [hq] at hs; cases hs
      | some s0 => rw [hq] at hs; cases hs; exact (a10 q s0 u hq hu).ren ρ
  | arena t dom cols h0 h1 h2 =>
    refine .arena t dom _ h0 h1 (fun x hx => ?_)
    obtain ⟨vs, a1, a2, a3, a4⟩ := h2 x hx
    refine ⟨vs, a1, by rw [renCs_length]; exact a2, fun j c u hc hu => ?_, a4⟩
    rw [renCs_get] at hc
    cases hl : cols[j]? with
    | none => rw [hl] at hc; cases hc
    | some c0 =>
      rw [hl] at hc
      cases hc
      have := (a3 j c0 u hl hu).ren ρ
      cases c0 with
      | np i f =>
        simp only [Col.at, renV] at this
        cases hp : posN i ρ 0 with
        | none => rw [hp] at this; simp only [renC, hp, Col.at]; exact this
        | some p => rw [hp] at this; simp only [renC, hp, Col.at]; exact this
      | _ => exact this
  | obj φ h1 h2 => exact .obj φ h1 h2
  | loop l ps asg body st r h0 h1 h2 h3 h4 h5 h6 h7 =>
    refine .loop _ ps asg body st r h0 h1 (by rw [renL_length]; exact h2) (fun j s u a b => ?_) h4 h5 h6 h7
    rw [renL_get] at a
    cases hl : l[j]? with
    | none => rw [hl] at a; cases a
    | some s0 => rw [hl] at a; cases a; exact (h3 j s0 u hl b).ren ρ

theorem okN_spec {m : Nat} {ρ : List Nat} (h : okN m ρ = true) : (∀ (k i : Nat), ρ[k]? = some i → i < m) ∧ ∀ (j k i : Nat), ρ[j]? = some i → ρ[k]? = some i → j = k := by
  induction ρ with
  | nil => exact ⟨fun k i h => by simp at h, fun j k i h => by simp at h⟩
  | cons a l ih =>
    simp only [okN] at h
    split at h
    · rename_i hm hb
      obtain ⟨h1, h2⟩ := ih h
      have hnot := notMem hm
      refine ⟨fun k i hk => ?_, fun j k i hj hk => ?_⟩
      · cases k with
        | zero => simp at hk; subst hk; exact ble_of hb
        | succ k => exact h1 k i (by simpa using hk)
      · cases j <;> cases k
        · rfl
        · simp at hj hk; subst hj; exact absurd (List.mem_of_getElem? hk) hnot
        · simp at hj hk; subst hk; exact absurd (List.mem_of_getElem? hj) hnot
        · rename_i j k
          have := h2 j k i (by simpa using hj) (by simpa using hk)
          omega
    · cases h
theorem keeps_spec {n i : Nat} {ρ : List Nat} (h : keeps n i ρ = true) : ∀ k, k < n → ρ[k]? = some (i + k) := by
  induction n generalizing i ρ with
  | zero => intro k hk; omega
  | succ n ih =>
    cases ρ with
    | nil => simp [keeps] at h
    | cons a l =>
      simp only [keeps] at h
      split at h
      · rename_i hb
        intro k hk
        cases k with
        | zero => simp [beq_of hb]
        | succ k => have := ih h k (by omega); simp [this]; omega
      · cases h
theorem renB_get (ρ : List Nat) (ks : List KB) (l : List Nat) (j : Nat) : (renB ρ ks l)[j]? = (l[j]?).map (fun o => renK ρ (getB ks o)) := by
  induction l generalizing j with
  | nil => simp [renB]
  | cons a l ih => cases j <;> simp [renB, ih]
theorem renB_length (ρ : List Nat) (ks : List KB) (l : List Nat) : (renB ρ ks l).length = l.length := by
  induction l with
  | nil => rfl
  | cons a l ih => simp [renB, ih]

/-- The known blocks under other numbers; the others are forgotten. -/
theorem Went.ren {X : Nat → Prop} {w0 : World} {β0 : Env} {fp0 : Nat → Nat → Prop} {nb : Nat} (h : Went X w0 β0 fp0 w β fp ks) (hnb : ∀ i, nb ≤ i → β0 i = none) (ρ : List Nat) (h1 : okN ks.length ρ = true) (h2 : keeps nb 0 ρ = true) :
    Went X w0 β0 fp0 w (renE ρ β) (renF ρ fp) (renB ρ ks ρ) := by
  obtain ⟨o1, o2⟩ := okN_spec h1
  have hk := keeps_spec h2
  have hM : ∀ b, Mx X (renF ρ fp) b → Mx X fp b := fun b hm => hm.imp id (fun ⟨k, i, _, hb⟩ => ⟨i, hb⟩)
  refine ⟨⟨⟨h.mem.xa, fun k b ⟨i, _, hb⟩ => h.mem.xb i b hb, fun j k b ⟨i, hi, hb⟩ ⟨i', hi', hb'⟩ => ?_, fun k b ⟨i, _, hb⟩ => h.mem.kw i b hb, fun k b ⟨i, hi, hb⟩ => ?_, fun k L kb hkb hne hL => ?_⟩, fun k hk' => ?_, fun k t dom cols hkb => ?_⟩, h.st, fun i L hL => ?_, fun k b ⟨i, _, hb⟩ => h.own i b hb⟩
  · have := h.mem.dis i i' b hb hb'
    subst this
    exact o2 j k i hi hi'
  · obtain ⟨L, hL⟩ := h.mem.kn i b hb
    exact ⟨L, by simp [renE, hi, hL]⟩
  · rw [renB_get] at hkb
    cases hi : ρ[k]? with
    | none => rw [hi] at hkb; cases hkb
    | some i =>
      rw [hi] at hkb
      simp only [Option.map_some] at hkb
      cases hkb
      have hL' : β i = some L := by simpa [renE, hi] using hL
      have hil := o1 k i hi
      have hgi : ks[i]? = some (getB ks i) := by rw [getB_eq, List.getElem?_eq_getElem hil]; rfl
      have hne' : getB ks i ≠ .gone := fun e => by rw [e] at hne; exact hne rfl
      have hb := (h.mem.kb i L _ hgi hne' hL').ren ρ
      have hfp : renF ρ fp k = fp i := by
        funext b
        simp only [renF, hi]
        simp
      rw [hfp]
      exact hb.mono (Step.refl _ _) (fun b _ e => hM b e) (Ext.refl _) (fun _ _ => rfl)
  · rw [renB_length] at hk'
    simp [renE, List.getElem?_eq_none hk']
  · rw [renB_get] at hkb
    cases hi : ρ[k]? with
    | none => rw [hi] at hkb; cases hkb
    | some i =>
      rw [hi] at hkb
      simp only [Option.map_some, Option.some.injEq] at hkb
      have hil := o1 k i hi
      have hgi : ks[i]? = some (getB ks i) := by rw [getB_eq, List.getElem?_eq_getElem hil]; rfl
      generalize getB ks i = kb at hkb hgi
      cases kb <;> simp [renK] at hkb
      obtain ⟨L, hL⟩ := h.mem.ka i _ _ _ hgi
      exact ⟨L, by simp [renE, hi, hL]⟩
  · have hi : i < nb := by
      rcases Nat.lt_or_ge i nb with e | e
      · exact e
      · rw [hnb i e] at hL; cases hL
    have hr := hk i hi
    rw [Nat.zero_add] at hr
    simp [renE, hr, h.ext i L hL]

theorem SubL_length {l m : List SV} (h : SubL l m) : l.length = m.length := by
  induction l generalizing m with
  | nil => cases m with
    | nil => rfl
    | cons => exact h.elim
  | cons a l ih => cases m with
    | nil => exact h.elim
    | cons b m => simp [ih h.2]
theorem SubL_get {l m : List SV} (h : SubL l m) (j : Nat) (s : SV) (hs : m[j]? = some s) : ∃ s0, l[j]? = some s0 ∧ SubV s0 s := by
  induction l generalizing m j with
  | nil => cases m with
    | nil => simp at hs
    | cons => exact h.elim
  | cons a l ih => cases m with
    | nil => exact h.elim
    | cons b m =>
      cases j with
      | zero => simp at hs; subst hs; exact ⟨a, rfl, h.1⟩
      | succ j => exact ih h.2 j (by simpa using hs)
theorem SubV_den {s0 s : SV} (h : SubV s0 s) {v : Value} {M : Nat → Prop} (hd : Den w M β s0 v) : Den w M β s v := by
  unfold SubV at h
  split at h
  · exact .any _
  · split at h
    · obtain ⟨rfl, rfl, rfl⟩ := h
      cases hd with
      | ap _ n _ L hL => exact .np _ n L hL
    · subst h
      cases hd
      exact .npNil _
    · exact h ▸ hd
  · split at h
    · subst h
      cases den_data hd
      exact .d (.bool true)
    · subst h
      cases den_data hd
      exact .d (.bool false)
    · exact h ▸ hd
  · exact h ▸ hd
theorem SubB_length {l m : List KB} (h : SubB l m) : l.length = m.length := by
  induction l generalizing m with
  | nil => cases m with
    | nil => rfl
    | cons => exact h.elim
  | cons a l ih => cases m with
    | nil => exact h.elim
    | cons b m => simp [ih h.2]
theorem SubB_get {l m : List KB} (h : SubB l m) (j : Nat) (k : KB) (hk : m[j]? = some k) : ∃ k0, l[j]? = some k0 ∧ SubK k0 k := by
  induction m generalizing l j with
  | nil => simp at hk
  | cons b m ih => cases l with
    | nil => exact h.elim
    | cons a l =>
      cases j with
      | zero => simp at hk; subst hk; exact ⟨a, rfl, h.1⟩
      | succ j => exact ih h.2 j (by simpa using hk)

theorem SubC_length {dom : Nat → Prop} {l m : List Col} (h : SubC dom l m) : l.length = m.length := by
  induction l generalizing m with
  | nil => cases m with
    | nil => rfl
    | cons => exact h.elim
  | cons a l ih => cases m with
    | nil => exact h.elim
    | cons b m => simp [ih h.2]
theorem SubC_get {dom : Nat → Prop} {l m : List Col} (h : SubC dom l m) (j : Nat) (c : Col) (hc : m[j]? = some c) : ∃ c0, l[j]? = some c0 ∧ ∀ n, dom n → c0.at n = c.at n := by
  induction m generalizing l j with
  | nil => simp at hc
  | cons b m ih => cases l with
    | nil => exact h.elim
    | cons a l =>
      cases j with
      | zero => simp at hc; subst hc; exact ⟨a, rfl, h.1⟩
      | succ j => exact ih h.2 j (by simpa using hc)
theorem SubK_at {M : Nat → Prop} {L : Loc} {f : Nat → Prop} {k0 k : KB} (h : SubK k0 k) (hne : k ≠ .gone) (hb : KBat w M β L f k0) : KBat w M β L f k := by
  unfold SubK at h
  split at h
  · exact absurd rfl hne
  · rename_i t l t' l'
    obtain ⟨rfl, hsl⟩ := h
    cases hb with
    | cells _ _ vs h0 h1 h3 h4 h5 =>
      refine .cells t l' vs h0 h1 (by rw [← SubL_length hsl]; exact h3) (fun j s u hs hu => ?_) h5
      obtain ⟨s0, hs0, hsv⟩ := SubL_get hsl j s hs
      exact SubV_den hsv (h4 j s0 u hs0 hu)
  · rename_i e sz n z f e' sz' n' z' f'
    obtain ⟨rfl, rfl, rfl, hz, hf⟩ := h
    cases hb with
    | rowNil _ _ _ _ h0 h1 h2 h3 h4 => exact .rowNil e sz z' f' h0 h1 h2 h3 (by cases z <;> cases z' <;> simp [SubZ] at hz h4 ⊢)
    | row _ _ _ _ _ vs fz h0 h1 h2 hn h3 h4 h5 h6 h7 h8 h9 h10 =>
      exact .row e sz n z' f' vs fz h0 h1 h2 hn (fun ez => h3 (by subst ez; cases z <;> simp [SubZ] at hz ⊢)) h4 h5 h6 h7 (fun k hk => hf k hk ▸ h8 k hk) (fun k j d u hk hd hu => h9 k j d u hk (by rw [hf k hk]; exact hd) hu) h10
  · obtain ⟨⟨rfl, rfl, rfl⟩, hl⟩ := h
    cases hl
    exact hb
  · rename_i t dom cols t' dom' cols'
    obtain ⟨rfl, hdom, hc⟩ := h
    cases hb with
    | arena _ _ _ h0 h1 h2 =>
      refine .arena t dom' cols' (fun x => (h0 x).trans (hdom _)) (fun e => h1 ((hdom _).2 e)) (fun x hx => ?_)
      obtain ⟨vs, a1, a2, a3, a4⟩ := h2 x ((hdom _).2 hx)
      refine ⟨vs, a1, by rw [a2, SubC_length hc], fun j c u hcj hu => ?_, a4⟩
      obtain ⟨c0, hc0, he⟩ := SubC_get hc j c hcj
      rw [← he _ ((hdom _).2 hx)]
      exact a3 j c0 u hc0 hu
  · rename_i φ φ'
    cases hb with
    | obj _ h1 h2 =>
      obtain ⟨a, b⟩ := h w M L f h2
      exact .obj φ' a b
  · rename_i l ps a b st l' ps' a' b' st'
    obtain ⟨hsl, rfl, rfl, rfl, rfl⟩ := h
    cases hb with
    | loop _ _ _ _ _ r h0 h1 h2 h3 h4 h5 h6 h7 =>
      refine .loop l' ps a b st r h0 h1 (by rw [← SubL_length hsl]; exact h2) (fun j s u hs hu => ?_) h4 h5 h6 h7
      obtain ⟨s0, hs0, hsv⟩ := SubL_get hsl j s hs
      exact SubV_den hsv (h3 j s0 u hs0 hu)
  · exact h.elim

theorem Went.less {X : Nat → Prop} {w0 : World} {β0 : Env} {fp0 : Nat → Nat → Prop} {ks' : List KB} (h : Went X w0 β0 fp0 w β fp ks) (hs : SubB ks ks') : Went X w0 β0 fp0 w β fp ks' := by
  refine ⟨⟨⟨h.mem.xa, h.mem.xb, h.mem.dis, h.mem.kw, h.mem.kn, fun i L k hk hne hL => ?_⟩, fun i hi => h.mem.kl i (by rw [SubB_length hs]; exact hi), fun i t dom cols hi => ?_⟩, h.st, h.ext, h.own⟩
  · obtain ⟨k0, hk0, hsk⟩ := SubB_get hs i k hk
    have hne0 : k0 ≠ .gone := fun e => by
      subst e
      unfold SubK at hsk
      split at hsk
      · exact hne rfl
      all_goals simp_all
    exact SubK_at hsk hne (h.mem.kb i L k0 hk0 hne0 hL)
  · obtain ⟨k0, hk0, hsk⟩ := SubB_get hs i _ hi
    unfold SubK at hsk
    cases k0 <;> simp at hsk
    exact h.mem.ka i _ _ _ hk0

theorem Sat.weaken {nb : Nat} {ρ : List Nat} {ts' : List SV} {ks' : List KB} (h : Sat B w β fp ts ks a) (hnb : ∀ i, nb ≤ i → B.β0 i = none) (hs : Subs nb ρ ts ks ts' ks') : ∃ β' fp', Sat B w β' fp' ts' ks' a := by
  unfold Subs at hs
  split at hs
  · rename_i h1 h2
    rw [lenB_eq] at h1
    obtain ⟨hl, hk⟩ := hs
    have hW := h.went.ren hnb ρ h1 h2
    have hM : ∀ b, Mx B.X (renF ρ fp) b → Mx B.X fp b := fun b hm => hm.imp id (fun ⟨k, i, _, hb⟩ => ⟨i, hb⟩)
    refine ⟨renE ρ β, renF ρ fp, hW.less hk, h.df.mono (Step.refl _ _) (fun b _ e => hM b e), by rw [h.len, ← SubL_length hl, renL_length], fun t s v hs hv => ?_⟩
    obtain ⟨s0, hs0, hsv⟩ := SubL_get hl t s hs
    rw [renL_get] at hs0
    cases hq : ts[t]? with
    | none => rw [hq] at hs0; cases hs0
    | some s1 =>
      rw [hq] at hs0
      cases hs0
      exact SubV_den hsv (((h.tm t s1 v hq hv).mono (Step.refl _ _) (fun b _ e => hM b e) (Ext.refl _)).ren ρ)
  · exact hs.elim

/-! ### A loop -/

/-- The loop's next round, and all that follows. -/
def Again (F : Fence) (n : Nat) (P : Program) (c : Code) (Q : Exit → Act → World → Prop) (a : Act) (w : World) : Prop :=
  ∀ (b : Frame) (k : List Item) (cs : List Frame), b.roundOf = F.round → F.fn b.fn → F.room (cs.length + 1 + n) →
    ∃ e a' w', Q e a' w' ∧ ArrivesIn (Machine.fenced P F) P (lone (b.atR a (.code c :: .inLoop c :: k)) cs w) b k cs e a' w'

theorem wpIn_of_again {F : Fence} {c : Code} (h : Again F n P c Q a w) : (Code.loop c).wpIn F n P Q a w := by
  intro b k cs hro hb hr
  obtain ⟨e, a', w', hq, harr⟩ := h b k cs hro hb hr
  exact ⟨e, a', w', hq, .of_steps (.one (fenced_calm hb hr rfl) stepR_loop) harr⟩

theorem again_round {F : Fence} {c : Code} (h : c.wpIn F n P (Exit.then (fun a' w' => Again F n P c Q a' w') Q) a w) : Again F n P c Q a w := by
  intro b k cs hro hb hr
  obtain ⟨e, a₁, w₁, hq, harr⟩ := h b (.inLoop c :: k) cs hro hb hr
  cases e with
  | normal =>
    obtain ⟨e₂, a₂, w₂, hq₂, harr₂⟩ := hq b k cs hro hb hr
    exact ⟨e₂, a₂, w₂, hq₂, .of_steps (StepsIn.trans harr (.one (fenced_calm hb hr rfl) stepR_inLoop)) harr₂⟩
  | exit id => exact ⟨_, a₁, w₁, hq, .pass (x := .inLoop c) rfl (fun _ _ => .inl (by simp)) harr⟩
  | goto l => exact ⟨_, a₁, w₁, hq, .pass (x := .inLoop c) rfl (fun _ _ => .inl (by simp)) harr⟩
  | ret => exact ⟨_, a₁, w₁, hq, .pass (x := .inLoop c) rfl (fun _ _ => .inl (by simp)) harr⟩
  | panic ch => exact ⟨_, a₁, w₁, hq, .pass (x := .inLoop c) rfl (fun _ _ => .inl (by simp)) harr⟩
  | outgrown => exact ⟨_, a₁, w₁, hq, .pass (x := .inLoop c) rfl (fun _ _ => .inl (by simp)) harr⟩

theorem again_ix {ι : Type} {F : Fence} {c : Code} (Fit : ι → Act → World → Prop) (μ : ι → Nat) (i : ι) (h₀ : Fit i a w)
    (round : ∀ i a w, Fit i a w → c.wpIn F n P (Exit.then (fun a' w' => ∃ j, Fit j a' w' ∧ μ j < μ i) Q) a w) : Again F n P c Q a w := by
  have key : ∀ m i a w, μ i = m → Fit i a w → Again F n P c Q a w := by
    intro m
    induction m using Nat.strongRecOn with
    | _ m ih =>
      intro i a w hn hI
      refine again_round (wpIn_mono (round i a w hI) (fun e a1 w1 he => ?_))
      cases e with
      | normal =>
        obtain ⟨j, hI₁, hlt⟩ := he
        exact ih (μ j) (hn ▸ hlt) j a1 w1 rfl hI₁
      | _ => exact he
  exact key _ i a w rfl h₀

end
end Go.Eng
