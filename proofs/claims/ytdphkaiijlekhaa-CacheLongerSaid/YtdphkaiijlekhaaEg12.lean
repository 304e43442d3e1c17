/-
  The engine, part 12: what is known of a memory, behind a new block, a store, a row that becomes data.
-/
import Derived.Test.YtdphkaiijlekhaaEg11
namespace Go.Eng
open Go Go.RowKit

def updP (f : Nat → Nat → Prop) (i : Nat) (p : Nat → Prop) : Nat → Nat → Prop := fun j => if j = i then p else f j
theorem updP_same (f : Nat → Nat → Prop) (i : Nat) (p : Nat → Prop) : updP f i p i = p := by simp [updP]
theorem updP_other (f : Nat → Nat → Prop) {i j : Nat} (p : Nat → Prop) (h : j ≠ i) : updP f i p j = f j := by simp [updP, h]

section
variable {X : Nat → Prop} {w w' : World} {β β' : Env} {fp fp' : Nat → Nat → Prop} {ks ks' : List KB}

theorem Mem0.mlt (h : Mem0 X w β fp ks) : ∀ b, Mx X fp b → b < w.heap.size := by
  rintro b (hx | ⟨i, hi⟩)
  · exact h.xa b hx
  · exact h.kw i b hi
theorem Mem0.kb' (h : Mem0 X w β fp ks) : ∀ (i : Nat) (L : Loc) (k : KB), ks[i]? = some k → k ≠ .gone → β i = some L → ∃ fp', KBat w (Mx X fp) β L fp' k := fun i L k hk hne hL =>
  ⟨_, h.kb i L k hk hne hL⟩
theorem Mem0.at (h : Mem0 X w β fp ks) {i : Nat} {k : KB} (hk : ks[i]? = some k) (hne : k ≠ .gone) {L : Loc} (hL : β i = some L) : KBat w (Mx X fp) β L (fp i) k := h.kb i L k hk hne hL
theorem Mem.out (h : Mem X w β fp ks) {i : Nat} (hi : ks.length ≤ i) : ∀ b, ¬ fp i b := fun b hb => by
  obtain ⟨L, hL⟩ := h.kn i b hb
  rw [h.kl i hi] at hL
  cases hL
theorem Mem0.apart (h : Mem0 X w β fp ks) : Apart β ks := fun i j L L' t t' l l' hne hi hj hL hL' e => by
  have h1 := h.at hi (by simp) hL
  have h2 := h.at hj (by simp) hL'
  cases h1 with
  | cells _ _ _ f1 =>
  cases h2 with
  | cells _ _ _ f2 => exact hne (h.dis i j L.b ((f1 _).2 rfl) ((f2 _).2 e))

/-- A memory that changes. -/
theorem Mem.go (h : Mem X w β fp ks) (hst : Step (fun b => ∃ i, fp i b) w w') (hext : Ext β β') (hown : ∀ i b, fp' i b → (∃ j, fp j b) ∨ w.heap.size ≤ b)
    (hdis : ∀ i j b, fp' i b → fp' j b → i = j) (hkw : ∀ i b, fp' i b → b < w'.heap.size) (hkl : ∀ i, ks'.length ≤ i → β' i = none) (hka : ∀ i t dom cols, ks'[i]? = some (.arena t dom cols) → ∃ L, β' i = some L) (hkn : ∀ i b, fp' i b → ∃ L, β' i = some L)
    (hkb : ∀ (i : Nat) (L : Loc) (k : KB), ks'[i]? = some k → k ≠ .gone → β' i = some L → (ks[i]? = some k ∧ β i = some L ∧ fp' i = fp i ∧ ∀ b, fp i b → w'.heap[b]? = w.heap[b]?) ∨ KBat w' (Mx X fp') β' L (fp' i) k) : Went X w β fp w' β' fp' ks' := by
  have hM : ∀ b, b < w.heap.size → Mx X fp' b → Mx X fp b := fun b hb hm => hm.imp id (fun ⟨i, hi⟩ => (hown i b hi).elim id (fun e => by omega))
  refine ⟨⟨⟨fun b hb => Nat.lt_of_lt_of_le (h.xa b hb) hst.size, fun i b hi hx => (hown i b hi).elim (fun ⟨j, hj⟩ => h.xb j b hj hx) (fun e => by have := h.xa b hx; omega), hdis, hkw, hkn, fun i L k hk hne hL => ?_⟩, hkl, hka⟩, hst, hext, hown⟩
  rcases hkb i L k hk hne hL with ⟨h1, hL0, h2, h3⟩ | h1
  · have hb := h.kb i L k h1 hne hL0
    rw [h2]
    exact hb.mono (hst.mono (fun _ _ e => .inr e)) hM hext h3
  · exact h1

theorem ext_upd {β : Env} {n : Nat} (L : Loc) (h : β n = none) : Ext β (upd β n (some L)) := fun i L' e => by
  by_cases hi : i = n
  · subst hi; rw [h] at e; cases e
  · rw [upd_other _ _ hi]; exact e

theorem Mem.ka_add (h : Mem X w β fp ks) (k : KB) (L : Loc) : ∀ i t dom cols, (ks ++ [k])[i]? = some (.arena t dom cols) → ∃ L', upd β ks.length (some L) i = some L' := fun i t dom cols hi => by
  by_cases e : i = ks.length
  · subst e; exact ⟨L, upd_same _ _ _⟩
  · have hlt : i < ks.length := by
      have := (List.getElem?_eq_some_iff.1 hi).1
      simp at this
      omega
    rw [List.getElem?_append_left hlt] at hi
    rw [upd_other _ _ e]
    exact h.ka i t dom cols hi
theorem Mem.ka_set (h : Mem X w β fp ks) {i : Nat} {L : Loc} (hL : β i = some L) (k : KB) : ∀ j t dom cols, (ks.set i k)[j]? = some (.arena t dom cols) → ∃ L', β j = some L' := fun j t dom cols hj => by
  rw [List.getElem?_set] at hj
  split at hj
  · rename_i e; subst e; exact ⟨L, hL⟩
  · exact h.ka j t dom cols hj
/-- A new block, known from now on. -/
theorem Mem.alloc (h : Mem X w β fp ks) (o : Obj) (L : Loc) (k : KB) (hL : L.b = w.heap.size)
    (hk : KBat (w.alloc o) (Mx X (updP fp ks.length (· = w.heap.size))) (upd β ks.length (some L)) L (· = w.heap.size) k) :
    Went X w β fp (w.alloc o) (upd β ks.length (some L)) (updP fp ks.length (· = w.heap.size)) (ks ++ [k]) := by
  have hn := h.kl ks.length (Nat.le_refl _)
  refine h.go (Step.alloc _ w o) (ext_upd L hn) (fun i b hb => ?_) (fun i j b hi hj => ?_) (fun i b hb => ?_) (fun i hi => ?_) (h.ka_add k L) (fun i b hb => ?_) (fun i L' k' hk' hne hL' => ?_)
  · by_cases hi : i = ks.length
    · subst hi; rw [updP_same] at hb; exact .inr (by omega)
    · rw [updP_other _ _ hi] at hb; exact .inl ⟨i, hb⟩
  · by_cases h1 : i = ks.length <;> by_cases h2 : j = ks.length
    · omega
    · subst h1; rw [updP_same] at hi; rw [updP_other _ _ h2] at hj; have := h.kw j b hj; omega
    · subst h2; rw [updP_same] at hj; rw [updP_other _ _ h1] at hi; have := h.kw i b hi; omega
    · rw [updP_other _ _ h1] at hi; rw [updP_other _ _ h2] at hj; exact h.dis i j b hi hj
  · by_cases hi : i = ks.length
    · subst hi; rw [updP_same] at hb; subst hb; simp
    · rw [updP_other _ _ hi] at hb; have := h.kw i b hb; simp; omega
  · have hi' : i ≠ ks.length := by simp at hi; omega
    rw [upd_other _ _ hi']
    exact h.kl i (by simp at hi; omega)
  · by_cases hi : i = ks.length
    · subst hi; exact ⟨L, upd_same _ _ _⟩
    · rw [updP_other _ _ hi] at hb; rw [upd_other _ _ hi]; exact h.kn i b hb
  · by_cases hi : i = ks.length
    · subst hi
      rw [List.getElem?_append_right (Nat.le_refl _)] at hk'
      simp at hk'
      subst hk'
      rw [upd_same] at hL'
      cases hL'
      exact .inr (by rw [updP_same]; exact hk)
    · have hlt : i < ks.length := by
        have := (List.getElem?_eq_some_iff.1 hk').1
        simp at this
        omega
      rw [List.getElem?_append_left hlt] at hk'
      rw [upd_other _ _ hi] at hL'
      exact .inl ⟨hk', hL', updP_other _ _ hi, fun b hb => Below.heap_alloc w o b (h.kw i b hb)⟩

/-- A known block written anew. -/
theorem Mem.set (h : Mem X w β fp ks) {i : Nat} {L : Loc} (k : KB) (o : Obj) (hi : i < ks.length) (hL : β i = some L) (hfp : ∀ x, fp i x ↔ x = L.b)
    (hk : KBat (World.setBlock w L.b o) (Mx X fp) β L (fp i) k) : Went X w β fp (World.setBlock w L.b o) β fp (ks.set i k) := by
  refine h.go (Step.setBlock w ⟨i, (hfp _).2 rfl⟩ o) (Ext.refl _) (fun j b hb => .inl ⟨j, hb⟩) h.dis (fun j b hb => by simpa [World.setBlock] using h.kw j b hb) (fun j hj => h.kl j (by simpa using hj)) (h.ka_set hL k) h.kn (fun j L' k' hk' hne hL' => ?_)
  rw [List.getElem?_set] at hk'
  by_cases e : i = j
  · subst e
    rw [if_pos rfl, if_pos hi] at hk'
    cases hk'
    obtain rfl : L = L' := Option.some.inj (hL.symm.trans hL')
    exact .inr hk
  · rw [if_neg e] at hk'
    exact .inl ⟨hk', hL', rfl, fun b hb => setBlock_other w L.b b o (fun eb => e (h.dis i j b ((hfp b).2 eb) hb))⟩

theorem Mem.drew (h : Mem X w β fp ks) : Went X w β fp w.drew β fp ks :=
  h.go (Step.drew _ w) (Ext.refl _) (fun i b hb => .inl ⟨i, hb⟩) h.dis h.kw h.kl h.ka h.kn (fun i L k hk _ hL => .inl ⟨hk, hL, rfl, fun _ _ => rfl⟩)

/-- Known blocks given up. -/
def fpGone (fr : List Nat) (fp : Nat → Nat → Prop) : Nat → Nat → Prop := fun i b => i ∉ fr ∧ fp i b
theorem goneL_get (fr : List Nat) (ks : List KB) (i : Nat) (k : KB) (h : (goneL fr ks)[i]? = some k) (hne : k ≠ .gone) : i ∉ fr ∧ ks[i]? = some k := by
  induction fr generalizing ks with
  | nil => exact ⟨by simp, h⟩
  | cons j fr ih =>
    simp only [goneL] at h
    obtain ⟨h1, h2⟩ := ih _ h
    rw [setB_eq, List.getElem?_set] at h2
    split at h2
    · split at h2
      · cases h2; exact absurd rfl hne
      · cases h2
    · rename_i e
      exact ⟨by simp [h1, Ne.symm e], h2⟩
theorem goneL_length (fr : List Nat) (ks : List KB) : (goneL fr ks).length = ks.length := by
  induction fr generalizing ks with
  | nil => rfl
  | cons j fr ih => simp only [goneL]; rw [ih, setB_eq, List.length_set]
theorem Mem.gone (h : Mem X w β fp ks) (fr : List Nat) : Went X w β fp w β (fpGone fr fp) (goneL fr ks) := by
  refine h.go (Step.refl _ _) (Ext.refl _) (fun i b hb => .inl ⟨i, hb.2⟩) (fun i j b hi hj => h.dis i j b hi.2 hj.2) (fun i b hb => h.kw i b hb.2) (fun i hi => ?_) (fun i t dom cols hi => h.ka i t dom cols (goneL_get fr ks i _ hi (by simp)).2) (fun i b hb => h.kn i b hb.2) (fun i L k hk hne hL => ?_)
  · rw [goneL_length] at hi
    exact h.kl i hi
  · obtain ⟨h1, h2⟩ := goneL_get fr ks i k hk hne
    exact .inl ⟨h2, hL, by funext b; simp [fpGone, h1], fun _ _ => rfl⟩
theorem Mem0.goneM (h : Mem0 X w β fp ks) (fr : List Nat) : ∀ b, Mx X (fpGone fr fp) b → Mx X fp b := fun _ hm => hm.imp id (fun ⟨i, hi⟩ => ⟨i, hi.2⟩)
theorem Mem0.goneOut (h : Mem0 X w β fp ks) {fr : List Nat} {i b : Nat} (hi : i ∈ fr) (hb : fp i b) : ¬ Mx X (fpGone fr fp) b := by
  rintro (hx | ⟨j, hj, hjb⟩)
  · exact h.xb i b hb hx
  · exact hj (h.dis i j b hb hjb ▸ hi)

/-- A row that goes on under another number: block b, whatever became of it, was the row's. -/
theorem Mem.again (h : Mem X w β fp ks) {i : Nat} {L L' : Loc} (k : KB) (o : Obj) (hi : i < ks.length) (hL : β i = some L) (hfp : ∀ x, fp i x ↔ x = L.b) (hL' : L'.b = L.b)
    (hk : KBat (World.setBlock w L.b o) (Mx X (updP (updP fp i (fun _ => False)) ks.length (· = L.b))) (upd β ks.length (some L')) L' (· = L.b) k) :
    Went X w β fp (World.setBlock w L.b o) (upd β ks.length (some L')) (updP (updP fp i (fun _ => False)) ks.length (· = L.b)) (ks.set i .gone ++ [k]) := by
  have hn := h.kl ks.length (Nat.le_refl _)
  have hin : i ≠ ks.length := by omega
  refine h.go (Step.setBlock w ⟨i, (hfp _).2 rfl⟩ o) (ext_upd L' hn) (fun j b hb => ?_) (fun p q b hp hq => ?_) (fun j b hb => ?_) (fun j hj => ?_) (fun j t dom cols hj => ?_) (fun j b hb => ?_) (fun j L2 k' hk' hne hL2 => ?_)
  · by_cases hj : j = ks.length
    · subst hj; rw [updP_same] at hb; exact .inl ⟨i, (hfp b).2 hb⟩
    · rw [updP_other _ _ hj] at hb
      by_cases e : j = i
      · subst e; rw [updP_same] at hb; exact hb.elim
      · rw [updP_other _ _ e] at hb; exact .inl ⟨j, hb⟩
  · have key : ∀ j, updP (updP fp i (fun _ => False)) ks.length (· = L.b) j b → (j = ks.length ∧ b = L.b) ∨ (j ≠ ks.length ∧ j ≠ i ∧ fp j b) := fun j hj => by
      by_cases h1 : j = ks.length
      · subst h1; rw [updP_same] at hj; exact .inl ⟨rfl, hj⟩
      · rw [updP_other _ _ h1] at hj
        by_cases e : j = i
        · subst e; rw [updP_same] at hj; exact hj.elim
        · rw [updP_other _ _ e] at hj; exact .inr ⟨h1, e, hj⟩
    rcases key p hp with ⟨a1, a2⟩ | ⟨a1, a2, a3⟩ <;> rcases key q hq with ⟨b1, b2⟩ | ⟨b1, b2, b3⟩
    · omega
    · exact absurd (h.dis q i b b3 ((hfp b).2 a2)) b2
    · exact absurd (h.dis p i b a3 ((hfp b).2 b2)) a2
    · exact h.dis p q b a3 b3
  · by_cases hj : j = ks.length
    · subst hj; rw [updP_same] at hb; subst hb; simpa [World.setBlock] using h.kw i L.b ((hfp _).2 rfl)
    · rw [updP_other _ _ hj] at hb
      by_cases e : j = i
      · subst e; rw [updP_same] at hb; exact hb.elim
      · rw [updP_other _ _ e] at hb; simpa [World.setBlock] using h.kw j b hb
  · simp at hj
    have hj' : j ≠ ks.length := by omega
    rw [upd_other _ _ hj']
    exact h.kl j (by omega)
  · by_cases e : j = ks.length
    · subst e; exact ⟨L', upd_same _ _ _⟩
    · have hlt : j < ks.length := by
        have := (List.getElem?_eq_some_iff.1 hj).1
        simp at this
        omega
      rw [List.getElem?_append_left (by simpa using hlt)] at hj
      rw [upd_other _ _ e]
      exact h.ka_set hL .gone j t dom cols hj
  · by_cases hj : j = ks.length
    · subst hj; exact ⟨L', upd_same _ _ _⟩
    · rw [updP_other _ _ hj] at hb
      rw [upd_other _ _ hj]
      by_cases e : j = i
      · subst e; exact ⟨L, hL⟩
      · rw [updP_other _ _ e] at hb; exact h.kn j b hb
  · by_cases hj : j = ks.length
    · subst hj
      rw [List.getElem?_append_right (by simp)] at hk'
      simp at hk'
      subst hk'
      rw [upd_same] at hL2
      cases hL2
      exact .inr (by rw [updP_same]; exact hk)
    · have hlt : j < ks.length := by
        have := (List.getElem?_eq_some_iff.1 hk').1
        simp at this
        omega
      rw [List.getElem?_append_left (by simpa using hlt), List.getElem?_set] at hk'
      by_cases e : i = j
      · subst e
        rw [if_pos rfl, if_pos hi] at hk'
        cases hk'
        exact absurd rfl hne
      · rw [if_neg e] at hk'
        rw [upd_other _ _ hj] at hL2
        refine .inl ⟨hk', hL2, by rw [updP_other _ _ hj, updP_other _ _ (Ne.symm e)], fun b hb => setBlock_other w L.b b o (fun eb => e (h.dis i j b ((hfp b).2 eb) hb))⟩

/-- An empty nil slice, taken as a row. -/
theorem Mem.nilRow (h : Mem X w β fp ks) (e : TypeId) (sz : Nat) (z : Z) (hz : z ≠ .no) (f : Nat → List DV) :
    Went X w β fp w (upd β ks.length (some ⟨0, 0, 0, sz, true⟩)) fp (ks ++ [.row e sz 0 z f]) := by
  have hn := h.kl ks.length (Nat.le_refl _)
  refine h.go (Step.refl _ _) (ext_upd _ hn) (fun i b hb => .inl ⟨i, hb⟩) h.dis h.kw (fun i hi => ?_) (h.ka_add _ _) (fun i b hb => ?_) (fun i L' k' hk' hne hL' => ?_)
  · simp at hi
    rw [upd_other _ _ (show i ≠ ks.length by omega)]
    exact h.kl i (by omega)
  · obtain ⟨L, hL⟩ := h.kn i b hb
    exact ⟨L, ext_upd _ hn i L hL⟩
  · by_cases hi : i = ks.length
    · subst hi
      rw [List.getElem?_append_right (Nat.le_refl _)] at hk'
      simp at hk'
      subst hk'
      rw [upd_same] at hL'
      cases hL'
      exact .inr (.rowNil e sz z f (h.out (Nat.le_refl _)) rfl rfl rfl hz)
    · have hlt : i < ks.length := by
        have := (List.getElem?_eq_some_iff.1 hk').1
        simp at this
        omega
      rw [List.getElem?_append_left hlt] at hk'
      rw [upd_other _ _ hi] at hL'
      exact .inl ⟨hk', hL', rfl, fun _ _ => rfl⟩

/-- One block of a family written anew. -/
theorem Mem.setArena (h : Mem X w β fp ks) {i n : Nat} {L : Loc} {t : TypeId} {dom : Nat → Prop} {cols : List Col} (hki : ks[i]? = some (.arena t dom cols)) (hL : β i = some L) (hn : dom (n + 1)) (cols' : List Col) (vs' : Array Value) (hl : vs'.size = cols'.length)
    (hd : ∀ (j : Nat) (c : Col) (u : Value), cols'[j]? = some c → vs'[j]? = some u → Den w (Mx X fp) β (c.at (n + 1)) u) (h1 : ∀ (j : Nat) (u : Value), vs'[j]? = some u → u.oneCell' = true)
    (hlen : cols'.length = cols.length) (hsame : ∀ (j : Nat) (c c' : Col) (m : Nat), cols[j]? = some c → cols'[j]? = some c' → m ≠ n + 1 → ∀ (w : World) (M : Nat → Prop) (u : Value), Den w M β (c.at m) u → Den w M β (c'.at m) u) :
    Went X w β fp (World.setBlock w n (.cells vs' t (0, 0))) β fp (ks.set i (.arena t dom cols')) := by
  have hil : i < ks.length := (List.getElem?_eq_some_iff.1 hki).1
  have hb := h.at hki (by simp) hL
  cases hb with
  | arena _ _ _ hfp h0 hall =>
    have hst : Step (fun b => ∃ i, fp i b) w (World.setBlock w n (.cells vs' t (0, 0))) := Step.setBlock w ⟨i, (hfp n).2 hn⟩ _
    have hst' := hst.mono (M' := Mx X fp) (fun _ _ e => .inr e)
    obtain ⟨_, hbn, _⟩ := hall n hn
    refine h.go hst (Ext.refl _) (fun j b hb => .inl ⟨j, hb⟩) h.dis (fun j b hb => by simpa [World.setBlock] using h.kw j b hb) (fun j hj => h.kl j (by simpa using hj)) (h.ka_set hL _) h.kn (fun j L' k' hk' hne hL' => ?_)
    rw [List.getElem?_set] at hk'
    by_cases e : i = j
    · subst e
      rw [if_pos rfl, if_pos hil] at hk'
      cases hk'
      refine .inr (.arena t dom cols' hfp h0 (fun x hx => ?_))
      by_cases hxn : x = n
      · subst hxn
        exact ⟨vs', setBlock_same _ _ _ (lt_of_block hbn), hl, fun j c u hc hu => (hd j c u hc hu).mono hst' (fun _ _ e => e) (Ext.refl _), h1⟩
      · obtain ⟨vs, a1, a2, a3, a4⟩ := hall x hx
        refine ⟨vs, (setBlock_other _ _ _ _ hxn).trans a1, by rw [a2, hlen], fun j c u hc hu => ?_, a4⟩
        have hj : j < cols.length := by rw [← hlen]; exact (List.getElem?_eq_some_iff.1 hc).1
        have hcj := List.getElem?_eq_getElem hj
        exact hsame j _ c (x + 1) hcj hc (by omega) _ _ u ((a3 j _ u hcj hu).mono hst' (fun _ _ e => e) (Ext.refl _))
    · rw [if_neg e] at hk'
      exact .inl ⟨hk', hL', rfl, fun b hb => setBlock_other w n b _ (fun eb => e (h.dis i j b ((hfp b).2 (by rw [eb]; exact hn)) hb))⟩

/-- A family without blocks. -/
theorem Mem.newArena (h : Mem X w β fp ks) (t : TypeId) (cols : List Col) : Went X w β fp w (upd β ks.length (some ⟨0, 0, 0, 0, false⟩)) fp (ks ++ [.arena t (fun _ => False) cols]) := by
  have hn := h.kl ks.length (Nat.le_refl _)
  refine h.go (Step.refl _ _) (ext_upd _ hn) (fun i b hb => .inl ⟨i, hb⟩) h.dis h.kw (fun i hi => ?_) (h.ka_add _ _) (fun i b hb => ?_) (fun i L' k' hk' hne hL' => ?_)
  · simp at hi
    rw [upd_other _ _ (show i ≠ ks.length by omega)]
    exact h.kl i (by omega)
  · obtain ⟨L, hL⟩ := h.kn i b hb
    exact ⟨L, ext_upd _ hn i L hL⟩
  · by_cases hi : i = ks.length
    · subst hi
      rw [List.getElem?_append_right (Nat.le_refl _)] at hk'
      simp at hk'
      subst hk'
      exact .inr (.arena t _ cols (fun x => ⟨fun e => absurd e (h.out (Nat.le_refl _) x), fun e => e.elim⟩) (fun e => e) (fun x e => e.elim))
    · have hlt : i < ks.length := by
        have := (List.getElem?_eq_some_iff.1 hk').1
        simp at this
        omega
      rw [List.getElem?_append_left hlt] at hk'
      rw [upd_other _ _ hi] at hL'
      exact .inl ⟨hk', hL', rfl, fun _ _ => rfl⟩

end
end Go.Eng
