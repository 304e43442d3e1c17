/-
  What stable sorting by merging in place does to the places of elements. Plain lemmas. Of texts those that are the first of their folded text, in the order of these. Plain lemmas. slices.swapRangeCmpFunc, rotateCmpFunc at ints: what they do to a row of places. Conditions: the places lie within the row. slices.insertionSortCmpFunc at ints. Conditions: the comparison tells weakly apart, and changes nothing. slices.symMergeCmpFunc at ints. Conditions: the comparison tells weakly apart, and changes nothing. slices.stableCmpFunc, SortStableFunc at ints. Conditions: the comparison tells weakly apart, and changes nothing. slices.CompactFunc at ints. Conditions: the comparison tells of equal folded texts, and changes nothing.
-/
import Derived.Test.YtdphkaiijlekhaaB1
import Derived.Test.YtdphkaiijlekhaaM4
set_option linter.unusedVariables false
set_option linter.unusedSimpArgs false
namespace Go.Proofs.Ytdphkaiijlekhaa
/-- The stretch from a to b turned, so that its part from m on comes first. -/
def rot {α : Type} (p : Nat → α) (a m b : Nat) : Nat → α := fun x => if a ≤ x ∧ x < a + (b - m) then p (x + (m - a)) else if a + (b - m) ≤ x ∧ x < b then p (x - (b - m)) else p x
/-- n elements from a on and n from b on, changed with each other. -/
def swp {α : Type} (p : Nat → α) (a b n : Nat) : Nat → α := fun x => if a ≤ x ∧ x < a + n then p (x + (b - a)) else if b ≤ x ∧ x < b + n then p (x - (b - a)) else p x
theorem rot_id1 {α : Type} (p : Nat → α) (a b : Nat) (h : a ≤ b) : rot p a a b = p := by
  funext x; unfold rot; (try dsimp only); repeat' split
  all_goals first | rfl | (exfalso; omega) | (congr 1; omega)
theorem rot_id2 {α : Type} (p : Nat → α) (a b : Nat) (h : a ≤ b) : rot p a b b = p := by
  funext x; unfold rot; (try dsimp only); repeat' split
  all_goals first | rfl | (exfalso; omega) | (congr 1; omega)
theorem swp_zero {α : Type} (p : Nat → α) (a b : Nat) : swp p a b 0 = p := by
  funext x; unfold swp; (try dsimp only); repeat' split
  all_goals first | rfl | (exfalso; omega)
theorem rot_left {α : Type} (p : Nat → α) (m i j : Nat) (hi : j < i) (him : i ≤ m) : rot (swp p (m - i) m j) (m - (i - j)) m (m + j) = rot p (m - i) m (m + j) := by
  funext x; unfold rot swp; try dsimp only
  repeat' split
  all_goals first | rfl | (exfalso; omega) | (congr 1; omega)
theorem rot_right {α : Type} (p : Nat → α) (m i j : Nat) (hi : i < j) (him : i ≤ m) : rot (swp p (m - i) (m + j - i) i) (m - i) m (m + (j - i)) = rot p (m - i) m (m + j) := by
  funext x; unfold rot swp; try dsimp only
  repeat' split
  all_goals first | rfl | (exfalso; omega) | (congr 1; omega)
theorem rot_same {α : Type} (p : Nat → α) (m i : Nat) (him : i ≤ m) : swp p (m - i) m i = rot p (m - i) m (m + i) := by
  funext x; unfold rot swp; try dsimp only
  repeat' split
  all_goals first | rfl | (exfalso; omega) | (congr 1; omega)
theorem swp_one {α : Type} (p : Nat → α) (a b n : Nat) (hb : a + n < b) : swp (swp p a b n) (a + n) (b + n) 1 = swp p a b (n + 1) := by
  funext x; unfold swp; try dsimp only
  repeat' split
  all_goals first | rfl | (exfalso; omega) | (congr 1; omega)
/-- An element goes up one place after another. -/
theorem rot_up {α : Type} (p : Nat → α) (a k : Nat) (h : a ≤ k) : swp (rot p a (a + 1) (k + 1)) k (k + 1) 1 = rot p a (a + 1) (k + 2) := by
  funext x; unfold rot swp; try dsimp only
  repeat' split
  all_goals first | rfl | (exfalso; omega) | (congr 1; omega)
theorem rot_down {α : Type} (p : Nat → α) (m k : Nat) (h : k + 1 ≤ m) : swp (rot p (k + 1) m (m + 1)) k (k + 1) 1 = rot p k m (m + 1) := by
  funext x; unfold rot swp; try dsimp only
  repeat' split
  all_goals first | rfl | (exfalso; omega) | (congr 1; omega)
theorem rot_comp {α β : Type} (v : α → β) (p : Nat → α) (a m b : Nat) : (fun x => v (rot p a m b x)) = rot (fun x => v (p x)) a m b := by
  funext x; unfold rot; (try dsimp only); repeat' split
  all_goals rfl

/-- Places below n, none twice. -/
structure Inj (n : Nat) (p : Nat → Nat) : Prop where
  lt : ∀ i, i < n → p i < n
  un : ∀ i j, i < n → j < n → p i = p j → i = j
theorem Inj.surj : ∀ {n : Nat} {p : Nat → Nat}, Inj n p → ∀ j, j < n → ∃ i, i < n ∧ p i = j
  | 0, _, _ => fun j h => absurd h (by omega)
  | n + 1, p, h => fun j hj => by
    have ih := Inj.surj (n := n) (p := fun i => if p i = n then p n else p i) ⟨fun i hi => by
      have := h.lt i (by omega)
      have := h.lt n (by omega)
      show (if p i = n then p n else p i) < n
      split
      · rename_i e
        rcases Nat.lt_or_ge (p n) n with hl | hl
        · exact hl
        · have := h.un i n (by omega) (by omega) (by omega)
          omega
      · omega, fun i k hi hk e => by
      have e : (if p i = n then p n else p i) = (if p k = n then p n else p k) := e
      split at e <;> split at e
      · exact h.un i k (by omega) (by omega) (by omega)
      · have := h.un n k (by omega) (by omega) e
        omega
      · have := h.un i n (by omega) (by omega) e
        omega
      · exact h.un i k (by omega) (by omega) e⟩
    rcases Nat.lt_or_ge j n with hl | hl
    · obtain ⟨i, hi, e⟩ := ih j hl
      have e : (if p i = n then p n else p i) = j := e
      split at e
      · exact ⟨n, by omega, e⟩
      · exact ⟨i, by omega, e⟩
    · have hj : j = n := by omega
      subst hj
      rcases Nat.lt_or_ge (p j) j with hl | hl
      · obtain ⟨i, hi, e⟩ := ih (p j) hl
        have e : (if p i = j then p j else p i) = p j := e
        split at e
        · rename_i e2; exact ⟨i, by omega, e2⟩
        · have := h.un i j (by omega) (by omega) e
          omega
      · have := h.lt j (by omega)
        exact ⟨j, by omega, by omega⟩
/-- The same places in the stretch from a to b, and nothing else changed. -/
structure Same (p q : Nat → Nat) (a b : Nat) : Prop where
  out : ∀ i, ¬ (a ≤ i ∧ i < b) → q i = p i
  fwd : ∀ i, a ≤ i → i < b → ∃ j, a ≤ j ∧ j < b ∧ q i = p j
  bwd : ∀ i, a ≤ i → i < b → ∃ j, a ≤ j ∧ j < b ∧ p i = q j
theorem Same.refl (p : Nat → Nat) (a b : Nat) : Same p p a b := ⟨fun _ _ => rfl, fun i h1 h2 => ⟨i, h1, h2, rfl⟩, fun i h1 h2 => ⟨i, h1, h2, rfl⟩⟩
theorem Same.trans {p q r : Nat → Nat} {a b : Nat} (h : Same p q a b) (k : Same q r a b) : Same p r a b :=
  ⟨fun i hi => (k.out i hi).trans (h.out i hi), fun i h1 h2 => by
    obtain ⟨j, a1, a2, a3⟩ := k.fwd i h1 h2
    obtain ⟨l, b1, b2, b3⟩ := h.fwd j a1 a2
    exact ⟨l, b1, b2, a3.trans b3⟩, fun i h1 h2 => by
    obtain ⟨j, a1, a2, a3⟩ := h.bwd i h1 h2
    obtain ⟨l, b1, b2, b3⟩ := k.bwd j a1 a2
    exact ⟨l, b1, b2, a3.trans b3⟩⟩
theorem Same.wide {p q : Nat → Nat} {a b a' b' : Nat} (h : Same p q a b) (ha : a' ≤ a) (hb : b ≤ b') : Same p q a' b' :=
  ⟨fun i hi => h.out i (fun e => hi (by omega)), fun i h1 h2 => by
    by_cases hi : a ≤ i ∧ i < b
    · obtain ⟨j, a1, a2, a3⟩ := h.fwd i hi.1 hi.2
      exact ⟨j, by omega, by omega, a3⟩
    · exact ⟨i, h1, h2, h.out i hi⟩, fun i h1 h2 => by
    by_cases hi : a ≤ i ∧ i < b
    · obtain ⟨j, a1, a2, a3⟩ := h.bwd i hi.1 hi.2
      exact ⟨j, by omega, by omega, a3⟩
    · exact ⟨i, h1, h2, (h.out i hi).symm⟩⟩
theorem same_rot (p : Nat → Nat) (a m b : Nat) (h1 : a ≤ m) (h2 : m ≤ b) : Same p (rot p a m b) a b := by
  refine ⟨fun i hi => ?_, fun i ha hb => ?_, fun i ha hb => ?_⟩
  · unfold rot; repeat' split
    all_goals first | rfl | (exfalso; omega)
  · unfold rot
    split
    · exact ⟨i + (m - a), by omega, by omega, rfl⟩
    · split
      · exact ⟨i - (b - m), by omega, by omega, rfl⟩
      · omega
  · by_cases hm : i < m
    · refine ⟨i + (b - m), by omega, by omega, ?_⟩
      unfold rot
      rw [if_neg (by omega), if_pos (by omega)]
      congr 1; omega
    · refine ⟨i - (m - a), by omega, by omega, ?_⟩
      unfold rot
      rw [if_pos (by omega)]
      congr 1; omega
theorem Inj.rot {n : Nat} {p : Nat → Nat} (h : Inj n p) {a m b : Nat} (h1 : a ≤ m) (h2 : m ≤ b) (h3 : b ≤ n) : Inj n (rot p a m b) := by
  have key : ∀ i, i < n → ∃ j, j < n ∧ Ytdphkaiijlekhaa.rot p a m b i = p j ∧ ((a ≤ i ∧ i < a + (b - m) ∧ j = i + (m - a)) ∨ (a + (b - m) ≤ i ∧ i < b ∧ j = i - (b - m)) ∨ (¬ (a ≤ i ∧ i < b) ∧ j = i)) := fun i hi => by
    unfold Ytdphkaiijlekhaa.rot
    split
    · exact ⟨_, by omega, rfl, by omega⟩
    · split
      · exact ⟨_, by omega, rfl, by omega⟩
      · exact ⟨_, hi, rfl, by omega⟩
  refine ⟨fun i hi => ?_, fun i j hi hj e => ?_⟩
  · obtain ⟨k, a1, a2, _⟩ := key i hi
    rw [a2]; exact h.lt k a1
  · obtain ⟨k, a1, a2, a3⟩ := key i hi
    obtain ⟨l, b1, b2, b3⟩ := key j hj
    rw [a2, b2] at e
    have := h.un k l a1 b1 e
    omega
section
variable (L : Nat → Nat → Prop)
/-- In order from a to b. -/
def Rise (p : Nat → Nat) (a b : Nat) : Prop := ∀ i j, a ≤ i → i < j → j < b → L (p i) (p j)
/-- What stands ahead of m, stood ahead at first. -/
def Sep (p : Nat → Nat) (a m b : Nat) : Prop := ∀ i j, a ≤ i → i < m → m ≤ j → j < b → p i < p j
/-- Two places told apart. -/
structure Ord (n : Nat) : Prop where
  trans : ∀ i j k, i < n → j < n → k < n → L i j → L j k → L i k
  irr : ∀ i, i < n → ¬ L i i
  tot : ∀ i j, i < n → j < n → i ≠ j → L i j ∨ L j i
variable {L} {n : Nat} {p : Nat → Nat}
theorem Rise.sub {a b a' b' : Nat} (h : Rise L p a b) (ha : a ≤ a') (hb : b' ≤ b) : Rise L p a' b' := fun i j h1 h2 h3 => h i j (by omega) h2 (by omega)
theorem Rise.congr {q : Nat → Nat} {a b : Nat} (h : Rise L p a b) (he : ∀ i, a ≤ i → i < b → q i = p i) : Rise L q a b := fun i j h1 h2 h3 => by
  rw [he i h1 (by omega), he j (by omega) h3]; exact h i j h1 h2 h3
/-- The two parts that come behind a turn. -/
structure Cut (p : Nat → Nat) (a m b s e : Nat) : Prop where
  sa : a ≤ s
  sm : s ≤ m
  me : m ≤ e
  eb : e ≤ b
  lo : ∀ i j, a ≤ i → i < s → e ≤ j → j < b → L (p i) (p j)
  hi : ∀ i j, s ≤ i → i < m → m ≤ j → j < e → L (p j) (p i)
/-- Merged. -/
structure Merged (p q : Nat → Nat) (n a b : Nat) : Prop where
  inj : Inj n q
  same : Same p q a b
  rise : Rise L q a b
theorem merge_two {a m b s e mid : Nat} (h1 : Rise L p a m) (h2 : Rise L p m b) (hc : Cut (L := L) p a m b s e) (hmid : mid = s + (e - m)) {q r : Nat → Nat} (hq : Merged (L := L) (rot p s m e) q n a mid) (hr : Merged (L := L) q r n mid b) : Merged (L := L) p r n a b := by
  have hsa := hc.sa
  have hsm := hc.sm
  have hme := hc.me
  have heb := hc.eb
  have hs : Same p (rot p s m e) a b := (same_rot p s m e hsm hme).wide hsa heb
  have hpq : Same p q a b := hs.trans (hq.same.wide (Nat.le_refl _) (by omega))
  refine ⟨hr.inj, hpq.trans (hr.same.wide (by omega) (Nat.le_refl _)), fun i j hi hij hj => ?_⟩
  -- what stands below mid, and what above
  have low : ∀ i, a ≤ i → i < mid → ∃ k, ((a ≤ k ∧ k < s) ∨ (m ≤ k ∧ k < e)) ∧ r i = p k := fun i h3 h4 => by
    rw [hr.same.out i (by omega)]
    obtain ⟨k, b1, b2, b3⟩ := hq.same.fwd i h3 h4
    rw [b3]
    unfold rot
    split
    · exact ⟨_, by omega, rfl⟩
    · split
      · omega
      · exact ⟨_, by omega, rfl⟩
  have high : ∀ i, mid ≤ i → i < b → ∃ k, ((s ≤ k ∧ k < m) ∨ (e ≤ k ∧ k < b)) ∧ r i = p k := fun i h3 h4 => by
    obtain ⟨k, b1, b2, b3⟩ := hr.same.fwd i h3 h4
    rw [b3, hq.same.out k (by omega)]
    unfold rot
    split
    · omega
    · split
      · exact ⟨_, by omega, rfl⟩
      · exact ⟨_, by omega, rfl⟩
  by_cases hjm : j < mid
  · rw [hr.same.out i (by omega), hr.same.out j (by omega)]
    exact hq.rise i j hi hij hjm
  · by_cases him : mid ≤ i
    · exact hr.rise i j him hij hj
    · obtain ⟨k, a1, a2⟩ := low i hi (by omega)
      obtain ⟨l, b1, b2⟩ := high j (by omega) hj
      rw [a2, b2]
      rcases a1 with a1 | a1 <;> rcases b1 with b1 | b1
      · exact h1 k l a1.1 (by omega) b1.2
      · exact hc.lo k l a1.1 a1.2 b1.1 b1.2
      · exact hc.hi l k b1.1 b1.2 a1.1 a1.2
      · exact h2 k l a1.1 (by omega) b1.2
theorem merge_up {a b i : Nat} (hp : Inj n p) (hbn : b ≤ n) (hai : a + 1 ≤ i) (hib : i ≤ b) (h2 : Rise L p (a + 1) b) (hlo : ∀ j, a + 1 ≤ j → j < i → L (p j) (p a)) (hhi : ∀ j, i ≤ j → j < b → L (p a) (p j)) : Merged (L := L) p (rot p a (a + 1) i) n a b := by
  refine ⟨hp.rot (by omega) hai (by omega), (same_rot p a (a + 1) i (by omega) hai).wide (Nat.le_refl _) hib, fun x y hx hxy hy => ?_⟩
  unfold rot
  repeat' split
  · exact h2 _ _ (by omega) (by omega) (by omega)
  · have e : y - (i - (a + 1)) = a := by omega
    rw [e]; exact hlo _ (by omega) (by omega)
  · exact h2 _ _ (by omega) (by omega) (by omega)
  · omega
  · omega
  · have e : x - (i - (a + 1)) = a := by omega
    rw [e]; exact hhi _ (by omega) (by omega)
  · omega
  · omega
  · exact h2 _ _ (by omega) (by omega) (by omega)
theorem merge_down {a m i : Nat} (hp : Inj n p) (hmn : m < n) (hai : a ≤ i) (him : i ≤ m) (h1 : Rise L p a m) (hlo : ∀ j, a ≤ j → j < i → L (p j) (p m)) (hhi : ∀ j, i ≤ j → j < m → L (p m) (p j)) : Merged (L := L) p (rot p i m (m + 1)) n a (m + 1) := by
  refine ⟨hp.rot him (by omega) (by omega), (same_rot p i m (m + 1) him (by omega)).wide hai (Nat.le_refl _), fun x y hx hxy hy => ?_⟩
  unfold rot
  repeat' split
  · omega
  · have e : x + (m - i) = m := by omega
    rw [e]; exact hhi _ (by omega) (by omega)
  · omega
  · omega
  · exact h1 _ _ (by omega) (by omega) (by omega)
  · omega
  · have e : y + (m - i) = m := by omega
    rw [e]; exact hlo _ (by omega) (by omega)
  · exact h1 _ _ (by omega) (by omega) (by omega)
  · exact h1 _ _ (by omega) (by omega) (by omega)
end
/-- A comparison that tells weakly apart. -/
structure Weak (n : Nat) (lt : Nat → Nat → Bool) : Prop where
  asym : ∀ i j, i < n → j < n → lt i j = true → lt j i = false
  trans : ∀ i j k, i < n → j < n → k < n → lt i j = true → lt j k = true → lt i k = true
  ntrans : ∀ i j k, i < n → j < n → k < n → lt i j = false → lt j k = false → lt i k = false
def LL (lt : Nat → Nat → Bool) (i j : Nat) : Prop := lt i j = true ∨ (lt j i = false ∧ i < j)
theorem Weak.irr {n : Nat} {lt : Nat → Nat → Bool} (h : Weak n lt) (i : Nat) (hi : i < n) : lt i i = false := by
  cases e : lt i i
  · rfl
  · have := h.asym i i hi hi e; rw [e] at this; cases this
theorem Weak.ord {n : Nat} {lt : Nat → Nat → Bool} (h : Weak n lt) : Ord (LL lt) n := by
  refine ⟨fun i j k hi hj hk a b => ?_, fun i hi a => ?_, fun i j hi hj hne => ?_⟩
  · rcases a with a | ⟨a, a'⟩ <;> rcases b with b | ⟨b, b'⟩
    · exact .inl (h.trans i j k hi hj hk a b)
    · left
      cases e : lt i k
      · have := h.ntrans i k j hi hk hj e b; rw [a] at this; cases this
      · rfl
    · left
      cases e : lt i k
      · have := h.ntrans j i k hj hi hk a e; rw [b] at this; cases this
      · rfl
    · exact .inr ⟨h.ntrans k j i hk hj hi b a, by omega⟩
  · rcases a with a | ⟨_, a⟩
    · rw [h.irr i hi] at a; cases a
    · omega
  · cases e : lt i j
    · cases e' : lt j i
      · rcases Nat.lt_or_ge i j with hl | hl
        · exact .inl (.inr ⟨e', hl⟩)
        · exact .inr (.inr ⟨e, by omega⟩)
      · exact .inr (.inl e')
    · exact .inl (.inl e)
theorem LL.of_lt {lt : Nat → Nat → Bool} {i j : Nat} (hij : i < j) : (lt j i = true → LL lt j i) ∧ (lt j i = false → LL lt i j) := ⟨fun h => .inl h, fun h => .inr ⟨h, hij⟩⟩
/-- Where the two parts are cut, told of the neighbours alone. -/
theorem cut_of {L : Nat → Nat → Prop} {n a m b s e : Nat} {p : Nat → Nat} (hO : Ord L n) (hp : Inj n p) (hbn : b ≤ n) (h1 : Rise L p a m) (h2 : Rise L p m b) (sa : a ≤ s) (sm : s ≤ m) (me : m ≤ e) (eb : e ≤ b)
    (hlo : s = a ∨ e = b ∨ L (p (s - 1)) (p e)) (hhi : s = m ∨ e = m ∨ L (p (e - 1)) (p s)) : Cut (L := L) p a m b s e := by
  refine ⟨sa, sm, me, eb, fun i j hi his hj hjb => ?_, fun i j hi him hj hje => ?_⟩
  · have hl : L (p (s - 1)) (p e) := by
      rcases hlo with h | h | h
      · omega
      · omega
      · exact h
    have hx : L (p i) (p e) := by
      rcases Nat.lt_or_ge i (s - 1) with h | h
      · exact hO.trans _ _ _ (hp.lt i (by omega)) (hp.lt _ (by omega)) (hp.lt _ (by omega)) (h1 i (s - 1) hi h (by omega)) hl
      · have : i = s - 1 := by omega
        rw [this]; exact hl
    rcases Nat.lt_or_ge e j with h | h
    · exact hO.trans _ _ _ (hp.lt i (by omega)) (hp.lt _ (by omega)) (hp.lt _ (by omega)) hx (h2 e j me h hjb)
    · have : j = e := by omega
      rw [this]; exact hx
  · have hl : L (p (e - 1)) (p s) := by
      rcases hhi with h | h | h
      · omega
      · omega
      · exact h
    have hx : L (p j) (p s) := by
      rcases Nat.lt_or_ge j (e - 1) with h | h
      · exact hO.trans _ _ _ (hp.lt j (by omega)) (hp.lt _ (by omega)) (hp.lt _ (by omega)) (h2 j (e - 1) hj h (by omega)) hl
      · have : j = e - 1 := by omega
        rw [this]; exact hl
    rcases Nat.lt_or_ge s i with h | h
    · exact hO.trans _ _ _ (hp.lt j (by omega)) (hp.lt _ (by omega)) (hp.lt _ (by omega)) hx (h1 s i sa h him)
    · have : i = s := by omega
      rw [this]; exact hx
theorem up_of {L : Nat → Nat → Prop} {n a b i : Nat} {p : Nat → Nat} (hO : Ord L n) (hp : Inj n p) (hbn : b ≤ n) (hai : a + 1 ≤ i) (hib : i ≤ b) (h2 : Rise L p (a + 1) b) (hlo : i = a + 1 ∨ L (p (i - 1)) (p a)) (hhi : i = b ∨ L (p a) (p i)) : Merged (L := L) p (rot p a (a + 1) i) n a b := by
  refine merge_up hp hbn hai hib h2 (fun j h3 h4 => ?_) (fun j h3 h4 => ?_)
  · have hl : L (p (i - 1)) (p a) := by
      rcases hlo with h | h
      · omega
      · exact h
    rcases Nat.lt_or_ge j (i - 1) with h | h
    · exact hO.trans _ _ _ (hp.lt _ (by omega)) (hp.lt _ (by omega)) (hp.lt _ (by omega)) (h2 j (i - 1) h3 h (by omega)) hl
    · have : j = i - 1 := by omega
      rw [this]; exact hl
  · have hl : L (p a) (p i) := by
      rcases hhi with h | h
      · omega
      · exact h
    rcases Nat.lt_or_ge i j with h | h
    · exact hO.trans _ _ _ (hp.lt _ (by omega)) (hp.lt _ (by omega)) (hp.lt _ (by omega)) hl (h2 i j hai h h4)
    · have : j = i := by omega
      rw [this]; exact hl
theorem down_of {L : Nat → Nat → Prop} {n a m i : Nat} {p : Nat → Nat} (hO : Ord L n) (hp : Inj n p) (hmn : m < n) (hai : a ≤ i) (him : i ≤ m) (h1 : Rise L p a m) (hlo : i = a ∨ L (p (i - 1)) (p m)) (hhi : i = m ∨ L (p m) (p i)) : Merged (L := L) p (rot p i m (m + 1)) n a (m + 1) := by
  refine merge_down hp hmn hai him h1 (fun j h3 h4 => ?_) (fun j h3 h4 => ?_)
  · have hl : L (p (i - 1)) (p m) := by
      rcases hlo with h | h
      · omega
      · exact h
    rcases Nat.lt_or_ge j (i - 1) with h | h
    · exact hO.trans _ _ _ (hp.lt _ (by omega)) (hp.lt _ (by omega)) (hp.lt _ (by omega)) (h1 j (i - 1) h3 h (by omega)) hl
    · have : j = i - 1 := by omega
      rw [this]; exact hl
  · have hl : L (p m) (p i) := by
      rcases hhi with h | h
      · omega
      · exact h
    rcases Nat.lt_or_ge i j with h | h
    · exact hO.trans _ _ _ (hp.lt _ (by omega)) (hp.lt _ (by omega)) (hp.lt _ (by omega)) hl (h1 i j hai h h4)
    · have : j = i := by omega
      rw [this]; exact hl
theorem Sep.congr {q p : Nat → Nat} {a m b : Nat} (h : Sep p a m b) (he : ∀ i, a ≤ i → i < b → q i = p i) : Sep q a m b := fun i j h1 h2 h3 h4 => by
  by_cases hx : i < b
  · by_cases hy : a ≤ j
    · rw [he i h1 hx, he j hy h4]; exact h i j h1 h2 h3 h4
    · omega
  · omega
theorem rot_a {α : Type} (p : Nat → α) {a m b i : Nat} (h : a ≤ i) (h2 : i < a + (b - m)) : rot p a m b i = p (i + (m - a)) := by
  unfold rot; rw [if_pos ⟨h, h2⟩]
theorem rot_b {α : Type} (p : Nat → α) {a m b i : Nat} (h : a + (b - m) ≤ i) (h2 : i < b) : rot p a m b i = p (i - (b - m)) := by
  unfold rot; rw [if_neg (by omega), if_pos ⟨h, h2⟩]
theorem rot_o {α : Type} (p : Nat → α) {a m b i : Nat} (h0 : a ≤ m) (h1 : m ≤ b) (h : i < a ∨ b ≤ i) : rot p a m b i = p i := by
  unfold rot; rw [if_neg (by omega), if_neg (by omega)]
theorem cut_left {L : Nat → Nat → Prop} {a m b s e mid : Nat} {p : Nat → Nat} (h1 : Rise L p a m) (h2 : Rise L p m b) (hs : Sep p a m b) (hc : Cut (L := L) p a m b s e) (hmid : mid = s + (e - m)) : Rise L (rot p s m e) a s ∧ Rise L (rot p s m e) s mid ∧ Sep (rot p s m e) a s mid := by
  obtain ⟨sa, sm, me, eb, _, _⟩ := hc
  refine ⟨fun i j hi hij hj => ?_, fun i j hi hij hj => ?_, fun i j hi hij hj hjb => ?_⟩
  · rw [rot_o p sm me (by omega), rot_o p sm me (by omega)]; exact h1 i j hi hij (by omega)
  · rw [rot_a p hi (by omega), rot_a p (by omega) (by omega)]; exact h2 _ _ (by omega) (by omega) (by omega)
  · rw [rot_o p sm me (by omega), rot_a p hj (by omega)]; exact hs _ _ hi (by omega) (by omega) (by omega)
theorem cut_right {L : Nat → Nat → Prop} {a m b s e mid : Nat} {p : Nat → Nat} (h1 : Rise L p a m) (h2 : Rise L p m b) (hs : Sep p a m b) (hc : Cut (L := L) p a m b s e) (hmid : mid = s + (e - m)) : Rise L (rot p s m e) mid e ∧ Rise L (rot p s m e) e b ∧ Sep (rot p s m e) mid e b := by
  obtain ⟨sa, sm, me, eb, _, _⟩ := hc
  refine ⟨fun i j hi hij hj => ?_, fun i j hi hij hj => ?_, fun i j hi hij hj hjb => ?_⟩
  · rw [rot_b p (by omega) (by omega), rot_b p (by omega) (by omega)]; exact h1 _ _ (by omega) (by omega) (by omega)
  · rw [rot_o p sm me (by omega), rot_o p sm me (by omega)]; exact h2 _ _ (by omega) hij hj
  · rw [rot_b p (by omega) (by omega), rot_o p sm me (by omega)]; exact hs _ _ (by omega) (by omega) (by omega) (by omega)
theorem Merged.stay {L : Nat → Nat → Prop} {n a b : Nat} {q : Nat → Nat} (hi : Inj n q) (h : Rise L q a b) : Merged (L := L) q q n a b := ⟨hi, .refl _ _ _, h⟩
/-- Each place stays in its block of k. -/
def Lc (k lo n : Nat) (p : Nat → Nat) : Prop := ∀ i, lo ≤ i → i < n → p i / k = i / k
/-- Each block of k is in order. -/
def Rs (L : Nat → Nat → Prop) (k lo hi : Nat) (p : Nat → Nat) : Prop := ∀ i j, lo ≤ i → i < j → j < hi → i / k = j / k → L (p i) (p j)
theorem div_in {k c i : Nat} (h1 : c * k ≤ i) (h2 : i < c * k + k) : i / k = c := by
  have hk : 0 < k := by omega
  apply Nat.le_antisymm
  · exact Nat.lt_succ_iff.1 (Nat.div_lt_of_lt_mul (by rw [Nat.mul_comm]; rw [Nat.succ_mul]; exact h2))
  · exact (Nat.le_div_iff_mul_le hk).2 h1
theorem div_two (i k : Nat) : i / (2 * k) = (i / k) / 2 := by rw [Nat.div_div_eq_div_mul, Nat.mul_comm]
/-- How it stands while blocks of 2k are merged, up to a. -/
structure Mg (L : Nat → Nat → Prop) (k n c : Nat) (p : Nat → Nat) : Prop where
  inj : Inj n p
  big : Lc (2 * k) 0 n p
  done : Rs L (2 * k) 0 (min (c * (2 * k)) n) p
  rest : Rs L k (c * (2 * k)) n p
  small : Lc k (c * (2 * k)) n p
theorem Mg.begin {L : Nat → Nat → Prop} {k n : Nat} {p : Nat → Nat} (h1 : Inj n p) (h2 : Lc k 0 n p) (h3 : Rs L k 0 n p) : Mg L k n 0 p :=
  ⟨h1, fun i hi hn => by rw [div_two, div_two, h2 i hi hn], fun i j hi hij hj _ => by omega, fun i j hi => h3 i j (by omega), fun i hi => h2 i (by omega)⟩
theorem Mg.left {L : Nat → Nat → Prop} {k n c : Nat} {p : Nat → Nat} (h : Mg L k n c p) (hm : c * (2 * k) + k ≤ n) : Rise L p (c * (2 * k)) (c * (2 * k) + k) := fun i j hi hij hj => by
  have e : c * (2 * k) = (c * 2) * k := by rw [Nat.mul_assoc]
  refine h.rest i j hi hij (by omega) ?_
  rw [div_in (c := c * 2) (by omega) (by omega), div_in (c := c * 2) (by omega) (by omega)]
theorem Mg.right {L : Nat → Nat → Prop} {k n c b : Nat} {p : Nat → Nat} (h : Mg L k n c p) (hb : b ≤ n) (hb2 : b ≤ c * (2 * k) + 2 * k) : Rise L p (c * (2 * k) + k) b := fun i j hi hij hj => by
  have e : c * (2 * k) = (c * 2) * k := by rw [Nat.mul_assoc]
  have e2 : (c * 2 + 1) * k = (c * 2) * k + k := by rw [Nat.succ_mul]
  refine h.rest i j (by omega) hij (by omega) ?_
  rw [div_in (c := c * 2 + 1) (by omega) (by omega), div_in (c := c * 2 + 1) (by omega) (by omega)]
theorem Mg.sep {L : Nat → Nat → Prop} {k n c b : Nat} {p : Nat → Nat} (h : Mg L k n c p) (hb : b ≤ n) (hb2 : b ≤ c * (2 * k) + 2 * k) : Sep p (c * (2 * k)) (c * (2 * k) + k) b := fun i j hi him hj hjb => by
  have hk : 0 < k := by omega
  have e : c * (2 * k) = (c * 2) * k := by rw [Nat.mul_assoc]
  have e2 : (c * 2 + 1) * k = (c * 2) * k + k := by rw [Nat.succ_mul]
  have a1 := h.small i hi (by omega)
  have a2 := h.small j (by omega) (by omega)
  rw [div_in (c := c * 2) (i := i) (by omega) (by omega)] at a1
  rw [div_in (c := c * 2 + 1) (i := j) (by omega) (by omega)] at a2
  rcases Nat.lt_or_ge (p i) (p j) with hl | hl
  · exact hl
  · have := Nat.div_le_div_right (c := k) hl
    omega
theorem Mg.next {L : Nat → Nat → Prop} {k n c b : Nat} {p r : Nat → Nat} (hk : 0 < k) (h : Mg L k n c p) (hb : b ≤ n) (hb2 : b ≤ c * (2 * k) + 2 * k) (hb3 : b = n ∨ b = c * (2 * k) + 2 * k) (hab : c * (2 * k) ≤ b) (hr : Merged (L := L) p r n (c * (2 * k)) b) : Mg L k n (c + 1) r := by
  have e : (c + 1) * (2 * k) = c * (2 * k) + 2 * k := by rw [Nat.succ_mul]
  refine ⟨hr.inj, fun i hi hin => ?_, fun i j hi hij hj hd => ?_, fun i j hi hij hj hd => ?_, fun i hi hin => ?_⟩
  · by_cases hc : c * (2 * k) ≤ i ∧ i < b
    · obtain ⟨j, b1, b2, b3⟩ := hr.same.fwd i hc.1 hc.2
      rw [b3, h.big j (by omega) (by omega), div_in (c := c) b1 (by omega), div_in (c := c) hc.1 (by omega)]
    · rw [hr.same.out i hc]; exact h.big i hi hin
  · by_cases hc : c * (2 * k) ≤ i
    · exact hr.rise i j hc hij (by omega)
    · by_cases hjc : j < c * (2 * k)
      · rw [hr.same.out i (by omega), hr.same.out j (by omega)]
        exact h.done i j hi hij (by omega) hd
      · exfalso
        rw [div_in (c := c) (i := j) (by omega) (by omega)] at hd
        have := Nat.div_mul_le_self i (2 * k)
        rw [hd] at this
        omega
  · rw [hr.same.out i (by omega), hr.same.out j (by omega)]
    exact h.rest i j (by omega) hij hj hd
  · rw [hr.same.out i (by omega)]
    exact h.small i (by omega) hin
/-- No block is left that has a second half. -/
theorem Mg.over {L : Nat → Nat → Prop} {k n c : Nat} {p : Nat → Nat} (hk : 0 < k) (h : Mg L k n c p) (hn : n ≤ c * (2 * k) + k) : Lc (2 * k) 0 n p ∧ Rs L (2 * k) 0 n p := by
  refine ⟨h.big, fun i j hi hij hj hd => ?_⟩
  have e : c * (2 * k) = (c * 2) * k := by rw [Nat.mul_assoc]
  by_cases hjc : j < c * (2 * k)
  · exact h.done i j hi hij (by omega) hd
  · have hj2 := div_in (k := 2 * k) (c := c) (i := j) (by omega) (by omega)
    by_cases hic : c * (2 * k) ≤ i
    · refine h.rest i j hic hij hj ?_
      rw [div_in (c := c * 2) (by omega) (by omega), div_in (c := c * 2) (by omega) (by omega)]
    · exfalso
      rw [hj2] at hd
      have := Nat.div_mul_le_self i (2 * k)
      rw [hd] at this
      omega
/-- How it stands while the first blocks are sorted, up to a. -/
structure Fst (L : Nat → Nat → Prop) (k n c : Nat) (p : Nat → Nat) : Prop where
  inj : Inj n p
  loc : Lc k 0 n p
  done : Rs L k 0 (min (c * k) n) p
  rest : ∀ i, c * k ≤ i → p i = i
theorem Fst.zero {L : Nat → Nat → Prop} (k n : Nat) : Fst L k n 0 id := ⟨⟨fun i h => h, fun i j _ _ h => h⟩, fun i _ _ => rfl, fun i j hi hij hj _ => by omega, fun i _ => rfl⟩
theorem Fst.next {L : Nat → Nat → Prop} {k n c b : Nat} {p r : Nat → Nat} (h : Fst L k n c p) (hb : b ≤ n) (hb2 : b ≤ c * k + k) (hb3 : b = n ∨ b = c * k + k) (hr : Merged (L := L) p r n (c * k) b) : Fst L k n (c + 1) r := by
  have e : (c + 1) * k = c * k + k := by rw [Nat.succ_mul]
  refine ⟨hr.inj, fun i hi hin => ?_, fun i j hi hij hj hd => ?_, fun i hi => ?_⟩
  · by_cases hc : c * k ≤ i ∧ i < b
    · obtain ⟨j, b1, b2, b3⟩ := hr.same.fwd i hc.1 hc.2
      rw [b3, h.rest j b1, div_in (c := c) b1 (by omega), div_in (c := c) hc.1 (by omega)]
    · rw [hr.same.out i hc]; exact h.loc i hi hin
  · by_cases hc : c * k ≤ i
    · exact hr.rise i j hc hij (by omega)
    · by_cases hjc : j < c * k
      · rw [hr.same.out i (by omega), hr.same.out j (by omega)]
        exact h.done i j hi hij (by omega) hd
      · exfalso
        rw [div_in (c := c) (i := j) (by omega) (by omega)] at hd
        have := Nat.div_mul_le_self i k
        rw [hd] at this
        omega
  · rw [hr.same.out i (by omega)]
    exact h.rest i (by omega)
theorem Rs.all {L : Nat → Nat → Prop} {k n : Nat} {p : Nat → Nat} (h : Rs L k 0 n p) (hk : n ≤ k) : Rise L p 0 n := fun i j hi hij hj => h i j hi hij hj (by rw [Nat.div_eq_of_lt (by omega), Nat.div_eq_of_lt (by omega)])
end Go.Proofs.Ytdphkaiijlekhaa
namespace Go.Proofs.Ytdphkaiijlekhaa
open Go Go.Eng
theorem u8_tri (a b : UInt8) (h1 : ¬ a < b) (h2 : ¬ b < a) : a = b := by
  rw [UInt8.lt_iff_toNat_lt] at h1 h2
  exact UInt8.toNat_inj.1 (by omega)
theorem bl_irr : ∀ a : List UInt8, Op.bytesLess a a = false
  | [] => rfl
  | a :: l => by
    have : ¬ a < a := by rw [UInt8.lt_iff_toNat_lt]; omega
    simp [Op.bytesLess, this, bl_irr l]
theorem bl_trans : ∀ a b c : List UInt8, Op.bytesLess a b = true → Op.bytesLess b c = true → Op.bytesLess a c = true
  | _, _, [] => fun _ h => by simp [Op.bytesLess] at h
  | _, [], _ :: _ => fun h _ => by simp [Op.bytesLess] at h
  | [], _ :: _, _ :: _ => fun _ _ => rfl
  | a :: l, b :: m, c :: n => fun h k => by
    have ih := bl_trans l m n
    simp only [Op.bytesLess, Bool.or_eq_true, Bool.and_eq_true, decide_eq_true_eq, beq_iff_eq] at h k ⊢
    rcases h with h | ⟨rfl, h⟩ <;> rcases k with k | ⟨rfl, k⟩
    · left; rw [UInt8.lt_iff_toNat_lt] at *; omega
    · exact .inl h
    · exact .inl k
    · exact .inr ⟨rfl, ih h k⟩
theorem bl_asym (a b : List UInt8) (h : Op.bytesLess a b = true) : Op.bytesLess b a = false := by
  cases e : Op.bytesLess b a
  · rfl
  · have := bl_trans a b a h e
    rw [bl_irr] at this; cases this
theorem bl_tri : ∀ a b : List UInt8, Op.bytesLess a b = false → Op.bytesLess b a = false → a = b
  | [], [] => fun _ _ => rfl
  | [], _ :: _ => fun h _ => by simp [Op.bytesLess] at h
  | _ :: _, [] => fun _ h => by simp [Op.bytesLess] at h
  | a :: l, b :: m => fun h k => by
    have ih := bl_tri l m
    simp only [Op.bytesLess, Bool.or_eq_false_iff, Bool.and_eq_false_iff, decide_eq_false_iff_not, beq_eq_false_iff_ne] at h k
    have e : a = b := u8_tri a b h.1 k.1
    subst e
    rw [ih (h.2.resolve_left (fun h => h rfl)) (k.2.resolve_left (fun h => h rfl))]
theorem bl_ntrans (a b c : List UInt8) (h : Op.bytesLess a b = false) (k : Op.bytesLess b c = false) : Op.bytesLess a c = false := by
  cases e : Op.bytesLess a c
  · rfl
  · cases e2 : Op.bytesLess b a
    · rw [bl_tri a b h e2] at e; rw [e] at k; cases k
    · rw [bl_trans b a c e2 e] at k; cases k
theorem cmp_bl : ∀ a b : List UInt8, Lib.compareBytes a b = if Op.bytesLess a b then -1 else if Op.bytesLess b a then 1 else 0
  | [], [] => rfl
  | [], _ :: _ => rfl
  | _ :: _, [] => rfl
  | a :: l, b :: m => by
    have ih := cmp_bl l m
    unfold Lib.compareBytes
    by_cases h1 : a < b
    · simp [Op.bytesLess, h1]
    · by_cases h2 : b < a
      · have : ¬ a = b := fun e => by rw [UInt8.lt_iff_toNat_lt, e] at h2; omega
        simp [Op.bytesLess, h1, h2, this]
      · have e := u8_tri a b h1 h2
        subst e
        simp [Op.bytesLess, h1, ih]
theorem cmp_lt (a b : List UInt8) : (Lib.compareBytes a b < 0) ↔ Op.bytesLess a b = true := by
  rw [cmp_bl]
  cases h : Op.bytesLess a b
  · cases h2 : Op.bytesLess b a <;> simp
  · simp
theorem cmp_eq0 (a b : List UInt8) : (Lib.compareBytes a b = 0) ↔ a = b := by
  rw [cmp_bl]
  constructor
  · intro h
    cases h1 : Op.bytesLess a b
    · cases h2 : Op.bytesLess b a
      · exact bl_tri a b h1 h2
      · rw [h1, h2] at h; simp at h
    · rw [h1] at h; simp at h
  · rintro rfl; rw [bl_irr]; rfl
/-- By folded texts. -/
def ltF (F : Nat → List UInt8) (i j : Nat) : Bool := Op.bytesLess (F i) (F j)
theorem ltF_weak (n : Nat) (F : Nat → List UInt8) : Weak n (ltF F) :=
  ⟨fun _ _ _ _ h => bl_asym _ _ h, fun _ _ _ _ _ _ h k => bl_trans _ _ _ h k, fun _ _ _ _ _ _ h k => bl_ntrans _ _ _ h k⟩
/-- The firsts of xs, in the order of what they are folded to. -/
structure Firsts (F : List UInt8 → List UInt8) (xs D : List (List UInt8)) : Prop where
  rise : D.Pairwise (fun a b => Op.bytesLess (F a) (F b) = true)
  mem : ∀ x, x ∈ D ↔ ∃ i : Nat, xs[i]? = some x ∧ ∀ (j : Nat) (y : List UInt8), j < i → xs[j]? = some y → F y ≠ F x
theorem rise_uniq (F : List UInt8 → List UInt8) : ∀ (A B : List (List UInt8)), A.Pairwise (fun a b => Op.bytesLess (F a) (F b) = true) → B.Pairwise (fun a b => Op.bytesLess (F a) (F b) = true) → (∀ x, x ∈ A ↔ x ∈ B) → A = B
  | [], [] => fun _ _ _ => rfl
  | [], b :: B => fun _ _ h => by have := (h b).2 (by simp); simp at this
  | a :: A, [] => fun _ _ h => by have := (h a).1 (by simp); simp at this
  | a :: A, b :: B => fun hA hB h => by
    obtain ⟨a1, a2⟩ := List.pairwise_cons.1 hA
    obtain ⟨b1, b2⟩ := List.pairwise_cons.1 hB
    have e : a = b := by
      rcases List.mem_cons.1 ((h a).1 (by simp)) with e | e
      · exact e
      · rcases List.mem_cons.1 ((h b).2 (by simp)) with e' | e'
        · exact e'.symm
        · have := bl_asym _ _ (b1 a e)
          rw [a1 b e'] at this; cases this
    subst e
    have : A = B := rise_uniq F A B a2 b2 fun x => by
      constructor
      · intro hx
        rcases List.mem_cons.1 ((h x).1 (List.mem_cons_of_mem _ hx)) with e | e
        · subst e; have := a1 x hx; rw [bl_irr] at this; cases this
        · exact e
      · intro hx
        rcases List.mem_cons.1 ((h x).2 (List.mem_cons_of_mem _ hx)) with e | e
        · subst e; have := b1 x hx; rw [bl_irr] at this; cases this
        · exact e
    rw [this]
theorem Firsts.uniq {F : List UInt8 → List UInt8} {xs A B : List (List UInt8)} (h : Firsts F xs A) (k : Firsts F xs B) : A = B :=
  rise_uniq F A B h.rise k.rise fun x => (h.mem x).trans (k.mem x).symm
/-- What rises by itself is what has its firsts. -/
theorem Firsts.self {F : List UInt8 → List UInt8} {xs : List (List UInt8)} (h : xs.Pairwise (fun a b => Op.bytesLess (F a) (F b) = true)) : Firsts F xs xs := by
  refine ⟨h, fun x => ⟨fun hx => ?_, fun ⟨i, hi, _⟩ => List.mem_of_getElem? hi⟩⟩
  obtain ⟨i, hi⟩ := List.getElem?_of_mem hx
  refine ⟨i, hi, fun j y hj hy e => ?_⟩
  obtain ⟨hi1, rfl⟩ := List.getElem?_eq_some_iff.1 hi
  obtain ⟨hj1, rfl⟩ := List.getElem?_eq_some_iff.1 hy
  have := List.pairwise_iff_getElem.1 h j i hj1 hi1 hj
  rw [e, bl_irr] at this; cases this
theorem Firsts.cover {F : List UInt8 → List UInt8} {xs D : List (List UInt8)} (h : Firsts F xs D) : ∀ (i : Nat) (y : List UInt8), xs[i]? = some y → ∃ a ∈ D, F a = F y := by
  intro i
  induction i using Nat.strongRecOn with
  | _ i ih =>
    intro y hy
    by_cases hx : ∃ j z, j < i ∧ xs[j]? = some z ∧ F z = F y
    · obtain ⟨j, z, hj, hz, e⟩ := hx
      obtain ⟨a, ha, e2⟩ := ih j hj z hz
      exact ⟨a, ha, e2.trans e⟩
    · exact ⟨y, (h.mem y).2 ⟨i, hy, fun j z hj hz e => hx ⟨j, z, hj, hz, e⟩⟩, rfl⟩
theorem Firsts.from {F : List UInt8 → List UInt8} {xs D : List (List UInt8)} (h : Firsts F xs D) {a : List UInt8} (ha : a ∈ D) : ∃ i : Nat, xs[i]? = some a := by
  obtain ⟨i, hi, _⟩ := (h.mem a).1 ha
  exact ⟨i, hi⟩
theorem Firsts.skip {F : List UInt8 → List UInt8} {xs D : List (List UInt8)} (h : Firsts F xs D) {x a : List UInt8} (ha : a ∈ D) (e : F a = F x) : Firsts F (xs ++ [x]) D := by
  refine ⟨h.rise, fun z => (h.mem z).trans ⟨fun ⟨i, hi, hf⟩ => ?_, fun ⟨i, hi, hf⟩ => ?_⟩⟩
  · have hil := (List.getElem?_eq_some_iff.1 hi).1
    refine ⟨i, by rw [List.getElem?_append_left hil]; exact hi, fun j y hj hy => hf j y hj ?_⟩
    rwa [List.getElem?_append_left (by omega)] at hy
  · rcases Nat.lt_or_ge i xs.length with hl | hl
    · rw [List.getElem?_append_left hl] at hi
      exact ⟨i, hi, fun j y hj hy => hf j y hj (by rw [List.getElem?_append_left (by omega)]; exact hy)⟩
    · exfalso
      obtain ⟨q, hq⟩ := h.from ha
      have hql := (List.getElem?_eq_some_iff.1 hq).1
      have hx : z = x := by
        rw [List.getElem?_append_right hl] at hi
        have : i - xs.length = 0 := by
          rcases Nat.eq_zero_or_pos (i - xs.length) with h | h
          · exact h
          · rw [List.getElem?_eq_none (by simp; omega)] at hi; cases hi
        rw [this] at hi
        exact (Option.some.inj hi).symm
      refine hf q a (by omega) (by rw [List.getElem?_append_left hql]; exact hq) (by rw [hx]; exact e)
theorem Firsts.put {F : List UInt8 → List UInt8} {xs A B : List (List UInt8)} (h : Firsts F xs (A ++ B)) {x : List UInt8} (hA : ∀ a ∈ A, Op.bytesLess (F a) (F x) = true) (hB : ∀ b ∈ B, Op.bytesLess (F x) (F b) = true) : Firsts F (xs ++ [x]) (A ++ x :: B) := by
  have hr := List.pairwise_append.1 h.rise
  have hno : ∀ i y, xs[i]? = some y → F y ≠ F x := fun i y hy e => by
    obtain ⟨a, ha, e2⟩ := h.cover i y hy
    rcases List.mem_append.1 ha with ha | ha
    · have := hA a ha; rw [e2, e, bl_irr] at this; cases this
    · have := hB a ha; rw [e2, e, bl_irr] at this; cases this
  refine ⟨?_, fun z => ?_⟩
  · refine List.pairwise_append.2 ⟨hr.1, List.pairwise_cons.2 ⟨hB, hr.2.1⟩, fun a ha b hb => ?_⟩
    rcases List.mem_cons.1 hb with rfl | hb
    · exact hA a ha
    · exact hr.2.2 a ha b hb
  · have : z ∈ A ++ x :: B ↔ z ∈ A ++ B ∨ z = x := by
      simp only [List.mem_append, List.mem_cons]
      constructor
      · rintro (h | h | h)
        · exact .inl (.inl h)
        · exact .inr h
        · exact .inl (.inr h)
      · rintro ((h | h) | h)
        · exact .inl h
        · exact .inr (.inr h)
        · exact .inr (.inl h)
    rw [this, h.mem z]
    constructor
    · rintro (⟨i, hi, hf⟩ | rfl)
      · have hil := (List.getElem?_eq_some_iff.1 hi).1
        refine ⟨i, by rw [List.getElem?_append_left hil]; exact hi, fun j y hj hy => hf j y hj ?_⟩
        rwa [List.getElem?_append_left (by omega)] at hy
      · refine ⟨xs.length, by simp, fun j y hj hy => hno j y ?_⟩
        rwa [List.getElem?_append_left hj] at hy
    · rintro ⟨i, hi, hf⟩
      rcases Nat.lt_or_ge i xs.length with hl | hl
      · left
        rw [List.getElem?_append_left hl] at hi
        exact ⟨i, hi, fun j y hj hy => hf j y hj (by rw [List.getElem?_append_left (by omega)]; exact hy)⟩
      · right
        rw [List.getElem?_append_right hl] at hi
        have : i - xs.length = 0 := by
          rcases Nat.eq_zero_or_pos (i - xs.length) with h | h
          · exact h
          · rw [List.getElem?_eq_none (by simp; omega)] at hi; cases hi
        rw [this] at hi
        exact (Option.some.inj hi).symm
theorem Firsts.len {F : List UInt8 → List UInt8} {xs D : List (List UInt8)} (h : Firsts F xs D) (hx : xs ≠ []) : 0 < D.length := by
  cases xs with
  | nil => exact absurd rfl hx
  | cons x l =>
    obtain ⟨a, ha, _⟩ := h.cover 0 x rfl
    exact List.length_pos_of_mem ha
/-- One more text among the firsts. -/
def insF (F : List UInt8 → List UInt8) : List (List UInt8) → List UInt8 → List (List UInt8)
  | [], x => [x]
  | d :: D, x => if Op.bytesLess (F d) (F x) then d :: insF F D x else if F d = F x then d :: D else x :: d :: D
theorem insF_cases (F : List UInt8 → List UInt8) : ∀ (D : List (List UInt8)) (x : List UInt8), D.Pairwise (fun a b => Op.bytesLess (F a) (F b) = true) →
    (insF F D x = D ∧ ∃ a ∈ D, F a = F x) ∨ ∃ A B, D = A ++ B ∧ insF F D x = A ++ x :: B ∧ (∀ a ∈ A, Op.bytesLess (F a) (F x) = true) ∧ ∀ b ∈ B, Op.bytesLess (F x) (F b) = true
  | [], x => fun _ => .inr ⟨[], [], rfl, rfl, fun _ h => (by cases h), fun _ h => (by cases h)⟩
  | d :: D, x => fun h => by
    obtain ⟨h1, h2⟩ := List.pairwise_cons.1 h
    unfold insF
    cases e : Op.bytesLess (F d) (F x)
    · by_cases e2 : F d = F x
      · left
        rw [if_neg (by simp), if_pos e2]
        exact ⟨rfl, d, by simp, e2⟩
      · right
        rw [if_neg (by simp), if_neg e2]
        have e3 : Op.bytesLess (F x) (F d) = true := by
          cases e4 : Op.bytesLess (F x) (F d)
          · exact absurd (bl_tri _ _ e e4) e2
          · rfl
        refine ⟨[], d :: D, rfl, rfl, fun _ h => by (cases h), fun b hb => ?_⟩
        rcases List.mem_cons.1 hb with rfl | hb
        · exact e3
        · exact bl_trans _ _ _ e3 (h1 b hb)
    · rw [if_pos rfl]
      rcases insF_cases F D x h2 with ⟨h3, a, ha, h4⟩ | ⟨A, B, h3, h4, h5, h6⟩
      · left
        rw [h3]
        exact ⟨rfl, a, by simp [ha], h4⟩
      · right
        refine ⟨d :: A, B, by rw [h3]; rfl, by rw [h4]; rfl, fun a ha => ?_, h6⟩
        rcases List.mem_cons.1 ha with rfl | ha
        · exact e
        · exact h5 a ha
theorem Firsts.ins {F : List UInt8 → List UInt8} {xs D : List (List UInt8)} (h : Firsts F xs D) (x : List UInt8) : Firsts F (xs ++ [x]) (insF F D x) := by
  rcases insF_cases F D x h.rise with ⟨h3, a, ha, h4⟩ | ⟨A, B, h3, h4, h5, h6⟩
  · rw [h3]; exact h.skip ha h4
  · rw [h4]; exact Firsts.put (h3 ▸ h) h5 h6
/-- The firsts. -/
def firstsOf (F : List UInt8 → List UInt8) (xs : List (List UInt8)) : List (List UInt8) := xs.foldl (insF F) []
theorem firsts_from (F : List UInt8 → List UInt8) : ∀ (ys xs D : List (List UInt8)), Firsts F xs D → Firsts F (xs ++ ys) (ys.foldl (insF F) D)
  | [], xs, D => fun h => by rw [List.append_nil]; exact h
  | y :: ys, xs, D => fun h => by
    have := firsts_from F ys (xs ++ [y]) (insF F D y) (h.ins y)
    rw [List.append_assoc] at this
    exact this
theorem firsts_of (F : List UInt8 → List UInt8) (xs : List (List UInt8)) : Firsts F xs (firstsOf F xs) := by
  have := firsts_from F xs [] [] ⟨.nil, fun x => ⟨fun h => (by cases h), fun ⟨i, hi, _⟩ => (by simp at hi)⟩⟩
  exact this
/-- Of places in order those that differ from the one ahead. -/
def kept (F : Nat → List UInt8) (p : Nat → Nat) : Nat → List Nat
  | 0 => []
  | n + 1 => if n = 0 ∨ F (p n) ≠ F (p (n - 1)) then kept F p n ++ [p n] else kept F p n
theorem kept_le (F : Nat → List UInt8) (p : Nat → Nat) : ∀ n, (kept F p n).length ≤ n
  | 0 => Nat.le_refl _
  | n + 1 => by
    have := kept_le F p n
    unfold kept; split
    · simp; omega
    · omega
theorem kept_pos (F : Nat → List UInt8) (p : Nat → Nat) : ∀ n, 0 < n → 0 < (kept F p n).length
  | 0 => fun h => absurd h (by omega)
  | 1 => fun _ => by simp [kept]
  | n + 2 => fun _ => by
    have := kept_pos F p (n + 1) (by omega)
    unfold kept; split
    · simp
    · exact this
/-- In order, and each the first of its folded text. -/
theorem kept_spec {n : Nat} {F : Nat → List UInt8} {p : Nat → Nat} (hp : Inj n p) (hr : Rise (LL (ltF F)) p 0 n) : ∀ m, m ≤ n →
    (kept F p m).Pairwise (fun a b => Op.bytesLess (F a) (F b) = true) ∧ (∀ a ∈ kept F p m, ∃ i, i < m ∧ a = p i ∧ ∀ j, j < n → F j = F a → a ≤ j) ∧ (∀ i, i < m → ∃ a ∈ kept F p m, F a = F (p i))
  | 0 => fun _ => ⟨.nil, fun _ h => (by cases h), fun i h => absurd h (by omega)⟩
  | m + 1 => fun hm => by
    obtain ⟨h1, h2, h3⟩ := kept_spec hp hr m (by omega)
    have surj : ∀ j, j < n → ∃ i, i < n ∧ p i = j := Inj.surj hp
    unfold kept
    split
    · rename_i hne
      have hne2 : ∀ i, i < m → Op.bytesLess (F (p i)) (F (p m)) = true := fun i hi => by
        have hne : F (p m) ≠ F (p (m - 1)) := hne.resolve_left (by omega)
        have e1 : Op.bytesLess (F (p (m - 1))) (F (p m)) = true := by
          rcases hr (m - 1) m (by omega) (by omega) (by omega) with h | ⟨h, _⟩
          · exact h
          · cases e : Op.bytesLess (F (p (m - 1))) (F (p m))
            · exact absurd (bl_tri _ _ h e) hne
            · rfl
        rcases Nat.lt_or_ge i (m - 1) with hl | hl
        · rcases hr i (m - 1) (by omega) hl (by omega) with h | ⟨h, _⟩
          · exact bl_trans _ _ _ h e1
          · cases e : Op.bytesLess (F (p i)) (F (p m))
            · have := bl_ntrans _ _ _ h e; rw [e1] at this; cases this
            · rfl
        · have : i = m - 1 := by omega
          rw [this]; exact e1
      refine ⟨List.pairwise_append.2 ⟨h1, by simp, fun a ha b hb => ?_⟩, fun a ha => ?_, fun i hi => ?_⟩
      · simp only [List.mem_singleton] at hb
        subst hb
        obtain ⟨i, hi, rfl, _⟩ := h2 a ha
        exact hne2 i hi
      · rcases List.mem_append.1 ha with ha | ha
        · obtain ⟨i, hi, e⟩ := h2 a ha
          exact ⟨i, by omega, e⟩
        · simp only [List.mem_singleton] at ha
          subst ha
          refine ⟨m, by omega, rfl, fun j hj he => ?_⟩
          obtain ⟨i, hi, rfl⟩ := surj j hj
          rcases Nat.lt_trichotomy i m with h | h | h
          · have := hne2 i h; rw [he, bl_irr] at this; cases this
          · rw [h]; exact Nat.le_refl _
          · rcases hr m i (by omega) h hi with h' | ⟨_, h'⟩
            · unfold ltF at h'; rw [he, bl_irr] at h'; cases h'
            · omega
      · rcases Nat.lt_or_ge i m with h | h
        · obtain ⟨a, ha, e⟩ := h3 i h
          exact ⟨a, List.mem_append_left _ ha, e⟩
        · have : i = m := by omega
          exact ⟨p m, by simp, by rw [this]⟩
    · rename_i hne
      refine ⟨h1, fun a ha => ?_, fun i hi => ?_⟩
      · obtain ⟨i, hi, e⟩ := h2 a ha
        exact ⟨i, by omega, e⟩
      · rcases Nat.lt_or_ge i m with h | h
        · exact h3 i h
        · have hm0 : ¬ m = 0 := fun e => hne (.inl e)
          have he : F (p m) = F (p (m - 1)) := Classical.byContradiction fun e => hne (.inr e)
          have : i = m := by omega
          rw [this, he]
          exact h3 (m - 1) (by omega)
theorem kept_firsts {F : List UInt8 → List UInt8} {xs : List (List UInt8)} {p : Nat → Nat} (hp : Inj xs.length p) (hr : Rise (LL (ltF fun i => F (xs[i]?.getD []))) p 0 xs.length) : Firsts F xs ((kept (fun i => F (xs[i]?.getD [])) p xs.length).map fun i => xs[i]?.getD []) := by
  obtain ⟨h1, h2, h3⟩ := kept_spec hp hr xs.length (Nat.le_refl _)
  refine ⟨?_, fun x => ?_⟩
  · rw [List.pairwise_map]; exact h1
  · rw [List.mem_map]
    constructor
    · rintro ⟨a, ha, rfl⟩
      obtain ⟨i, hi, rfl, hmin⟩ := h2 a ha
      have hlt := hp.lt i hi
      refine ⟨p i, by rw [List.getElem?_eq_getElem hlt]; rfl, fun j y hj hy e => ?_⟩
      have := hmin j (by omega) (by rw [hy]; exact e)
      omega
    · rintro ⟨i, hi, hf⟩
      have hil : i < xs.length := (List.getElem?_eq_some_iff.1 hi).1
      obtain ⟨k, hk, e⟩ := Inj.surj hp i hil
      obtain ⟨a, ha, e2⟩ := h3 k hk
      obtain ⟨q, hq, e3, hmin⟩ := h2 a ha
      have h4 := hmin i hil (by rw [e2, e])
      refine ⟨a, ha, ?_⟩
      rcases Nat.lt_or_ge a i with h | h
      · have hal : a < xs.length := by omega
        exfalso
        refine hf a (xs[a]?.getD []) h (by rw [List.getElem?_eq_getElem hal]; rfl) ?_
        rw [e2, e, hi]; rfl
      · have : a = i := by omega
        rw [this, hi]; rfl
end Go.Proofs.Ytdphkaiijlekhaa
namespace Go.Proofs.Ytdphkaiijlekhaa
open Go Go.Eng
/-- Alike, or anything. -/
def AnL : List SV → List SV → Prop
  | [], [] => True
  | a :: l, b :: m => (b = .any ∨ a = b) ∧ AnL l m
  | _, _ => False
theorem AnL.len : ∀ {l m : List SV}, AnL l m → l.length = m.length
  | [], [], _ => rfl
  | _ :: _, _ :: _, h => congrArg (· + 1) (AnL.len h.2)
theorem AnL.at : ∀ {l m : List SV}, AnL l m → ∀ (j : Nat) (s t : SV), l[j]? = some s → m[j]? = some t → t = .any ∨ s = t
  | [], [], _, _, _, _, ht, _ => by simp at ht
  | _ :: _, _ :: _, h, 0, s, t, hs, ht => by simp at hs ht; subst hs ht; exact h.1
  | _ :: l, _ :: m, h, j + 1, s, t, hs, ht => AnL.at (l := l) (m := m) h.2 j s t (by simpa using hs) (by simpa using ht)
theorem COk.anyA {P : Program} {f : FuncId} {args args' : List SV} {ks : List KB} {R : SV → List KB → Prop} (h : COk P f args ks R) (hc : AnL args' args) : COk P f args' ks R :=
  ⟨h.1, fun X w β fp vs hM hl hd => h.2 X w β fp vs hM (by rw [← hc.len, hl]) (fun j s u hs hu => by
    have hj : j < args'.length := by rw [hc.len]; exact (List.getElem?_eq_some_iff.1 hs).1
    have hb := hd j _ u (List.getElem?_eq_getElem hj) hu
    rcases hc.at j _ s (List.getElem?_eq_getElem hj) hs with e | e
    · subst e; exact .any u
    · rw [← e]; exact hb)⟩
theorem subZ_self (z : Z) : SubZ z z := by cases z <;> exact True.intro
/-- The cells of an element. -/
def cel (x : Nat) : List DV := [.int .i64 (x : Int)]
def rowP (n : Nat) (z : Z) (p : Nat → Nat) : KB := .row 3 1 n z (fun i => cel (p i))
def iV (x : Nat) : SV := .d (.int .i64 (x : Int))
theorem oneF_cel (q : Nat → Nat) (j y : Nat) : oneF j 0 (cel y) (fun i => cel (q i)) = fun i => cel (upd q j y i) := by
  funext i
  unfold oneF upd
  split
  · rfl
  · rfl
theorem upd_two {α : Type} (q : Nat → α) (j k : Nat) (h : j < k) : upd (upd q j (q k)) k (q j) = swp q j k 1 := by
  funext x; unfold upd swp; (try dsimp only); repeat' split
  all_goals first | rfl | (exfalso; omega) | (congr 1; omega)
/-- Two stores. -/
theorem puts_two (q : Nat → Nat) (j k : Nat) (h : j < k) : oneF k 0 (cel (q j)) (oneF j 0 (cel (q k)) (fun x => cel (q x))) = fun x => cel (swp q j k 1 x) := by
  rw [oneF_cel, oneF_cel, upd_two q j k h]
theorem puts_two' (q : Nat → Nat) (j k : Nat) (h : j < k) : oneF j 0 (cel (q k)) (oneF k 0 (cel (q j)) (fun x => cel (q x))) = fun x => cel (swp q j k 1 x) := by
  rw [oneF_cel, oneF_cel, ← upd_two q j k h]
  funext x; unfold upd; repeat' split
  all_goals first | rfl | omega | (congr 1; omega)
set_option maxRecDepth 100000
set_option maxHeartbeats 4000000 in
theorem swap_ok (n : Nat) (hn : n < 1152921504606846976) (z : Z) (p : Nat → Nat) (a b m : Nat) (ha : a + m ≤ n) (hb : b + m ≤ n) (hab : a + m ≤ b) : COk Try.prog 185 [.all 0, iV a, iV b, iV m, .any] [rowP n z p] (fun s k => s = .tup [] ∧ k = [rowP n z (swp p a b m)]) := by
  refine cOk_of_run (TT := TT) (IN := lookI []) TT_ok INok_nil mixed 1000 Try.func185 rfl (enters Try.func185 (by kernel_rfl) rfl) 33 (by kernel_rfl) ?_
  conv => whnf
  refine .inv Nat (fun i => i ≤ m) (fun i => [(10, iV i)]) (fun i => [(0, rowP n z (swp p a b i))]) (fun i => m - i) ⟨0, [0], by omega, ?_⟩ ?_
  · conv => whnf
    rw [swp_zero]
    repeat' (first | exact True.intro | exact rfl | exact subZ_self _ | exact Or.inr rfl | exact fun _ _ => rfl | refine And.intro ?_ ?_)
  intro i hi
  conv => whnf
  refine ⟨fun h1 => ?_, fun h1 => ?_⟩
  · have h1 : i < m := by have h : (i : Int) < m := of_decide_eq_true h1
                          omega
    have e1 : IntKind.i64.wrap ((a : Int) + (i : Int)) = ((a + i : Nat) : Int) := by rw [w64_in _ (by omega)]; omega
    have e2 : IntKind.i64.wrap ((b : Int) + (i : Int)) = ((b + i : Nat) : Int) := by rw [w64_in _ (by omega)]; omega
    conv => whnf
    refine ⟨?_, ?_, ?_, ?_⟩
    rotate_left 2
    · conv => whnf
      rw [e1, e2]
      repeat' (first | exact ⟨rfl, rfl⟩ | (refine ⟨⟨by omega, by omega⟩, ?_⟩; conv => whnf) | exact True.intro | refine And.intro ?_ ?_ | (conv => whnf))
    · conv => whnf
      refine ⟨i + 1, [0], by omega, by show m - (i + 1) < m - i; omega, ?_⟩
      have e3 : IntKind.i64.wrap ((i : Int) + 1) = ((i + 1 : Nat) : Int) := by rw [w64_in _ (by omega)]; omega
      rw [e3]
      conv => whnf
      repeat' (first | exact True.intro | exact rfl | exact subZ_self _ | exact Or.inr rfl | exact fun _ _ => rfl | refine And.intro ?_ ?_)
      intro x hx
      rw [e1]
      exact (congrFun (puts_two (swp p a b i) (a + i) (b + i) (by omega)) x).trans (congrArg (fun f => cel (f x)) (swp_one p a b i (by omega)))
  · have h1 : i = m := by have h : ¬ ((i : Int) < m) := of_decide_eq_false h1
                          omega
    subst h1
    conv => whnf
    refine ⟨[0], _, _, rfl, rfl, ?_, ?_, rfl, rfl⟩
    · exact rfl
    · conv => whnf
      repeat' (first | exact True.intro | exact rfl | exact subZ_self _ | exact Or.inr rfl | exact fun _ _ => rfl | refine And.intro ?_ ?_)
set_option maxHeartbeats 4000000 in
theorem rotate_ok (n : Nat) (hn : n < 1152921504606846976) (z : Z) (p : Nat → Nat) (a m b : Nat) (ha : a < m) (hb : m < b) (hbn : b ≤ n) : COk Try.prog 182 [.all 0, iV a, iV m, iV b, .any] [rowP n z p] (fun s k => s = .tup [] ∧ k = [rowP n z (rot p a m b)]) := by
  refine cOk_of_run (TT := TT) (IN := lookI []) TT_ok INok_nil mixed 1000 Try.func182 rfl (enters Try.func182 (by kernel_rfl) rfl) 53 (by kernel_rfl) ?_
  have e1 : IntKind.i64.wrap ((m : Int) - (a : Int)) = ((m - a : Nat) : Int) := by rw [w64_in _ (by omega)]; omega
  have e2 : IntKind.i64.wrap ((b : Int) - (m : Int)) = ((b - m : Nat) : Int) := by rw [w64_in _ (by omega)]; omega
  conv => whnf
  rw [e1, e2]
  refine .inv (Nat × Nat × (Nat → Nat)) (fun s => 0 < s.1 ∧ 0 < s.2.1 ∧ s.1 ≤ m - a ∧ s.2.1 ≤ b - m ∧ rot s.2.2 (m - s.1) m (m + s.2.1) = rot p a m b) (fun s => [(10, iV s.1), (11, iV s.2.1)]) (fun s => [(0, rowP n z s.2.2)]) (fun s => s.1 + s.2.1) ⟨(m - a, b - m, p), [0], show 0 < m - a ∧ 0 < b - m ∧ m - a ≤ m - a ∧ b - m ≤ b - m ∧ rot p (m - (m - a)) m (m + (b - m)) = rot p a m b from ⟨by omega, by omega, by omega, by omega, ?_⟩, ?_⟩ ?_
  ·     rw [show m - (m - a) = a by omega, show m + (b - m) = b by omega]
  · conv => whnf
    repeat' (first | exact True.intro | exact rfl | exact subZ_self _ | exact Or.inr rfl | exact fun _ _ => rfl | refine And.intro ?_ ?_)
  intro s hs
  obtain ⟨i, j, q⟩ := s
  obtain ⟨h0, h00, him, hjb, hq⟩ := hs
  dsimp only at h0 h00 him hjb hq
  conv => whnf
  refine ⟨fun h1 => ?_, fun h1 => ?_⟩
  · have h1 : ¬ i = j := fun e => by subst e; simp at h1
    conv => whnf
    refine ⟨fun h2 => ?_, fun h2 => ?_⟩
    · have h2 : j < i := by have h : (i : Int) > j := of_decide_eq_true h2
                            omega
      have e3 : IntKind.i64.wrap ((m : Int) - (i : Int)) = ((m - i : Nat) : Int) := by rw [w64_in _ (by omega)]; omega
      conv => whnf
      rw [e3]
      refine .rel _ (swap_ok n hn z q (m - i) m j (by omega) (by omega) (by omega)) (fun r ks' hR => ?_)
      obtain ⟨rfl, rfl⟩ := hR
      have e4 : IntKind.i64.wrap ((i : Int) - (j : Int)) = ((i - j : Nat) : Int) := by rw [w64_in _ (by omega)]; omega
      conv => whnf
      rw [e4]
      refine ⟨(i - j, j, swp q (m - i) m j), [0], (show 0 < i - j ∧ 0 < j ∧ i - j ≤ m - a ∧ j ≤ b - m ∧ rot (swp q (m - i) m j) (m - (i - j)) m (m + j) = rot p a m b from ⟨by omega, by omega, by omega, by omega, (rot_left q m i j h2 (by omega)).trans hq⟩), by show i - j + j < i + j; omega, ?_⟩
      conv => whnf
      repeat' (first | exact True.intro | exact rfl | exact subZ_self _ | exact Or.inr rfl | exact fun _ _ => rfl | refine And.intro ?_ ?_)
    · have h2 : i < j := by have h : ¬ ((i : Int) > j) := of_decide_eq_false h2
                            omega
      have e3 : IntKind.i64.wrap ((m : Int) - (i : Int)) = ((m - i : Nat) : Int) := by rw [w64_in _ (by omega)]; omega
      have e5 : IntKind.i64.wrap (IntKind.i64.wrap ((m : Int) + (j : Int)) - (i : Int)) = ((m + j - i : Nat) : Int) := by rw [w64_in ((m : Int) + j) (by omega), w64_in _ (by omega)]; omega
      conv => whnf
      rw [e3, e5]
      refine .rel _ (swap_ok n hn z q (m - i) (m + j - i) i (by omega) (by omega) (by omega)) (fun r ks' hR => ?_)
      obtain ⟨rfl, rfl⟩ := hR
      have e4 : IntKind.i64.wrap ((j : Int) - (i : Int)) = ((j - i : Nat) : Int) := by rw [w64_in _ (by omega)]; omega
      conv => whnf
      rw [e4]
      refine ⟨(i, j - i, swp q (m - i) (m + j - i) i), [0], (show 0 < i ∧ 0 < j - i ∧ i ≤ m - a ∧ j - i ≤ b - m ∧ rot (swp q (m - i) (m + j - i) i) (m - i) m (m + (j - i)) = rot p a m b from ⟨by omega, by omega, by omega, by omega, (rot_right q m i j h2 (by omega)).trans hq⟩), by show i + (j - i) < i + j; omega, ?_⟩
      conv => whnf
      repeat' (first | exact True.intro | exact rfl | exact subZ_self _ | exact Or.inr rfl | exact fun _ _ => rfl | refine And.intro ?_ ?_)
  · have h1 : i = j := by simp at h1; omega
    subst h1
    have e3 : IntKind.i64.wrap ((m : Int) - (i : Int)) = ((m - i : Nat) : Int) := by rw [w64_in _ (by omega)]; omega
    conv => whnf
    rw [e3]
    refine .rel _ (swap_ok n hn z q (m - i) m i (by omega) (by omega) (by omega)) (fun r ks' hR => ?_)
    obtain ⟨rfl, rfl⟩ := hR
    rw [rot_same q m i (by omega), hq]
    conv => whnf
    refine ⟨[0], _, _, rfl, rfl, ?_, ?_, rfl, rfl⟩
    · exact rfl
    · conv => whnf
      repeat' (first | exact True.intro | exact rfl | exact subZ_self _ | exact Or.inr rfl | exact fun _ _ => rfl | refine And.intro ?_ ?_)
end Go.Proofs.Ytdphkaiijlekhaa
namespace Go.Proofs.Ytdphkaiijlekhaa
open Go Go.Eng
/-- What the comparison has captured, and the known blocks behind it. -/
def cCap : List SV := [.ptr 1 0]
def cRest (nf : Nat) (zf : Z) (fo : Nat → List DV) : List KB := [.cells 31 [.all 2], .row 9 1 nf zf fo]
def ltC (c : Nat → Nat → Int) (x y : Nat) : Bool := decide (c x y < 0)
/-- The comparison. -/
def CmpOk (g : FuncId) (c : Nat → Nat → Int) (n : Nat) (z : Z) (nf : Nat) (zf : Z) (fo : Nat → List DV) : Prop :=
  ∀ (q : Nat → Nat) (x y : Nat), x < n → y < n → COk Try.prog g (iV x :: iV y :: cCap) (rowP n z q :: cRest nf zf fo) (fun s k => s = .d (.int .i64 (c x y)) ∧ k = rowP n z q :: cRest nf zf fo)
set_option maxRecDepth 100000
set_option maxHeartbeats 4000000 in
theorem ins_ok (n : Nat) (hn : n < 1152921504606846976) (z : Z) (p : Nat → Nat) (c : Nat → Nat → Int) (g : FuncId) (nf : Nat) (zf : Z) (fo : Nat → List DV) (hg : CmpOk g c n z nf zf fo) (hw : Weak n (ltC c)) (hp : Inj n p) (a b : Nat) (hab : a ≤ b) (hb : b ≤ n) (hasc : ∀ i j, a ≤ i → i < j → j < b → p i < p j) : COk Try.prog 176 [.all 0, iV a, iV b, .fn g cCap] (rowP n z p :: cRest nf zf fo) (fun s k => s = .tup [] ∧ ∃ r, Merged (L := LL (ltC c)) p r n a b ∧ k = rowP n z r :: cRest nf zf fo) := by
  refine cOk_of_run (TT := TT) (IN := lookI []) TT_ok INok_nil mixed 1000 Try.func176 rfl (enters Try.func176 (by kernel_rfl) rfl) 49 (by kernel_rfl) ?_
  have e1 : IntKind.i64.wrap ((a : Int) + 1) = ((a + 1 : Nat) : Int) := by rw [w64_in _ (by omega)]; omega
  conv => whnf
  rw [e1]
  refine .inv (Nat × (Nat → Nat)) (fun s => a + 1 ≤ s.1 ∧ (s.1 ≤ b ∨ (s.1 = a + 1 ∧ s.2 = p)) ∧ Merged (L := LL (ltC c)) p s.2 n a s.1) (fun s => [(8, iV s.1)]) (fun s => [(0, rowP n z s.2)]) (fun s => n + 1 - s.1) ⟨(a + 1, p), [0, 1, 2], show a + 1 ≤ a + 1 ∧ (a + 1 ≤ b ∨ (a + 1 = a + 1 ∧ p = p)) ∧ Merged (L := LL (ltC c)) p p n a (a + 1) from ⟨by omega, .inr ⟨rfl, rfl⟩, .stay hp (fun i j _ _ _ => by omega)⟩, ?_⟩ ?_
  · conv => whnf
    repeat' (first | exact True.intro | exact rfl | exact subZ_self _ | exact Or.inr rfl | exact fun _ _ => rfl | refine And.intro ?_ ?_)
  intro s hs
  obtain ⟨i, q⟩ := s
  obtain ⟨hai, hib, hm⟩ := hs
  have hai : a + 1 ≤ i := hai
  have hib : i ≤ b ∨ (i = a + 1 ∧ q = p) := hib
  have hm : Merged (L := LL (ltC c)) p q n a i := hm
  conv => whnf
  refine ⟨fun h1 => ?_, fun h1 => ?_⟩
  · have h1 : i < b := by have h : (i : Int) < b := of_decide_eq_true h1
                          omega
    have asc : ∀ t, a ≤ t → t < i → q t < q i := fun t h3 h4 => by
      obtain ⟨t', b1, b2, b3⟩ := hm.same.fwd t h3 h4
      rw [b3, hm.same.out i (by omega)]
      exact hasc t' i b1 b2 h1
    have next : ∀ j, a ≤ j → j ≤ i → (j = a ∨ LL (ltC c) (q (j - 1)) (q i)) → (j = i ∨ LL (ltC c) (q i) (q j)) → Merged (L := LL (ltC c)) p (rot q j i (i + 1)) n a (i + 1) := fun j h3 h4 h5 h6 => by
      have := down_of hw.ord hm.inj (show i < n by omega) h3 h4 hm.rise h5 h6
      exact ⟨this.inj, (hm.same.wide (Nat.le_refl _) (by omega)).trans this.same, this.rise⟩
    have e6 : IntKind.i64.wrap ((i : Int) + 1) = ((i + 1 : Nat) : Int) := by rw [w64_in _ (by omega)]; omega
    conv => whnf
    refine .inv Nat (fun j => a ≤ j ∧ j ≤ i ∧ (j = i ∨ LL (ltC c) (q i) (q j))) (fun j => [(9, iV j)]) (fun j => [(0, rowP n z (rot q j i (i + 1)))]) (fun j => j) ⟨i, [0, 1, 2], ⟨by omega, by omega, .inl rfl⟩, ?_⟩ ?_
    · conv => whnf
      rw [rot_id1 q i (i + 1) (by omega)]
      repeat' (first | exact True.intro | exact rfl | exact subZ_self _ | exact Or.inr rfl | exact fun _ _ => rfl | refine And.intro ?_ ?_)
    intro j hj
    obtain ⟨haj, hji, hjL⟩ := hj
    conv => whnf
    refine ⟨fun h2 => ?_, fun h2 => ?_⟩
    · have h2 : a < j := by have h : (j : Int) > a := of_decide_eq_true h2
                            omega
      have e2 : IntKind.i64.wrap ((j : Int) - 1) = ((j - 1 : Nat) : Int) := by rw [w64_in _ (by omega)]; omega
      have e3 : rot q j i (i + 1) j = q i := by rw [rot_a q (by omega) (by omega)]; congr 1; omega
      have e4 : rot q j i (i + 1) (j - 1) = q (j - 1) := rot_o q (by omega) (by omega) (by omega)
      conv => whnf
      refine ⟨by omega, ?_⟩
      conv => whnf
      rw [e2]
      refine ⟨by omega, ?_⟩
      conv => whnf
      rw [Int.toNat_natCast, Int.toNat_natCast, e3, e4]
      refine .mem _ _ (hg _ _ _ (hm.inj.lt i (by omega)) (hm.inj.lt (j - 1) (by omega))) ?_
      conv => whnf
      refine ⟨fun h3 => ?_, fun h3 => ?_⟩
      · have h3 : ltC c (q i) (q (j - 1)) = true := h3
        conv => whnf
        refine ⟨?_, ?_, ?_, ?_⟩
        rotate_left 2
        · conv => whnf
          rw [e2]
          repeat' (first | exact ⟨rfl, rfl⟩ | (refine ⟨⟨by omega, by omega⟩, ?_⟩; conv => whnf) | exact True.intro | refine And.intro ?_ ?_ | (conv => whnf))
        · conv => whnf
          rw [e2]
          refine ⟨j - 1, [0, 1, 2], ⟨by omega, by omega, .inr (.inl h3)⟩, by omega, ?_⟩
          conv => whnf
          repeat' (first | exact True.intro | exact rfl | exact subZ_self _ | exact Or.inr rfl | exact fun _ _ => rfl | refine And.intro ?_ ?_)
          intro x hx
          rw [Int.toNat_natCast, Int.toNat_natCast]
          have := puts_two' (rot q j i (i + 1)) (j - 1) j (by omega)
          have e5 := rot_down q i (j - 1) (by omega)
          rw [show j - 1 + 1 = j by omega] at e5
          exact (congrFun this x).trans (congrArg (fun f => cel (f x)) e5)
      · have h3 : ltC c (q i) (q (j - 1)) = false := h3
        have hL : LL (ltC c) (q (j - 1)) (q i) := .inr ⟨h3, asc (j - 1) (by omega) (by omega)⟩
        conv => whnf
        refine ⟨(i + 1, rot q j i (i + 1)), [0, 1, 2], (show a + 1 ≤ i + 1 ∧ (i + 1 ≤ b ∨ (i + 1 = a + 1 ∧ rot q j i (i + 1) = p)) ∧ Merged (L := LL (ltC c)) p (rot q j i (i + 1)) n a (i + 1) from ⟨by omega, .inl (by omega), next j haj hji (.inr hL) hjL⟩), by show n + 1 - (i + 1) < n + 1 - i; omega, ?_⟩
        conv => whnf
        rw [e6]
        repeat' (first | exact True.intro | exact rfl | exact subZ_self _ | exact Or.inr rfl | exact fun _ _ => rfl | refine And.intro ?_ ?_)
    · have h2 : j = a := by have h : ¬ ((j : Int) > a) := of_decide_eq_false h2
                            omega
      conv => whnf
      refine ⟨(i + 1, rot q j i (i + 1)), [0, 1, 2], (show a + 1 ≤ i + 1 ∧ (i + 1 ≤ b ∨ (i + 1 = a + 1 ∧ rot q j i (i + 1) = p)) ∧ Merged (L := LL (ltC c)) p (rot q j i (i + 1)) n a (i + 1) from ⟨by omega, .inl (by omega), next j haj hji (.inl h2) hjL⟩), by show n + 1 - (i + 1) < n + 1 - i; omega, ?_⟩
      conv => whnf
      rw [e6]
      repeat' (first | exact True.intro | exact rfl | exact subZ_self _ | exact Or.inr rfl | exact fun _ _ => rfl | refine And.intro ?_ ?_)
  · have h1 : b ≤ i := by have h : ¬ ((i : Int) < b) := of_decide_eq_false h1
                          omega
    conv => whnf
    refine ⟨[0, 1, 2], _, _, rfl, rfl, ?_, ?_, rfl, q, ?_, rfl⟩
    · exact rfl
    · conv => whnf
      repeat' (first | exact True.intro | exact rfl | exact subZ_self _ | exact Or.inr rfl | exact fun _ _ => rfl | refine And.intro ?_ ?_)
    · rcases hib with h | h
      · have : i = b := by omega
        rw [← this]; exact hm
      · rw [h.2]
        exact .stay hp (fun i j _ _ _ => by omega)
end Go.Proofs.Ytdphkaiijlekhaa
namespace Go.Proofs.Ytdphkaiijlekhaa
open Go Go.Eng
theorem rot_in (n : Nat) (hn : n < 1152921504606846976) (z : Z) (p : Nat → Nat) (a m b : Nat) (ha : a < m) (hb : m < b) (hbn : b ≤ n) (g : FuncId) (nf : Nat) (zf : Z) (fo : Nat → List DV) : COk Try.prog 182 [.all 0, iV a, iV m, iV b, .fn g cCap] (rowP n z p :: cRest nf zf fo) (fun s k => s = .tup [] ∧ k = rowP n z (rot p a m b) :: cRest nf zf fo) := by
  refine COk.anyA (COk.frame (rotate_ok n hn z p a m b ha hb hbn) [0] («as» := [.all 0, iV a, iV m, iV b, .any]) rfl rfl rfl (fun s0 k0 h => ?_)) ⟨.inr rfl, .inr rfl, .inr rfl, .inr rfl, .inl rfl, True.intro⟩
  obtain ⟨rfl, rfl⟩ := h
  exact ⟨rfl, rfl⟩
theorem half (i j : Nat) (h : i + j < 9223372036854775808) : IntKind.i64.wrap ((IntKind.u64.wrap (IntKind.i64.wrap ((i : Int) + (j : Int)))).fdiv (2 ^ (min (Int.toNat 1) IntKind.u64.bits))) = (((i + j) / 2 : Nat) : Int) := by
  rw [w64_in ((i : Int) + (j : Int)) (by omega), IntKind.wrap_u64]
  rw [show (2 : Int) ^ (min (Int.toNat 1) IntKind.u64.bits) = 2 from rfl, Int.fdiv_eq_ediv_of_nonneg _ (by omega)]
  rw [w64_in _ (by omega)]
  omega
set_option maxRecDepth 100000
set_option maxHeartbeats 8000000 in
theorem sym_ok (n : Nat) (hn : n < 1152921504606846976) (z : Z) (c : Nat → Nat → Int) (g : FuncId) (nf : Nat) (zf : Z) (fo : Nat → List DV) (hg : CmpOk g c n z nf zf fo) (hw : Weak n (ltC c)) : ∀ (k : Nat) (p : Nat → Nat) (a m b : Nat), b - a < k → Inj n p → a < m → m < b → b ≤ n → Rise (LL (ltC c)) p a m → Rise (LL (ltC c)) p m b → Sep p a m b →
    COk Try.prog 177 [.all 0, iV a, iV m, iV b, .fn g cCap] (rowP n z p :: cRest nf zf fo) (fun s k => s = .tup [] ∧ ∃ r, Merged (L := LL (ltC c)) p r n a b ∧ k = rowP n z r :: cRest nf zf fo) := by
  intro k
  induction k with
  | zero => intro p a m b h; omega
  | succ k ih =>
  intro p a m b hk hp ham hmb hbn h1 h2 hs
  refine cOk_of_run (TT := TT) (IN := lookI []) TT_ok INok_nil mixed 1000 Try.func177 rfl (enters Try.func177 (by kernel_rfl) rfl) 215 (by kernel_rfl) ?_
  have e1 : IntKind.i64.wrap ((m : Int) - (a : Int)) = ((m - a : Nat) : Int) := by rw [w64_in _ (by omega)]; omega
  have e2 : IntKind.i64.wrap ((b : Int) - (m : Int)) = ((b - m : Nat) : Int) := by rw [w64_in _ (by omega)]; omega
  conv => whnf
  rw [e1]
  refine ⟨fun c1 => ?_, fun c1 => ?_⟩
  · have c1 : m = a + 1 := by simp at c1; omega
    subst c1
    conv => whnf
    refine .inv (Nat × Nat) (fun s => a + 1 ≤ s.1 ∧ s.1 ≤ s.2 ∧ s.2 ≤ b ∧ (s.1 = a + 1 ∨ LL (ltC c) (p (s.1 - 1)) (p a)) ∧ (s.2 = b ∨ LL (ltC c) (p a) (p s.2))) (fun s => [(10, iV s.1), (11, iV s.2)]) (fun s => []) (fun s => s.2 - s.1) ⟨(a + 1, b), [0, 1, 2], ⟨show a + 1 ≤ a + 1 by omega, show a + 1 ≤ b by omega, show b ≤ b by omega, .inl rfl, .inl rfl⟩, ?_⟩ ?_
    · conv => whnf
      repeat' (first | exact True.intro | exact rfl | exact subZ_self _ | exact Or.inr rfl | exact fun _ _ => rfl | exact fun _ h => absurd h (Nat.not_lt_zero _) | refine And.intro ?_ ?_)
    intro s hs2
    obtain ⟨q1, q2, q3, q4, q5⟩ := hs2
    conv => whnf
    generalize s.1 = i at q1 q2 q4 ⊢
    generalize s.2 = j at q2 q3 q5 ⊢
    refine ⟨fun h3 => ?_, fun h3 => ?_⟩
    · have h3 : i < j := by have h : (i : Int) < j := of_decide_eq_true h3
                            omega
      conv => whnf
      refine ⟨by omega, ?_⟩
      conv => whnf
      rw [half i j (by omega)]
      have g1 : i ≤ (i + j) / 2 := by omega
      have g2 : (i + j) / 2 < j := by omega
      generalize (i + j) / 2 = h at g1 g2 ⊢
      refine ⟨by omega, ?_⟩
      conv => whnf
      refine ⟨by omega, ?_⟩
      conv => whnf
      rw [Int.toNat_natCast, Int.toNat_natCast]
      refine .mem _ _ (hg _ _ _ (hp.lt h (by omega)) (hp.lt a (by omega))) ?_
      conv => whnf
      refine ⟨fun h4 => ?_, fun h4 => ?_⟩
      · have h4 : ltC c (p h) (p a) = true := h4
        conv => whnf
        rw [show IntKind.i64.wrap ((h : Int) + 1) = ((h + 1 : Nat) : Int) by rw [w64_in _ (by omega)]; omega]
        refine ⟨(h + 1, j), [0, 1, 2], ⟨show a + 1 ≤ h + 1 by omega, show h + 1 ≤ j by omega, q3, .inr (.inl h4), q5⟩, by show j - (h + 1) < j - i; omega, ?_⟩
        conv => whnf
        repeat' (first | exact True.intro | exact rfl | exact subZ_self _ | exact Or.inr rfl | exact fun _ _ => rfl | exact fun _ h => absurd h (Nat.not_lt_zero _) | refine And.intro ?_ ?_)
      · have h4 : ltC c (p h) (p a) = false := h4
        conv => whnf
        refine ⟨(i, h), [0, 1, 2], ⟨q1, g1, show h ≤ b by omega, q4, .inr (.inr ⟨h4, hs a h (by omega) (by omega) (by omega) (by omega)⟩)⟩, by show h - i < j - i; omega, ?_⟩
        conv => whnf
        repeat' (first | exact True.intro | exact rfl | exact subZ_self _ | exact Or.inr rfl | exact fun _ _ => rfl | exact fun _ h => absurd h (Nat.not_lt_zero _) | refine And.intro ?_ ?_)
    · have h3 : i = j := by have h : ¬ (i : Int) < j := of_decide_eq_false h3
                            omega
      subst h3
      have hfin := up_of hw.ord hp hbn q1 q3 h2 q4 q5
      have ei : IntKind.i64.wrap ((i : Int) - 1) = ((i - 1 : Nat) : Int) := by rw [w64_in _ (by omega)]; omega
      conv => whnf
      refine .inv Nat (fun k => a ≤ k ∧ k + 1 ≤ i) (fun k => [(13, iV k)]) (fun k => [(0, rowP n z (rot p a (a + 1) (k + 1)))]) (fun k => i - k) ⟨a, [0, 1, 2], ⟨by omega, by omega⟩, ?_⟩ ?_
      · conv => whnf
        rw [rot_id2 p a (a + 1) (by omega)]
        repeat' (first | exact True.intro | exact rfl | exact subZ_self _ | exact Or.inr rfl | exact fun _ _ => rfl | exact fun _ h => absurd h (Nat.not_lt_zero _) | refine And.intro ?_ ?_)
      intro k hk2
      obtain ⟨r1, r2⟩ := hk2
      conv => whnf
      rw [ei]
      refine ⟨fun h3 => ?_, fun h3 => ?_⟩
      · have h3 : k < i - 1 := by have h : (k : Int) < ((i - 1 : Nat) : Int) := of_decide_eq_true h3
                                  omega
        have ek : IntKind.i64.wrap ((k : Int) + 1) = ((k + 1 : Nat) : Int) := by rw [w64_in _ (by omega)]; omega
        conv => whnf
        refine ⟨?_, ?_, ?_, ?_⟩
        rotate_left 2
        · conv => whnf
          rw [ek]
          repeat' (first | exact ⟨rfl, rfl⟩ | (refine ⟨⟨by omega, by omega⟩, ?_⟩; conv => whnf) | exact True.intro | refine And.intro ?_ ?_ | (conv => whnf))
        · conv => whnf
          rw [ek]
          refine ⟨k + 1, [0, 1, 2], ⟨by omega, by omega⟩, by omega, ?_⟩
          conv => whnf
          repeat' (first | exact True.intro | exact rfl | exact subZ_self _ | exact Or.inr rfl | exact fun _ _ => rfl | exact fun _ h => absurd h (Nat.not_lt_zero _) | refine And.intro ?_ ?_)
          intro x hx
          rw [Int.toNat_natCast, Int.toNat_natCast]
          have := puts_two (rot p a (a + 1) (k + 1)) k (k + 1) (by omega)
          exact (congrFun this x).trans (congrArg (fun f => cel (f x)) (rot_up p a k (by omega)))
      · have h3 : k + 1 = i := by have h : ¬ (k : Int) < ((i - 1 : Nat) : Int) := of_decide_eq_false h3
                                  omega
        rw [h3]
        conv => whnf
        refine ⟨[0, 1, 2], _, _, rfl, rfl, ?_, ?_, rfl, _, hfin, rfl⟩
        · exact rfl
        · conv => whnf
          repeat' (first | exact True.intro | exact rfl | exact subZ_self _ | exact Or.inr rfl | exact fun _ _ => rfl | exact fun _ h => absurd h (Nat.not_lt_zero _) | refine And.intro ?_ ?_)
  have c1 : ¬ m = a + 1 := by simp at c1; omega
  conv => whnf
  rw [e2]
  refine ⟨fun c2 => ?_, fun c2 => ?_⟩
  · have c2 : b = m + 1 := by simp at c2; omega
    subst c2
    conv => whnf
    refine .inv (Nat × Nat) (fun s => a ≤ s.1 ∧ s.1 ≤ s.2 ∧ s.2 ≤ m ∧ (s.1 = a ∨ LL (ltC c) (p (s.1 - 1)) (p m)) ∧ (s.2 = m ∨ LL (ltC c) (p m) (p s.2))) (fun s => [(14, iV s.1), (15, iV s.2)]) (fun s => []) (fun s => s.2 - s.1) ⟨(a, m), [0, 1, 2], ⟨show a ≤ a by omega, show a ≤ m by omega, show m ≤ m by omega, .inl rfl, .inl rfl⟩, ?_⟩ ?_
    · conv => whnf
      repeat' (first | exact True.intro | exact rfl | exact subZ_self _ | exact Or.inr rfl | exact fun _ _ => rfl | exact fun _ h => absurd h (Nat.not_lt_zero _) | refine And.intro ?_ ?_)
    intro s hs2
    obtain ⟨q1, q2, q3, q4, q5⟩ := hs2
    conv => whnf
    generalize s.1 = i at q1 q2 q4 ⊢
    generalize s.2 = j at q2 q3 q5 ⊢
    refine ⟨fun h3 => ?_, fun h3 => ?_⟩
    · have h3 : i < j := by have h : (i : Int) < j := of_decide_eq_true h3
                            omega
      conv => whnf
      refine ⟨by omega, ?_⟩
      conv => whnf
      rw [half i j (by omega)]
      have g1 : i ≤ (i + j) / 2 := by omega
      have g2 : (i + j) / 2 < j := by omega
      generalize (i + j) / 2 = h at g1 g2 ⊢
      refine ⟨by omega, ?_⟩
      conv => whnf
      refine ⟨by omega, ?_⟩
      conv => whnf
      rw [Int.toNat_natCast, Int.toNat_natCast]
      refine .mem _ _ (hg _ _ _ (hp.lt m (by omega)) (hp.lt h (by omega))) ?_
      conv => whnf
      refine ⟨fun h4 => ?_, fun h4 => ?_⟩
      · have h4 : ltC c (p m) (p h) = false := by have h5 : (!(ltC c (p m) (p h))) = true := h4
                                                  simpa using h5
        conv => whnf
        rw [show IntKind.i64.wrap ((h : Int) + 1) = ((h + 1 : Nat) : Int) by rw [w64_in _ (by omega)]; omega]
        refine ⟨(h + 1, j), [0, 1, 2], ⟨show a ≤ h + 1 by omega, show h + 1 ≤ j by omega, q3, .inr (.inr ⟨h4, hs h m (by omega) (by omega) (by omega) (by omega)⟩), q5⟩, by show j - (h + 1) < j - i; omega, ?_⟩
        conv => whnf
        repeat' (first | exact True.intro | exact rfl | exact subZ_self _ | exact Or.inr rfl | exact fun _ _ => rfl | exact fun _ h => absurd h (Nat.not_lt_zero _) | refine And.intro ?_ ?_)
      · have h4 : ltC c (p m) (p h) = true := by have h5 : (!(ltC c (p m) (p h))) = false := h4
                                                 simpa using h5
        conv => whnf
        refine ⟨(i, h), [0, 1, 2], ⟨q1, g1, show h ≤ m by omega, q4, .inr (.inl h4)⟩, by show h - i < j - i; omega, ?_⟩
        conv => whnf
        repeat' (first | exact True.intro | exact rfl | exact subZ_self _ | exact Or.inr rfl | exact fun _ _ => rfl | exact fun _ h => absurd h (Nat.not_lt_zero _) | refine And.intro ?_ ?_)
    · have h3 : i = j := by have h : ¬ (i : Int) < j := of_decide_eq_false h3
                            omega
      subst h3
      have hfin := down_of hw.ord hp (show m < n by omega) q1 q3 h1 q4 q5
      conv => whnf
      refine .inv Nat (fun k => i ≤ k ∧ k ≤ m) (fun k => [(17, iV k)]) (fun k => [(0, rowP n z (rot p k m (m + 1)))]) (fun k => k) ⟨m, [0, 1, 2], ⟨by omega, by omega⟩, ?_⟩ ?_
      · conv => whnf
        rw [rot_id1 p m (m + 1) (by omega)]
        repeat' (first | exact True.intro | exact rfl | exact subZ_self _ | exact Or.inr rfl | exact fun _ _ => rfl | exact fun _ h => absurd h (Nat.not_lt_zero _) | refine And.intro ?_ ?_)
      intro k hk2
      obtain ⟨r1, r2⟩ := hk2
      conv => whnf
      refine ⟨fun h3 => ?_, fun h3 => ?_⟩
      · have h3 : i < k := by have h : (k : Int) > (i : Int) := of_decide_eq_true h3
                              omega
        have ek : IntKind.i64.wrap ((k : Int) - 1) = ((k - 1 : Nat) : Int) := by rw [w64_in _ (by omega)]; omega
        conv => whnf
        refine ⟨?_, ?_, ?_, ?_⟩
        rotate_left 2
        · conv => whnf
          rw [ek]
          repeat' (first | exact ⟨rfl, rfl⟩ | (refine ⟨⟨by omega, by omega⟩, ?_⟩; conv => whnf) | exact True.intro | refine And.intro ?_ ?_ | (conv => whnf))
        · conv => whnf
          rw [ek]
          refine ⟨k - 1, [0, 1, 2], ⟨by omega, by omega⟩, by omega, ?_⟩
          conv => whnf
          repeat' (first | exact True.intro | exact rfl | exact subZ_self _ | exact Or.inr rfl | exact fun _ _ => rfl | exact fun _ h => absurd h (Nat.not_lt_zero _) | refine And.intro ?_ ?_)
          intro x hx
          rw [Int.toNat_natCast, Int.toNat_natCast]
          have := puts_two' (rot p k m (m + 1)) (k - 1) k (by omega)
          have e5 := rot_down p m (k - 1) (by omega)
          rw [show k - 1 + 1 = k by omega] at e5
          exact (congrFun this x).trans (congrArg (fun f => cel (f x)) e5)
      · have h3 : k = i := by have h : ¬ (k : Int) > (i : Int) := of_decide_eq_false h3
                              omega
        rw [h3]
        conv => whnf
        refine ⟨[0, 1, 2], _, _, rfl, rfl, ?_, ?_, rfl, _, hfin, rfl⟩
        · exact rfl
        · conv => whnf
          repeat' (first | exact True.intro | exact rfl | exact subZ_self _ | exact Or.inr rfl | exact fun _ _ => rfl | exact fun _ h => absurd h (Nat.not_lt_zero _) | refine And.intro ?_ ?_)
  have c2 : ¬ b = m + 1 := by simp at c2; omega
  conv => whnf
  refine ⟨by omega, ?_⟩
  conv => whnf
  rw [half a b (by omega)]
  rw [show IntKind.i64.wrap ((((a + b) / 2 : Nat) : Int) + (m : Int)) = (((a + b) / 2 + m : Nat) : Int) by rw [w64_in _ (by omega)]; omega]
  refine ⟨fun c3 => ?_, fun c3 => ?_⟩
  have c3 : (a + b) / 2 < m := by have h : (m : Int) > (((a + b) / 2 : Nat) : Int) := of_decide_eq_true c3
                                  omega
  conv => whnf
  obtain ⟨N, hN⟩ : ∃ N, N = (a + b) / 2 + m := ⟨_, rfl⟩
  rw [← hN]
  obtain ⟨s0, hs0⟩ : ∃ s0, s0 = N - b := ⟨_, rfl⟩
  obtain ⟨r0, hr0⟩ : ∃ r0, r0 = (a + b) / 2 := ⟨_, rfl⟩
  have f1 : s0 = a ∨ N - s0 = b := by omega
  have f2 : r0 = m ∨ N - r0 = m := by omega
  have f3 : a ≤ s0 ∧ s0 ≤ r0 ∧ r0 ≤ m ∧ m ≤ N - r0 ∧ N - s0 ≤ b := by omega
  have x1 : IntKind.i64.wrap ((N : Int) - (b : Int)) = (s0 : Int) := by rw [w64_in _ (by omega)]; omega
  have x2 : IntKind.i64.wrap ((N : Int) - 1) = ((N - 1 : Nat) : Int) := by rw [w64_in _ (by omega)]; omega
  rw [x1, x2]
  rotate_left
  have c3 : m ≤ (a + b) / 2 := by have h : ¬ (m : Int) > (((a + b) / 2 : Nat) : Int) := of_decide_eq_false c3
                                  omega
  conv => whnf
  obtain ⟨N, hN⟩ : ∃ N, N = (a + b) / 2 + m := ⟨_, rfl⟩
  rw [← hN]
  obtain ⟨s0, hs0⟩ : ∃ s0, s0 = a := ⟨_, rfl⟩
  obtain ⟨r0, hr0⟩ : ∃ r0, r0 = m := ⟨_, rfl⟩
  have f1 : s0 = a ∨ N - s0 = b := by omega
  have f2 : r0 = m ∨ N - r0 = m := by omega
  have f3 : a ≤ s0 ∧ s0 ≤ r0 ∧ r0 ≤ m ∧ m ≤ N - r0 ∧ N - s0 ≤ b := by omega
  have x2 : IntKind.i64.wrap ((N : Int) - 1) = ((N - 1 : Nat) : Int) := by rw [w64_in _ (by omega)]; omega
  rw [x2]
  all_goals
    refine .inv (Nat × Nat) (fun s => s0 ≤ s.1 ∧ s.1 ≤ s.2 ∧ s.2 ≤ r0 ∧ (s.1 = s0 ∨ LL (ltC c) (p (s.1 - 1)) (p (N - s.1))) ∧ (s.2 = r0 ∨ LL (ltC c) (p (N - 1 - s.2)) (p s.2))) (fun s => [(20, iV s.1), (21, iV s.2)]) (fun s => []) (fun s => s.2 - s.1) ⟨(s0, r0), [0, 1, 2], ⟨show s0 ≤ s0 by omega, show s0 ≤ r0 by omega, show r0 ≤ r0 by omega, .inl rfl, .inl rfl⟩, ?_⟩ ?_
    · subst hr0
      subst hs0
      conv => whnf
      repeat' (first | exact True.intro | exact rfl | exact subZ_self _ | exact Or.inr rfl | exact fun _ _ => rfl | exact fun _ h => absurd h (Nat.not_lt_zero _) | refine And.intro ?_ ?_)
    intro st hst
    obtain ⟨q1, q2, q3, q4, q5⟩ := hst
    conv => whnf
    generalize st.1 = s at q1 q2 q4 ⊢
    generalize st.2 = j at q2 q3 q5 ⊢
    refine ⟨fun h3 => ?_, fun h3 => ?_⟩
    · have h3 : s < j := by have h : (s : Int) < j := of_decide_eq_true h3
                            omega
      conv => whnf
      refine ⟨by omega, ?_⟩
      conv => whnf
      rw [half s j (by omega)]
      have g1 : s ≤ (s + j) / 2 := by omega
      have g2 : (s + j) / 2 < j := by omega
      generalize (s + j) / 2 = h at g1 g2 ⊢
      rw [show IntKind.i64.wrap (((N - 1 : Nat) : Int) - (h : Int)) = ((N - 1 - h : Nat) : Int) by rw [w64_in _ (by omega)]; omega]
      refine ⟨by omega, ?_⟩
      conv => whnf
      refine ⟨by omega, ?_⟩
      conv => whnf
      rw [Int.toNat_natCast, Int.toNat_natCast]
      refine .mem _ _ (hg _ _ _ (hp.lt (N - 1 - h) (by omega)) (hp.lt h (by omega))) ?_
      conv => whnf
      refine ⟨fun h4 => ?_, fun h4 => ?_⟩
      · have h4 : ltC c (p (N - 1 - h)) (p h) = false := by have h5 : (!(ltC c (p (N - 1 - h)) (p h))) = true := h4
                                                            simpa using h5
        conv => whnf
        rw [show IntKind.i64.wrap ((h : Int) + 1) = ((h + 1 : Nat) : Int) by rw [w64_in _ (by omega)]; omega]
        refine ⟨(h + 1, j), [0, 1, 2], ⟨show s0 ≤ h + 1 by omega, show h + 1 ≤ j by omega, q3, .inr (?_ : LL (ltC c) (p (h + 1 - 1)) (p (N - (h + 1)))), q5⟩, by show j - (h + 1) < j - s; omega, ?_⟩
        · rw [show h + 1 - 1 = h by omega, show N - (h + 1) = N - 1 - h by omega]
          exact .inr ⟨h4, hs h (N - 1 - h) (by omega) (by omega) (by omega) (by omega)⟩
        conv => whnf
        repeat' (first | exact True.intro | exact rfl | exact subZ_self _ | exact Or.inr rfl | exact fun _ _ => rfl | exact fun _ h => absurd h (Nat.not_lt_zero _) | refine And.intro ?_ ?_)
      · have h4 : ltC c (p (N - 1 - h)) (p h) = true := by have h5 : (!(ltC c (p (N - 1 - h)) (p h))) = false := h4
                                                           simpa using h5
        conv => whnf
        refine ⟨(s, h), [0, 1, 2], ⟨q1, g1, show h ≤ r0 by omega, q4, .inr (.inl h4)⟩, by show h - s < j - s; omega, ?_⟩
        conv => whnf
        repeat' (first | exact True.intro | exact rfl | exact subZ_self _ | exact Or.inr rfl | exact fun _ _ => rfl | exact fun _ h => absurd h (Nat.not_lt_zero _) | refine And.intro ?_ ?_)
    have h3 : s = j := by have h : ¬ (s : Int) < j := of_decide_eq_false h3
                          omega
    subst h3
    have hc : Cut (L := LL (ltC c)) p a m b s (N - s) := cut_of hw.ord hp hbn h1 h2 (by omega) (by omega) (by omega) (by omega)
      (by rcases q4 with x | x
          · rcases f1 with y | y
            · exact .inl (by omega)
            · exact .inr (.inl (by omega))
          · exact .inr (.inr x))
      (by rcases q5 with x | x
          · rcases f2 with y | y
            · exact .inl (by omega)
            · exact .inr (.inl (by omega))
          · exact .inr (.inr (by rw [show N - s - 1 = N - 1 - s by omega]; exact x)))
    have hmid : (a + b) / 2 = s + (N - s - m) := by omega
    have cl := cut_left h1 h2 hs hc hmid
    have cr := cut_right h1 h2 hs hc hmid
    have hrot : Inj n (rot p s m (N - s)) := hp.rot (by omega) (by omega) (by omega)
    have ee : IntKind.i64.wrap ((N : Int) - (s : Int)) = ((N - s : Nat) : Int) := by rw [w64_in _ (by omega)]; omega
    conv => whnf
    rw [ee]
    by_cases k1 : s < m ∧ m < N - s
    refine brT (decide_eq_true (by omega)) ?_
    conv => whnf
    refine brT (decide_eq_true (by omega)) ?_
    conv => whnf
    refine .rel _ (rot_in n hn z p s m (N - s) k1.1 k1.2 (by omega) g nf zf fo) (fun r ks' hR => ?_)
    obtain ⟨rfl, rfl⟩ := hR
    conv => whnf
    rotate_left
    have eq : rot p s m (N - s) = p := by
      rcases Nat.lt_or_ge s m with x | x
      · rw [show N - s = m by omega]; exact rot_id2 p s m (by omega)
      · rw [show s = m by omega]; exact rot_id1 p m _ (by omega)
    rw [show rowP n z p = rowP n z (rot p s m (N - s)) by rw [eq]]
    by_cases k0 : s < m
    refine brT (decide_eq_true (by omega)) ?_
    conv => whnf
    refine brF (decide_eq_false (by omega)) ?_
    conv => whnf
    rotate_left
    refine brF (decide_eq_false (by omega)) ?_
    conv => whnf
    all_goals
      by_cases k2 : a < s ∧ s < (a + b) / 2
      refine brT (decide_eq_true (by omega)) ?_
      conv => whnf
      refine brT (decide_eq_true (by omega)) ?_
      conv => whnf
      refine .rel _ (ih (rot p s m (N - s)) a s ((a + b) / 2) (by omega) hrot k2.1 k2.2 (by omega) cl.1 cl.2.1 cl.2.2) (fun r ks' hR => ?_)
      obtain ⟨rfl, r1, hr1, rfl⟩ := hR
      have hfin : ∀ r2, Merged (L := LL (ltC c)) r1 r2 n ((a + b) / 2) b → Merged (L := LL (ltC c)) p r2 n a b := fun r2 h => merge_two h1 h2 hc hmid hr1 h
      conv => whnf
      rotate_left
      obtain ⟨r1, hr1, er⟩ : ∃ r1, Merged (L := LL (ltC c)) (rot p s m (N - s)) r1 n a ((a + b) / 2) ∧ r1 = rot p s m (N - s) := ⟨_, .stay hrot (by
        rcases Nat.lt_or_ge a s with x | x
        · exact cl.1.sub (Nat.le_refl _) (by omega)
        · exact cl.2.1.sub (by omega) (Nat.le_refl _)), rfl⟩
      have hfin : ∀ r2, Merged (L := LL (ltC c)) r1 r2 n ((a + b) / 2) b → Merged (L := LL (ltC c)) p r2 n a b := fun r2 h => merge_two h1 h2 hc hmid hr1 h
      rw [← er]
      clear er
      by_cases k0 : a < s
      refine brT (decide_eq_true (by omega)) ?_
      conv => whnf
      refine brF (decide_eq_false (by omega)) ?_
      conv => whnf
      rotate_left
      refine brF (decide_eq_false (by omega)) ?_
      conv => whnf
      all_goals
        by_cases k3 : (a + b) / 2 < N - s ∧ N - s < b
        refine brT (decide_eq_true (by omega)) ?_
        conv => whnf
        refine brT (decide_eq_true (by omega)) ?_
        conv => whnf
        refine .rel _ (ih r1 ((a + b) / 2) (N - s) b (by omega) hr1.inj k3.1 k3.2 hbn (cr.1.congr fun i x1 x2 => hr1.same.out i (by omega)) (cr.2.1.congr fun i x1 x2 => hr1.same.out i (by omega)) (cr.2.2.congr fun i x1 x2 => hr1.same.out i (by omega))) (fun r ks' hR => ?_)
        obtain ⟨rfl, r2, hr2, rfl⟩ := hR
        conv => whnf
        rotate_left
        have hr2 : Merged (L := LL (ltC c)) r1 r1 n ((a + b) / 2) b := .stay hr1.inj (by
          rcases Nat.lt_or_ge ((a + b) / 2) (N - s) with x | x
          · exact (cr.1.congr fun i x1 x2 => hr1.same.out i (by omega)).sub (Nat.le_refl _) (by omega)
          · exact (cr.2.1.congr fun i x1 x2 => hr1.same.out i (by omega)).sub (by omega) (Nat.le_refl _))
        by_cases k0 : (a + b) / 2 < N - s
        refine brT (decide_eq_true (by omega)) ?_
        conv => whnf
        refine brF (decide_eq_false (by omega)) ?_
        conv => whnf
        rotate_left
        refine brF (decide_eq_false (by omega)) ?_
        conv => whnf
        all_goals
          refine ⟨[0, 1, 2], _, _, rfl, rfl, ?_, ?_, rfl, _, hfin _ hr2, rfl⟩
          · exact rfl
          · conv => whnf
            repeat' (first | exact True.intro | exact rfl | exact subZ_self _ | exact Or.inr rfl | exact fun _ _ => rfl | exact fun _ h => absurd h (Nat.not_lt_zero _) | refine And.intro ?_ ?_)
end Go.Proofs.Ytdphkaiijlekhaa
namespace Go.Proofs.Ytdphkaiijlekhaa
open Go Go.Eng
set_option maxRecDepth 100000
set_option maxHeartbeats 8000000 in
theorem stable_ok (n : Nat) (hn : n < 1152921504606846976) (z : Z) (c : Nat → Nat → Int) (g : FuncId) (nf : Nat) (zf : Z) (fo : Nat → List DV) (hg : CmpOk g c n z nf zf fo) (hw : Weak n (ltC c)) :
    COk Try.prog 156 [.all 0, iV n, .fn g cCap] (rowP n z id :: cRest nf zf fo) (fun s k => s = .tup [] ∧ ∃ r, Inj n r ∧ Rise (LL (ltC c)) r 0 n ∧ k = rowP n z r :: cRest nf zf fo) := by
  refine cOk_of_run (TT := TT) (IN := lookI []) TT_ok INok_nil mixed 1000 Try.func156 rfl (enters Try.func156 (by kernel_rfl) rfl) 60 (by kernel_rfl) ?_
  conv => whnf
  refine .inv (Nat × (Nat → Nat)) (fun s => s.1 * 20 ≤ n ∧ Fst (LL (ltC c)) 20 n s.1 s.2) (fun s => [(6, iV 20), (7, iV (s.1 * 20)), (8, iV (s.1 * 20 + 20))]) (fun s => [(0, rowP n z s.2)]) (fun s => n - s.1 * 20) ⟨(0, id), [0, 1, 2], ⟨by show 0 * 20 ≤ n; omega, Fst.zero 20 n⟩, ?_⟩ ?_
  · conv => whnf
    repeat' (first | exact True.intro | exact rfl | exact subZ_self _ | exact Or.inr rfl | exact fun _ _ => rfl | exact fun _ h => absurd h (Nat.not_lt_zero _) | refine And.intro ?_ ?_)
  intro s hs
  obtain ⟨h1, h2⟩ := hs
  conv => whnf
  generalize s.1 = q at h1 h2 ⊢
  generalize s.2 = p at h2 ⊢
  refine ⟨fun h3 => ?_, fun h3 => ?_⟩
  · have h3 : q * 20 + 20 ≤ n := by have h : ((q * 20 + 20 : Nat) : Int) ≤ n := of_decide_eq_true h3
                                    omega
    conv => whnf
    refine .rel _ (ins_ok n hn z p c g nf zf fo hg hw h2.inj (q * 20) (q * 20 + 20) (by omega) h3 (fun i j x1 x2 x3 => by rw [h2.rest i x1, h2.rest j (by omega)]; exact x2)) (fun r ks' hR => ?_)
    obtain ⟨rfl, r, hr, rfl⟩ := hR
    have e1 : IntKind.i64.wrap (((q * 20 + 20 : Nat) : Int) + ((20 : Nat) : Int)) = (((q + 1) * 20 + 20 : Nat) : Int) := by rw [w64_in _ (by omega)]; omega
    have e2 : q * 20 + 20 = (q + 1) * 20 := by omega
    conv => whnf
    rw [e1, e2]
    refine ⟨(q + 1, r), [0, 1, 2], ⟨by show (q + 1) * 20 ≤ n; omega, h2.next h3 (by omega) (.inr rfl) hr⟩, by show n - (q + 1) * 20 < n - q * 20; omega, ?_⟩
    conv => whnf
    repeat' (first | exact True.intro | exact rfl | exact subZ_self _ | exact Or.inr rfl | exact fun _ _ => rfl | exact fun _ h => absurd h (Nat.not_lt_zero _) | refine And.intro ?_ ?_)
  · have h3 : n < q * 20 + 20 := by have h : ¬ ((q * 20 + 20 : Nat) : Int) ≤ n := of_decide_eq_false h3
                                    omega
    conv => whnf
    refine .rel _ (ins_ok n hn z p c g nf zf fo hg hw h2.inj (q * 20) n h1 (Nat.le_refl _) (fun i j x1 x2 x3 => by rw [h2.rest i x1, h2.rest j (by omega)]; exact x2)) (fun r ks' hR => ?_)
    obtain ⟨rfl, r, hr, rfl⟩ := hR
    have h4 := h2.next (Nat.le_refl _) (by omega) (.inl rfl) hr
    conv => whnf
    refine .inv (Nat × (Nat → Nat)) (fun s => 0 < s.1 ∧ s.1 ≤ 20 + 2 * n ∧ Inj n s.2 ∧ Lc s.1 0 n s.2 ∧ Rs (LL (ltC c)) s.1 0 n s.2) (fun s => [(6, iV s.1)]) (fun s => [(0, rowP n z s.2)]) (fun s => n - s.1) ⟨(20, r), [0, 1, 2], ⟨show 0 < 20 by omega, show 20 ≤ 20 + 2 * n by omega, h4.inj, h4.loc, ?_⟩, ?_⟩ ?_
    · have := h4.done
      rw [show min ((q + 1) * 20) n = n by omega] at this
      exact this
    · conv => whnf
      repeat' (first | exact True.intro | exact rfl | exact subZ_self _ | exact Or.inr rfl | exact fun _ _ => rfl | exact fun _ h => absurd h (Nat.not_lt_zero _) | refine And.intro ?_ ?_)
    clear h1 h2 h3 h4 hr
    intro s hs
    obtain ⟨h1, h2, h3, h4, h5⟩ := hs
    conv => whnf
    generalize s.1 = k at h1 h2 h4 h5 ⊢
    generalize s.2 = p at h3 h4 h5 ⊢
    refine ⟨fun h6 => ?_, fun h6 => ?_⟩
    · have h6 : k < n := by have h : (k : Int) < n := of_decide_eq_true h6
                            omega
      have e1 : IntKind.i64.wrap (2 * (k : Int)) = ((2 * k : Nat) : Int) := by rw [w64_in _ (by omega)]; omega
      conv => whnf
      rw [e1]
      refine .inv (Nat × (Nat → Nat)) (fun s => s.1 ≤ n ∧ ∃ q, s.1 = q * (2 * k) ∧ Mg (LL (ltC c)) k n q s.2) (fun s => [(7, iV s.1), (8, iV (s.1 + 2 * k))]) (fun s => [(0, rowP n z s.2)]) (fun s => n - s.1) ⟨(0, p), [0, 1, 2], ⟨Nat.zero_le _, 0, (Nat.zero_mul _).symm, Mg.begin h3 h4 h5⟩, ?_⟩ ?_
      · conv => whnf
        rw [Nat.zero_add]
        repeat' (first | exact True.intro | exact rfl | exact subZ_self _ | exact Or.inr rfl | exact fun _ _ => rfl | exact fun _ h => absurd h (Nat.not_lt_zero _) | refine And.intro ?_ ?_)
      intro s hs
      obtain ⟨g1, q, g2, g3⟩ := hs
      conv => whnf
      generalize s.1 = a at g1 g2 ⊢
      generalize s.2 = p at g3 ⊢
      refine ⟨fun h7 => ?_, fun h7 => ?_⟩
      · have h7 : a + 2 * k ≤ n := by have h : ((a + 2 * k : Nat) : Int) ≤ n := of_decide_eq_true h7
                                      omega
        have e2 : IntKind.i64.wrap ((a : Int) + (k : Int)) = ((a + k : Nat) : Int) := by rw [w64_in _ (by omega)]; omega
        have e3 : IntKind.i64.wrap (((a + 2 * k : Nat) : Int) + ((2 * k : Nat) : Int)) = ((a + 2 * k + 2 * k : Nat) : Int) := by rw [w64_in _ (by omega)]; omega
        conv => whnf
        rw [e2]
        refine .rel _ (sym_ok n hn z c g nf zf fo hg hw (2 * k + 1) p a (a + k) (a + 2 * k) (by omega) g3.inj (by omega) (by omega) h7 (by rw [g2]; exact g3.left (by omega)) (by rw [g2]; exact g3.right (by omega) (by omega)) (by rw [g2]; exact g3.sep (by omega) (by omega))) (fun r ks' hR => ?_)
        obtain ⟨rfl, r, hr, rfl⟩ := hR
        have hn2 : Mg (LL (ltC c)) k n (q + 1) r := g3.next h1 h7 (by omega) (by omega) (by omega) (by rw [← g2]; exact hr)
        conv => whnf
        rw [e1, e3]
        refine ⟨(a + 2 * k, r), [0, 1, 2], ⟨h7, q + 1, by show a + 2 * k = (q + 1) * (2 * k); rw [Nat.succ_mul q (2 * k), ← g2], hn2⟩, by show n - (a + 2 * k) < n - a; omega, ?_⟩
        conv => whnf
        repeat' (first | exact True.intro | exact rfl | exact subZ_self _ | exact Or.inr rfl | exact fun _ _ => rfl | exact fun _ h => absurd h (Nat.not_lt_zero _) | refine And.intro ?_ ?_)
      · have h7 : n < a + 2 * k := by have h : ¬ ((a + 2 * k : Nat) : Int) ≤ n := of_decide_eq_false h7
                                      omega
        have e2 : IntKind.i64.wrap ((a : Int) + (k : Int)) = ((a + k : Nat) : Int) := by rw [w64_in _ (by omega)]; omega
        have e4 : IntKind.i64.wrap ((k : Int) * 2) = ((2 * k : Nat) : Int) := by rw [w64_in _ (by omega)]; omega
        conv => whnf
        rw [e2]
        refine ⟨fun h8 => ?_, fun h8 => ?_⟩
        · have h8 : a + k < n := by have h : ((a + k : Nat) : Int) < n := of_decide_eq_true h8
                                    omega
          conv => whnf
          refine .rel _ (sym_ok n hn z c g nf zf fo hg hw (2 * k + 1) p a (a + k) n (by omega) g3.inj (by omega) h8 (Nat.le_refl _) (by rw [g2]; exact g3.left (by omega)) (by rw [g2]; exact g3.right (Nat.le_refl _) (by omega)) (by rw [g2]; exact g3.sep (Nat.le_refl _) (by omega))) (fun r ks' hR => ?_)
          obtain ⟨rfl, r, hr, rfl⟩ := hR
          have hn2 : Mg (LL (ltC c)) k n (q + 1) r := g3.next h1 (Nat.le_refl _) (by omega) (by omega) (by omega) (by rw [← g2]; exact hr)
          have ho := hn2.over h1 (by rw [Nat.succ_mul, ← g2]; omega)
          conv => whnf
          rw [e4]
          refine ⟨(2 * k, r), [0, 1, 2], ⟨show 0 < 2 * k by omega, show 2 * k ≤ 20 + 2 * n by omega, hn2.inj, ho.1, ho.2⟩, by show n - 2 * k < n - k; omega, ?_⟩
          conv => whnf
          repeat' (first | exact True.intro | exact rfl | exact subZ_self _ | exact Or.inr rfl | exact fun _ _ => rfl | exact fun _ h => absurd h (Nat.not_lt_zero _) | refine And.intro ?_ ?_)
        · have h8 : n ≤ a + k := by have h : ¬ ((a + k : Nat) : Int) < n := of_decide_eq_false h8
                                    omega
          have ho := g3.over h1 (by rw [← g2]; exact h8)
          conv => whnf
          rw [e4]
          refine ⟨(2 * k, p), [0, 1, 2], ⟨show 0 < 2 * k by omega, show 2 * k ≤ 20 + 2 * n by omega, g3.inj, ho.1, ho.2⟩, by show n - 2 * k < n - k; omega, ?_⟩
          conv => whnf
          repeat' (first | exact True.intro | exact rfl | exact subZ_self _ | exact Or.inr rfl | exact fun _ _ => rfl | exact fun _ h => absurd h (Nat.not_lt_zero _) | refine And.intro ?_ ?_)
    · have h6 : n ≤ k := by have h : ¬ (k : Int) < n := of_decide_eq_false h6
                            omega
      conv => whnf
      refine ⟨[0, 1, 2], _, _, rfl, rfl, ?_, ?_, rfl, p, h3, h5.all h6, rfl⟩
      · exact rfl
      · conv => whnf
        repeat' (first | exact True.intro | exact rfl | exact subZ_self _ | exact Or.inr rfl | exact fun _ _ => rfl | exact fun _ h => absurd h (Nat.not_lt_zero _) | refine And.intro ?_ ?_)
set_option maxHeartbeats 8000000 in
theorem sort_ok (n : Nat) (hn : n < 1152921504606846976) (z : Z) (c : Nat → Nat → Int) (g : FuncId) (nf : Nat) (zf : Z) (fo : Nat → List DV) (hg : CmpOk g c n z nf zf fo) (hw : Weak n (ltC c)) :
    COk Try.prog 114 [.all 0, .fn g cCap] (rowP n z id :: cRest nf zf fo) (fun s k => s = .tup [] ∧ ∃ r, Inj n r ∧ Rise (LL (ltC c)) r 0 n ∧ k = rowP n z r :: cRest nf zf fo) := by
  refine cOk_of_run (TT := TT) (IN := lookI []) TT_ok INok_nil mixed 1000 Try.func114 rfl (enters Try.func114 (by kernel_rfl) rfl) 7 (by kernel_rfl) ?_
  conv => whnf
  refine .rel _ (stable_ok n hn z c g nf zf fo hg hw) (fun r ks' hR => ?_)
  obtain ⟨rfl, r, hr, h2, rfl⟩ := hR
  conv => whnf
  refine ⟨[0, 1, 2], _, _, rfl, rfl, ?_, ?_, rfl, r, hr, h2, rfl⟩
  · exact rfl
  · conv => whnf
    repeat' (first | exact True.intro | exact rfl | exact subZ_self _ | exact Or.inr rfl | exact fun _ _ => rfl | exact fun _ h => absurd h (Nat.not_lt_zero _) | refine And.intro ?_ ?_)
end Go.Proofs.Ytdphkaiijlekhaa
namespace Go.Proofs.Ytdphkaiijlekhaa
open Go Go.Eng
/-- What the comparison has captured, and the known blocks behind it. -/
def eCap : List SV := [.ptr 1 0]
def eRest (nf : Nat) (zf : Z) (fo : Nat → List DV) : List KB := [.cells 184 [.fn 112 [.ptr 2 0]], .cells 31 [.all 3], .row 9 1 nf zf fo]
def EqOk (g : FuncId) (F : Nat → List UInt8) (n : Nat) (z : Z) (nf : Nat) (zf : Z) (fo : Nat → List DV) : Prop :=
  ∀ (q : Nat → Nat) (x y : Nat), x < n → y < n → COk Try.prog g (iV x :: iV y :: eCap) (rowP n z q :: eRest nf zf fo) (fun s k => s = .d (.bool (decide (F x = F y))) ∧ k = rowP n z q :: eRest nf zf fo)
/-- The first places are those of K. -/
def over (K : List Nat) (p : Nat → Nat) : Nat → Nat := fun i => if i < K.length then K.getD i 0 else p i
theorem kept_all {F : Nat → List UInt8} {p : Nat → Nat} : ∀ k, (∀ i, 0 < i → i < k → F (p i) ≠ F (p (i - 1))) → kept F p k = (List.range k).map p
  | 0 => fun _ => rfl
  | k + 1 => fun h => by
    unfold kept
    rw [kept_all k (fun i h1 h2 => h i h1 (by omega)), List.range_succ, List.map_append]
    rw [if_pos]
    · rfl
    · rcases Nat.eq_zero_or_pos k with e | e
      · exact .inl e
      · exact .inr (h k e (by omega))
theorem over_all {p : Nat → Nat} (k : Nat) : over ((List.range k).map p) p = p := by
  funext i; unfold over
  rw [List.length_map, List.length_range]
  split
  · rename_i h; simp [List.getD, List.getElem?_range h]
  · rfl
/-- How it stands: m places are seen, those that are kept come first. -/
theorem over_put {F : Nat → List UInt8} {p : Nat → Nat} {m : Nat} (hne : F (p m) ≠ F (p (m - 1))) : upd (over (kept F p m) p) (kept F p m).length (p m) = over (kept F p (m + 1)) p := by
  have e : kept F p (m + 1) = kept F p m ++ [p m] := by
    conv => lhs; unfold kept
    rw [if_pos (.inr hne)]
  rw [e]
  funext i; unfold upd over
  simp only [List.length_append, List.length_cons, List.length_nil]
  by_cases h1 : i = (kept F p m).length
  · rw [if_pos h1, if_pos (by omega), h1]; simp [List.getD]
  · rw [if_neg h1]
    by_cases h2 : i < (kept F p m).length
    · rw [if_pos h2, if_pos (by omega)]; simp [List.getD, List.getElem?_append_left h2]
    · rw [if_neg h2, if_neg (by omega)]
theorem kept_same {F : Nat → List UInt8} {p : Nat → Nat} {m : Nat} (h0 : 0 < m) (he : F (p m) = F (p (m - 1))) : kept F p (m + 1) = kept F p m := by
  conv => lhs; unfold kept
  rw [if_neg]
  rintro (h | h)
  · omega
  · exact h he
set_option maxRecDepth 100000
set_option maxHeartbeats 8000000 in
theorem compact_ok (n : Nat) (hn : n < 1152921504606846976) (z : Z) (F : Nat → List UInt8) (g : FuncId) (nf : Nat) (zf : Z) (fo : Nat → List DV) (hg : EqOk g F n z nf zf fo) (p : Nat → Nat) (hp : Inj n p) :
    COk Try.prog 115 [.all 0, .fn g eCap] (rowP n z p :: eRest nf zf fo) (fun s k => ((s = .all 0 ∧ (kept F p n).length = n) ∨ s = .row 0 0 (kept F p n).length) ∧ ∃ q, (∀ i, i < (kept F p n).length → q i = (kept F p n).getD i 0) ∧ k = rowP n z q :: eRest nf zf fo) := by
  refine cOk_of_run (TT := TT) (IN := lookI []) TT_ok INok_nil mixed 1000 Try.func115 rfl (enters Try.func115 (by kernel_rfl) rfl) 64 (by kernel_rfl) ?_
  conv => whnf
  refine ⟨fun h2 => ?_, fun h2 => ?_⟩
  · have h2 : n < 2 := by have h : (n : Int) < 2 := of_decide_eq_true h2
                          omega
    have hk : kept F p n = (List.range n).map p := kept_all n (fun i x1 x2 => by omega)
    conv => whnf
    refine ⟨[0, 1, 2, 3], _, _, rfl, rfl, ?_, ?_, .inl ⟨rfl, by rw [hk]; simp⟩, p, fun i hi => ?_, rfl⟩
    · exact rfl
    · conv => whnf
      repeat' (first | exact True.intro | exact rfl | exact subZ_self _ | exact Or.inr rfl | exact fun _ _ => rfl | exact fun _ h => absurd h (Nat.not_lt_zero _) | refine And.intro ?_ ?_)
    · rw [hk] at hi ⊢
      simp at hi
      simp [List.getD, List.getElem?_range hi]
  have h2 : 2 ≤ n := by have h : ¬ (n : Int) < 2 := of_decide_eq_false h2
                        omega
  conv => whnf
  refine .inv Nat (fun k => 1 ≤ k ∧ k ≤ n ∧ ∀ i, 0 < i → i < k → F (p i) ≠ F (p (i - 1))) (fun k => [(5, iV k)]) (fun k => []) (fun k => n - k) ⟨1, [0, 1, 2, 3], ⟨by omega, by omega, fun i h1 h2 => by omega⟩, ?_⟩ ?_
  · conv => whnf
    repeat' (first | exact True.intro | exact rfl | exact subZ_self _ | exact Or.inr rfl | exact fun _ _ => rfl | exact fun _ h => absurd h (Nat.not_lt_zero _) | refine And.intro ?_ ?_)
  intro k hk
  obtain ⟨k1, k2, k3⟩ := hk
  conv => whnf
  refine ⟨fun h3 => ?_, fun h3 => ?_⟩
  · have h3 : k < n := by have h : (k : Int) < n := of_decide_eq_true h3
                          omega
    have e1 : IntKind.i64.wrap ((k : Int) - 1) = ((k - 1 : Nat) : Int) := by rw [w64_in _ (by omega)]; omega
    have e2 : IntKind.i64.wrap ((k : Int) + 1) = ((k + 1 : Nat) : Int) := by rw [w64_in _ (by omega)]; omega
    conv => whnf
    refine ⟨by omega, ?_⟩
    conv => whnf
    rw [e1]
    refine ⟨by omega, ?_⟩
    conv => whnf
    rw [Int.toNat_natCast, Int.toNat_natCast]
    refine .mem _ _ (hg _ _ _ (hp.lt k h3) (hp.lt (k - 1) (by omega))) ?_
    conv => whnf
    refine ⟨fun h4 => ?_, fun h4 => ?_⟩
    · have h4 : F (p k) = F (p (k - 1)) := of_decide_eq_true h4
      have hk0 : kept F p (k + 1) = (List.range k).map p := by rw [kept_same k1 h4, kept_all k k3]
      conv => whnf
      refine ⟨by omega, ?_⟩
      conv => whnf
      refine .inv Nat (fun j => 1 ≤ j ∧ k + j ≤ n ∧ (kept F p (k + j)).length < k + j) (fun j => [(5, iV (kept F p (k + j)).length), (7, iV j)]) (fun j => [(0, rowP n z (over (kept F p (k + j)) p))]) (fun j => n - j) ⟨1, [0, 1, 2, 3], ⟨by omega, by omega, by rw [hk0]; simp⟩, ?_⟩ ?_
      · rw [hk0, over_all]
        conv => whnf
        rw [List.length_map, List.length_range]
        repeat' (first | exact True.intro | exact rfl | exact subZ_self _ | exact Or.inr rfl | exact fun _ _ => rfl | exact fun _ h => absurd h (Nat.not_lt_zero _) | refine And.intro ?_ ?_)
      intro j hj
      obtain ⟨j1, j2, j3⟩ := hj
      conv => whnf
      refine ⟨fun h5 => ?_, fun h5 => ?_⟩
      · have e3 : IntKind.i64.wrap ((j : Int) - 1) = ((j - 1 : Nat) : Int) := by rw [w64_in _ (by omega)]; omega
        have e4 : IntKind.i64.wrap ((j : Int) + 1) = ((j + 1 : Nat) : Int) := by rw [w64_in _ (by omega)]; omega
        have h5 : k + j < n := by have h : (j : Int) < (((n : Int) - k).toNat : Nat) := of_decide_eq_true h5
                                  omega
        have r1 : over (kept F p (k + j)) p (k + j) = p (k + j) := by unfold over; rw [if_neg (by omega)]
        have r2 : over (kept F p (k + j)) p (k + (j - 1)) = p (k + j - 1) := by unfold over; rw [if_neg (by omega), show k + (j - 1) = k + j - 1 by omega]
        conv => whnf
        refine ⟨by omega, ?_⟩
        conv => whnf
        rw [e3]
        refine ⟨by omega, ?_⟩
        conv => whnf
        rw [Int.toNat_natCast, Int.toNat_natCast, Int.toNat_natCast, r1, r2]
        refine .mem _ _ (hg _ _ _ (hp.lt (k + j) (by omega)) (hp.lt (k + j - 1) (by omega))) ?_
        conv => whnf
        refine ⟨fun h6 => ?_, fun h6 => ?_⟩
        · have h6 : F (p (k + j)) ≠ F (p (k + j - 1)) := by
            have h7 : (!(decide (F (p (k + j)) = F (p (k + j - 1))))) = true := h6
            simpa using h7
          have r3 : over (kept F p (k + j)) p (k + j) = p (k + j) := r1
          have h8 : (kept F p (k + (j + 1))).length = (kept F p (k + j)).length + 1 := by
            show (kept F p (k + j + 1)).length = _
            conv => lhs; unfold kept
            rw [if_pos (.inr h6)]; simp
          have e5 : IntKind.i64.wrap (((kept F p (k + j)).length : Int) + 1) = (((kept F p (k + j)).length + 1 : Nat) : Int) := by rw [w64_in _ (by omega)]; omega
          conv => whnf
          refine ⟨by omega, ?_⟩
          conv => whnf
          rw [Int.toNat_natCast, r1]
          refine ⟨by omega, ?_⟩
          conv => whnf
          rw [e4, e5]
          refine ⟨j + 1, [0, 1, 2, 3], ⟨by omega, by omega, ?_⟩, by omega, ?_⟩
          · rw [h8]; omega
          rw [h8]
          conv => whnf
          repeat' (first | exact True.intro | exact rfl | exact subZ_self _ | exact Or.inr rfl | exact fun _ _ => rfl | exact fun _ h => absurd h (Nat.not_lt_zero _) | refine And.intro ?_ ?_)
          intro x hx
          rw [Int.toNat_natCast]
          have h9 := oneF_cel (over (kept F p (k + j)) p) (kept F p (k + j)).length (p (k + j))
          rw [over_put h6] at h9
          exact congrFun h9 x
        · have h6 : F (p (k + j)) = F (p (k + j - 1)) := by
            have h7 : (!(decide (F (p (k + j)) = F (p (k + j - 1))))) = false := h6
            simpa using h7
          have h7 := kept_same (by omega) h6
          conv => whnf
          rw [e4]
          refine ⟨j + 1, [0, 1, 2, 3], ⟨by omega, by omega, ?_⟩, by omega, ?_⟩
          · show (kept F p (k + j + 1)).length < k + j + 1
            rw [h7]; omega
          rw [show kept F p (k + (j + 1)) = kept F p (k + j) from h7]
          conv => whnf
          repeat' (first | exact True.intro | exact rfl | exact subZ_self _ | exact Or.inr rfl | exact fun _ _ => rfl | exact fun _ h => absurd h (Nat.not_lt_zero _) | refine And.intro ?_ ?_)
      · have h5 : k + j = n := by have h : ¬ (j : Int) < (((n : Int) - k).toNat : Nat) := of_decide_eq_false h5
                                  omega
        rw [h5] at j3 ⊢
        conv => whnf
        refine ⟨by omega, ?_⟩
        conv => whnf
        refine ⟨by omega, ?_⟩
        conv => whnf
        refine ⟨by omega, ?_⟩
        conv => whnf
        rw [Int.toNat_natCast]
        refine ⟨[0, 1, 2, 3], _, _, rfl, rfl, ?_, ?_, .inr rfl, fun i => if i < (kept F p n).length then (kept F p n).getD i 0 else 0, fun i hi => if_pos hi, rfl⟩
        · exact rfl
        · conv => whnf
          repeat' (first | exact True.intro | exact rfl | exact subZ_self _ | exact Or.inr rfl | exact fun _ _ => rfl | exact fun _ h => absurd h (Nat.not_lt_zero _) | refine And.intro ?_ ?_)
          intro x hx
          unfold midF over
          dsimp only
          by_cases hxk : x < (kept F p n).length
          · rw [if_neg (by omega), if_pos hxk, if_pos hxk]
          · rw [if_pos (by omega), if_neg hxk]; rfl
    · have h4 : F (p k) ≠ F (p (k - 1)) := of_decide_eq_false h4
      conv => whnf
      rw [e2]
      refine ⟨k + 1, [0, 1, 2, 3], ⟨by omega, by omega, fun i x1 x2 => ?_⟩, by omega, ?_⟩
      · rcases Nat.lt_or_ge i k with x | x
        · exact k3 i x1 x
        · rw [show i = k by omega]; exact h4
      conv => whnf
      repeat' (first | exact True.intro | exact rfl | exact subZ_self _ | exact Or.inr rfl | exact fun _ _ => rfl | exact fun _ h => absurd h (Nat.not_lt_zero _) | refine And.intro ?_ ?_)
  · have h3 : k = n := by have h : ¬ (k : Int) < n := of_decide_eq_false h3
                          omega
    subst h3
    have hk := kept_all k k3
    conv => whnf
    refine ⟨[0, 1, 2, 3], _, _, rfl, rfl, ?_, ?_, .inl ⟨rfl, by rw [hk]; simp⟩, p, fun i hi => ?_, rfl⟩
    · exact rfl
    · conv => whnf
      repeat' (first | exact True.intro | exact rfl | exact subZ_self _ | exact Or.inr rfl | exact fun _ _ => rfl | exact fun _ h => absurd h (Nat.not_lt_zero _) | refine And.intro ?_ ?_)
    · rw [hk] at hi ⊢
      simp at hi
      simp [List.getD, List.getElem?_range hi]
end Go.Proofs.Ytdphkaiijlekhaa
