/-
  The plain law of the counts: lists of at most 500, now at most 2 to the 62.
-/
import Derived.Test.YtjeofhjlmhljhaaDoorAdd
namespace Go.Proofs.YtjeofhjlmhljhaaDoor
open Go Go.Eng

theorem w64_eq (n : Int) : w64 n = (n + 9223372036854775808) % 18446744073709551616 - 9223372036854775808 := by
  unfold w64; rw [IntKind.wrap_i64]
def sumN : List Held → Nat
  | [] => 0
  | h :: l => (if h.no then 0 else h.n) + sumN l
theorem sumN_append (a b : List Held) : sumN (a ++ b) = sumN a + sumN b := by
  induction a with
  | nil => simp [sumN]
  | cons h a ih => simp [sumN, ih]; omega
def cn (p : Held → Bool) : List Held → Nat
  | [] => 0
  | h :: l => (if p h then 1 else 0) + cn p l
theorem cn_append (p : Held → Bool) (a b : List Held) : cn p (a ++ b) = cn p a + cn p b := by
  induction a with
  | nil => simp [cn]
  | cons h a ih => simp [cn, ih]; omega
theorem cn_le (p : Held → Bool) (a : List Held) : cn p a ≤ a.length := by
  induction a with
  | nil => simp [cn]
  | cons h a ih => simp [cn]; split <;> omega
theorem cn_zero (p : Held → Bool) (a : List Held) (h : cn p a = 0) : ∀ x ∈ a, p x = false := by
  induction a with
  | nil => simp
  | cons y a ih =>
    simp [cn] at h
    intro x hx
    rcases List.mem_cons.1 hx with rfl | hx
    · simpa using h.1
    · exact ih h.2 x hx
theorem cn_imp (p q : Held → Bool) (a : List Held) (h : ∀ x, p x = true → q x = true) : cn p a ≤ cn q a := by
  induction a with
  | nil => simp [cn]
  | cons y a ih =>
    simp only [cn]
    by_cases e : p y = true
    · simp [e, h y e]; exact ih
    · simp [e]; omega
theorem cn_not (p : Held → Bool) (a : List Held) : cn (fun h => !p h) a + cn p a = a.length := by
  induction a with
  | nil => simp [cn]
  | cons y a ih =>
    simp only [cn, List.length_cons]
    by_cases e : p y = true
    · simp [e]; omega
    · simp [e]; omega

structure IsStats (now : Int) (l : List Held) (s : Stats) : Prop where
  sets : s.sets = w64 (cn (fun h => !h.no) l)
  data : s.data = w64 (sumN l)
  none : s.none = w64 (cn (fun h => h.no) l)
  names : s.names = w64 (cn (fun h => h.no && h.nm) l)
  r0 : s.r0 = w64 (cn (fun h => decide (h.rank = 0)) l)
  r1 : s.r1 = w64 (cn (fun h => decide (h.rank = 1)) l)
  r2 : s.r2 = w64 (cn (fun h => decide (h.rank = 2)) l)
  r3 : s.r3 = w64 (cn (fun h => decide (h.rank = 3)) l)
  r4 : s.r4 = w64 (cn (fun h => decide (h.rank = 4)) l)
  live : s.live = w64 (cn (fun h => decide (now < h.till)) l)
  dead : cn (fun h => decide (now < h.till)) l = 0 → s.least = 0
  has : cn (fun h => decide (now < h.till)) l ≠ 0 → ∃ h ∈ l, now < h.till ∧ h.till = s.least
  low : ∀ h ∈ l, now < h.till → s.least ≤ h.till

theorem inc_cn (p : Held → Bool) (l : List Held) (h : Held) : inc (p h) (w64 (cn p l)) = w64 (cn p (l ++ [h])) := by
  rw [cn_append]
  simp only [cn, inc, Nat.add_zero]
  split
  · simp only [w64_eq]; omega
  · simp
theorem w64_small (n : Nat) (h : n < 1000000) : w64 n = n := by rw [w64_eq]; omega

theorem IsStats.step {now : Int} {l : List Held} {s : Stats} (k : IsStats now l s) (hl : l.length < 1000000) (h : Held) : IsStats now (l ++ [h]) (s.more now h) := by
  have hc := cn_le (fun h => decide (now < h.till)) l
  have hlv := k.live
  rw [w64_small _ (by omega)] at hlv
  refine ⟨?_, ?_, ?_, ?_, ?_, ?_, ?_, ?_, ?_, ?_, ?_, ?_, ?_⟩
  · simp only [Stats.more, k.sets]; exact inc_cn (fun h => !h.no) l h
  · simp only [Stats.more, sumN_append, sumN, k.data]
    split
    · simp
    · simp only [w64_eq]; omega
  · simp only [Stats.more, k.none]; exact inc_cn (fun h => h.no) l h
  · simp only [Stats.more, k.names]; exact inc_cn (fun h => h.no && h.nm) l h
  · simp only [Stats.more, k.r0]; exact inc_cn (fun h => decide (h.rank = 0)) l h
  · simp only [Stats.more, k.r1]; exact inc_cn (fun h => decide (h.rank = 1)) l h
  · simp only [Stats.more, k.r2]; exact inc_cn (fun h => decide (h.rank = 2)) l h
  · simp only [Stats.more, k.r3]; exact inc_cn (fun h => decide (h.rank = 3)) l h
  · simp only [Stats.more, k.r4]; exact inc_cn (fun h => decide (h.rank = 4)) l h
  · simp only [Stats.more, k.live]; exact inc_cn (fun h => decide (now < h.till)) l h
  · intro e
    rw [cn_append] at e
    have e1 : cn (fun h => decide (now < h.till)) l = 0 := by omega
    have e2 : ¬ now < h.till := by
      intro e2
      simp [cn, e2] at e
    simp only [Stats.more, if_neg e2]
    exact k.dead e1
  · intro e
    simp only [Stats.more]
    split
    · rename_i ht
      split
      · exact ⟨h, by simp, ht, rfl⟩
      · rename_i hn
        have : cn (fun h => decide (now < h.till)) l ≠ 0 := fun e0 => hn (.inl (by rw [hlv, e0]; rfl))
        obtain ⟨x, hx, h1, h2⟩ := k.has this
        exact ⟨x, by simp [hx], h1, h2⟩
    · rename_i ht
      rw [cn_append] at e
      have : cn (fun h => decide (now < h.till)) l ≠ 0 := fun e0 => by simp [cn, ht, e0] at e
      obtain ⟨x, hx, h1, h2⟩ := k.has this
      exact ⟨x, by simp [hx], h1, h2⟩
  · intro x hx hnx
    simp only [Stats.more]
    rcases List.mem_append.1 hx with hx | hx
    · have h1 := k.low x hx hnx
      have h2 : s.live ≠ 0 := by
        intro e
        have : cn (fun h => decide (now < h.till)) l = 0 := by omega
        have := cn_zero _ l this x hx
        simp at this
        omega
      split
      · split
        · rename_i hc
          rcases hc with hc | hc
          · exact absurd hc h2
          · omega
        · exact h1
      · exact h1
    · have hx : x = h := by simpa using hx
      subst hx
      rw [if_pos hnx]
      split
      · omega
      · rename_i hc
        omega
theorem IsStats.zero (now : Int) : IsStats now [] Stats.zero := ⟨rfl, rfl, rfl, rfl, rfl, rfl, rfl, rfl, rfl, rfl, fun _ => rfl, fun h => absurd rfl h, fun _ h => by cases h⟩
theorem IsStats.fold {now : Int} : ∀ (l p : List Held) (s : Stats), IsStats now p s → p.length + l.length < 1000000 → IsStats now (p ++ l) (l.foldl (Stats.more now) s)
  | [], p, s, h, _ => by simpa using h
  | x :: l, p, s, h, hl => by
    have := IsStats.fold l (p ++ [x]) (s.more now x) (h.step (by omega) x) (by simp at hl ⊢; omega)
    simpa using this
theorem isStats (now : Int) (l : List Held) (hl : l.length < 1000000) : IsStats now l (statsOf now l) := by
  have := IsStats.fold l [] Stats.zero (IsStats.zero now) (by simpa using hl)
  rwa [List.nil_append] at this

theorem w64_two (a b : Nat) : w64 (w64 a + w64 b) = w64 ((a + b : Nat) : Int) := by simp only [w64_eq]; omega

theorem statsOf_append (now : Int) (b o : List Held) (hb : b.length ≤ 500) (ho : o.length ≤ 500) : statsOf now (b ++ o) = (statsOf now b).add (statsOf now o) := by
  have kb := isStats now b (by omega)
  have ko := isStats now o (by omega)
  have kk := isStats now (b ++ o) (by simp; omega)
  generalize statsOf now b = s at *
  generalize statsOf now o = t at *
  generalize statsOf now (b ++ o) = u at *
  have cb := cn_le (fun h => decide (now < h.till)) b
  have co := cn_le (fun h => decide (now < h.till)) o
  have lb := kb.live
  have lo := ko.live
  rw [w64_small _ (by omega)] at lb lo
  have hleast : u.least = (s.add t).least := by
    have kd := kk.dead
    have kh := kk.has
    have kl := kk.low
    rw [cn_append] at kd kh
    simp only [Stats.add]
    by_cases e1 : s.live = 0
    · have z1 : cn (fun h => decide (now < h.till)) b = 0 := by omega
      by_cases e2 : t.live = 0
      · have z2 : cn (fun h => decide (now < h.till)) o = 0 := by omega
        simp [e1, e2]
        exact kd (by omega)
      · have z2 : cn (fun h => decide (now < h.till)) o ≠ 0 := by omega
        simp [e1, e2]
        obtain ⟨x, hx, h1, h2⟩ := kh (by omega)
        obtain ⟨y, hy, g1, g2⟩ := ko.has z2
        have hxo : x ∈ o := by
          rcases List.mem_append.1 hx with hx | hx
          · have := cn_zero _ b z1 x hx
            simp at this
            omega
          · exact hx
        have a1 := ko.low x hxo h1
        have a2 := kl y (by simp [hy]) g1
        omega
    · have z1 : cn (fun h => decide (now < h.till)) b ≠ 0 := by omega
      obtain ⟨x, hx, h1, h2⟩ := kh (by omega)
      obtain ⟨y, hy, g1, g2⟩ := kb.has z1
      have a2 := kl y (by simp [hy]) g1
      by_cases e2 : t.live = 0
      · have z2 : cn (fun h => decide (now < h.till)) o = 0 := by omega
        simp [e1, e2]
        have hxb : x ∈ b := by
          rcases List.mem_append.1 hx with hx | hx
          · exact hx
          · have := cn_zero _ o z2 x hx
            simp at this
            omega
        have a1 := kb.low x hxb h1
        omega
      · have z2 : cn (fun h => decide (now < h.till)) o ≠ 0 := by omega
        obtain ⟨z, hz, f1, f2⟩ := ko.has z2
        have a3 := kl z (by simp [hz]) f1
        simp [e1, e2]
        rcases List.mem_append.1 hx with hx | hx
        · have a1 := kb.low x hx h1
          split <;> omega
        · have a1 := ko.low x hx h1
          split <;> omega
  cases u
  simp only [Stats.add] at hleast ⊢
  rw [Stats.mk.injEq]
  refine ⟨?_, ?_, ?_, ?_, ?_, ?_, ?_, ?_, ?_, ?_, hleast⟩
  · rw [kb.sets, ko.sets, w64_two, ← cn_append]; exact kk.sets
  · rw [kb.data, ko.data, w64_two, ← sumN_append]; exact kk.data
  · rw [kb.none, ko.none, w64_two, ← cn_append]; exact kk.none
  · rw [kb.names, ko.names, w64_two, ← cn_append]; exact kk.names
  · rw [kb.r0, ko.r0, w64_two, ← cn_append]; exact kk.r0
  · rw [kb.r1, ko.r1, w64_two, ← cn_append]; exact kk.r1
  · rw [kb.r2, ko.r2, w64_two, ← cn_append]; exact kk.r2
  · rw [kb.r3, ko.r3, w64_two, ← cn_append]; exact kk.r3
  · rw [kb.r4, ko.r4, w64_two, ← cn_append]; exact kk.r4
  · rw [kb.live, ko.live, w64_two, ← cn_append]; exact kk.live

theorem Stats.add_comm (a b : Stats) : a.add b = b.add a := by
  unfold Stats.add
  rw [Stats.mk.injEq]
  refine ⟨?_, ?_, ?_, ?_, ?_, ?_, ?_, ?_, ?_, ?_, ?_⟩
  iterate 10 (rw [Int.add_comm])
  by_cases e1 : a.live = 0 <;> by_cases e2 : b.live = 0 <;> simp [e1, e2]
  split <;> split <;> omega

/-- The rest of the law, of one list. -/
theorem parts_rest (now : Int) (k : Int) (b : List Held) (hk : 0 ≤ k ∧ k < 4294967296) (hn : -9223372036854775808 ≤ now ∧ now ≤ 4611686018427387904) (hb : b.length ≤ 500) :
    w64 ((statsOf now b).sets + (statsOf now b).none) = b.length ∧ (statsOf now b).names ≤ (statsOf now b).none ∧ (statsOf (w64 (now + w64 k)) b).live ≤ (statsOf now b).live ∧ ((statsOf now b).live = 0 ∨ (statsOf now b).least > now) := by
  have kb := isStats now b (by omega)
  have e1 : w64 k = k := by rw [w64_eq]; omega
  have e2 : w64 (now + k) = now + k := by rw [w64_eq]; omega
  rw [e1, e2]
  have kk := isStats (now + k) b (by omega)
  generalize statsOf now b = s at *
  generalize statsOf (now + k) b = t at *
  have c1 := cn_not (fun h => h.no) b
  have c2 := cn_imp (fun h => h.no && h.nm) (fun h => h.no) b (by intro x; simp; intro h _; exact h)
  have c3 := cn_imp (fun h => decide (now + k < h.till)) (fun h => decide (now < h.till)) b (by intro x; simp; intro h; omega)
  have c4 := cn_le (fun h => decide (now < h.till)) b
  refine ⟨?_, ?_, ?_, ?_⟩
  · rw [kb.sets, kb.none, w64_two, c1, w64_small _ (by omega)]
  · rw [kb.names, kb.none, w64_small _ (by omega), w64_small _ (by omega)]; omega
  · rw [kb.live, kk.live, w64_small _ (by omega), w64_small _ (by omega)]; omega
  · have := kb.live
    rw [w64_small _ (by omega)] at this
    by_cases e : s.live = 0
    · exact .inl e
    · obtain ⟨x, hx, h1, h2⟩ := kb.has (by omega)
      exact .inr (by omega)
end Go.Proofs.YtjeofhjlmhljhaaDoor
