/-
  The engine, part F: a contract over known blocks where these lie one behind another among others.
-/
import Derived.Test.YtdphkaiijlekhaaEgE
namespace Go.Eng
open Go Go.RowKit
theorem beq_false {a b : Nat} (h : a ≠ b) : Nat.beq a b = false := by
  cases hb : Nat.beq a b
  · rfl
  · exact absurd (Nat.eq_of_beq_eq_true hb) h
theorem memN_range' (t p n : Nat) (h : t < p) : memN t (List.range' p n) = false := by
  induction n generalizing p with
  | zero => rfl
  | succ n ih => rw [List.range'_succ, memN, beq_false (by omega)]; exact ih (p + 1) (by omega)
theorem okN_range' (m p n : Nat) (h : p + n ≤ m) : okN m (List.range' p n) = true := by
  induction n generalizing p with
  | zero => rfl
  | succ n ih =>
    rw [List.range'_succ, okN, memN_range' _ _ _ (by omega), Nat.ble_eq_true_of_le (show p + 1 ≤ m by omega)]
    exact ih (p + 1) (by omega)
theorem getBs_range' (pre l rest : List KB) : getBs (pre ++ (l ++ rest)) (List.range' pre.length l.length) = l := by
  induction l generalizing pre with
  | nil => rfl
  | cons a l ih =>
    rw [List.length_cons, List.range'_succ, getBs, getB_eq]
    have := ih (pre ++ [a])
    simp only [List.length_append, List.length_cons, List.length_nil, Nat.zero_add, List.append_assoc, List.cons_append, List.nil_append] at this
    rw [List.cons_append, this]
    simp
theorem setBs_range' (pre l rest m : List KB) (h : l.length ≤ m.length) : setBs (pre ++ (l ++ rest)) (List.range' pre.length l.length) m = pre ++ (m.take l.length ++ rest) := by
  induction l generalizing pre m with
  | nil => cases m <;> simp [setBs]
  | cons a l ih =>
    cases m with
    | nil => simp at h
    | cons b m =>
      rw [List.length_cons, List.range'_succ, setBs, setB_eq]
      have e : (pre ++ (a :: l ++ rest)).set pre.length b = (pre ++ [b]) ++ (l ++ rest) := by simp
      rw [e]
      have := ih (pre ++ [b]) m (by simpa using h)
      simp only [List.length_append, List.length_cons, List.length_nil, Nat.zero_add] at this
      rw [this]
      simp
/-- The contract's blocks lie behind pre, one behind another; new ones come behind all. -/
theorem COk.among {P : Program} {f : FuncId} {al : List SV} {k0 : List KB} {R : SV → List KB → Prop} (h : COk P f al k0 R) (pre rest : List KB) (hR : ∀ s k, R s k → k0.length ≤ k.length) {σ : Nat → Nat} (hσ : σ = sig (List.range' pre.length k0.length) (pre.length + (k0.length + rest.length))) :
    COk P f (mapL σ al) (pre ++ (mapB σ k0 ++ rest)) (fun s k => ∃ s0 k1, R s0 k1 ∧ s = mapV σ s0 ∧ k = pre ++ (mapB σ (k1.take k0.length) ++ (rest ++ mapB σ (k1.drop k0.length)))) := by
  have hl : (mapB σ k0).length = k0.length := mapB_length σ k0
  have hN : lenB (pre ++ (mapB σ k0 ++ rest)) = pre.length + (k0.length + rest.length) := by rw [lenB_eq]; simp [hl]
  refine h.frame (List.range' pre.length k0.length) ?_ ?_ ?_ (fun s0 k1 h0 => ?_)
  · rw [hN]; exact okN_range' _ _ _ (by omega)
  · rw [hN, ← hσ]
  · rw [hN, ← hσ]
    have := getBs_range' pre (mapB σ k0) rest
    rwa [hl] at this
  · rw [hN, ← hσ]
    have hk := hR _ _ h0
    refine ⟨s0, k1, h0, rfl, ?_⟩
    unfold putBs
    have := setBs_range' pre (mapB σ k0) rest (mapB σ k1) (by rw [hl, mapB_length]; exact hk)
    rw [hl] at this
    rw [appB_eq, this, dropB_eq]
    have e1 : ∀ n, (mapB σ k1).take n = mapB σ (k1.take n) := fun n => List.ext_getElem? fun j => by
      rw [mapB_get, List.getElem?_take, List.getElem?_take, mapB_get]
      split <;> rfl
    have e2 : ∀ n, (mapB σ k1).drop n = mapB σ (k1.drop n) := fun n => List.ext_getElem? fun j => by
      rw [mapB_get, List.getElem?_drop, List.getElem?_drop, mapB_get]
    rw [e1, e2]
    simp
end Go.Eng
