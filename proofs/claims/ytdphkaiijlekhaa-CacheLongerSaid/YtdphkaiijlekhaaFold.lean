/-
  label.Fold puts for each capital letter its small one. No conditions but that the text is shorter than 2 to the 62.
-/
import Derived.Test.YtdphkaiijlekhaaCheck
namespace Go.Proofs.Ytdphkaiijlekhaa
open Go Go.Eng
def low (b : UInt8) : UInt8 := if 65 ≤ b ∧ b ≤ 90 then b + 32 else b
def fold (s : List UInt8) : List UInt8 := s.map low
theorem low_nat (b : UInt8) : (low b).toNat = if 65 ≤ b.toNat ∧ b.toNat ≤ 90 then b.toNat + 32 else b.toNat := by
  unfold low
  have e1 : (65 ≤ b) ↔ 65 ≤ b.toNat := by rw [UInt8.le_iff_toNat_le]; rfl
  have e2 : (b ≤ 90) ↔ b.toNat ≤ 90 := by rw [UInt8.le_iff_toNat_le]; rfl
  simp only [e1, e2]
  split
  · rw [UInt8.toNat_add]
    have : (32 : UInt8).toNat = 32 := rfl
    omega
  · rfl
def mix (s : List UInt8) (k j : Nat) : Int := if j < k then ((low (s[j]?.getD 0)).toNat : Int) else (bt s j : Int)
set_option maxRecDepth 100000
set_option maxHeartbeats 2000000 in
theorem fold_ok (s : List UInt8) (hs : s.length < 9223372036854775808) : FnOk Try.prog 60 [.d (.str s)] (.d (.str (fold s))) := by
  refine fnOk_of_run (TT := TT) (IN := lookI []) TT_ok INok_nil mixed 1000 Try.func60 rfl (enters Try.func60 (by kernel_rfl) rfl) rfl 28 (by kernel_rfl) ?_
  conv => whnf
  refine .inv Nat (fun k => k ≤ s.length) (fun k => [(10, .d (.int .i64 k))]) (fun k => [(0, .row 5 1 s.length .no (fun j => [.int .u8 (mix s k j)]))]) (fun k => s.length - k) ⟨0, [0], by omega, ?_⟩ ?_
  · conv => whnf
    repeat' (first | exact True.intro | exact rfl | refine And.intro ?_ ?_)
    intro i hi
    simp [mix, bt_eq]
  intro k hk
  have hk1 : k < s.length → IntKind.i64.wrap ((k : Int) + 1) = ((k + 1 : Nat) : Int) := fun _ => by rw [w64_in _ (by omega)]; omega
  conv => whnf
  refine ⟨fun hlt => ?_, fun hge => ?_⟩
  · have hlt' : k < s.length := by simpa using hlt
    conv => whnf
    refine ⟨by simp; omega, ?_⟩
    have hmk : mix s k (Int.toNat (k : Int)) = (bt s k : Int) := by simp [mix]
    have hb := bt_lt s k
    conv => whnf
    have stay : ¬ (65 ≤ bt s k ∧ bt s k ≤ 90) → ∀ i, i < s.length → [DV.int IntKind.u8 (mix s k i)] = [DV.int IntKind.u8 (mix s (k + 1) i)] := fun hn i hi => by
      unfold mix
      by_cases e : i = k
      · subst e
        rw [if_neg (by omega), if_pos (by omega), low_nat, if_neg (by unfold bt at hn; exact hn)]
        rfl
      · by_cases e2 : i < k
        · rw [if_pos e2, if_pos (by omega)]
        · rw [if_neg e2, if_neg (by omega)]
    rw [hmk]
    refine ⟨fun h1 => ?_, fun h1 => ?_⟩
    · conv => whnf
      refine ⟨fun h2 => ?_, fun h2 => ?_⟩
      · conv => whnf
        refine ⟨by simp; omega, ?_⟩
        conv => whnf
        refine ⟨k + 1, [0], by omega, by show s.length - (k + 1) < s.length - k; omega, ?_⟩
        conv => whnf
        repeat' (first | exact True.intro | exact rfl | refine And.intro ?_ ?_)
        all_goals first
          | exact congrArg SV.d (congrArg (DV.int _) (hk1 hlt'))
          | exact stay (by simp at h1 h2; omega)
          | (intro i hi
             show oneF _ _ _ _ i = _
             unfold oneF mix
             simp at h1 h2
             by_cases e : i = k
             · subst e
               simp only [Int.toNat_natCast, if_true, putD, List.set_cons_zero]
               rw [if_pos (by omega), low_nat, if_pos (by unfold bt at h1 h2; omega), IntKind.wrap_u8]
               unfold bt at *
               congr 2
               omega
             · rw [if_neg (by simpa using e)]
               show [DV.int _ _] = [DV.int _ _]
               by_cases e2 : i < k
               · rw [if_pos e2, if_pos (by omega)]
               · rw [if_neg e2, if_neg (by omega)])
      · conv => whnf
        refine ⟨k + 1, [0], by omega, by show s.length - (k + 1) < s.length - k; omega, ?_⟩
        conv => whnf
        repeat' (first | exact True.intro | exact rfl | refine And.intro ?_ ?_)
        all_goals first
          | exact congrArg SV.d (congrArg (DV.int _) (hk1 hlt'))
          | exact stay (by simp at h1 h2; omega)
          | (intro i hi
             show oneF _ _ _ _ i = _
             unfold oneF mix
             simp at h1 h2
             by_cases e : i = k
             · subst e
               simp only [Int.toNat_natCast, if_true, putD, List.set_cons_zero]
               rw [if_pos (by omega), low_nat, if_pos (by unfold bt at h1 h2; omega), IntKind.wrap_u8]
               unfold bt at *
               congr 2
               omega
             · rw [if_neg (by simpa using e)]
               show [DV.int _ _] = [DV.int _ _]
               by_cases e2 : i < k
               · rw [if_pos e2, if_pos (by omega)]
               · rw [if_neg e2, if_neg (by omega)])
    · conv => whnf
      refine ⟨k + 1, [0], by omega, by show s.length - (k + 1) < s.length - k; omega, ?_⟩
      conv => whnf
      repeat' (first | exact True.intro | exact rfl | refine And.intro ?_ ?_)
      all_goals first
        | exact congrArg SV.d (congrArg (DV.int _) (hk1 hlt'))
        | exact stay (by simp at h1; omega)
        | (intro i hi
           show oneF _ _ _ _ i = _
           unfold oneF mix
           simp at h1
           by_cases e : i = k
           · subst e
             simp only [Int.toNat_natCast, if_true, putD, List.set_cons_zero]
             rw [if_pos (by omega), low_nat, if_pos (by unfold bt at h1; omega), IntKind.wrap_u8]
             unfold bt at *
             congr 2
             omega
           · rw [if_neg (by simpa using e)]
             show [DV.int _ _] = [DV.int _ _]
             by_cases e2 : i < k
             · rw [if_pos e2, if_pos (by omega)]
             · rw [if_neg e2, if_neg (by omega)])
  · have hke : k = s.length := by simp at hge; omega
    subst hke
    conv => whnf
    refine ⟨fun i _ => ⟨_, rfl⟩, ?_⟩
    conv => whnf
    refine congrArg DV.str ?_
    unfold bytesOf fold
    apply List.ext_getElem?
    intro i
    rw [List.getElem?_map, List.getElem?_map]
    by_cases hi : i < s.length
    · rw [List.getElem?_range hi, List.getElem?_eq_getElem hi]
      simp [mix, hi]
    · rw [List.getElem?_eq_none (by simp; omega), List.getElem?_eq_none (by omega)]
      rfl
end Go.Proofs.Ytdphkaiijlekhaa
