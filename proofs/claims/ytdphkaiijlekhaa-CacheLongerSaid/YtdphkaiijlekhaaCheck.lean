/-
  label.Check tells whether a text is a name. No conditions.
-/
import Derived.Test.YtdphkaiijlekhaaTT
namespace Go.Proofs.Ytdphkaiijlekhaa
open Go Go.Eng
/-- The byte of a text, 0 beyond it. -/
def bt (s : List UInt8) (k : Nat) : Nat := (s[k]?.getD 0).toNat
theorem bt_eq (s : List UInt8) (k : Nat) : byteAt s (k : Int) = (bt s k : Int) := by
  unfold byteAt bt; simp
theorem bt_lt (s : List UInt8) (k : Nat) : bt s k < 256 := UInt8.toNat_lt _
def more (s : List UInt8) (k : Nat) : Prop := k < s.length ∧ ¬ bt s k = 0 ∧ bt s k ≤ 63 ∧ bt s k < s.length - k
instance (s : List UInt8) (k : Nat) : Decidable (more s k) := by unfold more; infer_instance
/-- Where the labels end that begin at k. -/
def endOf (s : List UInt8) : Nat → Nat → Nat
  | 0, k => k
  | m + 1, k => if more s k then endOf s m (k + 1 + bt s k) else k
def lastOf (s : List UInt8) : Nat := endOf s s.length 0
def At (s : List UInt8) (k : Nat) : Prop := k ≤ s.length ∧ ∃ m, s.length ≤ k + m ∧ endOf s m k = lastOf s
theorem At.zero (s : List UInt8) : At s 0 := ⟨Nat.zero_le _, s.length, by omega, rfl⟩
theorem At.next {s : List UInt8} {k : Nat} (h : At s k) (hm : more s k) : At s (k + 1 + bt s k) := by
  obtain ⟨h1, m, h2, h3⟩ := h
  have := hm
  obtain ⟨a1, a2, a3, a4⟩ := this
  cases m with
  | zero => omega
  | succ m => exact ⟨by omega, m, by omega, by rw [← h3]; simp [endOf, hm]⟩
theorem At.last {s : List UInt8} {k : Nat} (h : At s k) (hm : ¬ more s k) : k = lastOf s := by
  obtain ⟨h1, m, h2, h3⟩ := h
  rw [← h3]
  cases m <;> simp [endOf, hm]
def isName (s : List UInt8) : Prop := 0 < s.length ∧ s.length ≤ 255 ∧ lastOf s = s.length - 1 ∧ bt s (lastOf s) = 0
instance (s : List UInt8) : Decidable (isName s) := by unfold isName; infer_instance
theorem w64_in (n : Int) (h : -9223372036854775808 ≤ n ∧ n ≤ 9223372036854775807) : IntKind.i64.wrap n = n := by rw [IntKind.wrap_i64]; omega
set_option maxRecDepth 100000
set_option maxHeartbeats 2000000 in
theorem check_ok (s : List UInt8) : FnOk Try.prog 49 [.d (.str s)] (.d (.int .i64 (if isName s then 0 else 2))) := by
  refine fnOk_of_run (TT := TT) (IN := lookI [(104, Try.f104, 1), (153, Try.f153, 2)]) TT_ok ?_ mixed 1000 Try.func49 rfl (enters Try.func49 (by kernel_rfl) rfl) rfl 27 (by kernel_rfl) ?_
  · exact INok_cons (INok_cons INok_nil Try.func153 (by kernel_rfl) (by kernel_rfl)) Try.func104 (by kernel_rfl) (by kernel_rfl)
  conv => whnf
  refine ⟨fun h1 => ?_, fun h1 => ?_⟩
  · have : ¬ isName s := fun hn => by have a := hn.1; simp at h1; rw [h1] at a; simp at a
    exact congrArg (DV.int _) (by rw [if_neg this])
  have hpos : 0 < s.length := by
    rcases Nat.eq_zero_or_pos s.length with e | e
    · rw [e] at h1; cases h1
    · exact e
  conv => whnf
  refine ⟨fun h2 => ?_, fun h2 => ?_⟩
  · have : ¬ isName s := fun hn => by have a := hn.2.1; simp at h2; omega
    exact congrArg (DV.int _) (by rw [if_neg this])
  have hlen : s.length ≤ 255 := by simp at h2; omega
  conv => whnf
  refine .inv Nat (fun k => At s k) (fun k => [(3, .d (.int .i64 k))]) (fun k => [(0, .cells 3 [.d (.int .i64 k)])]) (fun k => s.length - k) ⟨0, [0, 1, 2], At.zero s, ?_⟩ ?_
  · conv => whnf
    repeat' (first | exact True.intro | exact rfl | refine And.intro ?_ ?_)
  intro k hk
  have hkl := hk.1
  have hby := bt_lt s k
  have hwb : IntKind.i64.wrap (byteAt s (k : Int)) = (bt s k : Int) := by rw [bt_eq, w64_in _ (by omega)]
  have hwl : IntKind.i64.wrap ((s.length : Int) - 1) = (s.length : Int) - 1 := w64_in _ (by omega)
  have key1 : ¬ more s k → (((k : Int) != IntKind.i64.wrap ((s.length : Int) - 1)) = true) → ¬ isName s := fun hm hne hn => by
    have := hk.last hm
    obtain ⟨_, _, a, _⟩ := hn
    rw [hwl] at hne
    simp at hne
    omega
  have key2 : ¬ more s k → (((k : Int) != IntKind.i64.wrap ((s.length : Int) - 1)) = false) → (bt s k = 0 ↔ isName s) ∧ k < s.length := fun hm hne => by
    have := hk.last hm
    rw [hwl] at hne
    simp at hne
    unfold isName
    rw [← this]
    omega
  conv => whnf
  refine ⟨fun hlt => ?_, fun hge => ?_⟩
  · have hlt' : k < s.length := by simpa using hlt
    conv => whnf
    refine ⟨by simp; omega, ?_⟩
    conv => whnf
    refine ⟨fun h0 => ?_, fun h0 => ?_⟩
    · have hm : ¬ more s k := fun hm => by rw [hwb] at h0; simp at h0; exact hm.2.1 h0
      conv => whnf
      refine ⟨fun e => congrArg (DV.int _) (by rw [if_neg (key1 hm e)]), fun e => ?_⟩
      obtain ⟨e1, e2⟩ := key2 hm e
      conv => whnf
      refine ⟨by simp; omega, ?_⟩
      conv => whnf
      refine ⟨fun hz => ?_, fun hz => ?_⟩
      · exact congrArg (DV.int _) (by rw [if_neg (fun hn => by rw [bt_eq] at hz; simp at hz; exact hz (e1.2 hn))])
      · exact congrArg (DV.int _) (by rw [if_pos (e1.1 (by rw [bt_eq] at hz; simpa using hz))])
    · have h0' : ¬ bt s k = 0 := by rw [hwb] at h0; simpa using h0
      conv => whnf
      refine ⟨fun h3 => ?_, fun h3 => ?_⟩
      · have hm : ¬ more s k := fun hm => by rw [hwb] at h3; simp at h3; have := hm.2.2.1; omega
        conv => whnf
        refine ⟨fun e => congrArg (DV.int _) (by rw [if_neg (key1 hm e)]), fun e => ?_⟩
        obtain ⟨e1, e2⟩ := key2 hm e
        conv => whnf
        refine ⟨by simp; omega, ?_⟩
        conv => whnf
        refine ⟨fun hz => ?_, fun hz => ?_⟩
        · exact congrArg (DV.int _) (by rw [if_neg (fun hn => by rw [bt_eq] at hz; simp at hz; exact hz (e1.2 hn))])
        · exact congrArg (DV.int _) (by rw [if_pos (e1.1 (by rw [bt_eq] at hz; simpa using hz))])
      · have h3' : bt s k ≤ 63 := by rw [hwb] at h3; simp at h3; omega
        conv => whnf
        have hws : IntKind.i64.wrap ((s.length : Int) - (k : Int)) = (s.length : Int) - k := w64_in _ (by omega)
        refine ⟨fun h4 => ?_, fun h4 => ?_⟩
        · have hm : ¬ more s k := fun hm => by rw [hwb, hws] at h4; simp at h4; have := hm.2.2.2; omega
          conv => whnf
          refine ⟨fun e => congrArg (DV.int _) (by rw [if_neg (key1 hm e)]), fun e => ?_⟩
          obtain ⟨e1, e2⟩ := key2 hm e
          conv => whnf
          refine ⟨by simp; omega, ?_⟩
          conv => whnf
          refine ⟨fun hz => ?_, fun hz => ?_⟩
          · exact congrArg (DV.int _) (by rw [if_neg (fun hn => by rw [bt_eq] at hz; simp at hz; exact hz (e1.2 hn))])
          · exact congrArg (DV.int _) (by rw [if_pos (e1.1 (by rw [bt_eq] at hz; simpa using hz))])
        · have hm : more s k := ⟨hlt', h0', h3', by rw [hwb, hws] at h4; simp at h4; omega⟩
          conv => whnf
          refine ⟨k + 1 + bt s k, [0, 1, 2], hk.next hm, by show s.length - (k + 1 + bt s k) < s.length - k; omega, ?_⟩
          have hnx : IntKind.i64.wrap ((k : Int) + IntKind.i64.wrap (1 + IntKind.i64.wrap (byteAt s (k : Int)))) = ((k + 1 + bt s k : Nat) : Int) := by rw [hwb, w64_in (1 + (bt s k : Int)) (by omega), w64_in _ (by omega)]; omega
          conv => whnf
          repeat' (first | exact True.intro | exact rfl | refine And.intro ?_ ?_)
          all_goals exact congrArg SV.d (congrArg (DV.int _) hnx)
  · have hm : ¬ more s k := fun hm => by have := hm.1; simp at hge; omega
    conv => whnf
    refine ⟨fun e => congrArg (DV.int _) (by rw [if_neg (key1 hm e)]), fun e => ?_⟩
    obtain ⟨e1, e2⟩ := key2 hm e
    conv => whnf
    refine ⟨by simp; omega, ?_⟩
    conv => whnf
    refine ⟨fun hz => ?_, fun hz => ?_⟩
    · exact congrArg (DV.int _) (by rw [if_neg (fun hn => by rw [bt_eq] at hz; simp at hz; exact hz (e1.2 hn))])
    · exact congrArg (DV.int _) (by rw [if_pos (e1.1 (by rw [bt_eq] at hz; simpa using hz))])
end Go.Proofs.Ytdphkaiijlekhaa
