/-
  HostsBack returns true at every input and leaves its arguments as they read.
  Conditions: the listed variables of the standard library hold what the text of the program lays (tied by the card).
-/
import Derived.Test.YtjeihmchcfadlaaDoorB3
import Derived.Test.YtjeihmchcfadlaaDoorB4
set_option linter.unusedVariables false
set_option linter.unusedSimpArgs false
namespace Go.Proofs.YtjeihmchcfadlaaDoor
open Go Go.Eng
set_option maxRecDepth 100000
theorem zone8_ok (a : Nat) (ha : a < 4294967296) (k : Nat) (hk : k ≤ 4) : FnOk Tryd.prog 13 [.d (.int .u32 a), .d (.int .i64 (8 * k : Nat))] (.tup [.d (.str (mk (zoneA a k))), .d (.int .i64 0)]) := by
  have h := zone_ok a ha (8 * k : Nat)
  rw [if_neg (by
    rintro (h | h | h)
    · omega
    · omega
    · rw [Int.tmod_eq_emod_of_nonneg (by omega)] at h
      omega)] at h
  rw [show (((8 * k : Nat) : Int) / 8).toNat = k by omega] at h
  exact h
theorem bne_me (g : Bool) : (g != g) = false := by cases g <;> rfl
theorem shr_same (a b : Nat) {k : Nat} (h0 : ¬ k = 0) (hk : k ≤ 4) : (((a : Int).fdiv (2 ^ min (((32 - 8 * k : Nat) : Int).toNat) IntKind.u32.bits)) == ((b : Int).fdiv (2 ^ min (((32 - 8 * k : Nat) : Int).toNat) IntKind.u32.bits))) = sameA a b k := by
  have hp : (0 : Int) ≤ 2 ^ min (32 - 8 * k) 32 := Int.le_of_lt (Int.pow_pos (by decide))
  have hq : (2 : Nat) ^ min (32 - 8 * k) 32 = 256 ^ (4 - k) := by
    have : k = 1 ∨ k = 2 ∨ k = 3 ∨ k = 4 := by omega
    rcases this with rfl | rfl | rfl | rfl <;> decide
  have e : ∀ x : Nat, ((x : Int).fdiv (2 ^ min (32 - 8 * k) 32)) = ((x / 256 ^ (4 - k) : Nat) : Int) := fun x => by
    rw [Int.fdiv_eq_ediv_of_nonneg _ hp, ← hq]
    simp
  show (((a : Int).fdiv (2 ^ min (32 - 8 * k) 32)) == ((b : Int).fdiv (2 ^ min (32 - 8 * k) 32))) = _
  rw [e, e]
  unfold sameA
  generalize a / 256 ^ (4 - k) = x
  generalize b / 256 ^ (4 - k) = y
  rw [Bool.eq_iff_iff, beq_iff_eq, decide_eq_true_eq]
  omega
set_option maxHeartbeats 8000000 in
theorem back_ok (a : Nat) (ha : a < 4294967296) (b : Nat) (hb : b < 4294967296) (s n : List UInt8) : FnOk Tryd.prog 4 [.d (.int .u32 a), .d (.int .u32 b), .d (.str s), .d (.str n)] (.d (.bool true)) := by
  refine fnOk_of_run (TT := TT) (IN := lookI []) TT_ok INok_nil mixed 1000 Tryd.func4 rfl (enters Tryd.func4 (by kernel_rfl) rfl) rfl 135 (by kernel_rfl) ?_
  conv => whnf
  refine .one (.data _ lives_ok rfl rfl ?_)
  conv => whnf
  refine brF rfl ?_
  conv => whnf
  refine .one (.data _ (print_ok a ha) rfl rfl ?_)
  conv => whnf
  have hp := hparse_ok (printA a)
  rw [parseV_print ha] at hp
  refine .one (.data _ hp rfl rfl ?_)
  conv => whnf
  refine .one (.data _ (reverse_ok a ha) rfl rfl ?_)
  conv => whnf
  have ho := of_ok (mk (labA a))
  rw [ofV_labA ha] at ho
  refine .one (.data _ ho rfl rfl ?_)
  conv => whnf
  refine brF rfl ?_
  conv => whnf
  refine brF (by simp) ?_
  conv => whnf
  refine brF rfl ?_
  conv => whnf
  refine brF (by simp) ?_
  conv => whnf
  refine .inv Nat (fun k => k ≤ 5) (fun k => [(14, .d (.int .i64 (8 * k : Nat)))]) (fun k => []) (fun k => 5 - k) ⟨0, [], Nat.zero_le _, ?_⟩ ?_
  · conv => whnf
    repeat' (first | exact True.intro | exact rfl | exact fun _ => Iff.rfl | exact fun _ _ => rfl | exact renM_ent rfl _ | refine And.intro ?_ ?_)
  intro k hk
  conv => whnf
  refine ⟨fun c1 => ?_, fun c1 => ?_⟩
  · have c1 : ((8 * k : Nat) : Int) ≤ 32 := of_decide_eq_true c1
    have hk4 : k ≤ 4 := by omega
    conv => whnf
    refine .one (.data _ (zone8_ok a ha k hk4) rfl rfl ?_)
    conv => whnf
    refine .one (.data _ (zone8_ok b hb k hk4) rfl rfl ?_)
    conv => whnf
    by_cases hk0 : k = 0
    · refine brT (by rw [hk0]; rfl) ?_
      conv => whnf
      refine brF rfl ?_
      conv => whnf
      refine brF rfl ?_
      conv => whnf
      have hsm : sameA a b k = true := by unfold sameA; exact decide_eq_true (.inl hk0)
      refine .one (.data _ (within_ok (mk (labA a)) (mk (zoneA a k))) rfl rfl ?_)
      rw [within_zone ha ha hk4, sameA_self]
      conv => whnf
      refine brF rfl ?_
      conv => whnf
      refine .one (.data _ (lsame_ok (mk (zoneA b k)) (mk (zoneA a k))) rfl rfl ?_)
      rw [same_zone ha hb hk4, hsm]
      conv => whnf
      refine brF (by first | rfl | exact bne_me _) ?_
      conv => whnf
      refine .one (.data _ (reverse_ok b hb) rfl rfl ?_)
      conv => whnf
      refine .one (.data _ (within_ok (mk (labA b)) (mk (zoneA a k))) rfl rfl ?_)
      rw [within_zone ha hb hk4, hsm]
      conv => whnf
      refine brF (by first | rfl | exact bne_me _) ?_
      conv => whnf
      refine ⟨k + 1, [], by omega, by omega, ?_⟩
      conv => whnf
      have hw : IntKind.i64.wrap (((8 * k : Nat) : Int) + 8) = ((8 * (k + 1) : Nat) : Int) := by rw [w64_in _ (by omega)]; omega
      rw [hw]
      repeat' (first | exact True.intro | exact rfl | exact fun _ => Iff.rfl | exact fun _ _ => rfl | exact renM_ent rfl _ | refine And.intro ?_ ?_)
    · refine brF (by rw [beq_eq_false_iff_ne]; omega) ?_
      conv => whnf
      have e1 : IntKind.i64.wrap (32 - ((8 * k : Nat) : Int)) = ((32 - 8 * k : Nat) : Int) := by rw [w64_in _ (by omega)]; omega
      rw [e1]
      refine ⟨by omega, ?_⟩
      conv => whnf
      refine ⟨by rw [e1]; omega, ?_⟩
      conv => whnf
      rw [e1, shr_same a b hk0 hk4]
      generalize hsm : sameA a b k = g
      refine brF rfl ?_
      conv => whnf
      refine brF rfl ?_
      conv => whnf
      refine .one (.data _ (within_ok (mk (labA a)) (mk (zoneA a k))) rfl rfl ?_)
      rw [within_zone ha ha hk4, sameA_self]
      conv => whnf
      refine brF rfl ?_
      conv => whnf
      refine .one (.data _ (lsame_ok (mk (zoneA b k)) (mk (zoneA a k))) rfl rfl ?_)
      rw [same_zone ha hb hk4, hsm]
      conv => whnf
      refine brF (by first | rfl | exact bne_me _) ?_
      conv => whnf
      refine .one (.data _ (reverse_ok b hb) rfl rfl ?_)
      conv => whnf
      refine .one (.data _ (within_ok (mk (labA b)) (mk (zoneA a k))) rfl rfl ?_)
      rw [within_zone ha hb hk4, hsm]
      conv => whnf
      refine brF (by first | rfl | exact bne_me _) ?_
      conv => whnf
      refine ⟨k + 1, [], by omega, by omega, ?_⟩
      conv => whnf
      have hw : IntKind.i64.wrap (((8 * k : Nat) : Int) + 8) = ((8 * (k + 1) : Nat) : Int) := by rw [w64_in _ (by omega)]; omega
      rw [hw]
      repeat' (first | exact True.intro | exact rfl | exact fun _ => Iff.rfl | exact fun _ _ => rfl | exact renM_ent rfl _ | refine And.intro ?_ ?_)
  · conv => whnf
    refine .one (.data _ (hparse_ok s) rfl rfl ?_)
    conv => whnf
    refine .one (.data _ (of_ok n) rfl rfl ?_)
    conv => whnf
    have hp3 : ¬ (parseV s).2 = 0 ∨ ((parseV s).2 = 0 ∧ (parseV s).1 < 4294967296 ∧ printA (parseV s).1 = s) := by
      rcases parseV_or s with ⟨x, hx, e, e2⟩ | ⟨_, e⟩
      · rw [e2]; exact .inr ⟨rfl, hx, e⟩
      · rw [e]; exact .inl (by decide)
    generalize parseV s = v at hp3 ⊢
    have ho3 : ¬ (ofV n).2 = 0 ∨ ((ofV n).2 = 0 ∧ (ofV n).1 < 4294967296 ∧ sameN (mk (labA (ofV n).1)) n = true) := by
      by_cases h : (ofV n).2 = 0
      · exact .inr ⟨h, ofV_lt n, ofV_back n h⟩
      · exact .inl h
    generalize ofV n = u at ho3 ⊢
    rcases hp3 with h | ⟨h, hv, hps⟩
    · refine brT (bne_iff_ne.2 h) ?_
      conv => whnf
      rcases ho3 with h2 | ⟨h2, hu, hsm⟩
      · refine brT (bne_iff_ne.2 h2) ?_
        conv => whnf
      · refine brF (by rw [bne_eq_false_iff_eq]; exact h2) ?_
        conv => whnf
        refine .one (.data _ (reverse_ok u.1 hu) rfl rfl ?_)
        conv => whnf
        refine .one (.data _ (lsame_ok (mk (labA u.1)) n) rfl rfl ?_)
        rw [hsm]
        conv => whnf
    · refine brF (by rw [bne_eq_false_iff_eq]; exact h) ?_
      conv => whnf
      refine .one (.data _ (print_ok v.1 hv) rfl rfl ?_)
      conv => whnf
      refine brT (by rw [hps]; exact beq_self_eq_true s) ?_
      conv => whnf
      rcases ho3 with h2 | ⟨h2, hu, hsm⟩
      · refine brT (bne_iff_ne.2 h2) ?_
        conv => whnf
      · refine brF (by rw [bne_eq_false_iff_eq]; exact h2) ?_
        conv => whnf
        refine .one (.data _ (reverse_ok u.1 hu) rfl rfl ?_)
        conv => whnf
        refine .one (.data _ (lsame_ok (mk (labA u.1)) n) rfl rfl ?_)
        rw [hsm]
        conv => whnf
end Go.Proofs.YtjeihmchcfadlaaDoor
namespace Go.Proofs.YtjeihmchcfadlaaDoor
open Go Go.Eng Go.ChangeShapes Go.WideShapes Go.RowKit

theorem hostsBack_contract (dss : List (List DV)) (h : DTs Tryd.prog Tryd.f4.params.toList dss) : FnOk Tryd.prog 4 (argsSV Tryd.prog Tryd.f4.params.toList dss) (.d (.bool true)) := by
  rw [Tryd.params4] at h ⊢
  match dss, h with
  | [a0, a1, a2, a3], ⟨h0, h1, h2, h3, _⟩ =>
    obtain ⟨a, rfl, w0⟩ := h0.int_inv Tryd.underlying22
    obtain ⟨b, rfl, w1⟩ := h1.int_inv Tryd.underlying22
    obtain ⟨s, rfl, _⟩ := h2.str_inv Tryd.underlying9
    obtain ⟨n, rfl, _⟩ := h3.str_inv Tryd.underlying9
    have ha : argsSV Tryd.prog #[22, 22, 9, 9].toList [[DV.int .u32 a], [.int .u32 b], [.str s], [.str n]] = [.d (.int .u32 a), .d (.int .u32 b), .d (.str s), .d (.str n)] := by
      simp [argsSV, argSV, oneSV, Tryd.underlying22, Tryd.underlying9]
    rw [ha]
    have w0 : 0 ≤ a ∧ a ≤ 4294967295 := u_int w0
    have w1 : 0 ≤ b ∧ b ≤ 4294967295 := u_int w1
    obtain ⟨a, rfl⟩ := Int.eq_ofNat_of_zero_le w0.1
    obtain ⟨b, rfl⟩ := Int.eq_ofNat_of_zero_le w1.1
    exact back_ok a (by omega) b (by omega) s n
set_option maxRecDepth 100000 in
theorem hostsBack_lifted (os : Os) (started : os.Started) (H : Type) (enc : TypeId × Value → H) :
    ReturnsInHanded {} Tryd.checked os 4 .any (fun w args => (Rows.hostsBackSpec.pre enc Tryd.prog Tryd.f4 [] false w args ∧ laidMetH Tryd.prog Rows.hostsBackRow.laid w) ∧ sizedMet enc Tryd.prog Tryd.f4 (OpenSpec.ofChange Rows.hostsBackSpec) false w args)
      (Rows.hostsBackSpec.post enc Tryd.prog Tryd.f4 false true false false) := by
  refine returnsInHanded_of_change_and (C := Tryd.checked) (X := fun w _ => laidMetH Tryd.prog Rows.hostsBackRow.laid w) (fun _ _ _ hh h => h.of_heap hh) own started (by kernel_rfl) Tryd.func4
    (ChangeSpec.witness_at (enc := enc) (C := Tryd.checked) (os := os) (X := fun w _ => laidMetH Tryd.prog Rows.hostsBackRow.laid w) false (laidWorld os) #[.int .u32 0, .int .u32 0, .string ⟨#[]⟩, .string ⟨#[]⟩] 8 rfl (by kernel_rfl) (by kernel_rfl) (by kernel_rfl) (by kernel_rfl) (by kernel_rfl) (laidWorld_met os _)) ?_
  intro W base args ds gs before hval0 hW _ _ hL _
  have hlen : ∃ d1 d2 d3 d4, ds = [d1, d2, d3, d4] := by
    obtain ⟨p, q, hA, _⟩ := hW
    have hA : DataW.TrodAll enc Tryd.prog W 0 (fun _ => true) true Tryd.f4.params.toList args.toList ds p := hA
    have := trodAll_len hA
    rw [Tryd.params4] at this
    match ds, this with
    | [d1, d2, d3, d4], _ => exact ⟨d1, d2, d3, d4, rfl⟩
  obtain ⟨d1, d2, d3, d4, rfl⟩ := hlen
  exact law_calls kids full (m := 8) (fun t ht => by
    rw [Tryd.params4] at ht
    simp at ht
    rcases ht with rfl | rfl <;> exact ⟨by kernel_rfl, of_decide_eq_true (by kernel_rfl)⟩) hostsBack_contract hval0 rfl hW (by kernel_rfl) Tryd.underlying4 ⟨rfl, rfl, rfl⟩ (vok_of hL)

theorem hostsBack_row : Rows.HostsBackSaid :=
  OpenClaim.holds_of_wide 4 Tryd.f4 rfl rfl rfl rfl rfl rfl rfl ⟨rfl, rfl, rfl, rfl, rfl⟩ rfl rfl rfl rfl rfl (by kernel_rfl) Tryd.func4 (by kernel_rfl)
    (of_decide_eq_true (by kernel_rfl)) (by unfold Func.isWrapper; rw [if_neg (of_decide_eq_false (by kernel_rfl))]; exact ⟨rfl, rfl⟩)
    (fun os started H enc _ => hostsBack_lifted os started H enc)

theorem hostsBack_holds : Rows.HostsBackCardSaid :=
  Claim7.holds_tied_plain_at .later [] [.data, .data, .data, .data, .sentinel, .sentinel, .pinned] true (true, "d513b840ec91f2345823f5f8dd3534c259aa7cc5da73d820b30d898315585fed") true
    hostsBack_row (fun _ h => by cases h) (by kernel_rfl) (fun _ h => by cases h) hostsBack_row_tie rfl ⟨rfl, rfl⟩ (by kernel_rfl) rfl
    (fun f fn hf hfn => by
      obtain rfl : f = 4 := Option.some.inj ((show Tryd.prog.funcNamed "hardtack/hardtacklaw42.HostsBack" = some 4 by kernel_rfl).symm.trans hf) |>.symm
      obtain rfl : fn = Tryd.f4 := (Option.some.inj (Tryd.func4.symm.trans hfn)).symm
      exact ⟨by kernel_rfl, fun j t ht => by
        rw [Tryd.params4] at ht
        rcases j with _ | _ | _ | _ | j
        · obtain rfl : t = 22 := by simpa using ht.symm
          exact (show Tryd.prog.wantsStandIn 22 = false by kernel_rfl)
        · obtain rfl : t = 22 := by simpa using ht.symm
          exact (show Tryd.prog.wantsStandIn 22 = false by kernel_rfl)
        · obtain rfl : t = 9 := by simpa using ht.symm
          exact (show Tryd.prog.wantsStandIn 9 = false by kernel_rfl)
        · obtain rfl : t = 9 := by simpa using ht.symm
          exact (show Tryd.prog.wantsStandIn 9 = false by kernel_rfl)
        · simp at ht⟩)
    (by kernel_rfl)
end Go.Proofs.YtjeihmchcfadlaaDoor
