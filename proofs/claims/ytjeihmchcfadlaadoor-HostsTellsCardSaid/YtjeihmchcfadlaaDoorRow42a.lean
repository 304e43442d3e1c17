/-
  HostsTells returns true at every input and leaves its arguments as they read.
  Conditions: the listed variables of the standard library hold what the text of the program lays (tied by the card).
-/
import Derived.Test.YtjeihmchcfadlaaDoorB4
import Derived.Test.YtjeihmchcfadlaaDoorB3
set_option linter.unusedVariables false
set_option linter.unusedSimpArgs false
namespace Go.Proofs.YtjeihmchcfadlaaDoor
open Go Go.Eng Go.ChangeShapes Go.WideShapes Go.RowKit

theorem hostsTells_contract (dss : List (List DV)) (h : DTs Tryd.prog Tryd.f3.params.toList dss) : FnOk Tryd.prog 3 (argsSV Tryd.prog Tryd.f3.params.toList dss) (.d (.bool true)) := by
  rw [Tryd.params3] at h ⊢
  match dss, h with
  | [a0, a1, a2, a3], ⟨h0, h1, h2, h3, _⟩ =>
    obtain ⟨a, rfl, w0⟩ := h0.int_inv Tryd.underlying22
    obtain ⟨s, rfl, _⟩ := h1.str_inv Tryd.underlying9
    obtain ⟨n, rfl, _⟩ := h2.str_inv Tryd.underlying9
    obtain ⟨k, rfl, _⟩ := h3.int_inv Tryd.underlying3
    have ha : argsSV Tryd.prog #[22, 9, 9, 3].toList [[DV.int .u32 a], [.str s], [.str n], [.int .i64 k]] = [.d (.int .u32 a), .d (.str s), .d (.str n), .d (.int .i64 k)] := by
      simp [argsSV, argSV, oneSV, Tryd.underlying22, Tryd.underlying9, Tryd.underlying3]
    rw [ha]
    have w0 : 0 ≤ a ∧ a ≤ 4294967295 := u_int w0
    obtain ⟨a, rfl⟩ := Int.eq_ofNat_of_zero_le w0.1
    exact tells_ok a (by omega) s n k
set_option maxRecDepth 100000 in
theorem hostsTells_lifted (os : Os) (started : os.Started) (H : Type) (enc : TypeId × Value → H) :
    ReturnsInHanded {} Tryd.checked os 3 .any (fun w args => (Rows.hostsTellsSpec.pre enc Tryd.prog Tryd.f3 [] false w args ∧ laidMetH Tryd.prog Rows.hostsTellsRow.laid w) ∧ sizedMet enc Tryd.prog Tryd.f3 (OpenSpec.ofChange Rows.hostsTellsSpec) false w args)
      (Rows.hostsTellsSpec.post enc Tryd.prog Tryd.f3 false true false false) := by
  refine returnsInHanded_of_change_and (C := Tryd.checked) (X := fun w _ => laidMetH Tryd.prog Rows.hostsTellsRow.laid w) (fun _ _ _ hh h => h.of_heap hh) own started (by kernel_rfl) Tryd.func3
    (ChangeSpec.witness_at (enc := enc) (C := Tryd.checked) (os := os) (X := fun w _ => laidMetH Tryd.prog Rows.hostsTellsRow.laid w) false (laidWorld os) #[.int .u32 0, .string ⟨#[]⟩, .string ⟨#[]⟩, .int .i64 0] 8 rfl (by kernel_rfl) (by kernel_rfl) (by kernel_rfl) (by kernel_rfl) (by kernel_rfl) (laidWorld_met os _)) ?_
  intro W base args ds gs before hval0 hW _ _ hL _
  have hlen : ∃ d1 d2 d3 d4, ds = [d1, d2, d3, d4] := by
    obtain ⟨p, q, hA, _⟩ := hW
    have hA : DataW.TrodAll enc Tryd.prog W 0 (fun _ => true) true Tryd.f3.params.toList args.toList ds p := hA
    have := trodAll_len hA
    rw [Tryd.params3] at this
    match ds, this with
    | [d1, d2, d3, d4], _ => exact ⟨d1, d2, d3, d4, rfl⟩
  obtain ⟨d1, d2, d3, d4, rfl⟩ := hlen
  exact law_calls kids full (m := 8) (fun t ht => by
    rw [Tryd.params3] at ht
    simp at ht
    rcases ht with rfl | rfl | rfl <;> exact ⟨by kernel_rfl, of_decide_eq_true (by kernel_rfl)⟩) hostsTells_contract hval0 rfl hW (by kernel_rfl) Tryd.underlying4 ⟨rfl, rfl, rfl⟩ (vok_of hL)

theorem hostsTells_row : Rows.HostsTellsSaid :=
  OpenClaim.holds_of_wide 3 Tryd.f3 rfl rfl rfl rfl rfl rfl rfl ⟨rfl, rfl, rfl, rfl, rfl⟩ rfl rfl rfl rfl rfl (by kernel_rfl) Tryd.func3 (by kernel_rfl)
    (of_decide_eq_true (by kernel_rfl)) (by unfold Func.isWrapper; rw [if_neg (of_decide_eq_false (by kernel_rfl))]; exact ⟨rfl, rfl⟩)
    (fun os started H enc _ => hostsTells_lifted os started H enc)

theorem hostsTells_holds : Rows.HostsTellsCardSaid :=
  Claim7.holds_tied_plain_at .later [] [.data, .data, .data, .data, .sentinel, .sentinel, .pinned] true (true, "d513b840ec91f2345823f5f8dd3534c259aa7cc5da73d820b30d898315585fed") true
    hostsTells_row (fun _ h => by cases h) (by kernel_rfl) (fun _ h => by cases h) hostsTells_row_tie rfl ⟨rfl, rfl⟩ (by kernel_rfl) rfl
    (fun f fn hf hfn => by
      obtain rfl : f = 3 := Option.some.inj ((show Tryd.prog.funcNamed "hardtack/hardtacklaw42.HostsTells" = some 3 by kernel_rfl).symm.trans hf) |>.symm
      obtain rfl : fn = Tryd.f3 := (Option.some.inj (Tryd.func3.symm.trans hfn)).symm
      exact ⟨by kernel_rfl, fun j t ht => by
        rw [Tryd.params3] at ht
        rcases j with _ | _ | _ | _ | j
        · obtain rfl : t = 22 := by simpa using ht.symm
          exact (show Tryd.prog.wantsStandIn 22 = false by kernel_rfl)
        · obtain rfl : t = 9 := by simpa using ht.symm
          exact (show Tryd.prog.wantsStandIn 9 = false by kernel_rfl)
        · obtain rfl : t = 9 := by simpa using ht.symm
          exact (show Tryd.prog.wantsStandIn 9 = false by kernel_rfl)
        · obtain rfl : t = 3 := by simpa using ht.symm
          exact (show Tryd.prog.wantsStandIn 3 = false by kernel_rfl)
        · simp at ht⟩)
    (by kernel_rfl)
end Go.Proofs.YtjeihmchcfadlaaDoor
