/-
  PrefixBack returns true at every input and leaves its arguments as they read.
  Conditions: the listed variables of the standard library hold what the text of the program lays (tied by the card).
-/
import Derived.Test.YtjeihmchcfadlaaDoorB2
import Derived.Test.YtjeihmchcfadlaaDoorB4
set_option linter.unusedVariables false
set_option linter.unusedSimpArgs false
namespace Go.Proofs.YtjeihmchcfadlaaDoor
open Go Go.Eng Go.Lib
set_option maxRecDepth 100000
theorem beq_pf (p : Pf) : ((p.addr : Int) == (p.addr : Int) && (p.bits == p.bits && true)) = true := by simp
theorem zero_print : FnOk Tryd.prog 27 [(⟨0, 0⟩ : Pf).sv] (.tup [.d (.str (printP ⟨0, 0⟩)), .d (.int .i64 0)]) := by
  have h := pprint_ok ⟨0, 0⟩ (by decide)
  rw [if_pos (by decide +kernel)] at h
  exact h
set_option maxHeartbeats 4000000 in
theorem pback_ok (p : Pf) (ha : p.addr < 4294967296) (s : List UInt8) : FnOk Tryd.prog 6 [p.sv, .d (.str s)] (.d (.bool true)) := by
  have hpr := pprint_ok p ha
  have hch := pcheck_ok p ha
  have hx := pparse_ok s
  refine fnOk_of_run (TT := TT) (IN := lookI []) TT_ok INok_nil mixed 1000 Tryd.func6 rfl (enters Tryd.func6 (by kernel_rfl) rfl) rfl 68 (by kernel_rfl) ?_
  conv => whnf
  refine .one (.data _ plives_ok rfl rfl ?_)
  conv => whnf
  refine brF rfl ?_
  conv => whnf
  by_cases h1 : s.length > 1000
  · refine brT (decide_eq_true (by omega)) ?_
    conv => whnf
  refine brF (decide_eq_false (by omega)) ?_
  conv => whnf
  by_cases hr : p.right = true
  · rw [if_pos hr] at hpr hch
    refine .one (.data _ hpr rfl rfl ?_)
    conv => whnf
    have hq := pparse_ok (printP p)
    rw [pparse_print ha hr] at hq
    refine .one (.data _ hq rfl rfl ?_)
    conv => whnf
    refine .one (.data _ hx rfl rfl ?_)
    conv => whnf
    rcases pparse_back s with ⟨x, hx1, hx2, hx3, hx4⟩ | hx4
    · rw [hx4]
      have hpx := pprint_ok x hx1
      rw [if_pos hx2, hx3] at hpx
      refine .one (.data _ hpx rfl rfl ?_)
      conv => whnf
      refine .one (.data _ hch rfl rfl ?_)
      conv => whnf
      repeat (first | (refine brT rfl ?_; conv => whnf) | (refine brF rfl ?_; conv => whnf) | (refine brT (beq_pf p) ?_; conv => whnf) | (refine brT (beq_self_eq_true s) ?_; conv => whnf))
      exact congrArg DV.bool (beq_self_eq_true s)
    · rw [hx4]
      refine .one (.data _ zero_print rfl rfl ?_)
      conv => whnf
      refine .one (.data _ hch rfl rfl ?_)
      conv => whnf
      repeat (first | (refine brT rfl ?_; conv => whnf) | (refine brF rfl ?_; conv => whnf) | (refine brT (beq_pf p) ?_; conv => whnf) | (refine brT (beq_self_eq_true s) ?_; conv => whnf))
  · rw [if_neg hr] at hpr hch
    refine .one (.data _ hpr rfl rfl ?_)
    conv => whnf
    refine .one (.data _ (pparse_ok []) rfl rfl ?_)
    conv => whnf
    refine .one (.data _ hx rfl rfl ?_)
    conv => whnf
    rcases pparse_back s with ⟨x, hx1, hx2, hx3, hx4⟩ | hx4
    · rw [hx4]
      have hpx := pprint_ok x hx1
      rw [if_pos hx2, hx3] at hpx
      refine .one (.data _ hpx rfl rfl ?_)
      conv => whnf
      refine .one (.data _ hch rfl rfl ?_)
      conv => whnf
      repeat (first | (refine brT rfl ?_; conv => whnf) | (refine brF rfl ?_; conv => whnf) | (refine brT (beq_pf p) ?_; conv => whnf) | (refine brT (beq_self_eq_true s) ?_; conv => whnf))
      exact congrArg DV.bool (beq_self_eq_true s)
    · rw [hx4]
      refine .one (.data _ zero_print rfl rfl ?_)
      conv => whnf
      refine .one (.data _ hch rfl rfl ?_)
      conv => whnf
      repeat (first | (refine brT rfl ?_; conv => whnf) | (refine brF rfl ?_; conv => whnf) | (refine brT (beq_pf p) ?_; conv => whnf) | (refine brT (beq_self_eq_true s) ?_; conv => whnf))
end Go.Proofs.YtjeihmchcfadlaaDoor
namespace Go.Proofs.YtjeihmchcfadlaaDoor
open Go Go.Eng Go.ChangeShapes Go.WideShapes Go.RowKit

theorem prefixBack_contract (dss : List (List DV)) (h : DTs Tryd.prog Tryd.f6.params.toList dss) : FnOk Tryd.prog 6 (argsSV Tryd.prog Tryd.f6.params.toList dss) (.d (.bool true)) := by
  rw [Tryd.params6] at h ⊢
  match dss, h with
  | [a0, a1], ⟨h0, h1, _⟩ =>
    obtain ⟨p, rfl, hp⟩ := pf_of h0
    obtain ⟨s, rfl, _⟩ := h1.str_inv Tryd.underlying9
    have ha : argsSV Tryd.prog #[36, 9].toList [[DV.int .u32 p.addr, DV.int .i64 p.bits], [.str s]] = [p.sv, .d (.str s)] := by
      simp [argsSV, argSV, oneSV, Tryd.underlying36, Tryd.underlying9, Pf.sv]
    rw [ha]
    exact pback_ok p hp s
set_option maxRecDepth 100000 in
theorem prefixBack_lifted (os : Os) (started : os.Started) (H : Type) (enc : TypeId × Value → H) :
    ReturnsInHanded {} Tryd.checked os 6 .any (fun w args => (Rows.prefixBackSpec.pre enc Tryd.prog Tryd.f6 [] false w args ∧ laidMetH Tryd.prog Rows.prefixBackRow.laid w) ∧ sizedMet enc Tryd.prog Tryd.f6 (OpenSpec.ofChange Rows.prefixBackSpec) false w args)
      (Rows.prefixBackSpec.post enc Tryd.prog Tryd.f6 false true false false) := by
  refine returnsInHanded_of_change_and (C := Tryd.checked) (X := fun w _ => laidMetH Tryd.prog Rows.prefixBackRow.laid w) (fun _ _ _ hh h => h.of_heap hh) own started (by kernel_rfl) Tryd.func6
    (ChangeSpec.witness_at (enc := enc) (C := Tryd.checked) (os := os) (X := fun w _ => laidMetH Tryd.prog Rows.prefixBackRow.laid w) false (laidWorld os) #[.agg #[.int .u32 0, .int .i64 0], .string ⟨#[]⟩] 8 rfl (by kernel_rfl) (by kernel_rfl) (by kernel_rfl) (by kernel_rfl) (by kernel_rfl) (laidWorld_met os _)) ?_
  intro W base args ds gs before hval0 hW _ _ hL _
  have hlen : ∃ d1 d2, ds = [d1, d2] := by
    obtain ⟨p, q, hA, _⟩ := hW
    have hA : DataW.TrodAll enc Tryd.prog W 0 (fun _ => true) true Tryd.f6.params.toList args.toList ds p := hA
    have := trodAll_len hA
    rw [Tryd.params6] at this
    match ds, this with
    | [d1, d2], _ => exact ⟨d1, d2, rfl⟩
  obtain ⟨d1, d2, rfl⟩ := hlen
  exact law_calls kids full (m := 8) (fun t ht => by
    rw [Tryd.params6] at ht
    simp at ht
    rcases ht with rfl | rfl <;> exact ⟨by kernel_rfl, of_decide_eq_true (by kernel_rfl)⟩) prefixBack_contract hval0 rfl hW (by kernel_rfl) Tryd.underlying4 ⟨rfl, rfl, rfl⟩ (vok_of hL)

theorem prefixBack_row : Rows.PrefixBackSaid :=
  OpenClaim.holds_of_wide 6 Tryd.f6 rfl rfl rfl rfl rfl rfl rfl ⟨rfl, rfl, rfl, rfl, rfl⟩ rfl rfl rfl rfl rfl (by kernel_rfl) Tryd.func6 (by kernel_rfl)
    (of_decide_eq_true (by kernel_rfl)) (by unfold Func.isWrapper; rw [if_neg (of_decide_eq_false (by kernel_rfl))]; exact ⟨rfl, rfl⟩)
    (fun os started H enc _ => prefixBack_lifted os started H enc)

theorem prefixBack_holds : Rows.PrefixBackCardSaid :=
  Claim7.holds_tied_plain_at .later [] [.data, .data, .data, .data, .sentinel, .sentinel, .pinned] true (true, "d513b840ec91f2345823f5f8dd3534c259aa7cc5da73d820b30d898315585fed") true
    prefixBack_row (fun _ h => by cases h) (by kernel_rfl) (fun _ h => by cases h) prefixBack_row_tie rfl ⟨rfl, rfl⟩ (by kernel_rfl) rfl
    (fun f fn hf hfn => by
      obtain rfl : f = 6 := Option.some.inj ((show Tryd.prog.funcNamed "hardtack/hardtacklaw36.PrefixBack" = some 6 by kernel_rfl).symm.trans hf) |>.symm
      obtain rfl : fn = Tryd.f6 := (Option.some.inj (Tryd.func6.symm.trans hfn)).symm
      exact ⟨by kernel_rfl, fun j t ht => by
        rw [Tryd.params6] at ht
        rcases j with _ | _ | j
        · obtain rfl : t = 36 := by simpa using ht.symm
          exact (show Tryd.prog.wantsStandIn 36 = false by kernel_rfl)
        · obtain rfl : t = 9 := by simpa using ht.symm
          exact (show Tryd.prog.wantsStandIn 9 = false by kernel_rfl)
        · simp at ht⟩)
    (by kernel_rfl)
end Go.Proofs.YtjeihmchcfadlaaDoor
