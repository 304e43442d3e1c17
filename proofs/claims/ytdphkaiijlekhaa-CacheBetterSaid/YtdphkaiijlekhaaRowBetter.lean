/-
  CacheBetter returns true at every input and leaves its arguments as they read.
  Conditions: none.
-/
import Derived.Test.YtdphkaiijlekhaaRowBase
import Derived.Test.YtdphkaiijlekhaaBetter
namespace Go.Proofs.Ytdphkaiijlekhaa
open Go Go.Eng Go.ChangeShapes Go.WideShapes Go.RowKit

theorem better_contract (dss : List (List DV)) (h : DTs Try.prog Try.f4.params.toList dss) : FnOk Try.prog 4 (argsSV Try.prog Try.f4.params.toList dss) (.d (.bool true)) := by
  rw [Try.params4] at h ⊢
  match dss, h with
  | [a0, a1, a2, a3, a4, a5], ⟨h0, h1, h2, h3, h4, h5, _⟩ =>
    obtain ⟨sn, st, sttl, sb, sl, d0, rfl, s0, s1, s2, s3⟩ := set_of h0
    obtain ⟨on', ot, ottl, ob, ol, d1, rfl, o0, o1, o2, o3⟩ := set_of h1
    obtain ⟨j, rfl, wj⟩ := h2.int_inv Try.underlying34
    obtain ⟨k, rfl, wk⟩ := h3.int_inv Try.underlying34
    obtain ⟨now, rfl, wn⟩ := h4.int_inv Try.underlying2
    obtain ⟨later, rfl, wl⟩ := h5.int_inv Try.underlying23
    have ha : argsSV Try.prog #[33, 33, 34, 34, 2, 23].toList [[DV.str sn, .int .u16 st, .int .u32 sttl, d0], [DV.str on', .int .u16 ot, .int .u32 ottl, d1], [DV.int .u8 j], [DV.int .u8 k], [DV.int .i64 now], [DV.int .u16 later]] =
        [.agg [.d (.str sn), .d (.int .u16 st), .d (.int .u32 sttl), .d d0], .agg [.d (.str on'), .d (.int .u16 ot), .d (.int .u32 ottl), .d d1], .d (.int .u8 j), .d (.int .u8 k), .d (.int .i64 now), .d (.int .u16 later)] := by
      simp [argsSV, argSV, oneSV, Try.underlying33, Try.underlying34, Try.underlying2, Try.underlying23]
    rw [ha]
    have wj := u_int wj
    have wk := u_int wk
    have wl := u_int wl
    exact (better_ok sn on' st ot sttl ottl sb ob sl ol j k now later s1 o1 (by have : maxLen = 9223372036854775807 := rfl; omega) s3 o3 wl wj wk).convA ⟨.aggL ⟨.refl _, .refl _, .refl _, .d s0, True.intro⟩, .aggL ⟨.refl _, .refl _, .refl _, .d o0, True.intro⟩, .refl _, .refl _, .refl _, .refl _, True.intro⟩
set_option maxRecDepth 100000 in
theorem better_lifted (os : Os) (started : os.Started) (H : Type) (enc : TypeId × Value → H) :
    ReturnsInHanded {} Try.checked os 4 .any (Rows.cacheBetterSpec.pre6 enc Try.prog Try.f4 [] false)
      (Rows.cacheBetterSpec.post enc Try.prog Try.f4 false true false false) := by
  refine returnsInHanded_of_change (C := Try.checked) own started (by kernel_rfl) Try.func4
    (ChangeSpec.witness6 (enc := enc) (C := Try.checked) (os := os) false ⟨#[], #[.agg #[.string ⟨#[]⟩, .int .u16 0, .int .u32 0, .slice none 0 0], .agg #[.string ⟨#[]⟩, .int .u16 0, .int .u32 0, .slice none 0 0], .int .u8 0, .int .u8 0, .int .i64 0, .int .u16 0], []⟩ 8 (by kernel_rfl) (by kernel_rfl) (by kernel_rfl) (by kernel_rfl) (by kernel_rfl)) ?_
  intro W base args ds gs before hval0 hW _ _
  have hlen : ∃ d1 d2 d3 d4 d5 d6, ds = [d1, d2, d3, d4, d5, d6] := by
    obtain ⟨p, q, hA, _⟩ := hW
    have hA : DataW.TrodAll enc Try.prog W 0 (fun _ => true) true Try.f4.params.toList args.toList ds p := hA
    have := trodAll_len hA
    rw [Try.params4] at this
    match ds, this with
    | [d1, d2, d3, d4, d5, d6], _ => exact ⟨d1, d2, d3, d4, d5, d6, rfl⟩
  obtain ⟨d1, d2, d3, d4, d5, d6, rfl⟩ := hlen
  exact law_calls kids full (m := 8) (fun t ht => by
    rw [Try.params4] at ht
    simp at ht
    rcases ht with rfl | rfl | rfl | rfl <;> exact ⟨by kernel_rfl, of_decide_eq_true (by kernel_rfl)⟩) better_contract hval0 rfl hW (by kernel_rfl) Try.underlying4 ⟨rfl, rfl, rfl⟩

theorem better_holds : Rows.CacheBetterSaid :=
  OpenClaim.holds_of_wide 4 Try.f4 rfl rfl rfl rfl rfl rfl rfl ⟨rfl, rfl, rfl, rfl, rfl⟩ rfl rfl rfl rfl rfl (by kernel_rfl) Try.func4 (by kernel_rfl)
    (of_decide_eq_true (by kernel_rfl)) (by unfold Func.isWrapper; rw [if_neg (of_decide_eq_false (by kernel_rfl))]; exact ⟨rfl, rfl⟩)
    (fun os started H enc _ => better_lifted os started H enc)
end Go.Proofs.Ytdphkaiijlekhaa
