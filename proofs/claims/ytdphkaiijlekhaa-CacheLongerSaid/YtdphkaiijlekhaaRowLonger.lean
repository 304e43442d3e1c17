/-
  CacheLonger returns true at every input and leaves its arguments as they read.
  Conditions: none.
-/
import Derived.Test.YtdphkaiijlekhaaRowBase
import Derived.Test.YtdphkaiijlekhaaLonger
namespace Go.Proofs.Ytdphkaiijlekhaa
open Go Go.Eng Go.ChangeShapes Go.WideShapes Go.RowKit

set_option maxRecDepth 100000 in
/-- A call, out of its cells. -/
theorem act_of {ds : List DV} (h : DT Try.prog 36 ds) : ∃ (a : Act) (d : DV), ds = [.int .i64 a.kind, .str a.nm, .int .u16 a.ty, .int .u32 a.ttl, d, .int .u16 a.aty, .int .u8 a.rank, .bool a.all, .int .u32 a.attl, .int .i64 a.now] ∧ DS d (.sl a.b a.l.length 1 (strs a.l)) ∧ a.Ok := by
  obtain ⟨hl, hf⟩ := h.struct_inv Try.underlying36
  have cs : Try.prog.cellsOf 36 = 10 := by kernel_rfl
  rw [cs] at hl
  match ds, hl with
  | [a0, a1, a2, a3, a4, a5, a6, a7, a8, a9], _ =>
    have c1 : Try.prog.cellsOf 3 = 1 := by kernel_rfl
    have c2 : Try.prog.cellsOf 33 = 4 := by kernel_rfl
    have c3 : Try.prog.cellsOf 24 = 1 := by kernel_rfl
    have c4 : Try.prog.cellsOf 34 = 1 := by kernel_rfl
    have c5 : Try.prog.cellsOf 4 = 1 := by kernel_rfl
    have c6 : Try.prog.cellsOf 30 = 1 := by kernel_rfl
    have c7 : Try.prog.cellsOf 2 = 1 := by kernel_rfl
    simp [c1, c2, c3, c4, c5, c6, c7] at hf
    obtain ⟨k0, k1, k2, k3, k4, k5, k6⟩ := hf
    obtain ⟨n0, e0, _⟩ := k0.int_inv Try.underlying3
    obtain ⟨nm, ty, ttl, b, l, d, e1, h3, h4, _, h6⟩ := set_of k1
    obtain ⟨n2, e2, _⟩ := k2.int_inv Try.underlying24
    obtain ⟨n3, e3, w3⟩ := k3.int_inv Try.underlying34
    obtain ⟨n4, e4⟩ := k4.bool_inv Try.underlying4
    obtain ⟨n5, e5, w5⟩ := k5.int_inv Try.underlying30
    obtain ⟨n6, e6, _⟩ := k6.int_inv Try.underlying2
    simp only [List.cons.injEq, and_true] at e0 e1 e2 e3 e4 e5 e6
    obtain ⟨e11, e12, e13, e14⟩ := e1
    subst e0 e11 e12 e13 e14 e2 e3 e4 e5 e6
    exact ⟨⟨n0, nm, ty, ttl, b, l, n2, n3, n4, n5, n6⟩, _, rfl, h3, ⟨h4, h6, u_int w5, u_int w3⟩⟩
theorem acts_of {ds : List DV} (h : DT Try.prog 22 ds) : ∃ (b : Bool) (l : List Act) (d : DV), ds = [d] ∧ DS d (actsD b l) ∧ ∀ a ∈ l, a.Ok := by
  obtain ⟨z, n, f, rfl, _, hf⟩ := h.sl_inv Try.underlying22
  have cs : Try.prog.cellsOf 36 = 10 := by kernel_rfl
  let g : Nat → Act := fun i => if hi : i < n then (act_of (hf i hi)).choose else default
  have hg : ∀ i (hi : i < n), ∃ d, f i = [.int .i64 (g i).kind, .str (g i).nm, .int .u16 (g i).ty, .int .u32 (g i).ttl, d, .int .u16 (g i).aty, .int .u8 (g i).rank, .bool (g i).all, .int .u32 (g i).attl, .int .i64 (g i).now] ∧ DS d (.sl (g i).b (g i).l.length 1 (strs (g i).l)) ∧ (g i).Ok := fun i hi => by
    have := (act_of (hf i hi)).choose_spec
    simpa only [g, hi, dif_pos] using this
  refine ⟨z, (List.range n).map g, _, rfl, ?_, fun a ha => ?_⟩
  · rw [cs]
    unfold actsD
    rw [List.length_map, List.length_range]
    refine .rows fun i hi => ?_
    have : ((List.range n).map g).getD i default = g i := by simp [List.getD, hi]
    obtain ⟨d, h1, h2, _⟩ := hg i hi
    rw [this, h1]
    exact ⟨.refl _, .refl _, .refl _, .refl _, h2, .refl _, .refl _, .refl _, .refl _, .refl _, True.intro⟩
  · obtain ⟨i, hi, rfl⟩ := List.mem_map.1 ha
    obtain ⟨_, _, _, h3⟩ := hg i (List.mem_range.1 hi)
    exact h3

theorem longer_contract (dss : List (List DV)) (h : DTs Try.prog Try.f3.params.toList dss) : FnOk Try.prog 3 (argsSV Try.prog Try.f3.params.toList dss) (.d (.bool true)) := by
  rw [Try.params3] at h ⊢
  match dss, h with
  | [a0, a1, a2, a3, a4], ⟨h0, h1, h2, h3, h4, _⟩ =>
    obtain ⟨room, rfl, _⟩ := h0.int_inv Try.underlying3
    obtain ⟨b, l, d, rfl, hd, hok⟩ := acts_of h1
    obtain ⟨nm, rfl, hnm⟩ := h2.str_inv Try.underlying9
    obtain ⟨t, rfl, _⟩ := h3.int_inv Try.underlying24
    obtain ⟨after, rfl, wa⟩ := h4.int_inv Try.underlying23
    have ha : argsSV Try.prog #[3, 22, 9, 24, 23].toList [[DV.int .i64 room], [d], [.str nm], [.int .u16 t], [.int .u16 after]] =
        [.d (.int .i64 room), .d d, .d (.str nm), .d (.int .u16 t), .d (.int .u16 after)] := by
      simp [argsSV, argSV, oneSV, Try.underlying3, Try.underlying22, Try.underlying9, Try.underlying24, Try.underlying23]
    rw [ha]
    exact (longer_ok room b l nm t after hok (by have : maxLen = 9223372036854775807 := rfl; omega) (u_int wa)).convA ⟨.refl _, .d hd, .refl _, .refl _, .refl _, True.intro⟩
set_option maxRecDepth 100000 in
theorem longer_lifted (os : Os) (started : os.Started) (H : Type) (enc : TypeId × Value → H) :
    ReturnsInHanded {} Try.checked os 3 .any (Rows.cacheLongerSpec.pre6 enc Try.prog Try.f3 [] false)
      (Rows.cacheLongerSpec.post enc Try.prog Try.f3 false true false false) := by
  refine returnsInHanded_of_change (C := Try.checked) own started (by kernel_rfl) Try.func3
    (ChangeSpec.witness6 (enc := enc) (C := Try.checked) (os := os) false ⟨#[], #[.int .i64 0, .slice none 0 0, .string ⟨#[]⟩, .int .u16 0, .int .u16 0], []⟩ 8 (by kernel_rfl) (by kernel_rfl) (by kernel_rfl) (by kernel_rfl) (by kernel_rfl)) ?_
  intro W base args ds gs before hval0 hW _ _
  have hlen : ∃ d1 d2 d3 d4 d5, ds = [d1, d2, d3, d4, d5] := by
    obtain ⟨p, q, hA, _⟩ := hW
    have hA : DataW.TrodAll enc Try.prog W 0 (fun _ => true) true Try.f3.params.toList args.toList ds p := hA
    have := trodAll_len hA
    rw [Try.params3] at this
    match ds, this with
    | [d1, d2, d3, d4, d5], _ => exact ⟨d1, d2, d3, d4, d5, rfl⟩
  obtain ⟨d1, d2, d3, d4, d5, rfl⟩ := hlen
  exact law_calls kids full (m := 8) (fun t ht => by
    rw [Try.params3] at ht
    simp at ht
    rcases ht with rfl | rfl | rfl | rfl | rfl <;> exact ⟨by kernel_rfl, of_decide_eq_true (by kernel_rfl)⟩) longer_contract hval0 rfl hW (by kernel_rfl) Try.underlying4 ⟨rfl, rfl, rfl⟩

theorem longer_holds : Rows.CacheLongerSaid :=
  OpenClaim.holds_of_wide 3 Try.f3 rfl rfl rfl rfl rfl rfl rfl ⟨rfl, rfl, rfl, rfl, rfl⟩ rfl rfl rfl rfl rfl (by kernel_rfl) Try.func3 (by kernel_rfl)
    (of_decide_eq_true (by kernel_rfl)) (by unfold Func.isWrapper; rw [if_neg (of_decide_eq_false (by kernel_rfl))]; exact ⟨rfl, rfl⟩)
    (fun os started H enc _ => longer_lifted os started H enc)
end Go.Proofs.Ytdphkaiijlekhaa
