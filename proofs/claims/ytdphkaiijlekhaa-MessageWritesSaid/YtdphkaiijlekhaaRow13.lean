/-
  MessageWrites returns true at every input and leaves its arguments as they read; ahead of it the document's writer, which comes to the same as the program's.
  Conditions: none.
-/
import Derived.Test.YtdphkaiijlekhaaB4
import Derived.Test.YtdphkaiijlekhaaB3
set_option linter.unusedVariables false
set_option linter.unusedSimpArgs false
namespace Go.Proofs.Ytdphkaiijlekhaa
open Go Go.Eng
theorem small_d {m : Msg} (h : m.small = true) : (∀ r ∈ m.says, r.d.length ≤ 100000) ∧ (∀ r ∈ m.heads, r.d.length ≤ 100000) ∧ (∀ r ∈ m.extra, r.d.length ≤ 100000) := by
  unfold Msg.small at h
  simp only [Bool.and_eq_true, List.all_eq_true] at h
  obtain ⟨_, h1, h2, h3, _⟩ := h
  have k : ∀ r : RR, smallR r = true → r.d.length ≤ 100000 := fun r hr => by
    unfold smallR at hr
    simp only [Bool.and_eq_true, decide_eq_true_eq] at hr
    omega
  exact ⟨fun r hr => k r (h1 r hr), fun r hr => k r (h2 r hr), fun r hr => k r (h3 r hr)⟩
set_option maxRecDepth 100000 in
set_option maxHeartbeats 16000000 in
theorem writes_ok (m : Msg) (hm : m.Fld) (limit code : Int) (hlim : -9223372036854775808 ≤ limit ∧ limit ≤ 9223372036854775807) :
    FnOk Try.prog 7 [.agg m.cells, .d (.int .i64 limit), .d (.int .i64 code)] (.d (.bool true)) := by
  refine fnOk_of_run (TT := TT) (IN := lookI []) TT_ok INok_nil mixed 1000 Try.func7 rfl (enters Try.func7 (by kernel_rfl) rfl) rfl 96 (by kernel_rfl) ?_
  conv => whnf
  refine .one (.data _ (small_ok m) rfl rfl ?_)
  cases hs : m.small
  · conv => whnf
    refine brT rfl ?_
    conv => whnf
    refine .one (.data _ lives6_ok rfl rfl ?_)
    conv => whnf
    try exact rfl
  conv => whnf
  refine brF rfl ?_
  have hfew := few_of hs
  obtain ⟨d1, d2, d3⟩ := small_d hs
  have hok := hm.ok (by omega)
  have hcm := code_mod hm.bits
  have hom := op_mod hm.bits
  have hw := mwrite_ok m hok limit hlim
  have hwr := r6write_ok m hok d1 d2 d3 limit hlim
  have hf := fit_ok m hok limit hlim (by omega)
  have hfr := r6fit_ok m hok d1 d2 d3 limit hlim (by omega)
  have hck := mcheck_ok m hok.len
  have hckr := r6check_ok m d1 d2 d3
  have hcd := code_ok m
  have hop := op_ok m
  have hrp := reply_ok m code hm.za (by omega)
  have hrpr := r6reply_ok m code (by omega)
  have hsm := same_ok (m.reply code) (m.replyR code) ⟨by show m.asks.length < _; omega, by show 0 < _; omega, by show 0 < _; omega, by show 0 < _; omega⟩ ⟨by show m.asks.length < _; omega, by show 0 < _; omega, by show 0 < _; omega, by show 0 < _; omega⟩
  have hsame : (m.reply code).same (m.replyR code) = true := by
    unfold Msg.same Msg.replyR
    simp [qsEq_refl, rsEq_refl]
  rw [hsame] at hsm
  generalize m.write limit = a at hw hwr
  generalize m.fit limit = b at hf hfr
  conv => whnf
  refine .one (.data _ hw rfl rfl ?_)
  conv => whnf
  refine .one (.data _ hwr rfl rfl ?_)
  conv => whnf
  refine .one (.data _ hf rfl rfl ?_)
  conv => whnf
  refine .one (.data _ hfr rfl rfl ?_)
  conv => whnf
  refine .data _ lives6_ok rfl rfl ?_
  conv => whnf
  repeat (first | (refine brT rfl ?_; conv => whnf) | (refine brT (beq_self_eq_true _) ?_; conv => whnf) | (refine brF rfl ?_; conv => whnf))
  refine .data _ hck rfl rfl ?_
  conv => whnf
  refine .data _ hckr rfl rfl ?_
  conv => whnf
  repeat (first | (refine brT rfl ?_; conv => whnf) | (refine brT (beq_self_eq_true _) ?_; conv => whnf) | (refine brF rfl ?_; conv => whnf))
  refine .data _ hcd rfl rfl ?_
  conv => whnf
  refine ⟨by decide, ?_⟩
  conv => whnf
  have hb := hm.bits
  have h1 : IntKind.i64.wrap (m.bits.tmod 16) = m.code := by rw [hcm, Int.tmod_eq_emod_of_nonneg hb.1, w64_in _ (by omega)]
  rw [h1]
  repeat (first | (refine brT rfl ?_; conv => whnf) | (refine brT (beq_self_eq_true _) ?_; conv => whnf) | (refine brF rfl ?_; conv => whnf))
  refine .data _ hop rfl rfl ?_
  conv => whnf
  refine ⟨by decide, ?_⟩
  conv => whnf
  refine ⟨by decide, ?_⟩
  conv => whnf
  have h2 : IntKind.i64.wrap ((IntKind.u16.wrap (m.bits.tdiv 2048)).tmod 16) = m.op := by
    have e : IntKind.u16.wrap (m.bits.tdiv 2048) = m.bits / 2048 := by rw [Int.tdiv_eq_ediv_of_nonneg hb.1, IntKind.wrap_u16]; omega
    rw [hom, e, Int.tmod_eq_emod_of_nonneg (by omega), w64_in _ (by omega)]
  rw [h2]
  repeat (first | (refine brT rfl ?_; conv => whnf) | (refine brT (beq_self_eq_true _) ?_; conv => whnf) | (refine brF rfl ?_; conv => whnf))
  refine .data _ hrp rfl rfl ?_
  conv => whnf
  refine .data _ hrpr rfl rfl ?_
  conv => whnf
  refine .data _ hsm rfl rfl ?_
  conv => whnf
  try exact rfl
end Go.Proofs.Ytdphkaiijlekhaa
namespace Go.Proofs.Ytdphkaiijlekhaa
open Go Go.Eng Go.ChangeShapes Go.WideShapes Go.RowKit

theorem writes_contract (dss : List (List DV)) (h : DTs Try.prog Try.f7.params.toList dss) : FnOk Try.prog 7 (argsSV Try.prog Try.f7.params.toList dss) (.d (.bool true)) := by
  rw [Try.params7] at h ⊢
  match dss, h with
  | [a0, a1, a2], ⟨h0, h1, h2, _⟩ =>
    obtain ⟨m, hl, ha, hm⟩ := msg_of h0
    obtain ⟨limit, rfl, wl⟩ := h1.int_inv Try.underlying3
    obtain ⟨code, rfl, _⟩ := h2.int_inv Try.underlying3
    have ha2 : argsSV Try.prog #[66, 3, 3].toList [a0, [.int .i64 limit], [.int .i64 code]] = [.agg (a0.map .d), .d (.int .i64 limit), .d (.int .i64 code)] := by
      simp [argsSV, argSV, oneSV, Try.underlying66, Try.underlying3]
    rw [ha2]
    exact (writes_ok m hm limit code (u_int wl)).convA ⟨AEq.aggL ha, .refl _, .refl _, True.intro⟩
set_option maxRecDepth 100000 in
theorem writes_lifted (os : Os) (started : os.Started) (H : Type) (enc : TypeId × Value → H) :
    ReturnsInHanded {} Try.checked os 7 .any (Rows.messageWritesSpec.pre6 enc Try.prog Try.f7 [] false)
      (Rows.messageWritesSpec.post enc Try.prog Try.f7 false true false false) := by
  refine returnsInHanded_of_change (C := Try.checked) own started (by kernel_rfl) Try.func7
    (ChangeSpec.witness6 (enc := enc) (C := Try.checked) (os := os) false ⟨#[], #[.agg #[.int .u16 0, .int .u16 0, .slice none 0 0, .slice none 0 0, .slice none 0 0, .slice none 0 0], .int .i64 0, .int .i64 0], []⟩ 8 (by kernel_rfl) (by kernel_rfl) (by kernel_rfl) (by kernel_rfl) (by kernel_rfl)) ?_
  intro W base args ds gs before hval0 hW _ _
  have hlen : ∃ d1 d2 d3, ds = [d1, d2, d3] := by
    obtain ⟨p, q, hA, _⟩ := hW
    have hA : DataW.TrodAll enc Try.prog W 0 (fun _ => true) true Try.f7.params.toList args.toList ds p := hA
    have := trodAll_len hA
    rw [Try.params7] at this
    match ds, this with
    | [d1, d2, d3], _ => exact ⟨d1, d2, d3, rfl⟩
  obtain ⟨d1, d2, d3, rfl⟩ := hlen
  exact law_calls kids full (m := 8) (fun t ht => by
    rw [Try.params7] at ht
    simp at ht
    rcases ht with rfl | rfl <;> exact ⟨by kernel_rfl, of_decide_eq_true (by kernel_rfl)⟩) writes_contract hval0 rfl hW (by kernel_rfl) Try.underlying4 ⟨rfl, rfl, rfl⟩

theorem writes_holds : Rows.MessageWritesSaid :=
  OpenClaim.holds_of_wide 7 Try.f7 rfl rfl rfl rfl rfl rfl rfl ⟨rfl, rfl, rfl, rfl, rfl⟩ rfl rfl rfl rfl rfl (by kernel_rfl) Try.func7 (by kernel_rfl)
    (of_decide_eq_true (by kernel_rfl)) (by unfold Func.isWrapper; rw [if_neg (of_decide_eq_false (by kernel_rfl))]; exact ⟨rfl, rfl⟩)
    (fun os started H enc _ => writes_lifted os started H enc)
end Go.Proofs.Ytdphkaiijlekhaa
