/-
  MessageBack returns true at every input and leaves its arguments as they read; ahead of it messages read and written.
  Conditions: none.
-/
import Derived.Test.YtdphkaiijlekhaaB3
namespace Go.Proofs.Ytdphkaiijlekhaa
open Go Go.Eng
set_option maxRecDepth 100000 in
set_option maxHeartbeats 16000000 in
theorem back_ok (m : Msg) (hm : m.Fld) (limit : Int) (hlim : -9223372036854775808 ≤ limit ∧ limit ≤ 9223372036854775807) : FnOk Try.prog 8 [.agg m.cells, .d (.int .i64 limit)] (.d (.bool true)) := by
  refine fnOk_of_run (TT := TT) (IN := lookI []) TT_ok INok_nil mixed 1000 Try.func8 rfl (enters Try.func8 (by kernel_rfl) rfl) rfl 139 (by kernel_rfl) ?_
  conv => whnf
  refine .one (.data _ lives6_ok rfl rfl ?_)
  conv => whnf
  refine brF rfl ?_
  conv => whnf
  refine .one (.data _ (small_ok m) rfl rfl ?_)
  cases hs : m.small
  · conv => whnf
    repeat (first | (refine brF rfl ?_; conv => whnf) | (refine brT rfl ?_; conv => whnf))
  conv => whnf
  repeat (first | (refine brF rfl ?_; conv => whnf) | (refine brT rfl ?_; conv => whnf))
  have hfew := few_of hs
  have hok := hm.ok (by omega)
  have hw := mwrite_ok m hok limit hlim
  have hfit := fit_ok m hok limit hlim (by omega)
  have hr0 := mread_ok [] (by decide)
  rw [read_nil] at hr0
  have hid : (m.id != m.id) = false := by simp
  have hln : ((m.asks.length : Int) != (m.asks.length : Int)) = false := by simp
  conv => whnf
  rcases write_cases hok hlim.1 with ⟨hc, e⟩ | ⟨hc, e⟩ | ⟨hc, b, e, er, el, eb⟩
  · have ef : m.fit limit = ([], 2) := by unfold Msg.fit; rw [e]; rfl
    rw [e] at hw
    rw [ef] at hfit
    refine .one (.data _ hw rfl rfl ?_)
    conv => whnf
    refine .one (.data _ hr0 rfl rfl ?_)
    conv => whnf
    repeat (first | (refine brF rfl ?_; conv => whnf) | (refine brT rfl ?_; conv => whnf))
    refine .one (.data _ hfit rfl rfl ?_)
    conv => whnf
    refine .one (.data _ hr0 rfl rfl ?_)
    conv => whnf
    repeat (first | (refine brF rfl ?_; conv => whnf) | (refine brT rfl ?_; conv => whnf))
    exact rfl
  · have ef : m.fit limit = m.less.write limit := by unfold Msg.fit; rw [e]; rfl
    rw [e] at hw
    rw [ef] at hfit
    refine .one (.data _ hw rfl rfl ?_)
    conv => whnf
    refine .one (.data _ hr0 rfl rfl ?_)
    conv => whnf
    repeat (first | (refine brF rfl ?_; conv => whnf) | (refine brT rfl ?_; conv => whnf))
    rcases write_cases (less_Ok hok) hlim.1 with ⟨hc2, e2⟩ | ⟨hc2, e2⟩ | ⟨hc2, b, e2, er, el, eb⟩
    · rw [less_check hc] at hc2
      cases hc2
    · rw [e2] at hfit
      refine .one (.data _ hfit rfl rfl ?_)
      conv => whnf
      refine .one (.data _ hr0 rfl rfl ?_)
      conv => whnf
      repeat (first | (refine brF rfl ?_; conv => whnf) | (refine brT rfl ?_; conv => whnf))
      exact rfl
    · rw [e2] at hfit
      have hl : decide ((b.length : Int) > limit) = false := decide_eq_false (by omega)
      have hbb : (b != b) = false := by simp
      have hr1 := mread_ok b (by omega)
      rw [er] at hr1
      refine .one (.data _ hfit rfl rfl ?_)
      conv => whnf
      refine .one (.data _ hr1 rfl rfl ?_)
      conv => whnf
      repeat (first | (refine brF rfl ?_; conv => whnf) | (refine brT rfl ?_; conv => whnf) | (refine brF hl ?_; conv => whnf) | (refine brF hid ?_; conv => whnf) | (refine brF hln ?_; conv => whnf) | (refine brF hbb ?_; conv => whnf) | (refine brT (beq_self_eq_true _) ?_; conv => whnf))
      refine .inv Nat (fun i => i ≤ m.asks.length) (fun i => [(104, .d (.int .i64 i))]) (fun _ => []) (fun i => m.asks.length - i) ⟨0, [0, 1, 2], Nat.zero_le _, ?_⟩ ?_
      · conv => whnf
        repeat' (first | exact True.intro | exact rfl | exact fun _ => Iff.rfl | exact fun _ _ => rfl | exact renM_ent rfl _ | refine And.intro ?_ ?_)
      intro i hi
      conv => whnf
      refine ⟨fun c5 => ?_, fun c5 => ?_⟩
      · have c5' : i < m.asks.length := (by have h : (i : Int) < m.asks.length := of_decide_eq_true c5; omega)
        have hil : (i : Int) < (m.asks.length : Nat) := (by omega)
        have hqq : (!((m.asks.getD (i : Int).toNat default).nm == (m.asks.getD (i : Int).toNat default).nm && ((m.asks.getD (i : Int).toNat default).ty == (m.asks.getD (i : Int).toNat default).ty && ((m.asks.getD (i : Int).toNat default).cl == (m.asks.getD (i : Int).toNat default).cl && true)))) = false := (by simp)
        have hw1 : IntKind.i64.wrap ((i : Int) + 1) = ((i + 1 : Nat) : Int) := (by rw [w64_in _ (by omega)]; omega)
        conv => whnf
        refine ⟨⟨by omega, hil⟩, ?_⟩
        conv => whnf
        refine ⟨⟨by omega, hil⟩, ?_⟩
        conv => whnf
        refine brF hqq ?_
        conv => whnf
        refine ⟨i + 1, [0, 1, 2], c5', by omega, ?_⟩
        conv => whnf
        rw [hw1]
        repeat' (first | exact True.intro | exact rfl | exact fun _ => Iff.rfl | exact fun _ _ => rfl | exact renM_ent rfl _ | refine And.intro ?_ ?_)
      conv => whnf
      repeat (first | (refine brF rfl ?_; conv => whnf) | (refine brT rfl ?_; conv => whnf) | (refine brF hl ?_; conv => whnf) | (refine brF hid ?_; conv => whnf) | (refine brF hln ?_; conv => whnf) | (refine brF hbb ?_; conv => whnf) | (refine brT (beq_self_eq_true _) ?_; conv => whnf))
      try exact rfl
  · have ef : m.fit limit = (b, 0) := by unfold Msg.fit; rw [e]; rfl
    rw [e] at hw
    rw [ef] at hfit
    have hl : decide ((b.length : Int) > limit) = false := decide_eq_false (by omega)
    have hbb : (b != b) = false := by simp
    have hr1 := mread_ok b (by omega)
    rw [er] at hr1
    have hsm := same_ok m.again m ⟨by show m.asks.length < _; omega, by show m.says.length < _; omega, by show m.heads.length < _; omega, by show m.extra.length < _; omega⟩ ⟨by omega, by omega, by omega, by omega⟩
    rw [same_again] at hsm
    refine .one (.data _ hw rfl rfl ?_)
    conv => whnf
    refine .one (.data _ hr1 rfl rfl ?_)
    conv => whnf
    repeat (first | (refine brF rfl ?_; conv => whnf) | (refine brT rfl ?_; conv => whnf))
    refine .one (.data _ hsm rfl rfl ?_)
    conv => whnf
    repeat (first | (refine brF rfl ?_; conv => whnf) | (refine brT rfl ?_; conv => whnf) | (refine brF hl ?_; conv => whnf) | (refine brF hid ?_; conv => whnf) | (refine brF hln ?_; conv => whnf) | (refine brF hbb ?_; conv => whnf) | (refine brT (beq_self_eq_true _) ?_; conv => whnf))
    refine .one (.data _ hfit rfl rfl ?_)
    conv => whnf
    refine .one (.data _ hr1 rfl rfl ?_)
    conv => whnf
    repeat (first | (refine brF rfl ?_; conv => whnf) | (refine brT rfl ?_; conv => whnf) | (refine brF hl ?_; conv => whnf) | (refine brF hid ?_; conv => whnf) | (refine brF hln ?_; conv => whnf) | (refine brF hbb ?_; conv => whnf) | (refine brT (beq_self_eq_true _) ?_; conv => whnf))
    refine .inv Nat (fun i => i ≤ m.asks.length) (fun i => [(104, .d (.int .i64 i))]) (fun _ => []) (fun i => m.asks.length - i) ⟨0, [0, 1, 2], Nat.zero_le _, ?_⟩ ?_
    · conv => whnf
      repeat' (first | exact True.intro | exact rfl | exact fun _ => Iff.rfl | exact fun _ _ => rfl | exact renM_ent rfl _ | refine And.intro ?_ ?_)
    intro i hi
    conv => whnf
    refine ⟨fun c5 => ?_, fun c5 => ?_⟩
    · have c5' : i < m.asks.length := (by have h : (i : Int) < m.asks.length := of_decide_eq_true c5; omega)
      have hil : (i : Int) < (m.asks.length : Nat) := (by omega)
      have hqq : (!((m.asks.getD (i : Int).toNat default).nm == (m.asks.getD (i : Int).toNat default).nm && ((m.asks.getD (i : Int).toNat default).ty == (m.asks.getD (i : Int).toNat default).ty && ((m.asks.getD (i : Int).toNat default).cl == (m.asks.getD (i : Int).toNat default).cl && true)))) = false := (by simp)
      have hw1 : IntKind.i64.wrap ((i : Int) + 1) = ((i + 1 : Nat) : Int) := (by rw [w64_in _ (by omega)]; omega)
      conv => whnf
      refine ⟨⟨by omega, hil⟩, ?_⟩
      conv => whnf
      refine ⟨⟨by omega, hil⟩, ?_⟩
      conv => whnf
      refine brF hqq ?_
      conv => whnf
      refine ⟨i + 1, [0, 1, 2], c5', by omega, ?_⟩
      conv => whnf
      rw [hw1]
      repeat' (first | exact True.intro | exact rfl | exact fun _ => Iff.rfl | exact fun _ _ => rfl | exact renM_ent rfl _ | refine And.intro ?_ ?_)
    conv => whnf
    repeat (first | (refine brF rfl ?_; conv => whnf) | (refine brT rfl ?_; conv => whnf) | (refine brF hl ?_; conv => whnf) | (refine brF hid ?_; conv => whnf) | (refine brF hln ?_; conv => whnf) | (refine brF hbb ?_; conv => whnf) | (refine brT (beq_self_eq_true _) ?_; conv => whnf))
    try exact rfl
end Go.Proofs.Ytdphkaiijlekhaa
namespace Go.Proofs.Ytdphkaiijlekhaa
open Go Go.Eng Go.ChangeShapes Go.WideShapes Go.RowKit

theorem back_contract (dss : List (List DV)) (h : DTs Try.prog Try.f8.params.toList dss) : FnOk Try.prog 8 (argsSV Try.prog Try.f8.params.toList dss) (.d (.bool true)) := by
  rw [Try.params8] at h ⊢
  match dss, h with
  | [a0, a1], ⟨h0, h1, _⟩ =>
    obtain ⟨m, hl, ha, hm⟩ := msg_of h0
    obtain ⟨limit, rfl, wl⟩ := h1.int_inv Try.underlying3
    have ha2 : argsSV Try.prog #[66, 3].toList [a0, [.int .i64 limit]] = [.agg (a0.map .d), .d (.int .i64 limit)] := by
      simp [argsSV, argSV, oneSV, Try.underlying66, Try.underlying3]
    rw [ha2]
    exact (back_ok m hm limit (u_int wl)).convA ⟨AEq.aggL ha, .refl _, True.intro⟩
set_option maxRecDepth 100000 in
theorem back_lifted (os : Os) (started : os.Started) (H : Type) (enc : TypeId × Value → H) :
    ReturnsInHanded {} Try.checked os 8 .any (Rows.messageBackSpec.pre6 enc Try.prog Try.f8 [] false)
      (Rows.messageBackSpec.post enc Try.prog Try.f8 false true false false) := by
  refine returnsInHanded_of_change (C := Try.checked) own started (by kernel_rfl) Try.func8
    (ChangeSpec.witness6 (enc := enc) (C := Try.checked) (os := os) false ⟨#[], #[.agg #[.int .u16 0, .int .u16 0, .slice none 0 0, .slice none 0 0, .slice none 0 0, .slice none 0 0], .int .i64 0], []⟩ 8 (by kernel_rfl) (by kernel_rfl) (by kernel_rfl) (by kernel_rfl) (by kernel_rfl)) ?_
  intro W base args ds gs before hval0 hW _ _
  have hlen : ∃ d1 d2, ds = [d1, d2] := by
    obtain ⟨p, q, hA, _⟩ := hW
    have hA : DataW.TrodAll enc Try.prog W 0 (fun _ => true) true Try.f8.params.toList args.toList ds p := hA
    have := trodAll_len hA
    rw [Try.params8] at this
    match ds, this with
    | [d1, d2], _ => exact ⟨d1, d2, rfl⟩
  obtain ⟨d1, d2, rfl⟩ := hlen
  exact law_calls kids full (m := 8) (fun t ht => by
    rw [Try.params8] at ht
    simp at ht
    rcases ht with rfl | rfl <;> exact ⟨by kernel_rfl, of_decide_eq_true (by kernel_rfl)⟩) back_contract hval0 rfl hW (by kernel_rfl) Try.underlying4 ⟨rfl, rfl, rfl⟩

theorem back_holds : Rows.MessageBackSaid :=
  OpenClaim.holds_of_wide 8 Try.f8 rfl rfl rfl rfl rfl rfl rfl ⟨rfl, rfl, rfl, rfl, rfl⟩ rfl rfl rfl rfl rfl (by kernel_rfl) Try.func8 (by kernel_rfl)
    (of_decide_eq_true (by kernel_rfl)) (by unfold Func.isWrapper; rw [if_neg (of_decide_eq_false (by kernel_rfl))]; exact ⟨rfl, rfl⟩)
    (fun os started H enc _ => back_lifted os started H enc)
end Go.Proofs.Ytdphkaiijlekhaa
