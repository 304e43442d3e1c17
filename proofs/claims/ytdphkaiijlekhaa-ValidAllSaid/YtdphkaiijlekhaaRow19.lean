/-
  ValidAll returns true at every input and leaves its arguments as they read.
  Conditions: none.
-/
import Derived.Test.YtdphkaiijlekhaaB5
import Derived.Test.YtdphkaiijlekhaaB3
set_option linter.unusedVariables false
set_option linter.unusedSimpArgs false
namespace Go.Proofs.Ytdphkaiijlekhaa
open Go Go.Eng
def oA (id : Int) (nm : List UInt8) : List SV := [.d (.int .u16 id), .d (.int .u16 256), .d (.sl false 1 3 (chunk [.str nm, .int .u16 1, .int .u16 1] 3)), nilS, nilS, nilS]
theorem oA_eq (id : Int) (nm : List UInt8) : AEq (.agg (oA id nm)) (.agg (oneQ id nm).cells) := AEq.aggL ⟨.refl _, .refl _, AEq.row (fun i hi => match i with
    | 0 => rfl
    | i + 1 => absurd hi (by omega)), .none _ _ _ _ _, .none _ _ _ _ _, .none _ _ _ _ _, True.intro⟩
set_option maxRecDepth 100000 in
set_option maxHeartbeats 16000000 in
theorem vall_ok (s : List UInt8) (m : Msg) (hm : m.Fld) (nm : List UInt8) (ty cl : Int) : FnOk Try.prog 10 [.d (.str s), .agg m.cells, .agg [.d (.str nm), .d (.int .u16 ty), .d (.int .u16 cl)]] (.d (.bool true)) := by
  refine fnOk_of_run (TT := TT) (IN := lookI []) TT_ok INok_nil mixed 1000 Try.func10 rfl (enters Try.func10 (by kernel_rfl) rfl) rfl 127 (by kernel_rfl) ?_
  conv => whnf
  refine .one (.data _ lives28_ok rfl rfl ?_)
  conv => whnf
  refine brF rfl ?_
  conv => whnf
  refine ⟨fun h1 => ?_, fun h1 => ?_⟩
  · conv => whnf
    repeat (first | (refine brF rfl ?_; conv => whnf) | (refine brT rfl ?_; conv => whnf))
    try exact rfl
  have h1 : ¬ (s.length : Int) > 32768 := of_decide_eq_false h1
  conv => whnf
  refine .one (.data _ (small_ok m) rfl rfl ?_)
  conv => whnf
  refine ⟨fun h2 => ?_, fun h2 => ?_⟩
  · conv => whnf
    repeat (first | (refine brF rfl ?_; conv => whnf) | (refine brT rfl ?_; conv => whnf))
    try exact rfl
  conv => whnf
  refine ⟨fun h3 => ?_, fun h3 => ?_⟩
  · conv => whnf
    repeat (first | (refine brF rfl ?_; conv => whnf) | (refine brT rfl ?_; conv => whnf))
    try exact rfl
  conv => whnf
  have hl := vlook_ok s (by omega)
  have hcs := look_cases s
  generalize look s = r at hl hcs
  have hrest : True := True.intro
  refine .one (.data _ hl rfl rfl ?_)
  conv => whnf
  have hAO := oA_eq m.id nm
  have hok : (oneQ m.id nm).Ok := ⟨hm.id, ⟨show (0 : Int) ≤ 256 by decide, show (256 : Int) ≤ 65535 by decide⟩, fun q hq => (by rw [List.mem_singleton.1 hq]; exact ⟨⟨show (0 : Int) ≤ 1 by decide, show (1 : Int) ≤ 65535 by decide⟩, ⟨show (0 : Int) ≤ 1 by decide, show (1 : Int) ≤ 65535 by decide⟩⟩), fun r hr => (by cases hr), fun r hr => (by cases hr), fun r hr => (by cases hr), by show 1 < _; decide⟩
  have hw := (mwrite_ok (oneQ m.id nm) hok 512 (by decide)).convA (args' := [.agg (oA m.id nm), .d (.int .i64 512)]) ⟨hAO, .refl _, True.intro⟩
  have hsm := (same_ok (oneQ m.id nm).again (oneQ m.id nm) ⟨by show 1 < _; decide, by show 0 < _; decide, by show 0 < _; decide, by show 0 < _; decide⟩ ⟨by show 1 < _; decide, by show 0 < _; decide, by show 0 < _; decide, by show 0 < _; decide⟩).convA (args' := [.agg (oneQ m.id nm).again.cells, .agg (oA m.id nm)]) ⟨.refl _, hAO, True.intro⟩
  rw [same_again] at hsm
  have hlen : lenL [SV.d (DV.str nm), SV.d (DV.int IntKind.u16 1), SV.d (DV.int IntKind.u16 1)] = 3 := rfl
  rcases hcs with ⟨e, em⟩ | (e | e | e | e) | hres
  · rw [e, em]
    refine brT rfl ?_
    conv => whnf
    refine brT rfl ?_
    conv => whnf
    try exact rfl
  · rw [e]
    repeat (first | (refine brT rfl ?_; conv => whnf) | (refine brF rfl ?_; conv => whnf))
    refine .still [3] [(4, 66, oA m.id nm)] _ _ ⟨⟨_, rfl, ?_, rfl⟩, True.intro⟩ ?_ hw rfl rfl ?_
    · conv => whnf
      rw [hlen]
      conv => whnf
      exact ⟨rfl, rfl⟩
    · conv => whnf
      rw [hlen]
      conv => whnf
      exact ⟨rfl, rfl⟩
    conv => whnf
    rcases one_law m.id hm.id nm with ⟨hn, ew⟩ | ⟨hn, b, ew, hb, hlk⟩
    · rw [ew]
      refine brT rfl ?_
      conv => whnf
      refine .one (.data _ (check_ok nm) rfl rfl ?_)
      rw [if_neg hn]
      conv => whnf
      try exact rfl
    · rw [ew]
      have hl2 := vlook_ok b (by omega)
      rw [hlk] at hl2
      refine brF rfl ?_
      conv => whnf
      refine .one (.data _ hl2 rfl rfl ?_)
      conv => whnf
      refine brT rfl ?_
      conv => whnf
      refine .one (.data _ hsm rfl rfl ?_)
      conv => whnf
      repeat (first | (refine brT rfl ?_; conv => whnf) | (refine brF rfl ?_; conv => whnf))
      try exact rfl
  · rw [e]
    repeat (first | (refine brT rfl ?_; conv => whnf) | (refine brF rfl ?_; conv => whnf))
    refine .still [3] [(4, 66, oA m.id nm)] _ _ ⟨⟨_, rfl, ?_, rfl⟩, True.intro⟩ ?_ hw rfl rfl ?_
    · conv => whnf
      rw [hlen]
      conv => whnf
      exact ⟨rfl, rfl⟩
    · conv => whnf
      rw [hlen]
      conv => whnf
      exact ⟨rfl, rfl⟩
    conv => whnf
    rcases one_law m.id hm.id nm with ⟨hn, ew⟩ | ⟨hn, b, ew, hb, hlk⟩
    · rw [ew]
      refine brT rfl ?_
      conv => whnf
      refine .one (.data _ (check_ok nm) rfl rfl ?_)
      rw [if_neg hn]
      conv => whnf
      try exact rfl
    · rw [ew]
      have hl2 := vlook_ok b (by omega)
      rw [hlk] at hl2
      refine brF rfl ?_
      conv => whnf
      refine .one (.data _ hl2 rfl rfl ?_)
      conv => whnf
      refine brT rfl ?_
      conv => whnf
      refine .one (.data _ hsm rfl rfl ?_)
      conv => whnf
      repeat (first | (refine brT rfl ?_; conv => whnf) | (refine brF rfl ?_; conv => whnf))
      try exact rfl
  · rw [e]
    repeat (first | (refine brT rfl ?_; conv => whnf) | (refine brF rfl ?_; conv => whnf))
    refine .still [3] [(4, 66, oA m.id nm)] _ _ ⟨⟨_, rfl, ?_, rfl⟩, True.intro⟩ ?_ hw rfl rfl ?_
    · conv => whnf
      rw [hlen]
      conv => whnf
      exact ⟨rfl, rfl⟩
    · conv => whnf
      rw [hlen]
      conv => whnf
      exact ⟨rfl, rfl⟩
    conv => whnf
    rcases one_law m.id hm.id nm with ⟨hn, ew⟩ | ⟨hn, b, ew, hb, hlk⟩
    · rw [ew]
      refine brT rfl ?_
      conv => whnf
      refine .one (.data _ (check_ok nm) rfl rfl ?_)
      rw [if_neg hn]
      conv => whnf
      try exact rfl
    · rw [ew]
      have hl2 := vlook_ok b (by omega)
      rw [hlk] at hl2
      refine brF rfl ?_
      conv => whnf
      refine .one (.data _ hl2 rfl rfl ?_)
      conv => whnf
      refine brT rfl ?_
      conv => whnf
      refine .one (.data _ hsm rfl rfl ?_)
      conv => whnf
      repeat (first | (refine brT rfl ?_; conv => whnf) | (refine brF rfl ?_; conv => whnf))
      try exact rfl
  · rw [e]
    repeat (first | (refine brT rfl ?_; conv => whnf) | (refine brF rfl ?_; conv => whnf))
    refine .still [3] [(4, 66, oA m.id nm)] _ _ ⟨⟨_, rfl, ?_, rfl⟩, True.intro⟩ ?_ hw rfl rfl ?_
    · conv => whnf
      rw [hlen]
      conv => whnf
      exact ⟨rfl, rfl⟩
    · conv => whnf
      rw [hlen]
      conv => whnf
      exact ⟨rfl, rfl⟩
    conv => whnf
    rcases one_law m.id hm.id nm with ⟨hn, ew⟩ | ⟨hn, b, ew, hb, hlk⟩
    · rw [ew]
      refine brT rfl ?_
      conv => whnf
      refine .one (.data _ (check_ok nm) rfl rfl ?_)
      rw [if_neg hn]
      conv => whnf
      try exact rfl
    · rw [ew]
      have hl2 := vlook_ok b (by omega)
      rw [hlk] at hl2
      refine brF rfl ?_
      conv => whnf
      refine .one (.data _ hl2 rfl rfl ?_)
      conv => whnf
      refine brT rfl ?_
      conv => whnf
      refine .one (.data _ hsm rfl rfl ?_)
      conv => whnf
      repeat (first | (refine brT rfl ?_; conv => whnf) | (refine brF rfl ?_; conv => whnf))
      try exact rfl
  · have ha := hres.asks
    have hc := hres.cl
    have hnm := hres.nm
    have hqr := hres.qr
    have hsy := hres.says
    rw [hres.code]
    refine brF rfl ?_
    conv => whnf
    refine brT rfl ?_
    conv => whnf
    refine brF (by rw [ha]; rfl) ?_
    conv => whnf
    refine ⟨by omega, ?_⟩
    conv => whnf
    refine brF (show ((r.m.asks.getD 0 default).cl != 1) = false by rw [hc]; rfl) ?_
    conv => whnf
    refine ⟨by omega, ?_⟩
    conv => whnf
    refine .one (.data _ (check_ok (r.m.asks.getD 0 default).nm) rfl rfl ?_)
    rw [if_pos hnm]
    conv => whnf
    refine brF rfl ?_
    conv => whnf
    refine brF (by rw [hqr]; rfl) ?_
    conv => whnf
    refine brF (by rw [hsy]; rfl) ?_
    conv => whnf
    refine .still [3] [(4, 66, oA m.id nm)] _ _ ⟨⟨_, rfl, ?_, rfl⟩, True.intro⟩ ?_ hw rfl rfl ?_
    · conv => whnf
      rw [hlen]
      conv => whnf
      exact ⟨rfl, rfl⟩
    · conv => whnf
      rw [hlen]
      conv => whnf
      exact ⟨rfl, rfl⟩
    conv => whnf
    rcases one_law m.id hm.id nm with ⟨hn, ew⟩ | ⟨hn, b, ew, hb, hlk⟩
    · rw [ew]
      refine brT rfl ?_
      conv => whnf
      refine .one (.data _ (check_ok nm) rfl rfl ?_)
      rw [if_neg hn]
      conv => whnf
      try exact rfl
    · rw [ew]
      have hl2 := vlook_ok b (by omega)
      rw [hlk] at hl2
      refine brF rfl ?_
      conv => whnf
      refine .one (.data _ hl2 rfl rfl ?_)
      conv => whnf
      refine brT rfl ?_
      conv => whnf
      refine .one (.data _ hsm rfl rfl ?_)
      conv => whnf
      repeat (first | (refine brT rfl ?_; conv => whnf) | (refine brF rfl ?_; conv => whnf))
      try exact rfl
end Go.Proofs.Ytdphkaiijlekhaa
namespace Go.Proofs.Ytdphkaiijlekhaa
open Go Go.Eng Go.ChangeShapes Go.WideShapes Go.RowKit

theorem vall_contract (dss : List (List DV)) (h : DTs Try.prog Try.f10.params.toList dss) : FnOk Try.prog 10 (argsSV Try.prog Try.f10.params.toList dss) (.d (.bool true)) := by
  rw [Try.params10] at h ⊢
  match dss, h with
  | [a0, a1, a2], ⟨h0, h1, h2, _⟩ =>
    obtain ⟨s, rfl, _⟩ := h0.str_inv Try.underlying9
    obtain ⟨m, hl, ha, hm⟩ := msg_of h1
    obtain ⟨q, rfl, _⟩ := q_of h2
    have ha2 : argsSV Try.prog #[9, 66, 77].toList [[.str s], a1, q.enc] = [.d (.str s), .agg (a1.map .d), .agg (q.enc.map .d)] := by
      simp [argsSV, argSV, oneSV, Try.underlying9, Try.underlying66, Try.underlying77]
    rw [ha2]
    exact (vall_ok s m hm q.nm q.ty q.cl).convA ⟨.refl _, AEq.aggL ha, .refl _, True.intro⟩
set_option maxRecDepth 100000 in
theorem vall_lifted (os : Os) (started : os.Started) (H : Type) (enc : TypeId × Value → H) :
    ReturnsInHanded {} Try.checked os 10 .any (Rows.validAllSpec.pre6 enc Try.prog Try.f10 [] false)
      (Rows.validAllSpec.post enc Try.prog Try.f10 false true false false) := by
  refine returnsInHanded_of_change (C := Try.checked) own started (by kernel_rfl) Try.func10
    (ChangeSpec.witness6 (enc := enc) (C := Try.checked) (os := os) false ⟨#[], #[.string ⟨#[]⟩, .agg #[.int .u16 0, .int .u16 0, .slice none 0 0, .slice none 0 0, .slice none 0 0, .slice none 0 0], .agg #[.string ⟨#[]⟩, .int .u16 0, .int .u16 0]], []⟩ 8 (by kernel_rfl) (by kernel_rfl) (by kernel_rfl) (by kernel_rfl) (by kernel_rfl)) ?_
  intro W base args ds gs before hval0 hW _ _
  have hlen : ∃ d1 d2 d3, ds = [d1, d2, d3] := by
    obtain ⟨p, q, hA, _⟩ := hW
    have hA : DataW.TrodAll enc Try.prog W 0 (fun _ => true) true Try.f10.params.toList args.toList ds p := hA
    have := trodAll_len hA
    rw [Try.params10] at this
    match ds, this with
    | [d1, d2, d3], _ => exact ⟨d1, d2, d3, rfl⟩
  obtain ⟨d1, d2, d3, rfl⟩ := hlen
  exact law_calls kids full (m := 8) (fun t ht => by
    rw [Try.params10] at ht
    simp at ht
    rcases ht with rfl | rfl | rfl <;> exact ⟨by kernel_rfl, of_decide_eq_true (by kernel_rfl)⟩) vall_contract hval0 rfl hW (by kernel_rfl) Try.underlying4 ⟨rfl, rfl, rfl⟩

theorem vall_holds : Rows.ValidAllSaid :=
  OpenClaim.holds_of_wide 10 Try.f10 rfl rfl rfl rfl rfl rfl rfl ⟨rfl, rfl, rfl, rfl, rfl⟩ rfl rfl rfl rfl rfl (by kernel_rfl) Try.func10 (by kernel_rfl)
    (of_decide_eq_true (by kernel_rfl)) (by unfold Func.isWrapper; rw [if_neg (of_decide_eq_false (by kernel_rfl))]; exact ⟨rfl, rfl⟩)
    (fun os started H enc _ => vall_lifted os started H enc)
end Go.Proofs.Ytdphkaiijlekhaa
