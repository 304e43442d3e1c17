/-
  SetsOf returns true at every input and leaves its arguments as they read.
  Conditions: none.
-/
import Derived.ChangeSame
import Derived.ChangeVars
import Derived.JoinedOf
import Derived.RowKit
import Derived.RowKitTokens
import Derived.LaidLaws
import Derived.LaidHandle
import Derived.Stop.Joined
import Derived.SevenTiedAt
import Derived.Test.YtdphkaiijlekhaaS3
import Derived.Test.YtdphkaiijlekhaaM4
import Derived.Test.YtdphkaiijlekhaaB1
set_option linter.unusedVariables false
set_option linter.unusedSimpArgs false
namespace Go.Proofs.Ytdphkaiijlekhaa
open Go Go.Eng
theorem smallL_ok {l : List RR} (h : smallL l = true) : l.length ≤ 100 ∧ ∀ r ∈ l, r.nm.length ≤ 1000 ∧ r.d.length ≤ 5000 := by
  unfold smallL at h
  simp only [Bool.and_eq_true, decide_eq_true_eq, List.all_eq_true] at h
  refine ⟨h.1, fun r hr => ?_⟩
  have := h.2 r hr
  unfold smallR at this
  simp only [Bool.and_eq_true, decide_eq_true_eq] at this
  exact ⟨this.2, this.1⟩
set_option maxRecDepth 100000
set_option maxHeartbeats 8000000 in
theorem setsof_ok (nm : List UInt8) (t : Int) (z : Bool) (l : List RR) : FnOk Try.prog 5 [.d (.str nm), .d (.int .u16 t), .d (rrsD z l)] (.d (.bool true)) := by
  refine fnOk_of_run (TT := TT) (IN := lookI []) TT_ok INok_nil mixed 1000 Try.func5 rfl (enters Try.func5 (by kernel_rfl) rfl) rfl 49 (by kernel_rfl) ?_
  conv => whnf
  refine .one (.data _ (small13_ok z l) rfl rfl ?_)
  cases hs : smallL l with
  | false =>
    conv => whnf
    refine brT rfl ?_
    conv => whnf
    refine .one (.data _ lives13_ok rfl rfl ?_)
    conv => whnf
    try exact rfl
  | true =>
    obtain ⟨hn, hl⟩ := smallL_ok hs
    conv => whnf
    refine brF rfl ?_
    conv => whnf
    refine ⟨fun h1 => ?_, fun h1 => ?_⟩
    · conv => whnf
      refine .one (.data _ lives13_ok rfl rfl ?_)
      conv => whnf
      try exact rfl
    have h1 : ¬ (nm.length : Int) > 1000 := of_decide_eq_false h1
    have c1 := find_ok nm t z l (by omega) (by omega) (fun r hr => Nat.le_trans (hl r hr).1 (by omega))
    have c2 := r13find_ok nm t z l (by omega) (fun r hr => Nat.le_trans (hl r hr).2 (by omega))
    rw [← find_law] at c2
    have hsl := findS_len nm t l
    generalize findS nm t l = S at c1 c2 hsl
    have c3 := rsame_ok S.1 S.1 (by omega) (by omega)
    rw [sameS_refl] at c3
    have c4 := of_ok z l (by omega) (fun r hr => Nat.le_trans (hl r hr).1 (by omega))
    have c5 := r13of_ok z l (by omega) (fun r hr => Nat.le_trans (hl r hr).2 (by omega))
    rw [← of_law] at c5
    have hoc := ofS_count l
    have hod : ∀ s ∈ ofS l, s.data.length < 4611686018427387904 := fun s h => by have := ofS_len h; omega
    have c6 := rsamel_ok (ofS l).isEmpty (ofS l).isEmpty (ofS l) (ofS l) (by omega) (by omega) hod hod
    rw [sameL_refl] at c6
    conv => whnf
    refine .one (.data _ c1 rfl rfl ?_)
    conv => whnf
    refine .one (.data _ c2 rfl rfl ?_)
    conv => whnf
    refine .one (.data _ lives13_ok rfl rfl ?_)
    conv => whnf
    refine brT rfl ?_
    conv => whnf
    refine .one (.data _ c3 rfl rfl ?_)
    conv => whnf
    refine brT rfl ?_
    conv => whnf
    refine brT (by simp) ?_
    conv => whnf
    refine .one (.data _ c4 rfl rfl ?_)
    conv => whnf
    refine .one (.data _ c5 rfl rfl ?_)
    conv => whnf
    refine .one (.data _ c6 rfl rfl ?_)
    conv => whnf
    try exact rfl
end Go.Proofs.Ytdphkaiijlekhaa
namespace Go.Proofs.Ytdphkaiijlekhaa
open Go Go.Eng Go.ChangeShapes Go.WideShapes Go.RowKit

theorem own : ownKnob Try.prog.godebug = none := by kernel_rfl
theorem kids : Kids Try.prog (· < Try.prog.types.size) := kids_rows (by kernel_rfl) (by kernel_rfl)
theorem full : ∀ t e, t < Try.prog.types.size → Try.prog.underlying t = some (.slice e) → 0 < Try.prog.cellsOf e := slices_full_of Try.prog (by kernel_rfl)

theorem u_int {k : IntKind} {n : Int} (h : (Lit.int k n).wf = true) : k.min ≤ n ∧ n ≤ k.max := by
  simpa [Lit.wf] using h
theorem texts_of {ds : List DV} (h : DT Try.prog 31 ds) : ∃ (b : Bool) (l : List (List UInt8)) (d : DV), ds = [d] ∧ DS d (.sl b l.length 1 (strs l)) ∧ (b = true → l.length = 0) := by
  have c9 : Try.prog.cellsOf 9 = 1 := by kernel_rfl
  cases h with
  | nil _ e h1 => exact ⟨true, [], _, rfl, .none _ _ _ _ _, fun _ => rfl⟩
  | sl _ e n f h1 h2 h3 =>
    have he : e = 9 := by
      rw [Try.underlying31] at h1
      cases h1; rfl
    subst he
    let g : Nat → List UInt8 := fun i => if hi : i < n then ((h3 i hi).str_inv Try.underlying9).choose else []
    refine ⟨false, (List.range n).map g, _, rfl, ?_, fun e => by cases e⟩
    rw [c9, List.length_map, List.length_range]
    refine .rows fun i hi => ?_
    have h4 := ((h3 i hi).str_inv Try.underlying9).choose_spec.1
    have : strs ((List.range n).map g) i = [.str (g i)] := by simp [strs, hi]
    rw [this, h4]
    simp only [g, hi, dif_pos]
    exact DSL.refl _
  | _ => simp_all [Try.underlying31]
set_option maxRecDepth 100000 in
/-- A set, out of its cells. -/
theorem set_of {ds : List DV} (h : DT Try.prog 33 ds) : ∃ (nm : List UInt8) (ty ttl : Int) (b : Bool) (l : List (List UInt8)) (d : DV), ds = [.str nm, .int .u16 ty, .int .u32 ttl, d] ∧ DS d (.sl b l.length 1 (strs l)) ∧ (b = true → l.length = 0) ∧ nm.length ≤ maxLen ∧ 0 ≤ ttl ∧ ttl ≤ 4294967295 := by
  obtain ⟨hl, hf⟩ := h.struct_inv Try.underlying33
  have cs : Try.prog.cellsOf 33 = 4 := by kernel_rfl
  rw [cs] at hl
  match ds, hl with
  | [a0, a1, a2, a3], _ =>
    have c1 : Try.prog.cellsOf 9 = 1 := by kernel_rfl
    have c2 : Try.prog.cellsOf 24 = 1 := by kernel_rfl
    have c3 : Try.prog.cellsOf 30 = 1 := by kernel_rfl
    have c4 : Try.prog.cellsOf 31 = 1 := by kernel_rfl
    simp [c1, c2, c3, c4] at hf
    obtain ⟨k0, k1, k2, k3⟩ := hf
    obtain ⟨n0, e0, q0⟩ := k0.str_inv Try.underlying9
    obtain ⟨n1, e1, _⟩ := k1.int_inv Try.underlying24
    obtain ⟨n2, e2, w2⟩ := k2.int_inv Try.underlying30
    obtain ⟨b, l, d, e3, h3, h4⟩ := texts_of k3
    simp only [List.cons.injEq, and_true] at e0 e1 e2 e3
    subst e0 e1 e2 e3
    have := u_int w2
    exact ⟨n0, n1, n2, b, l, _, rfl, h3, h4, q0, this⟩

end Go.Proofs.Ytdphkaiijlekhaa
namespace Go.Proofs.Ytdphkaiijlekhaa
open Go Go.Eng Go.ChangeShapes Go.WideShapes Go.RowKit
theorem DT.sl_inv2 {P : Program} {t : TypeId} {ds : List DV} {e : TypeId} (h : DT P t ds) (hu : P.underlying t = some (.slice e)) : ∃ nil n f, ds = [.sl nil n (P.cellsOf e) f] ∧ (nil = true → n = 0) ∧ ∀ i, i < n → DT P e (f i) := by
  cases h with
  | nil _ e' h1 => rw [hu] at h1; cases h1; exact ⟨true, 0, _, rfl, fun _ => rfl, fun i hi => absurd hi (by omega)⟩
  | sl _ e' n f h1 h2 h3 => rw [hu] at h1; cases h1; exact ⟨false, n, f, rfl, (fun h => by cases h), h3⟩
  | _ => simp_all
set_option maxRecDepth 100000 in
theorem rr_of {ds : List DV} (h : DT Try.prog 60 ds) : ∃ q : RR, ds = q.enc ∧ q.Ok := by
  obtain ⟨hl, hf⟩ := h.struct_inv Try.underlying60
  have cs : Try.prog.cellsOf 60 = 5 := by kernel_rfl
  rw [cs] at hl
  match ds, hl with
  | [a0, a1, a2, a3, a4], _ =>
    have c1 : Try.prog.cellsOf 9 = 1 := by kernel_rfl
    have c2 : Try.prog.cellsOf 24 = 1 := by kernel_rfl
    have c3 : Try.prog.cellsOf 23 = 1 := by kernel_rfl
    have c4 : Try.prog.cellsOf 30 = 1 := by kernel_rfl
    simp [c1, c2, c3, c4] at hf
    obtain ⟨k0, k1, k2, k3, k4⟩ := hf
    obtain ⟨n0, e0, q0⟩ := k0.str_inv Try.underlying9
    obtain ⟨n1, e1, w1⟩ := k1.int_inv Try.underlying24
    obtain ⟨n2, e2, w2⟩ := k2.int_inv Try.underlying23
    obtain ⟨n3, e3, w3⟩ := k3.int_inv Try.underlying30
    obtain ⟨n4, e4, q4⟩ := k4.str_inv Try.underlying9
    simp only [List.cons.injEq, and_true] at e0 e1 e2 e3 e4
    subst e0 e1 e2 e3 e4
    exact ⟨⟨n0, n1, n2, n3, n4⟩, rfl, ⟨u_int w1, u_int w2, u_int w3⟩⟩
theorem rrs_of {ds : List DV} (h : DT Try.prog 47 ds) : ∃ (b : Bool) (l : List RR) (d : DV), ds = [d] ∧ DS d (rrsD b l) ∧ (∀ a ∈ l, a.Ok) := by
  obtain ⟨z, n, f, rfl, hz, hf⟩ := DT.sl_inv2 h Try.underlying47
  have cs : Try.prog.cellsOf 60 = 5 := by kernel_rfl
  let g : Nat → RR := fun i => if hi : i < n then (rr_of (hf i hi)).choose else default
  have hg : ∀ i (hi : i < n), f i = (g i).enc ∧ (g i).Ok := fun i hi => by
    have := (rr_of (hf i hi)).choose_spec
    simpa only [g, hi, dif_pos] using this
  refine ⟨z, (List.range n).map g, _, rfl, ?_, fun a ha => ?_⟩
  · rw [cs]
    unfold rrsD
    rw [List.length_map, List.length_range]
    refine .rows fun i hi => ?_
    have : ((List.range n).map g).getD i default = g i := by simp [List.getD, hi]
    rw [this, (hg i hi).1]
    exact DSL.refl _
  · obtain ⟨i, hi, rfl⟩ := List.mem_map.1 ha
    exact (hg i (List.mem_range.1 hi)).2
end Go.Proofs.Ytdphkaiijlekhaa
namespace Go.Proofs.Ytdphkaiijlekhaa
open Go Go.Eng Go.ChangeShapes Go.WideShapes Go.RowKit

theorem setsof_contract (dss : List (List DV)) (h : DTs Try.prog Try.f5.params.toList dss) : FnOk Try.prog 5 (argsSV Try.prog Try.f5.params.toList dss) (.d (.bool true)) := by
  rw [Try.params5] at h ⊢
  match dss, h with
  | [a0, a1, a2], ⟨h0, h1, h2, _⟩ =>
    obtain ⟨nm, rfl, _⟩ := h0.str_inv Try.underlying9
    obtain ⟨t, rfl, _⟩ := h1.int_inv Try.underlying24
    obtain ⟨z, l, d, rfl, hd, _⟩ := rrs_of h2
    have ha2 : argsSV Try.prog #[9, 24, 47].toList [[.str nm], [.int .u16 t], [d]] = [.d (.str nm), .d (.int .u16 t), .d d] := by
      simp [argsSV, argSV, oneSV, Try.underlying9, Try.underlying24, Try.underlying47]
    rw [ha2]
    exact (setsof_ok nm t z l).convA ⟨.refl _, .refl _, .d hd, True.intro⟩
set_option maxRecDepth 100000 in
theorem setsof_lifted (os : Os) (started : os.Started) (H : Type) (enc : TypeId × Value → H) :
    ReturnsInHanded {} Try.checked os 5 .any (Rows.setsOfSpec.pre6 enc Try.prog Try.f5 [] false)
      (Rows.setsOfSpec.post enc Try.prog Try.f5 false true false false) := by
  refine returnsInHanded_of_change (C := Try.checked) own started (by kernel_rfl) Try.func5
    (ChangeSpec.witness6 (enc := enc) (C := Try.checked) (os := os) false ⟨#[], #[.string ⟨#[]⟩, .int .u16 0, .slice none 0 0], []⟩ 8 (by kernel_rfl) (by kernel_rfl) (by kernel_rfl) (by kernel_rfl) (by kernel_rfl)) ?_
  intro W base args ds gs before hval0 hW _ _
  have hlen : ∃ d1 d2 d3, ds = [d1, d2, d3] := by
    obtain ⟨p, q, hA, _⟩ := hW
    have hA : DataW.TrodAll enc Try.prog W 0 (fun _ => true) true Try.f5.params.toList args.toList ds p := hA
    have := trodAll_len hA
    rw [Try.params5] at this
    match ds, this with
    | [d1, d2, d3], _ => exact ⟨d1, d2, d3, rfl⟩
  obtain ⟨d1, d2, d3, rfl⟩ := hlen
  exact law_calls kids full (m := 8) (fun t ht => by
    rw [Try.params5] at ht
    simp at ht
    rcases ht with rfl | rfl | rfl <;> exact ⟨by kernel_rfl, of_decide_eq_true (by kernel_rfl)⟩) setsof_contract hval0 rfl hW (by kernel_rfl) Try.underlying4 ⟨rfl, rfl, rfl⟩

theorem setsof_holds : Rows.SetsOfSaid :=
  OpenClaim.holds_of_wide 5 Try.f5 rfl rfl rfl rfl rfl rfl rfl ⟨rfl, rfl, rfl, rfl, rfl⟩ rfl rfl rfl rfl rfl (by kernel_rfl) Try.func5 (by kernel_rfl)
    (of_decide_eq_true (by kernel_rfl)) (by unfold Func.isWrapper; rw [if_neg (of_decide_eq_false (by kernel_rfl))]; exact ⟨rfl, rfl⟩)
    (fun os started H enc _ => setsof_lifted os started H enc)
end Go.Proofs.Ytdphkaiijlekhaa
