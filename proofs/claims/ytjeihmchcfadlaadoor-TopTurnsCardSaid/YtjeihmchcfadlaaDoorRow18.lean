/-
  TopTurns returns true at every input and leaves its arguments as they read.
  Conditions: the listed variables of the standard library hold what the text of the program lays (tied by the card).
-/
import Derived.Test.YtjeihmchcfadlaaDoorB3
import Derived.Test.YtjeihmchcfadlaaDoorB1
import Derived.Test.YtjeihmchcfadlaaDoorB4
set_option linter.unusedVariables false
set_option linter.unusedSimpArgs false
namespace Go.Proofs.YtjeihmchcfadlaaDoor
open Go Go.Eng Go.Lib
set_option maxRecDepth 100000
theorem begins_ok : FnOk Tryd.prog 29 [] (.d (.bool true)) := by
  have hc := count_ok [1, 97, 3, 111, 114, 103, 0]
  rw [show countN [1, 97, 3, 111, 114, 103, 0] = 2 by decide +kernel] at hc
  refine fnOk_of_run (TT := TT) (IN := lookI []) TT_ok INok_nil mixed 1000 Tryd.func29 rfl (enters Tryd.func29 (by kernel_rfl) rfl) rfl 3 (by kernel_rfl) ?_
  conv => whnf
  refine .one (.data _ hc rfl rfl ?_)
  conv => whnf
  exact rfl
/-- When the things are due. -/
def dueW (m : List Pf) : Nat → Nat := fun x => (m.getD x ⟨0, 0⟩).addr
theorem due_rise {l m : List Pf} (h : LeanI l m) : ∀ x y, x < y → y < m.length → dueW m x < dueW m y := fun x y hxy hy => by
  have h1 := lean_at h (show x < m.length by omega)
  have ho := List.pairwise_iff_getElem.1 h.ord x y (by omega) hy hxy
  have e1 : m.getD x ⟨0, 0⟩ = m[x] := by rw [List.getD_eq_getElem?_getD, List.getElem?_eq_getElem (by omega)]; rfl
  have e2 : m.getD y ⟨0, 0⟩ = m[y] := by rw [List.getD_eq_getElem?_getD, List.getElem?_eq_getElem hy]; rfl
  have := m[x].sz_pos
  unfold dueW
  rw [e1, e2]
  omega
theorem due_le {l m : List Pf} (h : LeanI l m) : ∀ x, x < m.length → dueW m x ≤ 4294967296 := fun x hx => by
  have := (lean_at h hx).2.1
  unfold dueW
  omega
theorem InW.zero (A : Nat → Nat) (n : Nat) (e : Nat → Int × Int) (g : Nat → Nat) : InW A n n n 0 e g [] :=
  ⟨fun x hx => absurd hx (Nat.not_lt_zero _), ⟨Nat.zero_add _, fun i hi => absurd hi (Nat.not_lt_zero _), fun i j hi => absurd hi (Nat.not_lt_zero _), fun x h1 h2 => by omega⟩, fun p hp => (by cases hp), fun p hp => (by cases hp)⟩
set_option maxHeartbeats 8000000 in
theorem ttrn_ok (z : Bool) (l : List Pf) (hl : ∀ p ∈ l, p.addr < 4294967296) : FnOk Tryd.prog 7 [.d (.sl z l.length 2 (pfs l))] (.d (.bool true)) := by
  refine fnOk_of_run (TT := TT) (IN := lookI []) TT_ok INok_nil mixed 1000 Tryd.func7 rfl (enters Tryd.func7 (by kernel_rfl) rfl) rfl 82 (by kernel_rfl) ?_
  conv => whnf
  refine .one (.data _ begins_ok rfl rfl ?_)
  conv => whnf
  refine brF rfl ?_
  conv => whnf
  by_cases h1 : l.length > 60
  · refine brT (decide_eq_true (by omega)) ?_
    conv => whnf
  refine brF (decide_eq_false (by omega)) ?_
  conv => whnf
  have hI := leanL_is l hl
  have hlm := hI.len
  refine .one (.data _ (lean_ok z l hl (by omega)) rfl rfl ?_)
  generalize leanL l = m at *
  have hA := due_rise hI
  have hB := due_le hI
  conv => whnf
  refine .rel _ (newW_ok (fun _ => (0, 0))) (fun r ks' hR => ?_)
  obtain ⟨rfl, rfl⟩ := hR
  conv => whnf
  have e1 : IntKind.i64.wrap ((m.length : Int) - 1) = (m.length : Int) - 1 := w64_in _ (by omega)
  rw [e1]
  refine .inv ((Nat → Int × Int) × (Nat → Nat) × List (List DV × List SV) × Nat × Nat) (fun s => InW (dueW m) m.length s.2.2.2.1 s.2.2.2.1 s.2.2.2.2 s.1 s.2.1 s.2.2.1 ∧ HeapW s.2.1 s.2.2.2.2) (fun s => [(5, .d (.int .i64 ((s.2.2.2.1 : Int) - 1)))]) (fun s => [(0, wC (.all 2)), (1, .map [EK.int .i64] false false s.2.2.1), (2, .row 95 2 s.2.2.2.2 .iff (thF s.1))]) (fun s => s.2.2.2.1) ⟨(fun _ => (0, 0), fun _ => 0, [], m.length, 0), [0, 1, 2], ⟨InW.zero _ _ _ _, fun j j0 jL => absurd jL (Nat.not_lt_zero _)⟩, ?_⟩ ?_
  · conv => whnf
    repeat' (first | exact True.intro | exact rfl | exact subZ_self _ | exact Or.inr rfl | exact fun _ _ => rfl | exact fun _ h => absurd h (Nat.not_lt_zero _) | refine And.intro ?_ ?_)
  intro s hs
  conv => whnf
  generalize g1 : s.1 = e at hs ⊢
  generalize g2 : s.2.1 = g at hs ⊢
  generalize g3 : s.2.2.1 = q at hs ⊢
  generalize g4 : s.2.2.2.1 = j at hs ⊢
  generalize g5 : s.2.2.2.2 = c at hs ⊢
  obtain ⟨h, hh⟩ := hs
  have hlen := h.all.len
  by_cases hj : j = 0
  · subst hj
    obtain rfl : c = m.length := by omega
    refine brF (decide_eq_false (by omega)) ?_
    conv => whnf
    refine .rel _ (COk.cellPre (i := 0) (j := 2) (s := .all 2) (s' := .row 2 0 m.length) rfl rfl (fun X w β fp u hM hd => hM.allRow rfl hd) (popW_ok (dueW m) m.length hA hB (by omega) .iff e g q h hh)) (fun r ks' hR => ?_)
    obtain ⟨rfl, e', l', hd, rfl⟩ := hR
    conv => whnf
    refine .inv Nat (fun i => i ≤ m.length) (fun i => [(42, iN i)]) (fun _ => []) (fun i => m.length - i) ⟨0, [0, 1, 2, 3], Nat.zero_le _, ?_⟩ ?_
    · conv => whnf
      repeat' (first | exact True.intro | exact rfl | exact subZ_self _ | exact Or.inr rfl | exact fun _ _ => rfl | exact fun _ h => absurd h (Nat.not_lt_zero _) | refine And.intro ?_ ?_)
      exact hd.ren
    intro i hi
    conv => whnf
    by_cases him : i < m.length
    · obtain ⟨hpm, hpa, hpr⟩ := lean_at hI him
      have hw1 : IntKind.i64.wrap ((i : Int) + 1) = ((i + 1 : Nat) : Int) := by rw [w64_in _ (by omega)]; omega
      have hpp := pprint_ok _ hpa
      rw [if_pos hpr] at hpp
      have hpq := pparse_ok (printP (m.getD i ⟨0, 0⟩))
      rw [pparse_print hpa hpr] at hpq
      refine brT (decide_eq_true (by omega)) ?_
      conv => whnf
      refine ⟨⟨by omega, by omega⟩, ?_⟩
      conv => whnf
      rw [Int.toNat_natCast]
      refine ⟨⟨by omega, by omega⟩, ?_⟩
      conv => whnf
      refine .one (.data _ hpp rfl rfl ?_)
      conv => whnf
      refine .one (.data _ hpq rfl rfl ?_)
      conv => whnf
      refine brF (by simp) ?_
      conv => whnf
      repeat (first | (refine brT rfl ?_; conv => whnf) | (refine brF rfl ?_; conv => whnf))
      refine ⟨⟨by omega, by omega⟩, ?_⟩
      conv => whnf
      rw [Int.toNat_natCast]
      refine brF (by simp) ?_
      conv => whnf
      rw [hw1]
      refine ⟨i + 1, [0, 1, 2, 3], him, by omega, ?_⟩
      conv => whnf
      repeat' (first | exact True.intro | exact rfl | exact subZ_self _ | exact Or.inr rfl | exact fun _ _ => rfl | exact fun _ h => absurd h (Nat.not_lt_zero _) | refine And.intro ?_ ?_)
      exact hd.ren
    · refine brF (decide_eq_false (by omega)) ?_
      conv => whnf
      refine .rel _ (COk.wheel (V := fun r => r = iN 0) (Q := fun e1 _ l1 => e1 = e' ∧ l1 = l') [.row 3 1 m.length .iff upF]
        ((lenW_ok m.length 0 .iff e' l' hd).imp fun r kk ⟨h1, h2⟩ => ⟨h1, e', g, l', ⟨rfl, rfl⟩, h2⟩) hd (fun e1 g1 l1 h' => h'.2 ▸ hd) rfl rfl rfl (fun r hr => hr ▸ rfl)) (fun r ks' hR => ?_)
      obtain ⟨rfl, _, _, _, ⟨rfl, rfl⟩, rfl⟩ := hR
      conv => whnf
      exact rfl
  · obtain ⟨k, rfl⟩ : ∃ k, j = k + 1 := ⟨j - 1, by omega⟩
    have hkm : k < m.length := by omega
    obtain ⟨hpm, hpa, hpr⟩ := lean_at hI hkm
    have e2 : ((k + 1 : Nat) : Int) - 1 = (k : Int) := by omega
    have e3 : IntKind.i64.wrap ((m.getD k ⟨0, 0⟩).addr : Int) = (dueW m k : Int) := w64_in _ (by omega)
    have e4 : IntKind.i64.wrap ((k : Int) - 1) = (k : Int) - 1 := w64_in _ (by omega)
    rw [e2]
    refine brT (decide_eq_true (by omega)) ?_
    conv => whnf
    refine ⟨⟨by omega, by omega⟩, ?_⟩
    conv => whnf
    rw [Int.toNat_natCast, e3]
    refine .rel _ (addW_ok (dueW m) m.length hA k c (by omega) .iff e g q h hh) (fun r ks' hR => ?_)
    obtain ⟨rfl, e', g', l', h2, h3, rfl⟩ := hR
    conv => whnf
    rw [e4]
    refine ⟨(e', g', l', k, c + 1), [0, 1, 3], ⟨h2, h3⟩, show k < k + 1 by omega, ?_⟩
    conv => whnf
    repeat' (first | exact True.intro | exact rfl | exact subZ_self _ | exact Or.inr rfl | exact fun _ _ => rfl | exact fun _ h => absurd h (Nat.not_lt_zero _) | refine And.intro ?_ ?_)
    exact h2.dat.ren
end Go.Proofs.YtjeihmchcfadlaaDoor
namespace Go.Proofs.YtjeihmchcfadlaaDoor
open Go Go.Eng Go.ChangeShapes Go.WideShapes Go.RowKit

theorem topTurns_contract (dss : List (List DV)) (h : DTs Tryd.prog Tryd.f7.params.toList dss) : FnOk Tryd.prog 7 (argsSV Tryd.prog Tryd.f7.params.toList dss) (.d (.bool true)) := by
  rw [Tryd.params7] at h ⊢
  match dss, h with
  | [a0], ⟨h0, _⟩ =>
    obtain ⟨z, l, d0, rfl, hd, hl⟩ := pfs_of h0
    have ha : argsSV Tryd.prog #[33].toList [[d0]] = [.d d0] := by
      simp [argsSV, argSV, oneSV, Tryd.underlying33]
    rw [ha]
    exact (ttrn_ok z l hl).conv ⟨hd, trivial⟩
set_option maxRecDepth 100000 in
theorem topTurns_lifted (os : Os) (started : os.Started) (H : Type) (enc : TypeId × Value → H) :
    ReturnsInHanded {} Tryd.checked os 7 .any (fun w args => (Rows.topTurnsSpec.pre enc Tryd.prog Tryd.f7 [] false w args ∧ laidMetH Tryd.prog Rows.topTurnsRow.laid w) ∧ sizedMet enc Tryd.prog Tryd.f7 (OpenSpec.ofChange Rows.topTurnsSpec) false w args)
      (Rows.topTurnsSpec.post enc Tryd.prog Tryd.f7 false true false false) := by
  refine returnsInHanded_of_change_and (C := Tryd.checked) (X := fun w _ => laidMetH Tryd.prog Rows.topTurnsRow.laid w) (fun _ _ _ hh h => h.of_heap hh) own started (by kernel_rfl) Tryd.func7
    (ChangeSpec.witness_at (enc := enc) (C := Tryd.checked) (os := os) (X := fun w _ => laidMetH Tryd.prog Rows.topTurnsRow.laid w) false (laidWorld os) #[.slice none 0 0] 8 rfl (by kernel_rfl) (by kernel_rfl) (by kernel_rfl) (by kernel_rfl) (by kernel_rfl) (laidWorld_met os _)) ?_
  intro W base args ds gs before hval0 hW _ _ hL _
  have hlen : ∃ d1, ds = [d1] := by
    obtain ⟨p, q, hA, _⟩ := hW
    have hA : DataW.TrodAll enc Tryd.prog W 0 (fun _ => true) true Tryd.f7.params.toList args.toList ds p := hA
    have := trodAll_len hA
    rw [Tryd.params7] at this
    match ds, this with
    | [d1], _ => exact ⟨d1, rfl⟩
  obtain ⟨d1, rfl⟩ := hlen
  exact law_calls kids full (m := 8) (fun t ht => by
    rw [Tryd.params7] at ht
    simp at ht
    subst ht; exact ⟨by kernel_rfl, of_decide_eq_true (by kernel_rfl)⟩) topTurns_contract hval0 rfl hW (by kernel_rfl) Tryd.underlying4 ⟨rfl, rfl, rfl⟩ (vok_of hL)

theorem topTurns_row : Rows.TopTurnsSaid :=
  OpenClaim.holds_of_wide 7 Tryd.f7 rfl rfl rfl rfl rfl rfl rfl ⟨rfl, rfl, rfl, rfl, rfl⟩ rfl rfl rfl rfl rfl (by kernel_rfl) Tryd.func7 (by kernel_rfl)
    (of_decide_eq_true (by kernel_rfl)) (by unfold Func.isWrapper; rw [if_neg (of_decide_eq_false (by kernel_rfl))]; exact ⟨rfl, rfl⟩)
    (fun os started H enc _ => topTurns_lifted os started H enc)

theorem topTurns_holds : Rows.TopTurnsCardSaid :=
  Claim7.holds_tied_plain_at .later [] [.data, .data, .data, .data, .sentinel, .sentinel, .pinned] true (true, "d513b840ec91f2345823f5f8dd3534c259aa7cc5da73d820b30d898315585fed") true
    topTurns_row (fun _ h => by cases h) (by kernel_rfl) (fun _ h => by cases h) topTurns_row_tie rfl ⟨rfl, rfl⟩ (by kernel_rfl) rfl
    (fun f fn hf hfn => by
      obtain rfl : f = 7 := Option.some.inj ((show Tryd.prog.funcNamed "hardtack/hardtacktop.TopTurns" = some 7 by kernel_rfl).symm.trans hf) |>.symm
      obtain rfl : fn = Tryd.f7 := (Option.some.inj (Tryd.func7.symm.trans hfn)).symm
      exact ⟨by kernel_rfl, fun j t ht => by
        rw [Tryd.params7] at ht
        rcases j with _ | j
        · obtain rfl : t = 33 := by simpa using ht.symm
          exact (show Tryd.prog.wantsStandIn 33 = false by kernel_rfl)
        · simp at ht⟩)
    (by kernel_rfl)
end Go.Proofs.YtjeihmchcfadlaaDoor
