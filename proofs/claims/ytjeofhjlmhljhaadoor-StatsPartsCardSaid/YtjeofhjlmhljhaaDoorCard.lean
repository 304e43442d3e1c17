/-
  StatsParts returns true at every input and leaves its arguments as they read.
  Conditions: the three listed tables of the standard library hold what the program's text lays (tied by the card).
-/
import Derived.ChangeSame
import Derived.ChangeVars
import Derived.JoinedOf
import Derived.RowKit
import Derived.RowKitTokens
import Derived.LaidLaws
import Derived.LaidHandle
import Derived.Stop.Joined
import Derived.SevenTiedAt
import Derived.Test.YtjeofhjlmhljhaaDoorEg28
import Derived.Test.YtjeofhjlmhljhaaDoorParts
import Derived.Test.YtjeofhjlmhljhaaDoorTie
import Derived.Test.YtjeofhjlmhljhaaDoorCards
namespace Go.Proofs.YtjeofhjlmhljhaaDoor
open Go Go.Eng Go.ChangeShapes Go.WideShapes Go.RowKit

theorem Tryd.own : ownKnob Tryd.prog.godebug = none := by kernel_rfl
theorem kids : Kids Tryd.prog (· < Tryd.prog.types.size) := kids_rows (by kernel_rfl) (by kernel_rfl)
theorem full : ∀ t e, t < Tryd.prog.types.size → Tryd.prog.underlying t = some (.slice e) → 0 < Tryd.prog.cellsOf e := slices_full_of Tryd.prog (by kernel_rfl)
theorem cells40 : Tryd.prog.cellsOf 40 = 8 := by kernel_rfl

/-- The cells that a table is laid of. -/
def litCells : DataW Unit → List Value
  | .agg l => l.map fun | .lit (.int k n) => .int k n | _ => .bool false
  | _ => []
def lay (g : Nat) (d : DataW Unit) (w : World) : World :=
  { w with heap := w.heap.modify g fun
      | .cells _ t frozen => .cells (litCells d).toArray t frozen
      | o => o }
noncomputable def laidWorld (os : Os) : World :=
  lay 0 Rows.laid_internal_strconv_uint64pow10 (lay 1 Rows.laid_math_bits_deBruijn32tab (lay 2 Rows.laid_math_bits_deBruijn64tab (World.holding Tryd.prog os ⟨#[], #[], []⟩)))
theorem laidWorld_met (os : Os) (args : Array Value) : laidMetH Tryd.prog Rows.statsPartsRow.laid ((laidWorld os).forCall (fun _ _ => 0) ⟨#[], args, []⟩).memory :=
  laidMet_of_run' 8 (by kernel_rfl) (by kernel_rfl)

/-- A thing held, out of its cells. -/
theorem held_of {ds : List DV} (h : DT Tryd.prog 40 ds) : ∃ x : Held, ds = x.enc ∧ 0 ≤ x.rank ∧ x.rank < 256 := by
  obtain ⟨hl, hf⟩ := h.struct_inv Tryd.underlying40
  rw [cells40] at hl
  match ds, hl with
  | [a0, a1, a2, a3, a4, a5, a6, a7], _ =>
    have f0 := hf _ (by simp; exact .inl rfl)
    have f1 := hf _ (by simp; exact .inr rfl)
    have f0' : DT Tryd.prog 38 [a0, a1, a2, a3, a4, a5, a6] := by have e : Tryd.prog.cellsOf 38 = 7 := by kernel_rfl
                                                                  simpa [e] using f0
    have f1' : DT Tryd.prog 2 [a7] := by have e : Tryd.prog.cellsOf 2 = 1 := by kernel_rfl
                                         simpa [e] using f1
    obtain ⟨_, hg⟩ := f0'.struct_inv Tryd.underlying38
    have c35 : Tryd.prog.cellsOf 35 = 4 := by kernel_rfl
    have c36 : Tryd.prog.cellsOf 36 = 1 := by kernel_rfl
    have c4 : Tryd.prog.cellsOf 4 = 1 := by kernel_rfl
    have c9 : Tryd.prog.cellsOf 9 = 1 := by kernel_rfl
    have c32 : Tryd.prog.cellsOf 32 = 1 := by kernel_rfl
    have c33 : Tryd.prog.cellsOf 33 = 1 := by kernel_rfl
    have c31 : Tryd.prog.cellsOf 31 = 1 := by kernel_rfl
    simp [c35, c36, c4] at hg
    obtain ⟨g0, g1, g2, g3⟩ := hg
    obtain ⟨_, hk⟩ := g0.struct_inv Tryd.underlying35
    simp [c9, c32, c33, c31] at hk
    obtain ⟨k0, k1, k2, k3⟩ := hk
    obtain ⟨n0, e0, _⟩ := k0.str_inv Tryd.underlying9
    obtain ⟨n1, e1, _⟩ := k1.int_inv Tryd.underlying32
    obtain ⟨n2, e2, _⟩ := k2.int_inv Tryd.underlying33
    obtain ⟨z, n, f, e3, _, _⟩ := k3.sl_inv Tryd.underlying31
    obtain ⟨n4, e4, w4⟩ := g1.int_inv Tryd.underlying36
    obtain ⟨n5, e5⟩ := g2.bool_inv Tryd.underlying4
    obtain ⟨n6, e6⟩ := g3.bool_inv Tryd.underlying4
    obtain ⟨n7, e7, _⟩ := f1'.int_inv Tryd.underlying2
    simp only [List.cons.injEq, and_true] at e0 e1 e2 e3 e4 e5 e6 e7
    subst e0 e1 e2 e3 e4 e5 e6 e7
    have hw : 0 ≤ n4 ∧ n4 < 256 := by
      simp [Lit.wf, IntKind.min, IntKind.max, IntKind.signed, IntKind.bits] at w4
      omega
    exact ⟨⟨n0, n1, n2, z, n, Tryd.prog.cellsOf 9, f, n4, n5, n6, n7⟩, rfl, hw⟩

theorem helds_of {ds : List DV} (h : DT Tryd.prog 22 ds) : ∃ (nil : Bool) (l : List Held), (∀ x ∈ l, 0 ≤ x.rank ∧ x.rank < 256) ∧ ∃ d, ds = [d] ∧ DS d (heldsD nil l) := by
  obtain ⟨z, n, f, rfl, _, hf⟩ := h.sl_inv Tryd.underlying22
  let g : Nat → Held := fun i => if hi : i < n then (held_of (hf i hi)).choose else default
  have hg : ∀ i (hi : i < n), f i = (g i).enc ∧ 0 ≤ (g i).rank ∧ (g i).rank < 256 := fun i hi => by
    have := (held_of (hf i hi)).choose_spec
    simpa [g, hi] using this
  refine ⟨z, (List.range n).map g, fun x hx => ?_, _, rfl, ?_⟩
  · obtain ⟨i, hi, rfl⟩ := List.mem_map.1 hx
    exact (hg i (List.mem_range.1 hi)).2
  · rw [cells40]
    unfold heldsD
    rw [List.length_map, List.length_range]
    refine .rows fun i hi => ?_
    have : ((List.range n).map g).getD i default = g i := by simp [List.getD, hi]
    rw [this, (hg i hi).1]
    exact DSL.refl _

theorem contract (dss : List (List DV)) (h : DTs Tryd.prog Tryd.f3.params.toList dss) : FnOk Tryd.prog 3 (argsSV Tryd.prog Tryd.f3.params.toList dss) (.d (.bool true)) := by
  rw [Tryd.params3] at h ⊢
  match dss, h with
  | [a0, a1, a2, a3], ⟨h0, h1, h2, h3, _⟩ =>
    obtain ⟨now, rfl, w0⟩ := h0.int_inv Tryd.underlying2
    obtain ⟨k, rfl, w3⟩ := h3.int_inv Tryd.underlying23
    obtain ⟨z1, l1, r1, d1, rfl, s1⟩ := helds_of h1
    obtain ⟨z2, l2, r2, d2, rfl, s2⟩ := helds_of h2
    have ha : argsSV Tryd.prog #[2, 22, 22, 23].toList [[DV.int .i64 now], [d1], [d2], [DV.int .u16 k]] = [.d (.int .i64 now), .d d1, .d d2, .d (.int .u16 k)] := by
      simp [argsSV, argSV, oneSV, Tryd.underlying2, Tryd.underlying22, Tryd.underlying23]
    rw [ha]
    simp [Lit.wf, IntKind.min, IntKind.max, IntKind.signed, IntKind.bits] at w0 w3
    exact (parts_ok now z1 z2 l1 l2 k (by omega) (by omega) r1 r2).conv ⟨.refl _, s1, s2, .refl _, True.intro⟩

set_option maxRecDepth 100000 in
theorem law_lifted (os : Os) (started : os.Started) (H : Type) (enc : TypeId × Value → H) :
    ReturnsInHanded {} Tryd.checked os 3 .any (fun w args => (Rows.statsPartsSpec.pre enc Tryd.prog Tryd.f3 [] false w args ∧ laidMetH Tryd.prog Rows.statsPartsRow.laid w) ∧ sizedMet enc Tryd.prog Tryd.f3 (OpenSpec.ofChange Rows.statsPartsSpec) false w args)
      (Rows.statsPartsSpec.post enc Tryd.prog Tryd.f3 false true false false) := by
  refine returnsInHanded_of_change_and (C := Tryd.checked) (X := fun w _ => laidMetH Tryd.prog Rows.statsPartsRow.laid w) (fun _ _ _ hh h => h.of_heap hh) Tryd.own started (by kernel_rfl) Tryd.func3
    (ChangeSpec.witness_at (enc := enc) (C := Tryd.checked) (os := os) (X := fun w _ => laidMetH Tryd.prog Rows.statsPartsRow.laid w) false (laidWorld os) #[.int .i64 0, .slice none 0 0, .slice none 0 0, .int .u16 0] 8 rfl (by kernel_rfl) (by kernel_rfl) (by kernel_rfl) (by kernel_rfl) (by kernel_rfl) (laidWorld_met os _)) ?_
  intro W base args ds gs before hval0 hW _ _ hL _
  have hlen : ∃ d1 d2 d3 d4, ds = [d1, d2, d3, d4] := by
    obtain ⟨p, q, hA, _⟩ := hW
    have hA : DataW.TrodAll enc Tryd.prog W 0 (fun _ => true) true Tryd.f3.params.toList args.toList ds p := hA
    have := trodAll_len hA
    rw [Tryd.params3] at this
    match ds, this with
    | [d1, d2, d3, d4], _ => exact ⟨d1, d2, d3, d4, rfl⟩
  obtain ⟨d1, d2, d3, d4, rfl⟩ := hlen
  exact law_calls kids full (m := 8) (fun t ht => by
    rw [Tryd.params3] at ht
    simp at ht
    rcases ht with rfl | rfl | rfl <;> exact ⟨by kernel_rfl, of_decide_eq_true (by kernel_rfl)⟩) contract hval0 rfl hW (by kernel_rfl) Tryd.underlying4 ⟨rfl, rfl, rfl⟩

theorem row_holds : Rows.StatsPartsSaid :=
  OpenClaim.holds_of_wide 3 Tryd.f3 rfl rfl rfl rfl rfl rfl rfl ⟨rfl, rfl, rfl, rfl, rfl⟩ rfl rfl rfl rfl rfl (by kernel_rfl) Tryd.func3 (by kernel_rfl)
    (of_decide_eq_true (by kernel_rfl)) (by unfold Func.isWrapper; rw [if_neg (of_decide_eq_false (by kernel_rfl))]; exact ⟨rfl, rfl⟩)
    (fun os started H enc _ => law_lifted os started H enc)

theorem card_holds : Rows.StatsPartsCardSaid :=
  Claim7.holds_tied_plain_at .later [] [.data, .data, .data] true (true, "65a7e8374f361a6ce34ac6e3c4c7fb5c6f5639a44a67be0c97d607091b293ebd") false
    row_holds (fun _ h => by cases h) (by kernel_rfl) (fun _ h => by cases h) statsParts_row_tie rfl ⟨rfl, rfl⟩ (by kernel_rfl) rfl
    (fun f fn hf hfn => by
      obtain rfl : f = 3 := Option.some.inj ((show Tryd.prog.funcNamed "hardtack/hardtacklaw39.StatsParts" = some 3 by kernel_rfl).symm.trans hf) |>.symm
      obtain rfl : fn = Tryd.f3 := (Option.some.inj (Tryd.func3.symm.trans hfn)).symm
      exact ⟨by kernel_rfl, fun j t ht => by
        rw [Tryd.params3] at ht
        rcases j with _ | _ | _ | _ | j
        · obtain rfl : t = 2 := by simpa using ht.symm
          exact (show Tryd.prog.wantsStandIn 2 = false by kernel_rfl)
        · obtain rfl : t = 22 := by simpa using ht.symm
          exact (show Tryd.prog.wantsStandIn 22 = false by kernel_rfl)
        · obtain rfl : t = 22 := by simpa using ht.symm
          exact (show Tryd.prog.wantsStandIn 22 = false by kernel_rfl)
        · obtain rfl : t = 23 := by simpa using ht.symm
          exact (show Tryd.prog.wantsStandIn 23 = false by kernel_rfl)
        · simp at ht⟩)
    (by kernel_rfl)
end Go.Proofs.YtjeofhjlmhljhaaDoor
