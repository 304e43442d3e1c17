/-
  What all rows of this seat need: the tables of the program, texts and sets out of their cells. No conditions.
-/
import Derived.ChangeSame
import Derived.ChangeVars
import Derived.JoinedOf
import Derived.RowKit
import Derived.RowKitTokens
import Derived.LaidLaws
import Derived.LaidHandle
import Derived.Stop.Joined
import Derived.SevenTiedAt
import Derived.Test.YtdphkaiijlekhaaEg28
import Derived.Test.YtdphkaiijlekhaaSets
import Derived.Test.YtdphkaiijlekhaaEgE
namespace Go.Proofs.Ytdphkaiijlekhaa
open Go Go.Eng Go.ChangeShapes Go.WideShapes Go.RowKit

theorem own : ownKnob Try.prog.godebug = none := by kernel_rfl
theorem kids : Kids Try.prog (· < Try.prog.types.size) := kids_rows (by kernel_rfl) (by kernel_rfl)
theorem full : ∀ t e, t < Try.prog.types.size → Try.prog.underlying t = some (.slice e) → 0 < Try.prog.cellsOf e := slices_full_of Try.prog (by kernel_rfl)

theorem u_int {k : IntKind} {n : Int} (h : (Lit.int k n).wf = true) : k.min ≤ n ∧ n ≤ k.max := by
  simpa [Lit.wf] using h
theorem texts_of {ds : List DV} (h : DT Try.prog 31 ds) : ∃ (b : Bool) (l : List (List UInt8)) (d : DV), ds = [d] ∧ DS d (.sl b l.length 1 (strs l)) ∧ (b = true → l.length = 0) := by
  have c9 : Try.prog.cellsOf 9 = 1 := by kernel_rfl
  cases h with
  | nil _ e h1 => exact ⟨true, [], _, rfl, .none _ _ _ _ _, fun _ => rfl⟩
  | sl _ e n f h1 h2 h3 =>
    have he : e = 9 := by
      rw [Try.underlying31] at h1
      cases h1; rfl
    subst he
    let g : Nat → List UInt8 := fun i => if hi : i < n then ((h3 i hi).str_inv Try.underlying9).choose else []
    refine ⟨false, (List.range n).map g, _, rfl, ?_, fun e => by cases e⟩
    rw [c9, List.length_map, List.length_range]
    refine .rows fun i hi => ?_
    have h4 := ((h3 i hi).str_inv Try.underlying9).choose_spec.1
    have : strs ((List.range n).map g) i = [.str (g i)] := by simp [strs, hi]
    rw [this, h4]
    simp only [g, hi, dif_pos]
    exact DSL.refl _
  | _ => simp_all [Try.underlying31]
set_option maxRecDepth 100000 in
/-- A set, out of its cells. -/
theorem set_of {ds : List DV} (h : DT Try.prog 33 ds) : ∃ (nm : List UInt8) (ty ttl : Int) (b : Bool) (l : List (List UInt8)) (d : DV), ds = [.str nm, .int .u16 ty, .int .u32 ttl, d] ∧ DS d (.sl b l.length 1 (strs l)) ∧ (b = true → l.length = 0) ∧ nm.length ≤ maxLen ∧ 0 ≤ ttl ∧ ttl ≤ 4294967295 := by
  obtain ⟨hl, hf⟩ := h.struct_inv Try.underlying33
  have cs : Try.prog.cellsOf 33 = 4 := by kernel_rfl
  rw [cs] at hl
  match ds, hl with
  | [a0, a1, a2, a3], _ =>
    have c1 : Try.prog.cellsOf 9 = 1 := by kernel_rfl
    have c2 : Try.prog.cellsOf 24 = 1 := by kernel_rfl
    have c3 : Try.prog.cellsOf 30 = 1 := by kernel_rfl
    have c4 : Try.prog.cellsOf 31 = 1 := by kernel_rfl
    simp [c1, c2, c3, c4] at hf
    obtain ⟨k0, k1, k2, k3⟩ := hf
    obtain ⟨n0, e0, q0⟩ := k0.str_inv Try.underlying9
    obtain ⟨n1, e1, _⟩ := k1.int_inv Try.underlying24
    obtain ⟨n2, e2, w2⟩ := k2.int_inv Try.underlying30
    obtain ⟨b, l, d, e3, h3, h4⟩ := texts_of k3
    simp only [List.cons.injEq, and_true] at e0 e1 e2 e3
    subst e0 e1 e2 e3
    have := u_int w2
    exact ⟨n0, n1, n2, b, l, _, rfl, h3, h4, q0, this⟩

end Go.Proofs.Ytdphkaiijlekhaa
