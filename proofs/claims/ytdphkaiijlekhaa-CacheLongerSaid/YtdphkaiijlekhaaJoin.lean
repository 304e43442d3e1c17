/-
  strings.Join of texts, as a contract over data (from the shelf). Conditions: lengths.
-/
import Derived.Test.YtdphkaiijlekhaaRdata
import Derived.Test.YtdphkaiijlekhaaShelf
namespace Go.Proofs.Ytdphkaiijlekhaa
open Go Go.Eng
theorem rd_slice {w : World} {M : Nat → Prop} {b : Bool} {n sz : Nat} {f : Nat → List DV} {v : Value} (h : Rd w M (.sl b n sz f) v) : (n = 0 ∧ v = .slice none 0 0) ∨ ∃ (ad : Addr) (cap : Nat) (u : Nat → Nat → Value), v = .slice (some ad) n cap ∧ n ≤ cap ∧
    (0 < n → ad.block < w.heap.size ∧ ¬ M ad.block) ∧ (∀ (i j : Nat) (d : DV), i < n → (f i)[j]? = some d → w.cell? (ad.add (i * sz + j)) = some (u i j)) ∧ (∀ (i j : Nat) (d : DV), i < n → (f i)[j]? = some d → Rd w M d (u i j)) := by
  cases h with
  | nil => exact .inl ⟨rfl, rfl⟩
  | sl _ _ _ ad cap u g1 g3 g4 g5 g6 => exact .inr ⟨ad, cap, u, rfl, g1, g3, g5, g6⟩
/-- strings.Join of texts. -/
theorem join_ok (b : Bool) (l : List (List UInt8)) (sep : List UInt8) (hn : l.length ≤ 140737488355328) (hj : (Lib.join l sep).length ≤ 140737488355328) : FnOk Try.prog 125 [.d (.sl b l.length 1 (strs l)), .d (.str sep)] (.d (.str (Lib.join l sep))) := by
  refine ⟨enters Try.func125 (by kernel_rfl) rfl, fun M w vs hM hl hd => ?_⟩
  match vs, hl with
  | [v0, v1], _ =>
    have h0 := den_data (hd 0 _ v0 rfl rfl)
    have h1 := den_str (hd 1 _ v1 rfl rfl)
    subst h1
    rcases rd_slice h0 with ⟨hl0, rfl⟩ | ⟨ad, cap, u, rfl, g1, g3, g5, g6⟩
    · have : l = [] := List.eq_nil_of_length_eq_zero hl0
      subst this
      refine (Try.strings_Join_none none 0 ⟨sep.toArray⟩ w).mono ?_
      rintro e w' ⟨rfl, rfl⟩
      exact ⟨_, rfl, Step.refl _ _, .d (.str _)⟩
    · by_cases hz : l = []
      · subst hz
        refine (Try.strings_Join_none (some ad) cap ⟨sep.toArray⟩ w).mono ?_
        rintro e w' ⟨rfl, rfl⟩
        exact ⟨_, rfl, Step.refl _ _, .d (.str _)⟩
      · have hpos : 0 < l.length := List.length_pos_iff.2 hz
        obtain ⟨hb, _⟩ := g3 hpos
        have hu : ∀ i, i < l.length → u i 0 = strV (l[i]?.getD []) := fun i hi => by
          have := g6 i 0 (.str (l[i]?.getD [])) hi rfl
          exact den_str (β := noE) (.d this)
        have hc0 := g5 0 0 (.str (l[0]?.getD [])) hpos rfl
        have hspot : ad.spot = none := by
          rw [show ad.add (0 * 1 + 0) = ad from rfl] at hc0
          unfold World.cell? at hc0
          split at hc0
          · cases hs : ad.spot with
            | none => rfl
            | some _ => simp [hs] at hc0
          · cases hc0
        obtain ⟨bk, o, sp⟩ := ad
        simp only at hspot hb
        subst hspot
        have := Try.strings_Join bk o cap (l.map fun x => ⟨x.toArray⟩) ⟨sep.toArray⟩ w (fun j x hx => by
          rw [List.getElem?_map, Option.map_eq_some_iff] at hx
          obtain ⟨y, hy, rfl⟩ := hx
          have hj : j < l.length := (List.getElem?_eq_some_iff.1 hy).1
          have h5 := g5 j 0 (.str (l[j]?.getD [])) hj rfl
          rw [hu j hj, add_lit0, hy] at h5
          simpa [strV] using h5) hb (by simpa using hn) (by simpa using g1) (by
            simp only [List.map_map, Function.comp_def, List.toList_toArray, List.map_id']
            exact hj)
        simp only [List.length_map, List.map_map, Function.comp_def, List.toList_toArray, List.map_id'] at this
        refine this.mono ?_
        rintro e w' ⟨rfl, hw⟩
        exact ⟨_, rfl, Step.of_below _ hw, .d (.str _)⟩
end Go.Proofs.Ytdphkaiijlekhaa
