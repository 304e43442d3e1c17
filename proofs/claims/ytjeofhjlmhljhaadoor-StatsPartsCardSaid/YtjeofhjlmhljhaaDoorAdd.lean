/-
  stats.Add returns the sums, each in int64, and the lesser least. No conditions.
-/
import Derived.Test.YtjeofhjlmhljhaaDoorBase
namespace Go.Proofs.YtjeofhjlmhljhaaDoor
open Go Go.Eng

def Stats.add (a b : Stats) : Stats :=
  { sets := w64 (a.sets + b.sets), data := w64 (a.data + b.data), none := w64 (a.none + b.none), names := w64 (a.names + b.names)
    r0 := w64 (a.r0 + b.r0), r1 := w64 (a.r1 + b.r1), r2 := w64 (a.r2 + b.r2), r3 := w64 (a.r3 + b.r3), r4 := w64 (a.r4 + b.r4), live := w64 (a.live + b.live)
    least := if a.live ≠ 0 ∧ b.live ≠ 0 then (if b.least < a.least then b.least else a.least) else if a.live ≠ 0 then a.least else if b.live ≠ 0 then b.least else 0 }
def upto (k i : Nat) (x : Int) : Int := if i < k then x else 0
def Stats.addTo (k : Nat) (a b : Stats) : Stats :=
  { a.add b with r0 := upto k 0 (w64 (a.r0 + b.r0)), r1 := upto k 1 (w64 (a.r1 + b.r1)), r2 := upto k 2 (w64 (a.r2 + b.r2)), r3 := upto k 3 (w64 (a.r3 + b.r3)), r4 := upto k 4 (w64 (a.r4 + b.r4)), least := 0 }
set_option maxRecDepth 100000
set_option maxHeartbeats 2000000 in
theorem add_ok (a b : Stats) : FnOk Tryd.prog 6 [.agg a.enc, .agg b.enc] (.agg (a.add b).enc) := by
  refine fnOk_of_run (TT := TT) (IN := lookI []) TT_ok INok_nil mixed 1000 Tryd.func6 rfl (enters Tryd.func6 (by kernel_rfl) rfl) rfl 77 (by kernel_rfl) ?_
  conv => whnf
  refine .inv Nat (fun k => k ≤ 5) (fun k => [(33, .d (.int .i64 k))]) (fun k => [(3, .cells 27 (a.addTo k b).enc)]) (fun k => 5 - k) ⟨0, [0, 1, 2, 3], by omega, ?_⟩ ?_
  · conv => whnf
    repeat' (first | exact True.intro | exact rfl | refine And.intro ?_ ?_)
  intro k hk
  conv => whnf
  refine ⟨fun hlt => ?_, fun hge => ?_⟩
  · have hlt' : k < 5 := by simp at hlt; omega
    conv => whnf
    refine ⟨⟨by omega, by omega⟩, ?_⟩
    conv => whnf
    refine ⟨⟨by omega, by omega⟩, ?_⟩
    conv => whnf
    refine ⟨⟨by omega, by omega⟩, ?_⟩
    conv => whnf
    refine ⟨k + 1, [0, 1, 2, 3], by omega, by show 5 - (k + 1) < 5 - k; omega, ?_⟩
    conv => whnf
    repeat' (first | exact True.intro | exact rfl | refine And.intro ?_ ?_)
    all_goals (obtain rfl | rfl | rfl | rfl | rfl : k = 0 ∨ k = 1 ∨ k = 2 ∨ k = 3 ∨ k = 4 := by omega) <;> first | exact rfl | (refine congrArg SV.d (congrArg (DV.int _) ?_); simp [Stats.addTo, Stats.add, upto, w64, pickI]; try decide)
  · have hk5 : k = 5 := by simp at hge; omega
    subst hk5
    conv => whnf
    have w : ∀ x : Int, upto 5 0 x = x ∧ upto 5 1 x = x ∧ upto 5 2 x = x ∧ upto 5 3 x = x ∧ upto 5 4 x = x := fun x => by simp [upto]
    refine ⟨fun h1 => ?_, fun h1 => ?_⟩
    · have h1' : a.live ≠ 0 := by simpa using h1
      conv => whnf
      refine ⟨fun h2 => ?_, fun h2 => ?_⟩
      · have h2' : b.live ≠ 0 := by simpa using h2
        conv => whnf
        simp [ConvL, Conv, DEq, ii, Stats.addTo, Stats.add, w, h1', h2']
      · have h2' : b.live = 0 := by simpa using h2
        conv => whnf
        refine ⟨fun h3 => ?_, fun h3 => absurd h1' (by simpa using h3)⟩
        conv => whnf
        simp [ConvL, Conv, DEq, ii, Stats.addTo, Stats.add, w, h1', h2']
    · have h1' : a.live = 0 := by simpa using h1
      conv => whnf
      refine ⟨fun h3 => absurd h1' (by simpa using h3), fun h3 => ?_⟩
      conv => whnf
      refine ⟨fun h2 => ?_, fun h2 => ?_⟩
      · have h2' : b.live ≠ 0 := by simpa using h2
        conv => whnf
        simp [ConvL, Conv, DEq, ii, Stats.addTo, Stats.add, w, h1', h2']
      · have h2' : b.live = 0 := by simpa using h2
        conv => whnf
        simp [ConvL, Conv, DEq, ii, Stats.addTo, Stats.add, w, h1', h2']
end Go.Proofs.YtjeofhjlmhljhaaDoor
