/-
  lives returns true. No conditions.
-/
import Derived.Test.YtjeofhjlmhljhaaDoorOf
import Derived.Test.YtjeofhjlmhljhaaDoorAdd
import Derived.Test.YtjeofhjlmhljhaaDoorText
namespace Go.Proofs.YtjeofhjlmhljhaaDoor
open Go Go.Eng
def heldA : Held := ⟨[], 0, 0, false, 2, 1, chunk [.str [97], .str [98]] 1, 1, false, false, 9⟩
def heldB : Held := ⟨[], 0, 0, true, 0, 0, fun _ => [], 4, true, true, 7⟩
def sB : Stats := ⟨0, 0, 1, 1, 0, 0, 0, 0, 1, 1, 7⟩
def sC : Stats := ⟨1, 2, 2, 2, 0, 1, 0, 0, 2, 2, 7⟩
theorem eA : statsOf 7 [heldA, heldB] = theS := by kernel_rfl
theorem eB : statsOf 6 [heldB] = sB := by kernel_rfl
theorem eC : theS.add sB = sC := by kernel_rfl
theorem okA : FnOk Tryd.prog 5 [.d (.int .i64 7), .d (heldsD false [heldA, heldB])] (.agg theS.enc) := eA ▸ of_ok 7 false [heldA, heldB] (by decide) (by decide)
theorem okB : FnOk Tryd.prog 5 [.d (.int .i64 6), .d (heldsD false [heldB])] (.agg sB.enc) := eB ▸ of_ok 6 false [heldB] (by decide) (by decide)
theorem okC : FnOk Tryd.prog 6 [.agg theS.enc, .agg sB.enc] (.agg sC.enc) := eC ▸ add_ok theS sB
set_option maxRecDepth 100000
set_option maxHeartbeats 2000000 in
theorem lives_ok : FnOk Tryd.prog 4 [] (.d (.bool true)) := by
  refine fnOk_of_run (TT := TT) (IN := lookI []) TT_ok INok_nil mixed 1000 Tryd.func4 rfl (enters Tryd.func4 (by kernel_rfl) rfl) rfl 44 (by kernel_rfl) ?_
  conv => whnf
  refine .one (.look (.agg theS.enc) ?_ rfl ?_)
  · conv => whnf
    refine ⟨okA.conv ⟨.refl _, .rows fun i hi => ?_, True.intro⟩, rfl⟩
    match i with
    | 0 => exact ⟨.refl _, .refl _, .refl _, .refl _, .refl _, .fb, .fb, .refl _, True.intro⟩
    | 1 => exact ⟨.refl _, .refl _, .refl _, .refl _, .refl _, .tb, .tb, .refl _, True.intro⟩
    | i + 2 => exact absurd hi (by omega)
  conv => whnf
  refine .look (.agg sB.enc) ?_ rfl ?_
  · conv => whnf
    refine ⟨okB.conv ⟨.refl _, .rows fun i hi => ?_, True.intro⟩, rfl⟩
    match i with
    | 0 => exact ⟨.refl _, .refl _, .refl _, .refl _, .refl _, .tb, .tb, .refl _, True.intro⟩
    | i + 1 => exact absurd hi (by omega)
  conv => whnf
  refine .data (.agg sC.enc) okC rfl rfl ?_
  conv => whnf
  iterate 4 (refine ⟨fun _ => ?_, fun h => absurd h (by decide)⟩; conv => whnf)
  refine .one (.data (.d (.str theT)) text_ok rfl rfl ?_)
  conv => whnf
  kernel_rfl
end Go.Proofs.YtjeofhjlmhljhaaDoor
