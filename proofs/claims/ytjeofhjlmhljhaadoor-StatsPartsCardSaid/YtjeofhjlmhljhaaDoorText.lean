/-
  stats.Text at one value returns one text. No conditions.
-/
import Derived.Test.YtjeofhjlmhljhaaDoorBase
namespace Go.Proofs.YtjeofhjlmhljhaaDoor
open Go Go.Eng
def theS : Stats := ⟨1, 2, 1, 1, 0, 1, 0, 0, 1, 1, 9⟩
set_option maxRecDepth 100000
def theT : List UInt8 := [115, 101, 116, 115, 32, 49, 59, 32, 100, 97, 116, 97, 32, 50, 59, 32, 110, 111, 110, 101, 32, 49, 59, 32, 110, 97, 109, 101, 115, 32, 49, 59, 32, 108, 105, 118, 101, 32, 49, 59, 32, 108, 101, 97, 115, 116, 32, 57, 59, 32, 114, 97, 110, 107, 115, 32, 48, 32, 49, 32, 48, 32, 48, 32, 49, 10]
set_option maxHeartbeats 2000000 in
theorem text_ok : FnOk Tryd.prog 7 [.agg theS.enc] (.d (.str theT)) := by
  refine fnOk_of_run (TT := TT) (IN := lookI [(8, Tryd.f8, 3), (9, Tryd.f9, 3), (10, Tryd.f10, 3), (11, Tryd.f11, 3), (12, Tryd.f12, 1)]) TT_ok ?_ mixed 3000 Tryd.func7 rfl (enters Tryd.func7 (by kernel_rfl) rfl) rfl 57 (by kernel_rfl) ?_
  · exact INok_cons (INok_cons (INok_cons (INok_cons (INok_cons INok_nil Tryd.func12 (by kernel_rfl) (by kernel_rfl)) Tryd.func11 (by kernel_rfl) (by kernel_rfl)) Tryd.func10 (by kernel_rfl) (by kernel_rfl)) Tryd.func9 (by kernel_rfl) (by kernel_rfl)) Tryd.func8 (by kernel_rfl) (by kernel_rfl)
  conv => whnf
  repeat (first
    | (refine ⟨fun h => absurd h (by decide), fun _ => ?_⟩; conv => whnf)
    | (refine ⟨fun _ => ?_, fun h => absurd h (by decide)⟩; conv => whnf)
    | (refine .once ?_; conv => whnf)
    | (refine ⟨by decide, ?_⟩; conv => whnf)
    )
  refine ⟨areBytes_of (by kernel_rfl), ?_⟩
  conv => whnf
  kernel_rfl
end Go.Proofs.YtjeofhjlmhljhaaDoor
