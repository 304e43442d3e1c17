/-
  lives of the laws of the cache is true. No conditions.
-/
import Derived.Test.YtdphkaiijlekhaaThing
import Derived.Test.YtdphkaiijlekhaaEgD
namespace Go.Proofs.Ytdphkaiijlekhaa
open Go Go.Eng
theorem cacheIN_ok : INok Try.prog (lookI [(12, Try.f12, 1), (52, Try.f52, 1), (54, Try.f54, 1), (14, Try.f14, 4), (53, Try.f53, 4), (106, Try.f106, 2), (107, Try.f107, 2), (108, Try.f108, 1), (57, Try.f57, 2), (16, Try.f16, 5), (15, Try.f15, 6), (17, Try.f17, 1), (50, Try.f50, 1), (51, Try.f51, 2), (105, Try.f105, 1), (154, Try.f154, 2), (58, Try.f58, 1), (109, Try.f109, 1)]) := (INok_cons (INok_cons (INok_cons (INok_cons (INok_cons (INok_cons (INok_cons (INok_cons (INok_cons (INok_cons (INok_cons (INok_cons (INok_cons (INok_cons (INok_cons (INok_cons (INok_cons (INok_cons INok_nil Try.func109 (by kernel_rfl) (by kernel_rfl)) Try.func58 (by kernel_rfl) (by kernel_rfl)) Try.func154 (by kernel_rfl) (by kernel_rfl)) Try.func105 (by kernel_rfl) (by kernel_rfl)) Try.func51 (by kernel_rfl) (by kernel_rfl)) Try.func50 (by kernel_rfl) (by kernel_rfl)) Try.func17 (by kernel_rfl) (by kernel_rfl)) Try.func15 (by kernel_rfl) (by kernel_rfl)) Try.func16 (by kernel_rfl) (by kernel_rfl)) Try.func57 (by kernel_rfl) (by kernel_rfl)) Try.func108 (by kernel_rfl) (by kernel_rfl)) Try.func107 (by kernel_rfl) (by kernel_rfl)) Try.func106 (by kernel_rfl) (by kernel_rfl)) Try.func53 (by kernel_rfl) (by kernel_rfl)) Try.func14 (by kernel_rfl) (by kernel_rfl)) Try.func54 (by kernel_rfl) (by kernel_rfl)) Try.func52 (by kernel_rfl) (by kernel_rfl)) Try.func12 (by kernel_rfl) (by kernel_rfl))
theorem agg_row {P : Program} {g : FuncId} {a0 a1 a2 : DV} {b : Bool} {n sz : Nat} {f1 f2 : Nat → List DV} {r : SV} (h : FnOk P g [.agg [.d a0, .d a1, .d a2, .d (.sl b n sz f1)]] r) (hf : ∀ i, i < n → f2 i = f1 i) : FnOk P g [.agg [.d a0, .d a1, .d a2, .d (.sl b n sz f2)]] r :=
  ⟨h.1, fun M w vs hM hl hd => h.2 M w vs hM hl (fun j s u hs hu => by
    match j, hs with
    | 0, hs =>
      simp only [List.getElem?_cons_zero, Option.some.injEq] at hs
      subst hs
      have := hd 0 _ u rfl hu
      cases this with
      | agg _ xs h1 h2 h3 =>
        refine .agg _ xs h1 (fun j s u hs hu => ?_) h3
        match j, hs with
        | 0, hs => exact h2 0 s u hs hu
        | 1, hs => exact h2 1 s u hs hu
        | 2, hs => exact h2 2 s u hs hu
        | 3, hs =>
          simp only [List.getElem?_cons_succ, List.getElem?_cons_zero, Option.some.injEq] at hs
          subst hs
          exact .d ((den_data (h2 3 _ u rfl hu)).congr hf)
        | j + 4, hs => simp at hs
    | j + 1, hs => simp at hs)⟩
set_option maxRecDepth 100000
theorem livesCheck : FnOk Try.prog 28 [.agg [.d (.str [1, 97, 0]), .d (.int .u16 1), .d (.int .u32 10), .d (.sl false 1 1 (chunk [.str [97, 98, 99, 100]] 1))]] (.d (.int .i64 0)) := by
  have h := scheck_ok [1, 97, 0] 1 10 false [[97, 98, 99, 100]]
  rw [show scheck [1, 97, 0] 1 10 [[97, 98, 99, 100]] = true by decide] at h
  exact agg_row h (fun i hi => by have : i = 0 := by omega
                                  subst this; rfl)
set_option maxHeartbeats 4000000 in
theorem copied_nil (nm : List UInt8) (ty ttl : Int) (rk : Int) (x y : DV) (til : Int) : FnOk Try.prog 58 [.agg [.d (.str nm), .d (.int .u16 ty), .d (.int .u32 ttl), nilS, .d (.int .u8 rk), .d x, .d y, .d (.int .i64 til)]] (.agg [.d (.str nm), .d (.int .u16 ty), .d (.int .u32 ttl), nilS, .d (.int .u8 rk), .d x, .d y, .d (.int .i64 til)]) := by
  refine fnOk_of_run (TT := TT) (IN := lookI [(109, Try.f109, 1)]) TT_ok (INok_cons INok_nil Try.func109 (by kernel_rfl) (by kernel_rfl)) mixed 1000 Try.func58 rfl (enters Try.func58 (by kernel_rfl) rfl) rfl 11 (by kernel_rfl) ?_
  conv => whnf
  refine brT rfl ?_
  conv => whnf
  repeat' (first | exact True.intro | exact rfl | exact DEq_refl _ | exact Or.inr rfl | exact fun _ _ => rfl | refine And.intro ?_ ?_)
set_option maxHeartbeats 8000000 in
theorem lives_ok : FnOk Try.prog 11 [] (.d .tt) := by
  refine fnOk_of_run (TT := TT) (IN := lookI [(12, Try.f12, 1), (52, Try.f52, 1), (54, Try.f54, 1), (14, Try.f14, 4), (53, Try.f53, 4), (106, Try.f106, 2), (107, Try.f107, 2), (108, Try.f108, 1), (57, Try.f57, 2), (16, Try.f16, 5), (15, Try.f15, 6), (17, Try.f17, 1), (50, Try.f50, 1), (51, Try.f51, 2), (105, Try.f105, 1), (154, Try.f154, 2), (58, Try.f58, 1), (109, Try.f109, 1)]) TT_ok cacheIN_ok mixed 6000 Try.func11 rfl (enters Try.func11 (by kernel_rfl) rfl) rfl 139 (by kernel_rfl) ?_
  conv => whnf
  repeat first | (refine ⟨fun h => absurd h (by decide), fun _ => ?_⟩; conv => whnf) | (refine ⟨fun _ => ?_, fun h => absurd h (by decide)⟩; conv => whnf) | (refine .once ?_; conv => whnf) | (refine .one (.data _ (placeOf_ok _ _ (by decide)) rfl rfl ?_); conv => whnf) | (refine .data _ (placeOf_ok _ _ (by decide)) rfl rfl ?_; conv => whnf) | (refine .one (.data _ (check_ok _) rfl rfl ?_); conv => whnf) | (refine .one (.data _ livesCheck rfl rfl ?_); conv => whnf) | (refine .data _ (lives_gen _ _ _ _ _ _ _ _ _) rfl rfl ?_; conv => whnf) | (refine .one (.data _ (lives_gen _ _ _ _ _ _ _ _ _) rfl rfl ?_); conv => whnf) | (refine .data _ (copied_nil _ _ _ _ _ _ _) rfl rfl ?_; conv => whnf) | (refine .data _ (copied_gen _ _ _ _ _ _ _ _ _ _ (by decide) (by decide)) rfl rfl ?_; conv => whnf) | (refine ⟨by decide, ?_⟩; conv => whnf) | (refine ⟨_, rfl, ?_⟩; conv => whnf)
  refine .still [3] [(4, 33, [.d (.str [1, 97, 0]), .d (.int .u16 1), .d (.int .u32 10), .d (.sl false 1 1 (chunk [.str [97, 98, 99, 100]] 1))]), (5, 33, [.d (.str [1, 97, 0]), .d (.int .u16 1), .d (.int .u32 10), .d (.sl false 1 1 (chunk [.str [97, 98, 99, 100]] 1))])] (.d (.int .i64 0)) _ ⟨⟨_, rfl, ?_, rfl⟩, ⟨_, rfl, ?_, rfl⟩, True.intro⟩ ?_ livesCheck rfl rfl ?_
  · conv => whnf
    exact ⟨rfl, rfl⟩
  · conv => whnf
    exact ⟨rfl, rfl⟩
  · conv => whnf
    exact ⟨rfl, rfl⟩
  conv => whnf
  repeat first | (refine ⟨fun h => absurd h (by decide), fun _ => ?_⟩; conv => whnf) | (refine ⟨fun _ => ?_, fun h => absurd h (by decide)⟩; conv => whnf) | (refine .once ?_; conv => whnf) | (refine .one (.data _ (placeOf_ok _ _ (by decide)) rfl rfl ?_); conv => whnf) | (refine .data _ (placeOf_ok _ _ (by decide)) rfl rfl ?_; conv => whnf) | (refine .one (.data _ (check_ok _) rfl rfl ?_); conv => whnf) | (refine .one (.data _ livesCheck rfl rfl ?_); conv => whnf) | (refine .data _ (lives_gen _ _ _ _ _ _ _ _ _) rfl rfl ?_; conv => whnf) | (refine .one (.data _ (lives_gen _ _ _ _ _ _ _ _ _) rfl rfl ?_); conv => whnf) | (refine .data _ (copied_nil _ _ _ _ _ _ _) rfl rfl ?_; conv => whnf) | (refine .data _ (copied_gen _ _ _ _ _ _ _ _ _ _ (by decide) (by decide)) rfl rfl ?_; conv => whnf) | (refine ⟨by decide, ?_⟩; conv => whnf) | (refine ⟨_, rfl, ?_⟩; conv => whnf)
  kernel_rfl
end Go.Proofs.Ytdphkaiijlekhaa
