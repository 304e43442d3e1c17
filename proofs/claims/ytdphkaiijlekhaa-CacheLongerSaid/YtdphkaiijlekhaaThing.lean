/-
  cache: what is held; the functions that change nothing: lives, placeOf, slices.Clone, copied. Conditions: lengths.
-/
import Derived.Test.YtdphkaiijlekhaaSets
namespace Go.Proofs.Ytdphkaiijlekhaa
open Go Go.Eng
/-- What is held. -/
structure Th where
  nm : List UInt8
  ty : Int
  ttl : Int
  ni : Bool
  ln : Nat
  dg : Nat → List DV
  rk : Int
  no : Bool
  nb : Bool
  til : Int
def Th.cells (x : Th) : List SV := [.d (.str x.nm), .d (.int .u16 x.ty), .d (.int .u32 x.ttl), .d (.sl x.ni x.ln 1 x.dg), .d (.int .u8 x.rk), .d (.bool x.no), .d (.bool x.nb), .d (.int .i64 x.til)]
def Th.V (x : Th) : SV := .agg x.cells
set_option maxRecDepth 100000
set_option maxHeartbeats 4000000 in
theorem lives_gen (a0 a1 a2 a3 a4 a5 a6 : DV) (til now : Int) : FnOk Try.prog 56 [.agg [.d a0, .d a1, .d a2, .d a3, .d a4, .d a5, .d a6, .d (.int .i64 til)], .d (.int .i64 now)] (.d (.bool (decide (now < til)))) := by
  refine fnOk_of_run (TT := TT) (IN := lookI []) TT_ok INok_nil mixed 1000 Try.func56 rfl (enters Try.func56 (by kernel_rfl) rfl) rfl 7 (by kernel_rfl) ?_
  conv => whnf
set_option maxHeartbeats 4000000 in
theorem placeOf_ok (s : List UInt8) (t : Int) (hs : s.length < 9223372036854775808) : FnOk Try.prog 55 [.d (.str s), .d (.int .u16 t)] (.agg [.d (.str (fold s)), .d (.int .u16 t)]) := by
  refine fnOk_of_run (TT := TT) (IN := lookI []) TT_ok INok_nil mixed 1000 Try.func55 rfl (enters Try.func55 (by kernel_rfl) rfl) rfl 7 (by kernel_rfl) ?_
  conv => whnf
  refine .one (.data _ (fold_ok s hs) rfl rfl ?_)
  conv => whnf
  repeat' (first | exact True.intro | exact rfl | refine And.intro ?_ ?_)
set_option maxHeartbeats 4000000 in
theorem clone_ok (b : Bool) (n : Nat) (f : Nat → List DV) (hb : b = true → n = 0) (hl : n ≤ 1099511627776) : FnOk Try.prog 109 [.d (.sl b n 1 f)] (.d (.sl b n 1 f)) := by
  refine fnOk_of_run (TT := TT) (IN := lookI []) TT_ok INok_nil mixed 1000 Try.func109 rfl (enters Try.func109 (by kernel_rfl) rfl) rfl 7 (by kernel_rfl) ?_
  conv => whnf
  refine ⟨fun h => ?_, fun h => ?_⟩
  · have h0 := hb h
    conv => whnf
    refine ⟨h.symm, h0.symm, .inl rfl, fun i hi => absurd hi (by omega)⟩
  · conv => whnf
    refine ⟨by omega, ?_⟩
    conv => whnf
    exact ⟨h.symm, by omega, .inr rfl, fun i _ => by simp [catF]⟩
set_option maxHeartbeats 4000000 in
theorem copied_gen (nm : List UInt8) (ty ttl : Int) (b : Bool) (n : Nat) (f : Nat → List DV) (rk : Int) (x y : DV) (til : Int) (hb : b = true → n = 0) (hl : n ≤ 1099511627776) : FnOk Try.prog 58 [.agg [.d (.str nm), .d (.int .u16 ty), .d (.int .u32 ttl), .d (.sl b n 1 f), .d (.int .u8 rk), .d x, .d y, .d (.int .i64 til)]] (.agg [.d (.str nm), .d (.int .u16 ty), .d (.int .u32 ttl), .d (.sl b n 1 f), .d (.int .u8 rk), .d x, .d y, .d (.int .i64 til)]) := by
  refine fnOk_of_run (TT := TT) (IN := lookI []) TT_ok INok_nil mixed 1000 Try.func58 rfl (enters Try.func58 (by kernel_rfl) rfl) rfl 11 (by kernel_rfl) ?_
  conv => whnf
  refine .one (.data _ (clone_ok b n f hb hl) rfl rfl ?_)
  conv => whnf
  repeat' (first | exact True.intro | exact rfl | exact DEq_refl _ | exact Or.inr rfl | exact fun _ _ => rfl | refine And.intro ?_ ?_)
set_option maxHeartbeats 8000000 in
theorem copied_mem (nm : List UInt8) (t ttl rank til : Int) (a b : DV) (x : List UInt8) : COk Try.prog 58 [.agg [.d (.str nm), .d (.int .u16 t), .d (.int .u32 ttl), .cs 0 0 1 1, .d (.int .u8 rank), .d a, .d b, .d (.int .i64 til)]] [.cells 9 [.d (.str x)]]
    (fun s k => s = .agg [.d (.str nm), .d (.int .u16 t), .d (.int .u32 ttl), .all 1, .d (.int .u8 rank), .d a, .d b, .d (.int .i64 til)] ∧ k = [.cells 9 [.d (.str x)], .row 9 1 1 .no (fun _ => [.str x])]) := by
  refine cOk_of_run (TT := TT) (IN := lookI [(109, Try.f109, 1)]) TT_ok (INok_cons INok_nil Try.func109 (by kernel_rfl) (by kernel_rfl)) mixed 1000 Try.func58 rfl (enters Try.func58 (by kernel_rfl) rfl) 11 (by kernel_rfl) ?_
  conv => whnf
  refine ⟨by decide, ?_⟩
  conv => whnf
  refine ⟨[0, 4], _, _, rfl, rfl, ?_, ?_, rfl, rfl⟩
  · exact rfl
  · refine ⟨⟨rfl, rfl, True.intro⟩, ⟨rfl, rfl, rfl, True.intro, fun i hi => ?_⟩, True.intro⟩
    have : i = 0 := by omega
    subst this
    rfl
end Go.Proofs.Ytdphkaiijlekhaa
