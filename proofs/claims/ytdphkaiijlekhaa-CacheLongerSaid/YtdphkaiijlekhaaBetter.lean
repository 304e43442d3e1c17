/-
  CacheBetter returns true. Conditions: lengths and ranges of numbers, as a reading gives them.
-/
import Derived.Test.YtdphkaiijlekhaaNone
import Derived.Test.YtdphkaiijlekhaaLives
namespace Go.Proofs.Ytdphkaiijlekhaa
open Go Go.Eng
theorem fnd_put {α : Type} (l : List (List UInt8 × Int × α)) (a : List UInt8) (k : Int) (x : α) (b : List UInt8) (t : Int) : fnd (Go.Proofs.Ytdphkaiijlekhaa.put l a k x) b t = if b = a ∧ t = k then some x else fnd l b t := by
  induction l with
  | nil => rfl
  | cons e l ih =>
    simp only [Go.Proofs.Ytdphkaiijlekhaa.put]
    by_cases he : a = e.1 ∧ k = e.2.1
    · rw [if_pos he]
      simp only [fnd, ← he.1, ← he.2]
      split <;> rfl
    · rw [if_neg he]
      simp only [fnd, ih]
      by_cases hb : b = e.1 ∧ t = e.2.1
      · rw [if_pos hb, if_pos hb, if_neg (fun h : b = a ∧ t = k => he ⟨h.1 ▸ hb.1, h.2 ▸ hb.2⟩)]
      · rw [if_neg hb, if_neg hb]
set_option maxRecDepth 100000
set_option maxHeartbeats 8000000 in
theorem better_ok (sn on' : List UInt8) (st ot sttl ottl : Int) (sb ob : Bool) (sl ol : List (List UInt8)) (j k now later : Int) (hsb : sb = true → sl.length = 0) (hob : ob = true → ol.length = 0)
    (hsn : sn.length < 9223372036854775808) (hst : 0 ≤ sttl ∧ sttl ≤ 4294967295) (hot : 0 ≤ ottl ∧ ottl ≤ 4294967295) (hl : 0 ≤ later ∧ later ≤ 65535) (hj : 0 ≤ j ∧ j ≤ 255) (hk : 0 ≤ k ∧ k ≤ 255) :
    FnOk Try.prog 4 [setV sn st sttl sb sl, setV on' ot ottl ob ol, .d (.int .u8 j), .d (.int .u8 k), .d (.int .i64 now), .d (.int .u16 later)] (.d (.bool true)) := by
  refine fnOk_of_run (TT := TT) (IN := lookI []) TT_ok INok_nil mixed 1000 Try.func4 rfl (enters Try.func4 (by kernel_rfl) rfl) rfl 162 (by kernel_rfl) ?_
  conv => whnf
  refine .one (.data _ lives_ok rfl rfl ?_)
  conv => whnf
  refine .rel _ (newp (new_ok 8) _ (fun _ => rfl)) (fun r ks' hR => ?_)
  rcases hR with ⟨h, _⟩ | ⟨_, rfl, c, rfl, hw, hroom, habs⟩
  · exact absurd h (by decide)
  conv => whnf
  refine ⟨fun h => ?_, fun h1 => ?_⟩
  · exact absurd h (by decide)
  conv => whnf
  refine ⟨fun g1 => ?_, fun g1 => ?_⟩
  · conv => whnf
    repeat (first | exact rfl | (refine brT rfl ?_; conv => whnf) | (refine brF rfl ?_; conv => whnf))
  conv => whnf
  refine ⟨fun g2 => ?_, fun g2 => ?_⟩
  · conv => whnf
    repeat (first | exact rfl | (refine brT rfl ?_; conv => whnf) | (refine brF rfl ?_; conv => whnf))
  conv => whnf
  refine ⟨fun g3 => ?_, fun g3 => ?_⟩
  · conv => whnf
    repeat (first | exact rfl | (refine brT rfl ?_; conv => whnf) | (refine brF rfl ?_; conv => whnf))
  conv => whnf
  refine ⟨fun g4 => ?_, fun g4 => ?_⟩
  · conv => whnf
    repeat (first | exact rfl | (refine brT rfl ?_; conv => whnf) | (refine brF rfl ?_; conv => whnf))
  conv => whnf
  have b1 : ¬ (sl.length : Int) > 100 := by simpa using g1
  have b2 : ¬ (ol.length : Int) > 100 := by simpa using g2
  have b3 : ¬ now < 0 := by simpa using g3
  have b4 : ¬ now > 1099511627776 := by simpa using g4
  refine .rel _ (ckp (put_q c hw sn st sttl sb sl j now hsb hst.1) [_, _] [] _ rfl rfl) (fun r ks' hR => ?_)
  obtain ⟨_, c1, ⟨done, rfl, hw1, hr1, hA⟩, rfl, rfl⟩ := hR
  rcases hA with ⟨rfl, ha1, _⟩ | ⟨rfl, hok, hn0, hn1, httl, _, l', hl', habs1⟩
  · conv => whnf
    refine .rel _ (ckp (len_q c1 hw1) [_, _] [] _ rfl rfl) (fun r ks' hR => ?_)
    obtain ⟨_, c2, ⟨rfl, rfl⟩, rfl, rfl⟩ := hR
    rw [ha1, habs]
    conv => whnf
    exact rfl
  conv => whnf
  refine .rel _ (ckp (get_q c1 hw1 sn st j now hsn hn0) [_, _] [] _ rfl rfl) (fun r ks' hR => ?_)
  obtain ⟨_, c2, ⟨rfl, hw2, hr2, ha2⟩, rfl, rfl⟩ := hR
  rw [mapV_get]
  have hmn : 0 < mn sttl 604800 := by
    simp only [mn] at httl ⊢
    split at httl <;> split <;> omega
  have hst0 : st ≠ 0 := by
    simp only [okPut, Bool.and_eq_true, bne_iff_ne] at hok
    exact hok.2.1
  have hl0 : l' = [] := by
    rcases hl' with rfl | ⟨a, t, rfl⟩ <;> rw [habs] <;> rfl
  rw [hl0] at habs1
  generalize hX : (⟨sn, st, sttl, sb, sl.length, strs sl, j, false, false, now + mn sttl 604800⟩ : Th) = X at habs1
  have hXt : X.til = now + mn sttl 604800 := by rw [← hX]
  have hXr : X.rk = j := by rw [← hX]
  have hXn : X.nm = sn := by rw [← hX]
  have hXy : X.ty = st := by rw [← hX]
  have hXo : X.no = false := by rw [← hX]
  have habs1 : c1.abs = [(fold sn, st, X)] := by rw [habs1, hXn, hXy]; rfl
  have hf : ∀ t, fnd c1.abs (fold sn) t = if t = st then some X else none := fun t => by
    rw [habs1]
    simp [fnd]
  have hG1 : getT' c1.abs sn st j now = some X := by
    simp only [getT', pickT, hf, if_true]
    rw [if_pos ⟨by omega, by omega⟩]
  rw [hG1]
  have htt : (if 604800 < X.til - now then 604800 else X.til - now) = mn sttl 604800 := by
    rw [hXt]
    simp only [mn]
    split <;> split <;> omega
  conv => whnf
  refine ⟨fun e => ?_, fun _ => ?_⟩
  · rw [hXr] at e
    simp at e
  conv => whnf
  refine ⟨fun e => ?_, fun _ => ?_⟩
  · rw [hXo] at e
    cases e
  conv => whnf
  refine ⟨fun e => ?_, fun _ => ?_⟩
  · rw [htt] at e
    simp [mn] at e
  conv => whnf
  have hkl : IntKind.i64.wrap later = later := w64_in _ (by omega)
  have hth : IntKind.i64.wrap (now + later) = now + later := w64_in _ (by omega)
  refine ⟨?_, ?_, ?_, ?_⟩
  rotate_left 2
  · conv => whnf
    repeat' (first | exact ⟨rfl, rfl⟩ | exact True.intro | refine And.intro ?_ ?_ | (conv => whnf))
  conv => whnf
  rw [hkl, hth]
  refine .rel _ (ckp (put_q c2 hw2 sn st ottl ob ol k (now + later) hob hot.1) [_, _] [_] _ rfl rfl) (fun r ks' hR => ?_)
  obtain ⟨_, c3, ⟨done, rfl, hw3, hr3, hA⟩, rfl, rfl⟩ := hR
  have hth0 : 0 ≤ now + later := by omega
  have hww : IntKind.i64.wrap (now + IntKind.i64.wrap (if 604800 < X.til - now then 604800 else X.til - now)) = X.til := by
    have : mn sttl 604800 ≤ 604800 := by simp only [mn]; split <;> omega
    rw [htt, w64_in (mn sttl 604800) (by omega), w64_in _ (by omega), hXt]
  have hf2 : ∀ t, fnd c2.abs (fold sn) t = if t = st then some X else none := fun t => by rw [ha2, hf]
  rcases hA with ⟨rfl, ha3, _⟩ | ⟨rfl, hok3, _, _, httl3, hno3, l3, hl3, ha3⟩
  · conv => whnf
    refine .rel _ (ckp (get_q c3 hw3 sn st 0 (now + later) hsn hth0) [_, _] [_] _ rfl rfl) (fun r ks' hR => ?_)
    obtain ⟨_, c4, ⟨rfl, hw4, hr4, ha4⟩, rfl, rfl⟩ := hR
    rw [mapV_get]
    have hG2 : getT' c3.abs sn st 0 (now + later) = if now + later < X.til then some X else none := by
      simp only [getT', pickT, ha3, hf2, if_true]
      rw [if_neg (Ne.symm hst0)]
      by_cases hlt : now + later < X.til
      · rw [if_pos ⟨hlt, by omega⟩, if_pos hlt]
      · rw [if_neg (fun e => hlt e.1), if_neg hlt]
    by_cases hlt : now + later < X.til
    · rw [hG2, if_pos hlt]
      conv => whnf
      refine brT (by rw [hww]; simp [hlt]) ?_
      conv => whnf
      exact congrArg DV.bool (by rw [hXr]; exact beq_self_eq_true j)
    · rw [hG2, if_neg hlt]
      conv => whnf
      refine brT (by rw [hww]; simp [hlt]) ?_
      conv => whnf
  · conv => whnf
    refine .rel _ (ckp (get_q c3 hw3 sn st 0 (now + later) hsn hth0) [_, _] [_] _ rfl rfl) (fun r ks' hR => ?_)
    obtain ⟨_, c4, ⟨rfl, hw4, hr4, ha4⟩, rfl, rfl⟩ := hR
    rw [mapV_get]
    generalize hY : (⟨sn, st, ottl, ob, ol.length, strs ol, k, false, false, now + later + mn ottl 604800⟩ : Th) = Y at ha3 hno3
    have hYt : Y.til = now + later + mn ottl 604800 := by rw [← hY]
    have hYr : Y.rk = k := by rw [← hY]
    have hYn : Y.nm = sn := by rw [← hY]
    have hYy : Y.ty = st := by rw [← hY]
    have hmo : 0 < mn ottl 604800 := by
      simp only [mn] at httl3 ⊢
      split at httl3 <;> split <;> omega
    have hG2 : getT' c3.abs sn st 0 (now + later) = some Y := by
      simp only [getT', pickT, ha3, fnd_put, hYn, hYy, and_self, if_true]
      rw [if_pos ⟨by omega, by omega⟩]
    rw [hG2]
    have hn3 : ¬ (now + later < X.til ∧ k < j) := by
      have := hno3 X (by rw [hYn, hYy, hf2, if_pos rfl])
      rwa [hYr, hXr] at this
    conv => whnf
    refine brT (by rw [hYr]; exact beq_self_eq_true k) ?_
    conv => whnf
    refine ⟨fun _ => ?_, fun e => ?_⟩
    · conv => whnf
    · conv => whnf
      have e1 : ¬ k ≥ j := by simpa using e
      exact congrArg DV.bool (by rw [hww]; simp; omega)
end Go.Proofs.Ytdphkaiijlekhaa
