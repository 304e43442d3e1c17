/-
  stats.Of returns the counts of the list, for lists shorter than a million whose ranks fit a byte.
-/
import Derived.Test.YtjeofhjlmhljhaaDoorBase
namespace Go.Proofs.YtjeofhjlmhljhaaDoor
open Go Go.Eng

set_option maxRecDepth 100000
set_option maxHeartbeats 2000000 in
theorem of_ok (now : Int) (nil : Bool) (l : List Held) (hl : l.length < 1000000) (hr : ∀ h ∈ l, 0 ≤ h.rank ∧ h.rank < 256) : FnOk Tryd.prog 5 [.d (.int .i64 now), .d (heldsD nil l)] (.agg (statsOf now l).enc) := by
  refine fnOk_of_run (TT := TT) (IN := lookI []) TT_ok INok_nil mixed 1000 Tryd.func5 rfl (enters Tryd.func5 (by kernel_rfl) rfl) rfl 80 (by kernel_rfl) ?_
  conv => whnf
  refine .inv Nat (fun k => k ≤ l.length) (fun k => [(11, .d (.int .i64 k))]) (fun k => [(1, .cells 27 (statsOf now (l.take k)).enc)]) (fun k => l.length - k) ⟨0, [0, 1], by omega, ?_⟩ ?_
  · conv => whnf
    repeat' (first | exact True.intro | exact rfl | refine And.intro ?_ ?_)
  intro k hk
  conv => whnf
  refine ⟨fun hlt => ?_, fun hge => ?_⟩
  · have hlt' : k < l.length := by simpa using hlt
    have hrk := hr _ (List.getElem_mem hlt')
    have hgd : l.getD k default = l[k] := by simp [List.getD, hlt']
    have hsu := statsOf_succ now l k hlt'
    rw [hgd] at hsu
    conv => whnf
    refine ⟨by simp; omega, ?_⟩
    conv => whnf
    generalize hh : l.getD (Int.toNat (k : Int)) default = h
    have hh' : l[k] = h := by rw [← hgd, ← hh]; rfl
    rw [hh'] at hsu hrk
    have hkk : IntKind.i64.wrap ((k : Int) + 1) = ((k + 1 : Nat) : Int) := by rw [wrap_in _ (by omega)]; omega
    have hwr : IntKind.i64.wrap h.rank = h.rank := wrap_in _ (by omega)
    generalize statsOf now (l.take k) = s at *
    refine ⟨fun hno => ?_, fun hno => ?_⟩
    · conv => whnf
      refine ⟨fun hnm => ?_, fun hnm => ?_⟩
      · conv => whnf
        refine ⟨fun h5 => ?_, fun h5 => ?_⟩
        · have h5' : h.rank < 5 := by rw [hwr] at h5; simpa using h5
          conv => whnf
          refine ⟨⟨hrk.1, h5'⟩, ?_⟩
          conv => whnf
          refine ⟨⟨hrk.1, h5'⟩, ?_⟩
          conv => whnf
          refine ⟨fun hnow => ?_, fun hnow => ?_⟩
          · have hnow' : now < h.till := by simpa using hnow
            conv => whnf
            refine ⟨fun hlv => ?_, fun hlv => ?_⟩
            · have hlv' : s.live = 0 := by simpa using hlv
              conv => whnf
              refine ⟨k + 1, [0, 1], by omega, by show l.length - (k + 1) < l.length - k; omega, ?_⟩
              conv => whnf
              rw [hsu]
              repeat' (first | exact True.intro | exact rfl | refine And.intro ?_ ?_)
              all_goals (refine congrArg SV.d (congrArg (DV.int _) ?_); first | exact hkk | (simp only [Stats.more, hno, hnm]; simp [rk0, rk1, rk2, rk3, rk4, inc, w64, hnow', hlv']))

            · have hlv' : ¬ s.live = 0 := by simpa using hlv
              conv => whnf
              refine ⟨fun hls => ?_, fun hls => ?_⟩
              · have hls' : h.till < s.least := by simpa using hls
                conv => whnf
                refine ⟨k + 1, [0, 1], by omega, by show l.length - (k + 1) < l.length - k; omega, ?_⟩
                conv => whnf
                rw [hsu]
                repeat' (first | exact True.intro | exact rfl | refine And.intro ?_ ?_)
                all_goals (refine congrArg SV.d (congrArg (DV.int _) ?_); first | exact hkk | (simp only [Stats.more, hno, hnm]; simp [rk0, rk1, rk2, rk3, rk4, inc, w64, hnow', hlv', hls']))

              · have hls' : ¬ h.till < s.least := by simpa using hls
                conv => whnf
                refine ⟨k + 1, [0, 1], by omega, by show l.length - (k + 1) < l.length - k; omega, ?_⟩
                conv => whnf
                rw [hsu]
                repeat' (first | exact True.intro | exact rfl | refine And.intro ?_ ?_)
                all_goals (refine congrArg SV.d (congrArg (DV.int _) ?_); first | exact hkk | (simp only [Stats.more, hno, hnm]; simp [rk0, rk1, rk2, rk3, rk4, inc, w64, hnow', hlv', hls']))

          · have hnow' : ¬ now < h.till := by simpa using hnow
            conv => whnf
            refine ⟨k + 1, [0, 1], by omega, by show l.length - (k + 1) < l.length - k; omega, ?_⟩
            conv => whnf
            rw [hsu]
            repeat' (first | exact True.intro | exact rfl | refine And.intro ?_ ?_)
            all_goals (refine congrArg SV.d (congrArg (DV.int _) ?_); first | exact hkk | (simp only [Stats.more, hno, hnm]; simp [rk0, rk1, rk2, rk3, rk4, inc, w64, hnow']))


        · have h5' : 5 ≤ h.rank := by rw [hwr] at h5; simpa using h5
          have n0 : ¬ h.rank = 0 := by omega
          have n1 : ¬ h.rank = 1 := by omega
          have n2 : ¬ h.rank = 2 := by omega
          have n3 : ¬ h.rank = 3 := by omega
          have n4 : ¬ h.rank = 4 := by omega
          conv => whnf
          refine ⟨fun hnow => ?_, fun hnow => ?_⟩
          · have hnow' : now < h.till := by simpa using hnow
            conv => whnf
            refine ⟨fun hlv => ?_, fun hlv => ?_⟩
            · have hlv' : s.live = 0 := by simpa using hlv
              conv => whnf
              refine ⟨k + 1, [0, 1], by omega, by show l.length - (k + 1) < l.length - k; omega, ?_⟩
              conv => whnf
              rw [hsu]
              repeat' (first | exact True.intro | exact rfl | refine And.intro ?_ ?_)
              all_goals (refine congrArg SV.d (congrArg (DV.int _) ?_); first | exact hkk | (simp only [Stats.more, hno, hnm]; simp [n0, n1, n2, n3, n4, inc, w64, hnow', hlv']))

            · have hlv' : ¬ s.live = 0 := by simpa using hlv
              conv => whnf
              refine ⟨fun hls => ?_, fun hls => ?_⟩
              · have hls' : h.till < s.least := by simpa using hls
                conv => whnf
                refine ⟨k + 1, [0, 1], by omega, by show l.length - (k + 1) < l.length - k; omega, ?_⟩
                conv => whnf
                rw [hsu]
                repeat' (first | exact True.intro | exact rfl | refine And.intro ?_ ?_)
                all_goals (refine congrArg SV.d (congrArg (DV.int _) ?_); first | exact hkk | (simp only [Stats.more, hno, hnm]; simp [n0, n1, n2, n3, n4, inc, w64, hnow', hlv', hls']))

              · have hls' : ¬ h.till < s.least := by simpa using hls
                conv => whnf
                refine ⟨k + 1, [0, 1], by omega, by show l.length - (k + 1) < l.length - k; omega, ?_⟩
                conv => whnf
                rw [hsu]
                repeat' (first | exact True.intro | exact rfl | refine And.intro ?_ ?_)
                all_goals (refine congrArg SV.d (congrArg (DV.int _) ?_); first | exact hkk | (simp only [Stats.more, hno, hnm]; simp [n0, n1, n2, n3, n4, inc, w64, hnow', hlv', hls']))

          · have hnow' : ¬ now < h.till := by simpa using hnow
            conv => whnf
            refine ⟨k + 1, [0, 1], by omega, by show l.length - (k + 1) < l.length - k; omega, ?_⟩
            conv => whnf
            rw [hsu]
            repeat' (first | exact True.intro | exact rfl | refine And.intro ?_ ?_)
            all_goals (refine congrArg SV.d (congrArg (DV.int _) ?_); first | exact hkk | (simp only [Stats.more, hno, hnm]; simp [n0, n1, n2, n3, n4, inc, w64, hnow']))



      · conv => whnf
        refine ⟨fun hno2 => ?_, fun hno2 => by rw [hno] at hno2; cases hno2⟩
        conv => whnf
        refine ⟨fun h5 => ?_, fun h5 => ?_⟩
        · have h5' : h.rank < 5 := by rw [hwr] at h5; simpa using h5
          conv => whnf
          refine ⟨⟨hrk.1, h5'⟩, ?_⟩
          conv => whnf
          refine ⟨⟨hrk.1, h5'⟩, ?_⟩
          conv => whnf
          refine ⟨fun hnow => ?_, fun hnow => ?_⟩
          · have hnow' : now < h.till := by simpa using hnow
            conv => whnf
            refine ⟨fun hlv => ?_, fun hlv => ?_⟩
            · have hlv' : s.live = 0 := by simpa using hlv
              conv => whnf
              refine ⟨k + 1, [0, 1], by omega, by show l.length - (k + 1) < l.length - k; omega, ?_⟩
              conv => whnf
              rw [hsu]
              repeat' (first | exact True.intro | exact rfl | refine And.intro ?_ ?_)
              all_goals (refine congrArg SV.d (congrArg (DV.int _) ?_); first | exact hkk | (simp only [Stats.more, hno, hnm]; simp [rk0, rk1, rk2, rk3, rk4, inc, w64, hnow', hlv']))

            · have hlv' : ¬ s.live = 0 := by simpa using hlv
              conv => whnf
              refine ⟨fun hls => ?_, fun hls => ?_⟩
              · have hls' : h.till < s.least := by simpa using hls
                conv => whnf
                refine ⟨k + 1, [0, 1], by omega, by show l.length - (k + 1) < l.length - k; omega, ?_⟩
                conv => whnf
                rw [hsu]
                repeat' (first | exact True.intro | exact rfl | refine And.intro ?_ ?_)
                all_goals (refine congrArg SV.d (congrArg (DV.int _) ?_); first | exact hkk | (simp only [Stats.more, hno, hnm]; simp [rk0, rk1, rk2, rk3, rk4, inc, w64, hnow', hlv', hls']))

              · have hls' : ¬ h.till < s.least := by simpa using hls
                conv => whnf
                refine ⟨k + 1, [0, 1], by omega, by show l.length - (k + 1) < l.length - k; omega, ?_⟩
                conv => whnf
                rw [hsu]
                repeat' (first | exact True.intro | exact rfl | refine And.intro ?_ ?_)
                all_goals (refine congrArg SV.d (congrArg (DV.int _) ?_); first | exact hkk | (simp only [Stats.more, hno, hnm]; simp [rk0, rk1, rk2, rk3, rk4, inc, w64, hnow', hlv', hls']))

          · have hnow' : ¬ now < h.till := by simpa using hnow
            conv => whnf
            refine ⟨k + 1, [0, 1], by omega, by show l.length - (k + 1) < l.length - k; omega, ?_⟩
            conv => whnf
            rw [hsu]
            repeat' (first | exact True.intro | exact rfl | refine And.intro ?_ ?_)
            all_goals (refine congrArg SV.d (congrArg (DV.int _) ?_); first | exact hkk | (simp only [Stats.more, hno, hnm]; simp [rk0, rk1, rk2, rk3, rk4, inc, w64, hnow']))


        · have h5' : 5 ≤ h.rank := by rw [hwr] at h5; simpa using h5
          have n0 : ¬ h.rank = 0 := by omega
          have n1 : ¬ h.rank = 1 := by omega
          have n2 : ¬ h.rank = 2 := by omega
          have n3 : ¬ h.rank = 3 := by omega
          have n4 : ¬ h.rank = 4 := by omega
          conv => whnf
          refine ⟨fun hnow => ?_, fun hnow => ?_⟩
          · have hnow' : now < h.till := by simpa using hnow
            conv => whnf
            refine ⟨fun hlv => ?_, fun hlv => ?_⟩
            · have hlv' : s.live = 0 := by simpa using hlv
              conv => whnf
              refine ⟨k + 1, [0, 1], by omega, by show l.length - (k + 1) < l.length - k; omega, ?_⟩
              conv => whnf
              rw [hsu]
              repeat' (first | exact True.intro | exact rfl | refine And.intro ?_ ?_)
              all_goals (refine congrArg SV.d (congrArg (DV.int _) ?_); first | exact hkk | (simp only [Stats.more, hno, hnm]; simp [n0, n1, n2, n3, n4, inc, w64, hnow', hlv']))

            · have hlv' : ¬ s.live = 0 := by simpa using hlv
              conv => whnf
              refine ⟨fun hls => ?_, fun hls => ?_⟩
              · have hls' : h.till < s.least := by simpa using hls
                conv => whnf
                refine ⟨k + 1, [0, 1], by omega, by show l.length - (k + 1) < l.length - k; omega, ?_⟩
                conv => whnf
                rw [hsu]
                repeat' (first | exact True.intro | exact rfl | refine And.intro ?_ ?_)
                all_goals (refine congrArg SV.d (congrArg (DV.int _) ?_); first | exact hkk | (simp only [Stats.more, hno, hnm]; simp [n0, n1, n2, n3, n4, inc, w64, hnow', hlv', hls']))

              · have hls' : ¬ h.till < s.least := by simpa using hls
                conv => whnf
                refine ⟨k + 1, [0, 1], by omega, by show l.length - (k + 1) < l.length - k; omega, ?_⟩
                conv => whnf
                rw [hsu]
                repeat' (first | exact True.intro | exact rfl | refine And.intro ?_ ?_)
                all_goals (refine congrArg SV.d (congrArg (DV.int _) ?_); first | exact hkk | (simp only [Stats.more, hno, hnm]; simp [n0, n1, n2, n3, n4, inc, w64, hnow', hlv', hls']))

          · have hnow' : ¬ now < h.till := by simpa using hnow
            conv => whnf
            refine ⟨k + 1, [0, 1], by omega, by show l.length - (k + 1) < l.length - k; omega, ?_⟩
            conv => whnf
            rw [hsu]
            repeat' (first | exact True.intro | exact rfl | refine And.intro ?_ ?_)
            all_goals (refine congrArg SV.d (congrArg (DV.int _) ?_); first | exact hkk | (simp only [Stats.more, hno, hnm]; simp [n0, n1, n2, n3, n4, inc, w64, hnow']))



    · conv => whnf
      refine ⟨fun hno2 => (by rw [hno] at hno2; cases hno2), fun hno2 => ?_⟩
      conv => whnf
      refine ⟨fun h5 => ?_, fun h5 => ?_⟩
      · have h5' : h.rank < 5 := by rw [hwr] at h5; simpa using h5
        conv => whnf
        refine ⟨⟨hrk.1, h5'⟩, ?_⟩
        conv => whnf
        refine ⟨⟨hrk.1, h5'⟩, ?_⟩
        conv => whnf
        refine ⟨fun hnow => ?_, fun hnow => ?_⟩
        · have hnow' : now < h.till := by simpa using hnow
          conv => whnf
          refine ⟨fun hlv => ?_, fun hlv => ?_⟩
          · have hlv' : s.live = 0 := by simpa using hlv
            conv => whnf
            refine ⟨k + 1, [0, 1], by omega, by show l.length - (k + 1) < l.length - k; omega, ?_⟩
            conv => whnf
            rw [hsu]
            repeat' (first | exact True.intro | exact rfl | refine And.intro ?_ ?_)
            all_goals (refine congrArg SV.d (congrArg (DV.int _) ?_); first | exact hkk | (simp only [Stats.more, hno]; simp [rk0, rk1, rk2, rk3, rk4, inc, w64, hnow', hlv']))

          · have hlv' : ¬ s.live = 0 := by simpa using hlv
            conv => whnf
            refine ⟨fun hls => ?_, fun hls => ?_⟩
            · have hls' : h.till < s.least := by simpa using hls
              conv => whnf
              refine ⟨k + 1, [0, 1], by omega, by show l.length - (k + 1) < l.length - k; omega, ?_⟩
              conv => whnf
              rw [hsu]
              repeat' (first | exact True.intro | exact rfl | refine And.intro ?_ ?_)
              all_goals (refine congrArg SV.d (congrArg (DV.int _) ?_); first | exact hkk | (simp only [Stats.more, hno]; simp [rk0, rk1, rk2, rk3, rk4, inc, w64, hnow', hlv', hls']))

            · have hls' : ¬ h.till < s.least := by simpa using hls
              conv => whnf
              refine ⟨k + 1, [0, 1], by omega, by show l.length - (k + 1) < l.length - k; omega, ?_⟩
              conv => whnf
              rw [hsu]
              repeat' (first | exact True.intro | exact rfl | refine And.intro ?_ ?_)
              all_goals (refine congrArg SV.d (congrArg (DV.int _) ?_); first | exact hkk | (simp only [Stats.more, hno]; simp [rk0, rk1, rk2, rk3, rk4, inc, w64, hnow', hlv', hls']))

        · have hnow' : ¬ now < h.till := by simpa using hnow
          conv => whnf
          refine ⟨k + 1, [0, 1], by omega, by show l.length - (k + 1) < l.length - k; omega, ?_⟩
          conv => whnf
          rw [hsu]
          repeat' (first | exact True.intro | exact rfl | refine And.intro ?_ ?_)
          all_goals (refine congrArg SV.d (congrArg (DV.int _) ?_); first | exact hkk | (simp only [Stats.more, hno]; simp [rk0, rk1, rk2, rk3, rk4, inc, w64, hnow']))


      · have h5' : 5 ≤ h.rank := by rw [hwr] at h5; simpa using h5
        have n0 : ¬ h.rank = 0 := by omega
        have n1 : ¬ h.rank = 1 := by omega
        have n2 : ¬ h.rank = 2 := by omega
        have n3 : ¬ h.rank = 3 := by omega
        have n4 : ¬ h.rank = 4 := by omega
        conv => whnf
        refine ⟨fun hnow => ?_, fun hnow => ?_⟩
        · have hnow' : now < h.till := by simpa using hnow
          conv => whnf
          refine ⟨fun hlv => ?_, fun hlv => ?_⟩
          · have hlv' : s.live = 0 := by simpa using hlv
            conv => whnf
            refine ⟨k + 1, [0, 1], by omega, by show l.length - (k + 1) < l.length - k; omega, ?_⟩
            conv => whnf
            rw [hsu]
            repeat' (first | exact True.intro | exact rfl | refine And.intro ?_ ?_)
            all_goals (refine congrArg SV.d (congrArg (DV.int _) ?_); first | exact hkk | (simp only [Stats.more, hno]; simp [n0, n1, n2, n3, n4, inc, w64, hnow', hlv']))

          · have hlv' : ¬ s.live = 0 := by simpa using hlv
            conv => whnf
            refine ⟨fun hls => ?_, fun hls => ?_⟩
            · have hls' : h.till < s.least := by simpa using hls
              conv => whnf
              refine ⟨k + 1, [0, 1], by omega, by show l.length - (k + 1) < l.length - k; omega, ?_⟩
              conv => whnf
              rw [hsu]
              repeat' (first | exact True.intro | exact rfl | refine And.intro ?_ ?_)
              all_goals (refine congrArg SV.d (congrArg (DV.int _) ?_); first | exact hkk | (simp only [Stats.more, hno]; simp [n0, n1, n2, n3, n4, inc, w64, hnow', hlv', hls']))

            · have hls' : ¬ h.till < s.least := by simpa using hls
              conv => whnf
              refine ⟨k + 1, [0, 1], by omega, by show l.length - (k + 1) < l.length - k; omega, ?_⟩
              conv => whnf
              rw [hsu]
              repeat' (first | exact True.intro | exact rfl | refine And.intro ?_ ?_)
              all_goals (refine congrArg SV.d (congrArg (DV.int _) ?_); first | exact hkk | (simp only [Stats.more, hno]; simp [n0, n1, n2, n3, n4, inc, w64, hnow', hlv', hls']))

        · have hnow' : ¬ now < h.till := by simpa using hnow
          conv => whnf
          refine ⟨k + 1, [0, 1], by omega, by show l.length - (k + 1) < l.length - k; omega, ?_⟩
          conv => whnf
          rw [hsu]
          repeat' (first | exact True.intro | exact rfl | refine And.intro ?_ ?_)
          all_goals (refine congrArg SV.d (congrArg (DV.int _) ?_); first | exact hkk | (simp only [Stats.more, hno]; simp [n0, n1, n2, n3, n4, inc, w64, hnow']))



  · conv => whnf
    have : k = l.length := by simp at hge; omega
    subst this
    simp [ConvL, Conv, DEq, ii]
end Go.Proofs.YtjeofhjlmhljhaaDoor
