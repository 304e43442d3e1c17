/-
  sets.build's comparisons. No conditions. sets.build. Conditions: there is a record, and there are fewer than 2 to the 60. sets.right, slices.Collect of it. Conditions: fewer than 100000 records. sets.Find. Conditions: fewer than 100000 records, of names shorter than that. Records in groups of one place. Plain lemmas. sets.Of. Conditions: fewer than 100000 records, of names shorter than that. slices.Equal of texts, hardtackref02.SameTexts, sets.Same, hardtackref13.Same, SameList, sets.Records, label.Same, sets.Says. Conditions: lengths. label.Same, sets.Says. No conditions.
-/
import Derived.Test.YtdphkaiijlekhaaS1
import Derived.Test.YtdphkaiijlekhaaB1
import Derived.Test.YtdphkaiijlekhaaM4
set_option linter.unusedVariables false
set_option linter.unusedSimpArgs false
namespace Go.Proofs.Ytdphkaiijlekhaa
open Go Go.Eng
theorem COk.frameX {P : Program} {f : FuncId} {as0 : List SV} {ks0 : List KB} {R0 : SV → List KB → Prop} (h : COk P f as0 ks0 R0) (is : List Nat) {al : List SV} {ks : List KB}
    (hok : okN (lenB ks) is = true) (ha : mapL (sig is (lenB ks)) as0 = al) (hk : getBs ks is = mapB (sig is (lenB ks)) ks0) : COk P f al ks (fun s k => ∃ s0 k0, R0 s0 k0 ∧ s = mapV (sig is (lenB ks)) s0 ∧ k = putBs ks is (mapB (sig is (lenB ks)) k0)) :=
  COk.frame h is hok ha hk (fun s0 k0 h => ⟨s0, k0, h, rfl, rfl⟩)
theorem strcmp_ok (a b : List UInt8) : FnOk Try.prog 113 [.d (.str a), .d (.str b)] (.d (.int .i64 (Lib.compareBytes a b))) := by
  refine ⟨enters Try.func113 (by kernel_rfl) rfl, fun M w vs hM hl hd => ?_⟩
  match vs, hl with
  | [v0, v1], _ =>
    have h0 := den_str (hd 0 _ v0 rfl rfl)
    have h1 := den_str (hd 1 _ v1 rfl rfl)
    subst h0 h1
    refine (Try.strings_Compare ⟨a.toArray⟩ ⟨b.toArray⟩ w).mono ?_
    rintro e w' ⟨rfl, rfl⟩
    exact ⟨_, rfl, Step.refl _ _, .d (by simpa using Rd.int _ _)⟩
def fT (fl : List (List UInt8)) (i : Nat) : List UInt8 := fl[i]?.getD []
set_option maxRecDepth 100000
set_option maxHeartbeats 4000000 in
theorem cmp1_ok (fl : List (List UInt8)) (z zf : Z) : CmpOk 112 (fun x y => Lib.compareBytes (fT fl x) (fT fl y)) fl.length z fl.length zf (strs fl) := by
  intro q x y hx hy
  refine cOk_of_run (TT := TT) (IN := lookI []) TT_ok INok_nil mixed 1000 Try.func112 rfl (enters Try.func112 (by kernel_rfl) rfl) 12 (by kernel_rfl) ?_
  conv => whnf
  refine ⟨by omega, ?_⟩
  conv => whnf
  refine ⟨by omega, ?_⟩
  conv => whnf
  rw [Int.toNat_natCast, Int.toNat_natCast]
  refine .data _ (strcmp_ok _ _) rfl rfl ?_
  conv => whnf
  refine ⟨[0, 1, 2], _, _, rfl, rfl, ?_, ?_, rfl, rfl⟩
  · exact rfl
  · conv => whnf
    repeat' (first | exact True.intro | exact rfl | exact subZ_self _ | exact Or.inr rfl | exact fun _ _ => rfl | exact fun _ h => absurd h (Nat.not_lt_zero _) | refine And.intro ?_ ?_)
set_option maxHeartbeats 4000000 in
theorem cmp2_ok (fl : List (List UInt8)) (z zf : Z) : EqOk 116 (fT fl) fl.length z fl.length zf (strs fl) := by
  intro q x y hx hy
  refine cOk_of_run (TT := TT) (IN := lookI [(112, Try.f112, 3)]) TT_ok (INok_cons INok_nil Try.func112 (by kernel_rfl) (by kernel_rfl)) mixed 1000 Try.func116 rfl (enters Try.func116 (by kernel_rfl) rfl) 8 (by kernel_rfl) ?_
  conv => whnf
  refine ⟨by omega, ?_⟩
  conv => whnf
  refine ⟨by omega, ?_⟩
  conv => whnf
  rw [Int.toNat_natCast, Int.toNat_natCast]
  refine .data _ (strcmp_ok _ _) rfl rfl ?_
  conv => whnf
  rw [show (Lib.compareBytes (fl[x]?.getD []) (fl[y]?.getD []) == 0) = decide (fT fl x = fT fl y) by
    unfold fT
    rw [Bool.eq_iff_iff, beq_iff_eq, decide_eq_true_iff]
    exact cmp_eq0 _ _]
  refine ⟨[0, 1, 2, 3], _, _, rfl, rfl, ?_, ?_, rfl, rfl⟩
  · exact rfl
  · conv => whnf
    repeat' (first | exact True.intro | exact rfl | exact subZ_self _ | exact Or.inr rfl | exact fun _ _ => rfl | exact fun _ h => absurd h (Nat.not_lt_zero _) | refine And.intro ?_ ?_)
end Go.Proofs.Ytdphkaiijlekhaa
namespace Go.Proofs.Ytdphkaiijlekhaa
open Go Go.Eng
def minOf (a : Int) (l : List RR) : Int := l.foldl (fun a r => if r.ttl < a then r.ttl else a) a
def buildD (t : Int) (l : List RR) : List (List UInt8) := (firstsOf (rfold t) (l.map (·.d))).take 64
def datOf (l : List RR) (K : List Nat) : List (List UInt8) := K.map fun i => (l.getD i default).d
def foldsOf (t : Int) (l : List RR) : List (List UInt8) := l.map fun r => rfold t r.d
theorem kept_congr {F G : Nat → List UInt8} {p : Nat → Nat} : ∀ n, (∀ i, i < n → F (p i) = G (p i)) → kept F p n = kept G p n
  | 0 => fun _ => rfl
  | n + 1 => fun h => by
    unfold kept
    rw [kept_congr n (fun i hi => h i (by omega)), h n (by omega), h (n - 1) (by omega)]
theorem build_law {t : Int} {l : List RR} {p : Nat → Nat} (hp : Inj l.length p) (hr : Rise (LL (ltF (fT (foldsOf t l)))) p 0 l.length) : datOf l (kept (fT (foldsOf t l)) p l.length) = firstsOf (rfold t) (l.map (·.d)) := by
  have hF : ∀ i, i < l.length → fT (foldsOf t l) i = rfold t ((l.map (·.d))[i]?.getD []) := fun i hi => by
    simp [fT, foldsOf, List.getElem?_map, List.getElem?_eq_getElem hi]
  have hxl : (l.map (·.d)).length = l.length := by simp
  have h1 := kept_firsts (F := rfold t) (xs := l.map (·.d)) (p := p) (hxl ▸ hp) (by
    rw [hxl]
    intro i j hi hij hj
    have := hr i j hi hij hj
    unfold LL ltF at this ⊢
    rw [hF _ (hp.lt i (by omega)), hF _ (hp.lt j hj)] at this
    exact this)
  have h2 := firsts_of (rfold t) (l.map (·.d))
  rw [h1.uniq h2 |>.symm]
  rw [hxl, ← kept_congr (F := fT (foldsOf t l)) (G := fun i => rfold t ((l.map (·.d))[i]?.getD [])) l.length (fun i hi => hF _ (hp.lt i hi))]
  unfold datOf
  apply List.map_congr_left
  intro a ha
  obtain ⟨i, hi, e, _⟩ := (kept_spec hp hr l.length (Nat.le_refl _)).2.1 a ha
  have := hp.lt i hi
  rw [e]
  simp [List.getD, List.getElem?_map, List.getElem?_eq_getElem this]
theorem datOf_next {l : List RR} {K : List Nat} {j : Nat} (h : j < K.length) : datOf l (K.take (j + 1)) = datOf l (K.take j) ++ [(l.getD (K.getD j 0) default).d] := by
  have e : K.take (j + 1) = K.take j ++ [K.getD j 0] := by
    rw [List.take_add_one, List.getD, List.getElem?_eq_getElem h]; rfl
  rw [e]
  unfold datOf
  rw [List.map_append]; rfl
set_option maxRecDepth 100000
set_option maxHeartbeats 8000000 in
theorem build_ok (nm : List UInt8) (t : Int) (z : Bool) (l : List RR) (h0 : 0 < l.length) (hn : l.length ≤ 100000) : FnOk Try.prog 64 [.d (.str nm), .d (.int .u16 t), .d (rrsD z l)] (setV nm t (minOf (l.getD 0 default).ttl l) false (buildD t l)) := by
  refine fnOk_of_run (TT := TT) (IN := lookI []) TT_ok INok_nil mixed 1000 Try.func64 rfl (enters Try.func64 (by kernel_rfl) rfl) rfl 79 (by kernel_rfl) ?_
  conv => whnf
  refine ⟨by omega, ?_⟩
  conv => whnf
  refine ⟨⟨by omega, by omega, by show (l.length : Int) * 16 ≤ _; omega, by omega⟩, ?_⟩
  conv => whnf
  refine ⟨⟨by omega, by omega, by show (l.length : Int) * 8 ≤ _; omega, by omega⟩, ?_⟩
  conv => whnf
  refine .inv Nat (fun i => i ≤ l.length) (fun i => [(30, iV i), (9, .all 4), (24, .any), (27, .any)]) (fun i => [(1, .cells 33 [.d (.str nm), .d (.int .u16 t), .d (.int .u32 (minOf (l.getD 0 default).ttl (l.take i))), nilS]), (2, .row 9 1 i .no (strs (foldsOf t (l.take i)))), (4, rowP i .no id)]) (fun i => l.length - i) ⟨0, [0, 1, 2, 3, 4], Nat.zero_le _, ?_⟩ ?_
  · conv => whnf
    repeat' (first | exact True.intro | exact rfl | exact subZ_self _ | exact Or.inr rfl | exact fun _ _ => rfl | exact fun _ h => absurd h (Nat.not_lt_zero _) | refine And.intro ?_ ?_)
  intro i hi
  conv => whnf
  refine ⟨fun h1 => ?_, fun h1 => ?_⟩
  · have h1 : i < l.length := by have h : (i : Int) < l.length := of_decide_eq_true h1
                                 omega
    obtain ⟨r, hr⟩ : ∃ r, l.getD i default = r := ⟨_, rfl⟩
    conv => whnf
    refine ⟨by omega, ?_⟩
    conv => whnf
    refine .data _ (rfold_ok t _) rfl rfl ?_
    conv => whnf
    refine ⟨by omega, ?_⟩
    conv => whnf
    refine ⟨by omega, ?_⟩
    conv => whnf
    rw [show IntKind.i64.wrap ((i : Int) + 1) = ((i + 1 : Nat) : Int) by rw [w64_in _ (by omega)]; omega]
    rw [Int.toNat_natCast, hr]
    refine ⟨i + 1, [0, 1, 7, 3, 9], h1, by omega, ?_⟩
    have htk : l.take (i + 1) = l.take i ++ [r] := by rw [List.take_add_one, ← hr, List.getD, List.getElem?_eq_getElem h1]; rfl
    have hmin : minOf (l.getD 0 default).ttl (l.take (i + 1)) = (if r.ttl < minOf (l.getD 0 default).ttl (l.take i) then r.ttl else minOf (l.getD 0 default).ttl (l.take i)) := by
      rw [htk]; unfold minOf; rw [List.foldl_append]; rfl
    have hfo : foldsOf t (l.take (i + 1)) = foldsOf t (l.take i) ++ [rfold t r.d] := by rw [htk]; simp [foldsOf]
    have hfl : (foldsOf t (l.take i)).length = i := by simp [foldsOf]; omega
    rw [hmin, hfo]
    conv => whnf
    repeat' (first | exact True.intro | exact rfl | exact subZ_self _ | exact Or.inr rfl | exact fun _ _ => rfl | exact fun _ h => absurd h (Nat.not_lt_zero _) | refine And.intro ?_ ?_)
    · intro x hx
      have := strs_cat (foldsOf t (l.take i)) (rfold t r.d) (chunk [DV.str (rfold t r.d)] 1) rfl x (by omega)
      rw [hfl] at this
      exact this
    · intro x hx
      show catF i (fun i => cel i) _ x = cel x
      unfold catF
      by_cases hxi : x < i
      · rw [if_pos hxi]
      · have : x = i := by omega
        subst this
        rw [if_neg hxi, Nat.sub_self]; rfl
  · have h1 : i = l.length := by have h : ¬ (i : Int) < l.length := of_decide_eq_false h1
                                 omega
    subst h1
    rw [List.take_length]
    have hfl : (foldsOf t l).length = l.length := by simp [foldsOf]
    have hw := ltF_weak l.length (fT (foldsOf t l))
    have hlt : ltC (fun x y => Lib.compareBytes (fT (foldsOf t l) x) (fT (foldsOf t l) y)) = ltF (fT (foldsOf t l)) := by
      funext x y
      unfold ltC ltF
      rw [Bool.eq_iff_iff, decide_eq_true_iff]
      exact cmp_lt _ _
    have hc1 := cmp1_ok (foldsOf t l) .no .no
    have hc2 := cmp2_ok (foldsOf t l) .no .no
    rw [hfl] at hc1 hc2
    have hsort := sort_ok l.length (by omega) .no _ _ _ _ _ hc1 (by rw [hlt]; exact hw)
    rw [hlt] at hsort
    conv => whnf
    refine .rel _ (COk.frameX hsort [4, 3, 2] rfl rfl rfl) (fun r ks' hR => ?_)
    obtain ⟨_, _, ⟨rfl, p, hp, hrise, rfl⟩, rfl, hk0⟩ := hR
    have hk : ks' = [.cells 33 [.d (.str []), .d (.int .u16 0), .d (.int .u32 0), nilS], .cells 33 [.d (.str nm), .d (.int .u16 t), .d (.int .u32 (minOf (l.getD 0 default).ttl l)), nilS], .row 9 1 l.length .no (strs (foldsOf t l)), .cells 31 [.all 2], rowP l.length .no p, .cells 184 [.fn 112 [.ptr 3 0]]] := hk0
    clear hk0
    subst hk
    conv => whnf
    refine .rel _ (COk.frameX (compact_ok l.length (by omega) .no _ _ _ _ _ hc2 p hp) [4, 5, 3, 2] rfl rfl rfl) (fun r ks' hR => ?_)
    obtain ⟨_, _, ⟨hres, q, hq, rfl⟩, hr, hk0⟩ := hR
    have hk : ks' = [.cells 33 [.d (.str []), .d (.int .u16 0), .d (.int .u32 0), nilS], .cells 33 [.d (.str nm), .d (.int .u16 t), .d (.int .u32 (minOf (l.getD 0 default).ttl l)), nilS], .row 9 1 l.length .no (strs (foldsOf t l)), .cells 31 [.all 2], rowP l.length .no q, .cells 184 [.fn 112 [.ptr 3 0]]] := hk0
    clear hk0
    subst hk
    have hkl := kept_le (fT (foldsOf t l)) p l.length
    have hKlt : ∀ j, j < (kept (fT (foldsOf t l)) p l.length).length → (kept (fT (foldsOf t l)) p l.length).getD j 0 < l.length := fun j hj => by
      have hs := (kept_spec hp hrise l.length (Nat.le_refl _)).2.1 _ (List.getElem_mem hj)
      obtain ⟨i, hi, e, _⟩ := hs
      rw [List.getD, List.getElem?_eq_getElem hj]
      show (kept (fT (foldsOf t l)) p l.length)[j] < l.length
      rw [e]
      exact hp.lt i hi
    have hlaw := build_law hp hrise
    have hpos := kept_pos (fT (foldsOf t l)) p l.length h0
    generalize hK : kept (fT (foldsOf t l)) p l.length = K at hres hq hkl hKlt hlaw hpos
    have hlaw2 : datOf l (K.take 64) = buildD t l := by unfold buildD; rw [← hlaw]; unfold datOf; rw [List.map_take]
    have hr2 : (r = .all 4 ∧ K.length = l.length) ∨ r = .row 4 0 K.length := by
      rcases hres with ⟨e, h⟩ | e
      · subst e; exact .inl ⟨hr, h⟩
      · subst e; exact .inr hr
    clear hr hres hc1 hc2 hsort
    rcases hr2 with ⟨rfl, hres⟩ | rfl
    · conv => whnf
      have em : (if (64 : Int) < (l.length : Int) then (64 : Int) else (l.length : Int)) = ((min K.length 64 : Nat) : Int) := by split <;> omega
      rw [em]
      refine ⟨by omega, ?_⟩
      conv => whnf
      refine .nilC 1 3 9 1 (strs []) _ _ _ _ rfl rfl ?_
      conv => whnf
      refine .inv Nat (fun j => j ≤ min K.length 64) (fun j => [(66, iV j)]) (fun j => [(1, .cells 33 [.d (.str nm), .d (.int .u16 t), .d (.int .u32 (minOf (l.getD 0 default).ttl l)), .all 6]), (6, .row 9 1 j .iff (strs (datOf l (K.take j))))]) (fun j => min K.length 64 - j) ⟨0, [0, 1, 2, 3, 4, 5, 6], Nat.zero_le _, ?_⟩ ?_
      · conv => whnf
        repeat' (first | exact True.intro | exact rfl | exact subZ_self _ | exact Or.inr rfl | exact fun _ _ => rfl | exact fun _ h => absurd h (Nat.not_lt_zero _) | refine And.intro ?_ ?_)
      intro j hj
      conv => whnf
      refine ⟨fun h1 => ?_, fun h1 => ?_⟩
      · have h1 : j < min K.length 64 := by have h : (j : Int) < ((min K.length 64 : Nat) : Int) := of_decide_eq_true h1
                                            omega
        have hqj := hq j (by omega)
        have hlt := hKlt j (by omega)
        rw [← hqj] at hlt
        conv => whnf
        refine ⟨by omega, ?_⟩
        conv => whnf
        first
          | rw [show 0 + Int.toNat 0 + (j : Int).toNat = j by simp]
          | rw [show Int.toNat 0 + (j : Int).toNat = j by simp]
        generalize q j = v at hlt hqj ⊢
        refine ⟨by omega, ?_⟩
        conv => whnf
        refine ⟨by omega, ?_⟩
        conv => whnf
        rw [show IntKind.i64.wrap ((j : Int) + 1) = ((j + 1 : Nat) : Int) by rw [w64_in _ (by omega)]; omega]
        rw [Int.toNat_natCast, hqj]
        have hdt := datOf_next (l := l) (K := K) (j := j) (by omega)
        have hdl : (datOf l (K.take j)).length = j := by unfold datOf; simp; omega
        refine ⟨j + 1, [0, 1, 2, 3, 4, 5, 8], h1, by omega, ?_⟩
        rw [hdt]
        conv => whnf
        repeat' (first | exact True.intro | exact rfl | exact subZ_self _ | exact Or.inr rfl | exact fun _ _ => rfl | exact fun _ h => absurd h (Nat.not_lt_zero _) | refine And.intro ?_ ?_)
        intro x hx
        have := strs_cat (datOf l (K.take j)) ((l.getD (K.getD j 0) default).d) (chunk [DV.str (l.getD (K.getD j 0) default).d] 1) rfl x (by omega)
        rw [hdl] at this
        exact this
      · have h1 : j = min K.length 64 := by have h : ¬ (j : Int) < ((min K.length 64 : Nat) : Int) := of_decide_eq_false h1
                                            omega
        have htk : K.take j = K.take 64 := by
          rw [h1]
          rcases Nat.le_total K.length 64 with x | x
          · rw [Nat.min_eq_left x, List.take_length, List.take_of_length_le x]
          · rw [Nat.min_eq_right x]
        rw [htk, hlaw2]
        have hbl : (buildD t l).length = j := by rw [← hlaw2]; unfold datOf; simp; omega
        have hj0 : 0 < j := by omega
        rw [← hbl] at hj0 ⊢
        conv => whnf
        repeat' (first | exact True.intro | exact rfl | exact ⟨rfl, rfl, .inr rfl, fun _ _ => rfl⟩ | exact ⟨rfl, rfl, .inl rfl, fun i hi => absurd hi (Nat.not_lt_zero _)⟩ | refine And.intro ?_ ?_)
        · generalize (buildD t l).length = k at hj0
          cases k with
          | zero => omega
          | succ k => rfl
        · exact .inr rfl
        · exact fun _ _ => rfl
    · conv => whnf
      have em : (if (64 : Int) < (K.length : Int) then (64 : Int) else (K.length : Int)) = ((min K.length 64 : Nat) : Int) := by split <;> omega
      rw [em]
      refine ⟨by omega, ?_⟩
      conv => whnf
      refine .nilC 1 3 9 1 (strs []) _ _ _ _ rfl rfl ?_
      conv => whnf
      refine .inv Nat (fun j => j ≤ min K.length 64) (fun j => [(66, iV j)]) (fun j => [(1, .cells 33 [.d (.str nm), .d (.int .u16 t), .d (.int .u32 (minOf (l.getD 0 default).ttl l)), .all 6]), (6, .row 9 1 j .iff (strs (datOf l (K.take j))))]) (fun j => min K.length 64 - j) ⟨0, [0, 1, 2, 3, 4, 5, 6], Nat.zero_le _, ?_⟩ ?_
      · conv => whnf
        repeat' (first | exact True.intro | exact rfl | exact subZ_self _ | exact Or.inr rfl | exact fun _ _ => rfl | exact fun _ h => absurd h (Nat.not_lt_zero _) | refine And.intro ?_ ?_)
      intro j hj
      conv => whnf
      refine ⟨fun h1 => ?_, fun h1 => ?_⟩
      · have h1 : j < min K.length 64 := by have h : (j : Int) < ((min K.length 64 : Nat) : Int) := of_decide_eq_true h1
                                            omega
        have hqj := hq j (by omega)
        have hlt := hKlt j (by omega)
        rw [← hqj] at hlt
        conv => whnf
        refine ⟨by omega, ?_⟩
        conv => whnf
        first
          | rw [show 0 + Int.toNat 0 + (j : Int).toNat = j by simp]
          | rw [show Int.toNat 0 + (j : Int).toNat = j by simp]
        generalize q j = v at hlt hqj ⊢
        refine ⟨by omega, ?_⟩
        conv => whnf
        refine ⟨by omega, ?_⟩
        conv => whnf
        rw [show IntKind.i64.wrap ((j : Int) + 1) = ((j + 1 : Nat) : Int) by rw [w64_in _ (by omega)]; omega]
        rw [Int.toNat_natCast, hqj]
        have hdt := datOf_next (l := l) (K := K) (j := j) (by omega)
        have hdl : (datOf l (K.take j)).length = j := by unfold datOf; simp; omega
        refine ⟨j + 1, [0, 1, 2, 3, 4, 5, 8], h1, by omega, ?_⟩
        rw [hdt]
        conv => whnf
        repeat' (first | exact True.intro | exact rfl | exact subZ_self _ | exact Or.inr rfl | exact fun _ _ => rfl | exact fun _ h => absurd h (Nat.not_lt_zero _) | refine And.intro ?_ ?_)
        intro x hx
        have := strs_cat (datOf l (K.take j)) ((l.getD (K.getD j 0) default).d) (chunk [DV.str (l.getD (K.getD j 0) default).d] 1) rfl x (by omega)
        rw [hdl] at this
        exact this
      · have h1 : j = min K.length 64 := by have h : ¬ (j : Int) < ((min K.length 64 : Nat) : Int) := of_decide_eq_false h1
                                            omega
        have htk : K.take j = K.take 64 := by
          rw [h1]
          rcases Nat.le_total K.length 64 with x | x
          · rw [Nat.min_eq_left x, List.take_length, List.take_of_length_le x]
          · rw [Nat.min_eq_right x]
        rw [htk, hlaw2]
        have hbl : (buildD t l).length = j := by rw [← hlaw2]; unfold datOf; simp; omega
        have hj0 : 0 < j := by omega
        rw [← hbl] at hj0 ⊢
        conv => whnf
        repeat' (first | exact True.intro | exact rfl | exact ⟨rfl, rfl, .inr rfl, fun _ _ => rfl⟩ | exact ⟨rfl, rfl, .inl rfl, fun i hi => absurd hi (Nat.not_lt_zero _)⟩ | refine And.intro ?_ ?_)
        · generalize (buildD t l).length = k at hj0
          cases k with
          | zero => omega
          | succ k => rfl
        · exact .inr rfl
        · exact fun _ _ => rfl
end Go.Proofs.Ytdphkaiijlekhaa
namespace Go.Proofs.Ytdphkaiijlekhaa
open Go Go.Eng
def rightR (r : RR) : Bool := r.cl == 1 && r.check
def rightV (z : Bool) (l : List RR) : SV := .fn 111 [.dptr [rrsD z l] 0]
set_option maxRecDepth 100000
theorem sright_ok (z : Bool) (l : List RR) : FnOk Try.prog 63 [.d (rrsD z l)] (rightV z l) := by
  refine COk.clos (t := 47) ?_
  refine cOk_of_run (TT := TT) (IN := lookI []) TT_ok INok_nil mixed 1000 Try.func63 rfl (enters Try.func63 (by kernel_rfl) rfl) 3 (by kernel_rfl) ?_
  conv => whnf
  refine ⟨[0], .fn 111 [.ptr 0 0], [.cells 47 [.d (rrsD z l)]], rfl, rfl, rfl, ?_, rfl, rfl⟩
  repeat' (first | exact True.intro | exact rfl | exact fun _ => Iff.rfl | exact fun _ _ => rfl | exact renM_ent rfl _ | refine And.intro ?_ ?_)
def rrs (l : List RR) : Nat → List DV := fun i => (l.getD i default).enc
set_option maxHeartbeats 8000000 in
theorem collect_ok (z : Bool) (l : List RR) (hn : l.length ≤ 100000) : FnOk Try.prog 62 [rightV z l] (.d (rrsD (l.filter rightR).isEmpty (l.filter rightR))) := by
  refine fnOk_of_run (TT := TT) (IN := lookI [(110, Try.f110, 2), (111, Try.f111, 2)]) TT_ok (INok_cons (INok_cons INok_nil Try.func111 (by kernel_rfl) (by kernel_rfl)) Try.func110 (by kernel_rfl) (by kernel_rfl)) mixed 1000 Try.func62 rfl (enters Try.func62 (by kernel_rfl) rfl) rfl 4 (by kernel_rfl) ?_
  conv => whnf
  refine .nilC 0 0 60 5 (rrs []) _ _ _ _ rfl rfl ?_
  conv => whnf
  refine .inv Nat (fun i => i ≤ l.length) (fun i => [(7, iV i)]) (fun i => [(2, .row 60 5 ((l.take i).filter rightR).length .iff (rrs ((l.take i).filter rightR)))]) (fun i => l.length - i) ⟨0, [0, 1, 2], Nat.zero_le _, ?_⟩ ?_
  · conv => whnf
    repeat' (first | exact True.intro | exact rfl | exact subZ_self _ | exact Or.inr rfl | exact fun _ _ => rfl | exact fun _ h => absurd h (Nat.not_lt_zero _) | refine And.intro ?_ ?_)
  intro i hi
  conv => whnf
  refine ⟨fun h1 => ?_, fun h1 => ?_⟩
  · have h1 : i < l.length := by have h : (i : Int) < l.length := of_decide_eq_true h1
                                 omega
    obtain ⟨r, hr⟩ : ∃ r, l.getD i default = r := ⟨_, rfl⟩
    have htk : l.take (i + 1) = l.take i ++ [r] := by rw [List.take_add_one, ← hr, List.getD, List.getElem?_eq_getElem h1]; rfl
    have hw1 : IntKind.i64.wrap ((i : Int) + 1) = ((i + 1 : Nat) : Int) := by rw [w64_in _ (by omega)]; omega
    conv => whnf
    refine ⟨by omega, ?_⟩
    conv => whnf
    rw [Int.toNat_natCast, hr]
    refine ⟨fun h2 => ?_, fun h2 => ?_⟩
    · have hb : rightR r = false := by unfold rightR; rw [show (r.cl == 1) = false by simpa using h2]; rfl
      have hf : (l.take (i + 1)).filter rightR = (l.take i).filter rightR := by rw [htk, List.filter_append]; simp [hb]
      conv => whnf
      rw [hw1]
      refine ⟨i + 1, [0, 1, 2], h1, by omega, ?_⟩
      rw [hf]
      conv => whnf
      repeat' (first | exact True.intro | exact rfl | exact subZ_self _ | exact Or.inr rfl | exact fun _ _ => rfl | exact fun _ h => absurd h (Nat.not_lt_zero _) | refine And.intro ?_ ?_)
    · have hcl : (r.cl == 1) = true := by simpa using h2
      conv => whnf
      refine .one (.data _ (reccheck_ok r) rfl rfl ?_)
      conv => whnf
      cases hck : r.check with
      | false =>
        have hb : rightR r = false := by unfold rightR; rw [hck, Bool.and_false]
        have hf : (l.take (i + 1)).filter rightR = (l.take i).filter rightR := by rw [htk, List.filter_append]; simp [hb]
        refine brT rfl ?_
        conv => whnf
        rw [hw1]
        refine ⟨i + 1, [0, 1, 2], h1, by omega, ?_⟩
        rw [hf]
        conv => whnf
        repeat' (first | exact True.intro | exact rfl | exact subZ_self _ | exact Or.inr rfl | exact fun _ _ => rfl | exact fun _ h => absurd h (Nat.not_lt_zero _) | refine And.intro ?_ ?_)
      | true =>
        have hb : rightR r = true := by unfold rightR; rw [hck, hcl]; rfl
        have hf : (l.take (i + 1)).filter rightR = (l.take i).filter rightR ++ [r] := by rw [htk, List.filter_append]; simp [hb]
        have hll : ((l.take i).filter rightR).length ≤ 100000 := Nat.le_trans (List.length_filter_le _ _) (by simp; omega)
        refine brF rfl ?_
        conv => whnf
        refine ⟨by omega, ?_⟩
        conv => whnf
        rw [hw1]
        refine ⟨i + 1, [0, 1, 6], h1, by omega, ?_⟩
        rw [hf]
        conv => whnf
        repeat' (first | exact True.intro | exact rfl | exact subZ_self _ | exact Or.inr rfl | exact fun _ _ => rfl | exact fun _ h => absurd h (Nat.not_lt_zero _) | refine And.intro ?_ ?_)
        · rw [List.length_append]; rfl
        · exact fun x hx => rr_cat _ r x hx
  · have h1 : i = l.length := by have h : ¬ (i : Int) < l.length := of_decide_eq_false h1
                                 omega
    subst h1
    rw [List.take_length]
    conv => whnf
    refine ⟨?_, rfl, .inr rfl, fun _ _ => rfl⟩
    cases l.filter rightR <;> rfl
end Go.Proofs.Ytdphkaiijlekhaa
namespace Go.Proofs.Ytdphkaiijlekhaa
open Go Go.Eng
structure St where
  nm : List UInt8
  ty : Int
  ttl : Int
  z : Bool
  data : List (List UInt8)
def St.no : St := ⟨[], 0, 0, true, []⟩
instance : Inhabited St := ⟨St.no⟩
def St.V (s : St) : SV := setV s.nm s.ty s.ttl s.z s.data
def nearR (nm : List UInt8) (t : Int) (r : RR) : Bool := r.ty == t && (r.nm.length == nm.length && fold r.nm == fold nm)
def pickR (nm : List UInt8) (t : Int) (l : List RR) : List RR := (l.filter (nearR nm t)).filter rightR
def buildS (nm : List UInt8) (t : Int) (l : List RR) : St := ⟨nm, t, minOf (l.getD 0 default).ttl l, false, buildD t l⟩
instance (s : List UInt8) : Decidable (isName s) := by unfold isName; infer_instance
def findS (nm : List UInt8) (t : Int) (l : List RR) : St × Int := if isName nm then (if (pickR nm t l).isEmpty then (St.no, 3) else (buildS nm t (pickR nm t l), 0)) else (St.no, 3)
set_option maxRecDepth 100000
set_option maxHeartbeats 8000000 in
theorem find_ok (nm : List UInt8) (t : Int) (z : Bool) (l : List RR) (hn : l.length ≤ 100000) (hnm : nm.length ≤ 100000) (hl : ∀ r ∈ l, r.nm.length ≤ 100000) : FnOk Try.prog 20 [.d (.str nm), .d (.int .u16 t), .d (rrsD z l)] (.tup [(findS nm t l).1.V, .d (.int .i64 (findS nm t l).2)]) := by
  refine fnOk_of_run (TT := TT) (IN := lookI [(61, Try.f61, 4)]) TT_ok (INok_cons INok_nil Try.func61 (by kernel_rfl) (by kernel_rfl)) mixed 1000 Try.func20 rfl (enters Try.func20 (by kernel_rfl) rfl) rfl 42 (by kernel_rfl) ?_
  conv => whnf
  refine .one (.data _ (check_ok nm) rfl rfl ?_)
  by_cases hnn : isName nm
  · rw [if_pos hnn]
    have hsp : findS nm t l = if (pickR nm t l).isEmpty then (St.no, 3) else (buildS nm t (pickR nm t l), 0) := if_pos hnn
    rw [hsp]
    conv => whnf
    refine brF rfl ?_
    conv => whnf
    refine .one (.data _ (fold_ok nm (by omega)) rfl rfl ?_)
    conv => whnf
    refine .nilT 10 60 5 (rrs []) _ _ rfl ?_
    conv => whnf
    refine .inv Nat (fun i => i ≤ l.length) (fun i => [(22, iV i), (10, .all 4)]) (fun i => [(4, .row 60 5 ((l.take i).filter (nearR nm t)).length .iff (rrs ((l.take i).filter (nearR nm t))))]) (fun i => l.length - i) ⟨0, [0, 1, 2, 3, 4], Nat.zero_le _, ?_⟩ ?_
    · conv => whnf
      repeat' (first | exact True.intro | exact rfl | exact subZ_self _ | exact Or.inr rfl | exact fun _ _ => rfl | exact fun _ h => absurd h (Nat.not_lt_zero _) | refine And.intro ?_ ?_)
    intro i hi
    conv => whnf
    refine ⟨fun h1 => ?_, fun h1 => ?_⟩
    · have h1 : i < l.length := by have h : (i : Int) < l.length := of_decide_eq_true h1
                                   omega
      obtain ⟨r, hr⟩ : ∃ r, l.getD i default = r := ⟨_, rfl⟩
      have hrl : l[i]? = some r := by rw [← hr, List.getD, List.getElem?_eq_getElem h1]; rfl
      have hrn := hl r (List.mem_of_getElem? hrl)
      have htk : l.take (i + 1) = l.take i ++ [r] := by rw [List.take_add_one, hrl]; rfl
      have hw1 : IntKind.i64.wrap ((i : Int) + 1) = ((i + 1 : Nat) : Int) := by rw [w64_in _ (by omega)]; omega
      conv => whnf
      refine ⟨by omega, ?_⟩
      conv => whnf
      rw [Int.toNat_natCast, hr]
      refine ⟨fun h2 => ?_, fun h2 => ?_⟩
      · conv => whnf
        refine ⟨fun h3 => ?_, fun h3 => ?_⟩
        · conv => whnf
          refine .data _ (fold_ok r.nm (by omega)) rfl rfl ?_
          conv => whnf
          refine ⟨fun h4 => ?_, fun h4 => ?_⟩
          · have hb : nearR nm t r = true := by
              unfold nearR
              rw [lenEq] at h3; rw [h2, h3, h4]; rfl
            have hf : (l.take (i + 1)).filter (nearR nm t) = (l.take i).filter (nearR nm t) ++ [r] := by rw [htk, List.filter_append]; simp [hb]
            have hll : ((l.take i).filter (nearR nm t)).length ≤ 100000 := Nat.le_trans (List.length_filter_le _ _) (by simp; omega)
            conv => whnf
            refine ⟨by omega, ?_⟩
            conv => whnf
            rw [hw1]
            refine ⟨i + 1, [0, 1, 2, 3, 8], h1, by omega, ?_⟩
            rw [hf]
            conv => whnf
            repeat' (first | exact True.intro | exact rfl | exact subZ_self _ | exact Or.inr rfl | exact fun _ _ => rfl | exact fun _ h => absurd h (Nat.not_lt_zero _) | refine And.intro ?_ ?_)
            · rw [List.length_append]; rfl
            · exact fun x hx => rr_cat _ r x hx
          · have hb : nearR nm t r = false := by
              unfold nearR
              rw [h4, Bool.and_false, Bool.and_false]
            have hf : (l.take (i + 1)).filter (nearR nm t) = (l.take i).filter (nearR nm t) := by rw [htk, List.filter_append]; simp [hb]
            conv => whnf
            repeat (first | (refine brF rfl ?_; conv => whnf))
            rw [hw1]
            refine ⟨i + 1, [0, 1, 2, 3, 4], h1, by omega, ?_⟩
            rw [hf]
            conv => whnf
            repeat' (first | exact True.intro | exact rfl | exact subZ_self _ | exact Or.inr rfl | exact fun _ _ => rfl | exact fun _ h => absurd h (Nat.not_lt_zero _) | refine And.intro ?_ ?_)
        · have hb : nearR nm t r = false := by
            unfold nearR
            rw [lenEq] at h3; rw [h3, Bool.false_and, Bool.and_false]
          have hf : (l.take (i + 1)).filter (nearR nm t) = (l.take i).filter (nearR nm t) := by rw [htk, List.filter_append]; simp [hb]
          conv => whnf
          repeat (first | (refine brF rfl ?_; conv => whnf))
          rw [hw1]
          refine ⟨i + 1, [0, 1, 2, 3, 4], h1, by omega, ?_⟩
          rw [hf]
          conv => whnf
          repeat' (first | exact True.intro | exact rfl | exact subZ_self _ | exact Or.inr rfl | exact fun _ _ => rfl | exact fun _ h => absurd h (Nat.not_lt_zero _) | refine And.intro ?_ ?_)
      · have hb : nearR nm t r = false := by
          unfold nearR
          rw [h2, Bool.false_and]
        have hf : (l.take (i + 1)).filter (nearR nm t) = (l.take i).filter (nearR nm t) := by rw [htk, List.filter_append]; simp [hb]
        conv => whnf
        repeat (first | (refine brF rfl ?_; conv => whnf))
        rw [hw1]
        refine ⟨i + 1, [0, 1, 2, 3, 4], h1, by omega, ?_⟩
        rw [hf]
        conv => whnf
        repeat' (first | exact True.intro | exact rfl | exact subZ_self _ | exact Or.inr rfl | exact fun _ _ => rfl | exact fun _ h => absurd h (Nat.not_lt_zero _) | refine And.intro ?_ ?_)
    · have h1 : i = l.length := by have h : ¬ (i : Int) < l.length := of_decide_eq_false h1
                                   omega
      subst h1
      rw [List.take_length]
      have hfl : (l.filter (nearR nm t)).length ≤ 100000 := Nat.le_trans (List.length_filter_le _ _) hn
      have hpl : (pickR nm t l).length ≤ 100000 := Nat.le_trans (List.length_filter_le _ _) hfl
      conv => whnf
      refine .one (.frz _ _ [4] (sright_ok (Nat.beq (l.filter (nearR nm t)).length 0) (l.filter (nearR nm t))) ?_ rfl rfl ?_)
      · conv => whnf
        exact ⟨rfl, rfl⟩
      conv => whnf
      refine .one (.data _ (collect_ok _ (l.filter (nearR nm t)) hfl) rfl rfl ?_)
      rw [show (l.filter (nearR nm t)).filter rightR = pickR nm t l from rfl]
      generalize pickR nm t l = m at hpl ⊢
      cases m with
      | nil =>
        conv => whnf
        refine brT rfl ?_
        conv => whnf
        repeat' (first | exact True.intro | exact rfl | exact ⟨rfl, rfl, .inr rfl, fun _ _ => rfl⟩ | exact ⟨rfl, rfl, .inl rfl, fun i hi => absurd hi (Nat.not_lt_zero _)⟩ | refine And.intro ?_ ?_)
      | cons r m =>
        conv => whnf
        refine brF rfl ?_
        conv => whnf
        refine .one (.data _ (build_ok nm t false (r :: m) (by simp) hpl) rfl rfl ?_)
        conv => whnf
        repeat' (first | exact True.intro | exact rfl | exact ⟨rfl, rfl, .inr rfl, fun _ _ => rfl⟩ | exact ⟨rfl, rfl, .inl rfl, fun i hi => absurd hi (Nat.not_lt_zero _)⟩ | refine And.intro ?_ ?_)
  · rw [if_neg hnn]
    have hsp : findS nm t l = (St.no, 3) := if_neg hnn
    rw [hsp]
    conv => whnf
    refine brT rfl ?_
    conv => whnf
    repeat' (first | exact True.intro | exact rfl | exact ⟨rfl, rfl, .inr rfl, fun _ _ => rfl⟩ | exact ⟨rfl, rfl, .inl rfl, fun i hi => absurd hi (Nat.not_lt_zero _)⟩ | refine And.intro ?_ ?_)
end Go.Proofs.Ytdphkaiijlekhaa
namespace Go.Proofs.Ytdphkaiijlekhaa
open Go Go.Eng
abbrev Gp := (List UInt8 × Int) × List RR
def keyD (k : List UInt8 × Int) : List DV := [.str k.1, .int .u16 k.2]
def entD (g : Gp) : List DV × Nat × (Nat → List DV) := (keyD g.1, g.2.length, rrs g.2)
def addG : List Gp → (List UInt8 × Int) → RR → List Gp
  | [], k, r => [(k, [r])]
  | (k', rs) :: G, k, r => if k' = k then (k', rs ++ [r]) :: G else (k', rs) :: addG G k r
def plc (r : RR) : List UInt8 × Int := (fold r.nm, r.ty)
def goodR (r : RR) : Bool := rightR r && r.ty != 41
def stepG (G : List Gp) (r : RR) : List Gp := if goodR r then addG G (plc r) r else G
def groups (l : List RR) : List Gp := l.foldl stepG []
theorem keyEq_keyD (a b : List UInt8 × Int) : keyEq (keyD a) (keyD b) = decide (a = b) := by
  obtain ⟨a1, a2⟩ := a
  obtain ⟨b1, b2⟩ := b
  show (a1 == b1 && ((IntKind.u16 == IntKind.u16 && a2 == b2) && true)) = _
  rw [Bool.eq_iff_iff]
  simp
theorem grp_cases (k : List UInt8 × Int) : ∀ G : List Gp, (∃ A rs B, G = A ++ (k, rs) :: B ∧ ∀ g ∈ A, g.1 ≠ k) ∨ ∀ g ∈ G, g.1 ≠ k
  | [] => .inr fun _ h => by cases h
  | (k', rs) :: G => by
    by_cases e : k' = k
    · exact .inl ⟨[], rs, G, by rw [e]; rfl, fun _ h => by cases h⟩
    · rcases grp_cases k G with ⟨A, rs', B, h1, h2⟩ | h
      · refine .inl ⟨(k', rs) :: A, rs', B, by rw [h1]; rfl, fun g hg => ?_⟩
        rcases List.mem_cons.1 hg with rfl | hg
        · exact e
        · exact h2 g hg
      · refine .inr fun g hg => ?_
        rcases List.mem_cons.1 hg with rfl | hg
        · exact e
        · exact h g hg
theorem findR_at {k : List UInt8 × Int} {rs : List RR} {B : List Gp} : ∀ A : List Gp, (∀ g ∈ A, g.1 ≠ k) → findR ((A ++ (k, rs) :: B).map entD) (keyD k) = some rs.length
  | [] => fun _ => by
    show (if keyEq (keyD k) (keyD k) then _ else _) = _
    rw [keyEq_keyD, if_pos (by simp)]
  | g :: A => fun h => by
    show (if keyEq (keyD k) (keyD g.1) then _ else findR ((A ++ (k, rs) :: B).map entD) (keyD k)) = _
    rw [keyEq_keyD, if_neg (by simp only [decide_eq_true_eq]; exact fun e => h g (by simp) e.symm)]
    exact findR_at A (fun g hg => h g (by simp [hg]))
theorem findR_none {k : List UInt8 × Int} : ∀ G : List Gp, (∀ g ∈ G, g.1 ≠ k) → findR (G.map entD) (keyD k) = none
  | [] => fun _ => rfl
  | g :: A => fun h => by
    show (if keyEq (keyD k) (keyD g.1) then _ else findR (A.map entD) (keyD k)) = _
    rw [keyEq_keyD, if_neg (by simp only [decide_eq_true_eq]; exact fun e => h g (by simp) e.symm)]
    exact findR_none A (fun g hg => h g (by simp [hg]))
theorem idxR_at {k : List UInt8 × Int} {rs : List RR} {B : List Gp} : ∀ (A : List Gp) (i : Nat), (∀ g ∈ A, g.1 ≠ k) → idxR ((A ++ (k, rs) :: B).map entD) (keyD k) i = some (i + A.length, rs.length, rrs rs)
  | [], i => fun _ => by
    show (if keyEq (keyD k) (keyD k) then _ else _) = _
    rw [keyEq_keyD, if_pos (by simp)]; rfl
  | g :: A, i => fun h => by
    show (if keyEq (keyD k) (keyD g.1) then _ else idxR ((A ++ (k, rs) :: B).map entD) (keyD k) (i + 1)) = _
    rw [keyEq_keyD, if_neg (by simp only [decide_eq_true_eq]; exact fun e => h g (by simp) e.symm)]
    rw [idxR_at A (i + 1) (fun g hg => h g (by simp [hg])), List.length_cons]
    congr 2
    omega
theorem idxR_none {k : List UInt8 × Int} : ∀ (G : List Gp) (i : Nat), (∀ g ∈ G, g.1 ≠ k) → idxR (G.map entD) (keyD k) i = none
  | [], _ => fun _ => rfl
  | g :: A, i => fun h => by
    show (if keyEq (keyD k) (keyD g.1) then _ else idxR (A.map entD) (keyD k) (i + 1)) = _
    rw [keyEq_keyD, if_neg (by simp only [decide_eq_true_eq]; exact fun e => h g (by simp) e.symm)]
    exact idxR_none A _ (fun g hg => h g (by simp [hg]))
theorem addG_at {k : List UInt8 × Int} {rs : List RR} {B : List Gp} {r : RR} : ∀ A : List Gp, (∀ g ∈ A, g.1 ≠ k) → addG (A ++ (k, rs) :: B) k r = A ++ (k, rs ++ [r]) :: B
  | [] => fun _ => by
    show (if k = k then _ else _) = _
    rw [if_pos rfl]; rfl
  | (k', rs') :: A => fun h => by
    show (if k' = k then _ else (k', rs') :: addG (A ++ (k, rs) :: B) k r) = _
    rw [if_neg (h (k', rs') (by simp)), addG_at A (fun g hg => h g (by simp [hg]))]; rfl
theorem addG_none {k : List UInt8 × Int} {r : RR} : ∀ G : List Gp, (∀ g ∈ G, g.1 ≠ k) → addG G k r = G ++ [(k, [r])]
  | [] => fun _ => rfl
  | (k', rs') :: A => fun h => by
    show (if k' = k then _ else (k', rs') :: addG A k r) = _
    rw [if_neg (h (k', rs') (by simp)), addG_none A (fun g hg => h g (by simp [hg]))]; rfl
theorem putR_at {g : Gp} {B : List Gp} {n : Nat} {f : Nat → List DV} : ∀ A : List Gp, putR ((A ++ g :: B).map entD) A.length n f = A.map entD ++ (keyD g.1, n, f) :: B.map entD
  | [] => rfl
  | a :: A => by
    show entD a :: putR ((A ++ g :: B).map entD) A.length n f = _
    rw [putR_at A]; rfl
theorem groups_next (l : List RR) (r : RR) : groups (l ++ [r]) = stepG (groups l) r := by
  unfold groups; rw [List.foldl_append]; rfl
theorem subR_self : ∀ l : List (List DV × Nat × (Nat → List DV)), SubR l l
  | [] => True.intro
  | (k, n, f) :: l => ⟨⟨rfl, rfl, fun _ _ => rfl⟩, subR_self l⟩
theorem addG_mem {k : List UInt8 × Int} {r : RR} : ∀ (G : List Gp), ∀ g ∈ addG G k r, g ∈ G ∨ (g.1 = k ∧ g.2 ≠ [])
  | [], g, h => by
    simp only [addG, List.mem_singleton] at h
    exact .inr (by rw [h]; exact ⟨rfl, by simp⟩)
  | (k', rs) :: G, g, h => by
    unfold addG at h
    split at h
    · rename_i e
      rcases List.mem_cons.1 h with rfl | h
      · exact .inr ⟨e, by simp⟩
      · exact .inl (List.mem_cons_of_mem _ h)
    · rcases List.mem_cons.1 h with rfl | h
      · exact .inl (by simp)
      · rcases addG_mem G g h with h | h
        · exact .inl (List.mem_cons_of_mem _ h)
        · exact .inr h
theorem groups_ne : ∀ (l : List RR) (G : List Gp), (∀ g ∈ G, g.2 ≠ []) → ∀ g ∈ l.foldl stepG G, g.2 ≠ []
  | [], G, h => h
  | r :: l, G, h => groups_ne l (stepG G r) (fun g hg => by
    unfold stepG at hg
    split at hg
    · rcases addG_mem G g hg with h' | h'
      · exact h g h'
      · exact h'.2
    · exact h g hg)
theorem subR_mid {B : List (List DV × Nat × (Nat → List DV))} {k : List DV} {n n' : Nat} {f f' : Nat → List DV} (hn : n = n') (h : ∀ i, i < n → f i = f' i) : ∀ A : List (List DV × Nat × (Nat → List DV)), SubR (A ++ (k, n, f) :: B) (A ++ (k, n', f') :: B)
  | [] => ⟨⟨rfl, hn, h⟩, subR_self B⟩
  | (k1, n1, f1) :: A => ⟨⟨rfl, rfl, fun _ _ => rfl⟩, subR_mid hn h A⟩
theorem addG_len {k : List UInt8 × Int} {r : RR} {m : Nat} : ∀ (G : List Gp), (∀ g ∈ G, g.2.length ≤ m) → ∀ g ∈ addG G k r, g.2.length ≤ m + 1
  | [], _, g, h => by
    simp only [addG, List.mem_singleton] at h
    rw [h]; simp
  | (k', rs) :: G, h0, g, h => by
    unfold addG at h
    split at h
    · rcases List.mem_cons.1 h with rfl | h
      · have := h0 (k', rs) (by simp)
        simp; omega
      · have := h0 g (by simp [h]); omega
    · rcases List.mem_cons.1 h with rfl | h
      · have := h0 (k', rs) (by simp); omega
      · exact addG_len G (fun g hg => h0 g (by simp [hg])) g h
theorem addG_count {k : List UInt8 × Int} {r : RR} : ∀ (G : List Gp), (addG G k r).length ≤ G.length + 1
  | [] => by simp [addG]
  | (k', rs) :: G => by
    have := addG_count (k := k) (r := r) G
    unfold addG
    split
    · simp
    · simp; omega
theorem groups_len : ∀ (l : List RR) (G : List Gp) (m : Nat), (∀ g ∈ G, g.2.length ≤ m) → G.length ≤ m → (∀ g ∈ l.foldl stepG G, g.2.length ≤ m + l.length) ∧ (l.foldl stepG G).length ≤ m + l.length
  | [], G, m, h, k => ⟨h, k⟩
  | r :: l, G, m, h, k => by
    have := groups_len l (stepG G r) (m + 1) (fun g hg => by
      unfold stepG at hg
      split at hg
      · exact addG_len G h g hg
      · exact Nat.le_trans (h g hg) (by omega)) (by
      unfold stepG
      split
      · have := addG_count (k := plc r) (r := r) G; omega
      · omega)
    rw [List.length_cons, show m + (l.length + 1) = m + 1 + l.length by omega]
    exact this
theorem putR_end {k : List DV} {n0 n : Nat} {f0 f : Nat → List DV} : ∀ L : List (List DV × Nat × (Nat → List DV)), putR (L ++ [(k, n0, f0)]) L.length n f = L ++ [(k, n, f)]
  | [] => rfl
  | a :: L => by
    show a :: putR (L ++ [(k, n0, f0)]) L.length n f = _
    rw [putR_end L]; rfl
def keysF (G : List Gp) : Nat → List DV := fun i => keyD (G.getD i (([], 0), [])).1
theorem keysF_map (G : List Gp) (i : Nat) : keysF G i = keyD ((G.map (·.1)).getD i ([], 0)) := by
  unfold keysF
  rw [List.getD, List.getD, List.getElem?_map]
  cases G[i]? <;> rfl
theorem keysF_mid {A B : List Gp} {k : List UInt8 × Int} {rs rs' : List RR} (i : Nat) : keysF (A ++ (k, rs) :: B) i = keysF (A ++ (k, rs') :: B) i := by
  rw [keysF_map, keysF_map, List.map_append, List.map_append]; rfl
theorem keysF_cat {G : List Gp} {k : List UInt8 × Int} {rs : List RR} {d : List DV} (hd : d = keyD k) (x : Nat) (hx : x < G.length + 1) : catF G.length (keysF G) (chunk d 2) x = keysF (G ++ [(k, rs)]) x := by
  subst hd
  unfold catF
  by_cases h : x < G.length
  · rw [if_pos h, keysF_map, keysF_map, List.map_append, List.getD, List.getD, List.getElem?_append_left (by simpa using h)]
  · have : x = G.length := by omega
    subst this
    rw [if_neg h, Nat.sub_self, keysF_map, List.map_append, List.getD, List.getElem?_append_right (by simp)]
    simp only [List.length_map, Nat.sub_self]
    rfl
theorem findM_at {k : List UInt8 × Int} {rs : List RR} {B : List Gp} : ∀ A : List Gp, (∀ g ∈ A, g.1 ≠ k) → findM (datR 5 ((A ++ (k, rs) :: B).map entD)) (keyD k) = some [.d (rrsD false rs)]
  | [] => fun _ => by
    show (if keyEq (keyD k) (keyD k) then _ else _) = _
    rw [keyEq_keyD, if_pos (by simp)]; rfl
  | g :: A => fun h => by
    show (if keyEq (keyD k) (keyD g.1) then _ else findM (datR 5 ((A ++ (k, rs) :: B).map entD)) (keyD k)) = _
    rw [keyEq_keyD, if_neg (by simp only [decide_eq_true_eq]; exact fun e => h g (by simp) e.symm)]
    exact findM_at A (fun g hg => h g (by simp [hg]))
theorem groups_nd : ∀ (l : List RR) (G : List Gp), G.Pairwise (fun a b => a.1 ≠ b.1) → (l.foldl stepG G).Pairwise (fun a b => a.1 ≠ b.1)
  | [], G, h => h
  | r :: l, G, h => groups_nd l (stepG G r) (by
    unfold stepG
    split
    · rcases grp_cases (plc r) G with ⟨A, rs, B, hG, hA⟩ | hG
      · subst hG
        rw [addG_at A hA]
        rw [List.pairwise_append] at h ⊢
        refine ⟨h.1, ?_, fun a ha b hb => ?_⟩
        · have := List.pairwise_cons.1 h.2.1
          exact List.pairwise_cons.2 ⟨this.1, this.2⟩
        · rcases List.mem_cons.1 hb with rfl | hb
          · exact h.2.2 a ha (plc r, rs) (by simp)
          · exact h.2.2 a ha b (by simp [hb])
      · rw [addG_none G hG]
        exact List.pairwise_append.2 ⟨h, by simp, fun a ha b hb => by
          simp only [List.mem_singleton] at hb
          subst hb
          exact hG a ha⟩
    · exact h)
theorem groups_split {l : List RR} {j : Nat} (hj : j < (groups l).length) : ∃ A k rs B, groups l = A ++ (k, rs) :: B ∧ A.length = j ∧ (∀ g ∈ A, g.1 ≠ k) ∧ (groups l).getD j (([], 0), []) = (k, rs) ∧ rs ≠ [] ∧ rs.length ≤ l.length := by
  have hnd := groups_nd l [] .nil
  have hne := groups_ne l [] (fun _ h => by cases h)
  have hlen := (groups_len l [] 0 (fun _ h => by cases h) (Nat.le_refl _)).1
  change (groups l).Pairwise _ at hnd
  change ∀ g ∈ groups l, _ at hne
  change ∀ g ∈ groups l, _ at hlen
  generalize groups l = G at *
  have hm : G[j] ∈ G := List.getElem_mem hj
  have e : G = G.take j ++ G[j] :: G.drop (j + 1) := by
    rw [← List.drop_eq_getElem_cons hj, List.take_append_drop]
  refine ⟨G.take j, G[j].1, G[j].2, G.drop (j + 1), e, by simp; omega, fun g hg => ?_, ?_, hne _ hm, by have := hlen _ hm; omega⟩
  · rw [e] at hnd
    exact (List.pairwise_append.1 hnd).2.2 g hg _ List.mem_cons_self
  · rw [List.getD, List.getElem?_eq_getElem hj]; rfl
def St.enc (s : St) : List DV := [.str s.nm, .int .u16 s.ty, .int .u32 s.ttl, .sl s.z s.data.length 1 (strs s.data)]
def stsD (z : Bool) (l : List St) : DV := .sl z l.length 4 (fun i => (l.getD i default).enc)
def ofG (g : Gp) : St := buildS (g.2.getD 0 default).nm g.1.2 g.2
def ofS (l : List RR) : List St := (groups l).map ofG
theorem st_cat (l : List St) (q : St) (j : Nat) (hj : j < l.length + 1) : catF l.length (fun j => (l.getD j default).enc) (chunk q.enc 4) j = ((l ++ [q]).getD j default).enc := by
  show (if j < l.length then (l.getD j default).enc else chunk q.enc 4 (j - l.length)) = _
  by_cases h : j < l.length
  · rw [if_pos h, List.getD, List.getD, List.getElem?_append_left h]
  · have : j = l.length := by omega
    subst this
    rw [if_neg h, Nat.sub_self, List.getD, List.getElem?_append_right (Nat.le_refl _), Nat.sub_self]
    rfl
theorem subM_datR (ρ : List Nat) (sz : Nat) : ∀ L : List (List DV × Nat × (Nat → List DV)), SubM (renM ρ (datR sz L)) (datR sz L)
  | [] => rfl
  | (k, n, f) :: L => congrArg ((k, [SV.d (.sl false n sz f)]) :: ·) (subM_datR ρ sz L)
end Go.Proofs.Ytdphkaiijlekhaa
namespace Go.Proofs.Ytdphkaiijlekhaa
open Go Go.Eng
set_option maxRecDepth 100000
set_option maxHeartbeats 8000000 in
theorem of_ok (z : Bool) (l : List RR) (hn : l.length ≤ 100000) (hl : ∀ r ∈ l, r.nm.length ≤ 100000) : FnOk Try.prog 24 [.d (rrsD z l)] (.d (stsD (ofS l).isEmpty (ofS l))) := by
  refine fnOk_of_run (TT := TT) (IN := lookI [(111, Try.f111, 2)]) TT_ok (INok_cons INok_nil Try.func111 (by kernel_rfl) (by kernel_rfl)) mixed 1000 Try.func24 rfl (enters Try.func24 (by kernel_rfl) rfl) rfl 62 (by kernel_rfl) ?_
  conv => whnf
  refine .one (.data _ (sright_ok z l) rfl rfl ?_)
  conv => whnf
  refine .toR 0 [.str, .int .u16] true 60 5 rfl ?_
  conv => whnf
  refine .nilC 2 0 125 2 (fun _ => []) _ _ _ _ rfl rfl ?_
  conv => whnf
  refine .inv Nat (fun i => i ≤ l.length) (fun i => [(7, iV i)]) (fun i => [(0, .mapr [.str, .int .u16] true 60 5 ((groups (l.take i)).map entD) .free), (4, .row 125 2 (groups (l.take i)).length .iff (keysF (groups (l.take i))))]) (fun i => l.length - i) ⟨0, [0, 1, 2, 3, 4], Nat.zero_le _, ?_⟩ ?_
  · conv => whnf
    repeat' (first | exact True.intro | exact rfl | exact subZ_self _ | exact subR_self _ | exact subM_datR _ _ _ | exact Or.inr rfl | exact fun _ _ => rfl | exact fun _ h => absurd h (Nat.not_lt_zero _) | refine And.intro ?_ ?_)
  intro i hi
  conv => whnf
  refine ⟨fun h1 => ?_, fun h1 => ?_⟩
  · have h1 : i < l.length := by have h : (i : Int) < l.length := of_decide_eq_true h1
                                 omega
    obtain ⟨r, hr⟩ : ∃ r, l.getD i default = r := ⟨_, rfl⟩
    have hrl : l[i]? = some r := by rw [← hr, List.getD, List.getElem?_eq_getElem h1]; rfl
    have hrn := hl r (List.mem_of_getElem? hrl)
    have htk : l.take (i + 1) = l.take i ++ [r] := by rw [List.take_add_one, hrl]; rfl
    have hw1 : IntKind.i64.wrap ((i : Int) + 1) = ((i + 1 : Nat) : Int) := by rw [w64_in _ (by omega)]; omega
    have hgn := groups_next (l.take i) r
    rw [← htk] at hgn
    have hgl := groups_len (l.take i) [] 0 (fun _ h => by cases h) (Nat.le_refl _)
    have hgl2 : (groups (l.take i)).length ≤ 100000 := Nat.le_trans hgl.2 (by simp; omega)
    conv => whnf
    refine ⟨by omega, ?_⟩
    conv => whnf
    rw [Int.toNat_natCast, hr]
    refine ⟨fun h2 => ?_, fun h2 => ?_⟩
    · have hb : goodR r = false := by unfold goodR rightR; rw [show (r.cl == 1) = false by simpa using h2]; rfl
      have hg : groups (l.take (i + 1)) = groups (l.take i) := by rw [hgn]; unfold stepG; rw [hb]; rfl
      conv => whnf
      rw [hw1]
      refine ⟨i + 1, [0, 1, 2, 3, 4], h1, by omega, ?_⟩
      rw [hg]
      conv => whnf
      repeat' (first | exact True.intro | exact rfl | exact subZ_self _ | exact subR_self _ | exact subM_datR _ _ _ | exact Or.inr rfl | exact fun _ _ => rfl | exact fun _ h => absurd h (Nat.not_lt_zero _) | refine And.intro ?_ ?_)
    · have hcl : (r.cl == 1) = true := by simpa using h2
      conv => whnf
      refine .one (.data _ (reccheck_ok r) rfl rfl ?_)
      conv => whnf
      cases hck : r.check with
      | false =>
        have hb : goodR r = false := by unfold goodR rightR; rw [hck, Bool.and_false]; rfl
        refine brT rfl ?_
        have hg : groups (l.take (i + 1)) = groups (l.take i) := by rw [hgn]; unfold stepG; rw [hb]; rfl
        conv => whnf
        rw [hw1]
        refine ⟨i + 1, [0, 1, 2, 3, 4], h1, by omega, ?_⟩
        rw [hg]
        conv => whnf
        repeat' (first | exact True.intro | exact rfl | exact subZ_self _ | exact subR_self _ | exact subM_datR _ _ _ | exact Or.inr rfl | exact fun _ _ => rfl | exact fun _ h => absurd h (Nat.not_lt_zero _) | refine And.intro ?_ ?_)
      | true =>
        refine brF rfl ?_
        conv => whnf
        refine ⟨fun h3 => ?_, fun h3 => ?_⟩
        · have hb : goodR r = false := by unfold goodR; rw [show (r.ty != 41) = false by simpa using h3, Bool.and_false]
          have hg : groups (l.take (i + 1)) = groups (l.take i) := by rw [hgn]; unfold stepG; rw [hb]; rfl
          conv => whnf
          rw [hw1]
          refine ⟨i + 1, [0, 1, 2, 3, 4], h1, by omega, ?_⟩
          rw [hg]
          conv => whnf
          repeat' (first | exact True.intro | exact rfl | exact subZ_self _ | exact subR_self _ | exact subM_datR _ _ _ | exact Or.inr rfl | exact fun _ _ => rfl | exact fun _ h => absurd h (Nat.not_lt_zero _) | refine And.intro ?_ ?_)
        · have hb : goodR r = true := by unfold goodR rightR; rw [hck, hcl, show (r.ty != 41) = true by simpa using h3]; rfl
          conv => whnf
          refine .data _ (fold_ok r.nm (by omega)) rfl rfl ?_
          conv => whnf
          rcases grp_cases (plc r) (groups (l.take i)) with ⟨A, rs, B, hG, hA⟩ | hG
          · rw [hG]
            have hne : rs ≠ [] := groups_ne (l.take i) [] (fun _ h => by cases h) (plc r, rs) (by show _ ∈ groups (l.take i); rw [hG]; simp)
            have hpos : 0 < rs.length := List.length_pos_iff.2 hne
            have hrl2 : rs.length ≤ 100000 := Nat.le_trans (hgl.1 (plc r, rs) (by show _ ∈ groups (l.take i); rw [hG]; simp)) (by simp; omega)
            have hgn2 : groups (l.take (i + 1)) = A ++ (plc r, rs ++ [r]) :: B := by rw [hgn]; unfold stepG; rw [hb, if_pos rfl, hG, addG_at A hA]
            refine ⟨some rs.length, findR_at A hA, ?_⟩
            conv => whnf
            refine brF (by simp; omega) ?_
            conv => whnf
            refine ⟨some (A.length, rs.length, rrs rs), (idxR_at A 0 hA).trans (by rw [Nat.zero_add]), ?_⟩
            conv => whnf
            intro s
            conv => whnf
            refine ⟨by omega, ?_⟩
            conv => whnf
            refine ⟨⟨rfl, .inl rfl⟩, _, putR_at A, ?_⟩
            conv => whnf
            rw [hw1]
            refine ⟨i + 1, [0, 1, 2, 3, 4], h1, by omega, ?_⟩
            rw [hgn2]
            conv => whnf
            repeat' (first | exact True.intro | exact rfl | exact subZ_self _ | exact subR_self _ | exact subM_datR _ _ _ | exact Or.inr rfl | exact fun _ _ => rfl | exact fun _ h => absurd h (Nat.not_lt_zero _) | refine And.intro ?_ ?_)
            · rw [List.map_append]
              exact subR_mid (by simp) (fun x hx => rr_cat rs r x hx) _
            · simp
            · exact fun x _ => keysF_mid x
          · refine ⟨none, findR_none _ hG, ?_⟩
            conv => whnf
            refine brT rfl ?_
            conv => whnf
            refine ⟨by omega, ?_⟩
            conv => whnf
            refine ⟨none, idxR_none _ _ hG, ?_⟩
            conv => whnf
            intro s l' hl'
            subst hl'
            conv => whnf
            refine ⟨by omega, ?_⟩
            conv => whnf
            refine ⟨⟨rfl, .inr Nat.one_pos⟩, _, putR_end _, ?_⟩
            conv => whnf
            rw [hw1]
            refine ⟨i + 1, [0, 1, 2, 3, 9], h1, by omega, ?_⟩
            have hgn2 : groups (l.take (i + 1)) = groups (l.take i) ++ [(plc r, [r])] := by rw [hgn]; unfold stepG; rw [hb, if_pos rfl, addG_none _ hG]
            rw [hgn2]
            conv => whnf
            repeat' (first | exact True.intro | exact rfl | exact subZ_self _ | exact subR_self _ | exact subM_datR _ _ _ | exact Or.inr rfl | exact fun _ _ => rfl | exact fun _ h => absurd h (Nat.not_lt_zero _) | refine And.intro ?_ ?_)
            · rw [List.map_append]
              exact subR_mid (B := []) (by simp) (fun x hx => by
                have : x = 0 := by omega
                subst this; rfl) _
            · simp
            · exact fun x hx => keysF_cat (k := plc r) (rs := [r]) rfl x hx
  · have h1 : i = l.length := by have h : ¬ (i : Int) < l.length := of_decide_eq_false h1
                                 omega
    subst h1
    rw [List.take_length]
    have hgl := groups_len l [] 0 (fun _ h => by cases h) (Nat.le_refl _)
    have hgl2 : (groups l).length ≤ 100000 := Nat.le_trans hgl.2 (by omega)
    conv => whnf
    refine .rowsD 0 _ _ _ _ _ rfl ?_
    conv => whnf
    refine .nilT 7 33 4 (fun i => (([] : List St).getD i default).enc) _ _ rfl ?_
    conv => whnf
    refine .inv Nat (fun j => j ≤ (groups l).length) (fun j => [(42, iV j), (7, .all 5)]) (fun j => [(5, .row 33 4 j .iff (fun i => (((ofS l).take j).getD i default).enc))]) (fun j => (groups l).length - j) ⟨0, [0, 1, 2, 3, 4, 5], Nat.zero_le _, ?_⟩ ?_
    · conv => whnf
      repeat' (first | exact True.intro | exact rfl | exact subZ_self _ | exact subR_self _ | exact subM_datR _ _ _ | exact Or.inr rfl | exact fun _ _ => rfl | exact fun _ h => absurd h (Nat.not_lt_zero _) | refine And.intro ?_ ?_)
    intro j hj
    conv => whnf
    refine ⟨fun h1 => ?_, fun h1 => ?_⟩
    · have h1 : j < (groups l).length := by have h : (j : Int) < (groups l).length := of_decide_eq_true h1
                                            omega
      obtain ⟨A, k, rs, B, hG, hAl, hA, hgj, hne, hrl⟩ := groups_split h1
      have hw1 : IntKind.i64.wrap ((j : Int) + 1) = ((j + 1 : Nat) : Int) := by rw [w64_in _ (by omega)]; omega
      have hkey : keysF (groups l) j = keyD k := by unfold keysF; rw [hgj]
      conv => whnf
      refine ⟨by omega, ?_⟩
      conv => whnf
      have hfm : findM (datR 5 ((groups l).map entD)) [DV.str k.1, DV.int .u16 k.2] = some [.d (rrsD false rs)] := by rw [hG]; exact findM_at A hA
      rw [Int.toNat_natCast, hgj]
      refine ⟨_, hfm, ?_⟩
      conv => whnf
      have hpos : 0 < rs.length := List.length_pos_iff.2 hne
      refine ⟨by omega, ?_⟩
      conv => whnf
      refine ⟨_, hfm, ?_⟩
      conv => whnf
      refine .data _ (build_ok _ _ false rs hpos (by omega)) rfl rfl ?_
      conv => whnf
      refine ⟨by omega, ?_⟩
      conv => whnf
      rw [hw1]
      refine ⟨j + 1, [0, 1, 2, 3, 4, 8], h1, by omega, ?_⟩
      have hot : (ofS l).take (j + 1) = (ofS l).take j ++ [ofG (k, rs)] := by
        unfold ofS
        rw [List.take_add_one, List.getElem?_map, hG, List.getElem?_append_right (by omega), hAl, Nat.sub_self]
        rfl
      have hol : ((ofS l).take j).length = j := by unfold ofS; simp; omega
      rw [hot]
      conv => whnf
      repeat' (first | exact True.intro | exact rfl | exact subZ_self _ | exact subR_self _ | exact subM_datR _ _ _ | exact Or.inr rfl | exact fun _ _ => rfl | exact fun _ h => absurd h (Nat.not_lt_zero _) | refine And.intro ?_ ?_)
      intro x hx
      have := st_cat ((ofS l).take j) (ofG (k, rs)) x (by omega)
      rw [hol] at this
      exact this
    · have h1 : j = (groups l).length := by have h : ¬ (j : Int) < (groups l).length := of_decide_eq_false h1
                                            omega
      have hol : (ofS l).take j = ofS l := by rw [List.take_of_length_le]; unfold ofS; simp; omega
      have holl : (ofS l).length = j := by unfold ofS; simp; omega
      rw [hol]
      conv => whnf
      repeat' (first | exact True.intro | exact rfl | exact ⟨rfl, rfl, .inr rfl, fun _ _ => rfl⟩ | exact ⟨rfl, rfl, .inl rfl, fun i hi => absurd hi (Nat.not_lt_zero _)⟩ | refine And.intro ?_ ?_)
      · rw [← holl]; cases ofS l <;> rfl
      · exact holl.symm
      · exact .inr rfl
      · exact fun _ _ => rfl
end Go.Proofs.Ytdphkaiijlekhaa
namespace Go.Proofs.Ytdphkaiijlekhaa
open Go Go.Eng
theorem teq_len {a b : List (List UInt8)} (h : a.length ≠ b.length) : (a == b) = false := by
  cases e : a == b
  · rfl
  · exact absurd (congrArg List.length (eq_of_beq e)) h
def texD (z : Bool) (l : List (List UInt8)) : DV := .sl z l.length 1 (strs l)
set_option maxRecDepth 100000
set_option maxHeartbeats 4000000 in
theorem teq_ok (y z : Bool) (a b : List (List UInt8)) (ha : a.length < 4611686018427387904) (hb : b.length < 4611686018427387904) : FnOk Try.prog 71 [.d (texD y a), .d (texD z b)] (.d (.bool (a == b))) := by
  refine fnOk_of_run (TT := TT) (IN := lookI []) TT_ok INok_nil mixed 1000 Try.func71 rfl (enters Try.func71 (by kernel_rfl) rfl) rfl 24 (by kernel_rfl) ?_
  conv => whnf
  refine ⟨fun h1 => ?_, fun h1 => ?_⟩
  · have h : a.length ≠ b.length := by intro e; rw [e] at h1; simp at h1
    rw [teq_len h]
    conv => whnf
    first | done | exact rfl
  have hl : a.length = b.length := by simp at h1; omega
  conv => whnf
  refine .inv Nat (fun i => i ≤ a.length ∧ (a.drop i == b.drop i) = (a == b)) (fun i => [(13, .d (.int .i64 i))]) (fun _ => []) (fun i => a.length - i) ⟨0, [], ⟨Nat.zero_le _, rfl⟩, ?_⟩ ?_
  · conv => whnf
    repeat' (first | exact True.intro | exact rfl | exact fun _ => Iff.rfl | exact fun _ _ => rfl | exact renM_ent rfl _ | refine And.intro ?_ ?_)
  rintro i ⟨hi, hrest⟩
  conv => whnf
  refine ⟨fun c5 => ?_, fun c5 => ?_⟩
  · have c5' : i < a.length := (by have h : (i : Int) < a.length := of_decide_eq_true c5; omega)
    conv => whnf
    refine ⟨by omega, ?_⟩
    conv => whnf
    refine ⟨by omega, ?_⟩
    conv => whnf
    obtain ⟨q, hq⟩ : ∃ q, a[i]?.getD [] = q := ⟨_, rfl⟩
    obtain ⟨r, hr⟩ : ∃ r, b[i]?.getD [] = r := ⟨_, rfl⟩
    rw [Int.toNat_natCast, hq, hr]
    have hda : a.drop i = q :: a.drop (i + 1) := by
      rw [List.drop_eq_getElem_cons c5', ← hq, List.getElem?_eq_getElem c5']
      rfl
    have hdb : b.drop i = r :: b.drop (i + 1) := by
      rw [List.drop_eq_getElem_cons (by omega), ← hr, List.getElem?_eq_getElem (by omega)]
      rfl
    have hst : (q == r && a.drop (i + 1) == b.drop (i + 1)) = (a == b) := by rw [← hrest, hda, hdb]; rfl
    cases he : q == r
    · rw [he, Bool.false_and] at hst
      rw [← hst]
      refine brT rfl ?_
      conv => whnf
      first | done | exact rfl
    · rw [he, Bool.true_and] at hst
      refine brF rfl ?_
      conv => whnf
      have hw1 : IntKind.i64.wrap ((i : Int) + 1) = ((i + 1 : Nat) : Int) := by rw [w64_in _ (by omega)]; omega
      refine ⟨i + 1, [], ⟨c5', hst⟩, by omega, ?_⟩
      conv => whnf
      rw [hw1]
      repeat' (first | exact True.intro | exact rfl | exact fun _ => Iff.rfl | exact fun _ _ => rfl | exact renM_ent rfl _ | refine And.intro ?_ ?_)
  have hia : i = a.length := (by have h : ¬ (i : Int) < a.length := of_decide_eq_false c5; omega)
  rw [List.drop_of_length_le (by omega), List.drop_of_length_le (by omega)] at hrest
  rw [← hrest]
  conv => whnf
  exact rfl
set_option maxHeartbeats 4000000 in
theorem rteq_ok (y z : Bool) (a b : List (List UInt8)) (ha : a.length < 4611686018427387904) (hb : b.length < 4611686018427387904) : FnOk Try.prog 68 [.d (texD y a), .d (texD z b)] (.d (.bool (a == b))) := by
  refine fnOk_of_run (TT := TT) (IN := lookI []) TT_ok INok_nil mixed 1000 Try.func68 rfl (enters Try.func68 (by kernel_rfl) rfl) rfl 24 (by kernel_rfl) ?_
  conv => whnf
  refine ⟨fun h1 => ?_, fun h1 => ?_⟩
  · have h : a.length ≠ b.length := by intro e; rw [e] at h1; simp at h1
    rw [teq_len h]
    conv => whnf
    first | done | exact rfl
  have hl : a.length = b.length := by simp at h1; omega
  conv => whnf
  refine .inv Nat (fun i => i ≤ a.length ∧ (a.drop i == b.drop i) = (a == b)) (fun i => [(13, .d (.int .i64 i))]) (fun _ => []) (fun i => a.length - i) ⟨0, [], ⟨Nat.zero_le _, rfl⟩, ?_⟩ ?_
  · conv => whnf
    repeat' (first | exact True.intro | exact rfl | exact fun _ => Iff.rfl | exact fun _ _ => rfl | exact renM_ent rfl _ | refine And.intro ?_ ?_)
  rintro i ⟨hi, hrest⟩
  conv => whnf
  refine ⟨fun c5 => ?_, fun c5 => ?_⟩
  · have c5' : i < a.length := (by have h : (i : Int) < a.length := of_decide_eq_true c5; omega)
    conv => whnf
    refine ⟨by omega, ?_⟩
    conv => whnf
    refine ⟨by omega, ?_⟩
    conv => whnf
    obtain ⟨q, hq⟩ : ∃ q, a[i]?.getD [] = q := ⟨_, rfl⟩
    obtain ⟨r, hr⟩ : ∃ r, b[i]?.getD [] = r := ⟨_, rfl⟩
    rw [Int.toNat_natCast, hq, hr]
    have hda : a.drop i = q :: a.drop (i + 1) := by
      rw [List.drop_eq_getElem_cons c5', ← hq, List.getElem?_eq_getElem c5']
      rfl
    have hdb : b.drop i = r :: b.drop (i + 1) := by
      rw [List.drop_eq_getElem_cons (by omega), ← hr, List.getElem?_eq_getElem (by omega)]
      rfl
    have hst : (q == r && a.drop (i + 1) == b.drop (i + 1)) = (a == b) := by rw [← hrest, hda, hdb]; rfl
    cases he : q == r
    · rw [he, Bool.false_and] at hst
      rw [← hst]
      refine brT rfl ?_
      conv => whnf
      first | done | exact rfl
    · rw [he, Bool.true_and] at hst
      refine brF rfl ?_
      conv => whnf
      have hw1 : IntKind.i64.wrap ((i : Int) + 1) = ((i + 1 : Nat) : Int) := by rw [w64_in _ (by omega)]; omega
      refine ⟨i + 1, [], ⟨c5', hst⟩, by omega, ?_⟩
      conv => whnf
      rw [hw1]
      repeat' (first | exact True.intro | exact rfl | exact fun _ => Iff.rfl | exact fun _ _ => rfl | exact renM_ent rfl _ | refine And.intro ?_ ?_)
  have hia : i = a.length := (by have h : ¬ (i : Int) < a.length := of_decide_eq_false c5; omega)
  rw [List.drop_of_length_le (by omega), List.drop_of_length_le (by omega)] at hrest
  rw [← hrest]
  conv => whnf
  exact rfl
def sameS (a b : St) : Bool := a.nm == b.nm && (a.ty == b.ty && (a.ttl == b.ttl && a.data == b.data))
set_option maxHeartbeats 4000000 in
theorem ssame_ok (a b : St) (ha : a.data.length < 4611686018427387904) (hb : b.data.length < 4611686018427387904) : FnOk Try.prog 29 [a.V, b.V] (.d (.bool (sameS a b))) := by
  refine fnOk_of_run (TT := TT) (IN := lookI []) TT_ok INok_nil mixed 1000 Try.func29 rfl (enters Try.func29 (by kernel_rfl) rfl) rfl 29 (by kernel_rfl) ?_
  conv => whnf
  cases h1 : a.nm == b.nm
  · refine brF rfl ?_
    conv => whnf
    rw [show sameS a b = false by unfold sameS; rw [h1]; rfl]
    repeat (first | (refine brF rfl ?_; conv => whnf))
    try exact rfl
  · refine brT rfl ?_
    conv => whnf
    cases h2 : a.ty == b.ty
    · rw [show sameS a b = false by unfold sameS; rw [h1, h2]; rfl]
      refine brF rfl ?_
      conv => whnf
      repeat (first | (refine brF rfl ?_; conv => whnf))
      try exact rfl
    · refine brT rfl ?_
      conv => whnf
      cases h3 : a.ttl == b.ttl
      · rw [show sameS a b = false by unfold sameS; rw [h1, h2, h3]; rfl]
        refine brF rfl ?_
        conv => whnf
        repeat (first | (refine brF rfl ?_; conv => whnf))
        try exact rfl
      · rw [show sameS a b = (a.data == b.data) by unfold sameS; rw [h1, h2, h3]; rfl]
        refine brT rfl ?_
        conv => whnf
        first
          | refine .one (.data _ (teq_ok a.z b.z a.data b.data ha hb) rfl rfl ?_)
          | refine .one (.data _ (rteq_ok a.z b.z a.data b.data ha hb) rfl rfl ?_)
        conv => whnf
        try exact rfl
set_option maxHeartbeats 4000000 in
theorem rsame_ok (a b : St) (ha : a.data.length < 4611686018427387904) (hb : b.data.length < 4611686018427387904) : FnOk Try.prog 22 [a.V, b.V] (.d (.bool (sameS a b))) := by
  refine fnOk_of_run (TT := TT) (IN := lookI []) TT_ok INok_nil mixed 1000 Try.func22 rfl (enters Try.func22 (by kernel_rfl) rfl) rfl 29 (by kernel_rfl) ?_
  conv => whnf
  cases h1 : a.nm == b.nm
  · refine brF rfl ?_
    conv => whnf
    rw [show sameS a b = false by unfold sameS; rw [h1]; rfl]
    repeat (first | (refine brF rfl ?_; conv => whnf))
    try exact rfl
  · refine brT rfl ?_
    conv => whnf
    cases h2 : a.ty == b.ty
    · rw [show sameS a b = false by unfold sameS; rw [h1, h2]; rfl]
      refine brF rfl ?_
      conv => whnf
      repeat (first | (refine brF rfl ?_; conv => whnf))
      try exact rfl
    · refine brT rfl ?_
      conv => whnf
      cases h3 : a.ttl == b.ttl
      · rw [show sameS a b = false by unfold sameS; rw [h1, h2, h3]; rfl]
        refine brF rfl ?_
        conv => whnf
        repeat (first | (refine brF rfl ?_; conv => whnf))
        try exact rfl
      · rw [show sameS a b = (a.data == b.data) by unfold sameS; rw [h1, h2, h3]; rfl]
        refine brT rfl ?_
        conv => whnf
        first
          | refine .one (.data _ (teq_ok a.z b.z a.data b.data ha hb) rfl rfl ?_)
          | refine .one (.data _ (rteq_ok a.z b.z a.data b.data ha hb) rfl rfl ?_)
        conv => whnf
        try exact rfl
def sameL : List St → List St → Bool
  | [], [] => true
  | a :: l, b :: m => sameS a b && sameL l m
  | _, _ => false
theorem sameL_len {a b : List St} (h : a.length ≠ b.length) : sameL a b = false := by
  induction a generalizing b with
  | nil => cases b with
    | nil => exact absurd rfl h
    | cons x b => rfl
  | cons x a ih => cases b with
    | nil => rfl
    | cons y b => unfold sameL; rw [ih (by simpa using h)]; simp
set_option maxHeartbeats 4000000 in
theorem rsamel_ok (y z : Bool) (a b : List St) (ha : a.length < 4611686018427387904) (hb : b.length < 4611686018427387904) (hda : ∀ s ∈ a, s.data.length < 4611686018427387904) (hdb : ∀ s ∈ b, s.data.length < 4611686018427387904) : FnOk Try.prog 23 [.d (stsD y a), .d (stsD z b)] (.d (.bool (sameL a b))) := by
  refine fnOk_of_run (TT := TT) (IN := lookI []) TT_ok INok_nil mixed 1000 Try.func23 rfl (enters Try.func23 (by kernel_rfl) rfl) rfl 25 (by kernel_rfl) ?_
  conv => whnf
  refine ⟨fun h1 => ?_, fun h1 => ?_⟩
  · have h : a.length ≠ b.length := by intro e; rw [e] at h1; simp at h1
    rw [sameL_len h]
    conv => whnf
    first | done | exact rfl
  have hl : a.length = b.length := by simp at h1; omega
  conv => whnf
  refine .inv Nat (fun i => i ≤ a.length ∧ sameL (a.drop i) (b.drop i) = sameL a b) (fun i => [(13, .d (.int .i64 i))]) (fun _ => []) (fun i => a.length - i) ⟨0, [], ⟨Nat.zero_le _, rfl⟩, ?_⟩ ?_
  · conv => whnf
    repeat' (first | exact True.intro | exact rfl | exact fun _ => Iff.rfl | exact fun _ _ => rfl | exact renM_ent rfl _ | refine And.intro ?_ ?_)
  rintro i ⟨hi, hrest⟩
  conv => whnf
  refine ⟨fun c5 => ?_, fun c5 => ?_⟩
  · have c5' : i < a.length := (by have h : (i : Int) < a.length := of_decide_eq_true c5; omega)
    conv => whnf
    refine ⟨by omega, ?_⟩
    conv => whnf
    refine ⟨by omega, ?_⟩
    conv => whnf
    obtain ⟨q, hq⟩ : ∃ q, a.getD i default = q := ⟨_, rfl⟩
    obtain ⟨r, hr⟩ : ∃ r, b.getD i default = r := ⟨_, rfl⟩
    have hda' : a.drop i = q :: a.drop (i + 1) := by
      rw [List.drop_eq_getElem_cons c5', ← hq, List.getD, List.getElem?_eq_getElem c5']
      rfl
    have hdb' : b.drop i = r :: b.drop (i + 1) := by
      rw [List.drop_eq_getElem_cons (by omega), ← hr, List.getD, List.getElem?_eq_getElem (by omega)]
      rfl
    have hqm : q ∈ a := List.mem_of_mem_drop (i := i) (by rw [hda']; simp)
    have hrm : r ∈ b := List.mem_of_mem_drop (i := i) (by rw [hdb']; simp)
    have hst : (sameS q r && sameL (a.drop (i + 1)) (b.drop (i + 1))) = sameL a b := by rw [← hrest, hda', hdb']; rfl
    rw [Int.toNat_natCast, hq, hr]
    refine .data _ (rsame_ok q r (hda q hqm) (hdb r hrm)) rfl rfl ?_
    conv => whnf
    cases he : sameS q r
    · rw [he, Bool.false_and] at hst
      rw [← hst]
      refine brT rfl ?_
      conv => whnf
      first | done | exact rfl
    · rw [he, Bool.true_and] at hst
      refine brF rfl ?_
      conv => whnf
      have hw1 : IntKind.i64.wrap ((i : Int) + 1) = ((i + 1 : Nat) : Int) := by rw [w64_in _ (by omega)]; omega
      refine ⟨i + 1, [], ⟨c5', hst⟩, by omega, ?_⟩
      conv => whnf
      rw [hw1]
      repeat' (first | exact True.intro | exact rfl | exact fun _ => Iff.rfl | exact fun _ _ => rfl | exact renM_ent rfl _ | refine And.intro ?_ ?_)
  have hia : i = a.length := (by have h : ¬ (i : Int) < a.length := of_decide_eq_false c5; omega)
  rw [List.drop_of_length_le (by omega), List.drop_of_length_le (by omega)] at hrest
  rw [← hrest]
  conv => whnf
  exact rfl
/-- Is it right? -/
def St.ok (s : St) : Bool := scheck s.nm s.ty s.ttl s.data
def recsS (s : St) : List RR := s.data.map fun d => ⟨s.nm, s.ty, 1, s.ttl, d⟩
set_option maxHeartbeats 8000000 in
theorem records_ok (s : St) : FnOk Try.prog 27 [s.V] (.d (if s.ok then rrsD false (recsS s) else rrsD true [])) := by
  refine fnOk_of_run (TT := TT) (IN := lookI []) TT_ok INok_nil mixed 1000 Try.func27 rfl (enters Try.func27 (by kernel_rfl) rfl) rfl 32 (by kernel_rfl) ?_
  conv => whnf
  refine .one (.data _ (scheck_ok s.nm s.ty s.ttl s.z s.data) rfl rfl ?_)
  rw [show scheck s.nm s.ty s.ttl s.data = s.ok from rfl]
  cases hok : s.ok with
  | false =>
    conv => whnf
    refine brT rfl ?_
    conv => whnf
    first | exact rfl | repeat' (first | exact True.intro | exact rfl | exact ⟨rfl, rfl, .inr rfl, fun _ _ => rfl⟩ | exact ⟨rfl, rfl, .inl rfl, fun i hi => absurd hi (Nat.not_lt_zero _)⟩ | refine And.intro ?_ ?_)
  | true =>
    have h64 : s.data.length ≤ 64 := by
      unfold St.ok scheck at hok
      simp only [Bool.and_eq_true, decide_eq_true_eq] at hok
      exact hok.1.2.2
    conv => whnf
    refine brF rfl ?_
    conv => whnf
    refine ⟨⟨by omega, by omega, by show (s.data.length : Int) * 40 ≤ _; omega, by omega⟩, ?_⟩
    conv => whnf
    refine .inv Nat (fun j => j ≤ s.data.length) (fun j => [(16, iV j), (3, .all 1), (12, .any)]) (fun j => [(1, .row 60 5 j .no (rrs ((recsS s).take j)))]) (fun j => s.data.length - j) ⟨0, [0, 1], Nat.zero_le _, ?_⟩ ?_
    · conv => whnf
      repeat' (first | exact True.intro | exact rfl | exact subZ_self _ | exact Or.inr rfl | exact fun _ _ => rfl | exact fun _ h => absurd h (Nat.not_lt_zero _) | refine And.intro ?_ ?_)
    intro j hj
    conv => whnf
    refine ⟨fun h1 => ?_, fun h1 => ?_⟩
    · have h1 : j < s.data.length := by have h : (j : Int) < s.data.length := of_decide_eq_true h1
                                        omega
      have hw1 : IntKind.i64.wrap ((j : Int) + 1) = ((j + 1 : Nat) : Int) := by rw [w64_in _ (by omega)]; omega
      conv => whnf
      refine ⟨by omega, ?_⟩
      conv => whnf
      refine ⟨by omega, ?_⟩
      conv => whnf
      rw [hw1, Int.toNat_natCast]
      have hot : (recsS s).take (j + 1) = (recsS s).take j ++ [⟨s.nm, s.ty, 1, s.ttl, s.data[j]?.getD []⟩] := by
        unfold recsS
        rw [List.take_add_one, List.getElem?_map, List.getElem?_eq_getElem h1]
        rfl
      have hol : ((recsS s).take j).length = j := by unfold recsS; simp; omega
      refine ⟨j + 1, [0, 3], h1, by omega, ?_⟩
      rw [hot]
      conv => whnf
      repeat' (first | exact True.intro | exact rfl | exact subZ_self _ | exact Or.inr rfl | exact fun _ _ => rfl | exact fun _ h => absurd h (Nat.not_lt_zero _) | refine And.intro ?_ ?_)
      intro x hx
      have := rr_cat ((recsS s).take j) ⟨s.nm, s.ty, 1, s.ttl, s.data[j]?.getD []⟩ x (by omega)
      rw [hol] at this
      exact this
    · have h1 : j = s.data.length := by have h : ¬ (j : Int) < s.data.length := of_decide_eq_false h1
                                        omega
      have hrl : (recsS s).length = j := by unfold recsS; simp; omega
      rw [List.take_of_length_le (by omega)]
      conv => whnf
      refine ⟨rfl, ?_, .inr rfl, fun _ _ => rfl⟩
      exact hrl.symm
end Go.Proofs.Ytdphkaiijlekhaa
namespace Go.Proofs.Ytdphkaiijlekhaa
open Go Go.Eng
def sameN (a b : List UInt8) : Bool := decide (isName a) && (decide (isName b) && fold a == fold b)
theorem fold_len (s : List UInt8) : (fold s).length = s.length := by simp [fold]
theorem isName_short {s : List UInt8} (h : isName s) : s.length < 9223372036854775808 := by have := h.2.1; omega
set_option maxRecDepth 100000
set_option maxHeartbeats 4000000 in
theorem lsame_ok (a b : List UInt8) : FnOk Try.prog 72 [.d (.str a), .d (.str b)] (.d (.bool (sameN a b))) := by
  refine fnOk_of_run (TT := TT) (IN := lookI []) TT_ok INok_nil mixed 1000 Try.func72 rfl (enters Try.func72 (by kernel_rfl) rfl) rfl 25 (by kernel_rfl) ?_
  conv => whnf
  cases h0 : ((a.length : Int) == (b.length : Int))
  · have : sameN a b = false := by
      cases hf : fold a == fold b
      · unfold sameN; rw [hf, Bool.and_false, Bool.and_false]
      · have := congrArg List.length (eq_of_beq hf)
        rw [fold_len, fold_len] at this
        rw [this] at h0; simp at h0
    rw [this]
    refine brF rfl ?_
    conv => whnf
    repeat (first | (refine brF rfl ?_; conv => whnf))
    try exact rfl
  · refine brT rfl ?_
    conv => whnf
    refine .one (.data _ (check_ok a) rfl rfl ?_)
    by_cases ha : isName a
    · rw [if_pos ha]
      conv => whnf
      refine brT rfl ?_
      conv => whnf
      refine .one (.data _ (check_ok b) rfl rfl ?_)
      by_cases hb : isName b
      · rw [if_pos hb]
        conv => whnf
        refine brT rfl ?_
        conv => whnf
        refine .one (.data _ (fold_ok a (isName_short ha)) rfl rfl ?_)
        conv => whnf
        refine .one (.data _ (fold_ok b (isName_short hb)) rfl rfl ?_)
        rw [show sameN a b = (fold a == fold b) by unfold sameN; rw [decide_eq_true ha, decide_eq_true hb]; rfl]
        conv => whnf
        try exact rfl
      · rw [if_neg hb, show sameN a b = false by unfold sameN; rw [decide_eq_false hb, Bool.false_and, Bool.and_false]]
        conv => whnf
        refine brF rfl ?_
        conv => whnf
        repeat (first | (refine brF rfl ?_; conv => whnf))
        try exact rfl
    · rw [if_neg ha, show sameN a b = false by unfold sameN; rw [decide_eq_false ha, Bool.false_and]]
      conv => whnf
      refine brF rfl ?_
      conv => whnf
      repeat (first | (refine brF rfl ?_; conv => whnf))
      try exact rfl
def eqF (t u : Int) (a b : List (List UInt8)) : Bool := a.map (rfold t) == b.map (rfold u)
def saysS (a b : St) : Bool := a.ok && (b.ok && (sameN a.nm b.nm && (a.ty == b.ty && eqF a.ty b.ty a.data b.data)))
set_option maxHeartbeats 8000000 in
theorem says_ok (a b : St) : FnOk Try.prog 30 [a.V, b.V] (.d (.bool (saysS a b))) := by
  refine fnOk_of_run (TT := TT) (IN := lookI [(73, Try.f73, 3), (74, Try.f74, 4)]) TT_ok (INok_cons (INok_cons INok_nil Try.func74 (by kernel_rfl) (by kernel_rfl)) Try.func73 (by kernel_rfl) (by kernel_rfl)) mixed 1000 Try.func30 rfl (enters Try.func30 (by kernel_rfl) rfl) rfl 32 (by kernel_rfl) ?_
  conv => whnf
  refine .one (.data _ (scheck_ok a.nm a.ty a.ttl a.z a.data) rfl rfl ?_)
  rw [show scheck a.nm a.ty a.ttl a.data = a.ok from rfl]
  cases hok : a.ok with
  | false =>
    rw [show saysS a b = false by unfold saysS; rw [hok]; rfl]
    conv => whnf
    repeat (first | (refine brT rfl ?_; conv => whnf))
    try exact rfl
  | true =>
    conv => whnf
    refine brF rfl ?_
    conv => whnf
    refine .one (.data _ (scheck_ok b.nm b.ty b.ttl b.z b.data) rfl rfl ?_)
    rw [show scheck b.nm b.ty b.ttl b.data = b.ok from rfl]
    cases hok2 : b.ok with
    | false =>
      rw [show saysS a b = false by unfold saysS; rw [hok, hok2]; rfl]
      conv => whnf
      repeat (first | (refine brT rfl ?_; conv => whnf))
      try exact rfl
    | true =>
      conv => whnf
      refine brF rfl ?_
      conv => whnf
      refine .one (.data _ (lsame_ok a.nm b.nm) rfl rfl ?_)
      conv => whnf
      cases hs : sameN a.nm b.nm with
      | false =>
        rw [show saysS a b = false by unfold saysS; rw [hok, hok2, hs]; rfl]
        repeat (first | (refine brT rfl ?_; conv => whnf))
        try exact rfl
      | true =>
        refine brF rfl ?_
        conv => whnf
        cases ht : a.ty == b.ty with
        | false =>
          rw [show saysS a b = false by unfold saysS; rw [hok, hok2, hs, ht]; rfl]
          refine brT (by show (!(a.ty == b.ty)) = true; rw [ht]; rfl) ?_
          conv => whnf
          try exact rfl
        | true =>
          rw [show saysS a b = eqF a.ty b.ty a.data b.data by unfold saysS; rw [hok, hok2, hs, ht]; rfl]
          have h64 : a.data.length ≤ 64 := by
            unfold St.ok scheck at hok
            simp only [Bool.and_eq_true, decide_eq_true_eq] at hok
            exact hok.1.2.2
          refine brF (by show (!(a.ty == b.ty)) = false; rw [ht]; rfl) ?_
          conv => whnf
          refine ⟨fun h1 => ?_, fun h1 => ?_⟩
          · have h : a.data.length ≠ b.data.length := by intro e; rw [e] at h1; simp at h1
            rw [show eqF a.ty b.ty a.data b.data = false from teq_len (by simpa using h)]
            conv => whnf
            try exact rfl
          have hl : a.data.length = b.data.length := by simp at h1; omega
          conv => whnf
          refine .inv Nat (fun i => i ≤ a.data.length ∧ eqF a.ty b.ty (a.data.drop i) (b.data.drop i) = eqF a.ty b.ty a.data b.data) (fun i => [(17, iV i)]) (fun _ => []) (fun i => a.data.length - i) ⟨0, [0, 1], ⟨Nat.zero_le _, rfl⟩, ?_⟩ ?_
          · conv => whnf
            repeat' (first | exact True.intro | exact rfl | exact fun _ => Iff.rfl | exact fun _ _ => rfl | exact renM_ent rfl _ | refine And.intro ?_ ?_)
          rintro i ⟨hi, hrest⟩
          conv => whnf
          refine ⟨fun c5 => ?_, fun c5 => ?_⟩
          · have c5' : i < a.data.length := (by have h : (i : Int) < a.data.length := of_decide_eq_true c5; omega)
            obtain ⟨q, hq⟩ : ∃ q, a.data[i]?.getD [] = q := ⟨_, rfl⟩
            obtain ⟨r, hr⟩ : ∃ r, b.data[i]?.getD [] = r := ⟨_, rfl⟩
            have hda : a.data.drop i = q :: a.data.drop (i + 1) := by
              rw [List.drop_eq_getElem_cons c5', ← hq, List.getElem?_eq_getElem c5']
              rfl
            have hdb : b.data.drop i = r :: b.data.drop (i + 1) := by
              rw [List.drop_eq_getElem_cons (by omega), ← hr, List.getElem?_eq_getElem (by omega)]
              rfl
            have hst : (rfold a.ty q == rfold b.ty r && eqF a.ty b.ty (a.data.drop (i + 1)) (b.data.drop (i + 1))) = eqF a.ty b.ty a.data b.data := by rw [← hrest, hda, hdb]; rfl
            have hw1 : IntKind.i64.wrap ((i : Int) + 1) = ((i + 1 : Nat) : Int) := by rw [w64_in _ (by omega)]; omega
            conv => whnf
            refine ⟨by omega, ?_⟩
            conv => whnf
            refine ⟨by omega, ?_⟩
            conv => whnf
            rw [Int.toNat_natCast, hq, hr]
            refine .data _ (rfold_ok a.ty q) rfl rfl ?_
            conv => whnf
            refine .data _ (rfold_ok b.ty r) rfl rfl ?_
            conv => whnf
            cases he : rfold a.ty q == rfold b.ty r
            · rw [he, Bool.false_and] at hst
              rw [← hst]
              refine brT rfl ?_
              conv => whnf
              try exact rfl
            · rw [he, Bool.true_and] at hst
              refine brF rfl ?_
              conv => whnf
              rw [hw1]
              refine ⟨i + 1, [0, 1], ⟨c5', hst⟩, by omega, ?_⟩
              conv => whnf
              repeat' (first | exact True.intro | exact rfl | exact fun _ => Iff.rfl | exact fun _ _ => rfl | exact renM_ent rfl _ | refine And.intro ?_ ?_)
          have hia : i = a.data.length := (by have h : ¬ (i : Int) < a.data.length := of_decide_eq_false c5; omega)
          rw [List.drop_of_length_le (by omega), List.drop_of_length_le (by omega)] at hrest
          rw [← hrest]
          conv => whnf
          exact rfl
end Go.Proofs.Ytdphkaiijlekhaa
