/-
  hardtackref05.Number below 1000; hardtackref42.part, Print. Conditions as said. hardtackref42.Parse. No conditions. hardtackref42.Zone, Reverse. No conditions. hardtackref42.Of. No conditions. Addresses as text and as names, there and back. Plain. hardtacklaw42.lives holds.
-/
import Derived.Test.YtjeihmchcfadlaaDoorB2
import Derived.Test.YtjeihmchcfadlaaDoorB1
set_option linter.unusedVariables false
set_option linter.unusedSimpArgs false
namespace Go.Proofs.YtjeihmchcfadlaaDoor
open Go Go.Eng
set_option maxRecDepth 100000
theorem num10_ok (n : Nat) (h : n < 10) : FnOk Tryd.prog 76 [.d (.int .i64 n)] (.d (.str (dig n))) := by
  refine fnOk_of_run (TT := TT) (IN := lookI []) TT_ok INok_nil mixed 1000 Tryd.func76 rfl (enters Tryd.func76 (by kernel_rfl) rfl) rfl 19 (by kernel_rfl) ?_
  conv => whnf
  refine brT (decide_eq_true (by omega)) ?_
  conv => whnf
  have e : IntKind.u8.wrap (IntKind.i64.wrap (48 + (n : Int))) = ((48 + n : Nat) : Int) := by
    rw [w64_in _ (by omega), IntKind.wrap_u8]; omega
  rw [e]
  unfold dig
  rw [if_pos h]
  rfl
theorem dig_step {n : Nat} (h10 : ¬ n < 10) (h : n < 1000) : dig n = dig (n / 10) ++ [UInt8.ofNat (48 + n % 10)] := by
  unfold dig
  rw [if_neg h10]
  by_cases h1 : n < 100
  · rw [if_pos h1, if_pos (by omega)]
    rfl
  · rw [if_neg h1, if_neg (by omega), if_pos (by omega)]
    simp [Nat.div_div_eq_div_mul]
theorem num_step (n : Nat) (h10 : ¬ n < 10) (h : n < 1000) (hr : FnOk Tryd.prog 76 [.d (.int .i64 (n / 10 : Nat))] (.d (.str (dig (n / 10))))) : FnOk Tryd.prog 76 [.d (.int .i64 n)] (.d (.str (dig n))) := by
  refine fnOk_of_run (TT := TT) (IN := lookI []) TT_ok INok_nil mixed 1000 Tryd.func76 rfl (enters Tryd.func76 (by kernel_rfl) rfl) rfl 19 (by kernel_rfl) ?_
  conv => whnf
  refine brF (decide_eq_false (by omega)) ?_
  conv => whnf
  refine ⟨by decide, ?_⟩
  conv => whnf
  have e1 : IntKind.i64.wrap ((n : Int).tdiv 10) = ((n / 10 : Nat) : Int) := by
    rw [Int.tdiv_eq_ediv_of_nonneg (by omega), w64_in _ (by omega)]; omega
  rw [e1]
  refine .data _ hr rfl rfl ?_
  conv => whnf
  refine ⟨by decide, ?_⟩
  conv => whnf
  have e2 : IntKind.u8.wrap (IntKind.i64.wrap (48 + (n : Int).tmod 10)) = ((48 + n % 10 : Nat) : Int) := by
    rw [Int.tmod_eq_emod_of_nonneg (by omega), w64_in _ (by omega), IntKind.wrap_u8]; omega
  rw [e2, dig_step h10 h]
  have hd := (dig_len (n := n / 10) (by omega)).1
  refine ⟨by show (dig (n / 10)).length + 1 ≤ _; omega, ?_⟩
  conv => whnf
  exact rfl
theorem num_ok (n : Nat) (h : n < 1000) : FnOk Tryd.prog 76 [.d (.int .i64 n)] (.d (.str (dig n))) := by
  by_cases h1 : n < 10
  · exact num10_ok n h1
  · refine num_step n h1 h ?_
    by_cases h2 : n / 10 < 10
    · exact num10_ok _ h2
    · exact num_step _ h2 (by omega) (num10_ok _ (by omega))
theorem part_ok (a : Nat) (i : Nat) (hi : i < 4) : FnOk Tryd.prog 44 [.d (.int .u32 a), .d (.int .i64 i)] (.d (.str (dig (prt a i)))) := by
  refine fnOk_of_run (TT := TT) (IN := lookI []) TT_ok INok_nil mixed 1000 Tryd.func44 rfl (enters Tryd.func44 (by kernel_rfl) rfl) rfl 11 (by kernel_rfl) ?_
  conv => whnf
  have e1 : IntKind.i64.wrap (24 - IntKind.i64.wrap (8 * (i : Int))) = ((24 - 8 * i : Nat) : Int) := by
    rw [w64_in (8 * (i : Int)) (by omega), w64_in _ (by omega)]; omega
  rw [e1]
  refine ⟨by omega, ?_⟩
  conv => whnf
  refine ⟨by decide, ?_⟩
  conv => whnf
  have e2 : IntKind.i64.wrap (((a : Int).fdiv (2 ^ min (((24 - 8 * i : Nat) : Int).toNat) IntKind.u32.bits)).tmod 256) = ((prt a i : Nat) : Int) := by
    have hp : (0 : Int) ≤ 2 ^ min (24 - 8 * i) 32 := Int.le_of_lt (Int.pow_pos (by decide))
    have hk : (2 : Nat) ^ min (24 - 8 * i) 32 = 256 ^ (3 - i) := by
      have : i = 0 ∨ i = 1 ∨ i = 2 ∨ i = 3 := by omega
      rcases this with rfl | rfl | rfl | rfl <;> decide
    have e3 : ((a : Int).fdiv (2 ^ min (24 - 8 * i) 32)) = ((a / 256 ^ (3 - i) : Nat) : Int) := by
      rw [Int.fdiv_eq_ediv_of_nonneg _ hp, ← hk]
      simp
    show IntKind.i64.wrap (((a : Int).fdiv (2 ^ min (24 - 8 * i) 32)).tmod 256) = _
    rw [e3]
    unfold prt
    generalize a / 256 ^ (3 - i) = q
    rw [Int.tmod_eq_emod_of_nonneg (by omega), w64_in _ (by omega)]
    omega
  rw [e2]
  refine .one (.data _ (num_ok _ (by have := prt_lt a i; omega)) rfl rfl ?_)
  conv => whnf
theorem rprint_ok (a : Nat) : FnOk Tryd.prog 16 [.d (.int .u32 a)] (.d (.str (printA a))) := by
  refine fnOk_of_run (TT := TT) (IN := lookI []) TT_ok INok_nil mixed 1000 Tryd.func16 rfl (enters Tryd.func16 (by kernel_rfl) rfl) rfl 16 (by kernel_rfl) ?_
  have h0 := (dig_len (n := prt a 0) (by have := prt_lt a 0; omega)).1
  have h1 := (dig_len (n := prt a 1) (by have := prt_lt a 1; omega)).1
  have h2 := (dig_len (n := prt a 2) (by have := prt_lt a 2; omega)).1
  have h3 := (dig_len (n := prt a 3) (by have := prt_lt a 3; omega)).1
  have e := printA_eq a
  conv => whnf
  refine .one (.data _ (part_ok a 0 (by decide)) rfl rfl ?_)
  generalize dig (prt a 0) = d0 at h0 e ⊢
  conv => whnf
  rw [show (⟨#[46]⟩ : ByteArray).data.toList = [46] from rfl]
  refine ⟨by simp only [List.length_append, List.length_cons, List.length_nil]; omega, ?_⟩
  conv => whnf
  refine .one (.data _ (part_ok a 1 (by decide)) rfl rfl ?_)
  generalize dig (prt a 1) = d1 at h1 e ⊢
  conv => whnf
  refine ⟨by simp only [List.length_append, List.length_cons, List.length_nil]; omega, ?_⟩
  conv => whnf
  rw [show (⟨#[46]⟩ : ByteArray).data.toList = [46] from rfl]
  refine ⟨by simp only [List.length_append, List.length_cons, List.length_nil]; omega, ?_⟩
  conv => whnf
  refine .one (.data _ (part_ok a 2 (by decide)) rfl rfl ?_)
  generalize dig (prt a 2) = d2 at h2 e ⊢
  conv => whnf
  refine ⟨by simp only [List.length_append, List.length_cons, List.length_nil]; omega, ?_⟩
  conv => whnf
  rw [show (⟨#[46]⟩ : ByteArray).data.toList = [46] from rfl]
  refine ⟨by simp only [List.length_append, List.length_cons, List.length_nil]; omega, ?_⟩
  conv => whnf
  refine .one (.data _ (part_ok a 3 (by decide)) rfl rfl ?_)
  generalize dig (prt a 3) = d3 at h3 e ⊢
  conv => whnf
  refine ⟨by simp only [List.length_append, List.length_cons, List.length_nil]; omega, ?_⟩
  conv => whnf
  rw [e]
  simp
end Go.Proofs.YtjeihmchcfadlaaDoor
namespace Go.Proofs.YtjeihmchcfadlaaDoor
open Go Go.Eng
set_option maxRecDepth 100000
def rstep (p : Nat × Nat) (c : UInt8) : Nat × Nat := if c.toNat = 46 then ((p.1 * 256 + p.2 % 256) % 4294967296, 0) else (p.1, (10 * p.2 + (c.toNat + 208) % 256 % 10) % 4294967296)
def rfold (s : List UInt8) : Nat × Nat := s.foldl rstep (0, 0)
def rpN (s : List UInt8) : Nat := ((rfold s).1 * 256 + (rfold s).2 % 256) % 4294967296
def rparseV (s : List UInt8) : Nat × Int := if s.length > 15 then (0, 6) else if printA (rpN s) = s then (rpN s, 0) else (0, 6)
theorem rfold_snoc (s : List UInt8) (c : UInt8) : rfold (s ++ [c]) = rstep (rfold s) c := by simp [rfold, List.foldl_append]
theorem rstep_lt {p : Nat × Nat} (h : p.1 < 4294967296 ∧ p.2 < 4294967296) (c : UInt8) : (rstep p c).1 < 4294967296 ∧ (rstep p c).2 < 4294967296 := by
  unfold rstep
  split
  · exact ⟨Nat.mod_lt _ (by decide), by show 0 < 4294967296; omega⟩
  · exact ⟨h.1, Nat.mod_lt _ (by decide)⟩
theorem rfold_lt (s : List UInt8) : (rfold s).1 < 4294967296 ∧ (rfold s).2 < 4294967296 := by
  suffices ∀ (l : List UInt8) (p : Nat × Nat), p.1 < 4294967296 ∧ p.2 < 4294967296 → (l.foldl rstep p).1 < 4294967296 ∧ (l.foldl rstep p).2 < 4294967296 from this s (0, 0) ⟨by decide, by decide⟩
  intro l
  induction l with
  | nil => exact fun p h => h
  | cons c l ih => exact fun p h => ih _ (rstep_lt h c)
theorem u32_muladd {a b : Nat} : IntKind.u32.wrap (IntKind.u32.wrap ((a : Int) * 256) + (b : Int).tmod 256) = (((a * 256 + b % 256) % 4294967296 : Nat) : Int) := by
  rw [Int.tmod_eq_emod_of_nonneg (by omega), IntKind.wrap_u32', IntKind.wrap_u32']
  omega
set_option maxHeartbeats 4000000 in
theorem rparse_ok (s : List UInt8) : FnOk Tryd.prog 10 [.d (.str s)] (.tup [.d (.int .u32 (rparseV s).1), .d (.int .i64 (rparseV s).2)]) := by
  refine fnOk_of_run (TT := TT) (IN := lookI []) TT_ok INok_nil mixed 1000 Tryd.func10 rfl (enters Tryd.func10 (by kernel_rfl) rfl) rfl 43 (by kernel_rfl) ?_
  conv => whnf
  refine ⟨fun h1 => ?_, fun h1 => ?_⟩
  · have h1 : s.length > 15 := by have := of_decide_eq_true h1; omega
    have e : rparseV s = (0, 6) := by unfold rparseV; rw [if_pos h1]
    rw [e]
    conv => whnf
    exact ⟨rfl, rfl, trivial⟩
  have h1 : ¬ s.length > 15 := by have := of_decide_eq_false h1; omega
  have e : rparseV s = (if printA (rpN s) = s then (rpN s, 0) else (0, 6)) := by unfold rparseV; rw [if_neg h1]
  rw [e]
  clear e
  conv => whnf
  refine .inv Nat (fun i => i ≤ s.length) (fun i => [(4, .d (.int .u32 (rfold (s.take i)).1)), (5, .d (.int .u32 (rfold (s.take i)).2)), (6, .d (.int .i64 i))]) (fun i => []) (fun i => s.length - i) ⟨0, [], Nat.zero_le _, ?_⟩ ?_
  · conv => whnf
    repeat' (first | exact True.intro | exact rfl | exact fun _ => Iff.rfl | exact fun _ _ => rfl | exact renM_ent rfl _ | refine And.intro ?_ ?_)
  intro i hi
  conv => whnf
  obtain ⟨hx, hy⟩ := rfold_lt (s.take i)
  refine ⟨fun c1 => ?_, fun c1 => ?_⟩
  · have c1 : (i : Int) < s.length := of_decide_eq_true c1
    have hil : i < s.length := by omega
    have hw1 : IntKind.i64.wrap ((i : Int) + 1) = ((i + 1 : Nat) : Int) := by rw [w64_in _ (by omega)]; omega
    have htk : s.take (i + 1) = s.take i ++ [s[i]] := by rw [List.take_add_one, List.getElem?_eq_getElem hil]; rfl
    have hby : byteAt s (i : Int) = (s[i].toNat : Int) := by
      rw [bt_eq]
      unfold bt
      rw [List.getElem?_eq_getElem hil]
      rfl
    have hn := rfold_snoc (s.take i) s[i]
    rw [← htk] at hn
    have hlt := UInt8.toNat_lt s[i]
    generalize hg : s[i] = c at hby hn hlt
    clear hg
    generalize rfold (s.take i) = p at hx hy hn ⊢
    conv => whnf
    refine ⟨by omega, ?_⟩
    conv => whnf
    rw [hby]
    by_cases h46 : c.toNat = 46
    · refine brT (by rw [h46]; rfl) ?_
      conv => whnf
      refine ⟨by decide, ?_⟩
      conv => whnf
      rw [u32_muladd]
      refine ⟨i + 1, [], hil, by omega, ?_⟩
      rw [hn]
      unfold rstep
      rw [if_pos h46]
      conv => whnf
      rw [hw1]
      repeat' (first | exact True.intro | exact rfl | exact fun _ => Iff.rfl | exact fun _ _ => rfl | exact renM_ent rfl _ | refine And.intro ?_ ?_)
    · refine brF (by rw [beq_eq_false_iff_ne]; omega) ?_
      conv => whnf
      refine ⟨by omega, ?_⟩
      conv => whnf
      rw [hby]
      refine ⟨by decide, ?_⟩
      conv => whnf
      refine ⟨i + 1, [], hil, by omega, ?_⟩
      rw [hn]
      unfold rstep
      rw [if_neg h46]
      conv => whnf
      rw [hw1]
      repeat' (first | exact True.intro | exact rfl | exact fun _ => Iff.rfl | exact fun _ _ => rfl | exact renM_ent rfl _ | refine And.intro ?_ ?_)
      refine congrArg SV.d (congrArg (DV.int _) ?_)
      have e1 : (IntKind.u8.wrap ((c.toNat : Int) - 48)).tmod 10 = (((c.toNat + 208) % 256 % 10 : Nat) : Int) := by
        have : IntKind.u8.wrap ((c.toNat : Int) - 48) = (((c.toNat + 208) % 256 : Nat) : Int) := by rw [IntKind.wrap_u8]; omega
        rw [this, Int.tmod_eq_emod_of_nonneg (by omega)]
        omega
      rw [e1, IntKind.wrap_u32', IntKind.wrap_u32', IntKind.wrap_u32']
      show _ = (((10 * p.2 + (c.toNat + 208) % 256 % 10) % 4294967296 : Nat) : Int)
      omega
  · have c1 : ¬ (i : Int) < s.length := of_decide_eq_false c1
    rw [List.take_of_length_le (by omega)] at hx hy ⊢
    conv => whnf
    refine ⟨by decide, ?_⟩
    conv => whnf
    rw [u32_muladd]
    refine .one (.data _ (rprint_ok _) rfl rfl ?_)
    conv => whnf
    have hb : ((rfold s).1 * 256 + (rfold s).2 % 256) % 4294967296 = rpN s := rfl
    rw [hb]
    generalize rpN s = b
    by_cases hb : printA b = s
    · rw [if_pos hb]
      refine brF (by simp [hb]) ?_
      conv => whnf
      exact ⟨rfl, rfl, trivial⟩
    · rw [if_neg hb]
      refine brT (by simpa using hb) ?_
      conv => whnf
      exact ⟨rfl, rfl, trivial⟩
end Go.Proofs.YtjeihmchcfadlaaDoor
namespace Go.Proofs.YtjeihmchcfadlaaDoor
open Go Go.Eng
set_option maxRecDepth 100000
theorem DSL.same : ∀ l : List DV, DSL l l
  | [] => trivial
  | a :: l => ⟨.refl a, DSL.same l⟩
theorem row_same {P : Program} {f : FuncId} {b : Bool} {n sz : Nat} {g h : Nat → List DV} {r : SV} (hk : FnOk P f [.d (.sl b n sz g)] r) (he : ∀ i, i < n → h i = g i) : FnOk P f [.d (.sl b n sz h)] r :=
  hk.conv ⟨DS.rows fun i hi => by rw [he i hi]; exact DSL.same _, trivial⟩
set_option maxHeartbeats 4000000 in
theorem rzone_ok (a : Nat) (n : Int) : FnOk Tryd.prog 14 [.d (.int .u32 a), .d (.int .i64 n)] (if n < 0 ∨ n > 32 ∨ n.tmod 8 ≠ 0 then .tup [.d (.str []), .d (.int .i64 1)] else .tup [.d (.str (mk (zoneA a (n / 8).toNat))), .d (.int .i64 0)]) := by
  refine fnOk_of_run (TT := TT) (IN := lookI []) TT_ok INok_nil mixed 1000 Tryd.func14 rfl (enters Tryd.func14 (by kernel_rfl) rfl) rfl 32 (by kernel_rfl) ?_
  conv => whnf
  by_cases hc : n < 0 ∨ n > 32 ∨ n.tmod 8 ≠ 0
  · rw [if_pos hc]
    by_cases h1 : n < 0
    · refine brT (decide_eq_true h1) ?_
      conv => whnf
      exact ⟨rfl, rfl, trivial⟩
    refine brF (decide_eq_false h1) ?_
    conv => whnf
    by_cases h2 : n > 32
    · refine brT (decide_eq_true h2) ?_
      conv => whnf
      exact ⟨rfl, rfl, trivial⟩
    refine brF (decide_eq_false h2) ?_
    conv => whnf
    have h3 : n.tmod 8 ≠ 0 := by
      rcases hc with h | h | h
      · exact absurd h h1
      · exact absurd h h2
      · exact h
    refine ⟨by decide, ?_⟩
    conv => whnf
    refine brT (bne_iff_ne.2 h3) ?_
    conv => whnf
    exact ⟨rfl, rfl, trivial⟩
  · rw [if_neg hc]
    have hr := tmod_cases (n := n) (fun h => hc (.inl h)) (fun h => hc (.inr (.inl h))) (fun h => hc (.inr (.inr h)))
    refine brF (decide_eq_false (fun h => hc (.inl h))) ?_
    conv => whnf
    refine brF (decide_eq_false (fun h => hc (.inr (.inl h)))) ?_
    conv => whnf
    refine ⟨by decide, ?_⟩
    conv => whnf
    refine brF (by rw [bne_eq_false_iff_eq]; exact Decidable.of_not_not fun h => hc (.inr (.inr h))) ?_
    conv => whnf
    clear hc
    rcases hr with rfl | rfl | rfl | rfl | rfl
    · refine .once ?_
      conv => whnf
      refine ⟨by decide, ?_⟩
      conv => whnf
      refine brF (by decide) ?_
      conv => whnf
      refine .one (.look (r := .d (.str (mk (zoneA a 0)))) ?_ rfl ?_)
      · conv => whnf
        refine ⟨row_same (r1make_ok false (zoneA a 0) (by show 2 ≤ 100000; omega) (fun x hx => by have := (zoneA_ok a 0).1 x hx; unfold okL at this; omega)) (fun i hi => ?_), rfl⟩
        match i, hi with
        | 0, _ => rfl
        | 1, _ => rfl
      conv => whnf
      exact ⟨rfl, rfl, trivial⟩
    · refine .once ?_
      conv => whnf
      refine ⟨by decide, ?_⟩
      conv => whnf
      refine brT (by decide) ?_
      conv => whnf
      refine .one (.data _ (part_ok a 0 (by decide)) rfl rfl ?_)
      conv => whnf
      refine ⟨by decide, ?_⟩
      conv => whnf
      refine .once ?_
      conv => whnf
      refine ⟨by decide, ?_⟩
      conv => whnf
      refine brF (by decide) ?_
      conv => whnf
      refine .one (.look (r := .d (.str (mk (zoneA a 1)))) ?_ rfl ?_)
      · conv => whnf
        refine ⟨row_same (r1make_ok false (zoneA a 1) (by show 3 ≤ 100000; omega) (fun x hx => by have := (zoneA_ok a 1).1 x hx; unfold okL at this; omega)) (fun i hi => ?_), rfl⟩
        match i, hi with
        | 0, _ => rfl
        | 1, _ => rfl
        | 2, _ => rfl
      conv => whnf
      exact ⟨rfl, rfl, trivial⟩
    · refine .once ?_
      conv => whnf
      refine ⟨by decide, ?_⟩
      conv => whnf
      refine brT (by decide) ?_
      conv => whnf
      refine .one (.data _ (part_ok a 0 (by decide)) rfl rfl ?_)
      conv => whnf
      refine ⟨by decide, ?_⟩
      conv => whnf
      refine .once ?_
      conv => whnf
      refine ⟨by decide, ?_⟩
      conv => whnf
      refine brT (by decide) ?_
      conv => whnf
      refine .one (.data _ (part_ok a 1 (by decide)) rfl rfl ?_)
      conv => whnf
      refine ⟨by decide, ?_⟩
      conv => whnf
      refine .once ?_
      conv => whnf
      refine ⟨by decide, ?_⟩
      conv => whnf
      refine brF (by decide) ?_
      conv => whnf
      refine .one (.look (r := .d (.str (mk (zoneA a 2)))) ?_ rfl ?_)
      · conv => whnf
        refine ⟨row_same (r1make_ok false (zoneA a 2) (by show 4 ≤ 100000; omega) (fun x hx => by have := (zoneA_ok a 2).1 x hx; unfold okL at this; omega)) (fun i hi => ?_), rfl⟩
        match i, hi with
        | 0, _ => rfl
        | 1, _ => rfl
        | 2, _ => rfl
        | 3, _ => rfl
      conv => whnf
      exact ⟨rfl, rfl, trivial⟩
    · refine .once ?_
      conv => whnf
      refine ⟨by decide, ?_⟩
      conv => whnf
      refine brT (by decide) ?_
      conv => whnf
      refine .one (.data _ (part_ok a 0 (by decide)) rfl rfl ?_)
      conv => whnf
      refine ⟨by decide, ?_⟩
      conv => whnf
      refine .once ?_
      conv => whnf
      refine ⟨by decide, ?_⟩
      conv => whnf
      refine brT (by decide) ?_
      conv => whnf
      refine .one (.data _ (part_ok a 1 (by decide)) rfl rfl ?_)
      conv => whnf
      refine ⟨by decide, ?_⟩
      conv => whnf
      refine .once ?_
      conv => whnf
      refine ⟨by decide, ?_⟩
      conv => whnf
      refine brT (by decide) ?_
      conv => whnf
      refine .one (.data _ (part_ok a 2 (by decide)) rfl rfl ?_)
      conv => whnf
      refine ⟨by decide, ?_⟩
      conv => whnf
      refine .once ?_
      conv => whnf
      refine ⟨by decide, ?_⟩
      conv => whnf
      refine brF (by decide) ?_
      conv => whnf
      refine .one (.look (r := .d (.str (mk (zoneA a 3)))) ?_ rfl ?_)
      · conv => whnf
        refine ⟨row_same (r1make_ok false (zoneA a 3) (by show 5 ≤ 100000; omega) (fun x hx => by have := (zoneA_ok a 3).1 x hx; unfold okL at this; omega)) (fun i hi => ?_), rfl⟩
        match i, hi with
        | 0, _ => rfl
        | 1, _ => rfl
        | 2, _ => rfl
        | 3, _ => rfl
        | 4, _ => rfl
      conv => whnf
      exact ⟨rfl, rfl, trivial⟩
    · refine .once ?_
      conv => whnf
      refine ⟨by decide, ?_⟩
      conv => whnf
      refine brT (by decide) ?_
      conv => whnf
      refine .one (.data _ (part_ok a 0 (by decide)) rfl rfl ?_)
      conv => whnf
      refine ⟨by decide, ?_⟩
      conv => whnf
      refine .once ?_
      conv => whnf
      refine ⟨by decide, ?_⟩
      conv => whnf
      refine brT (by decide) ?_
      conv => whnf
      refine .one (.data _ (part_ok a 1 (by decide)) rfl rfl ?_)
      conv => whnf
      refine ⟨by decide, ?_⟩
      conv => whnf
      refine .once ?_
      conv => whnf
      refine ⟨by decide, ?_⟩
      conv => whnf
      refine brT (by decide) ?_
      conv => whnf
      refine .one (.data _ (part_ok a 2 (by decide)) rfl rfl ?_)
      conv => whnf
      refine ⟨by decide, ?_⟩
      conv => whnf
      refine .once ?_
      conv => whnf
      refine ⟨by decide, ?_⟩
      conv => whnf
      refine brT (by decide) ?_
      conv => whnf
      refine .one (.data _ (part_ok a 3 (by decide)) rfl rfl ?_)
      conv => whnf
      refine ⟨by decide, ?_⟩
      conv => whnf
      refine .once ?_
      conv => whnf
      refine ⟨by decide, ?_⟩
      conv => whnf
      refine brF (by decide) ?_
      conv => whnf
      refine .one (.look (r := .d (.str (mk (zoneA a 4)))) ?_ rfl ?_)
      · conv => whnf
        refine ⟨row_same (r1make_ok false (zoneA a 4) (by show 6 ≤ 100000; omega) (fun x hx => by have := (zoneA_ok a 4).1 x hx; unfold okL at this; omega)) (fun i hi => ?_), rfl⟩
        match i, hi with
        | 0, _ => rfl
        | 1, _ => rfl
        | 2, _ => rfl
        | 3, _ => rfl
        | 4, _ => rfl
        | 5, _ => rfl
      conv => whnf
      exact ⟨rfl, rfl, trivial⟩
theorem rreverse_ok (a : Nat) : FnOk Tryd.prog 18 [.d (.int .u32 a)] (.d (.str (mk (labA a)))) := by
  refine fnOk_of_run (TT := TT) (IN := lookI []) TT_ok INok_nil mixed 1000 Tryd.func18 rfl (enters Tryd.func18 (by kernel_rfl) rfl) rfl 10 (by kernel_rfl) ?_
  conv => whnf
  have h := rzone_ok a 32
  rw [if_neg (by decide)] at h
  refine .one (.data _ h rfl rfl ?_)
  conv => whnf
  exact rfl
end Go.Proofs.YtjeihmchcfadlaaDoor
namespace Go.Proofs.YtjeihmchcfadlaaDoor
open Go Go.Eng
set_option maxRecDepth 100000
/-- The document's address of a reverse name. -/
def rofL (n : List UInt8) (ls : List (List UInt8)) : Nat × Int :=
  if ls.length = 6 then
    if (rparseV (Lib.join (ls.take 4).reverse [46])).2 = 0 ∧ sameN (mk (labA (rparseV (Lib.join (ls.take 4).reverse [46])).1)) n then ((rparseV (Lib.join (ls.take 4).reverse [46])).1, 0) else (0, 3)
  else (0, 3)
def rofV (n : List UInt8) : Nat × Int := match labelsOf n with
  | none => (0, 2)
  | some ls => rofL n ls
set_option maxHeartbeats 8000000 in
theorem rof_ok (n : List UInt8) : FnOk Tryd.prog 12 [.d (.str n)] (.tup [.d (.int .u32 (rofV n).1), .d (.int .i64 (rofV n).2)]) := by
  refine fnOk_of_run (TT := TT) (IN := lookI []) TT_ok INok_nil mixed 1000 Tryd.func12 rfl (enters Tryd.func12 (by kernel_rfl) rfl) rfl 49 (by kernel_rfl) ?_
  conv => whnf
  have hsp := r1split_ok n
  unfold rofV
  cases hl : labelsOf n with
  | none =>
    rw [hl] at hsp
    refine .one (.data _ hsp rfl rfl ?_)
    conv => whnf
    exact ⟨rfl, rfl, trivial⟩
  | some ls =>
    rw [hl] at hsp
    refine .one (.data _ hsp rfl rfl ?_)
    conv => whnf
    have hmk := labelsOf_mk hl
    have hok := hmk.2.1
    clear hmk hl hsp
    by_cases h6 : ls.length = 6
    · obtain ⟨l0, l1, l2, l3, l4, l5, rfl⟩ : ∃ l0 l1 l2 l3 l4 l5, ls = [l0, l1, l2, l3, l4, l5] := by
        match ls, h6 with
        | [l0, l1, l2, l3, l4, l5], _ => exact ⟨l0, l1, l2, l3, l4, l5, rfl⟩
      have k0 := (hok l0 (by simp)).2
      have k1 := (hok l1 (by simp)).2
      have k2 := (hok l2 (by simp)).2
      have k3 := (hok l3 (by simp)).2
      clear hok
      refine brF rfl ?_
      conv => whnf
      refine ⟨⟨by decide, by show (3 : Int) < 6; omega⟩, ?_⟩
      conv => whnf
      rw [show [l0, l1, l2, l3, l4, l5][Int.toNat 3]?.getD [] = l3 from rfl]
      rw [show (⟨#[46]⟩ : ByteArray).data.toList = [46] from rfl]
      refine ⟨by simp only [List.length_append, List.length_cons, List.length_nil]; omega, ?_⟩
      conv => whnf
      refine ⟨⟨by decide, by show (2 : Int) < 6; omega⟩, ?_⟩
      conv => whnf
      rw [show [l0, l1, l2, l3, l4, l5][Int.toNat 2]?.getD [] = l2 from rfl]
      refine ⟨by simp only [List.length_append, List.length_cons, List.length_nil]; omega, ?_⟩
      conv => whnf
      rw [show (⟨#[46]⟩ : ByteArray).data.toList = [46] from rfl]
      refine ⟨by simp only [List.length_append, List.length_cons, List.length_nil]; omega, ?_⟩
      conv => whnf
      refine ⟨⟨by decide, by show (1 : Int) < 6; omega⟩, ?_⟩
      conv => whnf
      rw [show [l0, l1, l2, l3, l4, l5][Int.toNat 1]?.getD [] = l1 from rfl]
      refine ⟨by simp only [List.length_append, List.length_cons, List.length_nil]; omega, ?_⟩
      conv => whnf
      rw [show (⟨#[46]⟩ : ByteArray).data.toList = [46] from rfl]
      refine ⟨by simp only [List.length_append, List.length_cons, List.length_nil]; omega, ?_⟩
      conv => whnf
      refine ⟨⟨by decide, by show (0 : Int) < 6; omega⟩, ?_⟩
      conv => whnf
      rw [show [l0, l1, l2, l3, l4, l5][Int.toNat 0]?.getD [] = l0 from rfl]
      refine ⟨by simp only [List.length_append, List.length_cons, List.length_nil]; omega, ?_⟩
      conv => whnf
      have hJ : l3 ++ [46] ++ l2 ++ [46] ++ l1 ++ [46] ++ l0 = Lib.join (([l0, l1, l2, l3, l4, l5] : List (List UInt8)).take 4).reverse [46] := by simp [Lib.join]
      have e : rofL n [l0, l1, l2, l3, l4, l5] = (if (rparseV (l3 ++ [46] ++ l2 ++ [46] ++ l1 ++ [46] ++ l0)).2 = 0 ∧ sameN (mk (labA (rparseV (l3 ++ [46] ++ l2 ++ [46] ++ l1 ++ [46] ++ l0)).1)) n then ((rparseV (l3 ++ [46] ++ l2 ++ [46] ++ l1 ++ [46] ++ l0)).1, 0) else (0, 3)) := by
        rw [hJ]
        unfold rofL
        rw [if_pos h6]
      clear hJ
      generalize l3 ++ [46] ++ l2 ++ [46] ++ l1 ++ [46] ++ l0 = J at e ⊢
      refine .data _ (rparse_ok J) rfl rfl ?_
      generalize rparseV J = v at e ⊢
      conv => whnf
      by_cases hv : v.2 = 0
      · refine brF (by rw [bne_eq_false_iff_eq]; exact hv) ?_
        conv => whnf
        refine .one (.data _ (rreverse_ok v.1) rfl rfl ?_)
        conv => whnf
        refine .one (.data _ (r1same_ok (mk (labA v.1)) n) rfl rfl ?_)
        conv => whnf
        cases hs : sameN (mk (labA v.1)) n with
        | true =>
          rw [if_pos ⟨hv, hs⟩] at e
          refine brF rfl ?_
          conv => whnf
          show Conv1 [] _ (.d (.int .u32 (rofL n _).1)) ∧ Conv1L [] _ [.d (.int .i64 (rofL n _).2)]
          rw [e]
          exact ⟨rfl, rfl, trivial⟩
        | false =>
          rw [if_neg (fun h => by rw [hs] at h; cases h.2)] at e
          refine brT rfl ?_
          conv => whnf
          show Conv1 [] _ (.d (.int .u32 (rofL n _).1)) ∧ Conv1L [] _ [.d (.int .i64 (rofL n _).2)]
          rw [e]
          exact ⟨rfl, rfl, trivial⟩
      · rw [if_neg (fun h => hv h.1)] at e
        refine brT (bne_iff_ne.2 hv) ?_
        conv => whnf
        show Conv1 [] _ (.d (.int .u32 (rofL n _).1)) ∧ Conv1L [] _ [.d (.int .i64 (rofL n _).2)]
        rw [e]
        exact ⟨rfl, rfl, trivial⟩
    · have e : rofL n ls = (0, 3) := by unfold rofL; rw [if_neg h6]
      refine brT (by rw [bne_iff_ne]; omega) ?_
      conv => whnf
      show Conv1 [] _ (.d (.int .u32 (rofL n ls).1)) ∧ Conv1L [] _ [.d (.int .i64 (rofL n ls).2)]
      rw [e]
      exact ⟨rfl, rfl, trivial⟩
end Go.Proofs.YtjeihmchcfadlaaDoor
namespace Go.Proofs.YtjeihmchcfadlaaDoor
open Go Go.Eng
set_option maxRecDepth 100000
theorem word_dig : ∀ n, n < 256 → word (dig n) = some n := by decide +kernel
theorem dig_all : ∀ n, n < 256 → (dig n).all (fun c => decide (48 ≤ c.toNat ∧ c.toNat ≤ 57)) = true := by decide +kernel
theorem dig_in {n : Nat} (h : n < 256) {c : UInt8} (hc : c ∈ dig n) : 48 ≤ c.toNat ∧ c.toNat ≤ 57 := by
  have := List.all_eq_true.1 (dig_all n h) c hc
  exact of_decide_eq_true this
theorem dig_inj {m n : Nat} (hm : m < 256) (hn : n < 256) (h : dig m = dig n) : m = n := by
  have h1 := word_dig m hm
  rw [h, word_dig n hn] at h1
  exact (Option.some.inj h1).symm
theorem sp_plain : ∀ (w : List UInt8), (∀ c ∈ w, c.toNat ≠ 46) → sp w = [w]
  | [], _ => rfl
  | c :: w, h => by
    have hc : ¬ c = 46 := fun e => h c (by simp) (by rw [e]; rfl)
    simp only [sp, if_neg hc, sp_plain w (fun x hx => h x (by simp [hx]))]
theorem sp_dot : ∀ (w t : List UInt8), (∀ c ∈ w, c.toNat ≠ 46) → sp (w ++ 46 :: t) = w :: sp t
  | [], t, _ => by simp [sp]
  | c :: w, t, h => by
    have hc : ¬ c = 46 := fun e => h c (by simp) (by rw [e]; rfl)
    simp only [List.cons_append, sp, if_neg hc, sp_dot w t (fun x hx => h x (by simp [hx]))]
theorem dig_ne {n : Nat} (h : n < 256) : ∀ c ∈ dig n, c.toNat ≠ 46 := fun c hc => by have := dig_in h hc; omega
theorem sp_print (a : Nat) : sp (printA a) = prts a := by
  rw [printA_eq, sp_dot _ _ (dig_ne (prt_lt a 0)), sp_dot _ _ (dig_ne (prt_lt a 1)), sp_dot _ _ (dig_ne (prt_lt a 2)), sp_plain _ (dig_ne (prt_lt a 3))]
  rfl
theorem prts_val {a : Nat} (ha : a < 4294967296) : ((((0 * 256 % 4294967296 + prt a 0) * 256 % 4294967296 + prt a 1) * 256 % 4294967296) + prt a 2) * 256 % 4294967296 + prt a 3 = a := by
  have e0 : prt a 0 = a / 16777216 % 256 := rfl
  have e1 : prt a 1 = a / 65536 % 256 := rfl
  have e2 : prt a 2 = a / 256 % 256 := rfl
  have e3 : prt a 3 = a / 1 % 256 := rfl
  rw [e0, e1, e2, e3]
  omega
theorem pwL_print {a : Nat} (ha : a < 4294967296) : pwL (sp (printA a)) 0 = some a := by
  rw [sp_print]
  unfold prts
  simp only [pwL, word_dig _ (prt_lt a 0), word_dig _ (prt_lt a 1), word_dig _ (prt_lt a 2), word_dig _ (prt_lt a 3)]
  rw [prts_val ha]
theorem parseV_print {a : Nat} (ha : a < 4294967296) : parseV (printA a) = (a, 0) := by
  have := printA_len a
  unfold parseV
  rw [if_neg (by omega), pwL_print ha]
  simp
/-- A text is an address', or none's. -/
theorem parseV_or (s : List UInt8) : (∃ a, a < 4294967296 ∧ printA a = s ∧ parseV s = (a, 0)) ∨ ((∀ a, a < 4294967296 → printA a ≠ s) ∧ parseV s = (0, 6)) := by
  by_cases h : ∃ a, a < 4294967296 ∧ printA a = s
  · obtain ⟨a, ha, rfl⟩ := h
    exact .inl ⟨a, ha, rfl, parseV_print ha⟩
  · have hn : ∀ a, a < 4294967296 → printA a ≠ s := fun a ha e => h ⟨a, ha, e⟩
    refine .inr ⟨hn, ?_⟩
    unfold parseV
    split
    · rfl
    · split
      · rfl
      · rename_i a ha
        rw [if_neg (hn a (pwL_lt _ (by decide) ha))]
theorem rstep_dig (x y d : Nat) (hd : d < 10) : rstep (x, y) (UInt8.ofNat (48 + d)) = (x, (10 * y + d) % 4294967296) := by
  unfold rstep
  rw [toNat_ofNat (by omega), if_neg (by omega)]
  show (x, (10 * y + (48 + d + 208) % 256 % 10) % 4294967296) = _
  rw [show (48 + d + 208) % 256 % 10 = d by omega]
theorem fold_dig {n : Nat} (h : n < 256) (x : Nat) : (dig n).foldl rstep (x, 0) = (x, n) := by
  unfold dig
  split
  · simp only [List.foldl_cons, List.foldl_nil]
    rw [rstep_dig _ _ _ (by omega)]
    congr 1; omega
  · split
    · simp only [List.foldl_cons, List.foldl_nil]
      rw [rstep_dig _ _ _ (by omega), rstep_dig _ _ _ (by omega)]
      congr 1; omega
    · simp only [List.foldl_cons, List.foldl_nil]
      rw [rstep_dig _ _ _ (by omega), rstep_dig _ _ _ (by omega), rstep_dig _ _ _ (by omega)]
      show (x, (10 * ((10 * ((10 * 0 + n / 100) % 4294967296) + n / 10 % 10) % 4294967296) + n % 10) % 4294967296) = (x, n)
      rw [show n / 100 = n / 10 / 10 from (Nat.div_div_eq_div_mul n 10 10).symm]
      congr 1; omega
theorem rstep_dot (p : Nat × Nat) : rstep p 46 = ((p.1 * 256 + p.2 % 256) % 4294967296, 0) := rfl
theorem rpN_print {a : Nat} (ha : a < 4294967296) : rpN (printA a) = a := by
  unfold rpN rfold
  rw [printA_eq]
  simp only [List.foldl_append, List.foldl_cons, rstep_dot, fold_dig (prt_lt a 0), fold_dig (prt_lt a 1), fold_dig (prt_lt a 2), fold_dig (prt_lt a 3)]
  have e0 : prt a 0 = a / 16777216 % 256 := rfl
  have e1 : prt a 1 = a / 65536 % 256 := rfl
  have e2 : prt a 2 = a / 256 % 256 := rfl
  have e3 : prt a 3 = a / 1 % 256 := rfl
  rw [e0, e1, e2, e3]
  omega
theorem rparseV_eq (s : List UInt8) : rparseV s = parseV s := by
  rcases parseV_or s with ⟨a, ha, rfl, e⟩ | ⟨hn, e⟩
  · have := printA_len a
    rw [e]
    unfold rparseV
    rw [if_neg (by omega), rpN_print ha, if_pos rfl]
  · rw [e]
    unfold rparseV
    split
    · rfl
    · rw [if_neg (hn (rpN s) (Nat.mod_lt _ (by decide)))]
theorem isName_mk {ls : List (List UInt8)} (h : ∀ l ∈ ls, okL l) (hl : (mk ls).length ≤ 255) : isName (mk ls) := by
  rw [isName_labels, labelsOf_of h hl]
  rfl
theorem labN_mk {ls : List (List UInt8)} (h : ∀ l ∈ ls, okL l) (hl : (mk ls).length ≤ 255) : labN (mk ls) = ls := by
  unfold labN
  rw [labelsOf_of h hl]
  rfl
theorem low_dig {c : UInt8} (h : 48 ≤ c.toNat ∧ c.toNat ≤ 57) : low c = c := by
  apply UInt8.toNat_inj.1
  rw [low_nat, if_neg (by omega)]
theorem fold_digs {n : Nat} (h : n < 256) : fold (dig n) = dig n := by
  unfold fold
  conv => rhs; rw [← List.map_id (dig n)]
  exact List.map_congr_left fun c hc => low_dig (dig_in h hc)
theorem fold_labA (a : Nat) : (labA a).map fold = labA a := by
  unfold labA
  simp only [List.map_cons, List.map_nil, fold_digs (prt_lt a 0), fold_digs (prt_lt a 1), fold_digs (prt_lt a 2), fold_digs (prt_lt a 3)]
  rfl
theorem fold_zoneA (a k : Nat) : (zoneA a k).map fold = zoneA a k := by
  unfold zoneA
  rw [List.map_drop, fold_labA]
theorem isName_zone (a k : Nat) : isName (mk (zoneA a k)) := isName_mk (zoneA_ok a k).1 (zoneA_ok a k).2
theorem fl_zone (a k : Nat) : fl (mk (zoneA a k)) = zoneA a k := by
  unfold fl
  rw [labN_mk (zoneA_ok a k).1 (zoneA_ok a k).2, fold_zoneA]
theorem zone4 (a : Nat) : zoneA a 4 = labA a := rfl
theorem sameN_comm (a b : List UInt8) : sameN a b = sameN b a := by
  unfold sameN
  rw [Bool.eq_iff_iff]
  simp only [Bool.and_eq_true, decide_eq_true_eq, beq_iff_eq]
  exact ⟨fun ⟨x, y, z⟩ => ⟨y, x, z.symm⟩, fun ⟨x, y, z⟩ => ⟨y, x, z.symm⟩⟩
theorem sameN_iff {a b : List UInt8} : sameN a b = true ↔ isName a ∧ isName b ∧ fl a = fl b := by
  unfold sameN
  simp only [Bool.and_eq_true, decide_eq_true_eq, beq_iff_eq]
  exact ⟨fun ⟨x, y, z⟩ => ⟨x, y, (fold_eq_fl x y).1 z⟩, fun ⟨x, y, z⟩ => ⟨x, y, (fold_eq_fl x y).2 z⟩⟩
theorem fl_len (n : List UInt8) : (fl n).length = (labN n).length := by simp [fl]
theorem rofV_eq (n : List UInt8) : rofV n = ofV n := by
  unfold rofV ofV
  cases h : labelsOf n with
  | none =>
    have : ¬ isName n := fun hn => by rw [isName_labels, h] at hn; cases hn
    rw [if_neg this]
  | some ls =>
    have hn : isName n := by rw [isName_labels, h]; rfl
    have hl : labN n = ls := by unfold labN; rw [h]; rfl
    rw [if_pos hn, hl]
    show rofL n ls = _
    unfold rofL
    rw [rparseV_eq, sameN_comm]
    by_cases h6 : ls.length = 6
    · rw [if_pos h6]
    · rw [if_neg h6, if_neg]
      rintro ⟨_, hs⟩
      have := (sameN_iff.1 hs).2.2
      have e := congrArg List.length this
      rw [fl_len, hl, ← zone4, fl_zone] at e
      exact h6 e
theorem labA_join (a : Nat) : Lib.join ((labA a).take 4).reverse [46] = printA a := rfl
theorem ofV_labA {a : Nat} (ha : a < 4294967296) : ofV (mk (labA a)) = (a, 0) := by
  have hn := isName_zone a 4
  rw [zone4] at hn
  have hl : labN (mk (labA a)) = labA a := labN_mk (zoneA_ok a 4).1 (zoneA_ok a 4).2
  unfold ofV
  rw [if_pos hn, hl, labA_join, parseV_print ha]
  rw [if_pos ⟨rfl, sameN_iff.2 ⟨hn, hn, rfl⟩⟩]
theorem ofV_back (n : List UInt8) (h : (ofV n).2 = 0) : sameN (mk (labA (ofV n).1)) n = true := by
  unfold ofV at h ⊢
  split at h
  · rename_i hn
    rw [if_pos hn]
    split at h
    · rename_i hs
      rw [if_pos hs, sameN_comm]
      exact hs.2
    · cases h
  · cases h
theorem ofV_lt (n : List UInt8) : (ofV n).1 < 4294967296 := by
  unfold ofV
  split
  · split
    · exact parseV_lt _
    · decide
  · decide
/-- Two addresses have their k highest bytes in common. -/
def sameA (a b k : Nat) : Bool := decide (k = 0 ∨ a / 256 ^ (4 - k) = b / 256 ^ (4 - k))
theorem zone_eq {a b k : Nat} (ha : a < 4294967296) (hb : b < 4294967296) (hk : k ≤ 4) : zoneA a k = zoneA b k ↔ sameA a b k = true := by
  unfold sameA
  rw [decide_eq_true_eq]
  have p0 : ∀ x, prt x 0 = x / 16777216 % 256 := fun _ => rfl
  have p1 : ∀ x, prt x 1 = x / 65536 % 256 := fun _ => rfl
  have p2 : ∀ x, prt x 2 = x / 256 % 256 := fun _ => rfl
  have p3 : ∀ x, prt x 3 = x / 1 % 256 := fun _ => rfl
  have di : ∀ i, dig (prt a i) = dig (prt b i) ↔ prt a i = prt b i := fun i => ⟨dig_inj (prt_lt a i) (prt_lt b i), fun h => by rw [h]⟩
  have hc : k = 0 ∨ k = 1 ∨ k = 2 ∨ k = 3 ∨ k = 4 := by omega
  rcases hc with rfl | rfl | rfl | rfl | rfl
  · exact ⟨fun _ => .inl rfl, fun _ => rfl⟩
  · have z : ∀ x, zoneA x 1 = [dig (prt x 0), inaddr, arpa] := fun _ => rfl
    rw [z, z]
    simp only [List.cons.injEq, and_true, di]
    rw [p0, p0, show 256 ^ (4 - 1) = 16777216 from rfl]
    omega
  · have z : ∀ x, zoneA x 2 = [dig (prt x 1), dig (prt x 0), inaddr, arpa] := fun _ => rfl
    rw [z, z]
    simp only [List.cons.injEq, and_true, di]
    rw [p0, p0, p1, p1, show 256 ^ (4 - 2) = 65536 from rfl]
    omega
  · have z : ∀ x, zoneA x 3 = [dig (prt x 2), dig (prt x 1), dig (prt x 0), inaddr, arpa] := fun _ => rfl
    rw [z, z]
    simp only [List.cons.injEq, and_true, di]
    rw [p0, p0, p1, p1, p2, p2, show 256 ^ (4 - 3) = 256 from rfl]
    omega
  · have z : ∀ x, zoneA x 4 = [dig (prt x 3), dig (prt x 2), dig (prt x 1), dig (prt x 0), inaddr, arpa] := fun _ => rfl
    rw [z, z]
    simp only [List.cons.injEq, and_true, di]
    rw [p0, p0, p1, p1, p2, p2, p3, p3, show 256 ^ (4 - 4) = 1 from rfl]
    omega
theorem same_zone {a b k : Nat} (ha : a < 4294967296) (hb : b < 4294967296) (hk : k ≤ 4) : sameN (mk (zoneA b k)) (mk (zoneA a k)) = sameA a b k := by
  rw [Bool.eq_iff_iff, sameN_iff, fl_zone, fl_zone, ← zone_eq ha hb hk]
  exact ⟨fun h => h.2.2.symm, fun h => ⟨isName_zone _ _, isName_zone _ _, h.symm⟩⟩
theorem within_zone {a b k : Nat} (ha : a < 4294967296) (hb : b < 4294967296) (hk : k ≤ 4) : withinN (mk (labA b)) (mk (zoneA a k)) = sameA a b k := by
  rw [Bool.eq_iff_iff, withinN_iff, ← zone4, fl_zone, fl_zone, ← zone_eq ha hb hk, labN_mk (zoneA_ok b 4).1 (zoneA_ok b 4).2]
  refine ⟨fun ⟨_, _, j, hj, e⟩ => ?_, fun h => ⟨isName_zone _ _, isName_zone _ _, 4 - k, ?_, ?_⟩⟩
  · have hl := congrArg List.length e
    have h6 : (zoneA b 4).length = 6 := rfl
    have hz : (zoneA a k).length = 6 - (4 - k) := by unfold zoneA; rw [List.length_drop]; rfl
    rw [List.length_drop, hz, h6] at hl
    rw [h6] at hj
    have hj' : j = 4 - k := by omega
    rw [← e, hj']
    rfl
  · show 4 - k ≤ 6; omega
  · rw [h]; rfl
theorem sameA_self (a k : Nat) : sameA a a k = true := by unfold sameA; exact decide_eq_true (.inr rfl)
end Go.Proofs.YtjeihmchcfadlaaDoor
namespace Go.Proofs.YtjeihmchcfadlaaDoor
open Go Go.Eng
set_option maxRecDepth 100000
def tenA : List UInt8 := [49, 48, 46, 48, 46, 50, 53, 53, 46, 49]
def tenN : List UInt8 := [1, 49, 3, 50, 53, 53, 1, 48, 2, 49, 48, 7, 105, 110, 45, 97, 100, 100, 114, 4, 97, 114, 112, 97, 0]
def tenB : List UInt8 := [1, 49, 3, 50, 53, 53, 1, 48, 2, 49, 48, 7, 73, 78, 45, 97, 100, 100, 114, 4, 97, 114, 112, 97, 0]
def tenC : List UInt8 := [49, 48, 46, 48, 46, 50, 53, 54, 46, 49]
def tenZ : List UInt8 := [2, 49, 48, 7, 105, 110, 45, 97, 100, 100, 114, 4, 97, 114, 112, 97, 0]
theorem ten_a : parseV tenA = (167837441, 0) := by decide +kernel
theorem ten_c : parseV tenC = (0, 6) := by decide +kernel
theorem ten_n : mk (labA 167837441) = tenN := by decide +kernel
theorem ten_b : ofV tenB = (167837441, 0) := by decide +kernel
theorem ten_0 : ofV [0] = (0, 3) := by decide +kernel
theorem ten_e : ofV [] = (0, 2) := by decide +kernel
theorem ten_z : mk (zoneA 167837441 1) = tenZ := by decide +kernel
theorem ten_p : printA 167837441 = tenA := by decide +kernel
set_option maxHeartbeats 4000000 in
theorem lives_ok : FnOk Tryd.prog 8 [] (.d (.bool true)) := by
  have ha := hparse_ok tenA
  have hc := hparse_ok tenC
  have hn := reverse_ok 167837441 (by decide)
  have hb := of_ok tenB
  have h0 := of_ok [0]
  have he := of_ok []
  have hz := zone_ok 167837441 (by decide) 8
  have hy := zone_ok 167837441 (by decide) 9
  have hp := print_ok 167837441 (by decide)
  rw [if_neg (by decide)] at hz
  rw [if_pos (by decide)] at hy
  have hz : FnOk Tryd.prog 13 [.d (.int .u32 (167837441 : Nat)), .d (.int .i64 8)] (.tup [.d (.str (mk (zoneA 167837441 1))), .d (.int .i64 0)]) := hz
  rw [ten_a] at ha
  rw [ten_c] at hc
  rw [ten_n] at hn
  rw [ten_b] at hb
  rw [ten_0] at h0
  rw [ten_e] at he
  rw [ten_z] at hz
  rw [ten_p] at hp
  refine fnOk_of_run (TT := TT) (IN := lookI []) TT_ok INok_nil mixed 1000 Tryd.func8 rfl (enters Tryd.func8 (by kernel_rfl) rfl) rfl 96 (by kernel_rfl) ?_
  conv => whnf
  refine .one (.data _ ha rfl rfl ?_)
  conv => whnf
  refine .one (.data _ hc rfl rfl ?_)
  conv => whnf
  refine .one (.data _ hn rfl rfl ?_)
  conv => whnf
  refine .one (.data _ hb rfl rfl ?_)
  conv => whnf
  refine .one (.data _ h0 rfl rfl ?_)
  conv => whnf
  refine .one (.data _ he rfl rfl ?_)
  conv => whnf
  refine .one (.data _ hz rfl rfl ?_)
  conv => whnf
  refine .one (.data _ hy rfl rfl ?_)
  conv => whnf
  repeat (first | (refine brT rfl ?_; conv => whnf))
  refine .one (.data _ hp rfl rfl ?_)
  conv => whnf
  exact rfl
set_option maxHeartbeats 8000000 in
theorem tells_ok (a : Nat) (ha : a < 4294967296) (s n : List UInt8) (k : Int) : FnOk Tryd.prog 3 [.d (.int .u32 a), .d (.str s), .d (.str n), .d (.int .i64 k)] (.d (.bool true)) := by
  refine fnOk_of_run (TT := TT) (IN := lookI []) TT_ok INok_nil mixed 1000 Tryd.func3 rfl (enters Tryd.func3 (by kernel_rfl) rfl) rfl 103 (by kernel_rfl) ?_
  conv => whnf
  by_cases h1 : s.length > 1000
  · refine brT (decide_eq_true (by omega)) ?_
    conv => whnf
    refine .one (.data _ lives_ok rfl rfl ?_)
    conv => whnf
  refine brF (decide_eq_false (by omega)) ?_
  conv => whnf
  by_cases h2 : n.length > 1000
  · refine brT (decide_eq_true (by omega)) ?_
    conv => whnf
    refine .one (.data _ lives_ok rfl rfl ?_)
    conv => whnf
  refine brF (decide_eq_false (by omega)) ?_
  conv => whnf
  have hp2 := rparse_ok s
  rw [rparseV_eq] at hp2
  refine .one (.data _ (hparse_ok s) rfl rfl ?_)
  generalize parseV s = v at hp2 ⊢
  conv => whnf
  refine .one (.data _ hp2 rfl rfl ?_)
  conv => whnf
  have ho2 := rof_ok n
  rw [rofV_eq] at ho2
  refine .one (.data _ (of_ok n) rfl rfl ?_)
  generalize ofV n = u at ho2 ⊢
  conv => whnf
  refine .one (.data _ ho2 rfl rfl ?_)
  conv => whnf
  have hz1 := zone_ok a ha k
  have hz2 := rzone_ok a k
  obtain ⟨z, e, hz⟩ : ∃ z : List UInt8, ∃ e : Int, (if k < 0 ∨ k > 32 ∨ k.tmod 8 ≠ 0 then SV.tup [.d (.str []), .d (.int .i64 1)] else .tup [.d (.str (mk (zoneA a (k / 8).toNat))), .d (.int .i64 0)]) = .tup [.d (.str z), .d (.int .i64 e)] := by
    split
    · exact ⟨_, _, rfl⟩
    · exact ⟨_, _, rfl⟩
  rw [hz] at hz1 hz2
  refine .one (.data _ hz1 rfl rfl ?_)
  conv => whnf
  refine .one (.data _ hz2 rfl rfl ?_)
  conv => whnf
  refine .one (.data _ lives_ok rfl rfl ?_)
  conv => whnf
  refine brT rfl ?_
  conv => whnf
  refine .one (.data _ (print_ok a ha) rfl rfl ?_)
  conv => whnf
  refine .one (.data _ (rprint_ok a) rfl rfl ?_)
  conv => whnf
  refine brT (beq_self_eq_true _) ?_
  conv => whnf
  refine .one (.data _ (reverse_ok a ha) rfl rfl ?_)
  conv => whnf
  refine .one (.data _ (rreverse_ok a) rfl rfl ?_)
  conv => whnf
  repeat (refine brT (beq_self_eq_true _) ?_; conv => whnf)
  exact congrArg DV.bool (beq_self_eq_true e)
end Go.Proofs.YtjeihmchcfadlaaDoor
