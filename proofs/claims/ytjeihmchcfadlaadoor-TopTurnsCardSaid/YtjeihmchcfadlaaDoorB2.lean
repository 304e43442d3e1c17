/-
  rate.Prefix, prefix.Check, Has, In. Conditions as said. strconv.AppendUint, AppendInt below 256; prefix.Print. Conditions as said. strings.Cut at one byte; prefix.Parse. No conditions. prefix.Lean's comparison. No conditions. The library's sort at prefixes: the table of numbers (written by the kit's lay-plain.mjs). No conditions. slices.SortFunc at prefixes: the row is sorted. Conditions: it is not empty; length. prefix.whole; the library's sort at no element. Conditions as said. prefix.Lean. Conditions: right numbers, length. prefix.Lean. Conditions: right numbers, length. hardtackref36.Same. Conditions: length. Prefixes as text, there and back. Plain; hardtacklaw36.lives holds.
-/
import Derived.Laws.BitsAllLaws
import Derived.Lib.Small
import Derived.Shelf.SlSortCmp.WholeK
import Derived.KernelRfl
import Derived.Test.YtjeihmchcfadlaaDoorProg
import Derived.Test.YtjeihmchcfadlaaDoorB1
import Derived.Test.YtjeihmchcfadlaaDoorM4
set_option linter.unusedVariables false
set_option linter.unusedSimpArgs false
namespace Go.Proofs.YtjeihmchcfadlaaDoor
open Go Go.Eng
set_option maxRecDepth 100000
/-- An address with its n highest bits alone. -/
def prefN (a n : Nat) : Nat := a / 2 ^ (32 - n) * 2 ^ (32 - n)
theorem and_high (x k : Nat) (hx : x < 4294967296) (hk : k ≤ 32) : x &&& ((2 ^ (32 - k) - 1) * 2 ^ k) = x / 2 ^ k * 2 ^ k := by
  rw [← Nat.shiftLeft_eq, ← Nat.shiftLeft_eq, ← Nat.shiftRight_eq_div_pow]
  apply Nat.eq_of_testBit_eq
  intro i
  rw [Nat.testBit_and, Nat.testBit_shiftLeft, Nat.testBit_shiftLeft, Nat.testBit_shiftRight, Nat.testBit_two_pow_sub_one]
  by_cases h1 : k ≤ i
  · rw [show k + (i - k) = i by omega]
    by_cases h2 : i < 32
    · simp [h1, show i - k < 32 - k by omega]
    · have : x.testBit i = false := Nat.testBit_lt_two_pow (Nat.lt_of_lt_of_le hx (Nat.pow_le_pow_right (by decide) (by omega) : 2 ^ 32 ≤ 2 ^ i))
      simp [this]
  · simp [h1]
theorem mask_val (k : Nat) (hk : k ≤ 32) : IntKind.u32.wrap ((4294967295 : Int) * 2 ^ k) = (((2 ^ (32 - k) - 1) * 2 ^ k : Nat) : Int) := by
  have h : ∀ k, k ≤ 32 → IntKind.u32.wrap ((4294967295 : Int) * 2 ^ k) = (((2 ^ (32 - k) - 1) * 2 ^ k : Nat) : Int) := by decide +kernel
  exact h k hk
set_option maxHeartbeats 2000000 in
theorem pref_ok (a n : Nat) (ha : a < 4294967296) (hn : n ≤ 32) : FnOk Tryd.prog 56 [.d (.int .u32 a), .d (.int .i64 n)] (.d (.int .u32 (prefN a n : Nat))) := by
  refine fnOk_of_run (TT := TT) (IN := lookI []) TT_ok INok_nil mixed 1000 Tryd.func56 rfl (enters Tryd.func56 (by kernel_rfl) rfl) rfl 11 (by kernel_rfl) ?_
  conv => whnf
  have e1 : (if (32 : Int) < (if (0 : Int) > (n : Int) then 0 else (n : Int)) then (32 : Int) else (if (0 : Int) > (n : Int) then 0 else (n : Int))) = n := by
    rw [if_neg (by omega : ¬ (0 : Int) > n), if_neg (by omega)]
  have e2 : IntKind.i64.wrap (32 - (n : Int)) = ((32 - n : Nat) : Int) := by rw [w64_in _ (by omega)]; omega
  rw [e1, e2]
  refine ⟨by omega, ?_⟩
  conv => whnf
  have e3 : IntKind.u32.wrap ((4294967295 : Int) * 2 ^ min (((32 - n : Nat) : Int).toNat) IntKind.u32.bits) = (((2 ^ (32 - (32 - n)) - 1) * 2 ^ (32 - n) : Nat) : Int) := by
    show IntKind.u32.wrap ((4294967295 : Int) * 2 ^ min (32 - n) 32) = _
    rw [Nat.min_eq_left (by omega)]
    exact mask_val (32 - n) (by omega)
  have hlt : (2 ^ (32 - (32 - n)) - 1) * 2 ^ (32 - n) < 4294967296 := by
    rw [Nat.sub_mul, ← Nat.pow_add, show 32 - (32 - n) + (32 - n) = 32 by omega]
    have : 0 < 2 ^ (32 - n) := Nat.pow_pos (by decide)
    omega
  rw [e3, u32_and_nat _ _ ha hlt, and_high a (32 - n) ha (by omega)]
  exact rfl
theorem prefN_le (a n : Nat) : prefN a n ≤ a := Nat.div_mul_le_self _ _
/-- A prefix' two cells. -/
structure Pf where
  addr : Nat
  bits : Int
deriving DecidableEq
/-- A prefix is right. -/
def Pf.right (p : Pf) : Bool := decide (0 ≤ p.bits ∧ p.bits ≤ 32 ∧ prefN p.addr p.bits.toNat = p.addr)
/-- It is right, and has an address. -/
def Pf.has (p : Pf) (x : Nat) : Bool := p.right && prefN x p.bits.toNat == p.addr
def Pf.sv (p : Pf) : SV := .agg [.d (.int .u32 p.addr), .d (.int .i64 p.bits)]
set_option maxHeartbeats 2000000 in
theorem pcheck_ok (p : Pf) (ha : p.addr < 4294967296) : FnOk Tryd.prog 24 [p.sv] (.d (.int .i64 (if p.right then 0 else 2))) := by
  obtain ⟨a, n⟩ := p
  simp only at ha
  unfold Pf.sv Pf.right
  simp only
  refine fnOk_of_run (TT := TT) (IN := lookI []) TT_ok INok_nil mixed 1000 Tryd.func24 rfl (enters Tryd.func24 (by kernel_rfl) rfl) rfl 20 (by kernel_rfl) ?_
  conv => whnf
  by_cases h1 : n < 0
  · refine brT (decide_eq_true h1) ?_
    conv => whnf
    exact congrArg (DV.int _) (if_neg (by simp; omega)).symm
  refine brF (decide_eq_false h1) ?_
  conv => whnf
  by_cases h2 : n > 32
  · refine brT (decide_eq_true h2) ?_
    conv => whnf
    exact congrArg (DV.int _) (if_neg (by simp; omega)).symm
  refine brF (decide_eq_false h2) ?_
  conv => whnf
  obtain ⟨m, rfl⟩ := Int.eq_ofNat_of_zero_le (by omega : 0 ≤ n)
  have hm : m ≤ 32 := by omega
  refine .data _ (pref_ok a m ha hm) rfl rfl ?_
  conv => whnf
  by_cases h3 : prefN a m = a
  · refine brF (by rw [h3, bne_eq_false_iff_eq]) ?_
    conv => whnf
    exact congrArg (DV.int _) (if_pos (decide_eq_true ⟨by omega, by omega, h3⟩)).symm
  · refine brT (by rw [bne_iff_ne]; omega) ?_
    conv => whnf
    exact congrArg (DV.int _) (if_neg (fun h => h3 (of_decide_eq_true h).2.2)).symm
theorem right_iff {p : Pf} : p.right = true ↔ 0 ≤ p.bits ∧ p.bits ≤ 32 ∧ prefN p.addr p.bits.toNat = p.addr := decide_eq_true_iff
set_option maxHeartbeats 2000000 in
theorem has_ok (p : Pf) (ha : p.addr < 4294967296) (x : Nat) (hx : x < 4294967296) : FnOk Tryd.prog 25 [p.sv, .d (.int .u32 x)] (.d (.bool (p.has x))) := by
  have hc := pcheck_ok p ha
  unfold Pf.has
  refine fnOk_of_run (TT := TT) (IN := lookI []) TT_ok INok_nil mixed 1000 Tryd.func25 rfl (enters Tryd.func25 (by kernel_rfl) rfl) rfl 15 (by kernel_rfl) ?_
  conv => whnf
  refine .data _ hc rfl rfl ?_
  by_cases hr : p.right = true
  · rw [if_pos hr, hr]
    conv => whnf
    obtain ⟨h1, h2, _⟩ := right_iff.1 hr
    obtain ⟨a, n⟩ := p
    simp only at ha h1 h2
    obtain ⟨m, rfl⟩ := Int.eq_ofNat_of_zero_le h1
    refine brT rfl ?_
    conv => whnf
    refine .data _ (pref_ok x m hx (by omega)) rfl rfl ?_
    conv => whnf
    refine congrArg DV.bool ?_
    rw [Bool.true_and, Bool.eq_iff_iff, beq_iff_eq, beq_iff_eq]
    show ((prefN x m : Nat) : Int) = ((a : Nat) : Int) ↔ prefN x ((m : Int).toNat) = a
    rw [Int.toNat_natCast]
    omega
  · rw [if_neg hr]
    conv => whnf
    refine brF rfl ?_
    conv => whnf
    rw [Bool.eq_false_iff.2 hr]
    rfl
def pfs (l : List Pf) : Nat → List DV := fun i => [.int .u32 (l.getD i ⟨0, 0⟩).addr, .int .i64 (l.getD i ⟨0, 0⟩).bits]
theorem getD_mem {l : List Pf} {i : Nat} (h : i < l.length) : l.getD i ⟨0, 0⟩ ∈ l := by
  rw [List.getD_eq_getElem?_getD, List.getElem?_eq_getElem h]
  exact List.getElem_mem h
theorem take_getD {l : List Pf} {i : Nat} (h : i < l.length) : l.take (i + 1) = l.take i ++ [l.getD i ⟨0, 0⟩] := by
  rw [List.take_add_one, List.getD_eq_getElem?_getD, List.getElem?_eq_getElem h]
  rfl
set_option maxHeartbeats 2000000 in
theorem in_ok (z : Bool) (l : List Pf) (x : Nat) (hx : x < 4294967296) (hl : ∀ p ∈ l, p.addr < 4294967296) (hn : l.length ≤ 1000000) : FnOk Tryd.prog 23 [.d (.sl z l.length 2 (pfs l)), .d (.int .u32 x)] (.d (.bool (l.any fun p => p.has x))) := by
  refine fnOk_of_run (TT := TT) (IN := lookI []) TT_ok INok_nil mixed 1000 Tryd.func23 rfl (enters Tryd.func23 (by kernel_rfl) rfl) rfl 15 (by kernel_rfl) ?_
  conv => whnf
  refine .inv Nat (fun i => i ≤ l.length ∧ (l.take i).any (fun p => p.has x) = false) (fun i => [(9, .d (.int .i64 i))]) (fun i => []) (fun i => l.length - i) ⟨0, [], ⟨Nat.zero_le _, rfl⟩, ?_⟩ ?_
  · conv => whnf
    repeat' (first | exact True.intro | exact rfl | exact fun _ => Iff.rfl | exact fun _ _ => rfl | exact renM_ent rfl _ | refine And.intro ?_ ?_)
  intro i hi
  obtain ⟨hi, hno⟩ := hi
  conv => whnf
  refine ⟨fun c1 => ?_, fun c1 => ?_⟩
  · have c1 : (i : Int) < l.length := of_decide_eq_true c1
    have hil : i < l.length := by omega
    have hw1 : IntKind.i64.wrap ((i : Int) + 1) = ((i + 1 : Nat) : Int) := by rw [w64_in _ (by omega)]; omega
    have hm := getD_mem hil
    have htk := take_getD hil
    conv => whnf
    refine ⟨by omega, ?_⟩
    conv => whnf
    rw [Int.toNat_natCast]
    generalize l.getD i ⟨0, 0⟩ = q at hm htk ⊢
    refine .one (.data _ (has_ok q (hl q hm) x hx) rfl rfl ?_)
    cases hq : q.has x with
    | true =>
      have ha : (l.any fun p => p.has x) = true := List.any_eq_true.2 ⟨q, hm, hq⟩
      rw [ha]
      conv => whnf
      refine brT rfl ?_
      conv => whnf
    | false =>
      conv => whnf
      refine brF rfl ?_
      conv => whnf
      refine ⟨i + 1, [], ⟨hil, by rw [htk, List.any_append, hno]; simp [hq]⟩, by omega, ?_⟩
      conv => whnf
      rw [hw1]
      repeat' (first | exact True.intro | exact rfl | exact fun _ => Iff.rfl | exact fun _ _ => rfl | exact renM_ent rfl _ | refine And.intro ?_ ?_)
  · have c1 : ¬ (i : Int) < l.length := of_decide_eq_false c1
    rw [List.take_of_length_le (by omega)] at hno
    rw [hno]
    conv => whnf
end Go.Proofs.YtjeihmchcfadlaaDoor
namespace Go.Proofs.YtjeihmchcfadlaaDoor
open Go Go.Eng
set_option maxRecDepth 100000
set_option maxHeartbeats 4000000 in
theorem appu_ok (s : List UInt8) (n : Nat) (h : n < 256) (hs : s.length ≤ 1000000) : COk Tryd.prog 83 [.all 0, .d (.int .u64 n), .d (.int .i64 10)] [.row 5 1 s.length .no (bytesF s)] (fun r k => r = .all 1 ∧ k = [.gone, .row 5 1 (s ++ dig n).length .no (bytesF (s ++ dig n))]) := by
  refine cOk_of_run (TT := TT) (IN := lookI []) TT_ok INok_nil mixed 1000 Tryd.func83 rfl (enters Tryd.func83 (by kernel_rfl) rfl) 33 (by kernel_rfl) ?_
  conv => whnf
  refine brT rfl ?_
  conv => whnf
  refine ⟨fun h1 => ?_, fun h1 => ?_⟩
  · have h1' : n < 100 := by have := of_decide_eq_true h1; omega
    conv => whnf
    rw [w64_in (n : Int) (by omega)]
    refine .one (.data _ (small_ok n h1') rfl rfl ?_)
    conv => whnf
    have hd := (dig_len (n := n) (by omega)).1
    refine ⟨by omega, ?_⟩
    conv => whnf
    refine ⟨[0, 1], _, _, rfl, rfl, ?_, ?_, rfl, rfl⟩
    · exact rfl
    · conv => whnf
      repeat' (first | exact True.intro | exact rfl | exact fun _ => Iff.rfl | exact fun _ _ => rfl | exact renM_rests _ _ | exact (List.length_append ..).symm | exact byteAt_cat _ _ | refine And.intro ?_ ?_)
  have h1' : 100 ≤ n := by have := of_decide_eq_false h1; omega
  conv => whnf
  refine .one (.data _ (digits_ok n h1' (by omega)) rfl rfl ?_)
  conv => whnf
  refine ⟨by decide, ?_⟩
  conv => whnf
  refine .rel _ (COk.frameX (base_ok n (by omega)) [1] rfl rfl rfl) (fun x ks' hR => ?_)
  obtain ⟨_, _, ⟨rfl, rfl⟩, rfl, rfl⟩ := hR
  conv => whnf
  refine ⟨by decide, ?_⟩
  conv => whnf
  have hdg : dig n = [Lib.dg n 2, Lib.dg n 1, Lib.dg n 0] := by
    unfold dig
    rw [if_neg (by omega), if_neg (by omega)]
    unfold Lib.dg
    rw [show n / 10 ^ 2 % 10 = n / 100 by omega, show n / 10 ^ 1 % 10 = n / 10 % 10 by omega, show n / 10 ^ 0 % 10 = n % 10 by omega]
  refine ⟨by omega, ?_⟩
  conv => whnf
  refine ⟨[0, 2], _, _, rfl, rfl, ?_, ?_, rfl, rfl⟩
  · exact rfl
  · conv => whnf
    repeat' (first | exact True.intro | exact rfl | exact fun _ => Iff.rfl | exact fun _ _ => rfl | exact renM_rests _ _ | exact (List.length_append ..).symm | exact byteAt_cat _ _ | refine And.intro ?_ ?_)
    · rw [List.length_append, hdg]; rfl
    · intro i hi
      have hi : i < s.length + 3 := hi
      refine Eq.trans ?_ (byteAt_cat s (dig n) i (by rw [hdg]; exact hi))
      rw [hdg]
      unfold catF
      split
      · rfl
      · have h3 : i - s.length = 0 ∨ i - s.length = 1 ∨ i - s.length = 2 := by omega
        rcases h3 with e | e | e <;> rw [e] <;> rfl
set_option maxHeartbeats 4000000 in
theorem pappu_ok (s : List UInt8) (n : Nat) (h : n < 256) (hs : s.length ≤ 1000000) : COk Tryd.prog 57 [.all 0, .d (.int .u64 n), .d (.int .i64 10)] [.row 5 1 s.length .no (bytesF s)] (fun r k => r = .all 1 ∧ k = [.gone, .row 5 1 (s ++ dig n).length .no (bytesF (s ++ dig n))]) := by
  refine cOk_of_run (TT := TT) (IN := lookI []) TT_ok INok_nil mixed 1000 Tryd.func57 rfl (enters Tryd.func57 (by kernel_rfl) rfl) 8 (by kernel_rfl) ?_
  conv => whnf
  refine .rel _ (appu_ok s n h hs) (fun x ks' hR => ?_)
  obtain ⟨rfl, rfl⟩ := hR
  conv => whnf
  refine ⟨[0, 1], _, _, rfl, rfl, ?_, ?_, rfl, rfl⟩
  · exact rfl
  · conv => whnf
    repeat' (first | exact True.intro | exact rfl | exact fun _ => Iff.rfl | exact fun _ _ => rfl | exact renM_rests _ _ | exact (List.length_append ..).symm | exact byteAt_cat _ _ | refine And.intro ?_ ?_)
set_option maxHeartbeats 4000000 in
theorem pappi_ok (s : List UInt8) (n : Nat) (h : n < 256) (hs : s.length ≤ 1000000) : COk Tryd.prog 58 [.all 0, .d (.int .i64 n), .d (.int .i64 10)] [.row 5 1 s.length .no (bytesF s)] (fun r k => r = .all 1 ∧ k = [.gone, .row 5 1 (s ++ dig n).length .no (bytesF (s ++ dig n))]) := by
  refine cOk_of_run (TT := TT) (IN := lookI [(84, Tryd.f84, 3)]) TT_ok (INok_cons INok_nil Tryd.func84 (by kernel_rfl) (by kernel_rfl)) mixed 1000 Tryd.func58 rfl (enters Tryd.func58 (by kernel_rfl) rfl) 8 (by kernel_rfl) ?_
  conv => whnf
  refine brF (decide_eq_false (by omega)) ?_
  conv => whnf
  rw [show IntKind.u64.wrap (n : Int) = n by rw [IntKind.wrap_u64]; omega]
  refine .rel _ (appu_ok s n h hs) (fun x ks' hR => ?_)
  obtain ⟨rfl, rfl⟩ := hR
  conv => whnf
  refine ⟨[0, 1], _, _, rfl, rfl, ?_, ?_, rfl, rfl⟩
  · exact rfl
  · conv => whnf
    repeat' (first | exact True.intro | exact rfl | exact fun _ => Iff.rfl | exact fun _ _ => rfl | exact renM_rests _ _ | exact (List.length_append ..).symm | exact byteAt_cat _ _ | refine And.intro ?_ ?_)
/-- The first k words of an address, a dot behind each. -/
def preP (a : Nat) : Nat → List UInt8
  | 0 => []
  | k + 1 => preP a k ++ dig (prt a k) ++ [46]
theorem preP_len (a : Nat) : ∀ k, (preP a k).length ≤ 4 * k
  | 0 => Nat.le_refl _
  | k + 1 => by
    have h1 := preP_len a k
    have h2 := (dig_len (n := prt a k) (by have := prt_lt a k; omega)).1
    simp only [preP, List.length_append, List.length_cons, List.length_nil]
    omega
theorem preP_four (a : Nat) : preP a 4 = printA a ++ [46] := by
  rw [printA_eq]
  simp [preP]
theorem shr_at {a : Nat} (ha : a < 4294967296) {k : Nat} (hk : k < 4) : IntKind.u64.wrap (bits .and .u32 ((a : Int).fdiv (2 ^ min ((24 - 8 * (k : Int)).toNat) IntKind.u32.bits)) 255) = ((prt a k : Nat) : Int) := by
  have h : k = 0 ∨ k = 1 ∨ k = 2 ∨ k = 3 := by omega
  rcases h with rfl | rfl | rfl | rfl
  · exact shr_part ha 24
  · exact shr_part ha 16
  · exact shr_part ha 8
  · exact shr_part ha 0
theorem oneF_last (x : List UInt8) : oneF x.length 0 [DV.int IntKind.u8 47] (bytesF (x ++ [46])) = bytesF (x ++ [47]) := by
  funext i
  unfold oneF bytesF byteAt
  by_cases h : i = x.length
  · subst h
    simp
    rfl
  · by_cases h2 : i < x.length
    · simp [h, List.getElem?_append_left h2]
    · have h3 : i - x.length ≠ 0 := by omega
      simp [h, List.getElem?_append_right (by omega : x.length ≤ i), h3]
/-- A prefix' text. -/
def printP (p : Pf) : List UInt8 := printA p.addr ++ 47 :: dig p.bits.toNat
set_option maxHeartbeats 4000000 in
theorem pprint_ok (p : Pf) (ha : p.addr < 4294967296) : FnOk Tryd.prog 27 [p.sv] (if p.right then .tup [.d (.str (printP p)), .d (.int .i64 0)] else .tup [.d (.str []), .d (.int .i64 2)]) := by
  have hc := pcheck_ok p ha
  refine fnOk_of_run (TT := TT) (IN := lookI []) TT_ok INok_nil mixed 1000 Tryd.func27 rfl (enters Tryd.func27 (by kernel_rfl) rfl) rfl 37 (by kernel_rfl) ?_
  conv => whnf
  refine .one (.data _ hc rfl rfl ?_)
  by_cases hr : p.right = true
  case neg =>
    rw [if_neg hr, if_neg hr]
    conv => whnf
    refine brT rfl ?_
    conv => whnf
    exact ⟨rfl, rfl, trivial⟩
  rw [if_pos hr, if_pos hr]
  conv => whnf
  refine brF rfl ?_
  conv => whnf
  refine ⟨by decide, ?_⟩
  conv => whnf
  obtain ⟨a, n⟩ := p
  simp only at ha
  refine .inv Nat (fun k => k ≤ 4) (fun k => [(5, .all 1), (6, .d (.int .i64 (24 - 8 * (k : Int)))), (12, .any)]) (fun k => [(1, .row 5 1 (preP a k).length .no (bytesF (preP a k)))]) (fun k => 4 - k) ⟨0, [0, 1], Nat.zero_le _, ?_⟩ ?_
  · conv => whnf
    repeat' (first | exact True.intro | exact rfl | exact fun _ => Iff.rfl | exact fun _ _ => rfl | exact renM_rests _ _ | exact (List.length_append ..).symm | exact byteAt_cat _ _ | refine And.intro ?_ ?_)
  intro k hk
  conv => whnf
  have hpl := preP_len a k
  refine ⟨fun c1 => ?_, fun c1 => ?_⟩
  · have c1 : (24 - 8 * (k : Int)) ≥ 0 := of_decide_eq_true c1
    have hk3 : k < 4 := by omega
    conv => whnf
    refine ⟨c1, ?_⟩
    conv => whnf
    rw [shr_at ha hk3]
    refine .rel _ (COk.frameX (pappu_ok (preP a k) (prt a k) (prt_lt a k) (by omega)) [1] rfl rfl rfl) (fun x ks' hR => ?_)
    obtain ⟨_, _, ⟨rfl, rfl⟩, rfl, rfl⟩ := hR
    conv => whnf
    have hdl := (dig_len (n := prt a k) (by have := prt_lt a k; omega)).1
    refine ⟨by rw [List.length_append]; omega, ?_⟩
    conv => whnf
    refine ⟨k + 1, [0, 4], hk3, by omega, ?_⟩
    conv => whnf
    rw [show IntKind.i64.wrap (24 - 8 * (k : Int) - 8) = 24 - 8 * ((k + 1 : Nat) : Int) by rw [w64_in _ (by omega)]; omega]
    repeat' (first | exact True.intro | exact rfl | exact fun _ => Iff.rfl | exact fun _ _ => rfl | exact renM_rests _ _ | exact (List.length_append ..).symm | exact byteAt_cat _ _ | refine And.intro ?_ ?_)
    · simp only [preP, List.length_append, List.length_cons, List.length_nil]
    · intro i hi
      exact (show catF (preP a k ++ dig (prt a k)).length (bytesF (preP a k ++ dig (prt a k))) (chunk [DV.int IntKind.u8 46] 1) i = _ from byteAt_put (preP a k ++ dig (prt a k)) 46 i hi)
  · have c1 : ¬ (24 - 8 * (k : Int)) ≥ 0 := of_decide_eq_false c1
    have hk4 : k = 4 := by omega
    subst hk4
    conv => whnf
    have hl4 : (preP a 4).length = (printA a).length + 1 := by rw [preP_four, List.length_append]; rfl
    have hpa := printA_len a
    have e4 : IntKind.i64.wrap (((preP a 4).length : Int) - 1) = ((printA a).length : Int) := by rw [w64_in _ (by omega)]; omega
    rw [e4]
    refine ⟨by omega, ?_⟩
    conv => whnf
    have e5 : (printA a ++ [(46 : UInt8)]).length = (printA a ++ [(47 : UInt8)]).length := by simp
    rw [Int.toNat_natCast, preP_four, oneF_last, e5]
    obtain ⟨h1, h2, _⟩ := right_iff.1 hr
    obtain ⟨m, rfl⟩ := Int.eq_ofNat_of_zero_le h1
    refine .rel _ (COk.frameX (pappi_ok (printA a ++ [47]) m (by have : (m : Int) ≤ 32 := h2; omega) (by simp only [List.length_append, List.length_cons, List.length_nil]; omega)) [1] rfl rfl rfl) (fun x ks' hR => ?_)
    obtain ⟨_, _, ⟨rfl, rfl⟩, rfl, rfl⟩ := hR
    conv => whnf
    refine ⟨fun i hi => ⟨_, rfl⟩, ?_⟩
    conv => whnf
    rw [bytesOf_bytesF]
    have e6 : printP ⟨a, (m : Int)⟩ = printA a ++ [47] ++ dig m := by simp [printP]
    rw [e6]
    exact ⟨rfl, rfl, trivial⟩
end Go.Proofs.YtjeihmchcfadlaaDoor
namespace Go.Proofs.YtjeihmchcfadlaaDoor
open Go Go.Eng
set_option maxRecDepth 100000
theorem sindex_ok (s : List UInt8) (c : UInt8) : FnOk Tryd.prog 115 [.d (.str s), .d (.str [c])] (.d (.int .i64 (Lib.indexByte s c))) := by
  refine ⟨enters Tryd.func115 (by kernel_rfl) rfl, fun M w vs hV hM hl hd => ?_⟩
  match vs, hl with
  | [v0, v1], _ =>
    have h0 := den_str (hd 0 _ v0 rfl rfl)
    have h1 := den_str (hd 1 _ v1 rfl rfl)
    subst h0 h1
    refine (Any.stringslite_Index_one { Try.lays143 with } ⟨s.toArray⟩ c w).mono ?_
    rintro e w' ⟨rfl, rfl⟩
    exact ⟨_, rfl, Step.refl _ _, .d (.int _ _)⟩
/-- What lies ahead of a byte, and behind it. -/
def cutB (s : List UInt8) (c : UInt8) : List UInt8 × List UInt8 × Bool :=
  if Lib.indexByte s c < 0 then (s, [], false) else (s.take (Lib.indexByte s c).toNat, s.drop ((Lib.indexByte s c).toNat + 1), true)
theorem indexByte_lt : ∀ (s : List UInt8) (c : UInt8), Lib.indexByte s c < s.length
  | [], _ => by show (-1 : Int) < 0; omega
  | b :: s, c => by
    have h1 := indexByte_lt s c
    have h2 := Lib.indexByte_ge s c
    simp only [Lib.indexByte, List.length_cons]
    split
    · omega
    · split <;> omega
set_option maxHeartbeats 2000000 in
theorem cut_ok (s : List UInt8) (c : UInt8) (hs : s.length ≤ 1000000) : FnOk Tryd.prog 59 [.d (.str s), .d (.str [c])] (.tup [.d (.str (cutB s c).1), .d (.str (cutB s c).2.1), .d (.bool (cutB s c).2.2)]) := by
  refine fnOk_of_run (TT := TT) (IN := lookI [(85, Tryd.f85, 2)]) TT_ok (INok_cons INok_nil Tryd.func85 (by kernel_rfl) (by kernel_rfl)) mixed 1000 Tryd.func59 rfl (enters Tryd.func59 (by kernel_rfl) rfl) rfl 11 (by kernel_rfl) ?_
  conv => whnf
  refine .one (.data _ (sindex_ok s c) rfl rfl ?_)
  have hlt := indexByte_lt s c
  unfold cutB
  conv => whnf
  by_cases h : Lib.indexByte s c < 0
  · refine brF (decide_eq_false (by omega)) ?_
    rw [if_pos h]
    conv => whnf
    exact ⟨rfl, rfl, rfl, trivial⟩
  · rw [if_neg h]
    refine brT (decide_eq_true (by omega)) ?_
    generalize Lib.indexByte s c = i at h hlt ⊢
    obtain ⟨i, rfl⟩ := Int.eq_ofNat_of_zero_le (by omega : 0 ≤ i)
    conv => whnf
    refine ⟨by omega, ?_⟩
    conv => whnf
    have e1 : IntKind.i64.wrap ((i : Int) + (([c] : List UInt8).length : Nat)) = ((i + 1 : Nat) : Int) := by rw [w64_in _ (by simp only [List.length_cons, List.length_nil]; omega)]; simp only [List.length_cons, List.length_nil]; omega
    rw [e1]
    refine ⟨by omega, ?_⟩
    conv => whnf
    have e2 : sub s 0 (i : Int) = s.take i := by simp [sub]
    have e3 : sub s ((i + 1 : Nat) : Int) (s.length : Int) = s.drop (i + 1) := by
      unfold sub
      rw [Int.toNat_natCast, Int.toNat_natCast, ← List.length_drop, List.take_length]
    rw [e2, e3]
    exact ⟨rfl, rfl, rfl, trivial⟩
/-- The right prefix of a text, or none. -/
def pparseV (s : List UInt8) : Pf × Int :=
  if s.length > 18 then (⟨0, 0⟩, 6) else match pwL (sp (cutB s 47).1) 0 with
    | none => (⟨0, 0⟩, 6)
    | some a => match word (cutB s 47).2.1 with
      | none => (⟨0, 0⟩, 6)
      | some n => if (⟨a, n⟩ : Pf).right = true ∧ printP ⟨a, n⟩ = s then (⟨a, n⟩, 0) else (⟨0, 0⟩, 6)
set_option maxHeartbeats 8000000 in
theorem pparse_ok (s : List UInt8) : FnOk Tryd.prog 28 [.d (.str s)] (.tup [(pparseV s).1.sv, .d (.int .i64 (pparseV s).2)]) := by
  refine fnOk_of_run (TT := TT) (IN := lookI [(34, Tryd.f34, 2), (66, Tryd.f66, 3), (89, Tryd.f89, 4)]) TT_ok (INok_cons (INok_cons (INok_cons INok_nil Tryd.func89 (by kernel_rfl) (by kernel_rfl)) Tryd.func66 (by kernel_rfl) (by kernel_rfl)) Tryd.func34 (by kernel_rfl) (by kernel_rfl)) mixed 1000 Tryd.func28 rfl (enters Tryd.func28 (by kernel_rfl) rfl) rfl 67 (by kernel_rfl) ?_
  conv => whnf
  refine ⟨fun h1 => ?_, fun h1 => ?_⟩
  · have h1 : s.length > 18 := by have := of_decide_eq_true h1; omega
    have e : pparseV s = (⟨0, 0⟩, 6) := by unfold pparseV; rw [if_pos h1]
    rw [e]
    conv => whnf
    exact ⟨⟨rfl, rfl, trivial⟩, rfl, trivial⟩
  have h1 : ¬ s.length > 18 := by have := of_decide_eq_false h1; omega
  have e : pparseV s = (match pwL (sp (cutB s 47).1) 0 with
    | none => (⟨0, 0⟩, 6)
    | some a => match word (cutB s 47).2.1 with
      | none => (⟨0, 0⟩, 6)
      | some n => if (⟨a, n⟩ : Pf).right = true ∧ printP ⟨a, n⟩ = s then (⟨a, n⟩, 0) else (⟨0, 0⟩, 6)) := by unfold pparseV; rw [if_neg h1]
  rw [e]
  clear e
  conv => whnf
  refine .one (.data _ (cut_ok s 47 (by omega)) rfl rfl ?_)
  have hx : (cutB s 47).1.length ≤ 18 ∧ (cutB s 47).2.1.length ≤ 18 := by
    unfold cutB
    split
    · exact ⟨by show s.length ≤ 18; omega, by simp⟩
    · exact ⟨by show (s.take _).length ≤ 18; rw [List.length_take]; omega, by show (s.drop _).length ≤ 18; rw [List.length_drop]; omega⟩
  generalize cutB s 47 = xy at hx ⊢
  obtain ⟨x, y, fd⟩ := xy
  obtain ⟨hx, hy⟩ := hx
  simp only at hx hy
  conv => whnf
  repeat (first | (refine brF rfl ?_; conv => whnf) | (refine brT rfl ?_; conv => whnf))
  refine .inv PSt (fun p => p.rest.length ≤ 18 ∧ p.a < 4294967296 ∧ pwL (sp p.rest) p.a = pwL (sp x) 0) (fun p => []) (fun p => [(2, .cells 36 [.d (.int .u32 p.a), .d (.int .i64 0)]), (3, .cells 9 [.d (.str p.rest)])]) (fun p => p.rest.length) ⟨⟨x, 0⟩, [0, 1, 2, 3, 4, 5, 6], ⟨by show x.length ≤ 18; omega, by show 0 < 4294967296; omega, rfl⟩, ?_⟩ ?_
  · conv => whnf
    repeat' (first | exact True.intro | exact rfl | exact fun _ => Iff.rfl | exact fun _ _ => rfl | exact renM_ent rfl _ | refine And.intro ?_ ?_)
  intro p hp
  obtain ⟨hp1, hp2, hp3⟩ := hp
  conv => whnf
  generalize p.rest = t at hp1 hp3 ⊢
  generalize p.a = a at hp2 hp3 ⊢
  refine .one (.data _ (index_ok t 46) rfl rfl ?_)
  conv => whnf
  rcases sp_spec t with ⟨hi1, hi2⟩ | ⟨i, hi1, hi2, hi3⟩
  · rw [hi2] at hp3
    refine brT (decide_eq_true hi1) ?_
    conv => whnf
    have hpk := parse_ok t (by omega)
    cases hw : word t with
    | none =>
      rw [hw] at hpk
      refine .one (.data _ hpk rfl rfl ?_)
      conv => whnf
      have hp3 : none = pwL (sp x) 0 := by rw [← hp3]; simp only [pwL, hw]
      rw [← hp3]
      refine brT rfl ?_
      conv => whnf
      exact ⟨⟨rfl, rfl, trivial⟩, rfl, trivial⟩
    | some u =>
      rw [hw] at hpk
      refine .one (.data _ hpk rfl rfl ?_)
      conv => whnf
      have hu := word_lt hw
      refine brF rfl ?_
      conv => whnf
      refine ⟨by decide, ?_⟩
      conv => whnf
      rw [shl_or hu]
      have hp3 : some (a * 256 % 4294967296 + u) = pwL (sp x) 0 := by rw [← hp3]; simp only [pwL, hw]
      rw [← hp3]
      have hb := shl_lt (a := a) hu
      generalize a * 256 % 4294967296 + u = b at hb ⊢
      have hpy := parse_ok y (by omega)
      clear hpk
      cases hwy : word y with
      | none =>
        rw [hwy] at hpy
        refine .one (.data _ hpy rfl rfl ?_)
        conv => whnf
        refine brT rfl ?_
        conv => whnf
        exact ⟨⟨rfl, rfl, trivial⟩, rfl, trivial⟩
      | some m =>
        rw [hwy] at hpy
        have hm := word_lt hwy
        refine .one (.data _ hpy rfl rfl ?_)
        conv => whnf
        refine brF rfl ?_
        conv => whnf
        rw [show IntKind.i64.wrap (m : Int) = m from w64_in _ (by omega)]
        have hpp := pprint_ok ⟨b, m⟩ hb
        by_cases hr : (⟨b, m⟩ : Pf).right = true
        · rw [if_pos hr] at hpp
          refine .one (.data _ hpp rfl rfl ?_)
          conv => whnf
          refine brF rfl ?_
          conv => whnf
          by_cases he : printP ⟨b, m⟩ = s
          · refine brF (by simp [he]) ?_
            conv => whnf
            simp only [if_pos (And.intro hr he)]
            exact ⟨⟨rfl, rfl, trivial⟩, rfl, trivial⟩
          · refine brT (by simpa using he) ?_
            conv => whnf
            simp only [if_neg (fun h : (⟨b, m⟩ : Pf).right = true ∧ printP ⟨b, m⟩ = s => he h.2)]
            exact ⟨⟨rfl, rfl, trivial⟩, rfl, trivial⟩
        · rw [if_neg hr] at hpp
          refine .one (.data _ hpp rfl rfl ?_)
          conv => whnf
          refine brT rfl ?_
          conv => whnf
          simp only [if_neg (fun h : (⟨b, m⟩ : Pf).right = true ∧ printP ⟨b, m⟩ = s => hr h.1)]
          exact ⟨⟨rfl, rfl, trivial⟩, rfl, trivial⟩
  · rw [hi1]
    rw [hi3] at hp3
    refine brF (decide_eq_false (by omega)) ?_
    conv => whnf
    have e1 : IntKind.i64.wrap ((i : Int) + 0) = i := by rw [w64_in _ (by omega)]; omega
    rw [e1]
    refine ⟨by omega, ?_⟩
    conv => whnf
    have e2 : sub t 0 i = t.take i := by simp [sub]
    rw [e2]
    have hpk := parse_ok (t.take i) (by rw [List.length_take]; omega)
    cases hw : word (t.take i) with
    | none =>
      rw [hw] at hpk
      refine .one (.data _ hpk rfl rfl ?_)
      conv => whnf
      have hp3 : none = pwL (sp x) 0 := by rw [← hp3]; simp only [pwL, hw]
      rw [← hp3]
      refine brT rfl ?_
      conv => whnf
      exact ⟨⟨rfl, rfl, trivial⟩, rfl, trivial⟩
    | some u =>
      rw [hw] at hpk
      refine .one (.data _ hpk rfl rfl ?_)
      conv => whnf
      have hu := word_lt hw
      refine brF rfl ?_
      conv => whnf
      refine ⟨by decide, ?_⟩
      conv => whnf
      have e3 : IntKind.i64.wrap ((i : Int) + 1) = ((i + 1 : Nat) : Int) := by rw [w64_in _ (by omega)]; omega
      have e4 : IntKind.i64.wrap ((i : Int) + (((⟨#[46]⟩ : ByteArray).data.toList.length : Nat) : Int)) = ((i + 1 : Nat) : Int) := e3
      rw [e4]
      refine ⟨by omega, ?_⟩
      conv => whnf
      rw [shl_or hu]
      have e5 : sub t ((i + 1 : Nat) : Int) (t.length : Int) = t.drop (i + 1) := by
        unfold sub
        rw [Int.toNat_natCast, Int.toNat_natCast, ← List.length_drop, List.take_length]
      rw [e5]
      refine ⟨⟨t.drop (i + 1), a * 256 % 4294967296 + u⟩, [0, 1, 2, 3, 4, 5, 6], ⟨by show (t.drop (i + 1)).length ≤ 18; rw [List.length_drop]; omega, shl_lt hu, ?_⟩, ?_, ?_⟩
      · rw [← hp3]
        simp only [pwL, hw]
      · show (t.drop (i + 1)).length < t.length
        rw [List.length_drop]
        omega
      · conv => whnf
        repeat' (first | exact True.intro | exact rfl | exact fun _ => Iff.rfl | exact fun _ _ => rfl | exact renM_ent rfl _ | refine And.intro ?_ ?_)
end Go.Proofs.YtjeihmchcfadlaaDoor
namespace Go.Proofs.YtjeihmchcfadlaaDoor
open Go Go.Eng Go.Lib
set_option maxRecDepth 100000
theorem nan32_ok [Dr] (x : Int) : FnOk Tryd.prog 81 [.d (.int .u32 x)] (.d (.bool false)) := by
  refine fnOk_of_run (TT := TT) (IN := lookI []) TT_ok INok_nil mixed 1000 Tryd.func81 rfl (enters Tryd.func81 (by kernel_rfl) rfl) rfl 5 (by kernel_rfl) ?_
  conv => whnf
  exact congrArg DV.bool (by simp)
theorem nan64_ok [Dr] (x : Int) : FnOk Tryd.prog 82 [.d (.int .i64 x)] (.d (.bool false)) := by
  refine fnOk_of_run (TT := TT) (IN := lookI []) TT_ok INok_nil mixed 1000 Tryd.func82 rfl (enters Tryd.func82 (by kernel_rfl) rfl) rfl 5 (by kernel_rfl) ?_
  conv => whnf
  exact congrArg DV.bool (by simp)
theorem cmp32_ok [Dr] (x y : Int) : FnOk Tryd.prog 53 [.d (.int .u32 x), .d (.int .u32 y)] (.d (.int .i64 (compareInt x y))) := by
  refine fnOk_of_run (TT := TT) (IN := lookI []) TT_ok INok_nil mixed 1000 Tryd.func53 rfl (enters Tryd.func53 (by kernel_rfl) rfl) rfl 18 (by kernel_rfl) ?_
  conv => whnf
  refine .one (.data _ (nan32_ok x) rfl rfl ?_)
  conv => whnf
  refine .one (.data _ (nan32_ok y) rfl rfl ?_)
  conv => whnf
  refine brF rfl ?_
  conv => whnf
  refine brF rfl ?_
  conv => whnf
  unfold compareInt
  by_cases h1 : x < y
  · rw [if_pos h1]
    refine brT (decide_eq_true h1) ?_
    conv => whnf
  · rw [if_neg h1]
    refine brF (decide_eq_false h1) ?_
    conv => whnf
    by_cases h2 : x > y
    · rw [if_pos h2]
      refine brT (decide_eq_true h2) ?_
      conv => whnf
    · rw [if_neg h2]
      refine brF (decide_eq_false h2) ?_
      conv => whnf
theorem cmp64_ok [Dr] (x y : Int) : FnOk Tryd.prog 54 [.d (.int .i64 x), .d (.int .i64 y)] (.d (.int .i64 (compareInt x y))) := by
  refine fnOk_of_run (TT := TT) (IN := lookI []) TT_ok INok_nil mixed 1000 Tryd.func54 rfl (enters Tryd.func54 (by kernel_rfl) rfl) rfl 18 (by kernel_rfl) ?_
  conv => whnf
  refine .one (.data _ (nan64_ok x) rfl rfl ?_)
  conv => whnf
  refine .one (.data _ (nan64_ok y) rfl rfl ?_)
  conv => whnf
  refine brF rfl ?_
  conv => whnf
  refine brF rfl ?_
  conv => whnf
  unfold compareInt
  by_cases h1 : x < y
  · rw [if_pos h1]
    refine brT (decide_eq_true h1) ?_
    conv => whnf
  · rw [if_neg h1]
    refine brF (decide_eq_false h1) ?_
    conv => whnf
    by_cases h2 : x > y
    · rw [if_pos h2]
      refine brT (decide_eq_true h2) ?_
      conv => whnf
    · rw [if_neg h2]
      refine brF (decide_eq_false h2) ?_
      conv => whnf
theorem or_ok [Dr] (x y : Int) : FnOk Tryd.prog 52 [.d (.sl false 2 1 (chunk [.int .i64 x, .int .i64 y] 1))] (.d (.int .i64 (if x ≠ 0 then x else y))) := by
  refine fnOk_of_run (TT := TT) (IN := lookI []) TT_ok INok_nil mixed 1000 Tryd.func52 rfl (enters Tryd.func52 (by kernel_rfl) rfl) rfl 17 (by kernel_rfl) ?_
  conv => whnf
  refine .once ?_
  conv => whnf
  refine brT rfl ?_
  conv => whnf
  refine ⟨by decide, ?_⟩
  conv => whnf
  by_cases h : x = 0
  · subst h
    refine brF rfl ?_
    conv => whnf
    refine .once ?_
    conv => whnf
    refine brT rfl ?_
    conv => whnf
    refine ⟨by decide, ?_⟩
    conv => whnf
    by_cases h2 : y = 0
    · subst h2
      refine brF rfl ?_
      conv => whnf
      refine .once ?_
      conv => whnf
      refine brF rfl ?_
      conv => whnf
      exact rfl
    · refine brT (bne_iff_ne.2 h2) ?_
      conv => whnf
      exact rfl
  · rw [if_pos h]
    refine brT (bne_iff_ne.2 h) ?_
    conv => whnf
/-- How prefixes are ordered: by address, then by length. -/
def cmpPf (p q : Pf) : Int := if compareInt p.addr q.addr ≠ 0 then compareInt p.addr q.addr else compareInt p.bits q.bits
theorem lean2_ok [Dr] (p q : Pf) : FnOk Tryd.prog 51 [p.sv, q.sv] (.d (.int .i64 (cmpPf p q))) := by
  unfold cmpPf
  refine fnOk_of_run (TT := TT) (IN := lookI []) TT_ok INok_nil mixed 1000 Tryd.func51 rfl (enters Tryd.func51 (by kernel_rfl) rfl) rfl 15 (by kernel_rfl) ?_
  conv => whnf
  refine .data _ (cmp32_ok p.addr q.addr) rfl rfl ?_
  generalize compareInt (p.addr : Int) q.addr = x
  conv => whnf
  refine .data _ (cmp64_ok p.bits q.bits) rfl rfl ?_
  generalize compareInt p.bits q.bits = y
  conv => whnf
  refine .look (r := .d (.int .i64 (if x ≠ 0 then x else y))) ?_ rfl ?_
  · conv => whnf
    exact ⟨or_ok x y, rfl⟩
  conv => whnf
end Go.Proofs.YtjeihmchcfadlaaDoor
namespace Go.Proofs
open Go.Shelf Go.RowKit Go.Lib
def Try.sortPf_ren : Go.Shelf.Ren := ⟨fun | 6 => 50 | 15 => 80 | 14 => 79 | 28 => 109 | 29 => 110 | 20 => 101 | 21 => 102 | 22 => 103 | 23 => 104 | 24 => 105 | 25 => 106 | 26 => 107 | 27 => 108 | 46 => 122 | 47 => 123 | 48 => 124 | 49 => 125 | 50 => 126 | 57 => 136 | n => n, fun | 22 => 33 | 24 => 36 | 25 => 82 | 3 => 3 | 39 => 61 | 0 => 0 | 53 => 22 | 55 => 56 | 4 => 4 | 46 => 135 | 45 => 134 | 50 => 122 | 5 => 5 | 9 => 9 | 66 => 152 | 70 => 156 | 76 => 170 | 77 => 171 | n => n, fun | n => n⟩
theorem Try.sortPf : Go.Proofs.SlLaysF0.n6 Tryd.prog Try.sortPf_ren := {
  mixed := by kernel_rfl
  f6 := ⟨Tryd.f50.name, by decide, Tryd.func50.trans (congrArg some (by kernel_rfl))⟩
  f14 := ⟨Tryd.f79.name, by decide, Tryd.func79.trans (congrArg some (by kernel_rfl))⟩
  f15 := Tryd.func80.trans (congrArg some (by kernel_rfl))
  f20 := ⟨Tryd.f101.name, by decide, Tryd.func101.trans (congrArg some (by kernel_rfl))⟩
  f21 := ⟨Tryd.f102.name, by decide, Tryd.func102.trans (congrArg some (by kernel_rfl))⟩
  f22 := ⟨Tryd.f103.name, by decide, Tryd.func103.trans (congrArg some (by kernel_rfl))⟩
  f23 := ⟨Tryd.f104.name, by decide, Tryd.func104.trans (congrArg some (by kernel_rfl))⟩
  f24 := ⟨Tryd.f105.name, by decide, Tryd.func105.trans (congrArg some (by kernel_rfl))⟩
  f25 := ⟨Tryd.f106.name, by decide, Tryd.func106.trans (congrArg some (by kernel_rfl))⟩
  f26 := ⟨Tryd.f107.name, by decide, Tryd.func107.trans (congrArg some (by kernel_rfl))⟩
  f27 := ⟨Tryd.f108.name, by decide, Tryd.func108.trans (congrArg some (by kernel_rfl))⟩
  f28 := Tryd.func109.trans (congrArg some (by kernel_rfl))
  f29 := Tryd.func110.trans (congrArg some (by kernel_rfl))
  f46 := ⟨Tryd.f122.name, by decide, Tryd.func122.trans (congrArg some (by kernel_rfl))⟩
  f47 := Tryd.func123.trans (congrArg some (by kernel_rfl))
  f48 := Tryd.func124.trans (congrArg some (by kernel_rfl))
  f49 := ⟨Tryd.f125.name, by decide, Tryd.func125.trans (congrArg some (by kernel_rfl))⟩
  f50 := ⟨Tryd.f126.name, by decide, Tryd.func126.trans (congrArg some (by kernel_rfl))⟩
  f57 := ⟨Tryd.f136.name, by decide, Tryd.func136.trans (congrArg some (by kernel_rfl))⟩
  t0 := Tryd.underlying0
  a0 := Tryd.isAgg0
  z0 := Tryd.sizeOf0
  v0 := Tryd.zeroValue0
  t3 := Tryd.underlying3
  a3 := Tryd.isAgg3
  z3 := Tryd.sizeOf3
  v3 := Tryd.zeroValue3
  t4 := Tryd.underlying4
  a4 := Tryd.isAgg4
  z4 := Tryd.sizeOf4
  v4 := Tryd.zeroValue4
  t5 := Tryd.underlying5
  a5 := Tryd.isAgg5
  z5 := Tryd.sizeOf5
  v5 := Tryd.zeroValue5
  t9 := Tryd.underlying9
  a9 := Tryd.isAgg9
  z9 := Tryd.sizeOf9
  v9 := Tryd.zeroValue9
  t22 := Tryd.underlying33
  a22 := Tryd.isAgg33
  z22 := Tryd.sizeOf33
  v22 := Tryd.zeroValue33
  t25 := Tryd.underlying82
  a25 := Tryd.isAgg82
  z25 := Tryd.sizeOf82
  v25 := Tryd.zeroValue82
  t39 := Tryd.underlying61
  a39 := Tryd.isAgg61
  z39 := Tryd.sizeOf61
  v39 := Tryd.zeroValue61
  t45 := Tryd.underlying134
  a45 := Tryd.isAgg134
  z45 := Tryd.sizeOf134
  v45 := Tryd.zeroValue134
  t46 := Tryd.underlying135
  a46 := Tryd.isAgg135
  z46 := Tryd.sizeOf135
  v46 := Tryd.zeroValue135
  t50 := Tryd.underlying122
  a50 := Tryd.isAgg122
  z50 := Tryd.sizeOf122
  v50 := Tryd.zeroValue122
  t53 := Tryd.underlying22
  a53 := Tryd.isAgg22
  z53 := Tryd.sizeOf22
  v53 := Tryd.zeroValue22
  t55 := Tryd.underlying56
  a55 := Tryd.isAgg56
  z55 := Tryd.sizeOf56
  v55 := Tryd.zeroValue56
  t66 := Tryd.underlying152
  a66 := Tryd.isAgg152
  z66 := Tryd.sizeOf152
  v66 := Tryd.zeroValue152
  t70 := Tryd.underlying156
  a70 := Tryd.isAgg156
  z70 := Tryd.sizeOf156
  v70 := Tryd.zeroValue156
  t76 := Tryd.underlying170
  a76 := Tryd.isAgg170
  z76 := Tryd.sizeOf170
  v76 := Tryd.zeroValue170
  t77 := Tryd.underlying171
  a77 := Tryd.isAgg171
  z77 := Tryd.sizeOf171
  v77 := Tryd.zeroValue171 }
end Go.Proofs
namespace Go.Proofs.YtjeihmchcfadlaaDoor
open Go Go.Eng Go.Lib
set_option maxRecDepth 100000
/-- A step in which nothing known changes, and no draw is taken back, is draws and new blocks. -/
theorem grow_of [Dr] (hD : Dr.p) {W w' : World} (h : Step (fun _ => False) W w') : ∃ q os', w' = Sort.grow (W.drewN q) os' := by
  refine ⟨w'.drawn - W.drawn, w'.heap.extract W.heap.size w'.heap.size, ?_⟩
  have hd : W.drawn ≤ w'.drawn := h.dr hD
  have hh : w'.heap = W.heap ++ w'.heap.extract W.heap.size w'.heap.size := by
    apply Array.ext_getElem?
    intro i
    by_cases hi : i < W.heap.size
    · rw [Array.getElem?_append_left hi]
      exact h.block i hi (fun e => e)
    · rw [Array.getElem?_append_right (by omega), Array.getElem?_extract]
      by_cases h2 : i < w'.heap.size
      · rw [if_pos (by omega), show W.heap.size + (i - W.heap.size) = i by omega]
      · rw [if_neg (by omega)]
        exact Array.getElem?_eq_none (by omega)
  have e1 := h.os
  have e2 := h.tape
  have e3 := h.output
  obtain ⟨hp, tp, dn, os, out⟩ := w'
  simp only at hh hd e1 e2 e3 ⊢
  subst e1 e2 e3
  unfold Sort.grow World.drewN
  simp only
  congr 1
  omega
def encPf (p : Pf) : List Value := [.int .u32 p.addr, .int .i64 p.bits]
theorem ltPf (p q : Pf) : Go.Proofs.ltOf cmpPf p q = decide (p.addr < q.addr ∨ p.addr = q.addr ∧ p.bits < q.bits) := by
  unfold Go.Proofs.ltOf cmpPf compareInt
  rw [decide_eq_decide]
  split <;> (repeat' split at *) <;> omega
theorem swoPf : Sort.SWO (Go.Proofs.ltOf cmpPf) where
  irrefl x := by rw [ltPf]; simp
  trans x y z h1 h2 := by rw [ltPf] at *; simp at *; omega
  ntrans x y z h1 h2 := by rw [ltPf] at *; simp at *; omega
instance drP : Inhabited Pf := ⟨⟨0, 0⟩⟩
theorem putRow_any {α : Type} [Inhabited α] {w : World} {b : Nat} {vs : Array Value} {t : TypeId} {fz : Nat × Nat} (h : w.heap[b]? = some (.cells vs t fz)) (enc : α → Value) (d : Array α) : Sort.putRow enc w b 0 d = World.setBlock w b (.cells (Sort.putCells enc 0 d vs) t fz) := by
  unfold Sort.putRow Sort.mapBlock World.setBlock
  congr 1
  apply Array.ext_getElem?
  intro j
  have hb : b < w.heap.size := lt_of_block h
  rw [Array.getElem?_modify, Array.getElem?_setIfInBounds]
  by_cases e1 : b = j
  · subst e1
    rw [if_pos rfl, if_pos rfl, if_pos hb, h]
    rfl
  · rw [if_neg e1, if_neg e1]
theorem sv_den {w : World} {M : Nat → Prop} (p : Pf) : Den w M noE p.sv (.agg (encPf p).toArray) := by
  refine .agg _ _ rfl (fun j s u hs hu => ?_) (fun u hu => ?_)
  · match j with
    | 0 => cases hs; cases hu; exact .d (.int _ _)
    | 1 => cases hs; cases hu; exact .d (.int _ _)
    | j + 2 => simp at hs
  · simp [encPf] at hu
    rcases hu with rfl | rfl <;> rfl
theorem cmp_lays (blk off size : Nat) (w : World) (hV : VOk w (fun _ _ => False)) (hb : ∀ p, p ∈ evs → p.1 ≠ blk) : CmpLays Tryd.prog 51 #[] encPf 2 cmpPf blk off size w := by
  intro m os dk hs x y
  have hVs : VOk (sortWorldK encPf 2 w blk off m dk os) (fun _ _ => False) := fun p hp => by
    obtain ⟨⟨vs, t, fz, e, h1⟩, _⟩ := hV p hp
    refine ⟨⟨vs, t, fz, ?_, h1⟩, fun _ h => h⟩
    have hlt : p.1 < w.heap.size := lt_of_block e
    unfold sortWorldK Sort.grow Sort.putRowK Sort.putRow Sort.mapBlock
    show ((w.heap.modify blk _) ++ os)[p.1]? = _
    rw [Array.getElem?_append_left (by simpa using hlt), Array.getElem?_modify, if_neg (fun h => hb p hp h.symm)]
    exact e
  have h := (@lean2_ok ⟨True⟩ x y).2 (fun _ => False) (sortWorldK encPf 2 w blk off m dk os) [.agg (encPf x).toArray, .agg (encPf y).toArray] hVs (fun _ h => h.elim) rfl (fun j s u hs hu => by
    match j with
    | 0 => cases hs; cases hu; exact sv_den x
    | 1 => cases hs; cases hu; exact sv_den y
    | j + 2 => simp at hs)
  refine h.mono ?_
  rintro e w' ⟨r, rfl, hst, hd⟩
  refine ⟨?_, @grow_of ⟨True⟩ trivial _ _ hst⟩
  have := den_int hd
  rw [this]
/-- It rises: by address, then by length. -/
def Rises (l : List Pf) : Prop := l.Pairwise fun p q => ¬ (q.addr < p.addr ∨ q.addr = p.addr ∧ q.bits < p.bits)
theorem evs_ne {w : World} {fp : Nat → Nat → Prop} (h : VOk w fp) {i b : Nat} (hb : fp i b) : ∀ p, p ∈ evs → p.1 ≠ b := fun p hp e => (h p hp).2 i (e ▸ hb)
set_option maxHeartbeats 2000000 in
theorem sortf_ok (z : Z) (l : List Pf) (h0 : 0 < l.length) (hn : l.length ≤ 1000000) : COk Tryd.prog 50 [.all 0, .fn 51 []] [.row 36 2 l.length z (pfs l)] (fun r k => r = .tup [] ∧ ∃ l' : List Pf, l'.Perm l ∧ Rises l' ∧ k = [.row 36 2 l.length z (pfs l')]) := by
  refine ⟨enters Tryd.func50 (by kernel_rfl) rfl, fun X w β fp vs hM hl hd => ?_⟩
  match vs, hl with
  | [v0, v1], _ =>
    have ha := hd 0 _ v0 rfl rfl
    have hf := hd 1 _ v1 rfl rfl
    obtain ⟨n, hnl⟩ : ∃ n, n = l.length := ⟨_, rfl⟩
    rw [← hnl] at hM h0 hn ⊢
    cases hf with
    | fn _ _ cs hcl hcd =>
    have hcs : cs = [] := by
      cases cs with
      | nil => rfl
      | cons a b => simp at hcl
    subst hcs
    cases ha with
    | allNil _ L hL hnil =>
      have hb := hM.at (i := 0) rfl (by simp) hL
      cases hb with
      | rowNil => omega
      | row _ _ _ _ _ us fz hfp hnil' => rw [hnil] at hnil'; cases hnil'
    | all _ L hL hnil =>
      have hb := hM.at (i := 0) rfl (by simp) hL
      cases hb with
      | rowNil _ _ _ _ _ hnil' => rw [hnil] at hnil'; cases hnil'
      | row _ _ _ _ _ us fz hfp _ hLs hLn hzz hblk hfz hvs hng hfl hr hone =>
        have hfp0 : fp 0 L.b := (hfp _).2 rfl
        have hu : ∀ k, k < n → us[k * 2]? = some (.int .u32 (l.getD k ⟨0, 0⟩).addr) ∧ us[k * 2 + 1]? = some (.int .i64 (l.getD k ⟨0, 0⟩).bits) := fun k hk => by
          have hlt : k * 2 + 1 < us.size := by rw [hvs]; omega
          have r0 := hr k 0 _ us[k * 2] hk (show (pfs l k)[0]? = some _ from rfl) (by rw [Nat.add_zero]; exact Array.getElem?_eq_getElem (by omega))
          have r1 := hr k 1 _ us[k * 2 + 1] hk (show (pfs l k)[1]? = some _ from rfl) (Array.getElem?_eq_getElem hlt)
          have e0 := den_int (β := noE) (.d r0)
          have e1 := den_int (β := noE) (.d r1)
          exact ⟨by rw [Array.getElem?_eq_getElem (by omega), e0], by rw [Array.getElem?_eq_getElem hlt, e1]⟩
        have hget : ∀ (d : Array Pf) (k : Nat), d[k]! = d.toList.getD k ⟨0, 0⟩ := fun d k => by
          rw [List.getD_eq_getElem?_getD, Array.getElem?_toList, Array.getElem!_eq_getD, Array.getD_eq_getD_getElem?]
          rfl
        have hH : Sort.HoldsK encPf 2 w L.b 0 l.toArray := fun t ht => by
          have ht : t < l.length * 2 := by simpa using ht
          have hk : t / 2 < n := by omega
          obtain ⟨u0, u1⟩ := hu (t / 2) hk
          refine ⟨?_, ?_⟩
          · rw [Nat.zero_add, Sort.get_flatK _ _ _ _ (by simpa using ht), hget]
            show w.cell? ⟨L.b, t, none⟩ = some _
            have e2 : t % 2 = 0 ∨ t % 2 = 1 := by omega
            rcases e2 with e2 | e2
            · rw [e2]
              rw [show t / 2 * 2 = t by omega] at u0
              simp [World.cell?, hblk, u0, encPf]
            · rw [e2]
              rw [show t / 2 * 2 + 1 = t by omega] at u1
              simp [World.cell?, hblk, u1, encPf]
          · have := hfz t (by rw [hvs]; omega)
            obtain ⟨lo, hi⟩ := fz
            simp [World.frozen?, hblk]
            intro h1
            have : ¬ (lo ≤ t ∧ t < hi) := this
            omega
        have hcon := AnyQ.slices_SortFunc Try.sortPf 2 Tryd.isAgg36 Tryd.sizeOf36 encPf (fun _ => rfl) (fun x v hv => by simp [encPf] at hv; rcases hv with rfl | rfl <;> rfl) cmpPf swoPf 51 #[] L.b 0 L.c l.toArray w (enters Tryd.func51 (by kernel_rfl) rfl) (cmp_lays L.b 0 _ w hM.vo.no (evs_ne hM.vo hfp0)) hH (lt_of_block hblk) (by show l.length < _; omega)
        have hsz : l.toArray.size = L.n := by rw [hLn, hnl]; rfl
        rw [hsz] at hcon
        refine (show Calls Tryd.prog 50 #[.slice (some ⟨L.b, 0, none⟩) L.n L.c, .func (.func 51) #[] #[]] w _ from hcon).mono ?_
        rintro e w' ⟨rfl, d', m, os, hp, hs, rfl⟩
        have hds : d'.size = n := by
          have := hp.1
          simp at this
          omega
        have hpm : d'.toList.Perm l := by
          have h := hp.2.2
          rw [show L.n = d'.size by omega] at h
          have e2 : l.toArray.extract 0 d'.size = l.toArray := by
            rw [show d'.size = l.toArray.size by simp; omega]
            exact Array.extract_size ..
          rw [Array.extract_size, e2] at h
          exact h
        have hri : Rises d'.toList := by
          unfold Rises
          rw [List.pairwise_iff_getElem]
          intro i j hi hj hij
          have h := hs i j (Nat.zero_le _) hij (by simp at hj; omega)
          rw [ltPf, hget, hget] at h
          simp only [List.getD_eq_getElem?_getD, List.getElem?_eq_getElem hi, List.getElem?_eq_getElem hj, Option.getD_some, decide_eq_false_iff_not] at h
          exact h
        have Q1 : Step (fun _ => False) w (Sort.ahead w m) := ⟨rfl, rfl, rfl, Nat.le_refl _, fun _ _ _ => rfl, fun h => (show False from h).elim⟩
        have W1 := hM.quiet Q1
        have eS : sortWorldK encPf 2 w L.b 0 m d' os = Sort.grow (World.setBlock (Sort.ahead w m) L.b (.cells (Sort.putCells id 0 (Sort.flatK encPf 2 d') us) 36 fz)) os := by
          unfold sortWorldK Sort.putRowK
          rw [putRow_any (w := Sort.ahead w m) hblk]
        have hfs : (Sort.flatK encPf 2 d').size = n * 2 := by rw [Sort.size_flatK, hds]
        have hcell : ∀ t u, (Sort.putCells id 0 (Sort.flatK encPf 2 d') us)[t]? = some u → (t < n * 2 ∧ u = (encPf (d'.toList.getD (t / 2) ⟨0, 0⟩))[t % 2]!) ∨ us[t]? = some u := fun t u h => by
          unfold Sort.putCells at h
          rw [Array.getElem?_mapIdx] at h
          cases hx : us[t]? with
          | none => rw [hx] at h; cases h
          | some x =>
            rw [hx] at h
            simp only [Option.map_some, Option.some.injEq, hfs, id] at h
            split at h
            · rename_i h1
              refine .inl ⟨by omega, ?_⟩
              rw [← h, Nat.sub_zero, Sort.get_flatK _ _ _ _ (by rw [hds]; omega), hget]
            · exact .inr (congrArg some h)
        have hin : ∀ t, t < n * 2 → (Sort.putCells id 0 (Sort.flatK encPf 2 d') us)[t]? = some ((encPf (d'.toList.getD (t / 2) ⟨0, 0⟩))[t % 2]!) := fun t ht => by
          unfold Sort.putCells
          rw [Array.getElem?_mapIdx, Array.getElem?_eq_getElem (by rw [hvs]; omega)]
          simp only [Option.map_some, hfs, id]
          rw [if_pos (by omega), Nat.sub_zero, Sort.get_flatK _ _ _ _ (by rw [hds]; omega), hget]
        have hkb : KBat (World.setBlock (Sort.ahead w m) L.b (.cells (Sort.putCells id 0 (Sort.flatK encPf 2 d') us) 36 fz)) (Mx X fp) β L (fp 0) (.row 36 2 n z (pfs d'.toList)) := by
          refine .row _ _ _ _ _ (Sort.putCells id 0 (Sort.flatK encPf 2 d') us) fz hfp hnil hLs hLn hzz (setBlock_same _ _ _ (lt_of_block hblk)) ?_ ?_ hng (fun _ _ => rfl) ?_ ?_
          · intro o ho
            exact hfz o (by simpa [Sort.putCells] using ho)
          · rw [← hvs]; simp [Sort.putCells]
          · intro k j d u hk hd2 hu2
            have hj : j < 2 := by
              have := (List.getElem?_eq_some_iff.1 hd2).1
              simpa [pfs] using this
            have hx := hin (k * 2 + j) (by omega)
            rw [hu2] at hx
            have hx := Option.some.inj hx
            match j, hj, hd2 with
            | 0, _, hd2 =>
              cases hd2
              rw [show (k * 2 + 0) / 2 = k by omega, show (k * 2 + 0) % 2 = 0 by omega] at hx
              subst hx
              exact .int _ _
            | 1, _, hd2 =>
              cases hd2
              rw [show (k * 2 + 1) / 2 = k by omega, show (k * 2 + 1) % 2 = 1 by omega] at hx
              subst hx
              exact .int _ _
          · intro t u hu2
            rcases hcell t u hu2 with ⟨_, rfl⟩ | h
            · have e2 : t % 2 = 0 ∨ t % 2 = 1 := by omega
              rcases e2 with e2 | e2 <;> rw [e2] <;> rfl
            · exact hone t u h
        have W2 := W1.mem.set (i := 0) (.row 36 2 n z (pfs d'.toList)) (.cells (Sort.putCells id 0 (Sort.flatK encPf 2 d') us) 36 fz) (by simp) hL hfp hkb
        have Q3 : Step (fun _ => False) (World.setBlock (Sort.ahead w m) L.b (.cells (Sort.putCells id 0 (Sort.flatK encPf 2 d') us) 36 fz)) (sortWorldK encPf 2 w L.b 0 m d' os) := by
          rw [eS]
          exact ⟨rfl, rfl, rfl, by simp [Sort.grow], fun b hb _ => Array.getElem?_append_left hb, fun h => (show False from h).elim⟩
        exact ⟨_, .tup [], _, _, _, rfl, ⟨rfl, d'.toList, hpm, hri, rfl⟩, (W1.trans W2).trans (W2.mem.quiet Q3), .tup _ _ rfl (fun j s' u hj _ => by simp at hj)⟩
end Go.Proofs.YtjeihmchcfadlaaDoor
namespace Go.Proofs.YtjeihmchcfadlaaDoor
open Go Go.Eng Go.Lib
set_option maxRecDepth 100000
/-- The prefix of which two are the halves, in order. -/
def wholeP (a b : Pf) : Option Pf :=
  if a.bits ≠ b.bits ∨ a.bits = 0 ∨ a.addr = b.addr then none
  else if (⟨a.addr, a.bits - 1⟩ : Pf).has b.addr then some ⟨a.addr, a.bits - 1⟩ else none
def wholeV (a b : Pf) : SV := .tup [(if a.bits ≠ b.bits ∨ a.bits = 0 ∨ a.addr = b.addr then ⟨0, 0⟩ else ⟨a.addr, a.bits - 1⟩ : Pf).sv, .d (.bool (wholeP a b).isSome)]
set_option maxHeartbeats 4000000 in
theorem whole_ok (a b : Pf) (ha : a.addr < 4294967296) (hb : b.addr < 4294967296) (hn : -9223372036854775807 ≤ a.bits ∧ a.bits ≤ 9223372036854775807) : FnOk Tryd.prog 55 [a.sv, b.sv] (wholeV a b) := by
  have hc := has_ok ⟨a.addr, a.bits - 1⟩ ha b.addr hb
  unfold wholeV wholeP
  refine fnOk_of_run (TT := TT) (IN := lookI []) TT_ok INok_nil mixed 1000 Tryd.func55 rfl (enters Tryd.func55 (by kernel_rfl) rfl) rfl 34 (by kernel_rfl) ?_
  conv => whnf
  by_cases h1 : a.bits = b.bits
  case neg =>
    rw [if_pos (.inl h1), if_pos (.inl h1)]
    refine brT (bne_iff_ne.2 h1) ?_
    conv => whnf
    exact ⟨⟨rfl, rfl, trivial⟩, rfl, trivial⟩
  refine brF (bne_eq_false_iff_eq.2 h1) ?_
  conv => whnf
  by_cases h2 : a.bits = 0
  · rw [if_pos (.inr (.inl h2)), if_pos (.inr (.inl h2))]
    refine brT (by rw [h2]; rfl) ?_
    conv => whnf
    exact ⟨⟨rfl, rfl, trivial⟩, rfl, trivial⟩
  refine brF (by rw [beq_eq_false_iff_ne]; exact h2) ?_
  conv => whnf
  by_cases h3 : a.addr = b.addr
  · rw [if_pos (.inr (.inr h3)), if_pos (.inr (.inr h3))]
    refine brT (by rw [h3]; exact beq_self_eq_true _) ?_
    conv => whnf
    exact ⟨⟨rfl, rfl, trivial⟩, rfl, trivial⟩
  have hno : ¬ (a.bits ≠ b.bits ∨ a.bits = 0 ∨ a.addr = b.addr) := fun h => by
    rcases h with h | h | h
    · exact h h1
    · exact h2 h
    · exact h3 h
  rw [if_neg hno, if_neg hno]
  refine brF (by rw [beq_eq_false_iff_ne]; omega) ?_
  conv => whnf
  rw [show IntKind.i64.wrap (a.bits - 1) = a.bits - 1 from w64_in _ (by omega)]
  refine .data _ hc rfl rfl ?_
  cases hh : (⟨a.addr, a.bits - 1⟩ : Pf).has b.addr with
  | true =>
    conv => whnf
    exact ⟨⟨rfl, rfl, trivial⟩, rfl, trivial⟩
  | false =>
    conv => whnf
    exact ⟨⟨rfl, rfl, trivial⟩, rfl, trivial⟩
theorem blen_ok (n : Nat) (h : n < 4611686018427387904) : FnOk Tryd.prog 80 [.d (.int .u64 n)] (.d (.int .i64 (Lib.bitLen n : Nat))) := by
  refine ⟨enters Tryd.func80 (by kernel_rfl) rfl, fun M w vs hV hM hl hd => ?_⟩
  match vs, hl with
  | [v0], _ =>
    have h0 := den_int (hd 0 _ v0 rfl rfl)
    subst h0
    have hb := Any.bits_Len (SlLaysF0.n15.bits (P := Tryd.prog) (ρ := Try.sortPf_ren) { Try.sortPf with }) (n : Int) w (by omega) (by omega)
    rw [Int.toNat_natCast] at hb
    refine hb.mono ?_
    rintro e w' ⟨rfl, rfl⟩
    exact ⟨_, rfl, Step.refl _ _, .d (.int _ _)⟩
theorem sort0_ok (f : Nat → List DV) (z : Z) : COk Tryd.prog 50 [.all 0, .fn 51 []] [.row 36 2 0 z f] (fun r k => r = .tup [] ∧ k = [.row 36 2 0 z f]) := by
  refine cOk_of_run (TT := TT) (IN := lookI [(79, Tryd.f79, 5), (101, Tryd.f101, 4)]) TT_ok (INok_cons (INok_cons INok_nil Tryd.func101 (by kernel_rfl) (by kernel_rfl)) Tryd.func79 (by kernel_rfl) (by kernel_rfl)) mixed 1000 Tryd.func50 rfl (enters Tryd.func50 (by kernel_rfl) rfl) 12 (by kernel_rfl) ?_
  conv => whnf
  rw [show IntKind.u64.wrap ((0 : Nat) : Int) = ((0 : Nat) : Int) from rfl]
  refine .one (.data _ (blen_ok 0 (by decide)) rfl rfl ?_)
  conv => whnf
  repeat (first | (refine brT rfl ?_; conv => whnf) | (refine brF rfl ?_; conv => whnf) | (refine .once ?_; conv => whnf) | (refine ⟨by decide, ?_⟩; conv => whnf))
  refine ⟨[0], .tup [], _, rfl, rfl, ?_, ?_, rfl, rfl⟩
  · exact rfl
  · conv => whnf
    repeat' (first | exact True.intro | exact rfl | exact subZ_self _ | exact Or.inr rfl | exact fun _ _ => rfl | exact fun _ h => absurd h (Nat.not_lt_zero _) | refine And.intro ?_ ?_)
    all_goals (cases z <;> exact True.intro)
end Go.Proofs.YtjeihmchcfadlaaDoor
namespace Go.Proofs.YtjeihmchcfadlaaDoor
open Go Go.Eng Go.Lib
set_option maxRecDepth 100000
theorem sortall_ok (z : Z) (l : List Pf) (hn : l.length ≤ 1000000) : COk Tryd.prog 50 [.all 0, .fn 51 []] [.row 36 2 l.length z (pfs l)] (fun r k => r = .tup [] ∧ ∃ l' : List Pf, l'.Perm l ∧ Rises l' ∧ k = [.row 36 2 l.length z (pfs l')]) := by
  cases l with
  | nil => exact COk.imp (sort0_ok (pfs []) z) fun s k ⟨h1, h2⟩ => ⟨h1, [], .nil, .nil, h2⟩
  | cons a l => exact sortf_ok z (a :: l) (by simp) hn
theorem pfs_cat (a : List Pf) (q : Pf) : ∀ i, i < a.length + 1 → catF a.length (pfs a) (chunk [DV.int IntKind.u32 q.addr, DV.int IntKind.i64 q.bits] 2) i = pfs (a ++ [q]) i := fun i hi => by
  unfold catF pfs
  by_cases h : i < a.length
  · rw [if_pos h]
    simp [List.getElem?_append_left h]
  · rw [if_neg h]
    have : i = a.length := by omega
    subst this
    simp [chunk]
/-- Halves at a stack's top are put together. -/
def coll : List Pf → List Pf
  | [] => []
  | [b] => [b]
  | b :: a :: r => match wholeP a b with
    | some p => coll (p :: r)
    | none => b :: a :: r
termination_by l => l.length
/-- One prefix more, if the last one has it not. -/
def push (st : List Pf) (p : Pf) : List Pf := match st with
  | [] => coll [p]
  | b :: r => if b.has p.addr then b :: r else coll (p :: b :: r)
def GoodS (st : List Pf) : Prop := ∀ p ∈ st, p.addr < 4294967296 ∧ p.right = true
theorem good_whole {a b p : Pf} (ha : a.addr < 4294967296) (h : wholeP a b = some p) : p.addr < 4294967296 ∧ p.right = true := by
  unfold wholeP at h
  split at h
  · cases h
  · split at h
    · rename_i hh
      cases h
      refine ⟨ha, ?_⟩
      unfold Pf.has at hh
      rw [Bool.and_eq_true] at hh
      exact hh.1
    · cases h
theorem good_coll (n : Nat) : ∀ (st : List Pf), st.length ≤ n → GoodS st → GoodS (coll st) ∧ (coll st).length ≤ st.length := by
  induction n with
  | zero =>
    intro st h hg
    cases st with
    | nil => unfold coll; exact ⟨hg, Nat.le_refl _⟩
    | cons a r => simp at h
  | succ n ih =>
    intro st h hg
    match st, h, hg with
    | [], _, hg => unfold coll; exact ⟨hg, Nat.le_refl _⟩
    | [b], _, hg => unfold coll; exact ⟨hg, Nat.le_refl _⟩
    | b :: a :: r, h, hg =>
      unfold coll
      cases hw : wholeP a b with
      | none => exact ⟨hg, Nat.le_refl _⟩
      | some p =>
        have hp := good_whole (hg a (by simp)).1 hw
        have := ih (p :: r) (by simp at h ⊢; omega) (fun q hq => by
          rcases List.mem_cons.1 hq with rfl | hq
          · exact hp
          · exact hg q (by simp [hq]))
        exact ⟨this.1, by have := this.2; simp at this ⊢; omega⟩
theorem good_push {st : List Pf} {p : Pf} (h : GoodS st) (hp : p.addr < 4294967296 ∧ p.right = true) : GoodS (push st p) ∧ (push st p).length ≤ st.length + 1 := by
  have hc : GoodS (p :: st) := fun q hq => by
    rcases List.mem_cons.1 hq with rfl | hq
    · exact hp
    · exact h q hq
  have hk := good_coll _ (p :: st) (Nat.le_refl _) hc
  cases st with
  | nil => exact hk
  | cons b r =>
    show GoodS (if b.has p.addr then b :: r else coll (p :: b :: r)) ∧ (if b.has p.addr then b :: r else coll (p :: b :: r)).length ≤ _
    split
    · exact ⟨h, Nat.le_succ _⟩
    · exact hk
def leanS (S : List Pf) : List Pf := S.foldl push []
theorem leanS_snoc (S : List Pf) (p : Pf) : leanS (S ++ [p]) = push (leanS S) p := by simp [leanS, List.foldl_append]
theorem good_leanS : ∀ (n : Nat) (S : List Pf), S.length = n → GoodS S → GoodS (leanS S) ∧ (leanS S).length ≤ n := by
  intro n
  induction n with
  | zero =>
    intro S h _
    have := List.eq_nil_of_length_eq_zero h
    subst this
    exact ⟨fun p hp => by simp [leanS] at hp, Nat.le_refl _⟩
  | succ n ih =>
    intro S h hg
    have hne : S ≠ [] := fun e => by rw [e] at h; simp at h
    have e := (List.dropLast_concat_getLast hne).symm
    rw [e, leanS_snoc]
    have h1 := ih S.dropLast (by simp; omega) (fun p hp => hg p (List.dropLast_subset _ hp))
    have h2 := good_push h1.1 (hg _ (List.getLast_mem hne))
    exact ⟨h2.1, by omega⟩
/-- One may stand ahead of the other. -/
def leP (p q : Pf) : Bool := decide (¬ (q.addr < p.addr ∨ q.addr = p.addr ∧ q.bits < p.bits))
def srt (l : List Pf) : List Pf := l.mergeSort leP
theorem leP_anti {p q : Pf} (h1 : leP p q = true) (h2 : leP q p = true) : p = q := by
  unfold leP at h1 h2
  simp at h1 h2
  obtain ⟨a, n⟩ := p
  obtain ⟨b, m⟩ := q
  simp only at h1 h2
  have : a = b := by omega
  subst this
  have : n = m := by omega
  rw [this]
theorem eq_sorted : ∀ {l m : List Pf}, l.Perm m → l.Pairwise (fun p q => leP p q = true) → m.Pairwise (fun p q => leP p q = true) → l = m
  | [], m, h, _, _ => (List.Perm.nil_eq h)
  | a :: l, [], h, _, _ => absurd h.length_eq (by simp)
  | a :: l, b :: m, h, hl, hm => by
    have hab : a = b := by
      have h1 : a ∈ b :: m := h.mem_iff.1 (by simp)
      have h2 : b ∈ a :: l := h.mem_iff.2 (by simp)
      rcases List.mem_cons.1 h1 with e | e
      · exact e
      rcases List.mem_cons.1 h2 with e2 | e2
      · exact e2.symm
      exact leP_anti ((List.pairwise_cons.1 hl).1 b e2) ((List.pairwise_cons.1 hm).1 a e)
    subst hab
    rw [eq_sorted (List.Perm.cons_inv h) (List.pairwise_cons.1 hl).2 (List.pairwise_cons.1 hm).2]
theorem srt_sorted (l : List Pf) : (srt l).Pairwise (fun p q => leP p q = true) := by
  refine List.pairwise_mergeSort (fun a b c h1 h2 => ?_) (fun a b => ?_) l
  · unfold leP at *
    simp at *
    omega
  · unfold leP
    simp
    omega
theorem srt_eq {l S : List Pf} (h : S.Perm l) (hr : Rises S) : S = srt l :=
  eq_sorted (h.trans (List.mergeSort_perm l leP).symm) (hr.imp fun h => decide_eq_true h) (srt_sorted l)
/-- The lean list. -/
def leanL (l : List Pf) : List Pf := (leanS (srt (l.filter Pf.right))).reverse
end Go.Proofs.YtjeihmchcfadlaaDoor
namespace Go.Proofs.YtjeihmchcfadlaaDoor
open Go Go.Eng Go.Lib
set_option maxRecDepth 100000
theorem pfs_two (b a q : Pf) (r : List Pf) (j : Nat) (hj : j < r.length + 1) : catF ((r.length : Int) - 0).toNat (pfs (b :: a :: r).reverse) (chunk [DV.int IntKind.u32 q.addr, DV.int IntKind.i64 q.bits] 2) j = pfs (q :: r).reverse j := by
  have h := pfs_cat r.reverse q j (by rw [List.length_reverse]; exact hj)
  rw [List.length_reverse] at h
  rw [show ((r.length : Int) - 0).toNat = r.length by omega, List.reverse_cons (a := q), ← h]
  unfold catF
  split
  · rename_i hlt
    unfold pfs
    rw [List.reverse_cons, List.reverse_cons, List.append_assoc]
    simp only [List.getD_eq_getElem?_getD]
    rw [List.getElem?_append_left (by rw [List.length_reverse]; exact hlt)]
  · rfl
set_option maxHeartbeats 16000000 in
theorem lean_ok (z : Bool) (l : List Pf) (hl : ∀ p ∈ l, p.addr < 4294967296) (hn : l.length ≤ 100000) : FnOk Tryd.prog 22 [.d (.sl z l.length 2 (pfs l))] (.d (.sl (leanL l).isEmpty (leanL l).length 2 (pfs (leanL l)))) := by
  refine fnOk_of_run (TT := TT) (IN := lookI [(49, Tryd.f49, 2)]) TT_ok (INok_cons INok_nil Tryd.func49 (by kernel_rfl) (by kernel_rfl)) mixed 1000 Tryd.func22 rfl (enters Tryd.func22 (by kernel_rfl) rfl) rfl 80 (by kernel_rfl) ?_
  conv => whnf
  refine .nilC 0 0 36 2 (pfs []) _ _ _ _ rfl rfl ?_
  rw [show ∀ a : KB, lenB [a] = 1 from fun _ => rfl]
  conv => whnf
  refine .inv Nat (fun i => i ≤ l.length) (fun i => [(17, .d (.int .i64 i))]) (fun i => [(1, .row 36 2 ((l.take i).filter Pf.right).length .iff (pfs ((l.take i).filter Pf.right)))]) (fun i => l.length - i) ⟨0, [0, 1], Nat.zero_le _, ?_⟩ ?_
  · conv => whnf
    repeat' (first | exact True.intro | exact rfl | exact subZ_self _ | exact Or.inr rfl | exact fun _ _ => rfl | exact fun _ h => absurd h (Nat.not_lt_zero _) | refine And.intro ?_ ?_)
  intro i hi
  conv => whnf
  have hfl : ((l.take i).filter Pf.right).length ≤ l.length := Nat.le_trans (List.length_filter_le ..) (by rw [List.length_take]; omega)
  refine ⟨fun c1 => ?_, fun c1 => ?_⟩
  · have c1 : (i : Int) < l.length := of_decide_eq_true c1
    have hil : i < l.length := by omega
    have hw1 : IntKind.i64.wrap ((i : Int) + 1) = ((i + 1 : Nat) : Int) := by rw [w64_in _ (by omega)]; omega
    have hm := getD_mem hil
    have htk := take_getD hil
    conv => whnf
    refine ⟨by omega, ?_⟩
    conv => whnf
    rw [Int.toNat_natCast]
    generalize l.getD i ⟨0, 0⟩ = q at hm htk ⊢
    refine .one (.data _ (pcheck_ok q (hl q hm)) rfl rfl ?_)
    by_cases hr : q.right = true
    · rw [if_pos hr]
      conv => whnf
      refine brT rfl ?_
      conv => whnf
      have hf : (l.take (i + 1)).filter Pf.right = (l.take i).filter Pf.right ++ [q] := by rw [htk, List.filter_append]; simp [hr]
      refine ⟨by omega, ?_⟩
      conv => whnf
      refine ⟨i + 1, [0, 5], hil, by omega, ?_⟩
      rw [hf]
      conv => whnf
      rw [hw1]
      repeat' (first | exact True.intro | exact rfl | exact subZ_self _ | exact Or.inr rfl | exact fun _ _ => rfl | exact fun _ h => absurd h (Nat.not_lt_zero _) | refine And.intro ?_ ?_)
      · simp
      · exact fun j hj => pfs_cat _ q j hj
    · rw [if_neg hr]
      conv => whnf
      refine brF rfl ?_
      conv => whnf
      have hf : (l.take (i + 1)).filter Pf.right = (l.take i).filter Pf.right := by rw [htk, List.filter_append]; simp [hr]
      refine ⟨i + 1, [0, 1], hil, by omega, ?_⟩
      rw [hf]
      conv => whnf
      rw [hw1]
      repeat' (first | exact True.intro | exact rfl | exact subZ_self _ | exact Or.inr rfl | exact fun _ _ => rfl | exact fun _ h => absurd h (Nat.not_lt_zero _) | refine And.intro ?_ ?_)
  · have c1 : ¬ (i : Int) < l.length := of_decide_eq_false c1
    rw [List.take_of_length_le (by omega)] at hfl ⊢
    conv => whnf
    refine .rel _ (COk.frameX (sortall_ok .iff (l.filter Pf.right) (by omega)) [1] rfl rfl rfl) (fun x ks' hR => ?_)
    obtain ⟨_, _, ⟨rfl, S, hS1, hS2, rfl⟩, hr0, hk0⟩ := hR
    have hS := srt_eq hS1 hS2
    have hlen : S.length = (l.filter Pf.right).length := hS1.length_eq
    have hk : ks' = [.cells 33 [.all 1], .row 36 2 (l.filter Pf.right).length .iff (pfs S)] := hk0
    have hr : x = .tup [] := hr0
    clear hk0 hr0
    subst hk hr
    have hgood : GoodS S := fun p hp => by
      have := List.mem_filter.1 (hS1.mem_iff.1 hp)
      exact ⟨hl p this.1, this.2⟩
    rw [← hlen] at hfl ⊢
    unfold leanL
    rw [← hS]
    clear hS hS1 hS2 hlen
    conv => whnf
    refine .nilT 7 36 2 (pfs []) _ _ rfl ?_
    conv => whnf
    refine .inv Nat (fun k => k ≤ S.length) (fun k => [(7, .all 2), (29, .d (.int .i64 k))]) (fun k => [(2, .row 36 2 (leanS (S.take k)).length .iff (pfs (leanS (S.take k)).reverse))]) (fun k => S.length - k) ⟨0, [0, 1, 2], Nat.zero_le _, ?_⟩ ?_
    · conv => whnf
      repeat' (first | exact True.intro | exact rfl | exact subZ_self _ | exact Or.inr rfl | exact fun _ _ => rfl | exact fun _ h => absurd h (Nat.not_lt_zero _) | refine And.intro ?_ ?_)
    intro k hk
    have hgl := good_leanS k (S.take k) (by rw [List.length_take]; omega) (fun p hp => hgood p (List.mem_of_mem_take hp))
    conv => whnf
    refine ⟨fun c2 => ?_, fun c2 => ?_⟩
    · have c2 : (k : Int) < S.length := of_decide_eq_true c2
      have hkl : k < S.length := by omega
      have hw1 : IntKind.i64.wrap ((k : Int) + 1) = ((k + 1 : Nat) : Int) := by rw [w64_in _ (by omega)]; omega
      have hm := hgood _ (getD_mem hkl)
      have htk := take_getD hkl
      have hsn := leanS_snoc (S.take k) (S.getD k ⟨0, 0⟩)
      rw [← htk] at hsn
      conv => whnf
      refine ⟨by omega, ?_⟩
      conv => whnf
      rw [Int.toNat_natCast]
      generalize S.getD k ⟨0, 0⟩ = p at hm htk hsn ⊢
      generalize leanS (S.take k) = st at hgl hsn ⊢
      obtain ⟨hg, hsl⟩ := hgl
      by_cases h0 : st = []
      · have hpe : push st p = coll (p :: st) := by rw [h0]; rfl
        refine brF (decide_eq_false (by rw [h0]; decide)) ?_
        conv => whnf
        refine ⟨by omega, ?_⟩
        conv => whnf
        refine .inv (List Pf) (fun u => u ≠ [] ∧ coll u = coll (p :: st) ∧ GoodS u ∧ u.length ≤ st.length + 1) (fun u => [(7, .all 5), (50, .any)]) (fun u => [(5, .row 36 2 u.length .may (pfs u.reverse))]) (fun u => u.length) ⟨p :: st, [0, 1, 2, 3, 4, 5], ⟨by simp, rfl, fun q hq => (List.mem_cons.1 hq).elim (fun e => e ▸ hm) (hg q), by simp⟩, ?_⟩ ?_
        · conv => whnf
          repeat' (first | exact True.intro | exact rfl | exact subZ_self _ | exact Or.inr rfl | exact fun _ _ => rfl | exact fun _ h => absurd h (Nat.not_lt_zero _) | refine And.intro ?_ ?_)
          intro j hj
          have := pfs_cat st.reverse p j (by rw [List.length_reverse]; exact hj)
          rw [List.length_reverse] at this
          rw [List.reverse_cons]
          exact this
        intro u hu
        obtain ⟨hu0, hu1, hu2, hu3⟩ := hu
        conv => whnf
        match u, hu0, hu1, hu2, hu3 with
        | [b1], _, hu1, hu2, hu3 =>
          have hu1 : [b1] = coll (p :: st) := by rw [← hu1]; unfold coll; rfl
          refine brF rfl ?_
          conv => whnf
          refine ⟨k + 1, [0, 1, 5], hkl, by omega, ?_⟩
          rw [hsn, hpe, ← hu1]
          conv => whnf
          rw [hw1]
          repeat' (first | exact True.intro | exact rfl | exact subZ_self _ | exact Or.inr rfl | exact fun _ _ => rfl | exact fun _ h => absurd h (Nat.not_lt_zero _) | refine And.intro ?_ ?_)
          exact Nat.succ_pos _
        | b1 :: a1 :: r1, _, hu1, hu2, hu3 =>
          have hb1 := hu2 b1 (by simp)
          have ha1 := hu2 a1 (by simp)
          have hra := right_iff.1 ha1.2
          have hl1 : (b1 :: a1 :: r1).length = r1.length + 2 := rfl
          have f1 : IntKind.i64.wrap ((r1.length + 2 : Nat) - 1 : Int) = ((r1.length + 1 : Nat) : Int) := by rw [w64_in _ (by omega)]; omega
          have f2 : IntKind.i64.wrap ((r1.length + 2 : Nat) - 2 : Int) = ((r1.length : Nat) : Int) := by rw [w64_in _ (by omega)]; omega
          have g1 : (b1 :: a1 :: r1).reverse.getD (r1.length + 1) ⟨0, 0⟩ = b1 := by simp
          have g2 : (b1 :: a1 :: r1).reverse.getD r1.length ⟨0, 0⟩ = a1 := by simp
          rw [hl1] at hu3 ⊢
          refine brT (decide_eq_true (by omega)) ?_
          conv => whnf
          have hwk : FnOk Tryd.prog 55 [((b1 :: a1 :: r1).reverse.getD (IntKind.i64.wrap (((r1.length + 2 : Nat) : Int) - 2)).toNat ⟨0, 0⟩).sv, ((b1 :: a1 :: r1).reverse.getD (IntKind.i64.wrap (((r1.length + 2 : Nat) : Int) - 1)).toNat ⟨0, 0⟩).sv] (wholeV a1 b1) := by
            rw [f1, f2, Int.toNat_natCast, Int.toNat_natCast, g1, g2]
            exact whole_ok a1 b1 ha1.1 hb1.1 (by omega)
          have i2 : 0 ≤ IntKind.i64.wrap (((r1.length + 2 : Nat) : Int) - 2) ∧ IntKind.i64.wrap (((r1.length + 2 : Nat) : Int) - 2) < ((r1.length + 2 : Nat) : Int) := by rw [f2]; omega
          have i1 : 0 ≤ IntKind.i64.wrap (((r1.length + 2 : Nat) : Int) - 1) ∧ IntKind.i64.wrap (((r1.length + 2 : Nat) : Int) - 1) < ((r1.length + 2 : Nat) : Int) := by rw [f1]; omega
          refine ⟨?_, ?_, ?_, ?_⟩
          rotate_left 2
          · conv => whnf
            repeat' (first | exact ⟨rfl, rfl⟩ | exact True.intro | (refine And.intro i2 ?_; conv => whnf) | (refine And.intro i1 ?_; conv => whnf) | (refine .data _ hwk rfl rfl ?_; conv => whnf) | refine And.intro ?_ ?_ | (conv => whnf))
          conv => whnf
          cases hw : wholeP a1 b1 with
          | none =>
            have hu1 : b1 :: a1 :: r1 = coll (p :: st) := by rw [← hu1]; unfold coll; rw [hw]
            refine brT rfl ?_
            conv => whnf
            refine ⟨k + 1, [0, 1, 5], hkl, by omega, ?_⟩
            rw [hsn, hpe, ← hu1]
            conv => whnf
            rw [hw1]
            repeat' (first | exact True.intro | exact rfl | exact subZ_self _ | exact Or.inr rfl | exact fun _ _ => rfl | exact fun _ h => absurd h (Nat.not_lt_zero _) | refine And.intro ?_ ?_)
            exact Nat.succ_pos _
          | some q =>
            have hu1 : coll (q :: r1) = coll (p :: st) := by rw [← hu1]; conv => rhs; unfold coll; rw [hw]
            have hq : (if a1.bits ≠ b1.bits ∨ a1.bits = 0 ∨ a1.addr = b1.addr then (⟨0, 0⟩ : Pf) else ⟨a1.addr, a1.bits - 1⟩) = q := by
              unfold wholeP at hw
              split at hw
              · cases hw
              · rename_i hno
                rw [if_neg hno]
                split at hw
                · exact Option.some.inj hw
                · cases hw
            rw [hq]
            have hgq := good_whole ha1.1 hw
            refine brF rfl ?_
            conv => whnf
            rw [f2]
            refine ⟨by omega, ?_⟩
            conv => whnf
            refine ⟨by omega, ?_⟩
            conv => whnf
            refine ⟨q :: r1, [0, 1, 2, 3, 4, 8], ⟨by simp, hu1, fun y hy => (List.mem_cons.1 hy).elim (fun e => e ▸ hgq) (fun e => hu2 y (by simp [e])), by show r1.length + 1 ≤ _; omega⟩, by show r1.length + 1 < r1.length + 2; omega, ?_⟩
            conv => whnf
            repeat' (first | exact True.intro | exact rfl | exact subZ_self _ | exact Or.inr rfl | exact fun _ _ => rfl | exact fun _ h => absurd h (Nat.not_lt_zero _) | refine And.intro ?_ ?_)
            intro j hj
            exact pfs_two b1 a1 q r1 j hj
      · obtain ⟨b, r, hst⟩ := List.exists_cons_of_ne_nil h0
        have hbg := hg b (by rw [hst]; simp)
        have hlb : st.length = r.length + 1 := by rw [hst]; rfl
        have e1 : IntKind.i64.wrap ((st.length : Int) - 1) = (r.length : Int) := by rw [w64_in _ (by omega)]; omega
        have hgb : st.reverse.getD r.length ⟨0, 0⟩ = b := by rw [hst]; simp
        refine brT (decide_eq_true (by omega)) ?_
        conv => whnf
        rw [e1]
        refine ⟨by omega, ?_⟩
        conv => whnf
        rw [Int.toNat_natCast, hgb]
        refine .data _ (has_ok b hbg.1 p.addr hm.1) rfl rfl ?_
        conv => whnf
        cases hh : b.has p.addr with
        | true =>
          have hpe : push st p = st := by
            rw [hst]
            show (if b.has p.addr then b :: r else coll (p :: b :: r)) = b :: r
            rw [if_pos hh]
          rw [hpe] at hsn
          refine brT rfl ?_
          conv => whnf
          refine ⟨k + 1, [0, 1, 2], hkl, by omega, ?_⟩
          rw [hsn]
          conv => whnf
          rw [hw1]
          repeat' (first | exact True.intro | exact rfl | exact subZ_self _ | exact Or.inr rfl | exact fun _ _ => rfl | exact fun _ h => absurd h (Nat.not_lt_zero _) | refine And.intro ?_ ?_)
        | false =>
          have hpe : push st p = coll (p :: st) := by
            rw [hst]
            show (if b.has p.addr then b :: r else coll (p :: b :: r)) = coll (p :: b :: r)
            rw [if_neg (by rw [hh]; simp)]
          refine brF rfl ?_
          conv => whnf
          refine ⟨by omega, ?_⟩
          conv => whnf
          refine .inv (List Pf) (fun u => u ≠ [] ∧ coll u = coll (p :: st) ∧ GoodS u ∧ u.length ≤ st.length + 1) (fun u => [(7, .all 5), (50, .any)]) (fun u => [(5, .row 36 2 u.length .may (pfs u.reverse))]) (fun u => u.length) ⟨p :: st, [0, 1, 2, 3, 4, 5], ⟨by simp, rfl, fun q hq => (List.mem_cons.1 hq).elim (fun e => e ▸ hm) (hg q), by simp⟩, ?_⟩ ?_
          · conv => whnf
            repeat' (first | exact True.intro | exact rfl | exact subZ_self _ | exact Or.inr rfl | exact fun _ _ => rfl | exact fun _ h => absurd h (Nat.not_lt_zero _) | refine And.intro ?_ ?_)
            intro j hj
            have := pfs_cat st.reverse p j (by rw [List.length_reverse]; exact hj)
            rw [List.length_reverse] at this
            rw [List.reverse_cons]
            exact this
          intro u hu
          obtain ⟨hu0, hu1, hu2, hu3⟩ := hu
          conv => whnf
          match u, hu0, hu1, hu2, hu3 with
          | [b1], _, hu1, hu2, hu3 =>
            have hu1 : [b1] = coll (p :: st) := by rw [← hu1]; unfold coll; rfl
            refine brF rfl ?_
            conv => whnf
            refine ⟨k + 1, [0, 1, 5], hkl, by omega, ?_⟩
            rw [hsn, hpe, ← hu1]
            conv => whnf
            rw [hw1]
            repeat' (first | exact True.intro | exact rfl | exact subZ_self _ | exact Or.inr rfl | exact fun _ _ => rfl | exact fun _ h => absurd h (Nat.not_lt_zero _) | refine And.intro ?_ ?_)
            exact Nat.succ_pos _
          | b1 :: a1 :: r1, _, hu1, hu2, hu3 =>
            have hb1 := hu2 b1 (by simp)
            have ha1 := hu2 a1 (by simp)
            have hra := right_iff.1 ha1.2
            have hl1 : (b1 :: a1 :: r1).length = r1.length + 2 := rfl
            have f1 : IntKind.i64.wrap ((r1.length + 2 : Nat) - 1 : Int) = ((r1.length + 1 : Nat) : Int) := by rw [w64_in _ (by omega)]; omega
            have f2 : IntKind.i64.wrap ((r1.length + 2 : Nat) - 2 : Int) = ((r1.length : Nat) : Int) := by rw [w64_in _ (by omega)]; omega
            have g1 : (b1 :: a1 :: r1).reverse.getD (r1.length + 1) ⟨0, 0⟩ = b1 := by simp
            have g2 : (b1 :: a1 :: r1).reverse.getD r1.length ⟨0, 0⟩ = a1 := by simp
            rw [hl1] at hu3 ⊢
            refine brT (decide_eq_true (by omega)) ?_
            conv => whnf
            have hwk : FnOk Tryd.prog 55 [((b1 :: a1 :: r1).reverse.getD (IntKind.i64.wrap (((r1.length + 2 : Nat) : Int) - 2)).toNat ⟨0, 0⟩).sv, ((b1 :: a1 :: r1).reverse.getD (IntKind.i64.wrap (((r1.length + 2 : Nat) : Int) - 1)).toNat ⟨0, 0⟩).sv] (wholeV a1 b1) := by
              rw [f1, f2, Int.toNat_natCast, Int.toNat_natCast, g1, g2]
              exact whole_ok a1 b1 ha1.1 hb1.1 (by omega)
            have i2 : 0 ≤ IntKind.i64.wrap (((r1.length + 2 : Nat) : Int) - 2) ∧ IntKind.i64.wrap (((r1.length + 2 : Nat) : Int) - 2) < ((r1.length + 2 : Nat) : Int) := by rw [f2]; omega
            have i1 : 0 ≤ IntKind.i64.wrap (((r1.length + 2 : Nat) : Int) - 1) ∧ IntKind.i64.wrap (((r1.length + 2 : Nat) : Int) - 1) < ((r1.length + 2 : Nat) : Int) := by rw [f1]; omega
            refine ⟨?_, ?_, ?_, ?_⟩
            rotate_left 2
            · conv => whnf
              repeat' (first | exact ⟨rfl, rfl⟩ | exact True.intro | (refine And.intro i2 ?_; conv => whnf) | (refine And.intro i1 ?_; conv => whnf) | (refine .data _ hwk rfl rfl ?_; conv => whnf) | refine And.intro ?_ ?_ | (conv => whnf))
            conv => whnf
            cases hw : wholeP a1 b1 with
            | none =>
              have hu1 : b1 :: a1 :: r1 = coll (p :: st) := by rw [← hu1]; unfold coll; rw [hw]
              refine brT rfl ?_
              conv => whnf
              refine ⟨k + 1, [0, 1, 5], hkl, by omega, ?_⟩
              rw [hsn, hpe, ← hu1]
              conv => whnf
              rw [hw1]
              repeat' (first | exact True.intro | exact rfl | exact subZ_self _ | exact Or.inr rfl | exact fun _ _ => rfl | exact fun _ h => absurd h (Nat.not_lt_zero _) | refine And.intro ?_ ?_)
              exact Nat.succ_pos _
            | some q =>
              have hu1 : coll (q :: r1) = coll (p :: st) := by rw [← hu1]; conv => rhs; unfold coll; rw [hw]
              have hq : (if a1.bits ≠ b1.bits ∨ a1.bits = 0 ∨ a1.addr = b1.addr then (⟨0, 0⟩ : Pf) else ⟨a1.addr, a1.bits - 1⟩) = q := by
                unfold wholeP at hw
                split at hw
                · cases hw
                · rename_i hno
                  rw [if_neg hno]
                  split at hw
                  · exact Option.some.inj hw
                  · cases hw
              rw [hq]
              have hgq := good_whole ha1.1 hw
              refine brF rfl ?_
              conv => whnf
              rw [f2]
              refine ⟨by omega, ?_⟩
              conv => whnf
              refine ⟨by omega, ?_⟩
              conv => whnf
              refine ⟨q :: r1, [0, 1, 2, 3, 4, 8], ⟨by simp, hu1, fun y hy => (List.mem_cons.1 hy).elim (fun e => e ▸ hgq) (fun e => hu2 y (by simp [e])), by show r1.length + 1 ≤ _; omega⟩, by show r1.length + 1 < r1.length + 2; omega, ?_⟩
              conv => whnf
              repeat' (first | exact True.intro | exact rfl | exact subZ_self _ | exact Or.inr rfl | exact fun _ _ => rfl | exact fun _ h => absurd h (Nat.not_lt_zero _) | refine And.intro ?_ ?_)
              intro j hj
              exact pfs_two b1 a1 q r1 j hj
    · have c2 : ¬ (k : Int) < S.length := of_decide_eq_false c2
      rw [List.take_of_length_le (by omega)] at hgl ⊢
      conv => whnf
      rw [List.length_reverse]
      refine ⟨?_, rfl, .inr rfl, fun _ _ => rfl⟩
      generalize leanS S = T
      cases T with
      | nil => rfl
      | cons a T =>
        cases he : (a :: T).reverse with
        | nil => simp at he
        | cons b U => rfl
end Go.Proofs.YtjeihmchcfadlaaDoor
namespace Go.Proofs.YtjeihmchcfadlaaDoor
open Go Go.Eng
set_option maxRecDepth 100000
set_option maxHeartbeats 4000000 in
theorem psame_ok (y z : Bool) (l m : List Pf) (hl : l.length ≤ 1000000) (hm : m.length ≤ 1000000) : FnOk Tryd.prog 26 [.d (.sl y l.length 2 (pfs l)), .d (.sl z m.length 2 (pfs m))] (.d (.bool (decide (l = m)))) := by
  refine fnOk_of_run (TT := TT) (IN := lookI []) TT_ok INok_nil mixed 1000 Tryd.func26 rfl (enters Tryd.func26 (by kernel_rfl) rfl) rfl 24 (by kernel_rfl) ?_
  conv => whnf
  by_cases hlen : l.length = m.length
  case neg =>
    refine brT (bne_iff_ne.2 (by omega)) ?_
    conv => whnf
    exact decide_eq_false (fun e : l = m => hlen (by rw [e]))
  refine brF (by rw [bne_eq_false_iff_eq, hlen]) ?_
  conv => whnf
  refine .inv Nat (fun i => i ≤ l.length ∧ l.take i = m.take i) (fun i => [(5, .any), (13, .d (.int .i64 i))]) (fun i => []) (fun i => l.length - i) ⟨0, [], ⟨Nat.zero_le _, rfl⟩, ?_⟩ ?_
  · conv => whnf
    repeat' (first | exact True.intro | exact rfl | exact fun _ => Iff.rfl | exact fun _ _ => rfl | exact renM_ent rfl _ | refine And.intro ?_ ?_)
  intro i hi
  obtain ⟨hi, hs⟩ := hi
  conv => whnf
  refine ⟨fun c1 => ?_, fun c1 => ?_⟩
  · have c1 : (i : Int) < l.length := of_decide_eq_true c1
    have hil : i < l.length := by omega
    have him : i < m.length := by omega
    have hw1 : IntKind.i64.wrap ((i : Int) + 1) = ((i + 1 : Nat) : Int) := by rw [w64_in _ (by omega)]; omega
    have htl := take_getD hil
    have htm := take_getD him
    conv => whnf
    refine ⟨by omega, ?_⟩
    conv => whnf
    refine ⟨by omega, ?_⟩
    conv => whnf
    rw [Int.toNat_natCast]
    generalize l.getD i ⟨0, 0⟩ = a at htl ⊢
    generalize m.getD i ⟨0, 0⟩ = b at htm ⊢
    by_cases hab : a = b
    · refine brF (by rw [hab]; simp) ?_
      conv => whnf
      refine ⟨i + 1, [], ⟨hil, by rw [htl, htm, hs, hab]⟩, by omega, ?_⟩
      conv => whnf
      rw [hw1]
      repeat' (first | exact True.intro | exact rfl | exact fun _ => Iff.rfl | exact fun _ _ => rfl | exact renM_ent rfl _ | refine And.intro ?_ ?_)
    · refine brT ?_ ?_
      · obtain ⟨a1, a2⟩ := a
        obtain ⟨b1, b2⟩ := b
        rw [Bool.not_eq_true', Bool.eq_false_iff]
        intro h
        simp at h
        exact hab (by rw [h.2]; congr 1; omega)
      conv => whnf
      have hne : ¬ l = m := fun e => by
        have h2 : List.take (i + 1) l = List.take (i + 1) m := by rw [e]
        rw [htl, htm, hs] at h2
        exact hab (by simpa using h2)
      exact decide_eq_false hne
  · have c1 : ¬ (i : Int) < l.length := of_decide_eq_false c1
    conv => whnf
    rw [List.take_of_length_le (by omega), List.take_of_length_le (by omega)] at hs
    exact decide_eq_true hs
end Go.Proofs.YtjeihmchcfadlaaDoor
namespace Go.Proofs.YtjeihmchcfadlaaDoor
open Go Go.Eng Go.Lib
set_option maxRecDepth 100000
theorem index_cat (c : UInt8) : ∀ (x y : List UInt8), (∀ b ∈ x, b ≠ c) → Lib.indexByte (x ++ c :: y) c = x.length
  | [], y, _ => by simp [Lib.indexByte]
  | b :: x, y, h => by
    have hb : (b == c) = false := by simpa using h b (by simp)
    have ih := index_cat c x y (fun d hd => h d (by simp [hd]))
    simp only [List.cons_append, Lib.indexByte, hb, ih]
    rw [if_neg (by decide), if_neg (by simp)]
    rfl
theorem cut_cat (c : UInt8) (x y : List UInt8) (h : ∀ b ∈ x, b ≠ c) : cutB (x ++ c :: y) c = (x, y, true) := by
  unfold cutB
  rw [index_cat c x y h, if_neg (by omega), Int.toNat_natCast]
  simp
theorem printA_in {a : Nat} : ∀ b ∈ printA a, b ≠ 47 := fun b hb => by
  rw [printA_eq] at hb
  have hd : ∀ k, b ∈ dig (prt a k) → b ≠ 47 := fun k h e => by
    have := dig_in (prt_lt a k) h
    rw [e] at this
    exact absurd this.1 (by decide)
  simp only [List.mem_append, List.mem_cons] at hb
  rcases hb with h | h | h | h | h | h | h
  · exact hd _ h
  · rw [h]; decide
  · exact hd _ h
  · rw [h]; decide
  · exact hd _ h
  · rw [h]; decide
  · exact hd _ h
theorem dig_two : ∀ n, n ≤ 32 → (dig n).length ≤ 2 := by decide +kernel
theorem printP_len {p : Pf} (h : p.right = true) : (printP p).length ≤ 18 := by
  obtain ⟨h1, h2, _⟩ := right_iff.1 h
  have := printA_len p.addr
  have := dig_two p.bits.toNat (by omega)
  unfold printP
  simp only [List.length_append, List.length_cons]
  omega
theorem pparse_print {p : Pf} (ha : p.addr < 4294967296) (h : p.right = true) : pparseV (printP p) = (p, 0) := by
  have hl := printP_len h
  obtain ⟨h1, h2, _⟩ := right_iff.1 h
  have hc : cutB (printP p) 47 = (printA p.addr, dig p.bits.toNat, true) := cut_cat 47 _ _ printA_in
  unfold pparseV
  rw [if_neg (by omega), hc]
  simp only
  rw [pwL_print ha, word_dig _ (by omega)]
  simp only
  have hp : (⟨p.addr, (p.bits.toNat : Int)⟩ : Pf) = p := by
    obtain ⟨a, n⟩ := p
    show Pf.mk a _ = Pf.mk a n
    congr 1
    exact Int.toNat_of_nonneg h1
  rw [hp, if_pos ⟨h, rfl⟩]
theorem pparse_back (s : List UInt8) : (∃ p : Pf, p.addr < 4294967296 ∧ p.right = true ∧ printP p = s ∧ pparseV s = (p, 0)) ∨ pparseV s = (⟨0, 0⟩, 6) := by
  unfold pparseV
  split
  · exact .inr rfl
  · split
    · exact .inr rfl
    · rename_i a ha
      split
      · exact .inr rfl
      · rename_i n hn
        split
        · rename_i h
          exact .inl ⟨⟨a, n⟩, pwL_lt _ (by decide) ha, h.1, h.2, rfl⟩
        · exact .inr rfl
def ten24 : List UInt8 := [49, 48, 46, 49, 46, 50, 46, 48, 47, 50, 52]
def ten24b : List UInt8 := [49, 48, 46, 49, 46, 50, 46, 49, 47, 50, 52]
def ten24c : List UInt8 := [49, 48, 46, 48, 49, 46, 50, 46, 48, 47, 50, 52]
def pten : Pf := ⟨167838208, 24⟩
def four : List Pf := [⟨167838464, 24⟩, pten, ⟨167838211, 32⟩, ⟨1, 8⟩]
theorem ten24_p : printP pten = ten24 := by decide +kernel
theorem ten24_q : pparseV ten24 = (pten, 0) := by decide +kernel
theorem ten24_b : pparseV ten24b = (⟨0, 0⟩, 6) := by decide +kernel
theorem ten24_c : pparseV ten24c = (⟨0, 0⟩, 6) := by decide +kernel
theorem four_lean : leanL four = [⟨167838208, 23⟩] := by
  have hf : four.filter Pf.right = [⟨167838464, 24⟩, pten, ⟨167838211, 32⟩] := by decide +kernel
  have hs : ([pten, ⟨167838211, 32⟩, ⟨167838464, 24⟩] : List Pf) = srt [⟨167838464, 24⟩, pten, ⟨167838211, 32⟩] :=
    srt_eq (by decide +kernel) (by unfold Rises; decide +kernel)
  have hw : wholeP pten ⟨167838464, 24⟩ = some ⟨167838208, 23⟩ := by decide +kernel
  have h1 : push [] pten = [pten] := by show coll [pten] = [pten]; unfold coll; rfl
  have h2 : push [pten] ⟨167838211, 32⟩ = [pten] := by
    show (if pten.has 167838211 then [pten] else coll [⟨167838211, 32⟩, pten]) = [pten]
    rw [if_pos (by decide +kernel)]
  have h3 : push [pten] ⟨167838464, 24⟩ = [⟨167838208, 23⟩] := by
    show (if pten.has 167838464 then [pten] else coll [⟨167838464, 24⟩, pten]) = _
    rw [if_neg (by decide +kernel)]
    unfold coll
    rw [hw]
    simp only
    unfold coll
    rfl
  unfold leanL
  rw [hf, ← hs]
  show (push (push (push [] pten) ⟨167838211, 32⟩) ⟨167838464, 24⟩).reverse = _
  rw [h1, h2, h3]
  rfl
theorem one_same (i : Nat) (hi : i < 1) (p : Pf) : DSL (chunk [DV.int .u32 p.addr, DV.int .i64 p.bits] 2 i) (pfs [p] i) := by
  obtain rfl : i = 0 := by omega
  exact DSL.refl _
set_option maxHeartbeats 4000000 in
theorem plives_ok : FnOk Tryd.prog 21 [] (.d (.bool true)) := by
  have hp := pprint_ok pten (by decide)
  rw [if_pos (by decide +kernel), ten24_p] at hp
  have ha := pparse_ok ten24
  have hb := pparse_ok ten24b
  have hc := pparse_ok ten24c
  rw [ten24_q] at ha
  rw [ten24_b] at hb
  rw [ten24_c] at hc
  have hl := lean_ok false four (by decide) (by decide)
  rw [four_lean] at hl
  have h1 := has_ok pten (by decide) 167838463 (by decide)
  have h2 := has_ok pten (by decide) 167838464 (by decide)
  have h3 := in_ok false [pten] 167838209 (by decide) (by decide) (by decide)
  have h4 := psame_ok false false [⟨167838208, 23⟩] [⟨167838208, 23⟩] (by decide) (by decide)
  have h5 := pcheck_ok pten (by decide)
  have h6 := pcheck_ok ⟨1, 0⟩ (by decide)
  rw [show pten.has 167838463 = true by decide +kernel] at h1
  rw [show pten.has 167838464 = false by decide +kernel] at h2
  rw [show ([pten].any fun p => p.has 167838209) = true by decide +kernel] at h3
  rw [decide_eq_true rfl] at h4
  rw [if_pos (by decide +kernel)] at h5
  rw [if_neg (by decide +kernel)] at h6
  refine fnOk_of_run (TT := TT) (IN := lookI []) TT_ok INok_nil mixed 1000 Tryd.func21 rfl (enters Tryd.func21 (by kernel_rfl) rfl) rfl 88 (by kernel_rfl) ?_
  conv => whnf
  refine .one (.data _ hp rfl rfl ?_)
  conv => whnf
  refine .one (.data _ ha rfl rfl ?_)
  conv => whnf
  refine .one (.data _ hb rfl rfl ?_)
  conv => whnf
  refine .one (.data _ hc rfl rfl ?_)
  conv => whnf
  refine .one (.frz (r := .d (.sl false 1 2 (pfs [⟨167838208, 23⟩]))) (as' := [.d (.sl false 4 2 (chunk [DV.int .u32 167838464, DV.int .i64 24, DV.int .u32 167838208, DV.int .i64 24, DV.int .u32 167838211, DV.int .i64 32, DV.int .u32 1, DV.int .i64 8] 2))]) (fr := [4]) (hl.conv ⟨DS.rows fun i hi => ?_, trivial⟩) ?_ rfl rfl ?_)
  · have h4 : i = 0 ∨ i = 1 ∨ i = 2 ∨ i = 3 := by omega
    rcases h4 with rfl | rfl | rfl | rfl <;> exact DSL.refl _
  · conv => whnf
    exact ⟨rfl, rfl⟩
  conv => whnf
  repeat (first | (refine brT rfl ?_; conv => whnf))
  refine .one (.data _ h1 rfl rfl ?_)
  conv => whnf
  repeat (first | (refine brT rfl ?_; conv => whnf))
  refine .one (.data _ h2 rfl rfl ?_)
  conv => whnf
  repeat (first | (refine brT rfl ?_; conv => whnf))
  refine .one (.look (r := .d (.bool true)) ?_ rfl ?_)
  · conv => whnf
    exact ⟨h3.conv ⟨DS.rows fun i hi => one_same i hi pten, DS.refl _, trivial⟩, rfl⟩
  conv => whnf
  repeat (first | (refine brT rfl ?_; conv => whnf))
  refine .one (.look (r := .d (.bool true)) ?_ rfl ?_)
  · conv => whnf
    exact ⟨h4.conv ⟨DS.refl _, DS.rows fun i hi => one_same i hi ⟨167838208, 23⟩, trivial⟩, rfl⟩
  conv => whnf
  repeat (first | (refine brT rfl ?_; conv => whnf))
  refine .one (.data _ h5 rfl rfl ?_)
  conv => whnf
  repeat (first | (refine brT rfl ?_; conv => whnf))
  refine .one (.data _ h6 rfl rfl ?_)
  conv => whnf
  exact rfl
end Go.Proofs.YtjeihmchcfadlaaDoor
