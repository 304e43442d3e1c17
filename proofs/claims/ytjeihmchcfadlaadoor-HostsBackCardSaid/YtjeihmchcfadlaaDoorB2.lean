/-
  strconv.FormatUint, ParseUint at numbers below 256, base 10; strings.Index of one byte. Conditions: the listed variables (VOk). hosts.numbers, labels, Print. No conditions. slices.Reverse at texts: in place. Conditions: the length. hosts.labels. No conditions. strings.Builder: WriteByte. Conditions: lengths. label.Join at the root and labels. Conditions: there are labels, and they are right and short. hosts.Reverse, hosts.Zone. No conditions. hosts.Parse. Conditions: lengths. A contract over few blocks used among many, its result told as it is. Plain. hosts.Of. No conditions.
-/
import Derived.Laws.BitsAllLaws
import Derived.Lib.ParseIntBCases
import Derived.Test.YtjeihmchcfadlaaDoorB1
import Derived.Test.YtjeihmchcfadlaaDoorM4
set_option linter.unusedVariables false
set_option linter.unusedSimpArgs false
namespace Go.Proofs.YtjeihmchcfadlaaDoor
open Go Go.Eng
set_option maxRecDepth 100000
/-- A number's digits. -/
def dig (n : Nat) : List UInt8 := if n < 10 then [UInt8.ofNat (48 + n)] else if n < 100 then [UInt8.ofNat (48 + n / 10), UInt8.ofNat (48 + n % 10)] else [UInt8.ofNat (48 + n / 100), UInt8.ofNat (48 + n / 10 % 10), UInt8.ofNat (48 + n % 10)]
theorem dig_dec {n : Nat} (h : n < 1000) : Lib.decDigits n = dig n := by
  unfold dig
  rw [Lib.decDigits]
  split
  · rfl
  · rename_i h1
    rw [Lib.decDigits]
    split
    · rename_i h2
      rw [if_pos (by omega)]; rfl
    · rename_i h2
      rw [Lib.decDigits, dif_pos (by omega), if_neg (by omega)]
      show [_, _, _] = _
      rw [show n / 10 / 10 = n / 100 by omega]
theorem small_ok (i : Nat) (h : i < 100) : FnOk Tryd.prog 111 [.d (.int .i64 i)] (.d (.str (dig i))) := by
  refine ⟨enters Tryd.func111 (by kernel_rfl) rfl, fun M w vs _ hM hl hd => ?_⟩
  match vs, hl with
  | [v0], _ =>
    have h0 := den_int (hd 0 _ v0 rfl rfl)
    subst h0
    refine (Try.internal_strconv_small i h w).mono ?_
    rintro e w' ⟨rfl, rfl⟩
    rw [dig_dec (by omega)]
    exact ⟨_, rfl, Step.refl _ _, .d (.str _)⟩
theorem tab_in : (2, isTab .u64 ((List.range 20).map fun i => ((10 ^ i : Nat) : Int))) ∈ evs := .tail _ (.tail _ (.head _))
theorem tab_is {w : World} {fp : Nat → Nat → Prop} (h : VOk w fp) : Lib.TabIs Tryd.prog w "internal/strconv.uint64pow10" .u64 Lib.pow10Tab := by
  obtain ⟨⟨vs, t, fz, e, h1⟩, _⟩ := h _ tab_in
  unfold Lib.TabIs World.var?
  rw [show Tryd.prog.globalNamed "internal/strconv.uint64pow10" = some 2 by kernel_rfl]
  simp only [Option.bind_some, e]
  exact congrArg some h1
theorem digits_ok (u : Nat) (h : 100 ≤ u) (h2 : u < 1000) : FnOk Tryd.prog 112 [.d (.int .u64 u)] (.d (.int .i64 3)) := by
  refine ⟨enters Tryd.func112 (by kernel_rfl) rfl, fun M w vs hV hM hl hd => ?_⟩
  match vs, hl with
  | [v0], _ =>
    have h0 := den_int (hd 0 _ v0 rfl rfl)
    subst h0
    refine (Try.internal_strconv_numDigits u (by omega) (by omega) w (tab_is hV)).mono ?_
    rintro e w' ⟨rfl, rfl⟩
    rw [Lib.nDigits_unique 2 u (by omega) (by omega)]
    exact ⟨_, rfl, Step.refl _ _, .d (.int _ _)⟩
theorem index_ok (s : List UInt8) (c : UInt8) : FnOk Tryd.prog 91 [.d (.str s), .d (.str [c])] (.d (.int .i64 (Lib.indexByte s c))) := by
  refine ⟨enters Tryd.func91 (by kernel_rfl) rfl, fun M w vs _ hM hl hd => ?_⟩
  match vs, hl with
  | [v0, v1], _ =>
    have h0 := den_str (hd 0 _ v0 rfl rfl)
    have h1 := den_str (hd 1 _ v1 rfl rfl)
    subst h0 h1
    refine (Try.strings_Index_one ⟨s.toArray⟩ c w).mono ?_
    rintro e w' ⟨rfl, rfl⟩
    exact ⟨_, rfl, Step.refl _ _, .d (.int _ _)⟩
/-- What a word is worth; none: nothing. -/
def word (s : List UInt8) : Option Nat := match Lib.parseUintB 8 s with
  | .ok u => some u
  | _ => none
theorem err_at {w : World} {fp : Nat → Nat → Prop} (h : VOk w fp) (g : Nat) (hg : g < 2) : ∃ t x, w.cell? ⟨g, 0, none⟩ = some (.iface t x) := by
  have hin : (g, isErr) ∈ evs := by
    have : g = 0 ∨ g = 1 := by omega
    rcases this with rfl | rfl
    · exact .head _
    · exact .tail _ (.head _)
  obtain ⟨⟨vs, t, fz, e, t', x, rfl⟩, _⟩ := h _ hin
  refine ⟨t', x, ?_⟩
  simp at e
  simp [World.cell?, e]
theorem bytes_step (w : World) (s : List UInt8) : Step (fun _ => False) w (Lib.bytesWorld w 5 ⟨s.toArray⟩) := by
  exact ⟨rfl, rfl, rfl, by rw [Lib.bytesWorld_size]; omega, fun b hb _ => Lib.bytesWorld_at_old w _ _ b hb⟩
theorem parse_ok (s : List UInt8) (hs : s.length ≤ 1000000) : FnOk Tryd.prog 35 [.d (.str s), .d (.int .i64 10), .d (.int .i64 8)] (.tup [(match word s with | some u => .d (.int .u64 u) | none => .any), .err (word s).isNone]) := by
  refine ⟨enters Tryd.func35 (by kernel_rfl) rfl, fun M w vs hV hM hl hd => ?_⟩
  match vs, hl with
  | [v0, v1, v2], _ =>
    have h0 := den_str (hd 0 _ v0 rfl rfl)
    have h1 := den_int (hd 1 _ v1 rfl rfl)
    have h2 := den_int (hd 2 _ v2 rfl rfl)
    subst h0 h1 h2
    have hsz : (⟨s.toArray⟩ : ByteArray).size = s.length := rfl
    unfold word
    cases hp : Lib.parseUintB 8 s
    · rename_i u
      refine (Try.strconv_ParseUint_10_at8_ok ⟨s.toArray⟩ (by rw [hsz]; omega) u hp w).mono ?_
      rintro e w' ⟨rfl, hw⟩
      refine ⟨_, rfl, ?_, .tup _ [.int .u64 u, .nilIface] rfl (fun j t v ht hv => ?_)⟩
      · rcases hw with rfl | rfl
        · exact Step.refl _ _
        · exact bytes_step w s
      · match j with
        | 0 => cases ht; cases hv; exact .d (.int _ _)
        | 1 => cases ht; cases hv; exact .err _ _ (fun h => by cases h) (fun _ => rfl)
    · obtain ⟨t, x, hc⟩ := err_at hV 0 (by omega)
      refine (Try.strconv_ParseUint_10_at8_syntax ⟨s.toArray⟩ (by rw [hsz]; omega) hp _ w hc (.inr ⟨t, x, rfl⟩)).mono ?_
      rintro e w' ⟨N, rfl, _, _, hb⟩
      refine ⟨_, rfl, Step.of_below _ hb, .tup _ [.int .u64 0, .iface _ _] rfl (fun j t v ht hv => ?_)⟩
      match j with
      | 0 => cases ht; exact .any _
      | 1 => cases ht; cases hv; exact .err _ _ (fun _ => ⟨_, _, rfl⟩) (fun h => by cases h)
    · obtain ⟨t, x, hc⟩ := err_at hV 1 (by omega)
      refine (Try.strconv_ParseUint_10_at8_range ⟨s.toArray⟩ (by rw [hsz]; omega) hp _ w hc (.inr ⟨t, x, rfl⟩)).mono ?_
      rintro e w' ⟨N, rfl, _, _, hb⟩
      refine ⟨_, rfl, Step.of_below _ hb, .tup _ [.int .u64 _, .iface _ _] rfl (fun j t v ht hv => ?_)⟩
      match j with
      | 0 => cases ht; exact .any _
      | 1 => cases ht; cases hv; exact .err _ _ (fun _ => ⟨_, _, rfl⟩) (fun h => by cases h)
theorem putRow_block {w : World} {b : Nat} {vs : Array Value} {t : TypeId} {fz : Nat × Nat} (h : w.heap[b]? = some (.cells vs t fz)) (enc : UInt8 → Value) (d : Array UInt8) : Sort.putRow enc w b 0 d = World.setBlock w b (.cells (Sort.putCells enc 0 d vs) t fz) := by
  unfold Sort.putRow Sort.mapBlock World.setBlock
  congr 1
  apply Array.ext_getElem?
  intro j
  have hb : b < w.heap.size := lt_of_block h
  rw [Array.getElem?_modify, Array.getElem?_setIfInBounds]
  by_cases e1 : b = j
  · subst e1
    rw [if_pos rfl, if_pos rfl, if_pos hb, h]
    rfl
  · rw [if_neg e1, if_neg e1]
def z8 : SV := .d (.int .u8 0)
def b8 (c : UInt8) : SV := .d (.int .u8 (c.toNat : Int))
theorem base_ok (n : Nat) (h : n < 1000) : COk Tryd.prog 113 [.cs 0 0 3 24, .d (.int .u64 n)] [.cells 142 (List.replicate 24 z8)]
    (fun r k => r = .tup [] ∧ k = [.cells 142 (b8 (Lib.dg n 2) :: b8 (Lib.dg n 1) :: b8 (Lib.dg n 0) :: List.replicate 21 z8)]) := by
  refine ⟨enters Tryd.func113 (by kernel_rfl) rfl, fun X w β fp vs hM hl hd => ?_⟩
  match vs, hl with
  | [v0, v1], _ =>
    have h0 := hd 0 _ v0 rfl rfl
    have h1 := den_int (hd 1 _ v1 rfl rfl)
    subst h1
    cases h0 with
    | cs _ _ _ _ L hL hnc =>
      have hb := hM.at (i := 0) rfl (by simp) hL
      cases hb with
      | cells _ _ us hfp hblk hlen hden h1 =>
        have hsz : us.size = 24 := by simpa using hlen.symm
        have hu : ∀ j, j < 24 → us[j]? = some (.int .u8 0) := fun j hj => by
          have hlt : j < us.size := by omega
          have hx := hden j z8 us[j] (by rw [List.getElem?_replicate]; simp [hj]) (by simp [hlt])
          rw [Array.getElem?_eq_getElem hlt]
          exact congrArg some (den_int hx)
        have hc : ∀ j, j < 24 → w.cell? ⟨L.b, j, none⟩ = some (.int .u8 0) := fun j hj => by simp [World.cell?, hblk, hu j hj]
        have hfz : ∀ j, w.frozen? ⟨L.b, j, none⟩ = false := fun j => by simp [World.frozen?, hblk]
        refine (Try.internal_strconv_formatBase10 L.b 0 24 n #[0, 0, 0] w (fun j hj => ⟨?_, ?_⟩) (by show n < 10 ^ 3; omega) (by omega) (by show 3 < _; omega)).mono ?_
        · have hj : j < 3 := hj
          rw [Nat.zero_add, hc j (by omega)]
          match j, hj with
          | 0, _ => rfl
          | 1, _ => rfl
          | 2, _ => rfl
        · rw [Nat.zero_add]; exact hfz j
        · rintro e w' ⟨rfl, m, v', dk, rfl, hinv⟩
          have hds : dk.size = 3 := hinv.size
          have hdk : ∀ t, t < 3 → dk[t]! = Lib.dg n (2 - t) := fun t ht => by
            have := hinv.done t (Nat.zero_le _) ht
            rw [this]
            show Lib.dg n (3 - 1 - t) = _
            rfl
          rw [putRow_block hblk]
          have hget : ∀ j, (Sort.putCells (fun (b : UInt8) => Value.int .u8 (b.toNat : Int)) 0 dk us)[j]? = if j < 3 then some (.int .u8 ((Lib.dg n (2 - j)).toNat : Int)) else us[j]? := fun j => by
            unfold Sort.putCells
            rw [Array.getElem?_mapIdx]
            by_cases hj : j < 3
            · rw [hu j (by omega), if_pos hj]
              simp only [Option.map_some, hds]
              rw [if_pos (by omega), Nat.sub_zero, hdk j hj]
            · rw [if_neg hj]
              cases us[j]? with
              | none => rfl
              | some x => simp only [Option.map_some, hds]; rw [if_neg (by omega)]
          have W := hM.store (i := 0) (l' := b8 (Lib.dg n 2) :: b8 (Lib.dg n 1) :: b8 (Lib.dg n 0) :: List.replicate 21 z8) (vs' := Sort.putCells (fun (b : UInt8) => Value.int .u8 (b.toNat : Int)) 0 dk us) rfl hL hfp hblk (by simp [Sort.putCells, hsz]) (fun j s' u hj hu' => by
            rw [hget] at hu'
            match j with
            | 0 => cases hj; cases hu'; exact .d (.int _ _)
            | 1 => cases hj; cases hu'; exact .d (.int _ _)
            | 2 => cases hj; cases hu'; exact .d (.int _ _)
            | j + 3 =>
              rw [if_neg (by omega)] at hu'
              have hs' : s' = z8 := by
                simp only [List.getElem?_cons_succ, List.getElem?_replicate] at hj
                split at hj
                · cases hj; rfl
                · cases hj
              have hlt : j + 3 < 24 := by rw [← hsz]; exact (Array.getElem?_eq_some_iff.1 hu').1
              rw [hu _ hlt] at hu'
              cases hu'
              rw [hs']
              exact .d (.int _ _)) (fun j u hu' => by
            rw [hget] at hu'
            split at hu'
            · cases hu'; rfl
            · exact h1 j u hu')
          have Q : Step (fun _ => False) (World.setBlock w L.b (.cells (Sort.putCells (fun (b : UInt8) => Value.int .u8 (b.toNat : Int)) 0 dk us) 142 (0, 0))) ((World.setBlock w L.b (.cells (Sort.putCells (fun (b : UInt8) => Value.int .u8 (b.toNat : Int)) 0 dk us) 142 (0, 0))).drewN m) := ⟨rfl, rfl, rfl, Nat.le_refl _, fun _ _ _ => rfl⟩
          exact ⟨_, .tup [], _, _, _, rfl, ⟨rfl, rfl⟩, W.trans (W.mem.quiet Q), .tup _ _ rfl (fun j s' u hj _ => by simp at hj)⟩
set_option maxHeartbeats 2000000 in
theorem fmt_ok (n : Nat) (h : n < 256) : FnOk Tryd.prog 77 [.d (.int .u64 n), .d (.int .i64 10)] (.d (.str (dig n))) := by
  refine fnOk_of_run (TT := TT) (IN := lookI [(100, Tryd.f100, 2)]) TT_ok (INok_cons INok_nil Tryd.func100 (by kernel_rfl) (by kernel_rfl)) mixed 1000 Tryd.func77 rfl (enters Tryd.func77 (by kernel_rfl) rfl) rfl 6 (by kernel_rfl) ?_
  conv => whnf
  refine brT rfl ?_
  conv => whnf
  refine ⟨fun h1 => ?_, fun h1 => ?_⟩
  · have h1' : n < 100 := by have := of_decide_eq_true h1; omega
    conv => whnf
    rw [w64_in (n : Int) (by omega)]
    refine .one (.data _ (small_ok n h1') rfl rfl ?_)
    conv => whnf
  have h1' : 100 ≤ n := by have := of_decide_eq_false h1; omega
  conv => whnf
  refine .one (.data _ (digits_ok n h1' (by omega)) rfl rfl ?_)
  conv => whnf
  refine ⟨by decide, ?_⟩
  conv => whnf
  refine .rel _ (base_ok n (by omega)) (fun x ks' hR => ?_)
  obtain ⟨rfl, rfl⟩ := hR
  conv => whnf
  refine ⟨by decide, ?_⟩
  conv => whnf
  refine congrArg DV.str ?_
  unfold dig
  rw [if_neg (by omega), if_neg (by omega)]
  have hb : ∀ c : UInt8, UInt8.ofNat (c.toNat : Int).toNat = c := fun c => by rw [Int.toNat_natCast]; exact UInt8.ofNat_toNat
  show [UInt8.ofNat _, UInt8.ofNat _, UInt8.ofNat _] = _
  rw [hb, hb, hb]
  unfold Lib.dg
  rw [show n / 10 ^ 2 % 10 = n / 100 by omega, show n / 10 ^ 1 % 10 = n / 10 % 10 by omega, show n / 10 ^ 0 % 10 = n % 10 by omega]
end Go.Proofs.YtjeihmchcfadlaaDoor
namespace Go.Proofs.YtjeihmchcfadlaaDoor
open Go Go.Eng
set_option maxRecDepth 100000
/-- An address' four numbers, the highest first. -/
def prt (a i : Nat) : Nat := a / 256 ^ (3 - i) % 256
def prts (a : Nat) : List (List UInt8) := [dig (prt a 0), dig (prt a 1), dig (prt a 2), dig (prt a 3)]
theorem prt_lt (a i : Nat) : prt a i < 256 := Nat.mod_lt _ (by decide)
theorem shr_part {a : Nat} (ha : a < 4294967296) (s : Nat) : IntKind.u64.wrap (bits .and .u32 ((a : Int).fdiv (2 ^ min s 32)) 255) = ((a / 2 ^ min s 32 % 256 : Nat) : Int) := by
  have hp : (0 : Int) ≤ 2 ^ min s 32 := Int.le_of_lt (Int.pow_pos (by decide))
  have e1 : ((a : Int).fdiv (2 ^ min s 32)) = ((a / 2 ^ min s 32 : Nat) : Int) := by
    rw [Int.fdiv_eq_ediv_of_nonneg _ hp]
    simp
  have hle : a / 2 ^ min s 32 ≤ a := Nat.div_le_self _ _
  have e2 := u32_and_nat (a / 2 ^ min s 32) 255 (by omega) (by omega)
  have e3 : (a / 2 ^ min s 32) &&& 255 = a / 2 ^ min s 32 % 256 := Nat.and_two_pow_sub_one_eq_mod _ 8
  rw [e3] at e2
  rw [e1]
  have e2 : bits .and .u32 ((a / 2 ^ min s 32 : Nat) : Int) 255 = ((a / 2 ^ min s 32 % 256 : Nat) : Int) := e2
  rw [e2]
  have : a / 2 ^ min s 32 % 256 < 256 := Nat.mod_lt _ (by decide)
  rw [IntKind.wrap_u64]
  omega
set_option maxHeartbeats 2000000 in
theorem numbers_ok (a : Nat) (ha : a < 4294967296) : COk Tryd.prog 46 [.d (.int .u32 a)] [] (fun r k => r = .all 0 ∧ k = [.row 9 1 4 .no (strs (prts a))]) := by
  refine cOk_of_run (TT := TT) (IN := lookI []) TT_ok INok_nil mixed 1000 Tryd.func46 rfl (enters Tryd.func46 (by kernel_rfl) rfl) 19 (by kernel_rfl) ?_
  conv => whnf
  refine ⟨by decide, ?_⟩
  conv => whnf
  refine .once ?_
  conv => whnf
  refine brT rfl ?_
  conv => whnf
  refine ⟨by decide, ?_⟩
  conv => whnf
  rw [show IntKind.u64.wrap (bits BinOp.and IntKind.u32 ((↑a : Int).fdiv (2 ^ min (Int.toNat (24)) IntKind.u32.bits)) 255) = ((prt a 0 : Nat) : Int) from shr_part ha 24]
  refine .one (.data _ (fmt_ok _ (prt_lt a 0)) rfl rfl ?_)
  conv => whnf
  refine ⟨by decide, ?_⟩
  conv => whnf
  refine .once ?_
  conv => whnf
  refine brT rfl ?_
  conv => whnf
  refine ⟨by decide, ?_⟩
  conv => whnf
  rw [show IntKind.u64.wrap (bits BinOp.and IntKind.u32 ((↑a : Int).fdiv (2 ^ min (Int.toNat (IntKind.i64.wrap (24 - 8))) IntKind.u32.bits)) 255) = ((prt a 1 : Nat) : Int) from shr_part ha 16]
  refine .one (.data _ (fmt_ok _ (prt_lt a 1)) rfl rfl ?_)
  conv => whnf
  refine ⟨by decide, ?_⟩
  conv => whnf
  refine .once ?_
  conv => whnf
  refine brT rfl ?_
  conv => whnf
  refine ⟨by decide, ?_⟩
  conv => whnf
  rw [show IntKind.u64.wrap (bits BinOp.and IntKind.u32 ((↑a : Int).fdiv (2 ^ min (Int.toNat (IntKind.i64.wrap (IntKind.i64.wrap (24 - 8) - 8))) IntKind.u32.bits)) 255) = ((prt a 2 : Nat) : Int) from shr_part ha 8]
  refine .one (.data _ (fmt_ok _ (prt_lt a 2)) rfl rfl ?_)
  conv => whnf
  refine ⟨by decide, ?_⟩
  conv => whnf
  refine .once ?_
  conv => whnf
  refine brT rfl ?_
  conv => whnf
  refine ⟨by decide, ?_⟩
  conv => whnf
  rw [show IntKind.u64.wrap (bits BinOp.and IntKind.u32 ((↑a : Int).fdiv (2 ^ min (Int.toNat (IntKind.i64.wrap (IntKind.i64.wrap (IntKind.i64.wrap (24 - 8) - 8) - 8))) IntKind.u32.bits)) 255) = ((prt a 3 : Nat) : Int) from shr_part ha 0]
  refine .one (.data _ (fmt_ok _ (prt_lt a 3)) rfl rfl ?_)
  conv => whnf
  refine ⟨by decide, ?_⟩
  conv => whnf
  refine .once ?_
  conv => whnf
  refine brF rfl ?_
  conv => whnf
  refine ⟨[8], _, _, rfl, rfl, ?_, ?_, rfl, rfl⟩
  · exact rfl
  · conv => whnf
    repeat' (first | exact True.intro | exact rfl | exact subZ_self _ | exact Or.inr rfl | exact fun _ _ => rfl | exact fun _ h => absurd h (Nat.not_lt_zero _) | refine And.intro ?_ ?_)
    intro i hi
    match i, hi with
    | 0, _ => rfl
    | 1, _ => rfl
    | 2, _ => rfl
    | 3, _ => rfl
/-- An address' text. -/
def printA (a : Nat) : List UInt8 := Lib.join (prts a) [46]
theorem dig_len {n : Nat} (h : n < 1000) : (dig n).length ≤ 3 ∧ 1 ≤ (dig n).length := by
  unfold dig
  split
  · simp
  · split <;> simp
theorem printA_eq (a : Nat) : printA a = dig (prt a 0) ++ 46 :: (dig (prt a 1) ++ 46 :: (dig (prt a 2) ++ 46 :: dig (prt a 3))) := by
  simp [printA, prts, Lib.join]
theorem printA_len (a : Nat) : (printA a).length ≤ 15 := by
  rw [printA_eq]
  have h0 := (dig_len (n := prt a 0) (by have := prt_lt a 0; omega)).1
  have h1 := (dig_len (n := prt a 1) (by have := prt_lt a 1; omega)).1
  have h2 := (dig_len (n := prt a 2) (by have := prt_lt a 2; omega)).1
  have h3 := (dig_len (n := prt a 3) (by have := prt_lt a 3; omega)).1
  simp only [List.length_append, List.length_cons]
  omega
set_option maxHeartbeats 2000000 in
theorem print_ok (a : Nat) (ha : a < 4294967296) : FnOk Tryd.prog 15 [.d (.int .u32 a)] (.d (.str (printA a))) := by
  refine fnOk_of_run (TT := TT) (IN := lookI []) TT_ok INok_nil mixed 1000 Tryd.func15 rfl (enters Tryd.func15 (by kernel_rfl) rfl) rfl 5 (by kernel_rfl) ?_
  conv => whnf
  refine .rel _ (numbers_ok a ha) (fun x ks' hR => ?_)
  obtain ⟨rfl, rfl⟩ := hR
  conv => whnf
  refine .one (.look (r := .d (.str (printA a))) ?_ rfl ?_)
  · conv => whnf
    exact ⟨join_ok false (prts a) [46] (by show 4 ≤ _; omega) (by have := printA_len a; unfold printA at this; omega), rfl⟩
  conv => whnf
end Go.Proofs.YtjeihmchcfadlaaDoor
namespace Go.Proofs.YtjeihmchcfadlaaDoor
open Go Go.Eng
set_option maxRecDepth 100000
/-- The texts of which k are turned round from each end. -/
def rvF (l : List (List UInt8)) (k j : Nat) : List DV := [.str (if j < k ∨ l.length ≤ j + k then (l[l.length - 1 - j]?).getD [] else (l[j]?).getD [])]
theorem rvF_zero (l : List (List UInt8)) (j : Nat) (h : j < l.length) : rvF l 0 j = strs l j := by
  unfold rvF strs
  rw [if_neg (by omega)]
theorem rvF_end (l : List (List UInt8)) (k j : Nat) (h : j < l.length) (hk : l.length ≤ 2 * k + 1) : rvF l k j = strs l.reverse j := by
  unfold rvF strs
  rw [List.getElem?_reverse h]
  split
  · rfl
  · rw [show l.length - 1 - j = j by omega]
set_option maxHeartbeats 4000000 in
theorem rev_ok (z : Z) (l : List (List UInt8)) (hn : l.length ≤ 1000000) : COk Tryd.prog 38 [.all 0] [.row 9 1 l.length z (strs l)] (fun r k => r = .tup [] ∧ k = [.row 9 1 l.length z (strs l.reverse)]) := by
  refine cOk_of_run (TT := TT) (IN := lookI []) TT_ok INok_nil mixed 1000 Tryd.func38 rfl (enters Tryd.func38 (by kernel_rfl) rfl) 27 (by kernel_rfl) ?_
  conv => whnf
  have e0 : IntKind.i64.wrap ((l.length : Int) - 1) = (l.length : Int) - 1 - (0 : Nat) := by rw [w64_in _ (by omega)]; omega
  rw [e0]
  refine .inv Nat (fun k => 2 * k ≤ l.length) (fun k => [(2, .d (.int .i64 k)), (3, .d (.int .i64 ((l.length : Int) - 1 - k)))]) (fun k => [(0, .row 9 1 l.length z (rvF l k))]) (fun k => l.length - k) ⟨0, [0], by omega, ?_⟩ ?_
  · conv => whnf
    repeat' (first | exact True.intro | exact rfl | exact subZ_self _ | exact Or.inr rfl | exact fun _ _ => rfl | exact fun _ h => absurd h (Nat.not_lt_zero _) | refine And.intro ?_ ?_)
    exact fun j hj => (rvF_zero l j hj).symm
  intro k hk
  conv => whnf
  refine ⟨fun h1 => ?_, fun h1 => ?_⟩
  · have h1 : (k : Int) < (l.length : Int) - 1 - k := of_decide_eq_true h1
    have e1 : ((l.length : Int) - 1 - k).toNat = l.length - 1 - k := by omega
    conv => whnf
    refine ⟨?_, ?_, ?_, ?_⟩
    rotate_left 2
    · conv => whnf
      repeat' (first | exact ⟨rfl, rfl⟩ | (refine ⟨⟨by omega, by omega⟩, ?_⟩; conv => whnf) | exact True.intro | refine And.intro ?_ ?_ | (conv => whnf))
    · conv => whnf
      refine ⟨k + 1, [0], by omega, by show l.length - (k + 1) < l.length - k; omega, ?_⟩
      have e3 : IntKind.i64.wrap ((k : Int) + 1) = ((k + 1 : Nat) : Int) := by rw [w64_in _ (by omega)]; omega
      have e4 : IntKind.i64.wrap ((l.length : Int) - 1 - k - 1) = (l.length : Int) - 1 - (k + 1 : Nat) := by rw [w64_in _ (by omega)]; omega
      rw [e3, e4]
      conv => whnf
      repeat' (first | exact True.intro | exact rfl | exact subZ_self _ | exact Or.inr rfl | exact fun _ _ => rfl | exact fun _ h => absurd h (Nat.not_lt_zero _) | refine And.intro ?_ ?_)
      intro j hj
      rw [e1, Int.toNat_natCast, if_neg (by omega), if_neg (by omega)]
      unfold oneF
      by_cases h2 : j = l.length - 1 - k
      · rw [if_pos h2, if_neg (by omega)]
        show [DV.str (l[k]?.getD [])] = _
        unfold rvF
        rw [if_pos (by omega), show l.length - 1 - j = k by omega]
      · rw [if_neg h2]
        by_cases h3 : j = k
        · rw [if_pos h3]
          show [DV.str (l[l.length - 1 - k]?.getD [])] = _
          unfold rvF
          rw [if_pos (by omega), h3]
        · rw [if_neg h3]
          unfold rvF
          by_cases h4 : j < k ∨ l.length ≤ j + k
          · rw [if_pos h4, if_pos (by omega)]
          · rw [if_neg h4, if_neg (by omega)]
  · have h1 : ¬ (k : Int) < (l.length : Int) - 1 - k := of_decide_eq_false h1
    conv => whnf
    refine ⟨[0], _, _, rfl, rfl, ?_, ?_, rfl, rfl⟩
    · exact rfl
    · conv => whnf
      repeat' (first | exact True.intro | exact rfl | exact subZ_self _ | exact Or.inr rfl | exact fun _ _ => rfl | exact fun _ h => absurd h (Nat.not_lt_zero _) | refine And.intro ?_ ?_)
      exact fun j hj => (rvF_end l k j hj (by omega))
end Go.Proofs.YtjeihmchcfadlaaDoor
namespace Go.Proofs.YtjeihmchcfadlaaDoor
open Go Go.Eng
set_option maxRecDepth 100000
def inaddr : List UInt8 := [105, 110, 45, 97, 100, 100, 114]
def arpa : List UInt8 := [97, 114, 112, 97]
/-- The labels of an address' reverse name. -/
def labA (a : Nat) : List (List UInt8) := [dig (prt a 3), dig (prt a 2), dig (prt a 1), dig (prt a 0), inaddr, arpa]
set_option maxHeartbeats 2000000 in
theorem labels_ok (a : Nat) (ha : a < 4294967296) : COk Tryd.prog 42 [.d (.int .u32 a)] [] (fun r k => r = .all 0 ∧ k = [.row 9 1 6 .no (strs (labA a))]) := by
  refine cOk_of_run (TT := TT) (IN := lookI []) TT_ok INok_nil mixed 1000 Tryd.func42 rfl (enters Tryd.func42 (by kernel_rfl) rfl) 10 (by kernel_rfl) ?_
  conv => whnf
  refine .rel _ (numbers_ok a ha) (fun x ks' hR => ?_)
  obtain ⟨rfl, rfl⟩ := hR
  conv => whnf
  refine .rel _ (rev_ok .no (prts a) (by show 4 ≤ _; omega)) (fun x ks' hR => ?_)
  obtain ⟨rfl, rfl⟩ := hR
  conv => whnf
  refine ⟨by show (4 + 2) * 16 ≤ _; omega, ?_⟩
  conv => whnf
  refine ⟨[2], _, _, rfl, rfl, ?_, ?_, rfl, rfl⟩
  · exact rfl
  · conv => whnf
    repeat' (first | exact True.intro | exact rfl | exact subZ_self _ | exact Or.inr rfl | exact fun _ _ => rfl | exact fun _ h => absurd h (Nat.not_lt_zero _) | refine And.intro ?_ ?_)
    intro i hi
    match i, hi with
    | 0, _ => rfl
    | 1, _ => rfl
    | 2, _ => rfl
    | 3, _ => rfl
    | 4, _ => rfl
    | 5, _ => rfl
end Go.Proofs.YtjeihmchcfadlaaDoor
namespace Go.Proofs.YtjeihmchcfadlaaDoor
open Go Go.Eng
set_option maxRecDepth 100000
theorem byteAt_put (b : List UInt8) (c : UInt8) (i : Nat) (h : i < b.length + 1) : catF b.length (bytesF b) (chunk [DV.int IntKind.u8 (c.toNat : Int)] 1) i = bytesF (b ++ [c]) i := by
  unfold catF bytesF byteAt
  split
  · rename_i hl
    simp [List.getElem?_append_left hl]
  · rename_i hl
    have : i = b.length := by omega
    subst this
    simp [chunk]
theorem wb0_ok (c : UInt8) : COk Tryd.prog 75 [.ptr 0 0, .d (.int .u8 (c.toNat : Int))] [pk (Bst.fl .fresh)] (fun r k => ∃ b1, k = [pk (Bst.fl b1)] ∧ (r = .v .nilIface ∧ b1 = .live [c])) := by
  refine COk.toThing Bst.fl (pOk_of_run (TT := TT) (IN := lookI []) TT_ok INok_nil mixed 1000 Tryd.func75 rfl (enters Tryd.func75 (by kernel_rfl) rfl) 15 (by kernel_rfl) rfl ?_ ?_)
  · rintro r l ⟨w1, _, rfl, _⟩
    rfl
  conv => whnf
  refine .rel _ (chk_fresh _) (fun x ks' hR => ?_)
  obtain ⟨rfl, rfl⟩ := hR
  conv => whnf
  refine ⟨by decide, ?_⟩
  conv => whnf
  refine ⟨[0, 2], .v .nilIface, Bst.fl (.live [c]), rfl, rfl, rfl, ?_, _, rfl, rfl, rfl⟩
  repeat' (first | exact True.intro | exact rfl | exact fun _ => Iff.rfl | exact fun _ _ => rfl | exact renM_rests _ _ | exact (List.length_append ..).symm | exact byteAt_cat _ _ | refine And.intro ?_ ?_)
  intro i hi
  match i, hi with
  | 0, _ => rfl
theorem wb1_ok (b : List UInt8) (c : UInt8) (hs : b.length + 1 ≤ 70368744177664) : COk Tryd.prog 75 [.ptr 0 0, .d (.int .u8 (c.toNat : Int))] [pk (Bst.fl (.live b))] (fun r k => ∃ b1, k = [pk (Bst.fl b1)] ∧ (r = .v .nilIface ∧ b1 = .live (b ++ [c]))) := by
  refine COk.toThing Bst.fl (pOk_of_run (TT := TT) (IN := lookI []) TT_ok INok_nil mixed 1000 Tryd.func75 rfl (enters Tryd.func75 (by kernel_rfl) rfl) 15 (by kernel_rfl) rfl ?_ ?_)
  · rintro r l ⟨w1, _, rfl, _⟩
    rfl
  conv => whnf
  refine .rel _ (chk_used _ _) (fun x ks' hR => ?_)
  obtain ⟨rfl, rfl⟩ := hR
  conv => whnf
  refine ⟨by omega, ?_⟩
  conv => whnf
  refine ⟨[0, 3], .v .nilIface, Bst.fl (.live (b ++ [c])), rfl, rfl, rfl, ?_, _, rfl, rfl, rfl⟩
  repeat' (first | exact True.intro | exact rfl | exact fun _ => Iff.rfl | exact fun _ _ => rfl | exact renM_rests _ _ | exact (List.length_append ..).symm | exact byteAt_cat _ _ | refine And.intro ?_ ?_)
  · simp
  · intro i hi
    exact (show catF b.length (bytesF b) (chunk [DV.int IntKind.u8 ↑c.toNat] 1) i = _ from byteAt_put b c i hi)
end Go.Proofs.YtjeihmchcfadlaaDoor
namespace Go.Proofs.YtjeihmchcfadlaaDoor
open Go Go.Eng
set_option maxRecDepth 100000
theorem root_name : isName [0] := by decide
theorem ww0 (pre : List KB) (c : UInt8) : COk Tryd.prog 75 [.ptr pre.length 0, .d (.int .u8 (c.toNat : Int))] (pre ++ [.cells 109 [.v (.pointer none), nilS]]) (fun r k => r = .v .nilIface ∧ k = pre ++ [pk (Bst.fl (.live [c]))]) := by
  have := (packIn (wb0_ok c)).among pre [] (fun s k ⟨b1, hk, _⟩ => by rw [hk]; exact Nat.le_refl _) rfl
  refine COk.imp (this : COk _ _ [.ptr pre.length 0, .d (.int .u8 (c.toNat : Int))] (pre ++ [.cells 109 [.v (.pointer none), nilS]]) _) fun s k ⟨s0, k1, ⟨b1, hk1, hr, hb1⟩, hs, hk⟩ => ?_
  subst hr hk1 hb1
  exact ⟨by rw [hs]; rfl, by rw [hk]; rfl⟩
theorem w8_byte {q : List UInt8} (h : q.length ≤ 63) : IntKind.u8.wrap (q.length : Int) = ((UInt8.ofNat q.length).toNat : Int) := by
  rw [toNat_ofNat (by omega), IntKind.wrap_u8]
  omega
theorem labs_take_le (l : List (List UInt8)) (i : Nat) : (labs (l.take i)).length ≤ (labs l).length := by
  have : labs l = labs (l.take i) ++ labs (l.drop i) := by rw [← labs_append, List.take_append_drop]
  rw [this, List.length_append]; omega
theorem labs_len_ge : ∀ (l : List (List UInt8)), l.length ≤ (labs l).length
  | [] => Nat.le_refl _
  | x :: l => by
    show l.length + 1 ≤ (lab x ++ labs l).length
    rw [List.length_append, lab_len]
    have := labs_len_ge l
    omega
set_option maxHeartbeats 4000000 in
theorem ljoin_ok (z : Bool) (l : List (List UInt8)) (hl : l ≠ []) (hs : ∀ x ∈ l, okL x) (hm : (mk l).length ≤ 255) : FnOk Tryd.prog 43 [.d (.str [0]), .d (.sl z l.length 1 (strs l))] (.tup [.d (.str (mk l)), .d (.int .i64 0)]) := by
  refine fnOk_of_run (TT := TT) (IN := lookI []) TT_ok INok_nil mixed 1000 Tryd.func43 rfl (enters Tryd.func43 (by kernel_rfl) rfl) rfl 53 (by kernel_rfl) ?_
  conv => whnf
  refine .one (.data _ (check_ok [0]) rfl rfl ?_)
  conv => whnf
  refine ⟨fun h => absurd h (by decide), fun _ => ?_⟩
  conv => whnf
  have hml : (labs l).length + 1 = (mk l).length := by rw [← labs_mk, List.length_append]; rfl
  have hll := labs_len_ge l
  refine .inv Nat (fun i => i ≤ l.length) (fun i => [(6, .d (.int .i64 ((labs (l.take i)).length + 1 : Nat))), (19, .d (.int .i64 i))]) (fun _ => []) (fun i => l.length - i) ⟨0, [], Nat.zero_le _, ?_⟩ ?_
  · conv => whnf
    repeat' (first | exact True.intro | exact rfl | exact fun _ => Iff.rfl | exact fun _ _ => rfl | exact renM_ent rfl _ | refine And.intro ?_ ?_)
  intro i hi
  conv => whnf
  have htl := labs_take_le l i
  refine ⟨fun c1 => ?_, fun c1 => ?_⟩
  · have c1 : (i : Int) < l.length := of_decide_eq_true c1
    have hil : i < l.length := by omega
    obtain ⟨q, hq⟩ : ∃ q, l[i]?.getD [] = q := ⟨_, rfl⟩
    have hq2 : l[i]? = some q := by rw [← hq, List.getElem?_eq_getElem hil]; rfl
    have htk : l.take (i + 1) = l.take i ++ [q] := by rw [List.take_add_one, hq2]; rfl
    have hqo := hs q (List.mem_of_getElem? hq2)
    have hql := hqo.1
    have hqm := hqo.2
    have hw1 : IntKind.i64.wrap ((i : Int) + 1) = ((i + 1 : Nat) : Int) := by rw [w64_in _ (by omega)]; omega
    conv => whnf
    refine ⟨by omega, ?_⟩
    conv => whnf
    rw [Int.toNat_natCast, hq]
    refine brF (by rw [beq_eq_false_iff_ne]; omega) ?_
    conv => whnf
    refine brF (decide_eq_false (by omega)) ?_
    conv => whnf
    refine ⟨i + 1, [], hil, by omega, ?_⟩
    conv => whnf
    have hcat : labs (l.take (i + 1)) = labs (l.take i) ++ lab q := by rw [htk, labs_snoc]
    have hle := labs_take_le l (i + 1)
    rw [hcat, List.length_append, lab_len] at hle
    rw [hw1, hcat, List.length_append, lab_len, w64_in (1 + (q.length : Int)) (by omega), w64_in _ (by omega), show (((labs (l.take i)).length + 1 : Nat) : Int) + (1 + (q.length : Int)) = (((labs (l.take i)).length + (1 + q.length) + 1 : Nat) : Int) by omega]
    repeat' (first | exact True.intro | exact rfl | exact fun _ => Iff.rfl | exact fun _ _ => rfl | exact renM_ent rfl _ | refine And.intro ?_ ?_)
  · have c1 : ¬ (i : Int) < l.length := of_decide_eq_false c1
    rw [List.take_of_length_le (by omega)]
    conv => whnf
    refine brF (decide_eq_false (by omega)) ?_
    conv => whnf
    refine .once ?_
    conv => whnf
    refine brT (decide_eq_true (by have := List.length_pos_iff.2 hl; omega)) ?_
    conv => whnf
    refine ⟨by have := List.length_pos_iff.2 hl; omega, ?_⟩
    conv => whnf
    obtain ⟨x, xs, rfl⟩ : ∃ x xs, l = x :: xs := by
      cases l with
      | nil => exact absurd rfl hl
      | cons x xs => exact ⟨x, xs, rfl⟩
    have hx := hs x (by simp)
    rw [show (x :: xs)[Int.toNat 0]?.getD [] = x from rfl, w8_byte hx.2]
    refine .rel _ (ww0 [] (UInt8.ofNat x.length)) (fun y ks' hR => ?_)
    obtain ⟨rfl, rfl⟩ := hR
    conv => whnf
    refine .rel _ (COk.thing Bst.fl (bw1_ok [UInt8.ofNat x.length] x (by show 1 + x.length ≤ _; have := hx.2; omega)) [] [] _ rfl rfl) (fun y ks' hR => ?_)
    obtain ⟨_, q, ⟨rfl, rfl⟩, rfl, rfl⟩ := hR
    conv => whnf
    refine .inv Nat (fun j => j + 1 ≤ (x :: xs).length) (fun j => [(41, .d (.int .i64 (j + 1 : Nat)))]) (fun j => [(0, pk (Bst.fl (.live (labs ((x :: xs).take (j + 1))))))]) (fun j => (x :: xs).length - (j + 1)) ⟨0, [0], by simp, ?_⟩ ?_
    · have e0 : labs ((x :: xs).take (0 + 1)) = [UInt8.ofNat x.length] ++ x := by
        show lab x ++ [] = _
        rw [List.append_nil]; rfl
      conv => whnf
      rw [e0]
      repeat' (first | exact True.intro | exact rfl | exact (fun _ _ _ _ h => ⟨packed_stable _, h⟩) | exact fun _ => Iff.rfl | exact fun _ _ => rfl | refine And.intro ?_ ?_)
    intro j hj
    generalize x :: xs = l at hl hs hm hml hll hj ⊢
    clear htl hi
    conv => whnf
    have htl := labs_take_le l (j + 1)
    refine ⟨fun c2 => ?_, fun c2 => ?_⟩
    · have c2 : ((j + 1 : Nat) : Int) < l.length := of_decide_eq_true c2
      have hil : j + 1 < l.length := by omega
      obtain ⟨q, hq⟩ : ∃ q, l[j + 1]?.getD [] = q := ⟨_, rfl⟩
      have hq2 : l[j + 1]? = some q := by rw [← hq, List.getElem?_eq_getElem hil]; rfl
      have htk : l.take (j + 1 + 1) = l.take (j + 1) ++ [q] := by rw [List.take_add_one, hq2]; rfl
      have hqo := hs q (List.mem_of_getElem? hq2)
      have hqm := hqo.2
      have hw1 : IntKind.i64.wrap (((j + 1 : Nat) : Int) + 1) = ((j + 1 + 1 : Nat) : Int) := by rw [w64_in _ (by omega)]; omega
      have hcat : labs (l.take (j + 1 + 1)) = labs (l.take (j + 1)) ++ [UInt8.ofNat q.length] ++ q := by rw [htk, labs_snoc, List.append_assoc]; rfl
      conv => whnf
      refine ⟨by omega, ?_⟩
      conv => whnf
      rw [Int.toNat_natCast, hq, w8_byte hqm]
      refine .rel _ (COk.thing Bst.fl (wb1_ok (labs (l.take (j + 1))) (UInt8.ofNat q.length) (by omega)) [] [] _ rfl rfl) (fun y ks' hR => ?_)
      obtain ⟨_, _, ⟨rfl, rfl⟩, rfl, rfl⟩ := hR
      conv => whnf
      refine .rel _ (COk.thing Bst.fl (bw1_ok (labs (l.take (j + 1)) ++ [UInt8.ofNat q.length]) q (by rw [List.length_append]; show _ + 1 + _ ≤ _; omega)) [] [] _ rfl rfl) (fun y ks' hR => ?_)
      obtain ⟨_, _, ⟨rfl, rfl⟩, rfl, rfl⟩ := hR
      conv => whnf
      refine ⟨j + 1, [0], by show j + 1 + 1 ≤ l.length; omega, by show l.length - (j + 1 + 1) < l.length - (j + 1); omega, ?_⟩
      rw [hcat]
      conv => whnf
      rw [hw1]
      repeat' (first | exact True.intro | exact rfl | exact (fun _ _ _ _ h => ⟨packed_stable _, h⟩) | exact fun _ => Iff.rfl | exact fun _ _ => rfl | refine And.intro ?_ ?_)
    · have c2 : ¬ ((j + 1 : Nat) : Int) < l.length := of_decide_eq_false c2
      have hj' : j + 1 = l.length := by omega
      rw [hj', List.take_length] at *
      conv => whnf
      refine .rel _ (COk.thing Bst.fl (bw1_ok (labs l) [0] (by show _ + 1 ≤ _; omega)) [] [] _ rfl rfl) (fun y ks' hR => ?_)
      obtain ⟨_, _, ⟨rfl, rfl⟩, rfl, rfl⟩ := hR
      conv => whnf
      refine .rel _ (COk.thing Bst.fl (bs_ok (labs l ++ [0]) (by rw [List.length_append]; show _ + 1 ≤ _; omega)) [] [] _ rfl rfl) (fun y ks' hR => ?_)
      obtain ⟨_, _, ⟨rfl, rfl⟩, rfl, rfl⟩ := hR
      rw [labs_mk]
      conv => whnf
      repeat' (first | exact True.intro | exact rfl | refine And.intro ?_ ?_ | (conv => whnf))
end Go.Proofs.YtjeihmchcfadlaaDoor
namespace Go.Proofs.YtjeihmchcfadlaaDoor
open Go Go.Eng
set_option maxRecDepth 100000
theorem okL_dig {n : Nat} (h : n < 256) : okL (dig n) := by
  have := dig_len (n := n) (by omega)
  exact ⟨this.2, by omega⟩
theorem okL_labA (a : Nat) : ∀ l ∈ labA a, okL l := by
  intro l hl
  simp only [labA, List.mem_cons, List.not_mem_nil, or_false] at hl
  rcases hl with rfl | rfl | rfl | rfl | rfl | rfl
  · exact okL_dig (prt_lt a 3)
  · exact okL_dig (prt_lt a 2)
  · exact okL_dig (prt_lt a 1)
  · exact okL_dig (prt_lt a 0)
  · exact ⟨by decide, by decide⟩
  · exact ⟨by decide, by decide⟩
theorem mk_len_le {ls : List (List UInt8)} (h : ∀ l ∈ ls, l.length ≤ 7) : (mk ls).length ≤ 8 * ls.length + 1 := by
  induction ls with
  | nil => exact Nat.le_refl _
  | cons l ls ih =>
    show (lab l ++ mk ls).length ≤ _
    rw [List.length_append, lab_len]
    have h1 := h l (by simp)
    have h2 := ih (fun x hx => h x (by simp [hx]))
    simp only [List.length_cons]
    omega
theorem short_labA (a : Nat) : ∀ l ∈ labA a, l.length ≤ 7 := by
  intro l hl
  simp only [labA, List.mem_cons, List.not_mem_nil, or_false] at hl
  have hd : ∀ i, (dig (prt a i)).length ≤ 7 := fun i => by have := (dig_len (n := prt a i) (by have := prt_lt a i; omega)).1; omega
  rcases hl with rfl | rfl | rfl | rfl | rfl | rfl
  · exact hd 3
  · exact hd 2
  · exact hd 1
  · exact hd 0
  · decide
  · decide
/-- The labels below which the names of a prefix lie. -/
def zoneA (a k : Nat) : List (List UInt8) := (labA a).drop (4 - k)
theorem zoneA_ok (a k : Nat) : (∀ l ∈ zoneA a k, okL l) ∧ (mk (zoneA a k)).length ≤ 255 := by
  refine ⟨fun l hl => okL_labA a l (List.mem_of_mem_drop hl), ?_⟩
  have := mk_len_le (ls := zoneA a k) (fun l hl => short_labA a l (List.mem_of_mem_drop hl))
  have hl : (zoneA a k).length ≤ 6 := by
    unfold zoneA
    rw [List.length_drop]
    show 6 - _ ≤ 6
    omega
  omega
set_option maxHeartbeats 2000000 in
theorem reverse_ok (a : Nat) (ha : a < 4294967296) : FnOk Tryd.prog 17 [.d (.int .u32 a)] (.d (.str (mk (labA a)))) := by
  refine fnOk_of_run (TT := TT) (IN := lookI []) TT_ok INok_nil mixed 1000 Tryd.func17 rfl (enters Tryd.func17 (by kernel_rfl) rfl) rfl 11 (by kernel_rfl) ?_
  conv => whnf
  refine .rel _ (labels_ok a ha) (fun x ks' hR => ?_)
  obtain ⟨rfl, rfl⟩ := hR
  conv => whnf
  refine .one (.look (r := .tup [.d (.str (mk (labA a))), .d (.int .i64 0)]) ?_ rfl ?_)
  · conv => whnf
    exact ⟨ljoin_ok false (labA a) (by simp [labA]) (okL_labA a) (zoneA_ok a 4).2, rfl⟩
  conv => whnf
theorem strs_drop (l : List (List UInt8)) (k : Nat) : (fun j => strs l (k + j)) = strs (l.drop k) := by
  funext j
  simp [strs, List.getElem?_drop]
theorem tmod_cases {n : Int} (h1 : ¬ n < 0) (h2 : ¬ n > 32) (h3 : ¬ n.tmod 8 ≠ 0) : n = 0 ∨ n = 8 ∨ n = 16 ∨ n = 24 ∨ n = 32 := by
  have h3 : n.tmod 8 = 0 := Decidable.of_not_not h3
  rw [Int.tmod_eq_emod_of_nonneg (by omega)] at h3
  omega
set_option maxHeartbeats 2000000 in
theorem zone_ok (a : Nat) (ha : a < 4294967296) (n : Int) : FnOk Tryd.prog 13 [.d (.int .u32 a), .d (.int .i64 n)] (if n < 0 ∨ n > 32 ∨ n.tmod 8 ≠ 0 then .tup [.d (.str []), .d (.int .i64 1)] else .tup [.d (.str (mk (zoneA a (n / 8).toNat))), .d (.int .i64 0)]) := by
  refine fnOk_of_run (TT := TT) (IN := lookI []) TT_ok INok_nil mixed 1000 Tryd.func13 rfl (enters Tryd.func13 (by kernel_rfl) rfl) rfl 30 (by kernel_rfl) ?_
  conv => whnf
  by_cases hc : n < 0 ∨ n > 32 ∨ n.tmod 8 ≠ 0
  · rw [if_pos hc]
    by_cases h1 : n < 0
    · refine brT (decide_eq_true h1) ?_
      conv => whnf
      exact ⟨rfl, rfl, trivial⟩
    refine brF (decide_eq_false h1) ?_
    conv => whnf
    by_cases h2 : n > 32
    · refine brT (decide_eq_true h2) ?_
      conv => whnf
      exact ⟨rfl, rfl, trivial⟩
    refine brF (decide_eq_false h2) ?_
    conv => whnf
    have h3 : n.tmod 8 ≠ 0 := by
      rcases hc with h | h | h
      · exact absurd h h1
      · exact absurd h h2
      · exact h
    refine ⟨by decide, ?_⟩
    conv => whnf
    refine brT (bne_iff_ne.2 h3) ?_
    conv => whnf
    exact ⟨rfl, rfl, trivial⟩
  · rw [if_neg hc]
    have hr := tmod_cases (n := n) (fun h => hc (.inl h)) (fun h => hc (.inr (.inl h))) (fun h => hc (.inr (.inr h)))
    refine brF (decide_eq_false (fun h => hc (.inl h))) ?_
    conv => whnf
    refine brF (decide_eq_false (fun h => hc (.inr (.inl h)))) ?_
    conv => whnf
    refine ⟨by decide, ?_⟩
    conv => whnf
    refine brF (by rw [bne_eq_false_iff_eq]; exact Decidable.of_not_not fun h => hc (.inr (.inr h))) ?_
    conv => whnf
    refine .rel _ (labels_ok a ha) (fun x ks' hR => ?_)
    obtain ⟨rfl, rfl⟩ := hR
    conv => whnf
    clear hc
    rcases hr with rfl | rfl | rfl | rfl | rfl
    · refine ⟨by decide, ?_⟩
      conv => whnf
      rw [show IntKind.i64.wrap (4 - IntKind.i64.wrap (Int.tdiv 0 8)) = 4 from by decide]
      refine ⟨by decide, ?_⟩
      conv => whnf
      refine .one (.look (r := .tup [.d (.str (mk (zoneA a 0))), .d (.int .i64 0)]) ?_ rfl ?_)
      · conv => whnf
        refine ⟨⟨by decide, by decide, by decide⟩, ?_, rfl⟩
        have hj := ljoin_ok false (zoneA a 0) (by simp [zoneA, labA]) (zoneA_ok a 0).1 (zoneA_ok a 0).2
        unfold zoneA at hj
        rw [← strs_drop] at hj
        exact hj
      conv => whnf
      exact ⟨rfl, rfl, trivial⟩
    · refine ⟨by decide, ?_⟩
      conv => whnf
      rw [show IntKind.i64.wrap (4 - IntKind.i64.wrap (Int.tdiv 8 8)) = 3 from by decide]
      refine ⟨by decide, ?_⟩
      conv => whnf
      refine .one (.look (r := .tup [.d (.str (mk (zoneA a 1))), .d (.int .i64 0)]) ?_ rfl ?_)
      · conv => whnf
        refine ⟨⟨by decide, by decide, by decide⟩, ?_, rfl⟩
        have hj := ljoin_ok false (zoneA a 1) (by simp [zoneA, labA]) (zoneA_ok a 1).1 (zoneA_ok a 1).2
        unfold zoneA at hj
        rw [← strs_drop] at hj
        exact hj
      conv => whnf
      exact ⟨rfl, rfl, trivial⟩
    · refine ⟨by decide, ?_⟩
      conv => whnf
      rw [show IntKind.i64.wrap (4 - IntKind.i64.wrap (Int.tdiv 16 8)) = 2 from by decide]
      refine ⟨by decide, ?_⟩
      conv => whnf
      refine .one (.look (r := .tup [.d (.str (mk (zoneA a 2))), .d (.int .i64 0)]) ?_ rfl ?_)
      · conv => whnf
        refine ⟨⟨by decide, by decide, by decide⟩, ?_, rfl⟩
        have hj := ljoin_ok false (zoneA a 2) (by simp [zoneA, labA]) (zoneA_ok a 2).1 (zoneA_ok a 2).2
        unfold zoneA at hj
        rw [← strs_drop] at hj
        exact hj
      conv => whnf
      exact ⟨rfl, rfl, trivial⟩
    · refine ⟨by decide, ?_⟩
      conv => whnf
      rw [show IntKind.i64.wrap (4 - IntKind.i64.wrap (Int.tdiv 24 8)) = 1 from by decide]
      refine ⟨by decide, ?_⟩
      conv => whnf
      refine .one (.look (r := .tup [.d (.str (mk (zoneA a 3))), .d (.int .i64 0)]) ?_ rfl ?_)
      · conv => whnf
        refine ⟨⟨by decide, by decide, by decide⟩, ?_, rfl⟩
        have hj := ljoin_ok false (zoneA a 3) (by simp [zoneA, labA]) (zoneA_ok a 3).1 (zoneA_ok a 3).2
        unfold zoneA at hj
        rw [← strs_drop] at hj
        exact hj
      conv => whnf
      exact ⟨rfl, rfl, trivial⟩
    · refine ⟨by decide, ?_⟩
      conv => whnf
      rw [show IntKind.i64.wrap (4 - IntKind.i64.wrap (Int.tdiv 32 8)) = 0 from by decide]
      refine ⟨by decide, ?_⟩
      conv => whnf
      refine .one (.look (r := .tup [.d (.str (mk (zoneA a 4))), .d (.int .i64 0)]) ?_ rfl ?_)
      · conv => whnf
        refine ⟨⟨by decide, by decide, by decide⟩, ?_, rfl⟩
        have hj := ljoin_ok false (zoneA a 4) (by simp [zoneA, labA]) (zoneA_ok a 4).1 (zoneA_ok a 4).2
        unfold zoneA at hj
        rw [← strs_drop] at hj
        exact hj
      conv => whnf
      exact ⟨rfl, rfl, trivial⟩
end Go.Proofs.YtjeihmchcfadlaaDoor
namespace Go.Proofs.YtjeihmchcfadlaaDoor
open Go Go.Eng
set_option maxRecDepth 100000
/-- The words between the dots. -/
def sp : List UInt8 → List (List UInt8)
  | [] => [[]]
  | c :: s => if c = 46 then [] :: sp s else match sp s with
    | [] => [[c]]
    | w :: ws => (c :: w) :: ws
theorem sp_ne (s : List UInt8) : sp s ≠ [] := by
  cases s with
  | nil => simp [sp]
  | cons c s =>
    unfold sp
    split
    · simp
    · split <;> simp
theorem sp_spec : ∀ (s : List UInt8), (Lib.indexByte s 46 < 0 ∧ sp s = [s]) ∨ ∃ i : Nat, Lib.indexByte s 46 = i ∧ i < s.length ∧ sp s = s.take i :: sp (s.drop (i + 1))
  | [] => .inl ⟨by decide, rfl⟩
  | c :: s => by
    by_cases hc : c = 46
    · subst hc
      exact .inr ⟨0, by simp [Lib.indexByte], by simp, by simp [sp]⟩
    · have hb : (c == (46 : UInt8)) = false := by simp [hc]
      rcases sp_spec s with ⟨h1, h2⟩ | ⟨i, h1, h2, h3⟩
      · have h0 := Lib.indexByte_ge s 46
        have h3 : Lib.indexByte s 46 = -1 := by omega
        refine .inl ⟨?_, ?_⟩
        · simp [Lib.indexByte, hb, h3]
        · simp [sp, hc, h2]
      · refine .inr ⟨i + 1, ?_, by simp; omega, ?_⟩
        · have hne : ¬ ((i : Int) = -1) := by omega
          simp [Lib.indexByte, hb, h1, hne]
        · simp [sp, hc, h3]
/-- What the words are worth, each one byte. -/
def pwL : List (List UInt8) → Nat → Option Nat
  | [], a => some a
  | w :: ws, a => match word w with
    | none => none
    | some u => pwL ws (a * 256 % 4294967296 + u)
def parseV (s : List UInt8) : Nat × Int :=
  if s.length > 15 then (0, 6) else match pwL (sp s) 0 with
    | none => (0, 6)
    | some a => if printA a = s then (a, 0) else (0, 6)
theorem word_lt {w : List UInt8} {u : Nat} (h : word w = some u) : u < 256 := by
  unfold word at h
  split at h
  · rename_i v hv
    cases h
    have := Lib.parseUintB_le hv
    omega
  · cases h
theorem shl_or {a u : Nat} (hu : u < 256) : bits BinOp.or IntKind.u32 (IntKind.u32.wrap ((a : Int) * 2 ^ min (Int.toNat 8) IntKind.u32.bits)) (IntKind.u32.wrap (u : Int)) = ((a * 256 % 4294967296 + u : Nat) : Int) := by
  have e1 : IntKind.u32.wrap ((a : Int) * 2 ^ min (Int.toNat 8) IntKind.u32.bits) = ((a * 256 % 4294967296 : Nat) : Int) := by
    show IntKind.u32.wrap ((a : Int) * 256) = _
    rw [IntKind.wrap_u32']
    omega
  have e2 : IntKind.u32.wrap (u : Int) = ((u : Nat) : Int) := by rw [IntKind.wrap_u32']; omega
  have e3 : a * 256 % 4294967296 = 2 ^ 8 * (a % 16777216) := by omega
  rw [e1, e2, u32_or_nat _ _ (by omega) (by omega), e3, Nat.two_pow_add_eq_or_of_lt (by omega)]
theorem shl_lt {a u : Nat} (hu : u < 256) : a * 256 % 4294967296 + u < 4294967296 := by omega
structure PSt where
  rest : List UInt8
  a : Nat
set_option maxHeartbeats 4000000 in
theorem hparse_ok (s : List UInt8) : FnOk Tryd.prog 9 [.d (.str s)] (.tup [.d (.int .u32 (parseV s).1), .d (.int .i64 (parseV s).2)]) := by
  refine fnOk_of_run (TT := TT) (IN := lookI [(34, Tryd.f34, 2), (66, Tryd.f66, 3), (89, Tryd.f89, 4)]) TT_ok (INok_cons (INok_cons (INok_cons INok_nil Tryd.func89 (by kernel_rfl) (by kernel_rfl)) Tryd.func66 (by kernel_rfl) (by kernel_rfl)) Tryd.func34 (by kernel_rfl) (by kernel_rfl)) mixed 1000 Tryd.func9 rfl (enters Tryd.func9 (by kernel_rfl) rfl) rfl 30 (by kernel_rfl) ?_
  conv => whnf
  refine ⟨fun h1 => ?_, fun h1 => ?_⟩
  · have h1 : s.length > 15 := by have := of_decide_eq_true h1; omega
    have e : parseV s = (0, 6) := by unfold parseV; rw [if_pos h1]
    rw [e]
    conv => whnf
    exact ⟨rfl, rfl, trivial⟩
  have h1 : ¬ s.length > 15 := by have := of_decide_eq_false h1; omega
  have e : parseV s = (match pwL (sp s) 0 with
    | none => (0, 6)
    | some a => if printA a = s then (a, 0) else (0, 6)) := by unfold parseV; rw [if_neg h1]
  rw [e]
  clear e
  conv => whnf
  repeat (first | (refine brF rfl ?_; conv => whnf) | (refine brT rfl ?_; conv => whnf))
  refine .inv PSt (fun p => p.rest.length ≤ 15 ∧ p.a < 4294967296 ∧ pwL (sp p.rest) p.a = pwL (sp s) 0) (fun p => []) (fun p => [(2, .cells 22 [.d (.int .u32 p.a)]), (3, .cells 9 [.d (.str p.rest)])]) (fun p => p.rest.length) ⟨⟨s, 0⟩, [0, 1, 2, 3, 4, 5, 6], ⟨by show s.length ≤ 15; omega, by show 0 < 4294967296; omega, rfl⟩, ?_⟩ ?_
  · conv => whnf
    repeat' (first | exact True.intro | exact rfl | exact fun _ => Iff.rfl | exact fun _ _ => rfl | exact renM_ent rfl _ | refine And.intro ?_ ?_)
  intro p hp
  obtain ⟨hp1, hp2, hp3⟩ := hp
  conv => whnf
  generalize p.rest = t at hp1 hp3 ⊢
  generalize p.a = a at hp2 hp3 ⊢
  refine .one (.data _ (index_ok t 46) rfl rfl ?_)
  conv => whnf
  rcases sp_spec t with ⟨hi1, hi2⟩ | ⟨i, hi1, hi2, hi3⟩
  · rw [hi2] at hp3
    refine brT (decide_eq_true hi1) ?_
    conv => whnf
    have hpk := parse_ok t (by omega)
    cases hw : word t with
    | none =>
      rw [hw] at hpk
      refine .one (.data _ hpk rfl rfl ?_)
      conv => whnf
      have hp3 : none = pwL (sp s) 0 := by rw [← hp3]; simp only [pwL, hw]
      rw [← hp3]
      refine brT rfl ?_
      conv => whnf
      exact ⟨rfl, rfl, trivial⟩
    | some u =>
      rw [hw] at hpk
      refine .one (.data _ hpk rfl rfl ?_)
      conv => whnf
      have hu := word_lt hw
      refine brF rfl ?_
      conv => whnf
      refine ⟨by decide, ?_⟩
      conv => whnf
      rw [shl_or hu]
      refine .one (.data _ (print_ok _ (shl_lt hu)) rfl rfl ?_)
      conv => whnf
      have hp3 : some (a * 256 % 4294967296 + u) = pwL (sp s) 0 := by rw [← hp3]; simp only [pwL, hw]
      rw [← hp3]
      generalize a * 256 % 4294967296 + u = b
      show (_ → _) ∧ _
      by_cases hb : printA b = s
      · refine brF (by simp [hb]) ?_
        conv => whnf
        simp only [if_pos hb]
        exact ⟨rfl, rfl, trivial⟩
      · refine brT (by simpa using hb) ?_
        conv => whnf
        simp only [if_neg hb]
        exact ⟨rfl, rfl, trivial⟩
  · rw [hi1]
    rw [hi3] at hp3
    refine brF (decide_eq_false (by omega)) ?_
    conv => whnf
    have e1 : IntKind.i64.wrap ((i : Int) + 0) = i := by rw [w64_in _ (by omega)]; omega
    rw [e1]
    refine ⟨by omega, ?_⟩
    conv => whnf
    have e2 : sub t 0 i = t.take i := by simp [sub]
    rw [e2]
    have hpk := parse_ok (t.take i) (by rw [List.length_take]; omega)
    cases hw : word (t.take i) with
    | none =>
      rw [hw] at hpk
      refine .one (.data _ hpk rfl rfl ?_)
      conv => whnf
      have hp3 : none = pwL (sp s) 0 := by rw [← hp3]; simp only [pwL, hw]
      rw [← hp3]
      refine brT rfl ?_
      conv => whnf
      exact ⟨rfl, rfl, trivial⟩
    | some u =>
      rw [hw] at hpk
      refine .one (.data _ hpk rfl rfl ?_)
      conv => whnf
      have hu := word_lt hw
      refine brF rfl ?_
      conv => whnf
      refine ⟨by decide, ?_⟩
      conv => whnf
      have e3 : IntKind.i64.wrap ((i : Int) + 1) = ((i + 1 : Nat) : Int) := by rw [w64_in _ (by omega)]; omega
      have e4 : IntKind.i64.wrap ((i : Int) + (((⟨#[46]⟩ : ByteArray).data.toList.length : Nat) : Int)) = ((i + 1 : Nat) : Int) := e3
      rw [e4]
      refine ⟨by omega, ?_⟩
      conv => whnf
      rw [shl_or hu]
      have e5 : sub t ((i + 1 : Nat) : Int) (t.length : Int) = t.drop (i + 1) := by
        unfold sub
        rw [Int.toNat_natCast, Int.toNat_natCast, ← List.length_drop, List.take_length]
      rw [e5]
      refine ⟨⟨t.drop (i + 1), a * 256 % 4294967296 + u⟩, [0, 1, 2, 3, 4, 5, 6], ⟨by show (t.drop (i + 1)).length ≤ 15; rw [List.length_drop]; omega, shl_lt hu, ?_⟩, ?_, ?_⟩
      · rw [← hp3]
        simp only [pwL, hw]
      · show (t.drop (i + 1)).length < t.length
        rw [List.length_drop]
        omega
      · conv => whnf
        repeat' (first | exact True.intro | exact rfl | exact fun _ => Iff.rfl | exact fun _ _ => rfl | exact renM_ent rfl _ | refine And.intro ?_ ?_)
end Go.Proofs.YtjeihmchcfadlaaDoor
namespace Go.Proofs.YtjeihmchcfadlaaDoor
open Go Go.Eng
theorem COk.frameX {P : Program} {f : FuncId} {as0 : List SV} {ks0 : List KB} {R0 : SV → List KB → Prop} (h : COk P f as0 ks0 R0) (is : List Nat) {al : List SV} {ks : List KB}
    (hok : okN (lenB ks) is = true) (ha : mapL (sig is (lenB ks)) as0 = al) (hk : getBs ks is = mapB (sig is (lenB ks)) ks0) : COk P f al ks (fun s k => ∃ s0 k0, R0 s0 k0 ∧ s = mapV (sig is (lenB ks)) s0 ∧ k = putBs ks is (mapB (sig is (lenB ks)) k0)) :=
  COk.frame h is hok ha hk (fun s0 k0 h => ⟨s0, k0, h, rfl, rfl⟩)
end Go.Proofs.YtjeihmchcfadlaaDoor
namespace Go.Proofs.YtjeihmchcfadlaaDoor
open Go Go.Eng
set_option maxRecDepth 100000
/-- The address of a reverse name. -/
def ofV (n : List UInt8) : Nat × Int :=
  if isName n then
    if (parseV (Lib.join ((labN n).take 4).reverse [46])).2 = 0 ∧ sameN n (mk (labA (parseV (Lib.join ((labN n).take 4).reverse [46])).1)) then ((parseV (Lib.join ((labN n).take 4).reverse [46])).1, 0) else (0, 3)
  else (0, 2)
theorem join_one (x c : List UInt8) : Lib.join [x] c = x := by simp [Lib.join]
theorem join_two (x y c : List UInt8) (l : List (List UInt8)) : Lib.join (x :: y :: l) c = x ++ (c ++ Lib.join (y :: l) c) := by simp [Lib.join]
theorem join_len {c : List UInt8} {k : Nat} : ∀ {l : List (List UInt8)}, (∀ x ∈ l, x.length ≤ k) → (Lib.join l c).length ≤ l.length * (k + c.length)
  | [], _ => by simp [Lib.join]
  | [x], h => by
    have := h x (by simp)
    rw [join_one]
    show x.length ≤ 1 * _
    omega
  | x :: y :: l, h => by
    have h1 := h x (by simp)
    have h2 := join_len (c := c) (l := y :: l) (fun z hz => h z (by simp [hz]))
    rw [join_two, List.length_append, List.length_append]
    have h3 : (x :: y :: l).length * (k + c.length) = (y :: l).length * (k + c.length) + (k + c.length) := by
      show ((y :: l).length + 1) * _ = _
      rw [Nat.add_mul, Nat.one_mul]
    omega
theorem pwL_lt : ∀ (ws : List (List UInt8)) {a b : Nat}, a < 4294967296 → pwL ws a = some b → b < 4294967296
  | [], a, b, h, e => by simp only [pwL, Option.some.injEq] at e; omega
  | w :: ws, a, b, h, e => by
    simp only [pwL] at e
    cases hw : word w with
    | none => rw [hw] at e; cases e
    | some u =>
      rw [hw] at e
      exact pwL_lt ws (shl_lt (word_lt hw)) e
theorem parseV_lt (s : List UInt8) : (parseV s).1 < 4294967296 := by
  unfold parseV
  split
  · decide
  · split
    · decide
    · rename_i a ha
      have := pwL_lt _ (by decide) ha
      split
      · exact this
      · decide
set_option maxHeartbeats 8000000 in
theorem of_ok (n : List UInt8) : FnOk Tryd.prog 11 [.d (.str n)] (.tup [.d (.int .u32 (ofV n).1), .d (.int .i64 (ofV n).2)]) := by
  refine fnOk_of_run (TT := TT) (IN := lookI [(37, Tryd.f37, 1), (69, Tryd.f69, 2), (47, Tryd.f47, 1), (78, Tryd.f78, 2)]) TT_ok (INok_cons (INok_cons (INok_cons (INok_cons INok_nil Tryd.func78 (by kernel_rfl) (by kernel_rfl)) Tryd.func47 (by kernel_rfl) (by kernel_rfl)) Tryd.func69 (by kernel_rfl) (by kernel_rfl)) Tryd.func37 (by kernel_rfl) (by kernel_rfl)) mixed 1000 Tryd.func11 rfl (enters Tryd.func11 (by kernel_rfl) rfl) rfl 42 (by kernel_rfl) ?_
  conv => whnf
  refine .one (.data _ (check_ok n) rfl rfl ?_)
  by_cases hn : isName n
  case neg =>
    rw [if_neg hn, show ofV n = (0, 2) from if_neg hn]
    conv => whnf
    refine brT rfl ?_
    conv => whnf
    exact ⟨rfl, rfl, trivial⟩
  rw [if_pos hn, show ofV n = _ from if_pos hn]
  conv => whnf
  refine brF rfl ?_
  conv => whnf
  refine ⟨by decide, ?_⟩
  conv => whnf
  refine .one (.data _ (check_ok n) rfl rfl ?_)
  rw [if_pos hn]
  conv => whnf
  refine brF rfl ?_
  conv => whnf
  obtain ⟨hn1, hn2, hn3⟩ := labN_of hn
  have hend : ∀ i, posN2 (labN n) i < n.length := fun i => by have := pos_lt (labN n) i; rw [← hn3] at this; exact this
  have hbt : ∀ i l, (labN n)[i]? = some l → bt n (posN2 (labN n) i) = l.length := fun i l h => by
    have := bt_pos hn2 h
    rw [← hn3] at this; exact this
  have hbe : bt n (posN2 (labN n) (labN n).length) = 0 := by
    have := bt_end (labN n)
    rw [← hn3] at this; exact this
  have hll := pos_end (labN n)
  rw [← hn3] at hll
  have hlab : ∀ i l, (labN n)[i]? = some l → (n.drop (posN2 (labN n) i + 1)).take l.length = l := fun i l h => by
    have := label_at h
    rw [← hn3] at this; exact this
  generalize labN n = ls at hn2 hn3 hend hbt hbe hll hlab ⊢
  have hcnt : ∀ i, i ≤ ls.length → i ≤ posN2 ls i := fun i => by
    induction i with
    | zero => intro _; exact Nat.zero_le _
    | succ i ih =>
      intro h
      have := ih (by omega)
      have := pos_mono (ls := ls) (i := i) (j := i + 1) (by omega) h
      omega
  have hlc := hcnt ls.length (Nat.le_refl _)
  refine .moveC 0 1 0 63 [.all 0] 9 1 0 .no _ rfl rfl rfl ?_
  rw [show ∀ a b c d e f g h : KB, lenB [a, b, c, d, e, f, g, h] = 8 from fun _ _ _ _ _ _ _ _ => rfl]
  conv => whnf
  refine .inv Nat (fun i => i ≤ ls.length ∧ i ≤ 4) (fun i => [(3, iV (posN2 ls i))]) (fun i => [(5, .cells 3 [iV (posN2 ls i)]), (8, .row 9 1 i .no (strs (ls.take i)))]) (fun i => ls.length - i) ⟨0, [0, 1, 2, 3, 4, 5, 6, 7, 8], ⟨Nat.zero_le _, Nat.zero_le _⟩, ?_⟩ ?_
  · conv => whnf
    repeat' (first | exact True.intro | exact rfl | exact subZ_self _ | exact Or.inr rfl | exact fun _ _ => rfl | exact fun _ h => absurd h (Nat.not_lt_zero _) | refine And.intro ?_ ?_)
  intro i hi
  obtain ⟨hi, hi4⟩ := hi
  have hp := hend i
  conv => whnf
  refine brT (decide_eq_true (by omega)) ?_
  conv => whnf
  refine ⟨by omega, ?_⟩
  conv => whnf
  rw [bt_eq, w64_in (bt n (posN2 ls i) : Int) (by have := bt_lt n (posN2 ls i); omega)]
  rcases Nat.lt_or_ge i ls.length with hlt | hge
  · have hli : ls[i]? = some ls[i] := List.getElem?_eq_getElem hlt
    have hb := hbt i _ hli
    have hok := hn2 _ (List.getElem_mem hlt)
    have hps := posN2_succ hli
    have hp2 := hend (i + 1)
    rw [hb]
    generalize ls[i] = l at hli hb hok hps
    obtain ⟨ho1, ho2⟩ := hok
    refine brF (by rw [beq_eq_false_iff_ne]; omega) ?_
    conv => whnf
    refine brF (decide_eq_false (by omega)) ?_
    conv => whnf
    have e1 : IntKind.i64.wrap ((n.length : Int) - (posN2 ls i : Int)) = ((n.length - posN2 ls i : Nat) : Int) := by rw [w64_in _ (by omega)]; omega
    rw [e1]
    refine brF (decide_eq_false (by omega)) ?_
    conv => whnf
    have e2 : IntKind.i64.wrap ((posN2 ls i : Int) + IntKind.i64.wrap (1 + (l.length : Int))) = ((posN2 ls (i + 1) : Nat) : Int) := by rw [w64_in (1 + (l.length : Int)) (by omega), w64_in _ (by omega)]; omega
    rw [e2]
    have e3 : IntKind.i64.wrap ((posN2 ls i : Int) + 1) = ((posN2 ls i + 1 : Nat) : Int) := by rw [w64_in _ (by omega)]; omega
    rw [e3]
    refine ⟨by omega, ?_⟩
    conv => whnf
    have hsub : sub n ((posN2 ls i + 1 : Nat) : Int) ((posN2 ls (i + 1) : Nat) : Int) = l := by
      unfold sub
      rw [Int.toNat_natCast, Int.toNat_natCast]
      rw [show posN2 ls (i + 1) - (posN2 ls i + 1) = l.length by omega]
      exact hlab i l hli
    rw [hsub]
    by_cases h4 : i = 4
    · refine brT (by subst h4; rfl) ?_
      conv => whnf
      have htk : ls.take i = ls.take 4 := by rw [h4]
      have hws : (ls.take 4).length = i := by rw [List.length_take]; omega
      clear hps hb hli hp2 hp hsub e1 e2 e3
      rw [htk]
      have hwo : ∀ x ∈ ls.take 4, x.length ≤ 63 := fun x hx => (hn2 x (List.mem_of_mem_take hx)).2
      generalize ls.take 4 = ws at hws hwo ⊢
      generalize posN2 ls i = q
      clear hbt hbe hll hlab hcnt hlc hend
      subst hws
      refine .rel _ (COk.frameX (rev_ok .no ws (by omega)) [8] rfl rfl rfl) (fun r ks' hR => ?_)
      obtain ⟨_, _, ⟨rfl, rfl⟩, rfl, rfl⟩ := hR
      conv => whnf
      refine .one (.look (r := .d (.str (Lib.join ws.reverse [46]))) ?_ rfl ?_)
      · conv => whnf
        have hj := join_ok false ws.reverse [46] (by rw [List.length_reverse]; omega) (by
          have := join_len (c := [46]) (k := 63) (l := ws.reverse) (fun x hx => hwo x (List.mem_reverse.1 hx))
          rw [List.length_reverse] at this
          simp only [List.length_cons, List.length_nil] at this
          omega)
        rw [List.length_reverse] at hj
        exact ⟨hj, rfl⟩
      generalize Lib.join ws.reverse [46] = J
      conv => whnf
      refine .one (.data _ (hparse_ok J) rfl rfl ?_)
      have hlt := parseV_lt J
      generalize parseV J = v at hlt ⊢
      conv => whnf
      by_cases hv : v.2 = 0
      · refine brF (by rw [bne_eq_false_iff_eq]; exact hv) ?_
        conv => whnf
        refine .one (.data _ (reverse_ok v.1 hlt) rfl rfl ?_)
        conv => whnf
        refine .one (.data _ (lsame_ok n (mk (labA v.1))) rfl rfl ?_)
        conv => whnf
        cases hs : sameN n (mk (labA v.1)) with
        | true =>
          refine brF rfl ?_
          conv => whnf
          rw [if_pos ⟨hv, rfl⟩]
          exact ⟨rfl, rfl, trivial⟩
        | false =>
          refine brT rfl ?_
          conv => whnf
          rw [if_neg (fun h => by cases h.2)]
          exact ⟨rfl, rfl, trivial⟩
      · refine brT (bne_iff_ne.2 hv) ?_
        conv => whnf
        rw [if_neg (fun h => hv h.1)]
        exact ⟨rfl, rfl, trivial⟩
    · refine brF (by rw [beq_eq_false_iff_ne]; omega) ?_
      conv => whnf
      refine ⟨by omega, ?_⟩
      conv => whnf
      have htk : ls.take (i + 1) = ls.take i ++ [l] := by rw [List.take_add_one, hli]; rfl
      refine ⟨i + 1, [0, 1, 2, 3, 4, 5, 6, 7, 10], ⟨hlt, by omega⟩, by omega, ?_⟩
      conv => whnf
      repeat' (first | exact True.intro | exact rfl | exact subZ_self _ | exact Or.inr rfl | exact fun _ _ => rfl | exact fun _ h => absurd h (Nat.not_lt_zero _) | refine And.intro ?_ ?_)
      intro j hj
      have hsc := strs_cat (ls.take i) l (chunk [DV.str l] 1) rfl
      rw [show (ls.take i).length = i by rw [List.length_take]; omega, ← htk] at hsc
      exact hsc j hj
  · have hil : i = ls.length := by omega
    subst hil
    rw [hbe]
    conv => whnf
    refine brT rfl ?_
    conv => whnf
    have htk : ls.take ls.length = ls.take 4 := by rw [List.take_of_length_le (Nat.le_refl _), List.take_of_length_le (by omega)]
    have hws : (ls.take 4).length = ls.length := by rw [List.length_take]; omega
    clear hp
    generalize hi0 : ls.length = i at hws hi4 htk ⊢
    clear hi hge hi0
    rw [htk]
    have hwo : ∀ x ∈ ls.take 4, x.length ≤ 63 := fun x hx => (hn2 x (List.mem_of_mem_take hx)).2
    generalize ls.take 4 = ws at hws hwo ⊢
    generalize posN2 ls i = q
    clear hbt hbe hll hlab hcnt hlc hend
    subst hws
    refine .rel _ (COk.frameX (rev_ok .no ws (by omega)) [8] rfl rfl rfl) (fun r ks' hR => ?_)
    obtain ⟨_, _, ⟨rfl, rfl⟩, rfl, rfl⟩ := hR
    conv => whnf
    refine .one (.look (r := .d (.str (Lib.join ws.reverse [46]))) ?_ rfl ?_)
    · conv => whnf
      have hj := join_ok false ws.reverse [46] (by rw [List.length_reverse]; omega) (by
        have := join_len (c := [46]) (k := 63) (l := ws.reverse) (fun x hx => hwo x (List.mem_reverse.1 hx))
        rw [List.length_reverse] at this
        simp only [List.length_cons, List.length_nil] at this
        omega)
      rw [List.length_reverse] at hj
      exact ⟨hj, rfl⟩
    generalize Lib.join ws.reverse [46] = J
    conv => whnf
    refine .one (.data _ (hparse_ok J) rfl rfl ?_)
    have hlt := parseV_lt J
    generalize parseV J = v at hlt ⊢
    conv => whnf
    by_cases hv : v.2 = 0
    · refine brF (by rw [bne_eq_false_iff_eq]; exact hv) ?_
      conv => whnf
      refine .one (.data _ (reverse_ok v.1 hlt) rfl rfl ?_)
      conv => whnf
      refine .one (.data _ (lsame_ok n (mk (labA v.1))) rfl rfl ?_)
      conv => whnf
      cases hs : sameN n (mk (labA v.1)) with
      | true =>
        refine brF rfl ?_
        conv => whnf
        rw [if_pos ⟨hv, rfl⟩]
        exact ⟨rfl, rfl, trivial⟩
      | false =>
        refine brT rfl ?_
        conv => whnf
        rw [if_neg (fun h => by cases h.2)]
        exact ⟨rfl, rfl, trivial⟩
    · refine brT (bne_iff_ne.2 hv) ?_
      conv => whnf
      rw [if_neg (fun h => hv h.1)]
      exact ⟨rfl, rfl, trivial⟩
end Go.Proofs.YtjeihmchcfadlaaDoor
