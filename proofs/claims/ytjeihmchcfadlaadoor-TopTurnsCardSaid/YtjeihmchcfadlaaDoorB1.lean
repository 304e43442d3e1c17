/-
  The table of types of this seat, as the engine reads it; checked against the program by one closed fact. Written by mktt.py. label.Check tells whether a text is a name. No conditions. label.Fold puts for each capital letter its small one. No conditions but that the text is shorter than 2 to the 62. Names as lists of labels. Plain lemmas. Contracts of the library at this program, in plain words (written by the kit's lay-plain.mjs). No conditions but those told. Plain parts: lists of texts as cells; names ahead in bytes; branches. No program in sight. Plain parts: bytes as cells, maps of numbers by texts. No program in sight. strings.Join of texts, as a contract over data (from the shelf). Conditions: lengths. strings.Builder: copyCheck, out of the shelf's laws; WriteString, String by the engine. Arguments of which less is asked. Plain lemmas. Labels behind one another; the name that bytes begin with. Plain lemmas. Names split into labels. Plain lemmas. Names as their labels; what lies within what. Plain lemmas. label.Within. No conditions. label.Count. No conditions. strconv.FormatUint, ParseUint at numbers below 256, base 10; strings.Index of one byte. Conditions: the listed variables (VOk). hosts.numbers, labels, Print. No conditions. strings.Builder: WriteByte. Conditions: lengths. A contract over few blocks used among many, its result told as it is. Plain. hosts.Parse. Conditions: lengths. Words and addresses, read again. Plain.
-/
import Derived.Test.YtjeihmchcfadlaaDoorRows
import Derived.KernelRfl
import Derived.Shelf.Strings.OnBuilder
import Derived.Shelf.Strings.Builder1
import Derived.Shelf.Strconv.Itoa1
import Derived.Shelf.Strconv.Itoa2
import Derived.Shelf.LaysM
import Derived.Shelf.Pu.ParseUintPublic10
import Derived.Shelf.Strings.Search3
import Derived.Test.YtjeihmchcfadlaaDoorProg
import Derived.Laws.BitsAllLaws
import Derived.Lib.ParseIntBCases
import Derived.Test.YtjeihmchcfadlaaDoorM4
set_option linter.unusedVariables false
set_option linter.unusedSimpArgs false
namespace Go.Proofs.YtjeihmchcfadlaaDoor
open Go Go.Eng
def types : List (Nat × TI) := [
  (2, ⟨1, 8, false, [.d (.int .i64 0)], .int .i64, []⟩),
  (3, ⟨1, 8, false, [.d (.int .i64 0)], .int .i64, []⟩),
  (4, ⟨1, 1, false, [.d .ff], .bool, []⟩),
  (5, ⟨1, 1, false, [.d (.int .u8 0)], .int .u8, []⟩),
  (6, ⟨1, 1, false, [.d (.int .u8 0)], .int .u8, []⟩),
  (7, ⟨4, 24, true, [.d (.int .i64 0), .d (.int .i64 0), .d .ff, .d (.int .u8 0)], .struct [(0, 2), (1, 3), (2, 4), (3, 6)], [.int .i64, .int .i64, .bool, .int .u8]⟩),
  (9, ⟨1, 16, false, [.d (.str [])], .str, []⟩),
  (17, ⟨1, 8, false, [.v (.pointer none)], .ptr 189, []⟩),
  (18, ⟨1, 8, true, [.v (.pointer none)], .struct [(0, 17)], []⟩),
  (19, ⟨1, 8, true, [.v (.pointer none)], .struct [(0, 17)], []⟩),
  (21, ⟨1, 4, false, [.d (.int .i32 0)], .int .i32, []⟩),
  (22, ⟨1, 4, false, [.d (.int .u32 0)], .int .u32, []⟩),
  (24, ⟨1, 8, false, [.d (.int .i64 0)], .int .i64, []⟩),
  (26, ⟨1, 8, false, [.v .nilFunc], .other, []⟩),
  (28, ⟨1, 8, false, [.v .nilFunc], .other, []⟩),
  (29, ⟨1, 8, false, [.v .nilFunc], .other, []⟩),
  (30, ⟨1, 8, false, [.v .nilFunc], .other, []⟩),
  (31, ⟨1, 8, false, [.v .nilFunc], .other, []⟩),
  (32, ⟨1, 8, false, [.v .nilFunc], .other, []⟩),
  (33, ⟨1, 24, false, [nilS], .slice 36, []⟩),
  (35, ⟨2, 16, true, [.d (.int .u32 0), .d (.int .i64 0)], .struct [(0, 22), (1, 3)], [.int .u32, .int .i64]⟩),
  (36, ⟨2, 16, true, [.d (.int .u32 0), .d (.int .i64 0)], .struct [(0, 22), (1, 3)], [.int .u32, .int .i64]⟩),
  (38, ⟨1, 8, false, [.v .nilFunc], .other, []⟩),
  (39, ⟨1, 8, false, [.v .nilFunc], .other, []⟩),
  (42, ⟨1, 8, false, [.v .nilFunc], .other, []⟩),
  (44, ⟨1, 8, false, [.v .nilFunc], .other, []⟩),
  (45, ⟨1, 8, false, [.v .nilFunc], .other, []⟩),
  (46, ⟨1, 8, false, [.v (.pointer none)], .ptr 102, []⟩),
  (48, ⟨1, 8, false, [.v .nilFunc], .other, []⟩),
  (49, ⟨1, 24, false, [nilS], .slice 3, []⟩),
  (54, ⟨1, 8, false, [.v .nilFunc], .other, []⟩),
  (56, ⟨1, 8, false, [.d (.int .u64 0)], .int .u64, []⟩),
  (58, ⟨1, 16, false, [.v .nilIface], .iface, []⟩),
  (61, ⟨1, 8, false, [.d (.int .u64 0)], .int .u64, []⟩),
  (62, ⟨1, 8, false, [.v .nilFunc], .other, []⟩),
  (63, ⟨1, 24, false, [nilS], .slice 9, []⟩),
  (71, ⟨1, 8, false, [.v .nilFunc], .other, []⟩),
  (74, ⟨1, 8, false, [.v .nilFunc], .other, []⟩),
  (76, ⟨1, 8, false, [.v .nilFunc], .other, []⟩),
  (77, ⟨1, 8, false, [.v .nilFunc], .other, []⟩),
  (80, ⟨1, 8, false, [.v .nilFunc], .other, []⟩),
  (81, ⟨1, 8, false, [.v .nilFunc], .other, []⟩),
  (82, ⟨1, 8, false, [.v .nilFunc], .other, []⟩),
  (84, ⟨1, 8, false, [.v .nilFunc], .other, []⟩),
  (85, ⟨1, 8, false, [.v .nilFunc], .other, []⟩),
  (86, ⟨1, 24, false, [nilS], .slice 5, []⟩),
  (90, ⟨1, 8, false, [.v .nilFunc], .other, []⟩),
  (91, ⟨1, 8, false, [.v .nilFunc], .other, []⟩),
  (92, ⟨1, 8, false, [.v .nilFunc], .other, []⟩),
  (93, ⟨1, 8, false, [.v .nilFunc], .other, []⟩),
  (94, ⟨2, 16, true, [.d (.int .i64 0), .d (.int .i64 0)], .struct [(0, 3), (1, 2)], [.int .i64, .int .i64]⟩),
  (95, ⟨2, 16, true, [.d (.int .i64 0), .d (.int .i64 0)], .struct [(0, 3), (1, 2)], [.int .i64, .int .i64]⟩),
  (96, ⟨1, 8, false, [.v .nilFunc], .other, []⟩),
  (97, ⟨1, 8, false, [.v (.map none)], .map 3 3, []⟩),
  (98, ⟨1, 24, false, [nilS], .slice 95, []⟩),
  (99, ⟨4, 48, true, [.v .nilFunc, .v .nilFunc, nilS, .v (.map none)], .struct [(0, 92), (1, 96), (2, 98), (3, 97)], []⟩),
  (100, ⟨4, 48, true, [.v .nilFunc, .v .nilFunc, nilS, .v (.map none)], .struct [(0, 92), (1, 96), (2, 98), (3, 97)], []⟩),
  (101, ⟨4, 48, true, [.v .nilFunc, .v .nilFunc, nilS, .v (.map none)], .struct [(0, 100)], []⟩),
  (102, ⟨4, 48, true, [.v .nilFunc, .v .nilFunc, nilS, .v (.map none)], .struct [(0, 100)], []⟩),
  (103, ⟨1, 8, false, [.v .nilFunc], .other, []⟩),
  (106, ⟨1, 8, false, [.v .nilFunc], .other, []⟩),
  (107, ⟨1, 8, false, [.v (.pointer none)], .ptr 109, []⟩),
  (108, ⟨2, 32, true, [.v (.pointer none), nilS], .struct [(0, 107), (1, 86)], []⟩),
  (109, ⟨2, 32, true, [.v (.pointer none), nilS], .struct [(0, 107), (1, 86)], []⟩),
  (110, ⟨1, 8, false, [.v .nilFunc], .other, []⟩),
  (115, ⟨1, 8, false, [.v .nilFunc], .other, []⟩),
  (116, ⟨1, 8, false, [.v .nilFunc], .other, []⟩),
  (117, ⟨1, 8, false, [.v .nilFunc], .other, []⟩),
  (119, ⟨1, 8, false, [.v .nilFunc], .other, []⟩),
  (120, ⟨1, 8, false, [.v .nilFunc], .other, []⟩),
  (121, ⟨1, 8, false, [.v (.pointer none)], .ptr 100, []⟩),
  (123, ⟨1, 8, false, [.v .nilFunc], .other, []⟩),
  (125, ⟨1, 8, false, [.v .nilFunc], .other, []⟩),
  (126, ⟨1, 8, false, [.v .nilFunc], .other, []⟩),
  (127, ⟨1, 8, false, [.d (.int .i64 0)], .int .i64, []⟩),
  (128, ⟨1, 8, false, [.v .nilFunc], .other, []⟩),
  (129, ⟨1, 8, false, [.v (.pointer none)], .ptr 147, []⟩),
  (132, ⟨1, 8, false, [.v (.pointer none)], .ptr 5, []⟩),
  (134, ⟨1, 8, false, [.d (.int .i64 0)], .int .i64, []⟩),
  (140, ⟨1, 8, false, [.v .nilFunc], .other, []⟩),
  (141, ⟨1, 8, false, [.v .nilFunc], .other, []⟩),
  (142, ⟨24, 24, true, [.d (.int .u8 0), .d (.int .u8 0), .d (.int .u8 0), .d (.int .u8 0), .d (.int .u8 0), .d (.int .u8 0), .d (.int .u8 0), .d (.int .u8 0), .d (.int .u8 0), .d (.int .u8 0), .d (.int .u8 0), .d (.int .u8 0), .d (.int .u8 0), .d (.int .u8 0), .d (.int .u8 0), .d (.int .u8 0), .d (.int .u8 0), .d (.int .u8 0), .d (.int .u8 0), .d (.int .u8 0), .d (.int .u8 0), .d (.int .u8 0), .d (.int .u8 0), .d (.int .u8 0)], .array 24 5, [.int .u8, .int .u8, .int .u8, .int .u8, .int .u8, .int .u8, .int .u8, .int .u8, .int .u8, .int .u8, .int .u8, .int .u8, .int .u8, .int .u8, .int .u8, .int .u8, .int .u8, .int .u8, .int .u8, .int .u8, .int .u8, .int .u8, .int .u8, .int .u8]⟩),
  (146, ⟨3, 48, true, [.d (.str []), .d (.str []), .v .nilIface], .struct [(0, 9), (1, 9), (2, 58)], []⟩),
  (147, ⟨3, 48, true, [.d (.str []), .d (.str []), .v .nilIface], .struct [(0, 9), (1, 9), (2, 58)], []⟩),
  (149, ⟨1, 8, false, [.v (.pointer none)], .other, []⟩),
  (152, ⟨1, 8, false, [.d (.int .u64 0)], .int .u64, []⟩),
  (153, ⟨1, 8, false, [.v .nilFunc], .other, []⟩),
  (156, ⟨1, 8, false, [.v (.pointer none)], .ptr 3, []⟩),
  (158, ⟨1, 8, false, [.v .nilFunc], .other, []⟩),
  (159, ⟨1, 8, false, [.v .nilFunc], .other, []⟩),
  (160, ⟨20, 160, true, [.d (.int .u64 0), .d (.int .u64 0), .d (.int .u64 0), .d (.int .u64 0), .d (.int .u64 0), .d (.int .u64 0), .d (.int .u64 0), .d (.int .u64 0), .d (.int .u64 0), .d (.int .u64 0), .d (.int .u64 0), .d (.int .u64 0), .d (.int .u64 0), .d (.int .u64 0), .d (.int .u64 0), .d (.int .u64 0), .d (.int .u64 0), .d (.int .u64 0), .d (.int .u64 0), .d (.int .u64 0)], .array 20 56, [.int .u64, .int .u64, .int .u64, .int .u64, .int .u64, .int .u64, .int .u64, .int .u64, .int .u64, .int .u64, .int .u64, .int .u64, .int .u64, .int .u64, .int .u64, .int .u64, .int .u64, .int .u64, .int .u64, .int .u64]⟩),
  (162, ⟨1, 8, false, [.v .nilFunc], .other, []⟩),
  (164, ⟨2, 2, true, [.d (.int .u8 0), .d (.int .u8 0)], .struct [(0, 5), (1, 5)], [.int .u8, .int .u8]⟩),
  (165, ⟨2, 2, true, [.d (.int .u8 0), .d (.int .u8 0)], .struct [(0, 5), (1, 5)], [.int .u8, .int .u8]⟩),
  (167, ⟨1, 8, false, [.v (.pointer none)], .ptr 169, []⟩),
  (168, ⟨1, 16, true, [.d (.str [])], .struct [(0, 9)], [.str]⟩),
  (169, ⟨1, 16, true, [.d (.str [])], .struct [(0, 9)], [.str]⟩),
  (170, ⟨1, 8, false, [.v (.pointer none)], .ptr 152, []⟩),
  (174, ⟨1, 8, false, [.v .nilFunc], .other, []⟩),
  (175, ⟨1, 8, false, [.v .nilFunc], .other, []⟩),
  (178, ⟨4, 40, true, [.v (.pointer none), .v (.pointer none), .v (.pointer none), .d (.str [])], .struct [(0, 17), (1, 17), (2, 17), (3, 9)], []⟩),
  (183, ⟨1, 1, false, [.d (.int .u8 0)], .int .u8, []⟩),
  (184, ⟨1, 1, false, [.d (.int .u8 0)], .int .u8, []⟩),
  (186, ⟨1, 4, false, [.d (.int .i32 0)], .int .i32, []⟩),
  (187, ⟨1, 4, false, [.d (.int .i32 0)], .int .i32, []⟩),
  (189, ⟨11, 48, true, [.d (.int .u64 0), .d (.int .u64 0), .d (.int .u32 0), .d (.int .u8 0), .d (.int .u8 0), .d (.int .u8 0), .d (.int .u8 0), .v .nilFunc, .v (.pointer none), .d (.int .i32 0), .d (.int .i32 0)], .struct [(0, 12), (1, 12), (2, 22), (3, 183), (4, 5), (5, 5), (6, 184), (7, 185), (8, 132), (9, 186), (10, 187)], []⟩)]
def TT (n : Nat) : Option TI := Eng.look types n
set_option maxRecDepth 100000 in
theorem TT_ok : TTok Tryd.prog TT := TTok_of_check (P := Tryd.prog) (l := types) (by kernel_rfl)
theorem mixed : Tryd.prog.follows .mixedOrders = true := by kernel_rfl
end Go.Proofs.YtjeihmchcfadlaaDoor
namespace Go.Proofs.YtjeihmchcfadlaaDoor
open Go Go.Eng
/-- The byte of a text, 0 beyond it. -/
def bt (s : List UInt8) (k : Nat) : Nat := (s[k]?.getD 0).toNat
theorem bt_eq (s : List UInt8) (k : Nat) : byteAt s (k : Int) = (bt s k : Int) := by
  unfold byteAt bt; simp
theorem bt_lt (s : List UInt8) (k : Nat) : bt s k < 256 := UInt8.toNat_lt _
def more (s : List UInt8) (k : Nat) : Prop := k < s.length ∧ ¬ bt s k = 0 ∧ bt s k ≤ 63 ∧ bt s k < s.length - k
instance (s : List UInt8) (k : Nat) : Decidable (more s k) := by unfold more; infer_instance
/-- Where the labels end that begin at k. -/
def endOf (s : List UInt8) : Nat → Nat → Nat
  | 0, k => k
  | m + 1, k => if more s k then endOf s m (k + 1 + bt s k) else k
def lastOf (s : List UInt8) : Nat := endOf s s.length 0
def At (s : List UInt8) (k : Nat) : Prop := k ≤ s.length ∧ ∃ m, s.length ≤ k + m ∧ endOf s m k = lastOf s
theorem At.zero (s : List UInt8) : At s 0 := ⟨Nat.zero_le _, s.length, by omega, rfl⟩
theorem At.next {s : List UInt8} {k : Nat} (h : At s k) (hm : more s k) : At s (k + 1 + bt s k) := by
  obtain ⟨h1, m, h2, h3⟩ := h
  have := hm
  obtain ⟨a1, a2, a3, a4⟩ := this
  cases m with
  | zero => omega
  | succ m => exact ⟨by omega, m, by omega, by rw [← h3]; simp [endOf, hm]⟩
theorem At.last {s : List UInt8} {k : Nat} (h : At s k) (hm : ¬ more s k) : k = lastOf s := by
  obtain ⟨h1, m, h2, h3⟩ := h
  rw [← h3]
  cases m <;> simp [endOf, hm]
def isName (s : List UInt8) : Prop := 0 < s.length ∧ s.length ≤ 255 ∧ lastOf s = s.length - 1 ∧ bt s (lastOf s) = 0
instance (s : List UInt8) : Decidable (isName s) := by unfold isName; infer_instance
theorem w64_in (n : Int) (h : -9223372036854775808 ≤ n ∧ n ≤ 9223372036854775807) : IntKind.i64.wrap n = n := by rw [IntKind.wrap_i64]; omega
set_option maxRecDepth 100000
set_option maxHeartbeats 2000000 in
theorem check_ok (s : List UInt8) : FnOk Tryd.prog 36 [.d (.str s)] (.d (.int .i64 (if isName s then 0 else 2))) := by
  refine fnOk_of_run (TT := TT) (IN := lookI [(47, Tryd.f47, 1), (78, Tryd.f78, 2)]) TT_ok ?_ mixed 1000 Tryd.func36 rfl (enters Tryd.func36 (by kernel_rfl) rfl) rfl 27 (by kernel_rfl) ?_
  · exact INok_cons (INok_cons INok_nil Tryd.func78 (by kernel_rfl) (by kernel_rfl)) Tryd.func47 (by kernel_rfl) (by kernel_rfl)
  conv => whnf
  refine ⟨fun h1 => ?_, fun h1 => ?_⟩
  · have : ¬ isName s := fun hn => by have a := hn.1; simp at h1; rw [h1] at a; simp at a
    exact congrArg (DV.int _) (by rw [if_neg this])
  have hpos : 0 < s.length := by
    rcases Nat.eq_zero_or_pos s.length with e | e
    · rw [e] at h1; cases h1
    · exact e
  conv => whnf
  refine ⟨fun h2 => ?_, fun h2 => ?_⟩
  · have : ¬ isName s := fun hn => by have a := hn.2.1; simp at h2; omega
    exact congrArg (DV.int _) (by rw [if_neg this])
  have hlen : s.length ≤ 255 := by simp at h2; omega
  conv => whnf
  refine .inv Nat (fun k => At s k) (fun k => [(3, .d (.int .i64 k))]) (fun k => [(0, .cells 3 [.d (.int .i64 k)])]) (fun k => s.length - k) ⟨0, [0, 1, 2], At.zero s, ?_⟩ ?_
  · conv => whnf
    repeat' (first | exact True.intro | exact rfl | refine And.intro ?_ ?_)
  intro k hk
  have hkl := hk.1
  have hby := bt_lt s k
  have hwb : IntKind.i64.wrap (byteAt s (k : Int)) = (bt s k : Int) := by rw [bt_eq, w64_in _ (by omega)]
  have hwl : IntKind.i64.wrap ((s.length : Int) - 1) = (s.length : Int) - 1 := w64_in _ (by omega)
  have key1 : ¬ more s k → (((k : Int) != IntKind.i64.wrap ((s.length : Int) - 1)) = true) → ¬ isName s := fun hm hne hn => by
    have := hk.last hm
    obtain ⟨_, _, a, _⟩ := hn
    rw [hwl] at hne
    simp at hne
    omega
  have key2 : ¬ more s k → (((k : Int) != IntKind.i64.wrap ((s.length : Int) - 1)) = false) → (bt s k = 0 ↔ isName s) ∧ k < s.length := fun hm hne => by
    have := hk.last hm
    rw [hwl] at hne
    simp at hne
    unfold isName
    rw [← this]
    omega
  conv => whnf
  refine ⟨fun hlt => ?_, fun hge => ?_⟩
  · have hlt' : k < s.length := by simpa using hlt
    conv => whnf
    refine ⟨by simp; omega, ?_⟩
    conv => whnf
    refine ⟨fun h0 => ?_, fun h0 => ?_⟩
    · have hm : ¬ more s k := fun hm => by rw [hwb] at h0; simp at h0; exact hm.2.1 h0
      conv => whnf
      refine ⟨fun e => congrArg (DV.int _) (by rw [if_neg (key1 hm e)]), fun e => ?_⟩
      obtain ⟨e1, e2⟩ := key2 hm e
      conv => whnf
      refine ⟨by simp; omega, ?_⟩
      conv => whnf
      refine ⟨fun hz => ?_, fun hz => ?_⟩
      · exact congrArg (DV.int _) (by rw [if_neg (fun hn => by rw [bt_eq] at hz; simp at hz; exact hz (e1.2 hn))])
      · exact congrArg (DV.int _) (by rw [if_pos (e1.1 (by rw [bt_eq] at hz; simpa using hz))])
    · have h0' : ¬ bt s k = 0 := by rw [hwb] at h0; simpa using h0
      conv => whnf
      refine ⟨fun h3 => ?_, fun h3 => ?_⟩
      · have hm : ¬ more s k := fun hm => by rw [hwb] at h3; simp at h3; have := hm.2.2.1; omega
        conv => whnf
        refine ⟨fun e => congrArg (DV.int _) (by rw [if_neg (key1 hm e)]), fun e => ?_⟩
        obtain ⟨e1, e2⟩ := key2 hm e
        conv => whnf
        refine ⟨by simp; omega, ?_⟩
        conv => whnf
        refine ⟨fun hz => ?_, fun hz => ?_⟩
        · exact congrArg (DV.int _) (by rw [if_neg (fun hn => by rw [bt_eq] at hz; simp at hz; exact hz (e1.2 hn))])
        · exact congrArg (DV.int _) (by rw [if_pos (e1.1 (by rw [bt_eq] at hz; simpa using hz))])
      · have h3' : bt s k ≤ 63 := by rw [hwb] at h3; simp at h3; omega
        conv => whnf
        have hws : IntKind.i64.wrap ((s.length : Int) - (k : Int)) = (s.length : Int) - k := w64_in _ (by omega)
        refine ⟨fun h4 => ?_, fun h4 => ?_⟩
        · have hm : ¬ more s k := fun hm => by rw [hwb, hws] at h4; simp at h4; have := hm.2.2.2; omega
          conv => whnf
          refine ⟨fun e => congrArg (DV.int _) (by rw [if_neg (key1 hm e)]), fun e => ?_⟩
          obtain ⟨e1, e2⟩ := key2 hm e
          conv => whnf
          refine ⟨by simp; omega, ?_⟩
          conv => whnf
          refine ⟨fun hz => ?_, fun hz => ?_⟩
          · exact congrArg (DV.int _) (by rw [if_neg (fun hn => by rw [bt_eq] at hz; simp at hz; exact hz (e1.2 hn))])
          · exact congrArg (DV.int _) (by rw [if_pos (e1.1 (by rw [bt_eq] at hz; simpa using hz))])
        · have hm : more s k := ⟨hlt', h0', h3', by rw [hwb, hws] at h4; simp at h4; omega⟩
          conv => whnf
          refine ⟨k + 1 + bt s k, [0, 1, 2], hk.next hm, by show s.length - (k + 1 + bt s k) < s.length - k; omega, ?_⟩
          have hnx : IntKind.i64.wrap ((k : Int) + IntKind.i64.wrap (1 + IntKind.i64.wrap (byteAt s (k : Int)))) = ((k + 1 + bt s k : Nat) : Int) := by rw [hwb, w64_in (1 + (bt s k : Int)) (by omega), w64_in _ (by omega)]; omega
          conv => whnf
          repeat' (first | exact True.intro | exact rfl | refine And.intro ?_ ?_)
          all_goals exact congrArg SV.d (congrArg (DV.int _) hnx)
  · have hm : ¬ more s k := fun hm => by have := hm.1; simp at hge; omega
    conv => whnf
    refine ⟨fun e => congrArg (DV.int _) (by rw [if_neg (key1 hm e)]), fun e => ?_⟩
    obtain ⟨e1, e2⟩ := key2 hm e
    conv => whnf
    refine ⟨by simp; omega, ?_⟩
    conv => whnf
    refine ⟨fun hz => ?_, fun hz => ?_⟩
    · exact congrArg (DV.int _) (by rw [if_neg (fun hn => by rw [bt_eq] at hz; simp at hz; exact hz (e1.2 hn))])
    · exact congrArg (DV.int _) (by rw [if_pos (e1.1 (by rw [bt_eq] at hz; simpa using hz))])
end Go.Proofs.YtjeihmchcfadlaaDoor
namespace Go.Proofs.YtjeihmchcfadlaaDoor
open Go Go.Eng
def low (b : UInt8) : UInt8 := if 65 ≤ b ∧ b ≤ 90 then b + 32 else b
def fold (s : List UInt8) : List UInt8 := s.map low
theorem low_nat (b : UInt8) : (low b).toNat = if 65 ≤ b.toNat ∧ b.toNat ≤ 90 then b.toNat + 32 else b.toNat := by
  unfold low
  have e1 : (65 ≤ b) ↔ 65 ≤ b.toNat := by rw [UInt8.le_iff_toNat_le]; rfl
  have e2 : (b ≤ 90) ↔ b.toNat ≤ 90 := by rw [UInt8.le_iff_toNat_le]; rfl
  simp only [e1, e2]
  split
  · rw [UInt8.toNat_add]
    have : (32 : UInt8).toNat = 32 := rfl
    omega
  · rfl
def mix (s : List UInt8) (k j : Nat) : Int := if j < k then ((low (s[j]?.getD 0)).toNat : Int) else (bt s j : Int)
set_option maxRecDepth 100000
set_option maxHeartbeats 2000000 in
theorem fold_ok (s : List UInt8) (hs : s.length < 9223372036854775808) : FnOk Tryd.prog 48 [.d (.str s)] (.d (.str (fold s))) := by
  refine fnOk_of_run (TT := TT) (IN := lookI []) TT_ok INok_nil mixed 1000 Tryd.func48 rfl (enters Tryd.func48 (by kernel_rfl) rfl) rfl 28 (by kernel_rfl) ?_
  conv => whnf
  refine .inv Nat (fun k => k ≤ s.length) (fun k => [(10, .d (.int .i64 k))]) (fun k => [(0, .row 5 1 s.length .no (fun j => [.int .u8 (mix s k j)]))]) (fun k => s.length - k) ⟨0, [0], by omega, ?_⟩ ?_
  · conv => whnf
    repeat' (first | exact True.intro | exact rfl | refine And.intro ?_ ?_)
    intro i hi
    simp [mix, bt_eq]
  intro k hk
  have hk1 : k < s.length → IntKind.i64.wrap ((k : Int) + 1) = ((k + 1 : Nat) : Int) := fun _ => by rw [w64_in _ (by omega)]; omega
  conv => whnf
  refine ⟨fun hlt => ?_, fun hge => ?_⟩
  · have hlt' : k < s.length := by simpa using hlt
    conv => whnf
    refine ⟨by simp; omega, ?_⟩
    have hmk : mix s k (Int.toNat (k : Int)) = (bt s k : Int) := by simp [mix]
    have hb := bt_lt s k
    conv => whnf
    have stay : ¬ (65 ≤ bt s k ∧ bt s k ≤ 90) → ∀ i, i < s.length → [DV.int IntKind.u8 (mix s k i)] = [DV.int IntKind.u8 (mix s (k + 1) i)] := fun hn i hi => by
      unfold mix
      by_cases e : i = k
      · subst e
        rw [if_neg (by omega), if_pos (by omega), low_nat, if_neg (by unfold bt at hn; exact hn)]
        rfl
      · by_cases e2 : i < k
        · rw [if_pos e2, if_pos (by omega)]
        · rw [if_neg e2, if_neg (by omega)]
    rw [hmk]
    refine ⟨fun h1 => ?_, fun h1 => ?_⟩
    · conv => whnf
      refine ⟨fun h2 => ?_, fun h2 => ?_⟩
      · conv => whnf
        refine ⟨by simp; omega, ?_⟩
        conv => whnf
        refine ⟨k + 1, [0], by omega, by show s.length - (k + 1) < s.length - k; omega, ?_⟩
        conv => whnf
        repeat' (first | exact True.intro | exact rfl | refine And.intro ?_ ?_)
        all_goals first
          | exact congrArg SV.d (congrArg (DV.int _) (hk1 hlt'))
          | exact stay (by simp at h1 h2; omega)
          | (intro i hi
             show oneF _ _ _ _ i = _
             unfold oneF mix
             simp at h1 h2
             by_cases e : i = k
             · subst e
               simp only [Int.toNat_natCast, if_true, putD, List.set_cons_zero]
               rw [if_pos (by omega), low_nat, if_pos (by unfold bt at h1 h2; omega), IntKind.wrap_u8]
               unfold bt at *
               congr 2
               omega
             · rw [if_neg (by simpa using e)]
               show [DV.int _ _] = [DV.int _ _]
               by_cases e2 : i < k
               · rw [if_pos e2, if_pos (by omega)]
               · rw [if_neg e2, if_neg (by omega)])
      · conv => whnf
        refine ⟨k + 1, [0], by omega, by show s.length - (k + 1) < s.length - k; omega, ?_⟩
        conv => whnf
        repeat' (first | exact True.intro | exact rfl | refine And.intro ?_ ?_)
        all_goals first
          | exact congrArg SV.d (congrArg (DV.int _) (hk1 hlt'))
          | exact stay (by simp at h1 h2; omega)
          | (intro i hi
             show oneF _ _ _ _ i = _
             unfold oneF mix
             simp at h1 h2
             by_cases e : i = k
             · subst e
               simp only [Int.toNat_natCast, if_true, putD, List.set_cons_zero]
               rw [if_pos (by omega), low_nat, if_pos (by unfold bt at h1 h2; omega), IntKind.wrap_u8]
               unfold bt at *
               congr 2
               omega
             · rw [if_neg (by simpa using e)]
               show [DV.int _ _] = [DV.int _ _]
               by_cases e2 : i < k
               · rw [if_pos e2, if_pos (by omega)]
               · rw [if_neg e2, if_neg (by omega)])
    · conv => whnf
      refine ⟨k + 1, [0], by omega, by show s.length - (k + 1) < s.length - k; omega, ?_⟩
      conv => whnf
      repeat' (first | exact True.intro | exact rfl | refine And.intro ?_ ?_)
      all_goals first
        | exact congrArg SV.d (congrArg (DV.int _) (hk1 hlt'))
        | exact stay (by simp at h1; omega)
        | (intro i hi
           show oneF _ _ _ _ i = _
           unfold oneF mix
           simp at h1
           by_cases e : i = k
           · subst e
             simp only [Int.toNat_natCast, if_true, putD, List.set_cons_zero]
             rw [if_pos (by omega), low_nat, if_pos (by unfold bt at h1; omega), IntKind.wrap_u8]
             unfold bt at *
             congr 2
             omega
           · rw [if_neg (by simpa using e)]
             show [DV.int _ _] = [DV.int _ _]
             by_cases e2 : i < k
             · rw [if_pos e2, if_pos (by omega)]
             · rw [if_neg e2, if_neg (by omega)])
  · have hke : k = s.length := by simp at hge; omega
    subst hke
    conv => whnf
    refine ⟨fun i _ => ⟨_, rfl⟩, ?_⟩
    conv => whnf
    refine congrArg DV.str ?_
    unfold bytesOf fold
    apply List.ext_getElem?
    intro i
    rw [List.getElem?_map, List.getElem?_map]
    by_cases hi : i < s.length
    · rw [List.getElem?_range hi, List.getElem?_eq_getElem hi]
      simp [mix, hi]
    · rw [List.getElem?_eq_none (by simp; omega), List.getElem?_eq_none (by omega)]
      rfl
end Go.Proofs.YtjeihmchcfadlaaDoor
namespace Go.Proofs.YtjeihmchcfadlaaDoor
open Go Go.Eng
def okL (l : List UInt8) : Prop := 1 ≤ l.length ∧ l.length ≤ 63
def lab (l : List UInt8) : List UInt8 := UInt8.ofNat l.length :: l
/-- The name of labels. -/
def mk : List (List UInt8) → List UInt8
  | [] => [0]
  | l :: ls => lab l ++ mk ls
theorem bt_drop (s : List UInt8) (k j : Nat) : bt (s.drop k) j = bt s (k + j) := by simp [bt]
theorem more_drop (s : List UInt8) (k : Nat) : more s k ↔ more (s.drop k) 0 := by
  unfold more
  rw [bt_drop, Nat.add_zero, List.length_drop]
  omega
theorem endOf_drop : ∀ (m : Nat) (s : List UInt8) (k : Nat), endOf s m k = k + endOf (s.drop k) m 0
  | 0, s, k => rfl
  | m + 1, s, k => by
    simp only [endOf]
    by_cases h : more s k
    · rw [if_pos h, if_pos ((more_drop s k).1 h), endOf_drop m s, endOf_drop m (s.drop k), bt_drop, List.drop_drop, show k + 0 = k from rfl]
      have e : k + (0 + 1 + bt s k) = k + 1 + bt s k := by omega
      rw [e]
      omega
    · rw [if_neg h, if_neg (fun e => h ((more_drop s k).2 e))]
      rfl
theorem toNat_ofNat {n : Nat} (h : n < 256) : (UInt8.ofNat n).toNat = n := by
  rw [UInt8.toNat_ofNat']; exact Nat.mod_eq_of_lt h
theorem bt_lab (l t : List UInt8) (h : okL l) : bt (lab l ++ t) 0 = l.length := by
  simp only [bt, lab, List.cons_append, List.getElem?_cons_zero, Option.getD_some]
  exact toNat_ofNat (by have := h.2; omega)
theorem lab_len (l : List UInt8) : (lab l).length = 1 + l.length := by simp [lab]; omega
theorem mk_pos (ls : List (List UInt8)) : 0 < (mk ls).length := by cases ls <;> simp [mk, lab]
theorem drop_lab (l t : List UInt8) : (lab l ++ t).drop (1 + l.length) = t := by
  rw [← lab_len l, List.drop_left]
theorem take_lab (l t : List UInt8) : (lab l ++ t).take (1 + l.length) = lab l := by
  rw [← lab_len l, List.take_left]
theorem name_of : ∀ (m : Nat) (s : List UInt8), 0 < s.length → endOf s m 0 = s.length - 1 → bt s (s.length - 1) = 0 → ∃ ls, (∀ l ∈ ls, okL l) ∧ s = mk ls
  | m, s, h0, h1, h2 => by
    have leaf : s.length = 1 → ∃ ls, (∀ l ∈ ls, okL l) ∧ s = mk ls := fun hl => by
      match s, hl with
      | [b], _ =>
        refine ⟨[], (fun l h => by cases h), ?_⟩
        have : b.toNat = 0 := by simpa [bt] using h2
        rw [mk, UInt8.toNat_inj.1 (show b.toNat = (0 : UInt8).toNat from this)]
    cases m with
    | zero => exact leaf (by simp [endOf] at h1; omega)
    | succ m =>
      simp only [endOf] at h1
      split at h1
      · rename_i hm
        obtain ⟨a1, a2, a3, a4⟩ := hm
        rw [endOf_drop] at h1
        have hb : 1 + bt s 0 < s.length := by omega
        obtain ⟨ls, i1, i2⟩ := name_of m (s.drop (0 + 1 + bt s 0)) (by rw [List.length_drop]; omega) (by rw [List.length_drop]; omega) (by
          rw [bt_drop, List.length_drop, show 0 + 1 + bt s 0 + (s.length - (0 + 1 + bt s 0) - 1) = s.length - 1 by omega]
          exact h2)
        refine ⟨(s.drop 1).take (bt s 0) :: ls, fun l hl => ?_, ?_⟩
        · rcases List.mem_cons.1 hl with rfl | hl
          · have : ((s.drop 1).take (bt s 0)).length = bt s 0 := by simp; omega
            unfold okL
            omega
          · exact i1 l hl
        · rw [mk, ← i2]
          have hlen : ((s.drop 1).take (bt s 0)).length = bt s 0 := by simp; omega
          unfold lab
          rw [hlen]
          match s, a1 with
          | b :: r, _ =>
            have e : bt (b :: r) 0 = b.toNat := by simp [bt]
            rw [e]
            simp [show 0 + 1 + b.toNat = b.toNat + 1 by omega]
      · exact leaf (by omega)
theorem endOf_mk (ls : List (List UInt8)) (h : ∀ l ∈ ls, okL l) : ∀ m, (mk ls).length ≤ m → endOf (mk ls) m 0 = (mk ls).length - 1 := by
  induction ls with
  | nil =>
    intro m hm
    cases m with
    | zero => rfl
    | succ m =>
      show (if more [0] 0 then endOf [0] m (0 + 1 + bt [0] 0) else 0) = 0
      exact if_neg (by rintro ⟨_, h2, _⟩; exact h2 rfl)
  | cons l ls ih =>
    intro m hm
    have hl := h l (List.mem_cons_self ..)
    have hb := bt_lab l (mk ls) hl
    have hlen : (mk (l :: ls)).length = 1 + l.length + (mk ls).length := by simp [mk, lab_len]
    have hp := mk_pos ls
    cases m with
    | zero => omega
    | succ m =>
      simp only [endOf]
      show (if more (mk (l :: ls)) 0 then endOf (mk (l :: ls)) m (0 + 1 + bt (mk (l :: ls)) 0) else 0) = _
      have hbm : bt (mk (l :: ls)) 0 = l.length := hb
      rw [if_pos ⟨by omega, by rw [hbm]; have := hl.1; omega, by rw [hbm]; exact hl.2, by rw [hbm]; omega⟩, hbm, endOf_drop, Nat.zero_add]
      have : (mk (l :: ls)).drop (1 + l.length) = mk ls := drop_lab l (mk ls)
      rw [this, ih (fun x hx => h x (List.mem_cons_of_mem _ hx)) m (by omega)]
      omega
theorem last_mk (ls : List (List UInt8)) : bt (mk ls) ((mk ls).length - 1) = 0 := by
  induction ls with
  | nil => rfl
  | cons l ls ih =>
    have hlen : (mk (l :: ls)).length = 1 + l.length + (mk ls).length := by simp [mk, lab_len]
    have hp := mk_pos ls
    have e : (mk (l :: ls)).drop (1 + l.length) = mk ls := drop_lab l (mk ls)
    have := bt_drop (mk (l :: ls)) (1 + l.length) ((mk ls).length - 1)
    rw [e, ih] at this
    rw [hlen, show 1 + l.length + (mk ls).length - 1 = 1 + l.length + ((mk ls).length - 1) by omega]
    exact this.symm
/-- A name is what labels make. -/
theorem isName_iff (s : List UInt8) : isName s ↔ s.length ≤ 255 ∧ ∃ ls, (∀ l ∈ ls, okL l) ∧ s = mk ls := by
  constructor
  · rintro ⟨h1, h2, h3, h4⟩
    exact ⟨h2, name_of s.length s h1 h3 (by rw [← h3]; exact h4)⟩
  · rintro ⟨h1, ls, h2, rfl⟩
    have := endOf_mk ls h2 (mk ls).length (Nat.le_refl _)
    exact ⟨mk_pos ls, h1, this, by unfold lastOf; rw [this]; exact last_mk ls⟩
/-- Labels are told by their name. -/
theorem mk_inj : ∀ {a b : List (List UInt8)}, (∀ l ∈ a, okL l) → (∀ l ∈ b, okL l) → mk a = mk b → a = b
  | [], [], _, _, _ => rfl
  | [], l :: b, _, hb, h => by
    have h1 := hb l (List.mem_cons_self ..)
    have := bt_lab l (mk b) h1
    rw [show lab l ++ mk b = mk (l :: b) from rfl, ← h] at this
    have h2 := h1.1
    have : (0 : Nat) = l.length := this
    omega
  | l :: a, [], ha, _, h => by
    have h1 := ha l (List.mem_cons_self ..)
    have := bt_lab l (mk a) h1
    rw [show lab l ++ mk a = mk (l :: a) from rfl, h] at this
    have h2 := h1.1
    have : (0 : Nat) = l.length := this
    omega
  | l :: a, k :: b, ha, hb, h => by
    have h1 := bt_lab l (mk a) (ha l (List.mem_cons_self ..))
    have h2 := bt_lab k (mk b) (hb k (List.mem_cons_self ..))
    have hlen : l.length = k.length := by
      rw [← h1, ← h2]
      show bt (mk (l :: a)) 0 = bt (mk (k :: b)) 0
      rw [h]
    have e1 : lab l = lab k := by
      have := congrArg (List.take (1 + l.length)) h
      rw [show mk (l :: a) = lab l ++ mk a from rfl, take_lab, hlen, show mk (k :: b) = lab k ++ mk b from rfl, take_lab] at this
      exact this
    have e2 : mk a = mk b := by
      have := congrArg (List.drop (1 + l.length)) h
      rw [show mk (l :: a) = lab l ++ mk a from rfl, drop_lab, hlen, show mk (k :: b) = lab k ++ mk b from rfl, drop_lab] at this
      exact this
    have e3 : l = k := (List.cons.inj e1).2
    rw [e3, mk_inj (fun x hx => ha x (List.mem_cons_of_mem _ hx)) (fun x hx => hb x (List.mem_cons_of_mem _ hx)) e2]
end Go.Proofs.YtjeihmchcfadlaaDoor
namespace Go.Proofs
open Go.Shelf Go.RowKit Go.Sort Go.Lib
def Try.lays156_ren : Go.Shelf.Ren := ⟨fun | 156 => 39 | 165 => 70 | 166 => 71 | 169 => 72 | 240 => 98 | 241 => 99 | 276 => 120 | 277 => 121 | n => n, fun | 31 => 63 | 9 => 9 | 3 => 3 | 4 => 4 | 0 => 0 | 20 => 20 | 72 => 109 | 76 => 111 | 70 => 107 | 37 => 86 | 75 => 58 | 127 => 132 | 164 => 149 | 5 => 5 | 80 => 113 | n => n, fun | n => n⟩
theorem Try.lays156 : Go.Proofs.Lays.n156 Tryd.prog Try.lays156_ren := {
  mixed := by kernel_rfl
  f156 := Tryd.func39.trans (congrArg some (by kernel_rfl))
  f165 := Tryd.func70.trans (congrArg some (by kernel_rfl))
  f166 := Tryd.func71.trans (congrArg some (by kernel_rfl))
  f169 := Tryd.func72.trans (congrArg some (by kernel_rfl))
  f240 := Tryd.func98.trans (congrArg some (by kernel_rfl))
  f241 := Tryd.func99.trans (congrArg some (by kernel_rfl))
  f276 := Tryd.func120.trans (congrArg some (by kernel_rfl))
  f277 := Tryd.func121.trans (congrArg some (by kernel_rfl))
  t0 := Tryd.underlying0
  a0 := Tryd.isAgg0
  z0 := Tryd.sizeOf0
  v0 := Tryd.zeroValue0
  t3 := Tryd.underlying3
  a3 := Tryd.isAgg3
  z3 := Tryd.sizeOf3
  v3 := Tryd.zeroValue3
  t4 := Tryd.underlying4
  a4 := Tryd.isAgg4
  z4 := Tryd.sizeOf4
  v4 := Tryd.zeroValue4
  t9 := Tryd.underlying9
  a9 := Tryd.isAgg9
  z9 := Tryd.sizeOf9
  v9 := Tryd.zeroValue9
  t20 := Tryd.underlying20
  a20 := Tryd.isAgg20
  z20 := Tryd.sizeOf20
  v20 := Tryd.zeroValue20
  t31 := Tryd.underlying63
  a31 := Tryd.isAgg63
  z31 := Tryd.sizeOf63
  v31 := Tryd.zeroValue63
  t37 := Tryd.underlying86
  a37 := Tryd.isAgg86
  z37 := Tryd.sizeOf86
  v37 := Tryd.zeroValue86
  t70 := Tryd.underlying107
  a70 := Tryd.isAgg107
  z70 := Tryd.sizeOf107
  v70 := Tryd.zeroValue107
  t72 := Tryd.underlying109
  a72 := Tryd.isAgg109
  z72 := Tryd.sizeOf109
  v72 := Tryd.zeroValue109
  t75 := Tryd.underlying58
  a75 := Tryd.isAgg58
  z75 := Tryd.sizeOf58
  v75 := Tryd.zeroValue58
  t76 := Tryd.underlying111
  a76 := Tryd.isAgg111
  z76 := Tryd.sizeOf111
  v76 := Tryd.zeroValue111
  t127 := Tryd.underlying132
  a127 := Tryd.isAgg132
  z127 := Tryd.sizeOf132
  v127 := Tryd.zeroValue132
  t164 := Tryd.underlying149
  a164 := Tryd.isAgg149
  z164 := Tryd.sizeOf149
  v164 := Tryd.zeroValue149 }
theorem Try.Builder_Extra_156 : Builder.Extra Tryd.prog Try.lays156_ren := {
  sizeBuilder := by kernel_rfl
  liesBuilder := by kernel_rfl
  t5 := Tryd.underlying5
  a5 := Tryd.isAgg5
  z5 := Tryd.sizeOf5
  v5 := Tryd.zeroValue5
  infoByte := by kernel_rfl
  cellsByte := by kernel_rfl
  sizeByte := by kernel_rfl
  neB5 := by decide }
theorem Try.strings_Join_none (a : Option Addr) (c : Nat) (sep : ByteArray) (w : World) :
    Calls Tryd.prog 39 #[.slice a 0 c, .string sep] w fun e w' => e = .returned (.string ⟨#[]⟩) ∧ w' = w := Any.strings_Join_none Try.lays156 Try.Builder_Extra_156 a c sep w
theorem Try.strings_Join (bk o c : Nat) (xs : List ByteArray) (sep : ByteArray) (w : World) (hcells : ∀ (j : Nat) x, xs[j]? = some x → w.cell? ⟨bk, o + j, none⟩ = some (.string x)) (hbk : bk < w.heap.size) (hN : xs.length ≤ 140737488355328) (hcap : xs.length ≤ c) (hlen : (Lib.join (xs.map (·.data.toList)) sep.data.toList).length ≤ 140737488355328) :
    Calls Tryd.prog 39 #[.slice (some ⟨bk, o, none⟩) xs.length c, .string sep] w fun e w' => e = .returned (.string ⟨(Lib.join (xs.map (·.data.toList)) sep.data.toList).toArray⟩) ∧ Below w.heap.size w w' := Any.strings_Join Try.lays156 Try.Builder_Extra_156 bk o c xs sep w hcells hbk hN hcap hlen
def Try.lays283_ren : Go.Shelf.Ren := ⟨fun | 283 => 111 | n => n, fun | 3 => 3 | 9 => 9 | 4 => 4 | n => n, fun | n => n⟩
theorem Try.lays283 : Go.Proofs.Lays.n283 Tryd.prog Try.lays283_ren := {
  mixed := by kernel_rfl
  f283 := Tryd.func111.trans (congrArg some (by kernel_rfl))
  t3 := Tryd.underlying3
  a3 := Tryd.isAgg3
  z3 := Tryd.sizeOf3
  v3 := Tryd.zeroValue3
  t4 := Tryd.underlying4
  a4 := Tryd.isAgg4
  z4 := Tryd.sizeOf4
  v4 := Tryd.zeroValue4
  t9 := Tryd.underlying9
  a9 := Tryd.isAgg9
  z9 := Tryd.sizeOf9
  v9 := Tryd.zeroValue9 }
theorem Try.internal_strconv_small (i : Nat) (h : i < 100) (w : World) :
    Calls Tryd.prog 111 #[.int .i64 i] w fun e w' => e = .returned (.string ⟨(Lib.decDigits i).toArray⟩) ∧ w' = w := Any.internal_strconv_small Try.lays283 i h w
def Try.laysM284_ren : Go.Shelf.Ren := ⟨fun | 284 => 112 | 129 => 110 | 317 => 127 | 318 => 128 | n => n, fun | 53 => 56 | 3 => 3 | 212 => 160 | 0 => 0 | 4 => 4 | 46 => 61 | 5 => 5 | 9 => 9 | n => n, fun | 17 => 2 | n => n⟩
theorem Try.laysM284 : Go.Proofs.LaysM.n284 Tryd.prog Try.laysM284_ren := {
  mixed := by kernel_rfl
  f129 := Tryd.func110.trans (congrArg some (by kernel_rfl))
  f284 := Tryd.func112.trans (congrArg some (by kernel_rfl))
  f317 := Tryd.func127.trans (congrArg some (by kernel_rfl))
  f318 := Tryd.func128.trans (congrArg some (by kernel_rfl))
  t0 := Tryd.underlying0
  a0 := Tryd.isAgg0
  z0 := Tryd.sizeOf0
  v0 := Tryd.zeroValue0
  t3 := Tryd.underlying3
  a3 := Tryd.isAgg3
  z3 := Tryd.sizeOf3
  v3 := Tryd.zeroValue3
  t4 := Tryd.underlying4
  a4 := Tryd.isAgg4
  z4 := Tryd.sizeOf4
  v4 := Tryd.zeroValue4
  t5 := Tryd.underlying5
  a5 := Tryd.isAgg5
  z5 := Tryd.sizeOf5
  v5 := Tryd.zeroValue5
  t9 := Tryd.underlying9
  a9 := Tryd.isAgg9
  z9 := Tryd.sizeOf9
  v9 := Tryd.zeroValue9
  t46 := Tryd.underlying61
  a46 := Tryd.isAgg61
  z46 := Tryd.sizeOf61
  v46 := Tryd.zeroValue61
  t53 := Tryd.underlying56
  a53 := Tryd.isAgg56
  z53 := Tryd.sizeOf56
  v53 := Tryd.zeroValue56
  t212 := Tryd.underlying160
  a212 := Tryd.isAgg160
  z212 := Tryd.sizeOf160
  v212 := Tryd.zeroValue160
  g17 := by kernel_rfl
  i0 := by kernel_rfl
  i3 := by kernel_rfl
  i4 := by kernel_rfl
  i5 := by kernel_rfl
  i9 := by kernel_rfl
  i46 := by kernel_rfl
  i53 := by kernel_rfl
  i212 := by kernel_rfl
  m17 := by kernel_rfl }
theorem Try.internal_strconv_numDigits (u : Nat) (h1 : 1 ≤ u) (h2 : u < 18446744073709551616) (w : World) (htab : Lib.TabIs Tryd.prog w "internal/strconv.uint64pow10" .u64 Lib.pow10Tab) :
    Calls Tryd.prog 112 #[.int .u64 u] w fun e w' => e = .returned (.int .i64 (Lib.nDigits u)) ∧ w' = w := Any.internal_strconv_numDigits Try.laysM284 u h1 h2 w htab
def Try.lays285_ren : Go.Shelf.Ren := ⟨fun | 285 => 113 | n => n, fun | 37 => 86 | 53 => 56 | 3 => 3 | 4 => 4 | 51 => 22 | 9 => 9 | 5 => 5 | 0 => 0 | n => n, fun | n => n⟩
theorem Try.lays285 : Go.Proofs.Lays.n285 Tryd.prog Try.lays285_ren := {
  mixed := by kernel_rfl
  f285 := Tryd.func113.trans (congrArg some (by kernel_rfl))
  t0 := Tryd.underlying0
  a0 := Tryd.isAgg0
  z0 := Tryd.sizeOf0
  v0 := Tryd.zeroValue0
  t3 := Tryd.underlying3
  a3 := Tryd.isAgg3
  z3 := Tryd.sizeOf3
  v3 := Tryd.zeroValue3
  t4 := Tryd.underlying4
  a4 := Tryd.isAgg4
  z4 := Tryd.sizeOf4
  v4 := Tryd.zeroValue4
  t5 := Tryd.underlying5
  a5 := Tryd.isAgg5
  z5 := Tryd.sizeOf5
  v5 := Tryd.zeroValue5
  t9 := Tryd.underlying9
  a9 := Tryd.isAgg9
  z9 := Tryd.sizeOf9
  v9 := Tryd.zeroValue9
  t37 := Tryd.underlying86
  a37 := Tryd.isAgg86
  z37 := Tryd.sizeOf86
  v37 := Tryd.zeroValue86
  t51 := Tryd.underlying22
  a51 := Tryd.isAgg22
  z51 := Tryd.sizeOf22
  v51 := Tryd.zeroValue22
  t53 := Tryd.underlying56
  a53 := Tryd.isAgg56
  z53 := Tryd.sizeOf56
  v53 := Tryd.zeroValue56 }
theorem Try.internal_strconv_formatBase10 (blk off cap : Nat) (u : Nat) (d : Array UInt8) (w : World) (hH : Holds (fun (b : UInt8) => Value.int .u8 (b.toNat : Int)) w blk off d) (hu : u < 10 ^ d.size) (hu64 : u < 18446744073709551616) (hsz : d.size < 4611686018427387904) :
    Calls Tryd.prog 113 #[.slice (some ⟨blk, off, none⟩) d.size cap, .int .u64 u] w fun e w' =>
      e = .returned (.tuple #[]) ∧ ∃ (n v' : Nat) (dk : Array UInt8), w' = (putRow (fun (b : UInt8) => Value.int .u8 (b.toNat : Int)) w blk off dk).drewN n ∧ FmtInv d.size u 0 v' dk := Any.internal_strconv_formatBase10 Try.lays285 blk off cap u d w hH hu hu64 hsz
def Try.laysPu14_ren : Go.Shelf.Ren := ⟨fun | 14 => 35 | 16 => 67 | 17 => 68 | 19 => 92 | 20 => 93 | 21 => 94 | 22 => 95 | 23 => 96 | 24 => 97 | 25 => 117 | 27 => 119 | 26 => 118 | 28 => 135 | 29 => 141 | 30 => 111 | 31 => 112 | 32 => 113 | 33 => 114 | 35 => 110 | 34 => 127 | 36 => 128 | 37 => 129 | 38 => 130 | 39 => 137 | 40 => 138 | n => n, fun | 9 => 9 | 3 => 3 | 22 => 56 | 24 => 58 | 25 => 59 | 4 => 4 | 34 => 127 | 5 => 5 | 36 => 61 | 37 => 86 | 0 => 0 | 39 => 129 | 21 => 21 | 44 => 147 | 47 => 132 | 50 => 169 | 48 => 167 | 2 => 2 | 52 => 142 | 55 => 144 | 59 => 160 | 60 => 22 | 20 => 20 | 61 => 161 | 65 => 176 | 66 => 177 | 67 => 113 | n => n, fun | 0 => 0 | 1 => 1 | 2 => 2 | 3 => 6 | 4 => 7 | n => n⟩
theorem Try.laysPu14 : Go.Proofs.LaysPu.n14 Tryd.prog Try.laysPu14_ren := {
  mixed := by kernel_rfl
  f14 := Tryd.func35.trans (congrArg some (by kernel_rfl))
  f16 := Tryd.func67.trans (congrArg some (by kernel_rfl))
  f17 := Tryd.func68.trans (congrArg some (by kernel_rfl))
  f19 := Tryd.func92.trans (congrArg some (by kernel_rfl))
  f20 := Tryd.func93.trans (congrArg some (by kernel_rfl))
  f21 := Tryd.func94.trans (congrArg some (by kernel_rfl))
  f22 := Tryd.func95.trans (congrArg some (by kernel_rfl))
  f23 := Tryd.func96.trans (congrArg some (by kernel_rfl))
  f24 := Tryd.func97.trans (congrArg some (by kernel_rfl))
  f25 := Tryd.func117.trans (congrArg some (by kernel_rfl))
  f26 := Tryd.func118.trans (congrArg some (by kernel_rfl))
  f27 := Tryd.func119.trans (congrArg some (by kernel_rfl))
  f28 := Tryd.func135.trans (congrArg some (by kernel_rfl))
  f29 := Tryd.func141.trans (congrArg some (by kernel_rfl))
  f30 := Tryd.func111.trans (congrArg some (by kernel_rfl))
  f31 := Tryd.func112.trans (congrArg some (by kernel_rfl))
  f32 := Tryd.func113.trans (congrArg some (by kernel_rfl))
  f33 := Tryd.func114.trans (congrArg some (by kernel_rfl))
  f34 := Tryd.func127.trans (congrArg some (by kernel_rfl))
  f35 := Tryd.func110.trans (congrArg some (by kernel_rfl))
  f36 := Tryd.func128.trans (congrArg some (by kernel_rfl))
  f37 := Tryd.func129.trans (congrArg some (by kernel_rfl))
  f38 := Tryd.func130.trans (congrArg some (by kernel_rfl))
  f39 := Tryd.func137.trans (congrArg some (by kernel_rfl))
  f40 := Tryd.func138.trans (congrArg some (by kernel_rfl))
  t0 := Tryd.underlying0
  a0 := Tryd.isAgg0
  z0 := Tryd.sizeOf0
  v0 := Tryd.zeroValue0
  i0 := by kernel_rfl
  t2 := Tryd.underlying2
  a2 := Tryd.isAgg2
  z2 := Tryd.sizeOf2
  v2 := Tryd.zeroValue2
  i2 := by kernel_rfl
  t3 := Tryd.underlying3
  a3 := Tryd.isAgg3
  z3 := Tryd.sizeOf3
  v3 := Tryd.zeroValue3
  i3 := by kernel_rfl
  t4 := Tryd.underlying4
  a4 := Tryd.isAgg4
  z4 := Tryd.sizeOf4
  v4 := Tryd.zeroValue4
  i4 := by kernel_rfl
  t5 := Tryd.underlying5
  a5 := Tryd.isAgg5
  z5 := Tryd.sizeOf5
  v5 := Tryd.zeroValue5
  i5 := by kernel_rfl
  t9 := Tryd.underlying9
  a9 := Tryd.isAgg9
  z9 := Tryd.sizeOf9
  v9 := Tryd.zeroValue9
  i9 := by kernel_rfl
  t20 := Tryd.underlying20
  a20 := Tryd.isAgg20
  z20 := Tryd.sizeOf20
  v20 := Tryd.zeroValue20
  i20 := by kernel_rfl
  t21 := Tryd.underlying21
  a21 := Tryd.isAgg21
  z21 := Tryd.sizeOf21
  v21 := Tryd.zeroValue21
  i21 := by kernel_rfl
  t22 := Tryd.underlying56
  a22 := Tryd.isAgg56
  z22 := Tryd.sizeOf56
  v22 := Tryd.zeroValue56
  i22 := by kernel_rfl
  t24 := Tryd.underlying58
  a24 := Tryd.isAgg58
  z24 := Tryd.sizeOf58
  v24 := Tryd.zeroValue58
  i24 := by kernel_rfl
  t25 := Tryd.underlying59
  a25 := Tryd.isAgg59
  z25 := Tryd.sizeOf59
  v25 := Tryd.zeroValue59
  i25 := by kernel_rfl
  t34 := Tryd.underlying127
  a34 := Tryd.isAgg127
  z34 := Tryd.sizeOf127
  v34 := Tryd.zeroValue127
  i34 := by kernel_rfl
  c34 := by kernel_rfl
  t36 := Tryd.underlying61
  a36 := Tryd.isAgg61
  z36 := Tryd.sizeOf61
  v36 := Tryd.zeroValue61
  i36 := by kernel_rfl
  t37 := Tryd.underlying86
  a37 := Tryd.isAgg86
  z37 := Tryd.sizeOf86
  v37 := Tryd.zeroValue86
  i37 := by kernel_rfl
  t39 := Tryd.underlying129
  a39 := Tryd.isAgg129
  z39 := Tryd.sizeOf129
  v39 := Tryd.zeroValue129
  i39 := by kernel_rfl
  t44 := Tryd.underlying147
  a44 := Tryd.isAgg147
  z44 := Tryd.sizeOf147
  v44 := Tryd.zeroValue147
  i44 := by kernel_rfl
  t47 := Tryd.underlying132
  a47 := Tryd.isAgg132
  z47 := Tryd.sizeOf132
  v47 := Tryd.zeroValue132
  i47 := by kernel_rfl
  t48 := Tryd.underlying167
  a48 := Tryd.isAgg167
  z48 := Tryd.sizeOf167
  v48 := Tryd.zeroValue167
  i48 := by kernel_rfl
  t50 := Tryd.underlying169
  a50 := Tryd.isAgg169
  z50 := Tryd.sizeOf169
  v50 := Tryd.zeroValue169
  i50 := by kernel_rfl
  t52 := Tryd.underlying142
  a52 := Tryd.isAgg142
  z52 := Tryd.sizeOf142
  v52 := Tryd.zeroValue142
  i52 := by kernel_rfl
  t55 := Tryd.underlying144
  a55 := Tryd.isAgg144
  z55 := Tryd.sizeOf144
  v55 := Tryd.zeroValue144
  i55 := by kernel_rfl
  t59 := Tryd.underlying160
  a59 := Tryd.isAgg160
  z59 := Tryd.sizeOf160
  v59 := Tryd.zeroValue160
  i59 := by kernel_rfl
  t60 := Tryd.underlying22
  a60 := Tryd.isAgg22
  z60 := Tryd.sizeOf22
  v60 := Tryd.zeroValue22
  i60 := by kernel_rfl
  t61 := Tryd.underlying161
  a61 := Tryd.isAgg161
  z61 := Tryd.sizeOf161
  t65 := Tryd.underlying176
  a65 := Tryd.isAgg176
  z65 := Tryd.sizeOf176
  v65 := Tryd.zeroValue176
  i65 := by kernel_rfl
  t66 := Tryd.underlying177
  a66 := Tryd.isAgg177
  z66 := Tryd.sizeOf177
  v66 := Tryd.zeroValue177
  i66 := by kernel_rfl
  t67 := Tryd.underlying113
  a67 := Tryd.isAgg113
  z67 := Tryd.sizeOf113
  v67 := Tryd.zeroValue113
  i67 := by kernel_rfl
  g0 := by kernel_rfl
  m0 := by kernel_rfl
  g1 := by kernel_rfl
  m1 := by kernel_rfl
  g2 := by kernel_rfl
  m2 := by kernel_rfl
  g3 := by kernel_rfl
  m3 := by kernel_rfl
  g4 := by kernel_rfl
  m4 := by kernel_rfl }
theorem Try.strconv_ParseUint_10_at8_ok (s : ByteArray) (hmax : s.size ≤ 9223372036854775806) (u : Nat) (h : Lib.parseUintB 8 s.data.toList = .ok u) (w : World) :
    Calls Tryd.prog 35 #[.string s, .int .i64 10, .int .i64 8] w fun e w' => e = .returned (.tuple #[.int .u64 u, .nilIface]) ∧ (w' = w ∨ w' = Lib.bytesWorld w 5 s) := Any.strconv_ParseUint_10_at8_ok Try.laysPu14 s hmax u h w
theorem Try.strconv_ParseUint_10_at8_syntax (s : ByteArray) (hlim : s.size ≤ 281474976710656) (h : Lib.parseUintB 8 s.data.toList = Lib.parseUintB 8 []) (ev : Value) (w : World) (hv : w.cell? ⟨0, 0, none⟩ = some ev) (hev : ev = .nilIface ∨ ∃ te pe, ev = .iface te pe) :
    Calls Tryd.prog 35 #[.string s, .int .i64 10, .int .i64 8] w fun e w' => ∃ N, e = .returned (.tuple #[.int .u64 0, .iface 129 (.pointer (some ⟨N, 0, none⟩))]) ∧ w.heap.size ≤ N ∧ w'.heap[N]? = some (.cells #[.string ⟨#[80, 97, 114, 115, 101, 85, 105, 110, 116]⟩, .string s, ev] 147 (0, 0)) ∧ Below w.heap.size w w' := Any.strconv_ParseUint_10_at8_syntax Try.laysPu14 s hlim h ev w hv hev
theorem Try.strconv_ParseUint_10_at8_range (s : ByteArray) (hlim : s.size ≤ 281474976710656) (h : Lib.parseUintB 8 s.data.toList = .range) (ev : Value) (w : World) (hv : w.cell? ⟨1, 0, none⟩ = some ev) (hev : ev = .nilIface ∨ ∃ te pe, ev = .iface te pe) :
    Calls Tryd.prog 35 #[.string s, .int .i64 10, .int .i64 8] w fun e w' => ∃ N, e = .returned (.tuple #[.int .u64 255, .iface 129 (.pointer (some ⟨N, 0, none⟩))]) ∧ w.heap.size ≤ N ∧ w'.heap[N]? = some (.cells #[.string ⟨#[80, 97, 114, 115, 101, 85, 105, 110, 116]⟩, .string s, ev] 147 (0, 0)) ∧ Below w.heap.size w w' := Any.strconv_ParseUint_10_at8_range Try.laysPu14 s hlim h ev w hv hev
def Try.lays143_ren : Go.Shelf.Ren := ⟨fun | 143 => 91 | 219 => 115 | 217 => 131 | 225 => 132 | 224 => 133 | 267 => 134 | 266 => 139 | 314 => 140 | n => n, fun | 9 => 9 | 3 => 3 | 4 => 4 | 5 => 5 | 46 => 61 | 146 => 173 | 51 => 22 | n => n, fun | 1 => 3 | n => n⟩
theorem Try.lays143 : Go.Proofs.Lays.n143 Tryd.prog Try.lays143_ren := {
  mixed := by kernel_rfl
  f143 := Tryd.func91.trans (congrArg some (by kernel_rfl))
  f217 := Tryd.func131.trans (congrArg some (by kernel_rfl))
  f219 := Tryd.func115.trans (congrArg some (by kernel_rfl))
  f224 := Tryd.func133.trans (congrArg some (by kernel_rfl))
  f225 := Tryd.func132.trans (congrArg some (by kernel_rfl))
  f266 := Tryd.func139.trans (congrArg some (by kernel_rfl))
  f267 := Tryd.func134.trans (congrArg some (by kernel_rfl))
  f314 := Tryd.func140.trans (congrArg some (by kernel_rfl))
  t3 := Tryd.underlying3
  a3 := Tryd.isAgg3
  z3 := Tryd.sizeOf3
  v3 := Tryd.zeroValue3
  t4 := Tryd.underlying4
  a4 := Tryd.isAgg4
  z4 := Tryd.sizeOf4
  v4 := Tryd.zeroValue4
  t5 := Tryd.underlying5
  a5 := Tryd.isAgg5
  z5 := Tryd.sizeOf5
  v5 := Tryd.zeroValue5
  t9 := Tryd.underlying9
  a9 := Tryd.isAgg9
  z9 := Tryd.sizeOf9
  v9 := Tryd.zeroValue9
  t46 := Tryd.underlying61
  a46 := Tryd.isAgg61
  z46 := Tryd.sizeOf61
  v46 := Tryd.zeroValue61
  t51 := Tryd.underlying22
  a51 := Tryd.isAgg22
  z51 := Tryd.sizeOf22
  v51 := Tryd.zeroValue22
  t146 := Tryd.underlying173
  a146 := Tryd.isAgg173
  z146 := Tryd.sizeOf173
  v146 := Tryd.zeroValue173
  g1 := by kernel_rfl }
theorem Try.strings_Index_one (s : ByteArray) (c : UInt8) (w : World) :
    Calls Tryd.prog 91 #[.string s, .string ⟨#[c]⟩] w fun e w' => e = .returned (.int .i64 (Lib.indexByte s.data.toList c)) ∧ w' = w := Any.strings_Index_one Try.lays143 s c w
end Go.Proofs
namespace Go.Proofs.YtjeihmchcfadlaaDoor
open Go Go.Eng
/-- How many bytes the name has with which s begins from k on; 0: there is none. -/
def firstF (s : List UInt8) : Nat → Nat → Nat
  | 0, _ => 0
  | m + 1, k => if k < s.length ∧ k < 255 then (if bt s k = 0 then (if isName (s.take (k + 1)) then k + 1 else 0) else firstF s m (k + 1 + bt s k)) else 0
def firstN (s : List UInt8) : Nat := firstF s 256 0
def FAt (s : List UInt8) (k : Nat) : Prop := k ≤ 510 ∧ ∃ m, 256 ≤ k + m ∧ firstF s m k = firstN s
theorem FAt.zero (s : List UInt8) : FAt s 0 := ⟨by omega, 256, by omega, rfl⟩
theorem FAt.step {s : List UInt8} {k : Nat} (h : FAt s k) (h1 : k < s.length) (h2 : k < 255) : (firstN s = if bt s k = 0 then (if isName (s.take (k + 1)) then k + 1 else 0) else firstN s) ∧ (bt s k ≠ 0 → FAt s (k + 1 + bt s k)) := by
  obtain ⟨hk, m, hm, e⟩ := h
  cases m with
  | zero => omega
  | succ m =>
    simp only [firstF, h1, h2, and_self, if_true] at e
    have := bt_lt s k
    refine ⟨?_, fun hb => ⟨by omega, m, by omega, ?_⟩⟩
    · split
      · rename_i hb; rw [if_pos hb] at e; exact e.symm
      · rfl
    · rw [if_neg hb] at e; exact e
theorem FAt.last {s : List UInt8} {k : Nat} (h : FAt s k) (h1 : ¬ (k < s.length ∧ k < 255)) : firstN s = 0 := by
  obtain ⟨hk, m, hm, e⟩ := h
  rw [← e]
  cases m with
  | zero => rfl
  | succ m => simp only [firstF, if_neg h1]
theorem brT {b : Bool} {p q : Prop} (h : b = true) (hp : p) : (b = true → p) ∧ (b = false → q) := ⟨fun _ => hp, fun e => (by rw [h] at e; cases e)⟩
theorem brF {b : Bool} {p q : Prop} (h : b = false) (hq : q) : (b = true → p) ∧ (b = false → q) := ⟨fun e => (by rw [h] at e; cases e), fun _ => hq⟩
set_option maxRecDepth 100000
/-- A row of texts. -/
def strs (l : List (List UInt8)) (i : Nat) : List DV := [.str (l[i]?.getD [])]
theorem strs_cat (l : List (List UInt8)) (x : List UInt8) (g : Nat → List DV) (hg : g 0 = [.str x]) : ∀ i, i < l.length + 1 → catF l.length (strs l) g i = strs (l ++ [x]) i := fun i hi => by
  unfold catF strs
  split
  · rename_i h; rw [List.getElem?_append_left h]
  · rename_i h
    have : i = l.length := by omega
    subst this
    simp [hg]
theorem DEq_refl (x : DV) : DEq x x := by
  cases x <;> simp [DEq]
theorem firstF_le (s : List UInt8) : ∀ m k, firstF s m k ≤ s.length ∧ firstF s m k ≤ 255 := by
  intro m
  induction m with
  | zero => intro k; simp [firstF]
  | succ m ih =>
    intro k
    simp only [firstF]
    split
    · split
      · split
        · omega
        · omega
      · exact ih _
    · omega
theorem firstN_le (s : List UInt8) : firstN s ≤ s.length ∧ firstN s ≤ 255 := firstF_le s _ _
def errno (b : Bool) : Int := if b then 0 else 2
theorem lenEq (s : List UInt8) (n : Nat) : ((s.length : Int) == (n : Int)) = (s.length == n) := by
  rw [Bool.eq_iff_iff]; simp; omega
end Go.Proofs.YtjeihmchcfadlaaDoor
namespace Go.Proofs.YtjeihmchcfadlaaDoor
open Go Go.Eng
def bytesF (s : List UInt8) : Nat → List DV := fun j => [.int .u8 (byteAt s j)]
def restsM : List (List UInt8 × Int) → List (List DV × List SV)
  | [] => []
  | e :: l => ([.str e.1], [.d (.int .i64 e.2)]) :: restsM l
theorem renM_rests (ρ : List Nat) (l : List (List UInt8 × Int)) : renM ρ (restsM l) = restsM l := by
  induction l with
  | nil => rfl
  | cons e l ih => simp [restsM, renM, renL, renV, ih]
theorem byteAt_cat (a b : List UInt8) (i : Nat) (h : i < a.length + b.length) : catF a.length (bytesF a) (fun j => [.int .u8 (byteAt b j)]) i = bytesF (a ++ b) i := by
  unfold catF bytesF byteAt
  split
  · rename_i hl
    simp [List.getElem?_append_left hl]
  · rename_i hl
    simp [List.getElem?_append_right (show a.length ≤ i by omega)]
def boolD (b : Bool) : SV := .d (if b then .tt else .ff)
set_option maxRecDepth 100000
theorem bytesOf_bytesF (s : List UInt8) : bytesOf s.length (bytesF s) = s := by
  apply List.ext_getElem?
  intro i
  unfold bytesOf
  rw [List.getElem?_map]
  by_cases h : i < s.length
  · rw [List.getElem?_range h, List.getElem?_eq_getElem h]
    simp [bytesF, byteAt, h]
  · rw [List.getElem?_eq_none (by simp; omega), List.getElem?_eq_none (by omega)]
    rfl
end Go.Proofs.YtjeihmchcfadlaaDoor
namespace Go.Proofs.YtjeihmchcfadlaaDoor
open Go Go.Eng
theorem rd_slice {w : World} {M : Nat → Prop} {b : Bool} {n sz : Nat} {f : Nat → List DV} {v : Value} (h : Rd w M (.sl b n sz f) v) : (n = 0 ∧ v = .slice none 0 0) ∨ ∃ (ad : Addr) (cap : Nat) (u : Nat → Nat → Value), v = .slice (some ad) n cap ∧ n ≤ cap ∧
    (0 < n → ad.block < w.heap.size ∧ ¬ M ad.block) ∧ (∀ (i j : Nat) (d : DV), i < n → (f i)[j]? = some d → w.cell? (ad.add (i * sz + j)) = some (u i j)) ∧ (∀ (i j : Nat) (d : DV), i < n → (f i)[j]? = some d → Rd w M d (u i j)) := by
  cases h with
  | nil => exact .inl ⟨rfl, rfl⟩
  | sl _ _ _ ad cap u g1 g3 g4 g5 g6 => exact .inr ⟨ad, cap, u, rfl, g1, g3, g5, g6⟩
/-- strings.Join of texts. -/
theorem join_ok (b : Bool) (l : List (List UInt8)) (sep : List UInt8) (hn : l.length ≤ 140737488355328) (hj : (Lib.join l sep).length ≤ 140737488355328) : FnOk Tryd.prog 39 [.d (.sl b l.length 1 (strs l)), .d (.str sep)] (.d (.str (Lib.join l sep))) := by
  refine ⟨enters Tryd.func39 (by kernel_rfl) rfl, fun M w vs _ hM hl hd => ?_⟩
  match vs, hl with
  | [v0, v1], _ =>
    have h0 := den_data (hd 0 _ v0 rfl rfl)
    have h1 := den_str (hd 1 _ v1 rfl rfl)
    subst h1
    rcases rd_slice h0 with ⟨hl0, rfl⟩ | ⟨ad, cap, u, rfl, g1, g3, g5, g6⟩
    · have : l = [] := List.eq_nil_of_length_eq_zero hl0
      subst this
      refine (Try.strings_Join_none none 0 ⟨sep.toArray⟩ w).mono ?_
      rintro e w' ⟨rfl, rfl⟩
      exact ⟨_, rfl, Step.refl _ _, .d (.str _)⟩
    · by_cases hz : l = []
      · subst hz
        refine (Try.strings_Join_none (some ad) cap ⟨sep.toArray⟩ w).mono ?_
        rintro e w' ⟨rfl, rfl⟩
        exact ⟨_, rfl, Step.refl _ _, .d (.str _)⟩
      · have hpos : 0 < l.length := List.length_pos_iff.2 hz
        obtain ⟨hb, _⟩ := g3 hpos
        have hu : ∀ i, i < l.length → u i 0 = strV (l[i]?.getD []) := fun i hi => by
          have := g6 i 0 (.str (l[i]?.getD [])) hi rfl
          exact den_str (β := noE) (.d this)
        have hc0 := g5 0 0 (.str (l[0]?.getD [])) hpos rfl
        have hspot : ad.spot = none := by
          rw [show ad.add (0 * 1 + 0) = ad from rfl] at hc0
          unfold World.cell? at hc0
          split at hc0
          · cases hs : ad.spot with
            | none => rfl
            | some _ => simp [hs] at hc0
          · cases hc0
        obtain ⟨bk, o, sp⟩ := ad
        simp only at hspot hb
        subst hspot
        have := Try.strings_Join bk o cap (l.map fun x => ⟨x.toArray⟩) ⟨sep.toArray⟩ w (fun j x hx => by
          rw [List.getElem?_map, Option.map_eq_some_iff] at hx
          obtain ⟨y, hy, rfl⟩ := hx
          have hj : j < l.length := (List.getElem?_eq_some_iff.1 hy).1
          have h5 := g5 j 0 (.str (l[j]?.getD [])) hj rfl
          rw [hu j hj, add_lit0, hy] at h5
          simpa [strV] using h5) hb (by simpa using hn) (by simpa using g1) (by
            simp only [List.map_map, Function.comp_def, List.toList_toArray, List.map_id']
            exact hj)
        simp only [List.length_map, List.map_map, Function.comp_def, List.toList_toArray, List.map_id'] at this
        refine this.mono ?_
        rintro e w' ⟨rfl, hw⟩
        exact ⟨_, rfl, Step.of_below _ hw, .d (.str _)⟩
end Go.Proofs.YtjeihmchcfadlaaDoor
namespace Go.Proofs.YtjeihmchcfadlaaDoor
open Go Go.Eng
set_option maxRecDepth 100000
theorem lays240 : Go.Proofs.Lays.n240 Tryd.prog Try.lays156_ren := by
  have L := Try.lays156
  exact { mixed := L.mixed, f240 := L.f240, f276 := L.f276, t0 := L.t0, a0 := L.a0, z0 := L.z0, v0 := L.v0, t4 := L.t4, a4 := L.a4, z4 := L.z4, v4 := L.v4, t9 := L.t9, a9 := L.a9, z9 := L.z9, v9 := L.v9, t20 := L.t20, a20 := L.a20, z20 := L.z20, v20 := L.v20, t70 := L.t70, a70 := L.a70, z70 := L.z70, v70 := L.v70, t72 := L.t72, a72 := L.a72, z72 := L.z72, v72 := L.v72, t164 := L.t164, a164 := L.a164, z164 := L.z164, v164 := L.v164 }
theorem setCell_eq {w : World} {b : Nat} {vs : Array Value} {e : TypeId} {fz : Nat × Nat} (h : w.heap[b]? = some (.cells vs e fz)) (off : Nat) (v : Value) :
    w.setCell ⟨b, off, none⟩ v = World.setBlock w b (.cells (vs.setIfInBounds off v) e fz) := by
  unfold World.setCell World.setBlock
  congr 1
  apply Array.ext_getElem?
  intro j
  have hb : b < w.heap.size := lt_of_block h
  rw [Array.getElem?_modify, Array.getElem?_setIfInBounds]
  by_cases e1 : b = j
  · subst e1
    rw [if_pos rfl, if_pos rfl, if_pos hb, h]
    rfl
  · rw [if_neg e1, if_neg e1]
theorem chk_fresh (s : SV) : COk Tryd.prog 98 [.ptr 0 0] [.cells 109 [.v (.pointer none), s]] (fun r k => r = .tup [] ∧ k = [.cells 109 [.ptr 0 0, s]]) := by
  refine ⟨enters Tryd.func98 (by kernel_rfl) rfl, fun X w β fp vs hM hl hd => ?_⟩
  match vs, hl with
  | [v0], _ =>
    have h0 := hd 0 _ v0 rfl rfl
    cases h0 with
    | ptr _ _ L hL =>
      have hb := hM.at (i := 0) rfl (by simp) hL
      cases hb with
      | cells _ _ us hfp hblk hlen hden h1 =>
        have hsz : us.size = 2 := by simpa using hlen.symm
        have hu0 : us[0]? = some (.pointer none) := by
          have hlt : 0 < us.size := by omega
          have hx := hden 0 _ us[0] rfl (by simp [hlt])
          have hy : us[0] = .pointer none := by
            generalize us[0] = x at hx
            cases hx
            rfl
          rw [Array.getElem?_eq_getElem hlt, hy]
        have hc0 : w.cell? ⟨L.b, 0, none⟩ = some (.pointer none) := by simp [World.cell?, hblk, hu0]
        have hsh : w.shape? L.b = some (109, 2) := by simp [World.shape?, hblk, hsz]
        have hfz : w.frozen? ⟨L.b, 0, none⟩ = false := by simp [World.frozen?, hblk]
        refine (Any.Builder_copyCheck_fresh lays240 Try.Builder_Extra_156.toX72 L.b w hc0 hsh hfz).mono ?_
        rintro e w' ⟨rfl, rfl⟩
        have hset : w.setCell ⟨L.b, 0, none⟩ (.pointer (some ⟨L.b, 0, none⟩)) = World.setBlock w L.b (.cells (us.setIfInBounds 0 (.pointer (some ⟨L.b, 0, none⟩))) 109 (0, 0)) := setCell_eq hblk _ _
        rw [hset]
        have W := hM.store (i := 0) (l' := [.ptr 0 0, s]) (vs' := us.setIfInBounds 0 (.pointer (some ⟨L.b, 0, none⟩))) rfl hL hfp hblk (by simpa using hlen) (fun j s' u hj hu => by
          rw [Array.getElem?_setIfInBounds] at hu
          match j with
          | 0 =>
            injection hj with hj
            subst hj
            rw [if_pos rfl] at hu
            split at hu
            · injection hu with hu
              subst hu
              exact .ptr 0 0 L hL
            · cases hu
          | j + 1 =>
            rw [if_neg (by omega)] at hu
            exact hden (j + 1) s' u hj hu) (fun j u hu => by
          rw [Array.getElem?_setIfInBounds] at hu
          split at hu
          · split at hu
            · injection hu with hu
              subst hu
              rfl
            · cases hu
          · exact h1 j u hu)
        exact ⟨_, .tup [], _, _, _, rfl, ⟨rfl, rfl⟩, W, .tup _ _ rfl (fun j s' u hj _ => by simp at hj)⟩
theorem chk_used (s : SV) (rest : List KB) : COk Tryd.prog 98 [.ptr 0 0] (.cells 109 [.ptr 0 0, s] :: rest) (fun r k => r = .tup [] ∧ k = .cells 109 [.ptr 0 0, s] :: rest) := by
  refine ⟨enters Tryd.func98 (by kernel_rfl) rfl, fun X w β fp vs hM hl hd => ?_⟩
  match vs, hl with
  | [v0], _ =>
    have h0 := hd 0 _ v0 rfl rfl
    cases h0 with
    | ptr _ _ L hL =>
      have hb := hM.at (i := 0) rfl (by simp) hL
      cases hb with
      | cells _ _ us hfp hblk hlen hden h1 =>
        have hsz : us.size = 2 := by simpa using hlen.symm
        have hu0 : us[0]? = some (.pointer (some ⟨L.b, 0, none⟩)) := by
          have hlt : 0 < us.size := by omega
          have hx := hden 0 _ us[0] rfl (by simp [hlt])
          have hy : us[0] = .pointer (some ⟨L.b, 0, none⟩) := by
            generalize us[0] = x at hx
            cases hx with
            | ptr _ _ L' hL' =>
              rw [hL] at hL'
              cases hL'
              rfl
          rw [Array.getElem?_eq_getElem hlt, hy]
        have hc0 : w.cell? ⟨L.b, 0, none⟩ = some (.pointer (some ⟨L.b, 0, none⟩)) := by simp [World.cell?, hblk, hu0]
        refine (Any.Builder_copyCheck_used lays240 Try.Builder_Extra_156.toX72 L.b w hc0).mono ?_
        rintro e w' ⟨rfl, rfl⟩
        exact ⟨_, .tup [], _, _, _, rfl, ⟨rfl, rfl⟩, Went.refl hM, .tup _ _ rfl (fun j s' u hj _ => by simp at hj)⟩
theorem pk1 {X : Nat → Prop} {w : World} {β : Env} {fp : Nat → Nat → Prop} {k : KB} (h : Mem X w β fp [k]) : Mem X w β fp [pk [k]] := by
  have h0 : ∀ i b, fp i b → i = 0 := fun i b hb => by
    obtain ⟨L, hL⟩ := h.kn i b hb
    cases i with
    | zero => rfl
    | succ i => rw [h.kl (i + 1) (by simp)] at hL; cases hL
  refine ⟨⟨h.xa, h.xb, h.dis, h.kw, h.kn, fun i L k' hk hne hL => ?_⟩, h.kl, fun i t dom cols hi => ?_, h.vo.sub (fun i b hb => ⟨i, hb⟩)⟩
  · cases i with
    | succ i => simp at hk
    | zero =>
      simp only [List.getElem?_cons_zero, Option.some.injEq] at hk
      subst hk
      exact .obj _ (packed_stable [k]) ⟨β, fp, hL, h.kl, fun x => ⟨fun e => ⟨0, e⟩, fun ⟨j, e⟩ => by rw [h0 j x e] at e; exact e⟩, h.dis, h.kn, h.ka, fun i L k hk hne hL => h.kb i L k hk hne hL⟩
  · cases i with
    | zero => simp [pk] at hi
    | succ i => simp at hi
/-- A single block as a thing, at the begin. -/
theorem packIn {P : Program} {f : FuncId} {al : List SV} {k : KB} {R : SV → List KB → Prop} (h : COk P f al [pk [k]] R) : COk P f al [k] R :=
  ⟨h.1, fun X w β fp vs hM hl hd => h.2 X w β fp vs (pk1 hM) hl hd⟩
/-- A builder: fresh, written to, or at its end. -/
inductive Bst where
  | fresh
  | live (s : List UInt8)
  | dead
def Bst.fl : Bst → List KB
  | .fresh => [.cells 109 [.v (.pointer none), nilS]]
  | .live s => [.cells 109 [.ptr 0 0, .all 1], .row 5 1 s.length .iff (fun j => [.int .u8 (byteAt s j)])]
  | .dead => [.cells 109 [.ptr 0 0, .any]]
set_option maxRecDepth 100000 in
theorem bw0_ok (s : List UInt8) (hs : s.length ≤ 70368744177664) : COk Tryd.prog 71 [.ptr 0 0, .d (.str s)] [pk (Bst.fl .fresh)] (fun r k => ∃ b1, k = [pk (Bst.fl b1)] ∧ (r = .tup [.d (.int .i64 s.length), .v .nilIface] ∧ b1 = .live s)) := by
  refine COk.toThing Bst.fl (pOk_of_run (TT := TT) (IN := lookI []) TT_ok INok_nil mixed 1000 Tryd.func71 rfl (enters Tryd.func71 (by kernel_rfl) rfl) 17 (by kernel_rfl) rfl ?_ ?_)
  · rintro r l ⟨w1, _, rfl, _⟩
    rfl
  conv => whnf
  refine .rel _ (chk_fresh _) (fun x ks' hR => ?_)
  obtain ⟨rfl, rfl⟩ := hR
  conv => whnf
  refine ⟨by omega, ?_⟩
  conv => whnf
  refine ⟨[0, 1], .tup [.d (.int .i64 s.length), .v .nilIface], Bst.fl (.live s), rfl, rfl, rfl, ?_, _, rfl, rfl, rfl⟩
  repeat' (first | exact True.intro | exact rfl | exact fun _ => Iff.rfl | exact fun _ _ => rfl | exact renM_rests _ _ | exact (List.length_append ..).symm | exact byteAt_cat _ _ | refine And.intro ?_ ?_)
set_option maxRecDepth 100000 in
theorem bw1_ok (b s : List UInt8) (hs : b.length + s.length ≤ 70368744177664) : COk Tryd.prog 71 [.ptr 0 0, .d (.str s)] [pk (Bst.fl (.live b))] (fun r k => ∃ b1, k = [pk (Bst.fl b1)] ∧ (r = .tup [.d (.int .i64 s.length), .v .nilIface] ∧ b1 = .live (b ++ s))) := by
  refine COk.toThing Bst.fl (pOk_of_run (TT := TT) (IN := lookI []) TT_ok INok_nil mixed 1000 Tryd.func71 rfl (enters Tryd.func71 (by kernel_rfl) rfl) 17 (by kernel_rfl) rfl ?_ ?_)
  · rintro r l ⟨w1, _, rfl, _⟩
    rfl
  conv => whnf
  refine .rel _ (chk_used _ _) (fun x ks' hR => ?_)
  obtain ⟨rfl, rfl⟩ := hR
  conv => whnf
  refine ⟨by omega, ?_⟩
  conv => whnf
  refine ⟨[0, 2], .tup [.d (.int .i64 s.length), .v .nilIface], Bst.fl (.live (b ++ s)), rfl, rfl, rfl, ?_, _, rfl, rfl, rfl⟩
  repeat' (first | exact True.intro | exact rfl | exact fun _ => Iff.rfl | exact fun _ _ => rfl | exact renM_rests _ _ | exact (List.length_append ..).symm | exact byteAt_cat _ _ | refine And.intro ?_ ?_)
set_option maxRecDepth 100000 in
theorem bs_ok (s : List UInt8) (hs : s.length ≤ 70368744177664) : COk Tryd.prog 72 [.ptr 0 0] [pk (Bst.fl (.live s))] (fun r k => ∃ b1, k = [pk (Bst.fl b1)] ∧ (r = .d (.str s) ∧ b1 = .dead)) := by
  refine COk.toThing Bst.fl (pOk_of_run (TT := TT) (IN := lookI []) TT_ok INok_nil mixed 1000 Tryd.func72 rfl (enters Tryd.func72 (by kernel_rfl) rfl) 13 (by kernel_rfl) rfl ?_ ?_)
  · rintro r l ⟨w1, _, rfl, _⟩
    rfl
  cases s with
  | nil =>
    conv => whnf
    refine ⟨rfl, ?_⟩
    conv => whnf
    refine ⟨[0], .d (.str []), Bst.fl .dead, rfl, rfl, rfl, ?_, _, rfl, rfl, rfl⟩
    repeat' (first | exact True.intro | exact rfl | exact fun _ => Iff.rfl | exact fun _ _ => rfl | exact renM_rests _ _ | exact (List.length_append ..).symm | exact byteAt_cat _ _ | refine And.intro ?_ ?_)
  | cons a s =>
    conv => whnf
    refine ⟨Nat.succ_le_succ (Nat.zero_le _), ?_⟩
    conv => whnf
    have hb : bytesOf (a :: s).length (fun j => [.int .u8 (byteAt (a :: s) j)]) = a :: s := bytesOf_bytesF (a :: s)
    refine ⟨⟨rfl, by omega, fun i _ => ⟨((a :: s)[i]?).getD 0, rfl⟩⟩, ?_⟩
    rw [hb]
    conv => whnf
    refine ⟨[0], .d (.str (a :: s)), Bst.fl .dead, rfl, rfl, rfl, ?_, _, rfl, rfl, rfl⟩
    repeat' (first | exact True.intro | exact rfl | exact fun _ => Iff.rfl | exact fun _ _ => rfl | exact renM_rests _ _ | exact (List.length_append ..).symm | exact byteAt_cat _ _ | refine And.intro ?_ ?_)
end Go.Proofs.YtjeihmchcfadlaaDoor
namespace Go.Proofs.YtjeihmchcfadlaaDoor
open Go Go.Eng
/-- Alike, or anything. -/
def AnL : List SV → List SV → Prop
  | [], [] => True
  | a :: l, b :: m => (b = .any ∨ a = b) ∧ AnL l m
  | _, _ => False
theorem AnL.len : ∀ {l m : List SV}, AnL l m → l.length = m.length
  | [], [], _ => rfl
  | _ :: _, _ :: _, h => congrArg (· + 1) (AnL.len h.2)
theorem AnL.at : ∀ {l m : List SV}, AnL l m → ∀ (j : Nat) (s t : SV), l[j]? = some s → m[j]? = some t → t = .any ∨ s = t
  | [], [], _, _, _, _, ht, _ => by simp at ht
  | _ :: _, _ :: _, h, 0, s, t, hs, ht => by simp at hs ht; subst hs ht; exact h.1
  | _ :: l, _ :: m, h, j + 1, s, t, hs, ht => AnL.at (l := l) (m := m) h.2 j s t (by simpa using hs) (by simpa using ht)
theorem COk.anyA {P : Program} {f : FuncId} {args args' : List SV} {ks : List KB} {R : SV → List KB → Prop} (h : COk P f args ks R) (hc : AnL args' args) : COk P f args' ks R :=
  ⟨h.1, fun X w β fp vs hM hl hd => h.2 X w β fp vs hM (by rw [← hc.len, hl]) (fun j s u hs hu => by
    have hj : j < args'.length := by rw [hc.len]; exact (List.getElem?_eq_some_iff.1 hs).1
    have hb := hd j _ u (List.getElem?_eq_getElem hj) hu
    rcases hc.at j _ s (List.getElem?_eq_getElem hj) hs with e | e
    · subst e; exact .any u
    · rw [← e]; exact hb)⟩
theorem subZ_self {n : Nat} (z : Z) : SubZ n z z := by cases z <;> exact True.intro
def iV (x : Nat) : SV := .d (.int .i64 (x : Int))
end Go.Proofs.YtjeihmchcfadlaaDoor
namespace Go.Proofs.YtjeihmchcfadlaaDoor
open Go Go.Eng
def labs : List (List UInt8) → List UInt8
  | [] => []
  | l :: ls => lab l ++ labs ls
theorem labs_append (a b : List (List UInt8)) : labs (a ++ b) = labs a ++ labs b := by
  induction a with
  | nil => rfl
  | cons l a ih => simp [labs, ih]
theorem labs_mk (a : List (List UInt8)) : labs a ++ [0] = mk a := by
  induction a with
  | nil => rfl
  | cons l a ih => simp [labs, mk, ← ih]
theorem labs_no (a : List (List UInt8)) (ha : ∀ l ∈ a, okL l) : ∀ b, (∀ l ∈ b, okL l) → labs a ≠ mk b := by
  induction a with
  | nil =>
    intro b _ h
    have := mk_pos b
    rw [← h] at this
    simp [labs] at this
  | cons l a ih =>
    intro b hb h
    have hl := ha l (List.mem_cons_self ..)
    have h1 : bt (labs (l :: a)) 0 = l.length := bt_lab l (labs a) hl
    cases b with
    | nil =>
      rw [h] at h1
      have h2 := hl.1
      have : (0 : Nat) = l.length := h1
      omega
    | cons k b =>
      have hk := hb k (List.mem_cons_self ..)
      have h2 : bt (mk (k :: b)) 0 = k.length := bt_lab k (mk b) hk
      rw [h] at h1
      have hlen : l.length = k.length := by rw [← h1, h2]
      have := congrArg (List.drop (1 + l.length)) h
      rw [show labs (l :: a) = lab l ++ labs a from rfl, drop_lab, hlen, show mk (k :: b) = lab k ++ mk b from rfl, drop_lab] at this
      exact ih (fun x hx => ha x (List.mem_cons_of_mem _ hx)) b (fun x hx => hb x (List.mem_cons_of_mem _ hx)) this
theorem labs_notName (a : List (List UInt8)) (ha : ∀ l ∈ a, okL l) : ¬ isName (labs a) := fun h => by
  obtain ⟨_, ls, h1, h2⟩ := (isName_iff _).1 h
  exact labs_no a ha ls h1 h2
theorem labs_snoc (ls : List (List UInt8)) (l : List UInt8) : labs (ls ++ [l]) = labs ls ++ lab l := by
  rw [labs_append]
  simp [labs]
theorem firstF_name (s : List UInt8) : ∀ m k, firstF s m k ≠ 0 → isName (s.take (firstF s m k)) := by
  intro m
  induction m with
  | zero => intro k h; exact absurd rfl h
  | succ m ih =>
    intro k h
    simp only [firstF] at h ⊢
    split at h
    · rename_i h1
      rw [if_pos h1]
      split at h
      · rename_i h2
        rw [if_pos h2]
        split at h
        · rename_i h3
          rw [if_pos h3]
          exact h3
        · exact absurd rfl h
      · rename_i h2
        rw [if_neg h2]
        exact ih _ h
    · exact absurd rfl h
end Go.Proofs.YtjeihmchcfadlaaDoor
namespace Go.Proofs.YtjeihmchcfadlaaDoor
open Go Go.Eng
/-- Labels, out of bytes. -/
def splitN : Nat → List UInt8 → Option (List (List UInt8))
  | 0, _ => none
  | m + 1, r => if r.length = 0 then none else if bt r 0 = 0 then (if r.length = 1 then some [] else none) else
      if bt r 0 > 63 ∨ 1 + bt r 0 > r.length then none else (splitN m (r.drop (1 + bt r 0))).map (fun ls => (r.drop 1).take (bt r 0) :: ls)
def labelsOf (s : List UInt8) : Option (List (List UInt8)) := if s.length > 255 then none else splitN (s.length + 1) s
theorem mk_len_cons0 (l : List UInt8) (ls : List (List UInt8)) : (mk (l :: ls)).length = 1 + l.length + (mk ls).length := by simp [mk, lab_len]
/-- What is split is a name. -/
theorem splitN_mk : ∀ (m : Nat) (r : List UInt8) (ls : List (List UInt8)), splitN m r = some ls → (∀ l ∈ ls, okL l) ∧ r = mk ls
  | 0, _, _, h => by cases h
  | m + 1, r, ls, h => by
    unfold splitN at h
    split at h
    · cases h
    · rename_i h0
      split at h
      · rename_i h1
        split at h
        · rename_i h2
          cases h
          refine ⟨fun l hl => (by cases hl), ?_⟩
          match r, h2 with
          | [b], _ =>
            have : b.toNat = 0 := by simpa [bt] using h1
            rw [mk, UInt8.toNat_inj.1 (show b.toNat = (0 : UInt8).toNat from this)]
        · cases h
      · rename_i h1
        split at h
        · cases h
        · rename_i h2
          obtain ⟨ks, hk, rfl⟩ := Option.map_eq_some_iff.1 h
          obtain ⟨a1, a2⟩ := splitN_mk m _ ks hk
          have hlen : ((r.drop 1).take (bt r 0)).length = bt r 0 := by simp; omega
          refine ⟨fun l hl => ?_, ?_⟩
          · rcases List.mem_cons.1 hl with rfl | hl
            · unfold okL; omega
            · exact a1 l hl
          · rw [mk, ← a2]
            unfold lab
            rw [hlen]
            match r, h0 with
            | b :: r, _ =>
              have e : bt (b :: r) 0 = b.toNat := by simp [bt]
              rw [e]
              simp [show 1 + b.toNat = b.toNat + 1 by omega]
theorem splitN_of : ∀ (ls : List (List UInt8)) (m : Nat), (∀ l ∈ ls, okL l) → (mk ls).length ≤ m → splitN m (mk ls) = some ls
  | [], m, _, hm => by
    cases m with
    | zero => have : (mk []).length = 1 := rfl
              omega
    | succ m => rfl
  | l :: ls, m, h, hm => by
    have hl := h l (List.mem_cons_self ..)
    have hlen := mk_len_cons0 l ls
    have hp := mk_pos ls
    cases m with
    | zero => omega
    | succ m =>
      have hb : bt (mk (l :: ls)) 0 = l.length := bt_lab l (mk ls) hl
      have h1 := hl.1
      have h2 := hl.2
      unfold splitN
      rw [if_neg (by omega), hb, if_neg (by omega), if_neg (by omega)]
      have hd : (mk (l :: ls)).drop (1 + l.length) = mk ls := drop_lab l (mk ls)
      rw [hd, splitN_of ls m (fun x hx => h x (List.mem_cons_of_mem _ hx)) (by omega)]
      show some ((((mk (l :: ls)).drop 1).take l.length) :: ls) = _
      have : ((mk (l :: ls)).drop 1) = l ++ mk ls := rfl
      rw [this, List.take_left]
theorem labelsOf_mk {s : List UInt8} {ls : List (List UInt8)} (h : labelsOf s = some ls) : s.length ≤ 255 ∧ (∀ l ∈ ls, okL l) ∧ s = mk ls := by
  unfold labelsOf at h
  split at h
  · cases h
  · exact ⟨by omega, splitN_mk _ _ _ h⟩
theorem labelsOf_of {ls : List (List UInt8)} (h : ∀ l ∈ ls, okL l) (hl : (mk ls).length ≤ 255) : labelsOf (mk ls) = some ls := by
  unfold labelsOf
  rw [if_neg (by omega)]
  exact splitN_of ls _ h (by omega)
theorem isName_labels (s : List UInt8) : isName s ↔ (labelsOf s).isSome = true := by
  rw [isName_iff]
  constructor
  · rintro ⟨h1, ls, h2, rfl⟩
    rw [labelsOf_of h2 h1]
    rfl
  · intro h
    obtain ⟨ls, hls⟩ := Option.isSome_iff_exists.1 h
    obtain ⟨h1, h2, h3⟩ := labelsOf_mk hls
    exact ⟨h1, ls, h2, h3⟩
end Go.Proofs.YtjeihmchcfadlaaDoor
namespace Go.Proofs.YtjeihmchcfadlaaDoor
open Go Go.Eng
def labN (n : List UInt8) : List (List UInt8) := (labelsOf n).getD []
/-- The labels in small letters. -/
def fl (n : List UInt8) : List (List UInt8) := (labN n).map fold
theorem labN_of {n : List UInt8} (h : isName n) : n.length ≤ 255 ∧ (∀ l ∈ labN n, okL l) ∧ n = mk (labN n) := by
  obtain ⟨ls, e⟩ := Option.isSome_iff_exists.1 ((isName_labels n).1 h)
  have := labelsOf_mk e
  unfold labN
  rw [e]
  exact this
theorem fold_length (s : List UInt8) : (fold s).length = s.length := by simp [fold]
theorem okL_fold {l : List UInt8} (h : okL l) : okL (fold l) := by unfold okL at *; rw [fold_length]; exact h
theorem low_small {k : Nat} (h : k ≤ 63) : low (UInt8.ofNat k) = UInt8.ofNat k := by
  apply UInt8.toNat_inj.1
  rw [low_nat, toNat_ofNat (by omega)]
  rw [if_neg (by omega)]
theorem fold_lab {l : List UInt8} (h : okL l) : fold (lab l) = lab (fold l) := by
  unfold lab
  rw [fold_length]
  show low (UInt8.ofNat l.length) :: fold l = _
  rw [low_small h.2]
theorem fold_append (a b : List UInt8) : fold (a ++ b) = fold a ++ fold b := by unfold fold; rw [List.map_append]
theorem fold_mk : ∀ {ls : List (List UInt8)}, (∀ l ∈ ls, okL l) → fold (mk ls) = mk (ls.map fold)
  | [], _ => rfl
  | l :: ls, h => by
    show fold (lab l ++ mk ls) = lab (fold l) ++ mk (ls.map fold)
    rw [fold_append, fold_lab (h l (by simp)), fold_mk (fun x hx => h x (by simp [hx]))]
theorem fl_ok {n : List UInt8} (h : isName n) : ∀ l ∈ fl n, okL l := fun l hl => by
  obtain ⟨x, hx, rfl⟩ := List.mem_map.1 hl
  exact okL_fold ((labN_of h).2.1 x hx)
theorem fold_fl {n : List UInt8} (h : isName n) : fold n = mk (fl n) := by
  obtain ⟨_, h2, h3⟩ := labN_of h
  conv => lhs; rw [h3]
  exact fold_mk h2
theorem fold_eq_fl {a b : List UInt8} (ha : isName a) (hb : isName b) : fold a = fold b ↔ fl a = fl b := by
  rw [fold_fl ha, fold_fl hb]
  exact ⟨fun h => mk_inj (fl_ok ha) (fl_ok hb) h, fun h => by rw [h]⟩
/-- Where the label i begins. -/
def posN2 (ls : List (List UInt8)) (i : Nat) : Nat := (labs (ls.take i)).length
theorem posN2_zero (ls : List (List UInt8)) : posN2 ls 0 = 0 := rfl
theorem posN2_succ {ls : List (List UInt8)} {i : Nat} {l : List UInt8} (h : ls[i]? = some l) : posN2 ls (i + 1) = posN2 ls i + 1 + l.length := by
  unfold posN2
  rw [List.take_add_one, h]
  show (labs (ls.take i ++ [l])).length = _
  rw [labs_append, List.length_append]
  show _ + (lab l ++ []).length = _
  rw [List.append_nil, lab_len]; omega
theorem mk_labs : ∀ (a b : List (List UInt8)), mk (a ++ b) = labs a ++ mk b
  | [], _ => rfl
  | l :: a, b => by
    show lab l ++ mk (a ++ b) = (lab l ++ labs a) ++ mk b
    rw [mk_labs a b, List.append_assoc]
theorem drop_pos (ls : List (List UInt8)) (i : Nat) : (mk ls).drop (posN2 ls i) = mk (ls.drop i) := by
  have e : mk ls = labs (ls.take i) ++ mk (ls.drop i) := by rw [← mk_labs, List.take_append_drop]
  unfold posN2
  conv => lhs; rw [e]
  rw [List.drop_left]
theorem pos_lt (ls : List (List UInt8)) (i : Nat) : posN2 ls i < (mk ls).length := by
  have e : mk ls = labs (ls.take i) ++ mk (ls.drop i) := by rw [← mk_labs, List.take_append_drop]
  rw [e, List.length_append]
  have := mk_pos (ls.drop i)
  unfold posN2; omega
theorem pos_len (ls : List (List UInt8)) (i : Nat) : posN2 ls i + (mk (ls.drop i)).length = (mk ls).length := by
  have e : mk ls = labs (ls.take i) ++ mk (ls.drop i) := by rw [← mk_labs, List.take_append_drop]
  conv => rhs; rw [e]
  rw [List.length_append]; rfl
/-- At a label's begin there is its length; at the end there is 0. -/
theorem bt_pos {ls : List (List UInt8)} (h : ∀ l ∈ ls, okL l) {i : Nat} {l : List UInt8} (hi : ls[i]? = some l) : bt (mk ls) (posN2 ls i) = l.length := by
  have hd := drop_pos ls i
  have hlt := (List.getElem?_eq_some_iff.1 hi).1
  have e : ls.drop i = l :: ls.drop (i + 1) := by
    rw [List.drop_eq_getElem_cons hlt, (List.getElem?_eq_some_iff.1 hi).2]
  have := bt_drop (mk ls) (posN2 ls i) 0
  rw [Nat.add_zero] at this
  rw [← this, hd, e]
  exact bt_lab l (mk (ls.drop (i + 1))) (h l (List.mem_of_getElem? hi))
theorem bt_end (ls : List (List UInt8)) : bt (mk ls) (posN2 ls ls.length) = 0 := by
  have hd := drop_pos ls ls.length
  have := bt_drop (mk ls) (posN2 ls ls.length) 0
  rw [Nat.add_zero] at this
  rw [← this, hd, List.drop_length]; rfl
theorem pos_end (ls : List (List UInt8)) : posN2 ls ls.length + 1 = (mk ls).length := by
  have := pos_len ls ls.length
  rw [List.drop_length] at this
  exact this
theorem pos_mono {ls : List (List UInt8)} {i j : Nat} (h : i < j) (hj : j ≤ ls.length) : posN2 ls i < posN2 ls j := by
  induction j with
  | zero => omega
  | succ j ih =>
    have hs : ls[j]? = some ls[j] := List.getElem?_eq_getElem (by omega)
    have := posN2_succ hs
    rcases Nat.lt_or_ge i j with hl | hl
    · have := ih hl (by omega); omega
    · have : i = j := by omega
      subst this; omega
/-- n lies within z. -/
def withinN (n z : List UInt8) : Bool := decide (isName n) && (decide (isName z) && (fl z).isSuffixOf (fl n))
theorem withinN_iff {n z : List UInt8} : withinN n z = true ↔ isName n ∧ isName z ∧ ∃ j, j ≤ (labN n).length ∧ (fl n).drop j = fl z := by
  unfold withinN
  simp only [Bool.and_eq_true, decide_eq_true_eq, List.isSuffixOf_iff_suffix]
  refine and_congr_right fun h1 => and_congr_right fun h2 => ?_
  constructor
  · intro h
    have hl := h.length_le
    refine ⟨(fl n).length - (fl z).length, by unfold fl; simp, ?_⟩
    exact (List.suffix_iff_eq_drop.1 h).symm
  · rintro ⟨j, _, e⟩
    rw [← e]; exact List.drop_suffix j (fl n)
/-- It is told by the bytes behind the label j. -/
theorem within_at {n z : List UInt8} (hn : isName n) (hz : isName z) {j : Nat} (hp : posN2 (labN n) j + z.length = n.length) : (fold (n.drop (posN2 (labN n) j)) = fold z) ↔ (fl n).drop j = fl z := by
  obtain ⟨_, h2, h3⟩ := labN_of hn
  have hd : n.drop (posN2 (labN n) j) = mk ((labN n).drop j) := by
    have := drop_pos (labN n) j
    rw [← h3] at this
    exact this
  have h4 : ∀ l ∈ (labN n).drop j, okL l := fun l hl => h2 l (List.mem_of_mem_drop hl)
  rw [hd, fold_mk h4, fold_fl hz]
  have e : ((labN n).drop j).map fold = (fl n).drop j := by unfold fl; rw [List.map_drop]
  rw [e]
  refine ⟨fun h => mk_inj (fun l hl => fl_ok hn l (List.mem_of_mem_drop hl)) (fl_ok hz) h, fun h => by rw [h]⟩
theorem mk_len_fold : ∀ {ls : List (List UInt8)}, (mk (ls.map fold)).length = (mk ls).length
  | [] => rfl
  | l :: ls => by
    show (lab (fold l) ++ mk (ls.map fold)).length = (lab l ++ mk ls).length
    rw [List.length_append, List.length_append, lab_len, lab_len, fold_length, mk_len_fold]
theorem within_len {n z : List UInt8} (hn : isName n) (hz : isName z) {j : Nat} (h : (fl n).drop j = fl z) : posN2 (labN n) j + z.length = n.length := by
  obtain ⟨_, _, h3⟩ := labN_of hn
  obtain ⟨_, _, h4⟩ := labN_of hz
  have e : (mk ((labN n).drop j)).length = z.length := by
    have : mk (((labN n).drop j).map fold) = mk ((labN z).map fold) := by
      rw [List.map_drop]
      exact congrArg mk h
    have := congrArg List.length this
    rw [mk_len_fold, mk_len_fold, ← h4] at this
    exact this
  rw [← e]
  conv => rhs; rw [h3]
  exact pos_len (labN n) j
theorem label_at {ls : List (List UInt8)} {i : Nat} {l : List UInt8} (hi : ls[i]? = some l) : ((mk ls).drop (posN2 ls i + 1)).take l.length = l := by
  have hd := drop_pos ls i
  have hlt := (List.getElem?_eq_some_iff.1 hi).1
  have e : ls.drop i = l :: ls.drop (i + 1) := by
    rw [List.drop_eq_getElem_cons hlt, (List.getElem?_eq_some_iff.1 hi).2]
  rw [← List.drop_drop, hd, e]
  show ((UInt8.ofNat l.length :: l ++ mk (ls.drop (i + 1))).drop 1).take l.length = l
  simp
theorem isName_fold {n : List UInt8} (h : isName n) : isName (fold n) := by
  rw [fold_fl h]
  refine (isName_iff _).2 ⟨?_, fl n, fl_ok h, rfl⟩
  rw [← fold_fl h, fold_length]
  exact (labN_of h).1
theorem labN_fold {n : List UInt8} (h : isName n) : labN (fold n) = fl n := by
  obtain ⟨_, h2, h3⟩ := labN_of (isName_fold h)
  have h3 := (fold_fl h).symm.trans h3
  exact (mk_inj (fl_ok h) h2 h3).symm
end Go.Proofs.YtjeihmchcfadlaaDoor
namespace Go.Proofs.YtjeihmchcfadlaaDoor
open Go Go.Eng
set_option maxRecDepth 100000
instance (s : List UInt8) : Decidable (isName s) := by unfold isName; infer_instance
theorem sub_drop (s : List UInt8) (a : Nat) : sub s (a : Int) (s.length : Int) = s.drop a := by
  unfold sub
  rw [Int.toNat_natCast, Int.toNat_natCast, List.take_of_length_le (by simp)]
theorem within_law {n z : List UInt8} (hn : isName n) (hz : isName z) (hl : z.length ≤ n.length) (b : Bool) (hb : b = true ↔ ∃ j, j ≤ (labN n).length ∧ posN2 (labN n) j = n.length - z.length) :
    (b && (fold (n.drop (n.length - z.length)) == fold z)) = withinN n z := by
  rw [Bool.eq_iff_iff, withinN_iff, Bool.and_eq_true, hb, beq_iff_eq]
  constructor
  · rintro ⟨⟨j, hj, hp⟩, hf⟩
    refine ⟨hn, hz, j, hj, ?_⟩
    exact (within_at hn hz (j := j) (by omega)).1 (by rw [hp]; exact hf)
  · rintro ⟨_, _, j, hj, hf⟩
    have hp := within_len hn hz hf
    refine ⟨⟨j, hj, by omega⟩, ?_⟩
    have := (within_at hn hz (j := j) hp).2 hf
    rwa [show posN2 (labN n) j = n.length - z.length by omega] at this
theorem within_long {n z : List UInt8} (hl : n.length < z.length) : withinN n z = false := by
  cases h : withinN n z
  · rfl
  · obtain ⟨hn, hz, j, _, hf⟩ := withinN_iff.1 h
    have := within_len hn hz hf
    omega
set_option maxRecDepth 100000
set_option maxHeartbeats 8000000 in
theorem within_ok (n z : List UInt8) : FnOk Tryd.prog 19 [.d (.str n), .d (.str z)] (.d (.bool (withinN n z))) := by
  refine fnOk_of_run (TT := TT) (IN := lookI [(47, Tryd.f47, 1), (78, Tryd.f78, 2)]) TT_ok (INok_cons (INok_cons INok_nil Tryd.func78 (by kernel_rfl) (by kernel_rfl)) Tryd.func47 (by kernel_rfl) (by kernel_rfl)) mixed 1000 Tryd.func19 rfl (enters Tryd.func19 (by kernel_rfl) rfl) rfl 50 (by kernel_rfl) ?_
  conv => whnf
  refine .one (.data _ (check_ok n) rfl rfl ?_)
  by_cases hn : isName n
  case neg =>
    rw [if_neg hn, show withinN n z = false by unfold withinN; rw [decide_eq_false hn]; rfl]
    conv => whnf
    repeat (first | (refine brT rfl ?_; conv => whnf))
    try exact rfl
  rw [if_pos hn]
  conv => whnf
  refine brF rfl ?_
  conv => whnf
  refine .one (.data _ (check_ok z) rfl rfl ?_)
  by_cases hz : isName z
  case neg =>
    rw [if_neg hz, show withinN n z = false by unfold withinN; rw [decide_eq_false hz, Bool.false_and, Bool.and_false]]
    conv => whnf
    repeat (first | (refine brT rfl ?_; conv => whnf))
    try exact rfl
  rw [if_pos hz]
  conv => whnf
  refine brF rfl ?_
  conv => whnf
  refine ⟨fun h1 => ?_, fun h1 => ?_⟩
  · have h1 : (z.length : Int) > n.length := of_decide_eq_true h1
    rw [within_long (by omega)]
    conv => whnf
    try exact rfl
  have h1 : ¬ (z.length : Int) > n.length := of_decide_eq_false h1
  obtain ⟨hn1, hn2, hn3⟩ := labN_of hn
  have hz1 := hz.2.1
  have hmw : IntKind.i64.wrap ((n.length : Int) - (z.length : Int)) = ((n.length - z.length : Nat) : Int) := by rw [w64_in _ (by omega)]; omega
  have hlaw := within_law hn hz (by omega)
  have hzero : (((n.length - z.length : Nat) : Int) == 0) = decide (n.length - z.length = 0) := by rw [Bool.eq_iff_iff]; simp
  conv => whnf
  rw [hmw, hzero]
  have hend : ∀ i, posN2 (labN n) i < n.length := fun i => by have := pos_lt (labN n) i; rw [← hn3] at this; exact this
  have hbt : ∀ i l, (labN n)[i]? = some l → bt n (posN2 (labN n) i) = l.length := fun i l h => by
    have := bt_pos hn2 h
    rw [← hn3] at this; exact this
  have hbe : bt n (posN2 (labN n) (labN n).length) = 0 := by
    have := bt_end (labN n)
    rw [← hn3] at this; exact this
  generalize labN n = ls at hn2 hn3 hlaw hend hbt hbe
  obtain ⟨m, hm⟩ : ∃ m, n.length - z.length = m := ⟨_, rfl⟩
  rw [hm] at hlaw ⊢
  refine .inv Nat (fun i => i ≤ ls.length ∧ ∀ j, 0 < j → j ≤ i → posN2 ls j < m) (fun i => [(3, iV (posN2 ls i))]) (fun _ => []) (fun i => ls.length - i) ⟨0, [0, 1, 2, 3], ⟨Nat.zero_le _, fun j h1 h2 => by omega⟩, ?_⟩ ?_
  · conv => whnf
    repeat' (first | exact True.intro | exact rfl | exact subZ_self _ | exact Or.inr rfl | exact fun _ _ => rfl | exact fun _ h => absurd h (Nat.not_lt_zero _) | refine And.intro ?_ ?_)
  intro i hi
  obtain ⟨hi1, hi2⟩ := hi
  have hp := hend i
  conv => whnf
  refine brT (decide_eq_true (by omega)) ?_
  conv => whnf
  refine ⟨by omega, ?_⟩
  conv => whnf
  rw [bt_eq, w64_in (bt n (posN2 ls i) : Int) (by have := bt_lt n (posN2 ls i); omega)]
  rcases Nat.lt_or_ge i ls.length with hlt | hge
  · have hli : ls[i]? = some ls[i] := List.getElem?_eq_getElem hlt
    have hb := hbt i _ hli
    have hok := hn2 _ (List.getElem_mem hlt)
    have hps := posN2_succ hli
    have hp2 := hend (i + 1)
    rw [hb]
    generalize ls[i] = l at hli hb hok hps
    obtain ⟨ho1, ho2⟩ := hok
    refine brF (by rw [beq_eq_false_iff_ne]; omega) ?_
    conv => whnf
    refine brF (decide_eq_false (by omega)) ?_
    conv => whnf
    have e1 : IntKind.i64.wrap ((n.length : Int) - (posN2 ls i : Int)) = ((n.length - posN2 ls i : Nat) : Int) := by rw [w64_in _ (by omega)]; omega
    rw [e1]
    refine brF (decide_eq_false (by omega)) ?_
    conv => whnf
    have e2 : IntKind.i64.wrap ((posN2 ls i : Int) + IntKind.i64.wrap (1 + (l.length : Int))) = ((posN2 ls (i + 1) : Nat) : Int) := by rw [w64_in (1 + (l.length : Int)) (by omega), w64_in _ (by omega)]; omega
    rw [e2]
    refine ⟨fun h2 => ?_, fun h2 => ?_⟩
    · have h2 : m ≤ posN2 ls (i + 1) := by have h : ((posN2 ls (i + 1) : Nat) : Int) ≥ (m : Int) := of_decide_eq_true h2
                                           omega
      conv => whnf
      refine ⟨fun h3 => ?_, fun h3 => ?_⟩
      · have h3 : m = 0 := of_decide_eq_true h3
        conv => whnf
        rw [← hlaw true ⟨fun _ => ⟨0, Nat.zero_le _, h3.symm⟩, fun _ => rfl⟩]
        refine ⟨by omega, ?_⟩
        conv => whnf
        rw [sub_drop]
        refine .one (.data _ (fold_ok _ (by rw [List.length_drop]; omega)) rfl rfl ?_)
        conv => whnf
        refine .one (.data _ (fold_ok z (by omega)) rfl rfl ?_)
        conv => whnf
        try exact rfl
      · have h3 : ¬ m = 0 := of_decide_eq_false h3
        conv => whnf
        refine ⟨fun h4 => ?_, fun h4 => ?_⟩
        · have h4 : posN2 ls (i + 1) = m := by simp at h4; omega
          conv => whnf
          rw [← hlaw true ⟨fun _ => ⟨i + 1, hlt, h4⟩, fun _ => rfl⟩]
          refine ⟨by omega, ?_⟩
          conv => whnf
          rw [sub_drop]
          refine .one (.data _ (fold_ok _ (by rw [List.length_drop]; omega)) rfl rfl ?_)
          conv => whnf
          refine .one (.data _ (fold_ok z (by omega)) rfl rfl ?_)
          conv => whnf
          try exact rfl
        · have h4 : ¬ posN2 ls (i + 1) = m := by simp at h4; omega
          have hno : ¬ ∃ j, j ≤ ls.length ∧ posN2 ls j = m := by
            rintro ⟨j, j1, j2⟩
            rcases Nat.lt_trichotomy j (i + 1) with x | x | x
            · rcases Nat.eq_zero_or_pos j with y | y
              · subst y; exact h3 j2.symm
              · have := hi2 j y (by omega); omega
            · subst x; exact h4 j2
            · have := pos_mono x j1; omega
          rw [← hlaw false ⟨fun h => (by cases h), fun h => absurd h hno⟩]
          conv => whnf
          try exact rfl
    · have h2 : posN2 ls (i + 1) < m := by have h : ¬ ((posN2 ls (i + 1) : Nat) : Int) ≥ (m : Int) := of_decide_eq_false h2
                                           omega
      conv => whnf
      refine ⟨i + 1, [0, 1, 2, 3], ⟨hlt, fun j k1 k2 => ?_⟩, by omega, ?_⟩
      · rcases Nat.lt_or_ge j (i + 1) with x | x
        · exact hi2 j k1 (by omega)
        · rw [show j = i + 1 by omega]; exact h2
      conv => whnf
      repeat' (first | exact True.intro | exact rfl | exact subZ_self _ | exact Or.inr rfl | exact fun _ _ => rfl | exact fun _ h => absurd h (Nat.not_lt_zero _) | refine And.intro ?_ ?_)
  · have hil : i = ls.length := by omega
    subst hil
    rw [hbe]
    conv => whnf
    refine brT rfl ?_
    conv => whnf
    refine ⟨fun h3 => ?_, fun h3 => ?_⟩
    · have h3 : m = 0 := of_decide_eq_true h3
      conv => whnf
      rw [← hlaw true ⟨fun _ => ⟨0, Nat.zero_le _, h3.symm⟩, fun _ => rfl⟩]
      refine ⟨by omega, ?_⟩
      conv => whnf
      rw [sub_drop]
      refine .one (.data _ (fold_ok _ (by rw [List.length_drop]; omega)) rfl rfl ?_)
      conv => whnf
      refine .one (.data _ (fold_ok z (by omega)) rfl rfl ?_)
      conv => whnf
      try exact rfl
    · have h3 : ¬ m = 0 := of_decide_eq_false h3
      have hno : ¬ ∃ j, j ≤ ls.length ∧ posN2 ls j = m := by
        rintro ⟨j, j1, j2⟩
        rcases Nat.eq_zero_or_pos j with y | y
        · subst y; exact h3 j2.symm
        · have := hi2 j y j1; omega
      rw [← hlaw false ⟨fun h => (by cases h), fun h => absurd h hno⟩]
      conv => whnf
      try exact rfl
end Go.Proofs.YtjeihmchcfadlaaDoor
namespace Go.Proofs.YtjeihmchcfadlaaDoor
open Go Go.Eng
def countN (n : List UInt8) : Nat := if isName n then (labN n).length else 0
set_option maxRecDepth 100000
set_option maxHeartbeats 8000000 in
theorem count_ok (n : List UInt8) : FnOk Tryd.prog 60 [.d (.str n)] (.d (.int .i64 (countN n : Nat))) := by
  refine fnOk_of_run (TT := TT) (IN := lookI [(37, Tryd.f37, 1), (69, Tryd.f69, 2), (47, Tryd.f47, 1), (78, Tryd.f78, 2)]) TT_ok (INok_cons (INok_cons (INok_cons (INok_cons INok_nil Tryd.func78 (by kernel_rfl) (by kernel_rfl)) Tryd.func47 (by kernel_rfl) (by kernel_rfl)) Tryd.func69 (by kernel_rfl) (by kernel_rfl)) Tryd.func37 (by kernel_rfl) (by kernel_rfl)) mixed 1000 Tryd.func60 rfl (enters Tryd.func60 (by kernel_rfl) rfl) rfl 9 (by kernel_rfl) ?_
  conv => whnf
  refine .one (.data _ (check_ok n) rfl rfl ?_)
  by_cases hn : isName n
  case neg =>
    rw [if_neg hn, show countN n = 0 from if_neg hn]
    conv => whnf
    refine brT rfl ?_
    conv => whnf
    try exact rfl
  rw [if_pos hn, show countN n = (labN n).length from if_pos hn]
  conv => whnf
  refine brF rfl ?_
  conv => whnf
  obtain ⟨hn1, hn2, hn3⟩ := labN_of hn
  have hend : ∀ i, posN2 (labN n) i < n.length := fun i => by have := pos_lt (labN n) i; rw [← hn3] at this; exact this
  have hbt : ∀ i l, (labN n)[i]? = some l → bt n (posN2 (labN n) i) = l.length := fun i l h => by
    have := bt_pos hn2 h
    rw [← hn3] at this; exact this
  have hbe : bt n (posN2 (labN n) (labN n).length) = 0 := by
    have := bt_end (labN n)
    rw [← hn3] at this; exact this
  have hll := pos_end (labN n)
  rw [← hn3] at hll
  generalize labN n = ls at hn2 hn3 hend hbt hbe hll
  have hcnt : ∀ i, i ≤ ls.length → i ≤ posN2 ls i := fun i => by
    induction i with
    | zero => intro _; exact Nat.zero_le _
    | succ i ih =>
      intro h
      have := ih (by omega)
      have := pos_mono (ls := ls) (i := i) (j := i + 1) (by omega) h
      omega
  have hlc := hcnt ls.length (Nat.le_refl _)
  refine .inv Nat (fun i => i ≤ ls.length) (fun i => [(3, iV (posN2 ls i))]) (fun i => [(0, .cells 3 [iV i]), (4, .cells 3 [iV (posN2 ls i)])]) (fun i => ls.length - i) ⟨0, [0, 1, 2, 3, 4, 5, 6], Nat.zero_le _, ?_⟩ ?_
  · conv => whnf
    repeat' (first | exact True.intro | exact rfl | exact subZ_self _ | exact Or.inr rfl | exact fun _ _ => rfl | exact fun _ h => absurd h (Nat.not_lt_zero _) | refine And.intro ?_ ?_)
  intro i hi
  have hp := hend i
  conv => whnf
  refine brT (decide_eq_true (by omega)) ?_
  conv => whnf
  refine ⟨by omega, ?_⟩
  conv => whnf
  rw [bt_eq, w64_in (bt n (posN2 ls i) : Int) (by have := bt_lt n (posN2 ls i); omega)]
  rcases Nat.lt_or_ge i ls.length with hlt | hge
  · have hli : ls[i]? = some ls[i] := List.getElem?_eq_getElem hlt
    have hb := hbt i _ hli
    have hok := hn2 _ (List.getElem_mem hlt)
    have hps := posN2_succ hli
    have hp2 := hend (i + 1)
    rw [hb]
    generalize ls[i] = l at hli hb hok hps
    obtain ⟨ho1, ho2⟩ := hok
    refine brF (by rw [beq_eq_false_iff_ne]; omega) ?_
    conv => whnf
    refine brF (decide_eq_false (by omega)) ?_
    conv => whnf
    have e1 : IntKind.i64.wrap ((n.length : Int) - (posN2 ls i : Int)) = ((n.length - posN2 ls i : Nat) : Int) := by rw [w64_in _ (by omega)]; omega
    rw [e1]
    refine brF (decide_eq_false (by omega)) ?_
    conv => whnf
    have e2 : IntKind.i64.wrap ((posN2 ls i : Int) + IntKind.i64.wrap (1 + (l.length : Int))) = ((posN2 ls (i + 1) : Nat) : Int) := by rw [w64_in (1 + (l.length : Int)) (by omega), w64_in _ (by omega)]; omega
    rw [e2]
    have e3 : IntKind.i64.wrap ((posN2 ls i : Int) + 1) = ((posN2 ls i + 1 : Nat) : Int) := by rw [w64_in _ (by omega)]; omega
    have e4 : IntKind.i64.wrap ((i : Int) + 1) = ((i + 1 : Nat) : Int) := by rw [w64_in _ (by omega)]; omega
    rw [e3]
    refine ⟨by omega, ?_⟩
    conv => whnf
    rw [e4]
    refine ⟨i + 1, [0, 1, 2, 3, 4, 5, 6], hlt, by omega, ?_⟩
    conv => whnf
    repeat' (first | exact True.intro | exact rfl | exact subZ_self _ | exact Or.inr rfl | exact fun _ _ => rfl | exact fun _ h => absurd h (Nat.not_lt_zero _) | refine And.intro ?_ ?_)
  · have hil : i = ls.length := by omega
    subst hil
    rw [hbe]
    conv => whnf
    refine brT rfl ?_
    conv => whnf
    try exact rfl
end Go.Proofs.YtjeihmchcfadlaaDoor
namespace Go.Proofs.YtjeihmchcfadlaaDoor
open Go Go.Eng
set_option maxRecDepth 100000
/-- A number's digits. -/
def dig (n : Nat) : List UInt8 := if n < 10 then [UInt8.ofNat (48 + n)] else if n < 100 then [UInt8.ofNat (48 + n / 10), UInt8.ofNat (48 + n % 10)] else [UInt8.ofNat (48 + n / 100), UInt8.ofNat (48 + n / 10 % 10), UInt8.ofNat (48 + n % 10)]
theorem dig_dec {n : Nat} (h : n < 1000) : Lib.decDigits n = dig n := by
  unfold dig
  rw [Lib.decDigits]
  split
  · rfl
  · rename_i h1
    rw [Lib.decDigits]
    split
    · rename_i h2
      rw [if_pos (by omega)]; rfl
    · rename_i h2
      rw [Lib.decDigits, dif_pos (by omega), if_neg (by omega)]
      show [_, _, _] = _
      rw [show n / 10 / 10 = n / 100 by omega]
theorem small_ok (i : Nat) (h : i < 100) : FnOk Tryd.prog 111 [.d (.int .i64 i)] (.d (.str (dig i))) := by
  refine ⟨enters Tryd.func111 (by kernel_rfl) rfl, fun M w vs _ hM hl hd => ?_⟩
  match vs, hl with
  | [v0], _ =>
    have h0 := den_int (hd 0 _ v0 rfl rfl)
    subst h0
    refine (Try.internal_strconv_small i h w).mono ?_
    rintro e w' ⟨rfl, rfl⟩
    rw [dig_dec (by omega)]
    exact ⟨_, rfl, Step.refl _ _, .d (.str _)⟩
theorem tab_in : (2, isTab .u64 ((List.range 20).map fun i => ((10 ^ i : Nat) : Int))) ∈ evs := .tail _ (.tail _ (.head _))
theorem tab_is {w : World} {fp : Nat → Nat → Prop} (h : VOk w fp) : Lib.TabIs Tryd.prog w "internal/strconv.uint64pow10" .u64 Lib.pow10Tab := by
  obtain ⟨⟨vs, t, fz, e, h1⟩, _⟩ := h _ tab_in
  unfold Lib.TabIs World.var?
  rw [show Tryd.prog.globalNamed "internal/strconv.uint64pow10" = some 2 by kernel_rfl]
  simp only [Option.bind_some, e]
  exact congrArg some h1
theorem digits_ok (u : Nat) (h : 100 ≤ u) (h2 : u < 1000) : FnOk Tryd.prog 112 [.d (.int .u64 u)] (.d (.int .i64 3)) := by
  refine ⟨enters Tryd.func112 (by kernel_rfl) rfl, fun M w vs hV hM hl hd => ?_⟩
  match vs, hl with
  | [v0], _ =>
    have h0 := den_int (hd 0 _ v0 rfl rfl)
    subst h0
    refine (Try.internal_strconv_numDigits u (by omega) (by omega) w (tab_is hV)).mono ?_
    rintro e w' ⟨rfl, rfl⟩
    rw [Lib.nDigits_unique 2 u (by omega) (by omega)]
    exact ⟨_, rfl, Step.refl _ _, .d (.int _ _)⟩
theorem index_ok (s : List UInt8) (c : UInt8) : FnOk Tryd.prog 91 [.d (.str s), .d (.str [c])] (.d (.int .i64 (Lib.indexByte s c))) := by
  refine ⟨enters Tryd.func91 (by kernel_rfl) rfl, fun M w vs _ hM hl hd => ?_⟩
  match vs, hl with
  | [v0, v1], _ =>
    have h0 := den_str (hd 0 _ v0 rfl rfl)
    have h1 := den_str (hd 1 _ v1 rfl rfl)
    subst h0 h1
    refine (Try.strings_Index_one ⟨s.toArray⟩ c w).mono ?_
    rintro e w' ⟨rfl, rfl⟩
    exact ⟨_, rfl, Step.refl _ _, .d (.int _ _)⟩
/-- What a word is worth; none: nothing. -/
def word (s : List UInt8) : Option Nat := match Lib.parseUintB 8 s with
  | .ok u => some u
  | _ => none
theorem err_at {w : World} {fp : Nat → Nat → Prop} (h : VOk w fp) (g : Nat) (hg : g < 2) : ∃ t x, w.cell? ⟨g, 0, none⟩ = some (.iface t x) := by
  have hin : (g, isErr) ∈ evs := by
    have : g = 0 ∨ g = 1 := by omega
    rcases this with rfl | rfl
    · exact .head _
    · exact .tail _ (.head _)
  obtain ⟨⟨vs, t, fz, e, t', x, rfl⟩, _⟩ := h _ hin
  refine ⟨t', x, ?_⟩
  simp at e
  simp [World.cell?, e]
theorem bytes_step (w : World) (s : List UInt8) : Step (fun _ => False) w (Lib.bytesWorld w 5 ⟨s.toArray⟩) := by
  exact ⟨rfl, rfl, rfl, by rw [Lib.bytesWorld_size]; omega, fun b hb _ => Lib.bytesWorld_at_old w _ _ b hb, fun h => (show False from h).elim⟩
theorem parse_ok (s : List UInt8) (hs : s.length ≤ 1000000) : FnOk Tryd.prog 35 [.d (.str s), .d (.int .i64 10), .d (.int .i64 8)] (.tup [(match word s with | some u => .d (.int .u64 u) | none => .any), .err (word s).isNone]) := by
  refine ⟨enters Tryd.func35 (by kernel_rfl) rfl, fun M w vs hV hM hl hd => ?_⟩
  match vs, hl with
  | [v0, v1, v2], _ =>
    have h0 := den_str (hd 0 _ v0 rfl rfl)
    have h1 := den_int (hd 1 _ v1 rfl rfl)
    have h2 := den_int (hd 2 _ v2 rfl rfl)
    subst h0 h1 h2
    have hsz : (⟨s.toArray⟩ : ByteArray).size = s.length := rfl
    unfold word
    cases hp : Lib.parseUintB 8 s
    · rename_i u
      refine (Try.strconv_ParseUint_10_at8_ok ⟨s.toArray⟩ (by rw [hsz]; omega) u hp w).mono ?_
      rintro e w' ⟨rfl, hw⟩
      refine ⟨_, rfl, ?_, .tup _ [.int .u64 u, .nilIface] rfl (fun j t v ht hv => ?_)⟩
      · rcases hw with rfl | rfl
        · exact Step.refl _ _
        · exact bytes_step w s
      · match j with
        | 0 => cases ht; cases hv; exact .d (.int _ _)
        | 1 => cases ht; cases hv; exact .err _ _ (fun h => by cases h) (fun _ => rfl)
    · obtain ⟨t, x, hc⟩ := err_at hV 0 (by omega)
      refine (Try.strconv_ParseUint_10_at8_syntax ⟨s.toArray⟩ (by rw [hsz]; omega) hp _ w hc (.inr ⟨t, x, rfl⟩)).mono ?_
      rintro e w' ⟨N, rfl, _, _, hb⟩
      refine ⟨_, rfl, Step.of_below _ hb, .tup _ [.int .u64 0, .iface _ _] rfl (fun j t v ht hv => ?_)⟩
      match j with
      | 0 => cases ht; exact .any _
      | 1 => cases ht; cases hv; exact .err _ _ (fun _ => ⟨_, _, rfl⟩) (fun h => by cases h)
    · obtain ⟨t, x, hc⟩ := err_at hV 1 (by omega)
      refine (Try.strconv_ParseUint_10_at8_range ⟨s.toArray⟩ (by rw [hsz]; omega) hp _ w hc (.inr ⟨t, x, rfl⟩)).mono ?_
      rintro e w' ⟨N, rfl, _, _, hb⟩
      refine ⟨_, rfl, Step.of_below _ hb, .tup _ [.int .u64 _, .iface _ _] rfl (fun j t v ht hv => ?_)⟩
      match j with
      | 0 => cases ht; exact .any _
      | 1 => cases ht; cases hv; exact .err _ _ (fun _ => ⟨_, _, rfl⟩) (fun h => by cases h)
theorem putRow_block {w : World} {b : Nat} {vs : Array Value} {t : TypeId} {fz : Nat × Nat} (h : w.heap[b]? = some (.cells vs t fz)) (enc : UInt8 → Value) (d : Array UInt8) : Sort.putRow enc w b 0 d = World.setBlock w b (.cells (Sort.putCells enc 0 d vs) t fz) := by
  unfold Sort.putRow Sort.mapBlock World.setBlock
  congr 1
  apply Array.ext_getElem?
  intro j
  have hb : b < w.heap.size := lt_of_block h
  rw [Array.getElem?_modify, Array.getElem?_setIfInBounds]
  by_cases e1 : b = j
  · subst e1
    rw [if_pos rfl, if_pos rfl, if_pos hb, h]
    rfl
  · rw [if_neg e1, if_neg e1]
def z8 : SV := .d (.int .u8 0)
def b8 (c : UInt8) : SV := .d (.int .u8 (c.toNat : Int))
theorem base_ok (n : Nat) (h : n < 1000) : COk Tryd.prog 113 [.cs 0 0 3 24, .d (.int .u64 n)] [.cells 142 (List.replicate 24 z8)]
    (fun r k => r = .tup [] ∧ k = [.cells 142 (b8 (Lib.dg n 2) :: b8 (Lib.dg n 1) :: b8 (Lib.dg n 0) :: List.replicate 21 z8)]) := by
  refine ⟨enters Tryd.func113 (by kernel_rfl) rfl, fun X w β fp vs hM hl hd => ?_⟩
  match vs, hl with
  | [v0, v1], _ =>
    have h0 := hd 0 _ v0 rfl rfl
    have h1 := den_int (hd 1 _ v1 rfl rfl)
    subst h1
    cases h0 with
    | cs _ _ _ _ L hL hnc =>
      have hb := hM.at (i := 0) rfl (by simp) hL
      cases hb with
      | cells _ _ us hfp hblk hlen hden h1 =>
        have hsz : us.size = 24 := by simpa using hlen.symm
        have hu : ∀ j, j < 24 → us[j]? = some (.int .u8 0) := fun j hj => by
          have hlt : j < us.size := by omega
          have hx := hden j z8 us[j] (by rw [List.getElem?_replicate]; simp [hj]) (by simp [hlt])
          rw [Array.getElem?_eq_getElem hlt]
          exact congrArg some (den_int hx)
        have hc : ∀ j, j < 24 → w.cell? ⟨L.b, j, none⟩ = some (.int .u8 0) := fun j hj => by simp [World.cell?, hblk, hu j hj]
        have hfz : ∀ j, w.frozen? ⟨L.b, j, none⟩ = false := fun j => by simp [World.frozen?, hblk]
        refine (Try.internal_strconv_formatBase10 L.b 0 24 n #[0, 0, 0] w (fun j hj => ⟨?_, ?_⟩) (by show n < 10 ^ 3; omega) (by omega) (by show 3 < _; omega)).mono ?_
        · have hj : j < 3 := hj
          rw [Nat.zero_add, hc j (by omega)]
          match j, hj with
          | 0, _ => rfl
          | 1, _ => rfl
          | 2, _ => rfl
        · rw [Nat.zero_add]; exact hfz j
        · rintro e w' ⟨rfl, m, v', dk, rfl, hinv⟩
          have hds : dk.size = 3 := hinv.size
          have hdk : ∀ t, t < 3 → dk[t]! = Lib.dg n (2 - t) := fun t ht => by
            have := hinv.done t (Nat.zero_le _) ht
            rw [this]
            show Lib.dg n (3 - 1 - t) = _
            rfl
          rw [putRow_block hblk]
          have hget : ∀ j, (Sort.putCells (fun (b : UInt8) => Value.int .u8 (b.toNat : Int)) 0 dk us)[j]? = if j < 3 then some (.int .u8 ((Lib.dg n (2 - j)).toNat : Int)) else us[j]? := fun j => by
            unfold Sort.putCells
            rw [Array.getElem?_mapIdx]
            by_cases hj : j < 3
            · rw [hu j (by omega), if_pos hj]
              simp only [Option.map_some, hds]
              rw [if_pos (by omega), Nat.sub_zero, hdk j hj]
            · rw [if_neg hj]
              cases us[j]? with
              | none => rfl
              | some x => simp only [Option.map_some, hds]; rw [if_neg (by omega)]
          have W := hM.store (i := 0) (l' := b8 (Lib.dg n 2) :: b8 (Lib.dg n 1) :: b8 (Lib.dg n 0) :: List.replicate 21 z8) (vs' := Sort.putCells (fun (b : UInt8) => Value.int .u8 (b.toNat : Int)) 0 dk us) rfl hL hfp hblk (by simp [Sort.putCells, hsz]) (fun j s' u hj hu' => by
            rw [hget] at hu'
            match j with
            | 0 => cases hj; cases hu'; exact .d (.int _ _)
            | 1 => cases hj; cases hu'; exact .d (.int _ _)
            | 2 => cases hj; cases hu'; exact .d (.int _ _)
            | j + 3 =>
              rw [if_neg (by omega)] at hu'
              have hs' : s' = z8 := by
                simp only [List.getElem?_cons_succ, List.getElem?_replicate] at hj
                split at hj
                · cases hj; rfl
                · cases hj
              have hlt : j + 3 < 24 := by rw [← hsz]; exact (Array.getElem?_eq_some_iff.1 hu').1
              rw [hu _ hlt] at hu'
              cases hu'
              rw [hs']
              exact .d (.int _ _)) (fun j u hu' => by
            rw [hget] at hu'
            split at hu'
            · cases hu'; rfl
            · exact h1 j u hu')
          have Q : Step (fun _ => False) (World.setBlock w L.b (.cells (Sort.putCells (fun (b : UInt8) => Value.int .u8 (b.toNat : Int)) 0 dk us) 142 (0, 0))) ((World.setBlock w L.b (.cells (Sort.putCells (fun (b : UInt8) => Value.int .u8 (b.toNat : Int)) 0 dk us) 142 (0, 0))).drewN m) := ⟨rfl, rfl, rfl, Nat.le_refl _, fun _ _ _ => rfl, fun h => (show False from h).elim⟩
          exact ⟨_, .tup [], _, _, _, rfl, ⟨rfl, rfl⟩, W.trans (W.mem.quiet Q), .tup _ _ rfl (fun j s' u hj _ => by simp at hj)⟩
set_option maxHeartbeats 2000000 in
theorem fmt_ok (n : Nat) (h : n < 256) : FnOk Tryd.prog 77 [.d (.int .u64 n), .d (.int .i64 10)] (.d (.str (dig n))) := by
  refine fnOk_of_run (TT := TT) (IN := lookI [(100, Tryd.f100, 2)]) TT_ok (INok_cons INok_nil Tryd.func100 (by kernel_rfl) (by kernel_rfl)) mixed 1000 Tryd.func77 rfl (enters Tryd.func77 (by kernel_rfl) rfl) rfl 6 (by kernel_rfl) ?_
  conv => whnf
  refine brT rfl ?_
  conv => whnf
  refine ⟨fun h1 => ?_, fun h1 => ?_⟩
  · have h1' : n < 100 := by have := of_decide_eq_true h1; omega
    conv => whnf
    rw [w64_in (n : Int) (by omega)]
    refine .one (.data _ (small_ok n h1') rfl rfl ?_)
    conv => whnf
  have h1' : 100 ≤ n := by have := of_decide_eq_false h1; omega
  conv => whnf
  refine .one (.data _ (digits_ok n h1' (by omega)) rfl rfl ?_)
  conv => whnf
  refine ⟨by decide, ?_⟩
  conv => whnf
  refine .rel _ (base_ok n (by omega)) (fun x ks' hR => ?_)
  obtain ⟨rfl, rfl⟩ := hR
  conv => whnf
  refine ⟨by decide, ?_⟩
  conv => whnf
  refine congrArg DV.str ?_
  unfold dig
  rw [if_neg (by omega), if_neg (by omega)]
  have hb : ∀ c : UInt8, UInt8.ofNat (c.toNat : Int).toNat = c := fun c => by rw [Int.toNat_natCast]; exact UInt8.ofNat_toNat
  show [UInt8.ofNat _, UInt8.ofNat _, UInt8.ofNat _] = _
  rw [hb, hb, hb]
  unfold Lib.dg
  rw [show n / 10 ^ 2 % 10 = n / 100 by omega, show n / 10 ^ 1 % 10 = n / 10 % 10 by omega, show n / 10 ^ 0 % 10 = n % 10 by omega]
end Go.Proofs.YtjeihmchcfadlaaDoor
namespace Go.Proofs.YtjeihmchcfadlaaDoor
open Go Go.Eng
set_option maxRecDepth 100000
/-- An address' four numbers, the highest first. -/
def prt (a i : Nat) : Nat := a / 256 ^ (3 - i) % 256
def prts (a : Nat) : List (List UInt8) := [dig (prt a 0), dig (prt a 1), dig (prt a 2), dig (prt a 3)]
theorem prt_lt (a i : Nat) : prt a i < 256 := Nat.mod_lt _ (by decide)
theorem shr_part {a : Nat} (ha : a < 4294967296) (s : Nat) : IntKind.u64.wrap (bits .and .u32 ((a : Int).fdiv (2 ^ min s 32)) 255) = ((a / 2 ^ min s 32 % 256 : Nat) : Int) := by
  have hp : (0 : Int) ≤ 2 ^ min s 32 := Int.le_of_lt (Int.pow_pos (by decide))
  have e1 : ((a : Int).fdiv (2 ^ min s 32)) = ((a / 2 ^ min s 32 : Nat) : Int) := by
    rw [Int.fdiv_eq_ediv_of_nonneg _ hp]
    simp
  have hle : a / 2 ^ min s 32 ≤ a := Nat.div_le_self _ _
  have e2 := u32_and_nat (a / 2 ^ min s 32) 255 (by omega) (by omega)
  have e3 : (a / 2 ^ min s 32) &&& 255 = a / 2 ^ min s 32 % 256 := Nat.and_two_pow_sub_one_eq_mod _ 8
  rw [e3] at e2
  rw [e1]
  have e2 : bits .and .u32 ((a / 2 ^ min s 32 : Nat) : Int) 255 = ((a / 2 ^ min s 32 % 256 : Nat) : Int) := e2
  rw [e2]
  have : a / 2 ^ min s 32 % 256 < 256 := Nat.mod_lt _ (by decide)
  rw [IntKind.wrap_u64]
  omega
set_option maxHeartbeats 2000000 in
theorem numbers_ok (a : Nat) (ha : a < 4294967296) : COk Tryd.prog 46 [.d (.int .u32 a)] [] (fun r k => r = .all 0 ∧ k = [.row 9 1 4 .no (strs (prts a))]) := by
  refine cOk_of_run (TT := TT) (IN := lookI []) TT_ok INok_nil mixed 1000 Tryd.func46 rfl (enters Tryd.func46 (by kernel_rfl) rfl) 19 (by kernel_rfl) ?_
  conv => whnf
  refine ⟨by decide, ?_⟩
  conv => whnf
  refine .once ?_
  conv => whnf
  refine brT rfl ?_
  conv => whnf
  refine ⟨by decide, ?_⟩
  conv => whnf
  rw [show IntKind.u64.wrap (bits BinOp.and IntKind.u32 ((↑a : Int).fdiv (2 ^ min (Int.toNat (24)) IntKind.u32.bits)) 255) = ((prt a 0 : Nat) : Int) from shr_part ha 24]
  refine .one (.data _ (fmt_ok _ (prt_lt a 0)) rfl rfl ?_)
  conv => whnf
  refine ⟨by decide, ?_⟩
  conv => whnf
  refine .once ?_
  conv => whnf
  refine brT rfl ?_
  conv => whnf
  refine ⟨by decide, ?_⟩
  conv => whnf
  rw [show IntKind.u64.wrap (bits BinOp.and IntKind.u32 ((↑a : Int).fdiv (2 ^ min (Int.toNat (IntKind.i64.wrap (24 - 8))) IntKind.u32.bits)) 255) = ((prt a 1 : Nat) : Int) from shr_part ha 16]
  refine .one (.data _ (fmt_ok _ (prt_lt a 1)) rfl rfl ?_)
  conv => whnf
  refine ⟨by decide, ?_⟩
  conv => whnf
  refine .once ?_
  conv => whnf
  refine brT rfl ?_
  conv => whnf
  refine ⟨by decide, ?_⟩
  conv => whnf
  rw [show IntKind.u64.wrap (bits BinOp.and IntKind.u32 ((↑a : Int).fdiv (2 ^ min (Int.toNat (IntKind.i64.wrap (IntKind.i64.wrap (24 - 8) - 8))) IntKind.u32.bits)) 255) = ((prt a 2 : Nat) : Int) from shr_part ha 8]
  refine .one (.data _ (fmt_ok _ (prt_lt a 2)) rfl rfl ?_)
  conv => whnf
  refine ⟨by decide, ?_⟩
  conv => whnf
  refine .once ?_
  conv => whnf
  refine brT rfl ?_
  conv => whnf
  refine ⟨by decide, ?_⟩
  conv => whnf
  rw [show IntKind.u64.wrap (bits BinOp.and IntKind.u32 ((↑a : Int).fdiv (2 ^ min (Int.toNat (IntKind.i64.wrap (IntKind.i64.wrap (IntKind.i64.wrap (24 - 8) - 8) - 8))) IntKind.u32.bits)) 255) = ((prt a 3 : Nat) : Int) from shr_part ha 0]
  refine .one (.data _ (fmt_ok _ (prt_lt a 3)) rfl rfl ?_)
  conv => whnf
  refine ⟨by decide, ?_⟩
  conv => whnf
  refine .once ?_
  conv => whnf
  refine brF rfl ?_
  conv => whnf
  refine ⟨[8], _, _, rfl, rfl, ?_, ?_, rfl, rfl⟩
  · exact rfl
  · conv => whnf
    repeat' (first | exact True.intro | exact rfl | exact subZ_self _ | exact Or.inr rfl | exact fun _ _ => rfl | exact fun _ h => absurd h (Nat.not_lt_zero _) | refine And.intro ?_ ?_)
    intro i hi
    match i, hi with
    | 0, _ => rfl
    | 1, _ => rfl
    | 2, _ => rfl
    | 3, _ => rfl
/-- An address' text. -/
def printA (a : Nat) : List UInt8 := Lib.join (prts a) [46]
theorem dig_len {n : Nat} (h : n < 1000) : (dig n).length ≤ 3 ∧ 1 ≤ (dig n).length := by
  unfold dig
  split
  · simp
  · split <;> simp
theorem printA_eq (a : Nat) : printA a = dig (prt a 0) ++ 46 :: (dig (prt a 1) ++ 46 :: (dig (prt a 2) ++ 46 :: dig (prt a 3))) := by
  simp [printA, prts, Lib.join]
theorem printA_len (a : Nat) : (printA a).length ≤ 15 := by
  rw [printA_eq]
  have h0 := (dig_len (n := prt a 0) (by have := prt_lt a 0; omega)).1
  have h1 := (dig_len (n := prt a 1) (by have := prt_lt a 1; omega)).1
  have h2 := (dig_len (n := prt a 2) (by have := prt_lt a 2; omega)).1
  have h3 := (dig_len (n := prt a 3) (by have := prt_lt a 3; omega)).1
  simp only [List.length_append, List.length_cons]
  omega
set_option maxHeartbeats 2000000 in
theorem print_ok (a : Nat) (ha : a < 4294967296) : FnOk Tryd.prog 15 [.d (.int .u32 a)] (.d (.str (printA a))) := by
  refine fnOk_of_run (TT := TT) (IN := lookI []) TT_ok INok_nil mixed 1000 Tryd.func15 rfl (enters Tryd.func15 (by kernel_rfl) rfl) rfl 5 (by kernel_rfl) ?_
  conv => whnf
  refine .rel _ (numbers_ok a ha) (fun x ks' hR => ?_)
  obtain ⟨rfl, rfl⟩ := hR
  conv => whnf
  refine .one (.look (r := .d (.str (printA a))) ?_ rfl ?_)
  · conv => whnf
    exact ⟨join_ok false (prts a) [46] (by show 4 ≤ _; omega) (by have := printA_len a; unfold printA at this; omega), rfl⟩
  conv => whnf
end Go.Proofs.YtjeihmchcfadlaaDoor
namespace Go.Proofs.YtjeihmchcfadlaaDoor
open Go Go.Eng
set_option maxRecDepth 100000
theorem byteAt_put (b : List UInt8) (c : UInt8) (i : Nat) (h : i < b.length + 1) : catF b.length (bytesF b) (chunk [DV.int IntKind.u8 (c.toNat : Int)] 1) i = bytesF (b ++ [c]) i := by
  unfold catF bytesF byteAt
  split
  · rename_i hl
    simp [List.getElem?_append_left hl]
  · rename_i hl
    have : i = b.length := by omega
    subst this
    simp [chunk]
theorem wb0_ok (c : UInt8) : COk Tryd.prog 75 [.ptr 0 0, .d (.int .u8 (c.toNat : Int))] [pk (Bst.fl .fresh)] (fun r k => ∃ b1, k = [pk (Bst.fl b1)] ∧ (r = .v .nilIface ∧ b1 = .live [c])) := by
  refine COk.toThing Bst.fl (pOk_of_run (TT := TT) (IN := lookI []) TT_ok INok_nil mixed 1000 Tryd.func75 rfl (enters Tryd.func75 (by kernel_rfl) rfl) 15 (by kernel_rfl) rfl ?_ ?_)
  · rintro r l ⟨w1, _, rfl, _⟩
    rfl
  conv => whnf
  refine .rel _ (chk_fresh _) (fun x ks' hR => ?_)
  obtain ⟨rfl, rfl⟩ := hR
  conv => whnf
  refine ⟨by decide, ?_⟩
  conv => whnf
  refine ⟨[0, 2], .v .nilIface, Bst.fl (.live [c]), rfl, rfl, rfl, ?_, _, rfl, rfl, rfl⟩
  repeat' (first | exact True.intro | exact rfl | exact fun _ => Iff.rfl | exact fun _ _ => rfl | exact renM_rests _ _ | exact (List.length_append ..).symm | exact byteAt_cat _ _ | refine And.intro ?_ ?_)
  intro i hi
  match i, hi with
  | 0, _ => rfl
theorem wb1_ok (b : List UInt8) (c : UInt8) (hs : b.length + 1 ≤ 70368744177664) : COk Tryd.prog 75 [.ptr 0 0, .d (.int .u8 (c.toNat : Int))] [pk (Bst.fl (.live b))] (fun r k => ∃ b1, k = [pk (Bst.fl b1)] ∧ (r = .v .nilIface ∧ b1 = .live (b ++ [c]))) := by
  refine COk.toThing Bst.fl (pOk_of_run (TT := TT) (IN := lookI []) TT_ok INok_nil mixed 1000 Tryd.func75 rfl (enters Tryd.func75 (by kernel_rfl) rfl) 15 (by kernel_rfl) rfl ?_ ?_)
  · rintro r l ⟨w1, _, rfl, _⟩
    rfl
  conv => whnf
  refine .rel _ (chk_used _ _) (fun x ks' hR => ?_)
  obtain ⟨rfl, rfl⟩ := hR
  conv => whnf
  refine ⟨by omega, ?_⟩
  conv => whnf
  refine ⟨[0, 3], .v .nilIface, Bst.fl (.live (b ++ [c])), rfl, rfl, rfl, ?_, _, rfl, rfl, rfl⟩
  repeat' (first | exact True.intro | exact rfl | exact fun _ => Iff.rfl | exact fun _ _ => rfl | exact renM_rests _ _ | exact (List.length_append ..).symm | exact byteAt_cat _ _ | refine And.intro ?_ ?_)
  · simp
  · intro i hi
    exact (show catF b.length (bytesF b) (chunk [DV.int IntKind.u8 ↑c.toNat] 1) i = _ from byteAt_put b c i hi)
end Go.Proofs.YtjeihmchcfadlaaDoor
namespace Go.Proofs.YtjeihmchcfadlaaDoor
open Go Go.Eng
theorem COk.frameX {P : Program} {f : FuncId} {as0 : List SV} {ks0 : List KB} {R0 : SV → List KB → Prop} (h : COk P f as0 ks0 R0) (is : List Nat) {al : List SV} {ks : List KB}
    (hok : okN (lenB ks) is = true) (ha : mapL (sig is (lenB ks)) as0 = al) (hk : getBs ks is = mapB (sig is (lenB ks)) ks0) : COk P f al ks (fun s k => ∃ s0 k0, R0 s0 k0 ∧ s = mapV (sig is (lenB ks)) s0 ∧ k = putBs ks is (mapB (sig is (lenB ks)) k0)) :=
  COk.frame h is hok ha hk (fun s0 k0 h => ⟨s0, k0, h, rfl, rfl⟩)
end Go.Proofs.YtjeihmchcfadlaaDoor
namespace Go.Proofs.YtjeihmchcfadlaaDoor
open Go Go.Eng
set_option maxRecDepth 100000
/-- The words between the dots. -/
def sp : List UInt8 → List (List UInt8)
  | [] => [[]]
  | c :: s => if c = 46 then [] :: sp s else match sp s with
    | [] => [[c]]
    | w :: ws => (c :: w) :: ws
theorem sp_ne (s : List UInt8) : sp s ≠ [] := by
  cases s with
  | nil => simp [sp]
  | cons c s =>
    unfold sp
    split
    · simp
    · split <;> simp
theorem sp_spec : ∀ (s : List UInt8), (Lib.indexByte s 46 < 0 ∧ sp s = [s]) ∨ ∃ i : Nat, Lib.indexByte s 46 = i ∧ i < s.length ∧ sp s = s.take i :: sp (s.drop (i + 1))
  | [] => .inl ⟨by decide, rfl⟩
  | c :: s => by
    by_cases hc : c = 46
    · subst hc
      exact .inr ⟨0, by simp [Lib.indexByte], by simp, by simp [sp]⟩
    · have hb : (c == (46 : UInt8)) = false := by simp [hc]
      rcases sp_spec s with ⟨h1, h2⟩ | ⟨i, h1, h2, h3⟩
      · have h0 := Lib.indexByte_ge s 46
        have h3 : Lib.indexByte s 46 = -1 := by omega
        refine .inl ⟨?_, ?_⟩
        · simp [Lib.indexByte, hb, h3]
        · simp [sp, hc, h2]
      · refine .inr ⟨i + 1, ?_, by simp; omega, ?_⟩
        · have hne : ¬ ((i : Int) = -1) := by omega
          simp [Lib.indexByte, hb, h1, hne]
        · simp [sp, hc, h3]
/-- What the words are worth, each one byte. -/
def pwL : List (List UInt8) → Nat → Option Nat
  | [], a => some a
  | w :: ws, a => match word w with
    | none => none
    | some u => pwL ws (a * 256 % 4294967296 + u)
def parseV (s : List UInt8) : Nat × Int :=
  if s.length > 15 then (0, 6) else match pwL (sp s) 0 with
    | none => (0, 6)
    | some a => if printA a = s then (a, 0) else (0, 6)
theorem word_lt {w : List UInt8} {u : Nat} (h : word w = some u) : u < 256 := by
  unfold word at h
  split at h
  · rename_i v hv
    cases h
    have := Lib.parseUintB_le hv
    omega
  · cases h
theorem shl_or {a u : Nat} (hu : u < 256) : bits BinOp.or IntKind.u32 (IntKind.u32.wrap ((a : Int) * 2 ^ min (Int.toNat 8) IntKind.u32.bits)) (IntKind.u32.wrap (u : Int)) = ((a * 256 % 4294967296 + u : Nat) : Int) := by
  have e1 : IntKind.u32.wrap ((a : Int) * 2 ^ min (Int.toNat 8) IntKind.u32.bits) = ((a * 256 % 4294967296 : Nat) : Int) := by
    show IntKind.u32.wrap ((a : Int) * 256) = _
    rw [IntKind.wrap_u32']
    omega
  have e2 : IntKind.u32.wrap (u : Int) = ((u : Nat) : Int) := by rw [IntKind.wrap_u32']; omega
  have e3 : a * 256 % 4294967296 = 2 ^ 8 * (a % 16777216) := by omega
  rw [e1, e2, u32_or_nat _ _ (by omega) (by omega), e3, Nat.two_pow_add_eq_or_of_lt (by omega)]
theorem shl_lt {a u : Nat} (hu : u < 256) : a * 256 % 4294967296 + u < 4294967296 := by omega
structure PSt where
  rest : List UInt8
  a : Nat
set_option maxHeartbeats 4000000 in
theorem hparse_ok (s : List UInt8) : FnOk Tryd.prog 9 [.d (.str s)] (.tup [.d (.int .u32 (parseV s).1), .d (.int .i64 (parseV s).2)]) := by
  refine fnOk_of_run (TT := TT) (IN := lookI [(34, Tryd.f34, 2), (66, Tryd.f66, 3), (89, Tryd.f89, 4)]) TT_ok (INok_cons (INok_cons (INok_cons INok_nil Tryd.func89 (by kernel_rfl) (by kernel_rfl)) Tryd.func66 (by kernel_rfl) (by kernel_rfl)) Tryd.func34 (by kernel_rfl) (by kernel_rfl)) mixed 1000 Tryd.func9 rfl (enters Tryd.func9 (by kernel_rfl) rfl) rfl 30 (by kernel_rfl) ?_
  conv => whnf
  refine ⟨fun h1 => ?_, fun h1 => ?_⟩
  · have h1 : s.length > 15 := by have := of_decide_eq_true h1; omega
    have e : parseV s = (0, 6) := by unfold parseV; rw [if_pos h1]
    rw [e]
    conv => whnf
    exact ⟨rfl, rfl, trivial⟩
  have h1 : ¬ s.length > 15 := by have := of_decide_eq_false h1; omega
  have e : parseV s = (match pwL (sp s) 0 with
    | none => (0, 6)
    | some a => if printA a = s then (a, 0) else (0, 6)) := by unfold parseV; rw [if_neg h1]
  rw [e]
  clear e
  conv => whnf
  repeat (first | (refine brF rfl ?_; conv => whnf) | (refine brT rfl ?_; conv => whnf))
  refine .inv PSt (fun p => p.rest.length ≤ 15 ∧ p.a < 4294967296 ∧ pwL (sp p.rest) p.a = pwL (sp s) 0) (fun p => []) (fun p => [(2, .cells 22 [.d (.int .u32 p.a)]), (3, .cells 9 [.d (.str p.rest)])]) (fun p => p.rest.length) ⟨⟨s, 0⟩, [0, 1, 2, 3, 4, 5, 6], ⟨by show s.length ≤ 15; omega, by show 0 < 4294967296; omega, rfl⟩, ?_⟩ ?_
  · conv => whnf
    repeat' (first | exact True.intro | exact rfl | exact fun _ => Iff.rfl | exact fun _ _ => rfl | exact renM_ent rfl _ | refine And.intro ?_ ?_)
  intro p hp
  obtain ⟨hp1, hp2, hp3⟩ := hp
  conv => whnf
  generalize p.rest = t at hp1 hp3 ⊢
  generalize p.a = a at hp2 hp3 ⊢
  refine .one (.data _ (index_ok t 46) rfl rfl ?_)
  conv => whnf
  rcases sp_spec t with ⟨hi1, hi2⟩ | ⟨i, hi1, hi2, hi3⟩
  · rw [hi2] at hp3
    refine brT (decide_eq_true hi1) ?_
    conv => whnf
    have hpk := parse_ok t (by omega)
    cases hw : word t with
    | none =>
      rw [hw] at hpk
      refine .one (.data _ hpk rfl rfl ?_)
      conv => whnf
      have hp3 : none = pwL (sp s) 0 := by rw [← hp3]; simp only [pwL, hw]
      rw [← hp3]
      refine brT rfl ?_
      conv => whnf
      exact ⟨rfl, rfl, trivial⟩
    | some u =>
      rw [hw] at hpk
      refine .one (.data _ hpk rfl rfl ?_)
      conv => whnf
      have hu := word_lt hw
      refine brF rfl ?_
      conv => whnf
      refine ⟨by decide, ?_⟩
      conv => whnf
      rw [shl_or hu]
      refine .one (.data _ (print_ok _ (shl_lt hu)) rfl rfl ?_)
      conv => whnf
      have hp3 : some (a * 256 % 4294967296 + u) = pwL (sp s) 0 := by rw [← hp3]; simp only [pwL, hw]
      rw [← hp3]
      generalize a * 256 % 4294967296 + u = b
      show (_ → _) ∧ _
      by_cases hb : printA b = s
      · refine brF (by simp [hb]) ?_
        conv => whnf
        simp only [if_pos hb]
        exact ⟨rfl, rfl, trivial⟩
      · refine brT (by simpa using hb) ?_
        conv => whnf
        simp only [if_neg hb]
        exact ⟨rfl, rfl, trivial⟩
  · rw [hi1]
    rw [hi3] at hp3
    refine brF (decide_eq_false (by omega)) ?_
    conv => whnf
    have e1 : IntKind.i64.wrap ((i : Int) + 0) = i := by rw [w64_in _ (by omega)]; omega
    rw [e1]
    refine ⟨by omega, ?_⟩
    conv => whnf
    have e2 : sub t 0 i = t.take i := by simp [sub]
    rw [e2]
    have hpk := parse_ok (t.take i) (by rw [List.length_take]; omega)
    cases hw : word (t.take i) with
    | none =>
      rw [hw] at hpk
      refine .one (.data _ hpk rfl rfl ?_)
      conv => whnf
      have hp3 : none = pwL (sp s) 0 := by rw [← hp3]; simp only [pwL, hw]
      rw [← hp3]
      refine brT rfl ?_
      conv => whnf
      exact ⟨rfl, rfl, trivial⟩
    | some u =>
      rw [hw] at hpk
      refine .one (.data _ hpk rfl rfl ?_)
      conv => whnf
      have hu := word_lt hw
      refine brF rfl ?_
      conv => whnf
      refine ⟨by decide, ?_⟩
      conv => whnf
      have e3 : IntKind.i64.wrap ((i : Int) + 1) = ((i + 1 : Nat) : Int) := by rw [w64_in _ (by omega)]; omega
      have e4 : IntKind.i64.wrap ((i : Int) + (((⟨#[46]⟩ : ByteArray).data.toList.length : Nat) : Int)) = ((i + 1 : Nat) : Int) := e3
      rw [e4]
      refine ⟨by omega, ?_⟩
      conv => whnf
      rw [shl_or hu]
      have e5 : sub t ((i + 1 : Nat) : Int) (t.length : Int) = t.drop (i + 1) := by
        unfold sub
        rw [Int.toNat_natCast, Int.toNat_natCast, ← List.length_drop, List.take_length]
      rw [e5]
      refine ⟨⟨t.drop (i + 1), a * 256 % 4294967296 + u⟩, [0, 1, 2, 3, 4, 5, 6], ⟨by show (t.drop (i + 1)).length ≤ 15; rw [List.length_drop]; omega, shl_lt hu, ?_⟩, ?_, ?_⟩
      · rw [← hp3]
        simp only [pwL, hw]
      · show (t.drop (i + 1)).length < t.length
        rw [List.length_drop]
        omega
      · conv => whnf
        repeat' (first | exact True.intro | exact rfl | exact fun _ => Iff.rfl | exact fun _ _ => rfl | exact renM_ent rfl _ | refine And.intro ?_ ?_)
end Go.Proofs.YtjeihmchcfadlaaDoor
namespace Go.Proofs.YtjeihmchcfadlaaDoor
open Go Go.Eng
set_option maxRecDepth 100000
theorem word_dig : ∀ n, n < 256 → word (dig n) = some n := by decide +kernel
theorem dig_all : ∀ n, n < 256 → (dig n).all (fun c => decide (48 ≤ c.toNat ∧ c.toNat ≤ 57)) = true := by decide +kernel
theorem dig_in {n : Nat} (h : n < 256) {c : UInt8} (hc : c ∈ dig n) : 48 ≤ c.toNat ∧ c.toNat ≤ 57 := by
  have := List.all_eq_true.1 (dig_all n h) c hc
  exact of_decide_eq_true this
theorem dig_inj {m n : Nat} (hm : m < 256) (hn : n < 256) (h : dig m = dig n) : m = n := by
  have h1 := word_dig m hm
  rw [h, word_dig n hn] at h1
  exact (Option.some.inj h1).symm
theorem sp_plain : ∀ (w : List UInt8), (∀ c ∈ w, c.toNat ≠ 46) → sp w = [w]
  | [], _ => rfl
  | c :: w, h => by
    have hc : ¬ c = 46 := fun e => h c (by simp) (by rw [e]; rfl)
    simp only [sp, if_neg hc, sp_plain w (fun x hx => h x (by simp [hx]))]
theorem sp_dot : ∀ (w t : List UInt8), (∀ c ∈ w, c.toNat ≠ 46) → sp (w ++ 46 :: t) = w :: sp t
  | [], t, _ => by simp [sp]
  | c :: w, t, h => by
    have hc : ¬ c = 46 := fun e => h c (by simp) (by rw [e]; rfl)
    simp only [List.cons_append, sp, if_neg hc, sp_dot w t (fun x hx => h x (by simp [hx]))]
theorem dig_ne {n : Nat} (h : n < 256) : ∀ c ∈ dig n, c.toNat ≠ 46 := fun c hc => by have := dig_in h hc; omega
theorem sp_print (a : Nat) : sp (printA a) = prts a := by
  rw [printA_eq, sp_dot _ _ (dig_ne (prt_lt a 0)), sp_dot _ _ (dig_ne (prt_lt a 1)), sp_dot _ _ (dig_ne (prt_lt a 2)), sp_plain _ (dig_ne (prt_lt a 3))]
  rfl
theorem prts_val {a : Nat} (ha : a < 4294967296) : ((((0 * 256 % 4294967296 + prt a 0) * 256 % 4294967296 + prt a 1) * 256 % 4294967296) + prt a 2) * 256 % 4294967296 + prt a 3 = a := by
  have e0 : prt a 0 = a / 16777216 % 256 := rfl
  have e1 : prt a 1 = a / 65536 % 256 := rfl
  have e2 : prt a 2 = a / 256 % 256 := rfl
  have e3 : prt a 3 = a / 1 % 256 := rfl
  rw [e0, e1, e2, e3]
  omega
theorem pwL_print {a : Nat} (ha : a < 4294967296) : pwL (sp (printA a)) 0 = some a := by
  rw [sp_print]
  unfold prts
  simp only [pwL, word_dig _ (prt_lt a 0), word_dig _ (prt_lt a 1), word_dig _ (prt_lt a 2), word_dig _ (prt_lt a 3)]
  rw [prts_val ha]
theorem pwL_lt : ∀ (ws : List (List UInt8)) {a b : Nat}, a < 4294967296 → pwL ws a = some b → b < 4294967296
  | [], a, b, h, e => by simp only [pwL, Option.some.injEq] at e; omega
  | w :: ws, a, b, h, e => by
    simp only [pwL] at e
    cases hw : word w with
    | none => rw [hw] at e; cases e
    | some u =>
      rw [hw] at e
      exact pwL_lt ws (shl_lt (word_lt hw)) e
theorem parseV_print {a : Nat} (ha : a < 4294967296) : parseV (printA a) = (a, 0) := by
  have := printA_len a
  unfold parseV
  rw [if_neg (by omega), pwL_print ha]
  simp
end Go.Proofs.YtjeihmchcfadlaaDoor
