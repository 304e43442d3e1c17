/-
  The table of types of this seat, as the engine reads it; checked against the program by one closed fact. Written by mktt.py. label.Check tells whether a text is a name. No conditions. label.Fold puts for each capital letter its small one. No conditions but that the text is shorter than 2 to the 62. Names as lists of labels. Plain lemmas. The shelf's contracts of strings.Join and strings.Compare at this program, in plain words (written by the kit's lay-plain.mjs). No conditions. rdata: what the functions of package rdata compute: the name with which bytes begin, texts, parts of data by their type, Check. No conditions but lengths where they are named. strings.Join of texts, as a contract over data (from the shelf). Conditions: lengths. rdata.look, rdata.Fold, sets.Check. No conditions. pack.Writer over known blocks: New, piece, Num, name, Set, Len, Out. Conditions: the limit is no more than a million. pack.Writer: New, Set, Len, Out. Conditions: as in Pack. pack.Reader over known blocks: Open, Bad, fail, Raw, Num, At, Left, Part. Conditions: the bytes are fewer than 2 to the 62. pack.Reader.Name. Conditions: the bytes are fewer than 2 to the 62.
-/
import Derived.Test.YtdphkaiijlekhaaRows
import Derived.KernelRfl
import Derived.Shelf.Strings.OnBuilder
import Derived.Shelf.Small.Strs
import Derived.Test.YtdphkaiijlekhaaProg
import Derived.Laws.BitsAllLaws
import Derived.Test.YtdphkaiijlekhaaM3
import Derived.Test.YtdphkaiijlekhaaM4
set_option linter.unusedVariables false
set_option linter.unusedSimpArgs false
namespace Go.Proofs.Ytdphkaiijlekhaa
open Go Go.Eng
def types : List (Nat × TI) := [
  (2, ⟨1, 8, false, [.d (.int .i64 0)], .int .i64, []⟩),
  (3, ⟨1, 8, false, [.d (.int .i64 0)], .int .i64, []⟩),
  (4, ⟨1, 1, false, [.d .ff], .bool, []⟩),
  (5, ⟨1, 1, false, [.d (.int .u8 0)], .int .u8, []⟩),
  (6, ⟨1, 1, false, [.d (.int .u8 0)], .int .u8, []⟩),
  (7, ⟨4, 24, true, [.d (.int .i64 0), .d (.int .i64 0), .d .ff, .d (.int .u8 0)], .struct [(0, 2), (1, 3), (2, 4), (3, 6)], [.int .i64, .int .i64, .bool, .int .u8]⟩),
  (9, ⟨1, 16, false, [.d (.str [])], .str, []⟩),
  (17, ⟨1, 8, false, [.v (.pointer none)], .ptr 280, []⟩),
  (18, ⟨1, 8, true, [.v (.pointer none)], .struct [(0, 17)], []⟩),
  (19, ⟨1, 8, true, [.v (.pointer none)], .struct [(0, 17)], []⟩),
  (21, ⟨1, 4, false, [.d (.int .i32 0)], .int .i32, []⟩),
  (22, ⟨1, 24, false, [nilS], .slice 36, []⟩),
  (23, ⟨1, 2, false, [.d (.int .u16 0)], .int .u16, []⟩),
  (24, ⟨1, 2, false, [.d (.int .u16 0)], .int .u16, []⟩),
  (26, ⟨1, 8, false, [.v (.pointer none)], .ptr 100, []⟩),
  (27, ⟨1, 8, false, [.d (.int .i64 0)], .int .i64, []⟩),
  (30, ⟨1, 4, false, [.d (.int .u32 0)], .int .u32, []⟩),
  (31, ⟨1, 24, false, [nilS], .slice 9, []⟩),
  (32, ⟨4, 48, true, [.d (.str []), .d (.int .u16 0), .d (.int .u32 0), nilS], .struct [(0, 9), (1, 24), (2, 30), (3, 31)], []⟩),
  (33, ⟨4, 48, true, [.d (.str []), .d (.int .u16 0), .d (.int .u32 0), nilS], .struct [(0, 9), (1, 24), (2, 30), (3, 31)], []⟩),
  (34, ⟨1, 1, false, [.d (.int .u8 0)], .int .u8, []⟩),
  (35, ⟨10, 72, true, [.d (.int .i64 0), .d (.str []), .d (.int .u16 0), .d (.int .u32 0), nilS, .d (.int .u16 0), .d (.int .u8 0), .d .ff, .d (.int .u32 0), .d (.int .i64 0)], .struct [(0, 3), (1, 33), (5, 24), (6, 34), (7, 4), (8, 30), (9, 2)], []⟩),
  (36, ⟨10, 72, true, [.d (.int .i64 0), .d (.str []), .d (.int .u16 0), .d (.int .u32 0), nilS, .d (.int .u16 0), .d (.int .u8 0), .d .ff, .d (.int .u32 0), .d (.int .i64 0)], .struct [(0, 3), (1, 33), (5, 24), (6, 34), (7, 4), (8, 30), (9, 2)], []⟩),
  (40, ⟨7, 56, true, [.d (.str []), .d (.int .u16 0), .d (.int .u32 0), nilS, .d (.int .u8 0), .d .ff, .d .ff], .struct [(0, 33), (4, 34), (5, 4), (6, 4)], []⟩),
  (41, ⟨7, 56, true, [.d (.str []), .d (.int .u16 0), .d (.int .u32 0), nilS, .d (.int .u8 0), .d .ff, .d .ff], .struct [(0, 33), (4, 34), (5, 4), (6, 4)], []⟩),
  (47, ⟨1, 24, false, [nilS], .slice 60, []⟩),
  (53, ⟨1, 24, false, [nilS], .slice 33, []⟩),
  (59, ⟨5, 40, true, [.d (.str []), .d (.int .u16 0), .d (.int .u16 0), .d (.int .u32 0), .d (.str [])], .struct [(0, 9), (1, 24), (2, 23), (3, 30), (4, 9)], [.str, .int .u16, .int .u16, .int .u32, .str]⟩),
  (60, ⟨5, 40, true, [.d (.str []), .d (.int .u16 0), .d (.int .u16 0), .d (.int .u32 0), .d (.str [])], .struct [(0, 9), (1, 24), (2, 23), (3, 30), (4, 9)], [.str, .int .u16, .int .u16, .int .u32, .str]⟩),
  (64, ⟨1, 24, false, [nilS], .slice 77, []⟩),
  (65, ⟨6, 104, true, [.d (.int .u16 0), .d (.int .u16 0), nilS, nilS, nilS, nilS], .struct [(0, 23), (1, 23), (2, 64), (3, 47), (4, 47), (5, 47)], []⟩),
  (66, ⟨6, 104, true, [.d (.int .u16 0), .d (.int .u16 0), nilS, nilS, nilS, nilS], .struct [(0, 23), (1, 23), (2, 64), (3, 47), (4, 47), (5, 47)], []⟩),
  (76, ⟨3, 24, true, [.d (.str []), .d (.int .u16 0), .d (.int .u16 0)], .struct [(0, 9), (1, 24), (2, 23)], [.str, .int .u16, .int .u16]⟩),
  (77, ⟨3, 24, true, [.d (.str []), .d (.int .u16 0), .d (.int .u16 0)], .struct [(0, 9), (1, 24), (2, 23)], [.str, .int .u16, .int .u16]⟩),
  (80, ⟨1, 24, false, [nilS], .slice 223, []⟩),
  (81, ⟨6, 32, true, [.d .ff, .d (.int .u16 0), .d (.int .u8 0), .d (.int .u8 0), .d (.int .u16 0), nilS], .struct [(0, 4), (1, 23), (2, 5), (3, 5), (4, 23), (5, 80)], []⟩),
  (82, ⟨6, 32, true, [.d .ff, .d (.int .u16 0), .d (.int .u8 0), .d (.int .u8 0), .d (.int .u16 0), nilS], .struct [(0, 4), (1, 23), (2, 5), (3, 5), (4, 23), (5, 80)], []⟩),
  (83, ⟨15, 176, true, [.d (.int .u16 0), .d (.int .u16 0), nilS, nilS, nilS, nilS, .d .ff, .d (.int .u16 0), .d (.int .u8 0), .d (.int .u8 0), .d (.int .u16 0), nilS, .d (.str []), .d (.str []), .d (.int .i64 0)], .struct [(0, 66), (6, 82), (12, 9), (13, 9), (14, 3)], []⟩),
  (84, ⟨15, 176, true, [.d (.int .u16 0), .d (.int .u16 0), nilS, nilS, nilS, nilS, .d .ff, .d (.int .u16 0), .d (.int .u8 0), .d (.int .u8 0), .d (.int .u16 0), nilS, .d (.str []), .d (.str []), .d (.int .i64 0)], .struct [(0, 66), (6, 82), (12, 9), (13, 9), (14, 3)], []⟩),
  (88, ⟨1, 24, false, [nilS], .slice 91, []⟩),
  (90, ⟨8, 64, true, [.d (.str []), .d (.int .u16 0), .d (.int .u32 0), nilS, .d (.int .u8 0), .d .ff, .d .ff, .d (.int .i64 0)], .struct [(0, 41), (7, 2)], []⟩),
  (91, ⟨8, 64, true, [.d (.str []), .d (.int .u16 0), .d (.int .u32 0), nilS, .d (.int .u8 0), .d .ff, .d .ff, .d (.int .i64 0)], .struct [(0, 41), (7, 2)], []⟩),
  (95, ⟨2, 4, true, [.d (.int .u16 0), .d (.int .u16 0)], .array 2 24, [.int .u16, .int .u16]⟩),
  (96, ⟨1, 8, false, [.v (.pointer none)], .ptr 108, []⟩),
  (98, ⟨1, 8, false, [.v (.map none)], .map 102 96, []⟩),
  (99, ⟨3, 24, true, [.d (.int .i64 0), .v (.pointer none), .v (.map none)], .struct [(0, 3), (1, 96), (2, 98)], []⟩),
  (100, ⟨3, 24, true, [.d (.int .i64 0), .v (.pointer none), .v (.map none)], .struct [(0, 3), (1, 96), (2, 98)], []⟩),
  (101, ⟨2, 24, true, [.d (.str []), .d (.int .u16 0)], .struct [(0, 9), (1, 24)], [.str, .int .u16]⟩),
  (102, ⟨2, 24, true, [.d (.str []), .d (.int .u16 0)], .struct [(0, 9), (1, 24)], [.str, .int .u16]⟩),
  (105, ⟨8, 64, true, [.d (.str []), .d (.int .u16 0), .d (.int .u32 0), nilS, .d (.int .u8 0), .d .ff, .d .ff, .d (.int .i64 0)], .struct [(0, 41), (7, 2)], []⟩),
  (106, ⟨8, 64, true, [.d (.str []), .d (.int .u16 0), .d (.int .u32 0), nilS, .d (.int .u8 0), .d .ff, .d .ff, .d (.int .i64 0)], .struct [(0, 41), (7, 2)], []⟩),
  (107, ⟨12, 104, true, [.d (.str []), .d (.int .u16 0), .d (.int .u32 0), nilS, .d (.int .u8 0), .d .ff, .d .ff, .d (.int .i64 0), .d (.str []), .d (.int .u16 0), .v (.pointer none), .v (.pointer none)], .struct [(0, 106), (8, 102), (10, 96), (11, 96)], []⟩),
  (108, ⟨12, 104, true, [.d (.str []), .d (.int .u16 0), .d (.int .u32 0), nilS, .d (.int .u8 0), .d .ff, .d .ff, .d (.int .i64 0), .d (.str []), .d (.int .u16 0), .v (.pointer none), .v (.pointer none)], .struct [(0, 106), (8, 102), (10, 96), (11, 96)], []⟩),
  (116, ⟨1, 8, false, [.v .nilFunc], .other, []⟩),
  (122, ⟨1, 8, false, [.v (.map none)], .map 125 47, []⟩),
  (123, ⟨1, 24, false, [nilS], .slice 125, []⟩),
  (124, ⟨2, 24, true, [.d (.str []), .d (.int .u16 0)], .struct [(0, 9), (1, 24)], [.str, .int .u16]⟩),
  (125, ⟨2, 24, true, [.d (.str []), .d (.int .u16 0)], .struct [(0, 9), (1, 24)], [.str, .int .u16]⟩),
  (128, ⟨4, 40, true, [.d (.str []), .d (.int .u16 0), .d (.int .u16 0), .d (.str [])], .struct [(0, 9), (1, 24), (2, 23), (3, 9)], [.str, .int .u16, .int .u16, .str]⟩),
  (129, ⟨4, 40, true, [.d (.str []), .d (.int .u16 0), .d (.int .u16 0), .d (.str [])], .struct [(0, 9), (1, 24), (2, 23), (3, 9)], [.str, .int .u16, .int .u16, .str]⟩),
  (131, ⟨1, 24, false, [nilS], .slice 47, []⟩),
  (134, ⟨1, 8, false, [.v (.pointer none)], .ptr 206, []⟩),
  (136, ⟨6, 48, true, [.d (.int .i64 0), .d (.int .i64 0), .d (.int .i64 0), .d (.int .i64 0), .d (.int .i64 0), .d (.int .i64 0)], .array 6 3, [.int .i64, .int .i64, .int .i64, .int .i64, .int .i64, .int .i64]⟩),
  (138, ⟨1, 8, false, [.d (.int .u64 0)], .int .u64, []⟩),
  (141, ⟨1, 8, false, [.v .nilFunc], .other, []⟩),
  (143, ⟨1, 8, false, [.v (.pointer none)], .ptr 66, []⟩),
  (144, ⟨1, 8, false, [.v (.pointer none)], .ptr 47, []⟩),
  (147, ⟨1, 24, false, [nilS], .slice 258, []⟩),
  (148, ⟨4, 56, true, [.d (.str []), .d (.int .i64 0), .d .ff, nilS], .struct [(0, 9), (1, 3), (2, 4), (3, 147)], []⟩),
  (149, ⟨4, 56, true, [.d (.str []), .d (.int .i64 0), .d .ff, nilS], .struct [(0, 9), (1, 3), (2, 4), (3, 147)], []⟩),
  (154, ⟨1, 8, false, [.d (.int .u64 0)], .int .u64, []⟩),
  (158, ⟨1, 8, false, [.v (.pointer none)], .ptr 218, []⟩),
  (161, ⟨1, 24, false, [nilS], .slice 3, []⟩),
  (175, ⟨1, 8, false, [.v .nilFunc], .other, []⟩),
  (178, ⟨1, 8, false, [.v .nilFunc], .other, []⟩),
  (181, ⟨1, 24, false, [nilS], .slice 5, []⟩),
  (193, ⟨3, 24, true, [.d (.int .i64 0), .d (.int .i64 0), .d (.int .i64 0)], .struct [(0, 3), (1, 3), (2, 3)], [.int .i64, .int .i64, .int .i64]⟩),
  (194, ⟨3, 24, true, [.d (.int .i64 0), .d (.int .i64 0), .d (.int .i64 0)], .struct [(0, 3), (1, 3), (2, 3)], [.int .i64, .int .i64, .int .i64]⟩),
  (197, ⟨3, 56, true, [.d (.str []), nilS, .d (.str [])], .struct [(0, 9), (1, 31), (2, 9)], []⟩),
  (198, ⟨3, 56, true, [.d (.str []), nilS, .d (.str [])], .struct [(0, 9), (1, 31), (2, 9)], []⟩),
  (204, ⟨1, 8, false, [.v (.map none)], .map 9 3, []⟩),
  (205, ⟨4, 48, true, [nilS, .d (.int .i64 0), .d .ff, .v (.map none)], .struct [(0, 181), (1, 3), (2, 4), (3, 204)], []⟩),
  (206, ⟨4, 48, true, [nilS, .d (.int .i64 0), .d .ff, .v (.map none)], .struct [(0, 181), (1, 3), (2, 4), (3, 204)], []⟩),
  (208, ⟨8, 8, true, [.d (.int .u8 0), .d (.int .u8 0), .d (.int .u8 0), .d (.int .u8 0), .d (.int .u8 0), .d (.int .u8 0), .d (.int .u8 0), .d (.int .u8 0)], .array 8 5, [.int .u8, .int .u8, .int .u8, .int .u8, .int .u8, .int .u8, .int .u8, .int .u8]⟩),
  (217, ⟨3, 32, true, [.d (.str []), .d (.int .i64 0), .d .ff], .struct [(0, 9), (1, 3), (2, 4)], [.str, .int .i64, .bool]⟩),
  (218, ⟨3, 32, true, [.d (.str []), .d (.int .i64 0), .d .ff], .struct [(0, 9), (1, 3), (2, 4)], [.str, .int .i64, .bool]⟩),
  (222, ⟨2, 24, true, [.d (.int .u16 0), .d (.str [])], .struct [(0, 23), (1, 9)], [.int .u16, .str]⟩),
  (223, ⟨2, 24, true, [.d (.int .u16 0), .d (.str [])], .struct [(0, 23), (1, 9)], [.int .u16, .str]⟩),
  (235, ⟨1, 8, false, [.v .nilFunc], .other, []⟩),
  (244, ⟨1, 8, false, [.v (.pointer none)], .ptr 246, []⟩),
  (245, ⟨2, 32, true, [.v (.pointer none), nilS], .struct [(0, 244), (1, 181)], []⟩),
  (246, ⟨2, 32, true, [.v (.pointer none), nilS], .struct [(0, 244), (1, 181)], []⟩),
  (249, ⟨1, 16, false, [.v .nilIface], .other, []⟩),
  (254, ⟨2, 2, true, [.d (.int .u8 0), .d (.int .u8 0)], .array 2 5, [.int .u8, .int .u8]⟩),
  (257, ⟨2, 24, true, [.d (.str []), .d (.int .i64 0)], .struct [(0, 9), (1, 3)], [.str, .int .i64]⟩),
  (258, ⟨2, 24, true, [.d (.str []), .d (.int .i64 0)], .struct [(0, 9), (1, 3)], [.str, .int .i64]⟩),
  (264, ⟨1, 8, false, [.v (.pointer none)], .ptr 5, []⟩),
  (266, ⟨1, 8, false, [.v (.pointer none)], .other, []⟩),
  (269, ⟨4, 40, true, [.v (.pointer none), .v (.pointer none), .v (.pointer none), .d (.str [])], .struct [(0, 17), (1, 17), (2, 17), (3, 9)], []⟩),
  (274, ⟨1, 1, false, [.d (.int .u8 0)], .int .u8, []⟩),
  (275, ⟨1, 1, false, [.d (.int .u8 0)], .int .u8, []⟩),
  (277, ⟨1, 4, false, [.d (.int .i32 0)], .int .i32, []⟩),
  (278, ⟨1, 4, false, [.d (.int .i32 0)], .int .i32, []⟩),
  (280, ⟨11, 48, true, [.d (.int .u64 0), .d (.int .u64 0), .d (.int .u32 0), .d (.int .u8 0), .d (.int .u8 0), .d (.int .u8 0), .d (.int .u8 0), .v .nilFunc, .v (.pointer none), .d (.int .i32 0), .d (.int .i32 0)], .struct [(0, 12), (1, 12), (2, 30), (3, 274), (4, 5), (5, 5), (6, 275), (7, 276), (8, 264), (9, 277), (10, 278)], []⟩)]
def TT (n : Nat) : Option TI := Eng.look types n
set_option maxRecDepth 100000 in
theorem TT_ok : TTok Try.prog TT := TTok_of_check (P := Try.prog) (l := types) (by kernel_rfl)
theorem mixed : Try.prog.follows .mixedOrders = true := by kernel_rfl
end Go.Proofs.Ytdphkaiijlekhaa
namespace Go.Proofs.Ytdphkaiijlekhaa
open Go Go.Eng
/-- The byte of a text, 0 beyond it. -/
def bt (s : List UInt8) (k : Nat) : Nat := (s[k]?.getD 0).toNat
theorem bt_eq (s : List UInt8) (k : Nat) : byteAt s (k : Int) = (bt s k : Int) := by
  unfold byteAt bt; simp
theorem bt_lt (s : List UInt8) (k : Nat) : bt s k < 256 := UInt8.toNat_lt _
def more (s : List UInt8) (k : Nat) : Prop := k < s.length ∧ ¬ bt s k = 0 ∧ bt s k ≤ 63 ∧ bt s k < s.length - k
instance (s : List UInt8) (k : Nat) : Decidable (more s k) := by unfold more; infer_instance
/-- Where the labels end that begin at k. -/
def endOf (s : List UInt8) : Nat → Nat → Nat
  | 0, k => k
  | m + 1, k => if more s k then endOf s m (k + 1 + bt s k) else k
def lastOf (s : List UInt8) : Nat := endOf s s.length 0
def At (s : List UInt8) (k : Nat) : Prop := k ≤ s.length ∧ ∃ m, s.length ≤ k + m ∧ endOf s m k = lastOf s
theorem At.zero (s : List UInt8) : At s 0 := ⟨Nat.zero_le _, s.length, by omega, rfl⟩
theorem At.next {s : List UInt8} {k : Nat} (h : At s k) (hm : more s k) : At s (k + 1 + bt s k) := by
  obtain ⟨h1, m, h2, h3⟩ := h
  have := hm
  obtain ⟨a1, a2, a3, a4⟩ := this
  cases m with
  | zero => omega
  | succ m => exact ⟨by omega, m, by omega, by rw [← h3]; simp [endOf, hm]⟩
theorem At.last {s : List UInt8} {k : Nat} (h : At s k) (hm : ¬ more s k) : k = lastOf s := by
  obtain ⟨h1, m, h2, h3⟩ := h
  rw [← h3]
  cases m <;> simp [endOf, hm]
def isName (s : List UInt8) : Prop := 0 < s.length ∧ s.length ≤ 255 ∧ lastOf s = s.length - 1 ∧ bt s (lastOf s) = 0
instance (s : List UInt8) : Decidable (isName s) := by unfold isName; infer_instance
theorem w64_in (n : Int) (h : -9223372036854775808 ≤ n ∧ n ≤ 9223372036854775807) : IntKind.i64.wrap n = n := by rw [IntKind.wrap_i64]; omega
set_option maxRecDepth 100000
set_option maxHeartbeats 2000000 in
theorem check_ok (s : List UInt8) : FnOk Try.prog 49 [.d (.str s)] (.d (.int .i64 (if isName s then 0 else 2))) := by
  refine fnOk_of_run (TT := TT) (IN := lookI [(104, Try.f104, 1), (153, Try.f153, 2)]) TT_ok ?_ mixed 1000 Try.func49 rfl (enters Try.func49 (by kernel_rfl) rfl) rfl 27 (by kernel_rfl) ?_
  · exact INok_cons (INok_cons INok_nil Try.func153 (by kernel_rfl) (by kernel_rfl)) Try.func104 (by kernel_rfl) (by kernel_rfl)
  conv => whnf
  refine ⟨fun h1 => ?_, fun h1 => ?_⟩
  · have : ¬ isName s := fun hn => by have a := hn.1; simp at h1; rw [h1] at a; simp at a
    exact congrArg (DV.int _) (by rw [if_neg this])
  have hpos : 0 < s.length := by
    rcases Nat.eq_zero_or_pos s.length with e | e
    · rw [e] at h1; cases h1
    · exact e
  conv => whnf
  refine ⟨fun h2 => ?_, fun h2 => ?_⟩
  · have : ¬ isName s := fun hn => by have a := hn.2.1; simp at h2; omega
    exact congrArg (DV.int _) (by rw [if_neg this])
  have hlen : s.length ≤ 255 := by simp at h2; omega
  conv => whnf
  refine .inv Nat (fun k => At s k) (fun k => [(3, .d (.int .i64 k))]) (fun k => [(0, .cells 3 [.d (.int .i64 k)])]) (fun k => s.length - k) ⟨0, [0, 1, 2], At.zero s, ?_⟩ ?_
  · conv => whnf
    repeat' (first | exact True.intro | exact rfl | refine And.intro ?_ ?_)
  intro k hk
  have hkl := hk.1
  have hby := bt_lt s k
  have hwb : IntKind.i64.wrap (byteAt s (k : Int)) = (bt s k : Int) := by rw [bt_eq, w64_in _ (by omega)]
  have hwl : IntKind.i64.wrap ((s.length : Int) - 1) = (s.length : Int) - 1 := w64_in _ (by omega)
  have key1 : ¬ more s k → (((k : Int) != IntKind.i64.wrap ((s.length : Int) - 1)) = true) → ¬ isName s := fun hm hne hn => by
    have := hk.last hm
    obtain ⟨_, _, a, _⟩ := hn
    rw [hwl] at hne
    simp at hne
    omega
  have key2 : ¬ more s k → (((k : Int) != IntKind.i64.wrap ((s.length : Int) - 1)) = false) → (bt s k = 0 ↔ isName s) ∧ k < s.length := fun hm hne => by
    have := hk.last hm
    rw [hwl] at hne
    simp at hne
    unfold isName
    rw [← this]
    omega
  conv => whnf
  refine ⟨fun hlt => ?_, fun hge => ?_⟩
  · have hlt' : k < s.length := by simpa using hlt
    conv => whnf
    refine ⟨by simp; omega, ?_⟩
    conv => whnf
    refine ⟨fun h0 => ?_, fun h0 => ?_⟩
    · have hm : ¬ more s k := fun hm => by rw [hwb] at h0; simp at h0; exact hm.2.1 h0
      conv => whnf
      refine ⟨fun e => congrArg (DV.int _) (by rw [if_neg (key1 hm e)]), fun e => ?_⟩
      obtain ⟨e1, e2⟩ := key2 hm e
      conv => whnf
      refine ⟨by simp; omega, ?_⟩
      conv => whnf
      refine ⟨fun hz => ?_, fun hz => ?_⟩
      · exact congrArg (DV.int _) (by rw [if_neg (fun hn => by rw [bt_eq] at hz; simp at hz; exact hz (e1.2 hn))])
      · exact congrArg (DV.int _) (by rw [if_pos (e1.1 (by rw [bt_eq] at hz; simpa using hz))])
    · have h0' : ¬ bt s k = 0 := by rw [hwb] at h0; simpa using h0
      conv => whnf
      refine ⟨fun h3 => ?_, fun h3 => ?_⟩
      · have hm : ¬ more s k := fun hm => by rw [hwb] at h3; simp at h3; have := hm.2.2.1; omega
        conv => whnf
        refine ⟨fun e => congrArg (DV.int _) (by rw [if_neg (key1 hm e)]), fun e => ?_⟩
        obtain ⟨e1, e2⟩ := key2 hm e
        conv => whnf
        refine ⟨by simp; omega, ?_⟩
        conv => whnf
        refine ⟨fun hz => ?_, fun hz => ?_⟩
        · exact congrArg (DV.int _) (by rw [if_neg (fun hn => by rw [bt_eq] at hz; simp at hz; exact hz (e1.2 hn))])
        · exact congrArg (DV.int _) (by rw [if_pos (e1.1 (by rw [bt_eq] at hz; simpa using hz))])
      · have h3' : bt s k ≤ 63 := by rw [hwb] at h3; simp at h3; omega
        conv => whnf
        have hws : IntKind.i64.wrap ((s.length : Int) - (k : Int)) = (s.length : Int) - k := w64_in _ (by omega)
        refine ⟨fun h4 => ?_, fun h4 => ?_⟩
        · have hm : ¬ more s k := fun hm => by rw [hwb, hws] at h4; simp at h4; have := hm.2.2.2; omega
          conv => whnf
          refine ⟨fun e => congrArg (DV.int _) (by rw [if_neg (key1 hm e)]), fun e => ?_⟩
          obtain ⟨e1, e2⟩ := key2 hm e
          conv => whnf
          refine ⟨by simp; omega, ?_⟩
          conv => whnf
          refine ⟨fun hz => ?_, fun hz => ?_⟩
          · exact congrArg (DV.int _) (by rw [if_neg (fun hn => by rw [bt_eq] at hz; simp at hz; exact hz (e1.2 hn))])
          · exact congrArg (DV.int _) (by rw [if_pos (e1.1 (by rw [bt_eq] at hz; simpa using hz))])
        · have hm : more s k := ⟨hlt', h0', h3', by rw [hwb, hws] at h4; simp at h4; omega⟩
          conv => whnf
          refine ⟨k + 1 + bt s k, [0, 1, 2], hk.next hm, by show s.length - (k + 1 + bt s k) < s.length - k; omega, ?_⟩
          have hnx : IntKind.i64.wrap ((k : Int) + IntKind.i64.wrap (1 + IntKind.i64.wrap (byteAt s (k : Int)))) = ((k + 1 + bt s k : Nat) : Int) := by rw [hwb, w64_in (1 + (bt s k : Int)) (by omega), w64_in _ (by omega)]; omega
          conv => whnf
          repeat' (first | exact True.intro | exact rfl | refine And.intro ?_ ?_)
          all_goals exact congrArg SV.d (congrArg (DV.int _) hnx)
  · have hm : ¬ more s k := fun hm => by have := hm.1; simp at hge; omega
    conv => whnf
    refine ⟨fun e => congrArg (DV.int _) (by rw [if_neg (key1 hm e)]), fun e => ?_⟩
    obtain ⟨e1, e2⟩ := key2 hm e
    conv => whnf
    refine ⟨by simp; omega, ?_⟩
    conv => whnf
    refine ⟨fun hz => ?_, fun hz => ?_⟩
    · exact congrArg (DV.int _) (by rw [if_neg (fun hn => by rw [bt_eq] at hz; simp at hz; exact hz (e1.2 hn))])
    · exact congrArg (DV.int _) (by rw [if_pos (e1.1 (by rw [bt_eq] at hz; simpa using hz))])
end Go.Proofs.Ytdphkaiijlekhaa
namespace Go.Proofs.Ytdphkaiijlekhaa
open Go Go.Eng
def low (b : UInt8) : UInt8 := if 65 ≤ b ∧ b ≤ 90 then b + 32 else b
def fold (s : List UInt8) : List UInt8 := s.map low
theorem low_nat (b : UInt8) : (low b).toNat = if 65 ≤ b.toNat ∧ b.toNat ≤ 90 then b.toNat + 32 else b.toNat := by
  unfold low
  have e1 : (65 ≤ b) ↔ 65 ≤ b.toNat := by rw [UInt8.le_iff_toNat_le]; rfl
  have e2 : (b ≤ 90) ↔ b.toNat ≤ 90 := by rw [UInt8.le_iff_toNat_le]; rfl
  simp only [e1, e2]
  split
  · rw [UInt8.toNat_add]
    have : (32 : UInt8).toNat = 32 := rfl
    omega
  · rfl
def mix (s : List UInt8) (k j : Nat) : Int := if j < k then ((low (s[j]?.getD 0)).toNat : Int) else (bt s j : Int)
set_option maxRecDepth 100000
set_option maxHeartbeats 2000000 in
theorem fold_ok (s : List UInt8) (hs : s.length < 9223372036854775808) : FnOk Try.prog 60 [.d (.str s)] (.d (.str (fold s))) := by
  refine fnOk_of_run (TT := TT) (IN := lookI []) TT_ok INok_nil mixed 1000 Try.func60 rfl (enters Try.func60 (by kernel_rfl) rfl) rfl 28 (by kernel_rfl) ?_
  conv => whnf
  refine .inv Nat (fun k => k ≤ s.length) (fun k => [(10, .d (.int .i64 k))]) (fun k => [(0, .row 5 1 s.length .no (fun j => [.int .u8 (mix s k j)]))]) (fun k => s.length - k) ⟨0, [0], by omega, ?_⟩ ?_
  · conv => whnf
    repeat' (first | exact True.intro | exact rfl | refine And.intro ?_ ?_)
    intro i hi
    simp [mix, bt_eq]
  intro k hk
  have hk1 : k < s.length → IntKind.i64.wrap ((k : Int) + 1) = ((k + 1 : Nat) : Int) := fun _ => by rw [w64_in _ (by omega)]; omega
  conv => whnf
  refine ⟨fun hlt => ?_, fun hge => ?_⟩
  · have hlt' : k < s.length := by simpa using hlt
    conv => whnf
    refine ⟨by simp; omega, ?_⟩
    have hmk : mix s k (Int.toNat (k : Int)) = (bt s k : Int) := by simp [mix]
    have hb := bt_lt s k
    conv => whnf
    have stay : ¬ (65 ≤ bt s k ∧ bt s k ≤ 90) → ∀ i, i < s.length → [DV.int IntKind.u8 (mix s k i)] = [DV.int IntKind.u8 (mix s (k + 1) i)] := fun hn i hi => by
      unfold mix
      by_cases e : i = k
      · subst e
        rw [if_neg (by omega), if_pos (by omega), low_nat, if_neg (by unfold bt at hn; exact hn)]
        rfl
      · by_cases e2 : i < k
        · rw [if_pos e2, if_pos (by omega)]
        · rw [if_neg e2, if_neg (by omega)]
    rw [hmk]
    refine ⟨fun h1 => ?_, fun h1 => ?_⟩
    · conv => whnf
      refine ⟨fun h2 => ?_, fun h2 => ?_⟩
      · conv => whnf
        refine ⟨by simp; omega, ?_⟩
        conv => whnf
        refine ⟨k + 1, [0], by omega, by show s.length - (k + 1) < s.length - k; omega, ?_⟩
        conv => whnf
        repeat' (first | exact True.intro | exact rfl | refine And.intro ?_ ?_)
        all_goals first
          | exact congrArg SV.d (congrArg (DV.int _) (hk1 hlt'))
          | exact stay (by simp at h1 h2; omega)
          | (intro i hi
             show oneF _ _ _ _ i = _
             unfold oneF mix
             simp at h1 h2
             by_cases e : i = k
             · subst e
               simp only [Int.toNat_natCast, if_true, putD, List.set_cons_zero]
               rw [if_pos (by omega), low_nat, if_pos (by unfold bt at h1 h2; omega), IntKind.wrap_u8]
               unfold bt at *
               congr 2
               omega
             · rw [if_neg (by simpa using e)]
               show [DV.int _ _] = [DV.int _ _]
               by_cases e2 : i < k
               · rw [if_pos e2, if_pos (by omega)]
               · rw [if_neg e2, if_neg (by omega)])
      · conv => whnf
        refine ⟨k + 1, [0], by omega, by show s.length - (k + 1) < s.length - k; omega, ?_⟩
        conv => whnf
        repeat' (first | exact True.intro | exact rfl | refine And.intro ?_ ?_)
        all_goals first
          | exact congrArg SV.d (congrArg (DV.int _) (hk1 hlt'))
          | exact stay (by simp at h1 h2; omega)
          | (intro i hi
             show oneF _ _ _ _ i = _
             unfold oneF mix
             simp at h1 h2
             by_cases e : i = k
             · subst e
               simp only [Int.toNat_natCast, if_true, putD, List.set_cons_zero]
               rw [if_pos (by omega), low_nat, if_pos (by unfold bt at h1 h2; omega), IntKind.wrap_u8]
               unfold bt at *
               congr 2
               omega
             · rw [if_neg (by simpa using e)]
               show [DV.int _ _] = [DV.int _ _]
               by_cases e2 : i < k
               · rw [if_pos e2, if_pos (by omega)]
               · rw [if_neg e2, if_neg (by omega)])
    · conv => whnf
      refine ⟨k + 1, [0], by omega, by show s.length - (k + 1) < s.length - k; omega, ?_⟩
      conv => whnf
      repeat' (first | exact True.intro | exact rfl | refine And.intro ?_ ?_)
      all_goals first
        | exact congrArg SV.d (congrArg (DV.int _) (hk1 hlt'))
        | exact stay (by simp at h1; omega)
        | (intro i hi
           show oneF _ _ _ _ i = _
           unfold oneF mix
           simp at h1
           by_cases e : i = k
           · subst e
             simp only [Int.toNat_natCast, if_true, putD, List.set_cons_zero]
             rw [if_pos (by omega), low_nat, if_pos (by unfold bt at h1; omega), IntKind.wrap_u8]
             unfold bt at *
             congr 2
             omega
           · rw [if_neg (by simpa using e)]
             show [DV.int _ _] = [DV.int _ _]
             by_cases e2 : i < k
             · rw [if_pos e2, if_pos (by omega)]
             · rw [if_neg e2, if_neg (by omega)])
  · have hke : k = s.length := by simp at hge; omega
    subst hke
    conv => whnf
    refine ⟨fun i _ => ⟨_, rfl⟩, ?_⟩
    conv => whnf
    refine congrArg DV.str ?_
    unfold bytesOf fold
    apply List.ext_getElem?
    intro i
    rw [List.getElem?_map, List.getElem?_map]
    by_cases hi : i < s.length
    · rw [List.getElem?_range hi, List.getElem?_eq_getElem hi]
      simp [mix, hi]
    · rw [List.getElem?_eq_none (by simp; omega), List.getElem?_eq_none (by omega)]
      rfl
end Go.Proofs.Ytdphkaiijlekhaa
namespace Go.Proofs.Ytdphkaiijlekhaa
open Go Go.Eng
def okL (l : List UInt8) : Prop := 1 ≤ l.length ∧ l.length ≤ 63
def lab (l : List UInt8) : List UInt8 := UInt8.ofNat l.length :: l
/-- The name of labels. -/
def mk : List (List UInt8) → List UInt8
  | [] => [0]
  | l :: ls => lab l ++ mk ls
theorem bt_drop (s : List UInt8) (k j : Nat) : bt (s.drop k) j = bt s (k + j) := by simp [bt]
theorem more_drop (s : List UInt8) (k : Nat) : more s k ↔ more (s.drop k) 0 := by
  unfold more
  rw [bt_drop, Nat.add_zero, List.length_drop]
  omega
theorem endOf_drop : ∀ (m : Nat) (s : List UInt8) (k : Nat), endOf s m k = k + endOf (s.drop k) m 0
  | 0, s, k => rfl
  | m + 1, s, k => by
    simp only [endOf]
    by_cases h : more s k
    · rw [if_pos h, if_pos ((more_drop s k).1 h), endOf_drop m s, endOf_drop m (s.drop k), bt_drop, List.drop_drop, show k + 0 = k from rfl]
      have e : k + (0 + 1 + bt s k) = k + 1 + bt s k := by omega
      rw [e]
      omega
    · rw [if_neg h, if_neg (fun e => h ((more_drop s k).2 e))]
      rfl
theorem toNat_ofNat {n : Nat} (h : n < 256) : (UInt8.ofNat n).toNat = n := by
  rw [UInt8.toNat_ofNat']; exact Nat.mod_eq_of_lt h
theorem bt_lab (l t : List UInt8) (h : okL l) : bt (lab l ++ t) 0 = l.length := by
  simp only [bt, lab, List.cons_append, List.getElem?_cons_zero, Option.getD_some]
  exact toNat_ofNat (by have := h.2; omega)
theorem lab_len (l : List UInt8) : (lab l).length = 1 + l.length := by simp [lab]; omega
theorem mk_pos (ls : List (List UInt8)) : 0 < (mk ls).length := by cases ls <;> simp [mk, lab]
theorem drop_lab (l t : List UInt8) : (lab l ++ t).drop (1 + l.length) = t := by
  rw [← lab_len l, List.drop_left]
theorem take_lab (l t : List UInt8) : (lab l ++ t).take (1 + l.length) = lab l := by
  rw [← lab_len l, List.take_left]
theorem name_of : ∀ (m : Nat) (s : List UInt8), 0 < s.length → endOf s m 0 = s.length - 1 → bt s (s.length - 1) = 0 → ∃ ls, (∀ l ∈ ls, okL l) ∧ s = mk ls
  | m, s, h0, h1, h2 => by
    have leaf : s.length = 1 → ∃ ls, (∀ l ∈ ls, okL l) ∧ s = mk ls := fun hl => by
      match s, hl with
      | [b], _ =>
        refine ⟨[], (fun l h => by cases h), ?_⟩
        have : b.toNat = 0 := by simpa [bt] using h2
        rw [mk, UInt8.toNat_inj.1 (show b.toNat = (0 : UInt8).toNat from this)]
    cases m with
    | zero => exact leaf (by simp [endOf] at h1; omega)
    | succ m =>
      simp only [endOf] at h1
      split at h1
      · rename_i hm
        obtain ⟨a1, a2, a3, a4⟩ := hm
        rw [endOf_drop] at h1
        have hb : 1 + bt s 0 < s.length := by omega
        obtain ⟨ls, i1, i2⟩ := name_of m (s.drop (0 + 1 + bt s 0)) (by rw [List.length_drop]; omega) (by rw [List.length_drop]; omega) (by
          rw [bt_drop, List.length_drop, show 0 + 1 + bt s 0 + (s.length - (0 + 1 + bt s 0) - 1) = s.length - 1 by omega]
          exact h2)
        refine ⟨(s.drop 1).take (bt s 0) :: ls, fun l hl => ?_, ?_⟩
        · rcases List.mem_cons.1 hl with rfl | hl
          · have : ((s.drop 1).take (bt s 0)).length = bt s 0 := by simp; omega
            unfold okL
            omega
          · exact i1 l hl
        · rw [mk, ← i2]
          have hlen : ((s.drop 1).take (bt s 0)).length = bt s 0 := by simp; omega
          unfold lab
          rw [hlen]
          match s, a1 with
          | b :: r, _ =>
            have e : bt (b :: r) 0 = b.toNat := by simp [bt]
            rw [e]
            simp [show 0 + 1 + b.toNat = b.toNat + 1 by omega]
      · exact leaf (by omega)
theorem endOf_mk (ls : List (List UInt8)) (h : ∀ l ∈ ls, okL l) : ∀ m, (mk ls).length ≤ m → endOf (mk ls) m 0 = (mk ls).length - 1 := by
  induction ls with
  | nil =>
    intro m hm
    cases m with
    | zero => rfl
    | succ m =>
      show (if more [0] 0 then endOf [0] m (0 + 1 + bt [0] 0) else 0) = 0
      exact if_neg (by rintro ⟨_, h2, _⟩; exact h2 rfl)
  | cons l ls ih =>
    intro m hm
    have hl := h l (List.mem_cons_self ..)
    have hb := bt_lab l (mk ls) hl
    have hlen : (mk (l :: ls)).length = 1 + l.length + (mk ls).length := by simp [mk, lab_len]
    have hp := mk_pos ls
    cases m with
    | zero => omega
    | succ m =>
      simp only [endOf]
      show (if more (mk (l :: ls)) 0 then endOf (mk (l :: ls)) m (0 + 1 + bt (mk (l :: ls)) 0) else 0) = _
      have hbm : bt (mk (l :: ls)) 0 = l.length := hb
      rw [if_pos ⟨by omega, by rw [hbm]; have := hl.1; omega, by rw [hbm]; exact hl.2, by rw [hbm]; omega⟩, hbm, endOf_drop, Nat.zero_add]
      have : (mk (l :: ls)).drop (1 + l.length) = mk ls := drop_lab l (mk ls)
      rw [this, ih (fun x hx => h x (List.mem_cons_of_mem _ hx)) m (by omega)]
      omega
theorem last_mk (ls : List (List UInt8)) : bt (mk ls) ((mk ls).length - 1) = 0 := by
  induction ls with
  | nil => rfl
  | cons l ls ih =>
    have hlen : (mk (l :: ls)).length = 1 + l.length + (mk ls).length := by simp [mk, lab_len]
    have hp := mk_pos ls
    have e : (mk (l :: ls)).drop (1 + l.length) = mk ls := drop_lab l (mk ls)
    have := bt_drop (mk (l :: ls)) (1 + l.length) ((mk ls).length - 1)
    rw [e, ih] at this
    rw [hlen, show 1 + l.length + (mk ls).length - 1 = 1 + l.length + ((mk ls).length - 1) by omega]
    exact this.symm
/-- A name is what labels make. -/
theorem isName_iff (s : List UInt8) : isName s ↔ s.length ≤ 255 ∧ ∃ ls, (∀ l ∈ ls, okL l) ∧ s = mk ls := by
  constructor
  · rintro ⟨h1, h2, h3, h4⟩
    exact ⟨h2, name_of s.length s h1 h3 (by rw [← h3]; exact h4)⟩
  · rintro ⟨h1, ls, h2, rfl⟩
    have := endOf_mk ls h2 (mk ls).length (Nat.le_refl _)
    exact ⟨mk_pos ls, h1, this, by unfold lastOf; rw [this]; exact last_mk ls⟩
/-- Labels are told by their name. -/
theorem mk_inj : ∀ {a b : List (List UInt8)}, (∀ l ∈ a, okL l) → (∀ l ∈ b, okL l) → mk a = mk b → a = b
  | [], [], _, _, _ => rfl
  | [], l :: b, _, hb, h => by
    have h1 := hb l (List.mem_cons_self ..)
    have := bt_lab l (mk b) h1
    rw [show lab l ++ mk b = mk (l :: b) from rfl, ← h] at this
    have h2 := h1.1
    have : (0 : Nat) = l.length := this
    omega
  | l :: a, [], ha, _, h => by
    have h1 := ha l (List.mem_cons_self ..)
    have := bt_lab l (mk a) h1
    rw [show lab l ++ mk a = mk (l :: a) from rfl, h] at this
    have h2 := h1.1
    have : (0 : Nat) = l.length := this
    omega
  | l :: a, k :: b, ha, hb, h => by
    have h1 := bt_lab l (mk a) (ha l (List.mem_cons_self ..))
    have h2 := bt_lab k (mk b) (hb k (List.mem_cons_self ..))
    have hlen : l.length = k.length := by
      rw [← h1, ← h2]
      show bt (mk (l :: a)) 0 = bt (mk (k :: b)) 0
      rw [h]
    have e1 : lab l = lab k := by
      have := congrArg (List.take (1 + l.length)) h
      rw [show mk (l :: a) = lab l ++ mk a from rfl, take_lab, hlen, show mk (k :: b) = lab k ++ mk b from rfl, take_lab] at this
      exact this
    have e2 : mk a = mk b := by
      have := congrArg (List.drop (1 + l.length)) h
      rw [show mk (l :: a) = lab l ++ mk a from rfl, drop_lab, hlen, show mk (k :: b) = lab k ++ mk b from rfl, drop_lab] at this
      exact this
    have e3 : l = k := (List.cons.inj e1).2
    rw [e3, mk_inj (fun x hx => ha x (List.mem_cons_of_mem _ hx)) (fun x hx => hb x (List.mem_cons_of_mem _ hx)) e2]
end Go.Proofs.Ytdphkaiijlekhaa
namespace Go.Proofs
open Go.Shelf
def Try.lays156_ren : Go.Shelf.Ren := ⟨fun | 156 => 125 | 165 => 161 | 166 => 162 | 169 => 163 | 240 => 178 | 241 => 179 | 276 => 183 | 277 => 184 | n => n, fun | 31 => 31 | 9 => 9 | 3 => 3 | 4 => 4 | 0 => 0 | 20 => 20 | 72 => 246 | 76 => 250 | 70 => 244 | 37 => 181 | 75 => 249 | 127 => 264 | 164 => 266 | 5 => 5 | 80 => 162 | n => n, fun | n => n⟩
theorem Try.lays156 : Go.Proofs.Lays.n156 Try.prog Try.lays156_ren := {
  mixed := by kernel_rfl
  f156 := Try.func125.trans (congrArg some (by kernel_rfl))
  f165 := Try.func161.trans (congrArg some (by kernel_rfl))
  f166 := Try.func162.trans (congrArg some (by kernel_rfl))
  f169 := Try.func163.trans (congrArg some (by kernel_rfl))
  f240 := Try.func178.trans (congrArg some (by kernel_rfl))
  f241 := Try.func179.trans (congrArg some (by kernel_rfl))
  f276 := Try.func183.trans (congrArg some (by kernel_rfl))
  f277 := Try.func184.trans (congrArg some (by kernel_rfl))
  t0 := Try.underlying0
  a0 := Try.isAgg0
  z0 := Try.sizeOf0
  v0 := Try.zeroValue0
  t3 := Try.underlying3
  a3 := Try.isAgg3
  z3 := Try.sizeOf3
  v3 := Try.zeroValue3
  t4 := Try.underlying4
  a4 := Try.isAgg4
  z4 := Try.sizeOf4
  v4 := Try.zeroValue4
  t9 := Try.underlying9
  a9 := Try.isAgg9
  z9 := Try.sizeOf9
  v9 := Try.zeroValue9
  t20 := Try.underlying20
  a20 := Try.isAgg20
  z20 := Try.sizeOf20
  v20 := Try.zeroValue20
  t31 := Try.underlying31
  a31 := Try.isAgg31
  z31 := Try.sizeOf31
  v31 := Try.zeroValue31
  t37 := Try.underlying181
  a37 := Try.isAgg181
  z37 := Try.sizeOf181
  v37 := Try.zeroValue181
  t70 := Try.underlying244
  a70 := Try.isAgg244
  z70 := Try.sizeOf244
  v70 := Try.zeroValue244
  t72 := Try.underlying246
  a72 := Try.isAgg246
  z72 := Try.sizeOf246
  v72 := Try.zeroValue246
  t75 := Try.underlying249
  a75 := Try.isAgg249
  z75 := Try.sizeOf249
  v75 := Try.zeroValue249
  t76 := Try.underlying250
  a76 := Try.isAgg250
  z76 := Try.sizeOf250
  v76 := Try.zeroValue250
  t127 := Try.underlying264
  a127 := Try.isAgg264
  z127 := Try.sizeOf264
  v127 := Try.zeroValue264
  t164 := Try.underlying266
  a164 := Try.isAgg266
  z164 := Try.sizeOf266
  v164 := Try.zeroValue266 }
theorem Try.Builder_Extra_156 : Builder.Extra Try.prog Try.lays156_ren := {
  sizeBuilder := by kernel_rfl
  liesBuilder := by kernel_rfl
  t5 := Try.underlying5
  a5 := Try.isAgg5
  z5 := Try.sizeOf5
  v5 := Try.zeroValue5
  infoByte := by kernel_rfl
  cellsByte := by kernel_rfl
  sizeByte := by kernel_rfl
  neB5 := by decide }
open Go.RowKit in
/-- No element: the empty string; the world is as it was. (Whatever the slice's address and capacity: a nil slice too.) (LAID: no walk: one application.) -/
theorem Try.strings_Join_none (a : Option Addr) (c : Nat) (sep : ByteArray) (w : World) :
    Calls Try.prog 125 #[.slice a 0 c, .string sep] w fun e w' => e = .returned (.string ⟨#[]⟩) ∧ w' = w := Any.strings_Join_none Try.lays156 Try.Builder_Extra_156 a c sep w
open Go.RowKit in
/-- strings.Join: "Join concatenates the elements of its first argument to create a single string. The separator string sep is placed between elements in the resulting string.": HOWEVER MANY ELEMENTS. Below the heap's end the world is as it was. (LAID: no walk: one application.) -/
theorem Try.strings_Join (bk o c : Nat) (xs : List ByteArray) (sep : ByteArray) (w : World) (hcells : ∀ (j : Nat) x, xs[j]? = some x → w.cell? ⟨bk, o + j, none⟩ = some (.string x)) (hbk : bk < w.heap.size) (hN : xs.length ≤ 140737488355328) (hcap : xs.length ≤ c) (hlen : (Lib.join (xs.map (·.data.toList)) sep.data.toList).length ≤ 140737488355328) :
    Calls Try.prog 125 #[.slice (some ⟨bk, o, none⟩) xs.length c, .string sep] w fun e w' => e = .returned (.string ⟨(Lib.join (xs.map (·.data.toList)) sep.data.toList).toArray⟩) ∧ Below w.heap.size w w' := Any.strings_Join Try.lays156 Try.Builder_Extra_156 bk o c xs sep w hcells hbk hN hcap hlen
def Try.lays213_ren : Go.Shelf.Ren := ⟨fun | 213 => 155 | 265 => 175 | n => n, fun | 9 => 9 | 3 => 3 | n => n, fun | n => n⟩
theorem Try.lays213 : Go.Proofs.Lays.n213 Try.prog Try.lays213_ren := {
  mixed := by kernel_rfl
  f213 := Try.func155.trans (congrArg some (by kernel_rfl))
  f265 := Try.func175.trans (congrArg some (by kernel_rfl))
  t3 := Try.underlying3
  a3 := Try.isAgg3
  z3 := Try.sizeOf3
  v3 := Try.zeroValue3
  t9 := Try.underlying9
  a9 := Try.isAgg9
  z9 := Try.sizeOf9
  v9 := Try.zeroValue9 }
open Go.RowKit in
/-- internal/bytealg.CompareString (what strings.Compare calls): IT RETURNS 'Lib.compareBytes a b'; the world is as it was. (LAID: no walk: one application.) -/
theorem Try.bytealg_CompareString (a b : ByteArray) (w : World) :
    Calls Try.prog 155 #[.string a, .string b] w fun e w' => e = .returned (.int .i64 (Lib.compareBytes a.data.toList b.data.toList)) ∧ w' = w := Any.bytealg_CompareString Try.lays213 a b w
def Try.lays106_ren : Go.Shelf.Ren := ⟨fun | 106 => 113 | 213 => 155 | 265 => 175 | n => n, fun | 9 => 9 | 3 => 3 | n => n, fun | n => n⟩
theorem Try.lays106 : Go.Proofs.Lays.n106 Try.prog Try.lays106_ren := {
  mixed := by kernel_rfl
  f106 := Try.func113.trans (congrArg some (by kernel_rfl))
  f213 := Try.func155.trans (congrArg some (by kernel_rfl))
  f265 := Try.func175.trans (congrArg some (by kernel_rfl))
  t3 := Try.underlying3
  a3 := Try.isAgg3
  z3 := Try.sizeOf3
  v3 := Try.zeroValue3
  t9 := Try.underlying9
  a9 := Try.isAgg9
  z9 := Try.sizeOf9
  v9 := Try.zeroValue9 }
open Go.RowKit in
/-- strings.Compare: "Compare returns an integer comparing two strings lexicographically. The result will be 0 if a == b, -1 if a < b, and +1 if a > b.": IT RETURNS 'Lib.compareBytes a b'; the world is as it was. (LAID: no walk: one application.) -/
theorem Try.strings_Compare (a b : ByteArray) (w : World) :
    Calls Try.prog 113 #[.string a, .string b] w fun e w' => e = .returned (.int .i64 (Lib.compareBytes a.data.toList b.data.toList)) ∧ w' = w := Any.strings_Compare Try.lays106 a b w
end Go.Proofs
namespace Go.Proofs.Ytdphkaiijlekhaa
open Go Go.Eng
/-- How many bytes the name has with which s begins from k on; 0: there is none. -/
def firstF (s : List UInt8) : Nat → Nat → Nat
  | 0, _ => 0
  | m + 1, k => if k < s.length ∧ k < 255 then (if bt s k = 0 then (if isName (s.take (k + 1)) then k + 1 else 0) else firstF s m (k + 1 + bt s k)) else 0
def firstN (s : List UInt8) : Nat := firstF s 256 0
def FAt (s : List UInt8) (k : Nat) : Prop := k ≤ 510 ∧ ∃ m, 256 ≤ k + m ∧ firstF s m k = firstN s
theorem FAt.zero (s : List UInt8) : FAt s 0 := ⟨by omega, 256, by omega, rfl⟩
theorem FAt.step {s : List UInt8} {k : Nat} (h : FAt s k) (h1 : k < s.length) (h2 : k < 255) : (firstN s = if bt s k = 0 then (if isName (s.take (k + 1)) then k + 1 else 0) else firstN s) ∧ (bt s k ≠ 0 → FAt s (k + 1 + bt s k)) := by
  obtain ⟨hk, m, hm, e⟩ := h
  cases m with
  | zero => omega
  | succ m =>
    simp only [firstF, h1, h2, and_self, if_true] at e
    have := bt_lt s k
    refine ⟨?_, fun hb => ⟨by omega, m, by omega, ?_⟩⟩
    · split
      · rename_i hb; rw [if_pos hb] at e; exact e.symm
      · rfl
    · rw [if_neg hb] at e; exact e
theorem FAt.last {s : List UInt8} {k : Nat} (h : FAt s k) (h1 : ¬ (k < s.length ∧ k < 255)) : firstN s = 0 := by
  obtain ⟨hk, m, hm, e⟩ := h
  rw [← e]
  cases m with
  | zero => rfl
  | succ m => simp only [firstF, if_neg h1]
theorem brT {b : Bool} {p q : Prop} (h : b = true) (hp : p) : (b = true → p) ∧ (b = false → q) := ⟨fun _ => hp, fun e => (by rw [h] at e; cases e)⟩
theorem brF {b : Bool} {p q : Prop} (h : b = false) (hq : q) : (b = true → p) ∧ (b = false → q) := ⟨fun e => (by rw [h] at e; cases e), fun _ => hq⟩
set_option maxRecDepth 100000
set_option maxHeartbeats 2000000 in
theorem first_ok (s : List UInt8) : FnOk Try.prog 160 [.d (.str s)] (.d (.int .i64 (firstN s))) := by
  refine fnOk_of_run (TT := TT) (IN := lookI []) TT_ok INok_nil mixed 1000 Try.func160 rfl (enters Try.func160 (by kernel_rfl) rfl) rfl 30 (by kernel_rfl) ?_
  conv => whnf
  refine .inv Nat (fun k => FAt s k) (fun k => [(3, .d (.int .i64 k))]) (fun k => []) (fun k => 600 - k) ⟨0, [], FAt.zero s, ?_⟩ ?_
  · conv => whnf
    repeat' (first | exact True.intro | exact rfl | refine And.intro ?_ ?_)
  intro k hk
  have hk1 := hk.1
  have hby := bt_lt s k
  conv => whnf
  refine ⟨fun hlt => ?_, fun hge => ?_⟩
  · conv => whnf
    refine ⟨fun hlt2 => ?_, fun hge2 => ?_⟩
    · have h1 : k < s.length := by simpa using hlt
      have h2 : k < 255 := by simp at hlt2; omega
      obtain ⟨e1, e2⟩ := hk.step h1 h2
      conv => whnf
      refine ⟨by simp; omega, ?_⟩
      conv => whnf
      rw [bt_eq]
      refine ⟨fun hb => ?_, fun hb => ?_⟩
      · have hb' : bt s k ≠ 0 := by simpa using hb
        conv => whnf
        refine ⟨by simp; omega, ?_⟩
        conv => whnf
        refine ⟨k + 1 + bt s k, [], e2 hb', by show 600 - (k + 1 + bt s k) < 600 - k; omega, ?_⟩
        have hnx : IntKind.i64.wrap ((k : Int) + IntKind.i64.wrap (1 + IntKind.i64.wrap (byteAt s (k : Int)))) = ((k + 1 + bt s k : Nat) : Int) := by simp (disch := omega) only [bt_eq, w64_in]; omega
        conv => whnf
        repeat' (first | exact True.intro | exact rfl | refine And.intro ?_ ?_)
        all_goals exact congrArg SV.d (congrArg (DV.int _) hnx)
      · have hb' : bt s k = 0 := by simpa using hb
        rw [if_pos hb'] at e1
        have hw : IntKind.i64.wrap ((k : Int) + 1) = ((k + 1 : Nat) : Int) := by rw [w64_in _ (by omega)]; omega
        conv => whnf
        rw [hw]
        refine ⟨by omega, ?_⟩
        conv => whnf
        refine .one (.data _ (check_ok _) rfl rfl ?_)
        have hsub : sub s 0 ((k + 1 : Nat) : Int) = s.take (k + 1) := by simp [sub]
        rw [hsub]
        by_cases hn : isName (s.take (k + 1))
        · rw [if_pos hn] at e1 ⊢
          conv => whnf
          refine brF (by decide) ?_
          conv => whnf
          refine congrArg (DV.int _) ?_
          rw [e1, hw]
        · rw [if_neg hn] at e1 ⊢
          conv => whnf
          refine brT (by decide) ?_
          conv => whnf
          exact congrArg (DV.int _) (by rw [e1]; rfl)
    · conv => whnf
      exact congrArg (DV.int _) (by rw [hk.last (by simp at hge2; omega)]; rfl)
  · conv => whnf
    exact congrArg (DV.int _) (by rw [hk.last (by simp at hge; omega)]; rfl)
/-- The texts of which data are made. -/
def textsF : Nat → List UInt8 → Option (List (List UInt8))
  | _, [] => some []
  | 0, _ :: _ => none
  | m + 1, a :: r => if a.toNat ≤ r.length then (textsF m (r.drop a.toNat)).map (r.take a.toNat :: ·) else none
def textsOf (s : List UInt8) : Option (List (List UInt8)) := textsF s.length s
def textsOk (s : List UInt8) : Bool := match textsOf s with
  | some l => decide (0 < l.length)
  | none => false
/-- A row of texts. -/
def strs (l : List (List UInt8)) (i : Nat) : List DV := [.str (l[i]?.getD [])]
theorem strs_cat (l : List (List UInt8)) (x : List UInt8) (g : Nat → List DV) (hg : g 0 = [.str x]) : ∀ i, i < l.length + 1 → catF l.length (strs l) g i = strs (l ++ [x]) i := fun i hi => by
  unfold catF strs
  split
  · rename_i h; rw [List.getElem?_append_left h]
  · rename_i h
    have : i = l.length := by omega
    subst this
    simp [hg]
def TAt (s : List UInt8) (k : Nat) (l : List (List UInt8)) : Prop := k ≤ s.length ∧ l.length ≤ k ∧ ∃ m, s.length ≤ k + m ∧ (textsF m (s.drop k)).map (l ++ ·) = textsOf s
theorem TAt.zero (s : List UInt8) : TAt s 0 [] := ⟨Nat.zero_le _, Nat.zero_le _, s.length, by omega, by simp [textsOf]⟩
theorem TAt.step {s : List UInt8} {k : Nat} {l : List (List UInt8)} (h : TAt s k l) (hk : k < s.length) : (s.length < k + 1 + bt s k → textsOf s = none) ∧ (k + 1 + bt s k ≤ s.length → TAt s (k + 1 + bt s k) (l ++ [(s.drop (k + 1)).take (bt s k)])) := by
  obtain ⟨h1, h2, m, h3, h4⟩ := h
  have hd : s.drop k = s[k] :: s.drop (k + 1) := List.drop_eq_getElem_cons hk
  have hb : bt s k = s[k].toNat := by simp [bt, hk]
  cases m with
  | zero => omega
  | succ m =>
    rw [hd] at h4
    simp only [textsF, List.length_drop, ← hb] at h4
    refine ⟨fun hlt => ?_, fun hle => ⟨hle, by simp; omega, m, by omega, ?_⟩⟩
    · rw [if_neg (by omega)] at h4
      simpa using h4.symm
    · rw [if_pos (by omega), List.drop_drop] at h4
      rw [← h4]
      simp [Function.comp_def]
theorem TAt.last {s : List UInt8} {k : Nat} {l : List (List UInt8)} (h : TAt s k l) (hk : k = s.length) : textsOf s = some l := by
  obtain ⟨h1, h2, m, h3, h4⟩ := h
  rw [← h4, hk, List.drop_length]
  cases m <;> simp [textsF]
set_option maxHeartbeats 2000000 in
theorem texts_ok (s : List UInt8) (hs : s.length ≤ 4096) : FnOk Try.prog 121 [.d (.str s)] (.tup [.any, .d (.bool (textsOk s))]) := by
  refine fnOk_of_run (TT := TT) (IN := lookI []) TT_ok INok_nil mixed 1000 Try.func121 rfl (enters Try.func121 (by kernel_rfl) rfl) rfl 28 (by kernel_rfl) ?_
  conv => whnf
  refine .nilT 4 9 1 (fun _ => []) _ _ rfl ?_
  conv => whnf
  refine .inv (Nat × List (List UInt8)) (fun p => TAt s p.1 p.2) (fun p => [(0, .d (.str (s.drop p.1))), (4, .all 0)]) (fun p => [(0, .row 9 1 p.2.length .iff (strs p.2))]) (fun p => s.length - p.1) ⟨(0, []), [0], TAt.zero s, ?_⟩ ?_
  · conv => whnf
    repeat' (first | exact True.intro | exact rfl | refine And.intro ?_ ?_)
    intro i hi
    exact absurd hi (by simp)
  intro p hk
  have hk0 : p.1 ≤ s.length := hk.1
  have hk2 : p.2.length ≤ p.1 := hk.2.1
  have hby := bt_lt s p.1
  have hlen : (s.drop p.1).length = s.length - p.1 := by simp
  conv => whnf
  refine ⟨fun hne => ?_, fun heq => ?_⟩
  · have hlt : p.1 < s.length := by
      rcases Nat.lt_or_ge p.1 s.length with e | e
      · exact e
      · rw [List.drop_eq_nil_of_le e] at hne; simp at hne
    obtain ⟨e1, e2⟩ := TAt.step hk hlt
    have hb0 : byteAt (s.drop p.1) 0 = (bt s p.1 : Int) := by
      rw [show (0 : Int) = ((0 : Nat) : Int) from rfl, bt_eq]
      simp [bt]
    conv => whnf
    refine ⟨by omega, ?_⟩
    have hsz : IntKind.i64.wrap (1 + IntKind.i64.wrap (byteAt (s.drop p.1) 0)) = ((1 + bt s p.1 : Nat) : Int) := by rw [hb0]; simp (disch := omega) only [w64_in]; omega
    conv => whnf
    rw [hsz]
    refine ⟨fun hgt => ?_, fun hle => ?_⟩
    · conv => whnf
      refine ⟨True.intro, ?_, True.intro⟩
      have : textsOk s = false := by unfold textsOk; rw [e1 (by simp at hgt; omega)]
      rw [this]
      exact rfl
    · have hle' : p.1 + 1 + bt s p.1 ≤ s.length := by simp at hle; omega
      conv => whnf
      refine ⟨by omega, ?_⟩
      conv => whnf
      refine ⟨by omega, ?_⟩
      conv => whnf
      refine ⟨by omega, ?_⟩
      conv => whnf
      refine ⟨(p.1 + 1 + bt s p.1, p.2 ++ [(s.drop (p.1 + 1)).take (bt s p.1)]), [2], e2 hle', by show s.length - (p.1 + 1 + bt s p.1) < s.length - p.1; omega, ?_⟩
      conv => whnf
      repeat' (first | exact True.intro | exact rfl | refine And.intro ?_ ?_)
      · refine congrArg SV.d (congrArg DV.str ?_)
        show sub (s.drop p.1) _ _ = s.drop (p.1 + 1 + bt s p.1)
        simp only [sub, Int.toNat_natCast, List.drop_drop]
        rw [List.take_of_length_le (by simp; omega)]
        congr 1
        omega
      · simp
      · refine strs_cat _ _ _ ?_
        show [DV.str _] = [DV.str _]
        congr 2
        simp only [sub, Int.toNat_natCast, List.drop_drop]
        rw [show (1 : Int).toNat = 1 from rfl]
        congr 1
        omega
  · have hke : p.1 = s.length := by
      simp at heq
      omega
    conv => whnf
    refine ⟨True.intro, ?_, True.intro⟩
    have : textsOk s = decide (0 < p.2.length) := by unfold textsOk; rw [TAt.last hk hke]
    rw [this]
    refine congrArg DV.bool ?_
    simp
theorem DEq_refl (x : DV) : DEq x x := by
  cases x <;> simp [DEq]
theorem firstF_le (s : List UInt8) : ∀ m k, firstF s m k ≤ s.length ∧ firstF s m k ≤ 255 := by
  intro m
  induction m with
  | zero => intro k; simp [firstF]
  | succ m ih =>
    intro k
    simp only [firstF]
    split
    · split
      · split
        · omega
        · omega
      · exact ih _
    · omega
theorem firstN_le (s : List UInt8) : firstN s ≤ s.length ∧ firstN s ≤ 255 := firstF_le s _ _
/-- The names with which bytes begin, and what stands behind them. -/
def namesF : Nat → List UInt8 → Option (List (List UInt8) × List UInt8)
  | 0, s => some ([], s)
  | n + 1, s => if firstN s = 0 then none else (namesF n (s.drop (firstN s))).map (fun p => (s.take (firstN s) :: p.1, p.2))
def cutF (a n c : Nat) (s : List UInt8) : Option (List UInt8 × List (List UInt8) × List UInt8) :=
  if s.length < 2 * a then none else (namesF n (s.drop (2 * a))).bind fun p => if p.2.length = 4 * c then some (s.take (2 * a), p.1, p.2) else none
def partsV (x : List UInt8) (l : List (List UInt8)) (r : List UInt8) : SV := .agg [.d (.str x), .d (.sl (Nat.beq l.length 0) l.length 1 (strs l)), .d (.str r)]
def noParts : SV := .agg [.d (.str []), nilS, .d (.str [])]
def cutR : Option (List UInt8 × List (List UInt8) × List UInt8) → SV
  | none => .tup [noParts, .d .ff]
  | some (x, l, r) => .tup [partsV x l r, .d .tt]
/-- Behind i names. -/
structure NAt (n : Nat) (s : List UInt8) (i : Nat) (l : List (List UInt8)) (r : List UInt8) : Prop where
  le : i ≤ n
  len : l.length = i
  short : r.length ≤ s.length
  eq : (namesF (n - i) r).map (fun p => (l ++ p.1, p.2)) = namesF n s
theorem NAt.zero (n : Nat) (s : List UInt8) : NAt n s 0 [] s := ⟨Nat.zero_le _, rfl, Nat.le_refl _, by simp⟩
theorem NAt.step {n : Nat} {s : List UInt8} {i : Nat} {l : List (List UInt8)} {r : List UInt8} (h : NAt n s i l r) (hi : i < n) : (firstN r = 0 → namesF n s = none) ∧ (firstN r ≠ 0 → NAt n s (i + 1) (l ++ [r.take (firstN r)]) (r.drop (firstN r))) := by
  have e := h.eq
  rw [show n - i = (n - (i + 1)) + 1 from by omega] at e
  simp only [namesF] at e
  refine ⟨fun h0 => by rw [if_pos h0] at e; simpa using e.symm, fun h0 => ⟨hi, by simp [h.len], by have := h.short; simp; omega, ?_⟩⟩
  rw [if_neg h0] at e
  rw [← e]
  simp [Function.comp_def]
theorem NAt.last {n : Nat} {s : List UInt8} {l : List (List UInt8)} {r : List UInt8} (h : NAt n s n l r) : namesF n s = some (l, r) := by
  rw [← h.eq]
  simp [namesF]
set_option maxHeartbeats 4000000 in
theorem cut_ok (a n c : Nat) (ha : a ≤ 100) (hn : n ≤ 100) (hc : c ≤ 100) (s : List UInt8) : FnOk Try.prog 123 [.agg [.d (.int .i64 a), .d (.int .i64 n), .d (.int .i64 c)], .d (.str s)] (cutR (cutF a n c s)) := by
  refine fnOk_of_run (TT := TT) (IN := lookI []) TT_ok INok_nil mixed 1000 Try.func123 rfl (enters Try.func123 (by kernel_rfl) rfl) rfl 56 (by kernel_rfl) ?_
  have h2a : IntKind.i64.wrap (2 * (a : Int)) = ((2 * a : Nat) : Int) := by rw [w64_in _ (by omega)]; omega
  have h4c : IntKind.i64.wrap (4 * (c : Int)) = ((4 * c : Nat) : Int) := by rw [w64_in _ (by omega)]; omega
  conv => whnf
  rw [h2a]
  refine ⟨fun hlt => ?_, fun hge => ?_⟩
  · have : cutF a n c s = none := by unfold cutF; rw [if_pos (by simp at hlt; omega)]
    rw [this]
    conv => whnf
    repeat' (first | exact True.intro | exact rfl | exact Or.inl rfl | exact Or.inr rfl | exact fun _ _ => rfl | refine And.intro ?_ ?_)
  · have hge' : 2 * a ≤ s.length := by simp at hge; omega
    conv => whnf
    rw [h2a]
    refine ⟨by omega, ?_⟩
    conv => whnf
    rw [h2a]
    refine ⟨by omega, ?_⟩
    conv => whnf
    refine .nilC 2 1 9 1 (fun _ => []) _ _ _ _ rfl rfl ?_
    conv => whnf
    have hr0 : sub s ((2 * a : Nat) : Int) (s.length : Int) = s.drop (2 * a) := by
      simp only [sub, Int.toNat_natCast]
      rw [List.take_of_length_le (by simp)]
    have hx0 : sub s 0 ((2 * a : Nat) : Int) = s.take (2 * a) := by simp only [sub, Int.toNat_natCast]; simp
    rw [hr0, hx0]
    refine .inv (Nat × List (List UInt8) × List UInt8) (fun p => NAt n (s.drop (2 * a)) p.1 p.2.1 p.2.2) (fun p => [(7, .d (.str p.2.2)), (29, .d (.int .i64 p.1))]) (fun p => [(2, .cells 198 [.d (.str (s.take (2 * a))), .all 3, .d (.str [])]), (3, .row 9 1 p.2.1.length .iff (strs p.2.1))]) (fun p => n - p.1) ⟨(0, [], s.drop (2 * a)), [0, 1, 2, 3], NAt.zero _ _, ?_⟩ ?_
    · conv => whnf
      repeat' (first | exact True.intro | exact rfl | refine And.intro ?_ ?_)
      intro i hi
      omega
    intro p hp
    have hp1 := hp.le
    have hp2 := hp.len
    have hp3 := hp.short
    have hf := firstN_le p.2.2
    simp only [List.length_drop] at hp3
    conv => whnf
    refine ⟨fun hlt => ?_, fun hge => ?_⟩
    · have hi : p.1 < n := by simpa using hlt
      obtain ⟨e1, e2⟩ := hp.step hi
      conv => whnf
      refine .one (.data _ (first_ok _) rfl rfl ?_)
      conv => whnf
      refine ⟨fun h0 => ?_, fun h0 => ?_⟩
      · have h0' : firstN p.2.2 = 0 := by simpa using h0
        have : cutF a n c s = none := by unfold cutF; rw [if_neg (by omega), e1 h0']; rfl
        rw [this]
        conv => whnf
        repeat' (first | exact True.intro | exact rfl | exact Or.inl rfl | exact Or.inr rfl | exact fun _ _ => rfl | refine And.intro ?_ ?_)
      · have h0' : firstN p.2.2 ≠ 0 := by simpa using h0
        conv => whnf
        refine ⟨by omega, ?_⟩
        conv => whnf
        refine ⟨by omega, ?_⟩
        conv => whnf
        refine ⟨by omega, ?_⟩
        conv => whnf
        refine ⟨(p.1 + 1, p.2.1 ++ [p.2.2.take (firstN p.2.2)], p.2.2.drop (firstN p.2.2)), [0, 1, 2, 5], e2 h0', by show n - (p.1 + 1) < n - p.1; omega, ?_⟩
        have hw : IntKind.i64.wrap ((p.1 : Int) + 1) = ((p.1 + 1 : Nat) : Int) := by rw [w64_in _ (by omega)]; omega
        conv => whnf
        repeat' (first | exact True.intro | exact rfl | refine And.intro ?_ ?_)
        · refine congrArg SV.d (congrArg DV.str ?_)
          simp only [sub, Int.toNat_natCast]
          rw [List.take_of_length_le (by simp)]
        · exact congrArg SV.d (congrArg (DV.int _) hw)
        · simp
        · refine strs_cat _ _ _ ?_
          show [DV.str _] = [DV.str _]
          simp [sub]
    · have hi : p.1 = n := by simp at hge; omega
      rw [hi] at hp
      have hnm := hp.last
      conv => whnf
      rw [h4c]
      refine ⟨fun hne => ?_, fun heq => ?_⟩
      · have : cutF a n c s = none := by unfold cutF; rw [if_neg (by omega), hnm]; simp at hne ⊢; omega
        rw [this]
        conv => whnf
        repeat' (first | exact True.intro | exact rfl | exact Or.inl rfl | exact Or.inr rfl | exact fun _ _ => rfl | refine And.intro ?_ ?_)
      · have : cutF a n c s = some (s.take (2 * a), p.2.1, p.2.2) := by unfold cutF; rw [if_neg (by omega), hnm]; simp at heq ⊢; omega
        rw [this]
        conv => whnf
        repeat' (first | exact True.intro | exact rfl | exact Or.inl rfl | exact Or.inr rfl | exact fun _ _ => rfl | refine And.intro ?_ ?_)


/-- How data with names are made: numbers of 2 bytes, names, numbers of 4 bytes. -/
def formOf (t : Int) : Option (Nat × Nat × Nat) :=
  if t = 2 ∨ t = 5 ∨ t = 12 then some (0, 1, 0) else if t = 15 then some (1, 1, 0) else if t = 33 then some (3, 1, 0) else if t = 6 then some (0, 2, 5) else none
def formV (p : Nat × Nat × Nat) : SV := .agg [.d (.int .i64 p.1), .d (.int .i64 p.2.1), .d (.int .i64 p.2.2)]
def formR : Option (Nat × Nat × Nat) → SV
  | some p => .tup [formV p, .d .tt]
  | none => .tup [formV (0, 0, 0), .d .ff]
theorem formOf_le {t : Int} {p : Nat × Nat × Nat} (h : formOf t = some p) : p.1 ≤ 100 ∧ p.2.1 ≤ 100 ∧ p.2.2 ≤ 100 := by
  unfold formOf at h
  repeat' (split at h)
  all_goals first | (cases h; decide) | cases h
set_option maxHeartbeats 4000000 in
theorem formOf_ok (t : Int) : FnOk Try.prog 122 [.d (.int .u16 t)] (formR (formOf t)) := by
  refine fnOk_of_run (TT := TT) (IN := lookI []) TT_ok INok_nil mixed 1000 Try.func122 rfl (enters Try.func122 (by kernel_rfl) rfl) rfl 19 (by kernel_rfl) ?_
  have fin1 : t = 2 ∨ t = 5 ∨ t = 12 → formOf t = some (0, 1, 0) := fun h => by unfold formOf; rw [if_pos h]
  conv => whnf
  refine ⟨fun h1 => ?_, fun h1 => ?_⟩
  · rw [fin1 (.inl (by simpa using h1))]
    conv => whnf
    refine brT h1 ?_
    conv => whnf
    repeat' (first | exact True.intro | exact rfl | refine And.intro ?_ ?_)
  simp only [beq_eq_false_iff_ne, ne_eq] at h1
  conv => whnf
  refine ⟨fun h2 => ?_, fun h2 => ?_⟩
  · rw [fin1 (.inr (.inl (by simpa using h2)))]
    conv => whnf
    refine brT h2 ?_
    conv => whnf
    repeat' (first | exact True.intro | exact rfl | refine And.intro ?_ ?_)
  simp only [beq_eq_false_iff_ne, ne_eq] at h2
  conv => whnf
  refine ⟨fun h3 => ?_, fun h3 => ?_⟩
  · rw [fin1 (.inr (.inr (by simpa using h3)))]
    conv => whnf
    repeat' (first | exact True.intro | exact rfl | refine And.intro ?_ ?_)
  simp only [beq_eq_false_iff_ne, ne_eq] at h3
  conv => whnf
  refine ⟨fun h4 => ?_, fun h4 => ?_⟩
  · have : formOf t = some (1, 1, 0) := by unfold formOf; simp at h4; simp [h4]
    rw [this]
    conv => whnf
    repeat' (first | exact True.intro | exact rfl | refine And.intro ?_ ?_)
  simp only [beq_eq_false_iff_ne, ne_eq] at h4
  conv => whnf
  refine ⟨fun h5 => ?_, fun h5 => ?_⟩
  · have : formOf t = some (3, 1, 0) := by unfold formOf; simp at h5; simp [h5]
    rw [this]
    conv => whnf
    repeat' (first | exact True.intro | exact rfl | refine And.intro ?_ ?_)
  simp only [beq_eq_false_iff_ne, ne_eq] at h5
  conv => whnf
  refine ⟨fun h6 => ?_, fun h6 => ?_⟩
  · have : formOf t = some (0, 2, 5) := by unfold formOf; simp at h6; simp [h6]
    rw [this]
    conv => whnf
    repeat' (first | exact True.intro | exact rfl | refine And.intro ?_ ?_)
  simp only [beq_eq_false_iff_ne, ne_eq] at h6
  have : formOf t = none := by unfold formOf; simp [h1, h2, h3, h4, h5, h6]
  rw [this]
  conv => whnf
  repeat' (first | exact True.intro | exact rfl | refine And.intro ?_ ?_)
/-- Are data right for a type? -/
def rgood (t : Int) (s : List UInt8) : Bool :=
  if t = 1 then s.length == 4 else if t = 28 then s.length == 16 else if t = 16 then textsOk s else match formOf t with
  | some p => (cutF p.1 p.2.1 p.2.2 s).isSome
  | none => true
def rcheck (t : Int) (s : List UInt8) : Bool := decide (s.length ≤ 4096) && rgood t s
def errno (b : Bool) : Int := if b then 0 else 2
theorem lenEq (s : List UInt8) (n : Nat) : ((s.length : Int) == (n : Int)) = (s.length == n) := by
  rw [Bool.eq_iff_iff]; simp; omega
set_option maxHeartbeats 4000000 in
theorem rcheck_ok (t : Int) (s : List UInt8) : FnOk Try.prog 69 [.d (.int .u16 t), .d (.str s)] (.d (.int .i64 (errno (rcheck t s)))) := by
  refine fnOk_of_run (TT := TT) (IN := lookI []) TT_ok INok_nil mixed 1000 Try.func69 rfl (enters Try.func69 (by kernel_rfl) rfl) rfl 43 (by kernel_rfl) ?_
  conv => whnf
  refine ⟨fun h0 => ?_, fun h0 => ?_⟩
  · have : rcheck t s = false := by unfold rcheck; simp at h0; simp; intro h; omega
    rw [this]
    conv => whnf
    exact rfl
  have hle : s.length ≤ 4096 := by simp at h0; omega
  have hr : rcheck t s = rgood t s := by unfold rcheck; simp [hle]
  rw [hr]
  have hlast : ∀ b : Bool, rgood t s = b → (((!b) = true → (if rgood t s = true then (0 : Int) else 2) = 2) ∧ ((!b) = false → (if rgood t s = true then (0 : Int) else 2) = 0)) := fun b h => by rw [h]; cases b <;> simp
  conv => whnf
  refine ⟨fun h1 => ?_, fun h1 => ?_⟩
  · simp only [beq_iff_eq] at h1
    have e : rgood t s = ((s.length : Int) == 4) := by unfold rgood; rw [if_pos h1, ← lenEq]; rfl
    obtain ⟨l1, l2⟩ := hlast _ e
    conv => whnf
    refine ⟨fun h => ?_, fun h => ?_⟩
    · conv => whnf
      exact congrArg (DV.int _) (l1 h).symm
    · conv => whnf
      exact congrArg (DV.int _) (l2 h).symm
  simp only [beq_eq_false_iff_ne, ne_eq] at h1
  conv => whnf
  refine ⟨fun h2 => ?_, fun h2 => ?_⟩
  · simp only [beq_iff_eq] at h2
    have e : rgood t s = ((s.length : Int) == 16) := by unfold rgood; rw [if_neg h1, if_pos h2, ← lenEq]; rfl
    obtain ⟨l1, l2⟩ := hlast _ e
    conv => whnf
    refine ⟨fun h => ?_, fun h => ?_⟩
    · conv => whnf
      exact congrArg (DV.int _) (l1 h).symm
    · conv => whnf
      exact congrArg (DV.int _) (l2 h).symm
  simp only [beq_eq_false_iff_ne, ne_eq] at h2
  conv => whnf
  refine ⟨fun h3 => ?_, fun h3 => ?_⟩
  · simp only [beq_iff_eq] at h3
    have e : rgood t s = textsOk s := by unfold rgood; rw [if_neg h1, if_neg h2, if_pos h3]
    obtain ⟨l1, l2⟩ := hlast _ e
    conv => whnf
    refine .one (.data _ (texts_ok s hle) rfl rfl ?_)
    conv => whnf
    refine ⟨fun h => ?_, fun h => ?_⟩
    · conv => whnf
      exact congrArg (DV.int _) (l1 h).symm
    · conv => whnf
      exact congrArg (DV.int _) (l2 h).symm
  simp only [beq_eq_false_iff_ne, ne_eq] at h3
  conv => whnf
  refine .one (.data _ (formOf_ok t) rfl ?_ ?_)
  · cases formOf t <;> rfl
  cases hf : formOf t with
  | none =>
    have e : rgood t s = true := by unfold rgood; rw [if_neg h1, if_neg h2, if_neg h3, hf]
    obtain ⟨l1, l2⟩ := hlast _ e
    conv => whnf
    refine brF (by simpa using h0) ?_
    conv => whnf
    exact congrArg (DV.int _) (l2 rfl).symm
  | some p =>
    obtain ⟨f1, f2, f3⟩ := formOf_le hf
    have e : rgood t s = (cutF p.1 p.2.1 p.2.2 s).isSome := by unfold rgood; rw [if_neg h1, if_neg h2, if_neg h3, hf]
    obtain ⟨l1, l2⟩ := hlast _ e
    conv => whnf
    refine .one (.data _ (cut_ok p.1 p.2.1 p.2.2 f1 f2 f3 s) rfl ?_ ?_)
    · cases cutF p.1 p.2.1 p.2.2 s <;> rfl
    cases hc : cutF p.1 p.2.1 p.2.2 s with
    | none =>
      rw [hc] at l1
      conv => whnf
      exact congrArg (DV.int _) (l1 rfl).symm
    | some q =>
      rw [hc] at l2
      conv => whnf
      exact congrArg (DV.int _) (l2 rfl).symm
end Go.Proofs.Ytdphkaiijlekhaa
namespace Go.Proofs.Ytdphkaiijlekhaa
open Go Go.Eng
theorem rd_slice {w : World} {M : Nat → Prop} {b : Bool} {n sz : Nat} {f : Nat → List DV} {v : Value} (h : Rd w M (.sl b n sz f) v) : (n = 0 ∧ v = .slice none 0 0) ∨ ∃ (ad : Addr) (cap : Nat) (u : Nat → Nat → Value), v = .slice (some ad) n cap ∧ n ≤ cap ∧
    (0 < n → ad.block < w.heap.size ∧ ¬ M ad.block) ∧ (∀ (i j : Nat) (d : DV), i < n → (f i)[j]? = some d → w.cell? (ad.add (i * sz + j)) = some (u i j)) ∧ (∀ (i j : Nat) (d : DV), i < n → (f i)[j]? = some d → Rd w M d (u i j)) := by
  cases h with
  | nil => exact .inl ⟨rfl, rfl⟩
  | sl _ _ _ ad cap u g1 g3 g4 g5 g6 => exact .inr ⟨ad, cap, u, rfl, g1, g3, g5, g6⟩
/-- strings.Join of texts. -/
theorem join_ok (b : Bool) (l : List (List UInt8)) (sep : List UInt8) (hn : l.length ≤ 140737488355328) (hj : (Lib.join l sep).length ≤ 140737488355328) : FnOk Try.prog 125 [.d (.sl b l.length 1 (strs l)), .d (.str sep)] (.d (.str (Lib.join l sep))) := by
  refine ⟨enters Try.func125 (by kernel_rfl) rfl, fun M w vs hM hl hd => ?_⟩
  match vs, hl with
  | [v0, v1], _ =>
    have h0 := den_data (hd 0 _ v0 rfl rfl)
    have h1 := den_str (hd 1 _ v1 rfl rfl)
    subst h1
    rcases rd_slice h0 with ⟨hl0, rfl⟩ | ⟨ad, cap, u, rfl, g1, g3, g5, g6⟩
    · have : l = [] := List.eq_nil_of_length_eq_zero hl0
      subst this
      refine (Try.strings_Join_none none 0 ⟨sep.toArray⟩ w).mono ?_
      rintro e w' ⟨rfl, rfl⟩
      exact ⟨_, rfl, Step.refl _ _, .d (.str _)⟩
    · by_cases hz : l = []
      · subst hz
        refine (Try.strings_Join_none (some ad) cap ⟨sep.toArray⟩ w).mono ?_
        rintro e w' ⟨rfl, rfl⟩
        exact ⟨_, rfl, Step.refl _ _, .d (.str _)⟩
      · have hpos : 0 < l.length := List.length_pos_iff.2 hz
        obtain ⟨hb, _⟩ := g3 hpos
        have hu : ∀ i, i < l.length → u i 0 = strV (l[i]?.getD []) := fun i hi => by
          have := g6 i 0 (.str (l[i]?.getD [])) hi rfl
          exact den_str (β := noE) (.d this)
        have hc0 := g5 0 0 (.str (l[0]?.getD [])) hpos rfl
        have hspot : ad.spot = none := by
          rw [show ad.add (0 * 1 + 0) = ad from rfl] at hc0
          unfold World.cell? at hc0
          split at hc0
          · cases hs : ad.spot with
            | none => rfl
            | some _ => simp [hs] at hc0
          · cases hc0
        obtain ⟨bk, o, sp⟩ := ad
        simp only at hspot hb
        subst hspot
        have := Try.strings_Join bk o cap (l.map fun x => ⟨x.toArray⟩) ⟨sep.toArray⟩ w (fun j x hx => by
          rw [List.getElem?_map, Option.map_eq_some_iff] at hx
          obtain ⟨y, hy, rfl⟩ := hx
          have hj : j < l.length := (List.getElem?_eq_some_iff.1 hy).1
          have h5 := g5 j 0 (.str (l[j]?.getD [])) hj rfl
          rw [hu j hj, add_lit0, hy] at h5
          simpa [strV] using h5) hb (by simpa using hn) (by simpa using g1) (by
            simp only [List.map_map, Function.comp_def, List.toList_toArray, List.map_id']
            exact hj)
        simp only [List.length_map, List.map_map, Function.comp_def, List.toList_toArray, List.map_id'] at this
        refine this.mono ?_
        rintro e w' ⟨rfl, hw⟩
        exact ⟨_, rfl, Step.of_below _ hw, .d (.str _)⟩
end Go.Proofs.Ytdphkaiijlekhaa
namespace Go.Proofs.Ytdphkaiijlekhaa
open Go Go.Eng

/-- Right data of a form, in their parts. -/
def lookF (t : Int) (s : List UInt8) : Option ((Nat × Nat × Nat) × (List UInt8 × List (List UInt8) × List UInt8)) :=
  if s.length ≤ 4096 then (formOf t).bind fun p => (cutF p.1 p.2.1 p.2.2 s).map fun q => (p, q) else none
def lookR : Option ((Nat × Nat × Nat) × (List UInt8 × List (List UInt8) × List UInt8)) → SV
  | none => .tup [.agg [.any, .any, .any], noParts, .d .ff]
  | some (p, x, l, r) => .tup [formV p, partsV x l r, .d .tt]
set_option maxRecDepth 100000
set_option maxHeartbeats 4000000 in
theorem look_ok (t : Int) (s : List UInt8) : FnOk Try.prog 124 [.d (.int .u16 t), .d (.str s)] (lookR (lookF t s)) := by
  refine fnOk_of_run (TT := TT) (IN := lookI []) TT_ok INok_nil mixed 1000 Try.func124 rfl (enters Try.func124 (by kernel_rfl) rfl) rfl 32 (by kernel_rfl) ?_
  conv => whnf
  refine .one (.data _ (formOf_ok t) rfl ?_ ?_)
  · cases formOf t <;> rfl
  cases hf : formOf t with
  | none =>
    have e : lookF t s = none := by unfold lookF; rw [hf]; split <;> rfl
    rw [e]
    conv => whnf
    repeat' (first | exact True.intro | exact rfl | exact Or.inl rfl | exact Or.inr rfl | exact fun _ _ => rfl | refine And.intro ?_ ?_)
  | some p =>
    obtain ⟨f1, f2, f3⟩ := formOf_le hf
    conv => whnf
    refine ⟨fun hgt => ?_, fun hle => ?_⟩
    · have e : lookF t s = none := by unfold lookF; rw [if_neg (by simp at hgt; omega)]
      rw [e]
      conv => whnf
      repeat' (first | exact True.intro | exact rfl | exact Or.inl rfl | exact Or.inr rfl | exact fun _ _ => rfl | refine And.intro ?_ ?_)
    · have e : lookF t s = (cutF p.1 p.2.1 p.2.2 s).map fun q => (p, q) := by unfold lookF; rw [if_pos (by simp at hle; omega), hf]; rfl
      rw [e]
      conv => whnf
      refine .one (.data _ (cut_ok p.1 p.2.1 p.2.2 f1 f2 f3 s) rfl ?_ ?_)
      · cases cutF p.1 p.2.1 p.2.2 s <;> rfl
      cases hc : cutF p.1 p.2.1 p.2.2 s with
      | none =>
        conv => whnf
        (apply Exists.intro; apply Exists.intro; apply And.intro; focus ((conv => whnf); repeat' (first | exact True.intro | exact rfl | apply And.intro)))
        conv => whnf
        repeat' (first | exact True.intro | exact rfl | exact Or.inl rfl | exact Or.inr rfl | exact fun _ _ => rfl | refine And.intro ?_ ?_)
      | some q =>
        conv => whnf
        (apply Exists.intro; apply Exists.intro; apply And.intro; focus ((conv => whnf); repeat' (first | exact True.intro | exact rfl | apply And.intro)))
        conv => whnf
        repeat' (first | exact True.intro | exact rfl | exact Or.inl rfl | exact Or.inr rfl | exact fun _ _ => rfl | refine And.intro ?_ ?_)

/-- Data, their names with small letters. -/
def rfold (t : Int) (s : List UInt8) : List UInt8 := match lookF t s with
  | none => s
  | some (_, x, l, r) => x ++ fold (Lib.join l []) ++ r
theorem join_nil (l : List (List UInt8)) : Lib.join l [] = l.flatten := by
  induction l with
  | nil => rfl
  | cons a l ih => cases l with
    | nil => simp [Lib.join]
    | cons b l => simp [Lib.join] at ih ⊢; rw [ih]
theorem namesF_len : ∀ (n : Nat) (s : List UInt8) (l : List (List UInt8)) (r : List UInt8), namesF n s = some (l, r) → l.length = n ∧ l.flatten.length + r.length = s.length := by
  intro n
  induction n with
  | zero => intro s l r h; simp only [namesF, Option.some.injEq, Prod.mk.injEq] at h; obtain ⟨rfl, rfl⟩ := h; simp
  | succ n ih =>
    intro s l r h
    simp only [namesF] at h
    split at h
    · cases h
    · cases hn : namesF n (s.drop (firstN s)) with
      | none => rw [hn] at h; cases h
      | some p =>
        rw [hn] at h
        simp only [Option.map_some, Option.some.injEq, Prod.mk.injEq] at h
        obtain ⟨rfl, rfl⟩ := h
        obtain ⟨h1, h2⟩ := ih _ p.1 p.2 hn
        have := firstN_le s
        refine ⟨by simp [h1], ?_⟩
        simp only [List.flatten_cons, List.length_append, List.length_take, List.length_drop] at h2 ⊢
        omega
theorem lookF_len {t : Int} {s : List UInt8} {p : Nat × Nat × Nat} {x : List UInt8} {l : List (List UInt8)} {r : List UInt8} (h : lookF t s = some (p, x, l, r)) : s.length ≤ 4096 ∧ l.length ≤ 100 ∧ x.length + l.flatten.length + r.length = s.length := by
  unfold lookF at h
  split at h
  · rename_i hs
    cases hf : formOf t with
    | none => rw [hf] at h; cases h
    | some q =>
      rw [hf] at h
      simp only [Option.bind_some] at h
      cases hc : cutF q.1 q.2.1 q.2.2 s with
      | none => rw [hc] at h; cases h
      | some c =>
        rw [hc] at h
        simp only [Option.map_some, Option.some.injEq, Prod.mk.injEq] at h
        obtain ⟨rfl, rfl⟩ := h
        unfold cutF at hc
        split at hc
        · cases hc
        · cases hn : namesF q.2.1 (s.drop (2 * q.1)) with
          | none => rw [hn] at hc; cases hc
          | some y =>
            rw [hn] at hc
            simp only [Option.bind_some] at hc
            split at hc
            · simp only [Option.some.injEq, Prod.mk.injEq] at hc
              obtain ⟨rfl, rfl, rfl⟩ := hc
              obtain ⟨h1, h2⟩ := namesF_len _ _ y.1 y.2 hn
              have := (formOf_le hf).2.1
              refine ⟨hs, by omega, ?_⟩
              simp only [List.length_take, List.length_drop] at h2 ⊢
              omega
            · cases hc
  · cases h
set_option maxHeartbeats 4000000 in
theorem rfold_ok (t : Int) (s : List UInt8) : FnOk Try.prog 70 [.d (.int .u16 t), .d (.str s)] (.d (.str (rfold t s))) := by
  refine fnOk_of_run (TT := TT) (IN := lookI []) TT_ok INok_nil mixed 1000 Try.func70 rfl (enters Try.func70 (by kernel_rfl) rfl) rfl 26 (by kernel_rfl) ?_
  conv => whnf
  refine .one (.data _ (look_ok t s) rfl ?_ ?_)
  · cases lookF t s <;> rfl
  cases hf : lookF t s with
  | none =>
    have e : rfold t s = s := by unfold rfold; rw [hf]
    rw [e]
    conv => whnf
  | some p =>
    obtain ⟨p, x, l, r⟩ := p
    obtain ⟨h1, h2, h3⟩ := lookF_len hf
    have e : rfold t s = x ++ fold (Lib.join l []) ++ r := by unfold rfold; rw [hf]
    rw [e]
    conv => whnf
    refine .data _ (join_ok _ l [] (by omega) (by rw [join_nil]; omega)) rfl rfl ?_
    conv => whnf
    refine .data _ (fold_ok _ (by rw [join_nil]; omega)) rfl rfl ?_
    have hfl : (fold (Lib.join l [])).length = l.flatten.length := by rw [join_nil]; simp only [fold, List.length_map]
    conv => whnf
    refine ⟨by omega, ?_⟩
    conv => whnf
    refine ⟨by simp only [List.length_append]; omega, ?_⟩
    conv => whnf

/-- Are data right for a type, and rising? last: those ahead. -/
def rising (t : Int) : Bool → List UInt8 → List (List UInt8) → Bool
  | _, _, [] => true
  | b, last, d :: l => rcheck t d && !(b && (Op.bytesLess (rfold t d) last || rfold t d == last)) && rising t true (rfold t d) l
/-- Is a set right? -/
def scheck (name : List UInt8) (t ttl : Int) (l : List (List UInt8)) : Bool :=
  isName name && decide (ttl ≤ 2147483647) && decide (0 < l.length ∧ l.length ≤ 64) && rising t false [] l
def setV (name : List UInt8) (t ttl : Int) (b : Bool) (l : List (List UInt8)) : SV := .agg [.d (.str name), .d (.int .u16 t), .d (.int .u32 ttl), .d (.sl b l.length 1 (strs l))]
set_option maxHeartbeats 4000000 in
theorem scheck_ok (name : List UInt8) (t ttl : Int) (b : Bool) (l : List (List UInt8)) : FnOk Try.prog 28 [setV name t ttl b l] (.d (.int .i64 (errno (scheck name t ttl l)))) := by
  refine fnOk_of_run (TT := TT) (IN := lookI []) TT_ok INok_nil mixed 1000 Try.func28 rfl (enters Try.func28 (by kernel_rfl) rfl) rfl 51 (by kernel_rfl) ?_
  have bad : scheck name t ttl l = false → errno (scheck name t ttl l) = 2 := fun h => by rw [h]; rfl
  conv => whnf
  refine .one (.data _ (check_ok _) rfl rfl ?_)
  by_cases hn : isName name
  · rw [if_pos hn]
    conv => whnf
    refine brF (by decide) ?_
    conv => whnf
    refine ⟨fun hgt => ?_, fun hle => ?_⟩
    · rw [bad (by simp only [scheck, Bool.and_eq_false_iff, decide_eq_false_iff_not]; simp at hgt; omega)]
      conv => whnf
    conv => whnf
    refine ⟨fun h0 => ?_, fun h0 => ?_⟩
    · rw [bad (by simp only [scheck, Bool.and_eq_false_iff, decide_eq_false_iff_not]; simp at h0; simp [h0])]
      conv => whnf
    conv => whnf
    refine ⟨fun h1 => ?_, fun h1 => ?_⟩
    · rw [bad (by simp only [scheck, Bool.and_eq_false_iff, decide_eq_false_iff_not]; simp at h1; omega)]
      conv => whnf
    have hl : 0 < l.length ∧ l.length ≤ 64 := by simp at h0 h1; exact ⟨by rw [List.length_pos_iff]; exact h0, by omega⟩
    have hsc : scheck name t ttl l = rising t false [] l := by
      unfold scheck
      rw [decide_eq_true hl]
      have : ttl ≤ 2147483647 := by simpa using hle
      simp [hn, this]
    rw [hsc]
    conv => whnf
    refine .inv (Nat × List UInt8) (fun p => p.1 ≤ l.length ∧ rising t (decide (0 < p.1)) p.2 (l.drop p.1) = rising t false [] l) (fun p => [(3, .d (.str p.2)), (29, .d (.int .i64 p.1))]) (fun p => []) (fun p => l.length - p.1) ⟨(0, []), [0], ⟨by omega, rfl⟩, ?_⟩ ?_
    · conv => whnf
      repeat' (first | exact True.intro | exact rfl | refine And.intro ?_ ?_)
    intro p hp
    obtain ⟨hp1, hp2⟩ := hp
    conv => whnf
    refine ⟨fun hlt => ?_, fun hge => ?_⟩
    · have hi : p.1 < l.length := by simpa using hlt
      have hd : l.drop p.1 = l[p.1] :: l.drop (p.1 + 1) := List.drop_eq_getElem_cons hi
      rw [hd] at hp2
      simp only [rising] at hp2
      conv => whnf
      refine ⟨by omega, ?_⟩
      conv => whnf
      have hel : l[((p.1 : Nat) : Int).toNat]?.getD [] = l[p.1] := by simp [hi]
      rw [hel]
      generalize hdd : l[p.1] = d at hp2 ⊢
      refine .one (.data _ (rcheck_ok t d) rfl rfl ?_)
      cases hr : rcheck t d with
      | false =>
        rw [hr, Bool.false_and, Bool.false_and] at hp2
        rw [show rising t false [] l = false from hp2.symm]
        conv => whnf
        refine brT (by decide) ?_
        conv => whnf
        exact rfl
      | true =>
        rw [hr, Bool.true_and] at hp2
        conv => whnf
        refine brF (by decide) ?_
        conv => whnf
        refine .one (.data _ (rfold_ok t d) rfl rfl ?_)
        conv => whnf
        have fin : ∀ z : Bool, ((decide (0 < p.1) && (Op.bytesLess (rfold t d) p.2 || rfold t d == p.2)) = z) → z = false → rising t true (rfold t d) (l.drop (p.1 + 1)) = rising t false [] l := fun z h1 h2 => by rw [h2] at h1; rw [h1] at hp2; simpa using hp2
        have hw : IntKind.i64.wrap ((p.1 : Int) + 1) = ((p.1 + 1 : Nat) : Int) := by rw [w64_in _ (by omega)]; omega
        refine ⟨fun hg => ?_, fun hg => ?_⟩
        · have hg' : 0 < p.1 := by simp at hg; omega
          conv => whnf
          refine ⟨fun hle => ?_, fun hle => ?_⟩
          · have : (Op.bytesLess (rfold t d) p.2 || rfold t d == p.2) = true := hle
            rw [this] at hp2
            rw [decide_eq_true hg'] at hp2
            rw [show rising t false [] l = false from hp2.symm]
            conv => whnf
            exact rfl
          · conv => whnf
            refine ⟨(p.1 + 1, rfold t d), [0], ⟨hi, ?_⟩, by show l.length - (p.1 + 1) < l.length - p.1; omega, ?_⟩
            · rw [decide_eq_true (Nat.succ_pos _)]
              exact fin _ rfl (by rw [show (Op.bytesLess (rfold t d) p.2 || rfold t d == p.2) = false from hle, Bool.and_false])
            conv => whnf
            repeat' (first | exact True.intro | exact rfl | refine And.intro ?_ ?_)
            all_goals exact congrArg SV.d (congrArg (DV.int _) hw)
        · have hg' : p.1 = 0 := by simp at hg; omega
          conv => whnf
          refine ⟨(p.1 + 1, rfold t d), [0], ⟨hi, ?_⟩, by show l.length - (p.1 + 1) < l.length - p.1; omega, ?_⟩
          · rw [decide_eq_true (Nat.succ_pos _)]
            exact fin _ rfl (by rw [hg']; rfl)
          conv => whnf
          repeat' (first | exact True.intro | exact rfl | refine And.intro ?_ ?_)
          all_goals exact congrArg SV.d (congrArg (DV.int _) hw)
    · have hi : p.1 = l.length := by simp at hge; omega
      rw [hi, List.drop_length] at hp2
      rw [← hp2]
      conv => whnf
      exact congrArg (DV.int _) rfl
  · rw [if_neg hn]
    rw [bad (by simp [scheck, hn])]
    conv => whnf
    refine brT (by decide) ?_
    conv => whnf
end Go.Proofs.Ytdphkaiijlekhaa
namespace Go.Proofs.Ytdphkaiijlekhaa
open Go Go.Eng
/-- A writer. -/
structure Wr where
  buf : List UInt8
  limit : Int
  full : Bool
  rests : List (List UInt8 × Int)
def bytesF (s : List UInt8) : Nat → List DV := fun j => [.int .u8 (byteAt s j)]
def restsM : List (List UInt8 × Int) → List (List DV × List SV)
  | [] => []
  | e :: l => ([.str e.1], [.d (.int .i64 e.2)]) :: restsM l
/-- Its blocks. -/
def Wr.fl (w : Wr) : List KB := [.cells 206 [.all 2, .d (.int .i64 w.limit), .d (.bool w.full), .map 1], .map [EK.str] false false (restsM w.rests), .row 5 1 w.buf.length .iff (bytesF w.buf)]
structure Wr.Ok (w : Wr) : Prop where
  lo : -9223372036854775808 ≤ w.limit
  hi : w.limit ≤ 1048576
  len : w.buf.length = 0 ∨ (w.buf.length : Int) ≤ w.limit
  pl : ∀ e ∈ w.rests, 0 ≤ e.2 ∧ e.2 < 16384
def Wr.fits (w : Wr) (s : List UInt8) : Bool := !w.full && (decide (s.length = 0) || decide ((s.length : Int) ≤ w.limit - w.buf.length))
def Wr.piece (w : Wr) (s : List UInt8) : Wr := if w.fits s then { w with buf := w.buf ++ s } else { w with full := true }
theorem Wr.Ok.piece {w : Wr} (h : w.Ok) (s : List UInt8) : (w.piece s).Ok := by
  unfold Wr.piece
  split
  · rename_i hf
    refine ⟨h.lo, h.hi, ?_, h.pl⟩
    simp only [Wr.fits, Bool.and_eq_true, Bool.or_eq_true, decide_eq_true_eq] at hf
    have := h.len
    show (w.buf ++ s).length = 0 ∨ _
    rw [List.length_append]
    rcases hf.2 with h0 | h1
    · rcases this with h2 | h2
      · exact .inl (by omega)
      · exact .inr (by show (w.buf.length + s.length : Nat) ≤ w.limit; omega)
    · exact .inr (by show ((w.buf.length + s.length : Nat) : Int) ≤ w.limit; omega)
  · exact ⟨h.lo, h.hi, h.len, h.pl⟩
def fndS {α : Type} : List (List UInt8 × α) → List UInt8 → Option α
  | [], _ => none
  | e :: l, a => if a = e.1 then some e.2 else fndS l a
theorem fndS_mem {α : Type} {l : List (List UInt8 × α)} {a : List UInt8} {x : α} (h : fndS l a = some x) : (a, x) ∈ l := by
  induction l with
  | nil => cases h
  | cons e l ih =>
    simp only [fndS] at h
    split at h
    · rename_i e1
      cases h
      subst e1
      exact List.mem_cons_self ..
    · exact List.mem_cons_of_mem _ (ih h)
theorem find_rests (l : List (List UInt8 × Int)) (a : List UInt8) : findM (restsM l) [.str a] = (fndS l a).map (fun x => [.d (.int .i64 x)]) := by
  induction l with
  | nil => rfl
  | cons e l ih =>
    show (if keyEq [.str a] [.str e.1] then some [.d (.int .i64 e.2)] else findM (restsM l) [.str a]) = _
    have : keyEq [.str a] [.str e.1] = decide (a = e.1) := by
      rw [Bool.eq_iff_iff]
      simp [keyEq, dEq]
    rw [this, ih, fndS]
    by_cases h : a = e.1 <;> simp [h]
theorem put_rests (l : List (List UInt8 × Int)) (a : List UInt8) (x : Int) (h : fndS l a = none) : putM (restsM l) [.str a] [.d (.int .i64 x)] = restsM (l ++ [(a, x)]) := by
  induction l with
  | nil => rfl
  | cons e l ih =>
    show (if keyEq [.str a] [.str e.1] then _ else ([.str e.1], [.d (.int .i64 e.2)]) :: putM (restsM l) [.str a] [.d (.int .i64 x)]) = _
    simp only [fndS] at h
    split at h
    · cases h
    · rename_i hne
      have : keyEq [.str a] [.str e.1] = decide (a = e.1) := by
        rw [Bool.eq_iff_iff]
        simp [keyEq, dEq]
      rw [this, ih h]
      simp [hne, restsM]
theorem renM_rests (ρ : List Nat) (l : List (List UInt8 × Int)) : renM ρ (restsM l) = restsM l := by
  induction l with
  | nil => rfl
  | cons e l ih => simp [restsM, renM, renL, renV, ih]
theorem byteAt_cat (a b : List UInt8) (i : Nat) (h : i < a.length + b.length) : catF a.length (bytesF a) (fun j => [.int .u8 (byteAt b j)]) i = bytesF (a ++ b) i := by
  unfold catF bytesF byteAt
  split
  · rename_i hl
    simp [List.getElem?_append_left hl]
  · rename_i hl
    simp [List.getElem?_append_right (show a.length ≤ i by omega)]
def boolD (b : Bool) : SV := .d (if b then .tt else .ff)
set_option maxRecDepth 100000
set_option maxHeartbeats 4000000 in
theorem piece_ok (w : Wr) (hw : w.Ok) (s : List UInt8) (hs : s.length < 4611686018427387904) : COk Try.prog 127 [.ptr 0 0, .d (.str s)] [pk w.fl] (fun r k => ∃ w1, k = [pk (Wr.fl w1)] ∧ (r = boolD (w.fits s) ∧ w1 = w.piece s)) := by
  refine COk.toThing Wr.fl (pOk_of_run (TT := TT) (IN := lookI []) TT_ok INok_nil mixed 1000 Try.func127 rfl (enters Try.func127 (by kernel_rfl) rfl) 41 (by kernel_rfl) rfl ?_ ?_)
  · rintro r l ⟨w1, _, rfl, _⟩
    cases w.fits s <;> rfl
  have hlen := hw.len
  have hhi := hw.hi
  have hlo := hw.lo
  conv => whnf
  refine ⟨fun h1 => ?_, fun h1 => ?_⟩
  · have hf : w.fits s = false := by simp [Wr.fits, h1]
    conv => whnf
    refine ⟨[0, 1, 2], .d .ff, w.fl, rfl, rfl, rfl, ?_, _, rfl, by rw [hf]; rfl, ?_⟩
    · repeat' (first | exact True.intro | exact rfl | exact fun _ => Iff.rfl | exact fun _ _ => rfl | exact renM_rests _ _ | exact (List.length_append ..).symm | exact byteAt_cat _ _ | refine And.intro ?_ ?_)
    · unfold Wr.piece
      rw [hf]
      show w = Wr.mk w.buf w.limit true w.rests
      rw [← h1]
  have hwr : IntKind.i64.wrap (w.limit - w.buf.length) = w.limit - w.buf.length := w64_in _ (by omega)
  have good : (s.length = 0 ∨ (s.length : Int) ≤ w.limit - w.buf.length) → w.fits s = true := fun h => by
    simp only [Wr.fits, h1, Bool.not_false, Bool.true_and, Bool.or_eq_true, decide_eq_true_eq]
    exact h
  conv => whnf
  refine ⟨fun h2 => ?_, fun h2 => ?_⟩
  · have h2' : 0 < s.length := by have : (s.length : Int) > 0 := of_decide_eq_true h2
                                  omega
    conv => whnf
    rw [hwr]
    refine ⟨fun h3 => ?_, fun h3 => ?_⟩
    · have h3' : (s.length : Int) > w.limit - w.buf.length := of_decide_eq_true h3
      have hf : w.fits s = false := by
        simp only [Wr.fits, h1, Bool.not_false, Bool.true_and, Bool.or_eq_false_iff, decide_eq_false_iff_not]
        omega
      conv => whnf
      refine ⟨[0, 1, 2], .d .ff, (w.piece s).fl, rfl, rfl, rfl, ?_, _, rfl, by rw [hf]; rfl, rfl⟩
      unfold Wr.piece
      rw [hf]
      repeat' (first | exact True.intro | exact rfl | exact fun _ => Iff.rfl | exact fun _ _ => rfl | exact renM_rests _ _ | exact (List.length_append ..).symm | exact byteAt_cat _ _ | refine And.intro ?_ ?_)
    · have h3' : ¬ (s.length : Int) > w.limit - w.buf.length := of_decide_eq_false h3
      have hf := good (.inr (by omega))
      conv => whnf
      refine ⟨by omega, ?_⟩
      conv => whnf
      refine ⟨[0, 1, 3], .d .tt, (w.piece s).fl, rfl, rfl, rfl, ?_, _, rfl, by rw [hf]; rfl, rfl⟩
      unfold Wr.piece
      rw [hf]
      repeat' (first | exact True.intro | exact rfl | exact fun _ => Iff.rfl | exact fun _ _ => rfl | exact renM_rests _ _ | exact (List.length_append ..).symm | exact byteAt_cat _ _ | refine And.intro ?_ ?_)
  · have h2' : s.length = 0 := by have : ¬ ((s.length : Int) > 0) := of_decide_eq_false h2
                                  omega
    have hf := good (.inl h2')
    conv => whnf
    refine ⟨by omega, ?_⟩
    conv => whnf
    refine ⟨[0, 1, 3], .d .tt, (w.piece s).fl, rfl, rfl, rfl, ?_, _, rfl, by rw [hf]; rfl, rfl⟩
    unfold Wr.piece
    rw [hf]
    repeat' (first | exact True.intro | exact rfl | exact fun _ => Iff.rfl | exact fun _ _ => rfl | exact renM_rests _ _ | exact (List.length_append ..).symm | exact byteAt_cat _ _ | refine And.intro ?_ ?_)
/-- The lowest bytes of a number. -/
def be8 (n : Int) : List Int := [n.fdiv (2 ^ 56), n.fdiv (2 ^ 48), n.fdiv (2 ^ 40), n.fdiv (2 ^ 32), n.fdiv (2 ^ 24), n.fdiv (2 ^ 16), n.fdiv (2 ^ 8), n.fdiv (2 ^ 0)].map IntKind.u8.wrap
def be (width : Nat) (n : Int) : List UInt8 := toBytes ((be8 n).drop (8 - width))
def Wr.num (w : Wr) (width : Nat) (n : Int) : Wr := w.piece (be width n)
set_option maxHeartbeats 4000000 in
theorem num_ok (w : Wr) (hw : w.Ok) (width : Nat) (hd : width = 1 ∨ width = 2 ∨ width = 4 ∨ width = 8) (n : Int) : COk Try.prog 78 [.ptr 0 0, .d (.int .i64 width), .d (.int .u64 n)] [pk w.fl] (fun r k => ∃ w1, k = [pk (Wr.fl w1)] ∧ (r = .tup [] ∧ w1 = w.num width n)) := by
  refine cOk_of_run (TT := TT) (IN := lookI [(126, Try.f126, 1)]) TT_ok (INok_cons INok_nil Try.func126 (by kernel_rfl) (by kernel_rfl)) mixed 1000 Try.func78 rfl (enters Try.func78 (by kernel_rfl) rfl) 26 (by kernel_rfl) ?_
  rcases hd with rfl | rfl | rfl | rfl
  · conv => whnf
    repeat (first | (refine brT rfl ?_; conv => whnf) | (refine brF rfl ?_; conv => whnf) | (refine .once ?_; conv => whnf) | (refine ⟨by decide, ?_⟩; conv => whnf) | (refine And.intro (Nat.le_of_ble_eq_true rfl) ?_; conv => whnf))
    refine .rel _ (COk.thing Wr.fl (piece_ok w hw (be 1 n) (by show (1 : Nat) < _; omega)) [] [_] _ rfl rfl) (fun r ks' hR => ?_)
    obtain ⟨_, w1, ⟨rfl, rfl⟩, rfl, rfl⟩ := hR
    conv => whnf
    exact ⟨[0], .tup [], [pk (w.num 1 n).fl], rfl, rfl, rfl, ⟨fun _ _ _ _ h => ⟨packed_stable _, h⟩, True.intro⟩, _, rfl, rfl, rfl⟩
  · conv => whnf
    repeat (first | (refine brT rfl ?_; conv => whnf) | (refine brF rfl ?_; conv => whnf) | (refine .once ?_; conv => whnf) | (refine ⟨by decide, ?_⟩; conv => whnf) | (refine And.intro (Nat.le_of_ble_eq_true rfl) ?_; conv => whnf))
    refine .rel _ (COk.thing Wr.fl (piece_ok w hw (be 2 n) (by show (2 : Nat) < _; omega)) [] [_] _ rfl rfl) (fun r ks' hR => ?_)
    obtain ⟨_, w1, ⟨rfl, rfl⟩, rfl, rfl⟩ := hR
    conv => whnf
    exact ⟨[0], .tup [], [pk (w.num 2 n).fl], rfl, rfl, rfl, ⟨fun _ _ _ _ h => ⟨packed_stable _, h⟩, True.intro⟩, _, rfl, rfl, rfl⟩
  · conv => whnf
    repeat (first | (refine brT rfl ?_; conv => whnf) | (refine brF rfl ?_; conv => whnf) | (refine .once ?_; conv => whnf) | (refine ⟨by decide, ?_⟩; conv => whnf) | (refine And.intro (Nat.le_of_ble_eq_true rfl) ?_; conv => whnf))
    refine .rel _ (COk.thing Wr.fl (piece_ok w hw (be 4 n) (by show (4 : Nat) < _; omega)) [] [_] _ rfl rfl) (fun r ks' hR => ?_)
    obtain ⟨_, w1, ⟨rfl, rfl⟩, rfl, rfl⟩ := hR
    conv => whnf
    exact ⟨[0], .tup [], [pk (w.num 4 n).fl], rfl, rfl, rfl, ⟨fun _ _ _ _ h => ⟨packed_stable _, h⟩, True.intro⟩, _, rfl, rfl, rfl⟩
  · conv => whnf
    repeat (first | (refine brT rfl ?_; conv => whnf) | (refine brF rfl ?_; conv => whnf) | (refine .once ?_; conv => whnf) | (refine ⟨by decide, ?_⟩; conv => whnf) | (refine And.intro (Nat.le_of_ble_eq_true rfl) ?_; conv => whnf))
    refine .rel _ (COk.thing Wr.fl (piece_ok w hw (be 8 n) (by show (8 : Nat) < _; omega)) [] [_] _ rfl rfl) (fun r ks' hR => ?_)
    obtain ⟨_, w1, ⟨rfl, rfl⟩, rfl, rfl⟩ := hR
    conv => whnf
    exact ⟨[0], .tup [], [pk (w.num 8 n).fl], rfl, rfl, rfl, ⟨fun _ _ _ _ h => ⟨packed_stable _, h⟩, True.intro⟩, _, rfl, rfl, rfl⟩
/-- A name's labels, one by one; m: how many there are at most. -/
def Wr.nameGo (p : Bool) : Nat → Wr → List UInt8 → Wr
  | 0, w, n => w.piece n
  | m + 1, w, n => if 1 < n.length then
      match fndS w.rests n with
      | some a => if p then w.num 2 (49152 + a) else
          if w.fits (n.take (1 + bt n 0)) then nameGo p m (w.piece (n.take (1 + bt n 0))) (n.drop (1 + bt n 0)) else w.piece (n.take (1 + bt n 0))
      | none =>
          if w.fits (n.take (1 + bt n 0)) then nameGo p m (if w.buf.length < 16384 then { w.piece (n.take (1 + bt n 0)) with rests := w.rests ++ [(n, (w.buf.length : Int))] } else w.piece (n.take (1 + bt n 0))) (n.drop (1 + bt n 0))
          else w.piece (n.take (1 + bt n 0))
    else w.piece n
def Wr.name (w : Wr) (n : List UInt8) (p : Bool) : Wr := if w.full = true ∨ ¬ isName n then w else Wr.nameGo p n.length w n
def Wr.flL (w : Wr) : List (Nat × KB) := [(0, .cells 206 [.all 2, .d (.int .i64 w.limit), .d (.bool w.full), .map 1]), (1, .map [EK.str] false false (restsM w.rests)), (2, .row 5 1 w.buf.length .iff (bytesF w.buf))]
structure NmSt where
  w : Wr
  n : List UInt8
  m : Nat
theorem mapM_rests (σ : Nat → Nat) (l : List (List UInt8 × Int)) : mapM σ (restsM l) = restsM l := by
  induction l with
  | nil => rfl
  | cons e l ih => simp [restsM, mapM, mapL, mapV, ih]
def Wr.fx (w : Wr) : List KB := [.cells 206 [.all 4, .d (.int .i64 w.limit), .d (.bool w.full), .map 3], .gone, .gone, .map [EK.str] false false (restsM w.rests), .row 5 1 w.buf.length .iff (bytesF w.buf)]
theorem expl_wr (w : Wr) : expl 3 w.fl = w.fx := by
  show [KB.cells 206 [.all 4, .d (.int .i64 w.limit), .d (.bool w.full), .map 3], .gone, .gone, .map [EK.str] false false (mapM (expS 3) (restsM w.rests)), .row 5 1 w.buf.length .iff (bytesF w.buf)] = _
  rw [mapM_rests]
  rfl
theorem piece_x (w : Wr) (hw : w.Ok) (s : List UInt8) (hs : s.length < 4611686018427387904) : COk Try.prog 127 [.ptr 0 0, .d (.str s)] w.fl (fun r k => r = boolD (w.fits s) ∧ k = (w.piece s).fx) :=
  (((piece_ok w hw s hs).imp (R' := fun r l => ∃ k1, l = [pk k1] ∧ (r = boolD (w.fits s) ∧ k1 = (w.piece s).fl)) (fun r k ⟨w1, h1, h2, h3⟩ => ⟨_, h1, h2, by rw [h3]⟩)).explode (by show 0 < 3; omega) rfl (fun r l ⟨h, _⟩ => by rw [h]; cases w.fits s <;> rfl)).imp
    fun r k ⟨k1, ⟨h1, h2⟩, h3⟩ => ⟨h1, by rw [h3, h2]; exact expl_wr _⟩
theorem num_x (w : Wr) (hw : w.Ok) (width : Nat) (hd : width = 1 ∨ width = 2 ∨ width = 4 ∨ width = 8) (n : Int) : COk Try.prog 78 [.ptr 0 0, .d (.int .i64 width), .d (.int .u64 n)] w.fl (fun r k => r = .tup [] ∧ k = (w.num width n).fx) :=
  (((num_ok w hw width hd n).imp (R' := fun r l => ∃ k1, l = [pk k1] ∧ (r = .tup [] ∧ k1 = (w.num width n).fl)) (fun r k ⟨w1, h1, h2, h3⟩ => ⟨_, h1, h2, by rw [h3]⟩)).explode (by show 0 < 3; omega) rfl (fun r l ⟨h, _⟩ => by rw [h]; rfl)).imp
    fun r k ⟨k1, ⟨h1, h2⟩, h3⟩ => ⟨h1, by rw [h3, h2]; exact expl_wr _⟩
set_option maxHeartbeats 8000000 in
theorem name_ok (w : Wr) (hw : w.Ok) (n : List UInt8) (p : Bool) : COk Try.prog 128 [.ptr 0 0, .d (.str n), .d (.bool p)] [pk w.fl] (fun r k => ∃ w1, k = [pk (Wr.fl w1)] ∧ (r = .tup [] ∧ w1 = w.name n p)) := by
  refine COk.toThing Wr.fl (pOk_of_run (TT := TT) (IN := lookI []) TT_ok INok_nil mixed 1000 Try.func128 rfl (enters Try.func128 (by kernel_rfl) rfl) 74 (by kernel_rfl) rfl ?_ ?_)
  · rintro r l ⟨w1, _, rfl, _⟩
    rfl
  conv => whnf
  refine ⟨fun h1 => ?_, fun h1 => ?_⟩
  · have hf : w.name n p = w := by simp [Wr.name, h1]
    conv => whnf
    refine ⟨[0, 1, 2], .tup [], w.fl, rfl, rfl, rfl, ?_, _, rfl, rfl, hf.symm⟩
    repeat' (first | exact True.intro | exact rfl | exact fun _ => Iff.rfl | exact fun _ _ => rfl | exact renM_rests _ _ | exact (List.length_append ..).symm | exact byteAt_cat _ _ | refine And.intro ?_ ?_)
  conv => whnf
  refine .one (.data _ (check_ok n) rfl rfl ?_)
  by_cases hn : isName n
  rotate_left
  · rw [if_neg hn]
    have hf : w.name n p = w := by simp [Wr.name, hn]
    conv => whnf
    refine brT rfl ?_
    conv => whnf
    refine ⟨[0, 1, 2], .tup [], w.fl, rfl, rfl, rfl, ?_, _, rfl, rfl, hf.symm⟩
    repeat' (first | exact True.intro | exact rfl | exact fun _ => Iff.rfl | exact fun _ _ => rfl | exact renM_rests _ _ | exact (List.length_append ..).symm | exact byteAt_cat _ _ | refine And.intro ?_ ?_)
  rw [if_pos hn]
  have hgo0 : w.name n p = Wr.nameGo p n.length w n := by simp [Wr.name, h1, hn]
  obtain ⟨hlen0, ls0, hls0, hn0⟩ := (isName_iff n).1 hn
  conv => whnf
  refine brF rfl ?_
  conv => whnf
  refine .inv NmSt (fun s => s.w.Ok ∧ s.w.full = false ∧ (∃ ls, (∀ l ∈ ls, okL l) ∧ s.n = mk ls ∧ s.n.length ≤ s.m) ∧ s.n.length ≤ 255 ∧ Wr.nameGo p s.m s.w s.n = w.name n p) (fun s => [(1, .d (.str s.n))]) (fun s => s.w.flL) (fun s => s.m) ⟨⟨w, n, n.length⟩, [0, 1, 2], ⟨hw, h1, ⟨ls0, hls0, hn0, Nat.le_refl _⟩, hlen0, hgo0.symm⟩, ?_⟩ ?_
  · conv => whnf
    repeat' (first | exact True.intro | exact rfl | exact fun _ => Iff.rfl | exact fun _ _ => rfl | exact renM_rests _ _ | exact (List.length_append ..).symm | exact byteAt_cat _ _ | refine And.intro ?_ ?_)
  clear hgo0 hn0 hls0 hlen0
  intro s hs
  obtain ⟨hw, hfull, ⟨ls, hls, hsn, hm⟩, hlen, hgo⟩ := hs
  conv => whnf
  generalize s.w = w1 at hw hfull hgo ⊢
  generalize s.n = n1 at hsn hlen hgo hm ⊢
  generalize s.m = m1 at hm hgo ⊢
  refine ⟨fun k1 => ?_, fun k1 => ?_⟩
  · have k1' : 1 < n1.length := by have : (n1.length : Int) > 1 := of_decide_eq_true k1
                                   omega
    conv => whnf
    refine ⟨_, find_rests w1.rests n1, ?_⟩
    obtain ⟨l, ls', rfl⟩ : ∃ l ls', ls = l :: ls' := by
      cases ls with
      | nil => rw [hsn] at k1'; simp [mk] at k1'
      | cons l ls' => exact ⟨l, ls', rfl⟩
    have hl := hls l (List.mem_cons_self ..)
    have hls' : ∀ x ∈ ls', okL x := fun x hx => hls x (List.mem_cons_of_mem _ hx)
    have hb : bt n1 0 = l.length := by rw [hsn]; exact bt_lab l (mk ls') hl
    have htk : n1.take (1 + l.length) = lab l := by rw [hsn]; exact take_lab l (mk ls')
    have hdr : n1.drop (1 + l.length) = mk ls' := by rw [hsn]; exact drop_lab l (mk ls')
    have hnl : n1.length = 1 + l.length + (mk ls').length := by rw [hsn, mk, List.length_append, lab_len]
    have hby : byteAt n1 0 = (l.length : Int) := by rw [show (0 : Int) = ((0 : Nat) : Int) from rfl, bt_eq, hb]
    have hl2 := hl.2
    have hsz : IntKind.i64.wrap (1 + IntKind.i64.wrap (byteAt n1 0)) = ((1 + l.length : Nat) : Int) := by
      rw [hby, w64_in (l.length : Int) (by omega), w64_in _ (by omega)]
      omega
    have hs1 : sub n1 0 ((1 + l.length : Nat) : Int) = lab l := by
      unfold sub
      rw [Int.toNat_natCast]
      simpa using htk
    have hs2 : sub n1 ((1 + l.length : Nat) : Int) (n1.length : Int) = mk ls' := by
      unfold sub
      rw [Int.toNat_natCast, Int.toNat_natCast, hdr, List.take_of_length_le (by omega)]
    obtain ⟨m2, rfl⟩ : ∃ m2, m1 = m2 + 1 := ⟨m1 - 1, by omega⟩
    have hpo := hw.piece (lab l)
    have hll : (lab l).length < 4611686018427387904 := by rw [lab_len]; omega
    rcases hq : fndS w1.rests n1 with _ | a
    · have hgo2 : (if w1.fits (lab l) then Wr.nameGo p m2 (if w1.buf.length < 16384 then { w1.piece (lab l) with rests := w1.rests ++ [(n1, (w1.buf.length : Int))] } else w1.piece (lab l)) (mk ls') else w1.piece (lab l)) = w.name n p := by
        rw [← hgo, Wr.nameGo, if_pos k1', hq, hb, htk, hdr]
      conv => whnf
      refine ⟨by omega, ?_⟩
      conv => whnf
      rw [hsz]
      refine ⟨by omega, ?_⟩
      conv => whnf
      rw [hs1]
      refine .rel _ (piece_x w1 hw (lab l) hll) (fun r ks' hR => ?_)
      obtain ⟨rfl, rfl⟩ := hR
      cases hf : w1.fits (lab l)
      · rw [hf] at hgo2
        conv => whnf
        refine ⟨[0, 3, 4], .tup [], (w1.piece (lab l)).fl, rfl, rfl, rfl, ?_, _, rfl, rfl, hgo2⟩
        repeat' (first | exact True.intro | exact rfl | exact fun _ => Iff.rfl | exact fun _ _ => rfl | exact renM_rests _ _ | exact (List.length_append ..).symm | exact byteAt_cat _ _ | refine And.intro ?_ ?_)
      · rw [hf] at hgo2
        have hfull2 : (w1.piece (lab l)).full = false := by unfold Wr.piece; rw [if_pos hf]; exact hfull
        conv => whnf
        have hrs : (w1.piece (lab l)).rests = w1.rests := by unfold Wr.piece; split <;> rfl
        refine ⟨fun k2 => ?_, fun k2 => ?_⟩
        · have k2' : w1.buf.length < 16384 := by have : (w1.buf.length : Int) < 16384 := of_decide_eq_true k2
                                                 omega
          rw [if_pos rfl, if_pos k2'] at hgo2
          conv => whnf
          rw [hrs]
          refine ⟨_, put_rests w1.rests n1 _ hq, ?_⟩
          conv => whnf
          refine ⟨by omega, ?_⟩
          conv => whnf
          rw [hs2]
          refine ⟨⟨{ w1.piece (lab l) with rests := w1.rests ++ [(n1, (w1.buf.length : Int))] }, mk ls', m2⟩, [0, 3, 4], ⟨⟨hpo.lo, hpo.hi, hpo.len, fun e he => ?_⟩, hfull2, ⟨ls', hls', rfl, by show (mk ls').length ≤ m2; omega⟩, by show (mk ls').length ≤ 255; omega, hgo2⟩, by show m2 < m2 + 1; omega, ?_⟩
          rotate_left
          · conv => whnf
            repeat' (first | exact True.intro | exact rfl | exact fun _ => Iff.rfl | exact fun _ _ => rfl | exact renM_rests _ _ | exact (List.length_append ..).symm | exact byteAt_cat _ _ | refine And.intro ?_ ?_)
          rcases List.mem_append.1 he with he | he
          · exact hw.pl e he
          · rw [List.mem_singleton.1 he]
            show 0 ≤ (w1.buf.length : Int) ∧ (w1.buf.length : Int) < 16384
            omega
        · have k2' : ¬ w1.buf.length < 16384 := by have : ¬ (w1.buf.length : Int) < 16384 := of_decide_eq_false k2
                                                   omega
          rw [if_pos rfl, if_neg k2'] at hgo2
          conv => whnf
          refine ⟨by omega, ?_⟩
          conv => whnf
          rw [hs2]
          refine ⟨⟨w1.piece (lab l), mk ls', m2⟩, [0, 3, 4], ⟨hpo, hfull2, ⟨ls', hls', rfl, by show (mk ls').length ≤ m2; omega⟩, by show (mk ls').length ≤ 255; omega, hgo2⟩, by show m2 < m2 + 1; omega, ?_⟩
          conv => whnf
          repeat' (first | exact True.intro | exact rfl | exact fun _ => Iff.rfl | exact fun _ _ => rfl | exact renM_rests _ _ | exact (List.length_append ..).symm | exact byteAt_cat _ _ | refine And.intro ?_ ?_)
    · have hpl := hw.pl _ (fndS_mem hq)
      have hor : bits .or .u64 49152 (IntKind.u64.wrap a) = 49152 + a := by
        obtain ⟨a', rfl⟩ : ∃ a' : Nat, a = (a' : Int) := ⟨a.toNat, by have := hpl.1; simp only at this; omega⟩
        have h1 : a' < 16384 := by have := hpl.2; simp only at this; omega
        rw [IntKind.wrap_u64, show ((a' : Int) % 18446744073709551616) = (a' : Int) by omega]
        have := u64_or_nat 49152 a' (by omega) (by omega)
        rw [show ((49152 : Nat) : Int) = 49152 from rfl] at this
        rw [this, ← Nat.two_pow_add_eq_or_of_lt (i := 14) (show a' < 2 ^ 14 by omega) 3]
        omega
      conv => whnf
      refine ⟨fun kp => ?_, fun kp => ?_⟩
      · have hfin : w1.num 2 (49152 + a) = w.name n p := by rw [← hgo, Wr.nameGo, if_pos k1', hq, kp]; rfl
        conv => whnf
        rw [hor]
        refine .rel _ (num_x w1 hw 2 (.inr (.inl rfl)) (49152 + a)) (fun r ks' hR => ?_)
        obtain ⟨rfl, rfl⟩ := hR
        conv => whnf
        refine ⟨[0, 3, 4], .tup [], (w1.num 2 (49152 + a)).fl, rfl, rfl, rfl, ?_, _, rfl, rfl, hfin⟩
        repeat' (first | exact True.intro | exact rfl | exact fun _ => Iff.rfl | exact fun _ _ => rfl | exact renM_rests _ _ | exact (List.length_append ..).symm | exact byteAt_cat _ _ | refine And.intro ?_ ?_)
      · have hgo2 : (if w1.fits (lab l) then Wr.nameGo p m2 (w1.piece (lab l)) (mk ls') else w1.piece (lab l)) = w.name n p := by
          rw [← hgo, Wr.nameGo, if_pos k1', hq, kp, hb, htk, hdr]
          rfl
        conv => whnf
        refine ⟨by omega, ?_⟩
        conv => whnf
        rw [hsz]
        refine ⟨by omega, ?_⟩
        conv => whnf
        rw [hs1]
        refine .rel _ (piece_x w1 hw (lab l) hll) (fun r ks' hR => ?_)
        obtain ⟨rfl, rfl⟩ := hR
        cases hf : w1.fits (lab l)
        · rw [hf] at hgo2
          conv => whnf
          refine ⟨[0, 3, 4], .tup [], (w1.piece (lab l)).fl, rfl, rfl, rfl, ?_, _, rfl, rfl, hgo2⟩
          repeat' (first | exact True.intro | exact rfl | exact fun _ => Iff.rfl | exact fun _ _ => rfl | exact renM_rests _ _ | exact (List.length_append ..).symm | exact byteAt_cat _ _ | refine And.intro ?_ ?_)
        · rw [hf] at hgo2
          have hfull2 : (w1.piece (lab l)).full = false := by unfold Wr.piece; rw [if_pos hf]; exact hfull
          conv => whnf
          refine ⟨by omega, ?_⟩
          conv => whnf
          rw [hs2]
          refine ⟨⟨w1.piece (lab l), mk ls', m2⟩, [0, 3, 4], ⟨hpo, hfull2, ⟨ls', hls', rfl, by show (mk ls').length ≤ m2; omega⟩, by show (mk ls').length ≤ 255; omega, hgo2⟩, by show m2 < m2 + 1; omega, ?_⟩
          conv => whnf
          repeat' (first | exact True.intro | exact rfl | exact fun _ => Iff.rfl | exact fun _ _ => rfl | exact renM_rests _ _ | exact (List.length_append ..).symm | exact byteAt_cat _ _ | refine And.intro ?_ ?_)
  · have k1' : n1.length = 1 := by
      have : ¬ (n1.length : Int) > 1 := of_decide_eq_false k1
      have := mk_pos ls
      rw [← hsn] at this
      omega
    conv => whnf
    refine .rel _ (piece_x w1 hw n1 (by omega)) (fun r ks' hR => ?_)
    obtain ⟨rfl, rfl⟩ := hR
    have hfin : w1.piece n1 = w.name n p := by
      rw [← hgo]
      cases m1 with
      | zero => rfl
      | succ m => rw [Wr.nameGo, if_neg (by omega)]
    conv => whnf
    refine ⟨[0, 3, 4], .tup [], (w1.piece n1).fl, rfl, rfl, rfl, ?_, _, rfl, rfl, hfin⟩
    repeat' (first | exact True.intro | exact rfl | exact fun _ => Iff.rfl | exact fun _ _ => rfl | exact renM_rests _ _ | exact (List.length_append ..).symm | exact byteAt_cat _ _ | refine And.intro ?_ ?_)
end Go.Proofs.Ytdphkaiijlekhaa
namespace Go.Proofs.Ytdphkaiijlekhaa
open Go Go.Eng
set_option maxRecDepth 100000
set_option maxHeartbeats 4000000 in
theorem wlen_ok (w : Wr) : COk Try.prog 130 [.ptr 0 0] [pk w.fl] (fun r k => ∃ w1, k = [pk (Wr.fl w1)] ∧ (r = .d (.int .i64 w.buf.length) ∧ w1 = w)) := by
  refine COk.toThing Wr.fl (pOk_of_run (TT := TT) (IN := lookI []) TT_ok INok_nil mixed 1000 Try.func130 rfl (enters Try.func130 (by kernel_rfl) rfl) 9 (by kernel_rfl) rfl ?_ ?_)
  · rintro r l ⟨w1, _, rfl, _⟩
    rfl
  conv => whnf
  refine ⟨[0, 1, 2], .d (.int .i64 w.buf.length), w.fl, rfl, rfl, rfl, ?_, _, rfl, rfl, rfl⟩
  repeat' (first | exact True.intro | exact rfl | exact fun _ => Iff.rfl | exact fun _ _ => rfl | exact renM_rests _ _ | exact (List.length_append ..).symm | exact byteAt_cat _ _ | refine And.intro ?_ ?_)
theorem bytesOf_bytesF (s : List UInt8) : bytesOf s.length (bytesF s) = s := by
  apply List.ext_getElem?
  intro i
  unfold bytesOf
  rw [List.getElem?_map]
  by_cases h : i < s.length
  · rw [List.getElem?_range h, List.getElem?_eq_getElem h]
    simp [bytesF, byteAt, h]
  · rw [List.getElem?_eq_none (by simp; omega), List.getElem?_eq_none (by omega)]
    rfl
set_option maxHeartbeats 4000000 in
theorem out_ok (w : Wr) : COk Try.prog 82 [.ptr 0 0] [pk w.fl] (fun r k => ∃ w1, k = [pk (Wr.fl w1)] ∧ (r = (if w.full then .tup [.d (.str []), .d (.int .i64 7)] else .tup [.d (.str w.buf), .d (.int .i64 0)]) ∧ w1 = w)) := by
  refine COk.toThing Wr.fl (pOk_of_run (TT := TT) (IN := lookI []) TT_ok INok_nil mixed 1000 Try.func82 rfl (enters Try.func82 (by kernel_rfl) rfl) 14 (by kernel_rfl) rfl ?_ ?_)
  · rintro r l ⟨w1, _, rfl, _⟩
    split <;> rfl
  conv => whnf
  refine ⟨fun h1 => ?_, fun h1 => ?_⟩
  · conv => whnf
    rw [h1]
    refine ⟨[0, 1, 2], .tup [.d (.str []), .d (.int .i64 7)], w.fl, rfl, rfl, rfl, ?_, _, rfl, rfl, rfl⟩
    repeat' (first | exact True.intro | exact rfl | exact fun _ => Iff.rfl | exact fun _ _ => rfl | exact renM_rests _ _ | exact (List.length_append ..).symm | exact byteAt_cat _ _ | refine And.intro ?_ ?_)
  · conv => whnf
    refine ⟨fun i _ => ⟨_, rfl⟩, ?_⟩
    conv => whnf
    rw [h1, bytesOf_bytesF]
    refine ⟨[0, 1, 2], .tup [.d (.str w.buf), .d (.int .i64 0)], w.fl, rfl, rfl, rfl, ?_, _, rfl, rfl, rfl⟩
    repeat' (first | exact True.intro | exact rfl | exact fun _ => Iff.rfl | exact fun _ _ => rfl | exact renM_rests _ _ | exact (List.length_append ..).symm | exact byteAt_cat _ _ | refine And.intro ?_ ?_)
set_option maxHeartbeats 4000000 in
theorem wnew_ok (limit : Int) : COk Try.prog 77 [.d (.int .i64 limit)] [] (fun r k => r = .ptr 0 0 ∧ k = [pk (Wr.fl ⟨[], limit, false, []⟩)]) := by
  have h : COk Try.prog 77 [.d (.int .i64 limit)] [] (fun r k => r = .ptr 0 0 ∧ k = [.cells 206 [nilS, .d (.int .i64 limit), .d (.bool false), .map 1], .map [EK.str] false false []]) := by
    refine cOk_of_run (TT := TT) (IN := lookI []) TT_ok INok_nil mixed 1000 Try.func77 rfl (enters Try.func77 (by kernel_rfl) rfl) 6 (by kernel_rfl) ?_
    conv => whnf
    refine ⟨[1, 0], .ptr 0 0, _, rfl, rfl, rfl, ?_, rfl, rfl⟩
    repeat' (first | exact True.intro | exact rfl | exact fun _ => Iff.rfl | exact fun _ _ => rfl | exact renM_ent rfl _ | refine And.intro ?_ ?_)
  refine ((h.nilCell (R' := fun r k => r = .ptr 0 0 ∧ k = Wr.fl ⟨[], limit, false, []⟩) 5 1 (fun s k hh => by obtain ⟨rfl, rfl⟩ := hh; exact .inr ⟨0, 0, _, _, _, _, bytesF [], rfl, rfl, rfl, rfl⟩)).packNew (fun s k ⟨h1, _⟩ => by rw [h1]; rfl)).imp (fun s k ⟨k1, h1, h2, h3⟩ => ⟨h2, by rw [h1, h3]⟩)
theorem u8_byte (n : Int) : ((UInt8.ofNat (IntKind.u8.wrap n).toNat).toNat : Int) = IntKind.u8.wrap n := by
  have h : 0 ≤ IntKind.u8.wrap n ∧ IntKind.u8.wrap n < 256 := by rw [IntKind.wrap_u8]; omega
  rw [toNat_ofNat (by omega)]
  omega
def two (s : List UInt8) (k : Nat) (a b : UInt8) : List UInt8 := s.take k ++ (a :: b :: s.drop (k + 2))
theorem two_len (s : List UInt8) (k : Nat) (a b : UInt8) (h : k + 2 ≤ s.length) : (two s k a b).length = s.length := by
  simp [two]; omega
theorem two_row (s : List UInt8) (k : Nat) (x y : Int) (h : k + 2 ≤ s.length) (i : Nat) (hi : i < s.length) :
    midF k 2 (bytesF s) (chunk [.int .u8 (IntKind.u8.wrap x), .int .u8 (IntKind.u8.wrap y)] 1) i = bytesF (two s k (UInt8.ofNat (IntKind.u8.wrap x).toNat) (UInt8.ofNat (IntKind.u8.wrap y).toNat)) i := by
  have hk : (s.take k).length = k := by simp; omega
  unfold midF
  split
  · rename_i hc
    have : i = k ∨ i = k + 1 := by omega
    rcases this with rfl | rfl
    · rw [Nat.sub_self]
      show [DV.int .u8 (IntKind.u8.wrap x)] = _
      unfold bytesF byteAt two
      rw [Int.toNat_natCast, List.getElem?_append_right (by omega), hk, Nat.sub_self]
      simp only [List.getElem?_cons_zero, Option.getD_some]
      rw [u8_byte]
    · rw [show k + 1 - k = 1 by omega]
      show [DV.int .u8 (IntKind.u8.wrap y)] = _
      unfold bytesF byteAt two
      rw [Int.toNat_natCast, List.getElem?_append_right (by omega), hk, show k + 1 - k = 1 by omega]
      simp only [List.getElem?_cons_succ, List.getElem?_cons_zero, Option.getD_some]
      rw [u8_byte]
  · rename_i hc
    unfold bytesF byteAt two
    rw [Int.toNat_natCast]
    congr 3
    by_cases hik : i < k
    · rw [List.getElem?_append_left (by omega), List.getElem?_take, if_pos hik]
    · rw [List.getElem?_append_right (by omega), hk]
      obtain ⟨j, rfl⟩ : ∃ j, i = k + 2 + j := ⟨i - (k + 2), by omega⟩
      rw [show k + 2 + j - k = j + 1 + 1 by omega]
      simp only [List.getElem?_cons_succ, List.getElem?_drop]
def Wr.set (w : Wr) (at_ n : Int) : Wr := if at_ < 0 ∨ at_ > w.buf.length - 2 then w else { w with buf := two w.buf at_.toNat (UInt8.ofNat (IntKind.u8.wrap (n.fdiv 256)).toNat) (UInt8.ofNat (IntKind.u8.wrap n).toNat) }
set_option maxHeartbeats 4000000 in
theorem wset_ok (w : Wr) (hw : w.Ok) (at_ n : Int) : COk Try.prog 132 [.ptr 0 0, .d (.int .i64 at_), .d (.int .u16 n)] [pk w.fl] (fun r k => ∃ w1, k = [pk (Wr.fl w1)] ∧ (r = .tup [] ∧ w1 = w.set at_ n)) := by
  refine COk.toThing Wr.fl (pOk_of_run (TT := TT) (IN := lookI []) TT_ok INok_nil mixed 1000 Try.func132 rfl (enters Try.func132 (by kernel_rfl) rfl) 34 (by kernel_rfl) rfl ?_ ?_)
  · rintro r l ⟨w1, _, rfl, _⟩
    rfl
  conv => whnf
  refine ⟨fun h1 => ?_, fun h1 => ?_⟩
  · conv => whnf
    have h1' : at_ < 0 := of_decide_eq_true h1
    refine ⟨[0, 1, 2], .tup [], w.fl, rfl, rfl, rfl, ?_, _, rfl, rfl, by unfold Wr.set; rw [if_pos (.inl h1')]⟩
    repeat' (first | exact True.intro | exact rfl | exact fun _ => Iff.rfl | exact fun _ _ => rfl | exact renM_rests _ _ | exact (List.length_append ..).symm | exact byteAt_cat _ _ | refine And.intro ?_ ?_)
  have h1' : ¬ at_ < 0 := of_decide_eq_false h1
  have hlen := hw.len
  have hhi := hw.hi
  have hwr : IntKind.i64.wrap ((w.buf.length : Int) - 2) = w.buf.length - 2 := w64_in _ (by omega)
  conv => whnf
  rw [hwr]
  refine ⟨fun h2 => ?_, fun h2 => ?_⟩
  · have h2' : at_ > w.buf.length - 2 := of_decide_eq_true h2
    conv => whnf
    refine ⟨[0, 1, 2], .tup [], w.fl, rfl, rfl, rfl, ?_, _, rfl, rfl, by unfold Wr.set; rw [if_pos (.inr h2')]⟩
    repeat' (first | exact True.intro | exact rfl | exact fun _ => Iff.rfl | exact fun _ _ => rfl | exact renM_rests _ _ | exact (List.length_append ..).symm | exact byteAt_cat _ _ | refine And.intro ?_ ?_)
  · have h2' : ¬ at_ > w.buf.length - 2 := of_decide_eq_false h2
    conv => whnf
    refine ⟨by decide, ?_⟩
    conv => whnf
    refine ⟨by omega, ?_⟩
    conv => whnf
    refine ⟨by decide, ?_⟩
    conv => whnf
    refine ⟨⟨by show 2 ≤ _; omega, by omega⟩, ?_⟩
    have h3 : at_.toNat + 2 ≤ w.buf.length := by omega
    conv => whnf
    refine ⟨[0, 1, 2], .tup [], (w.set at_ n).fl, rfl, rfl, rfl, ?_, _, rfl, rfl, rfl⟩
    unfold Wr.set
    rw [if_neg (by omega)]
    repeat' (first | exact True.intro | exact rfl | exact renM_rests _ _ | exact (two_len _ _ _ _ h3).symm | exact two_row _ _ _ _ h3 | refine And.intro ?_ ?_)
end Go.Proofs.Ytdphkaiijlekhaa
namespace Go.Proofs.Ytdphkaiijlekhaa
open Go Go.Eng
/-- A reader. -/
structure Rdr where
  s : List UInt8
  p : Nat
  bad : Bool
def Rdr.kb (r : Rdr) : KB := .cells 218 [.d (.str r.s), .d (.int .i64 r.p), .d (.bool r.bad)]
structure Rdr.Ok (r : Rdr) : Prop where
  len : r.s.length < 4611686018427387904
  p : r.p ≤ r.s.length
def Rdr.raw (r : Rdr) (n : Int) : Rdr × List UInt8 := if r.bad then (r, []) else if n < 0 ∨ n > r.s.length - r.p then ({ r with bad := true }, []) else ({ r with p := r.p + n.toNat }, (r.s.drop r.p).take n.toNat)
theorem Rdr.Ok.raw {r : Rdr} (h : r.Ok) (n : Int) : (r.raw n).1.Ok := by
  unfold Rdr.raw
  split
  · exact h
  · split
    · exact ⟨h.len, h.p⟩
    · refine ⟨h.len, ?_⟩
      show r.p + n.toNat ≤ r.s.length
      omega
set_option maxRecDepth 100000
set_option maxHeartbeats 4000000 in
theorem open_ok (s : List UInt8) : COk Try.prog 91 [.d (.str s)] [] (fun r k => r = .ptr 0 0 ∧ k = [Rdr.kb ⟨s, 0, false⟩]) := by
  refine cOk_of_run (TT := TT) (IN := lookI []) TT_ok INok_nil mixed 1000 Try.func91 rfl (enters Try.func91 (by kernel_rfl) rfl) 5 (by kernel_rfl) ?_
  conv => whnf
  refine ⟨[0], .ptr 0 0, _, rfl, rfl, rfl, ?_, rfl, rfl⟩
  repeat' (first | exact True.intro | exact rfl | exact fun _ => Iff.rfl | exact fun _ _ => rfl | exact renM_ent rfl _ | refine And.intro ?_ ?_)
set_option maxHeartbeats 4000000 in
theorem raw_ok (r : Rdr) (hr : r.Ok) (n : Int) (hn : -9223372036854775808 ≤ n ∧ n ≤ 9223372036854775807) : COk Try.prog 139 [.ptr 0 0, .d (.int .i64 n)] [r.kb] (fun s k => ∃ r1, k = [Rdr.kb r1] ∧ (s = .d (.str (r.raw n).2) ∧ r1 = (r.raw n).1)) := by
  refine cOk_of_run (TT := TT) (IN := lookI [(94, Try.f94, 1), (138, Try.f138, 1)]) TT_ok (INok_cons (INok_cons INok_nil Try.func138 (by kernel_rfl) (by kernel_rfl)) Try.func94 (by kernel_rfl) (by kernel_rfl)) mixed 1000 Try.func139 rfl (enters Try.func139 (by kernel_rfl) rfl) 46 (by kernel_rfl) ?_
  have hlen := hr.len
  have hp := hr.p
  have hwr : IntKind.i64.wrap ((r.s.length : Int) - r.p) = (r.s.length : Int) - r.p := w64_in _ (by omega)
  conv => whnf
  refine ⟨fun h1 => ?_, fun h1 => ?_⟩
  · have e : r.raw n = (r, []) := by unfold Rdr.raw; rw [if_pos h1]
    rw [e]
    conv => whnf
    refine ⟨[0], .d (.str []), [r.kb], rfl, rfl, rfl, ?_, _, rfl, rfl, rfl⟩
    repeat' (first | exact True.intro | exact rfl | exact fun _ => Iff.rfl | exact fun _ _ => rfl | exact renM_ent rfl _ | refine And.intro ?_ ?_)
  conv => whnf
  refine ⟨fun h2 => ?_, fun h2 => ?_⟩
  · have h2' : n < 0 := of_decide_eq_true h2
    have e : r.raw n = ({ r with bad := true }, []) := by unfold Rdr.raw; rw [if_neg (by simp [h1]), if_pos (.inl h2')]
    rw [e]
    conv => whnf
    repeat (first | (refine brT rfl ?_; conv => whnf) | (refine brF rfl ?_; conv => whnf) | (refine .once ?_; conv => whnf) | (refine ⟨by decide, ?_⟩; conv => whnf) | (refine And.intro (Nat.le_of_ble_eq_true rfl) ?_; conv => whnf))
    refine ⟨[0], .d (.str []), [Rdr.kb { r with bad := true }], rfl, rfl, rfl, ?_, _, rfl, rfl, rfl⟩
    repeat' (first | exact True.intro | exact rfl | exact fun _ => Iff.rfl | exact fun _ _ => rfl | exact renM_ent rfl _ | refine And.intro ?_ ?_)
  have h2' : ¬ n < 0 := of_decide_eq_false h2
  conv => whnf
  rw [hwr]
  refine ⟨fun h3 => ?_, fun h3 => ?_⟩
  · have h3' : n > (r.s.length : Int) - r.p := of_decide_eq_true h3
    have e : r.raw n = ({ r with bad := true }, []) := by unfold Rdr.raw; rw [if_neg (by simp [h1]), if_pos (.inr h3')]
    rw [e]
    conv => whnf
    repeat (first | (refine brT rfl ?_; conv => whnf) | (refine brF rfl ?_; conv => whnf) | (refine .once ?_; conv => whnf) | (refine ⟨by decide, ?_⟩; conv => whnf) | (refine And.intro (Nat.le_of_ble_eq_true rfl) ?_; conv => whnf))
    refine ⟨[0], .d (.str []), [Rdr.kb { r with bad := true }], rfl, rfl, rfl, ?_, _, rfl, rfl, rfl⟩
    repeat' (first | exact True.intro | exact rfl | exact fun _ => Iff.rfl | exact fun _ _ => rfl | exact renM_ent rfl _ | refine And.intro ?_ ?_)
  · have h3' : ¬ n > (r.s.length : Int) - r.p := of_decide_eq_false h3
    have e : r.raw n = ({ r with p := r.p + n.toNat }, (r.s.drop r.p).take n.toNat) := by unfold Rdr.raw; rw [if_neg (by simp [h1]), if_neg (by omega)]
    have e1 : IntKind.i64.wrap ((r.p : Int) + n) = ((r.p + n.toNat : Nat) : Int) := by rw [w64_in _ (by omega)]; omega
    have e2 : IntKind.i64.wrap (((r.p + n.toNat : Nat) : Int) - n) = (r.p : Int) := by rw [w64_in _ (by omega)]; omega
    have e3 : sub r.s (r.p : Int) ((r.p + n.toNat : Nat) : Int) = (r.s.drop r.p).take n.toNat := by
      unfold sub
      rw [Int.toNat_natCast, Int.toNat_natCast, show r.p + n.toNat - r.p = n.toNat by omega]
    rw [e]
    conv => whnf
    rw [e1, e2]
    refine ⟨by omega, ?_⟩
    rw [e3]
    conv => whnf
    refine ⟨[0], .d (.str ((r.s.drop r.p).take n.toNat)), [Rdr.kb { r with p := r.p + n.toNat }], rfl, rfl, rfl, ?_, _, rfl, rfl, rfl⟩
    repeat' (first | exact True.intro | exact rfl | exact fun _ => Iff.rfl | exact fun _ _ => rfl | exact renM_ent rfl _ | refine And.intro ?_ ?_)
theorem rdr_fam {P : Program} {f : FuncId} {al al' : List SV} {a : Rdr} {Q : SV → Rdr → Prop} (h : COk P f al [a.kb] (fun s k => ∃ a1, k = [Rdr.kb a1] ∧ Q s a1)) (pre rest : List KB) (σ : Nat → Nat) (hσ : σ = sig (List.range' pre.length 1) (pre.length + (1 + rest.length))) (ha : mapL σ al = al') :
    COk P f al' (pre ++ (a.kb :: rest)) (fun s k => ∃ s0 a1, Q s0 a1 ∧ s = mapV σ s0 ∧ k = pre ++ (Rdr.kb a1 :: rest)) :=
  COk.fam (fun a _ => [Rdr.kb a]) 1 (fun _ _ => rfl) (fun _ _ _ _ => rfl) h pre rest σ hσ ha
theorem Rdr.raw_len {r : Rdr} (n : Nat) (h : (r.raw n).1.bad = false) : (r.raw n).2.length = n := by
  unfold Rdr.raw at h ⊢
  split
  · rename_i hb; rw [if_pos hb] at h; rw [hb] at h; cases h
  · rename_i hb
    rw [if_neg hb] at h
    split
    · rename_i hc; rw [if_pos hc] at h; cases h
    · simp
      omega
theorem acc1 (x y : Nat) (hx : x < 72057594037927936) (hy : y < 256) : bits .or .u64 (IntKind.u64.wrap ((x : Int) * 2 ^ 8)) (IntKind.u64.wrap (y : Int)) = ((x * 256 + y : Nat) : Int) := by
  have e1 : IntKind.u64.wrap ((x : Int) * 2 ^ 8) = ((x * 256 : Nat) : Int) := by rw [IntKind.wrap_u64]; omega
  have e2 : IntKind.u64.wrap (y : Int) = (y : Int) := by rw [IntKind.wrap_u64]; omega
  rw [e1, e2, u64_or_nat _ _ (by omega) (by omega)]
  have := Nat.two_pow_add_eq_or_of_lt (i := 8) (show y < 2 ^ 8 by omega) x
  rw [show x * 256 = 2 ^ 8 * x by omega, ← this]
theorem acc8 (y0 y1 y2 y3 y4 y5 y6 y7 : Nat) (h0 : y0 < 256) (h1 : y1 < 256) (h2 : y2 < 256) (h3 : y3 < 256) (h4 : y4 < 256) (h5 : y5 < 256) (h6 : y6 < 256) (h7 : y7 < 256) :
    bits .or .u64 (IntKind.u64.wrap (bits .or .u64 (IntKind.u64.wrap (bits .or .u64 (IntKind.u64.wrap (bits .or .u64 (IntKind.u64.wrap (bits .or .u64 (IntKind.u64.wrap (bits .or .u64 (IntKind.u64.wrap (bits .or .u64 (IntKind.u64.wrap (bits .or .u64 (IntKind.u64.wrap (0 * 2 ^ 8)) (IntKind.u64.wrap (y0 : Int)) * 2 ^ 8)) (IntKind.u64.wrap (y1 : Int)) * 2 ^ 8)) (IntKind.u64.wrap (y2 : Int)) * 2 ^ 8)) (IntKind.u64.wrap (y3 : Int)) * 2 ^ 8)) (IntKind.u64.wrap (y4 : Int)) * 2 ^ 8)) (IntKind.u64.wrap (y5 : Int)) * 2 ^ 8)) (IntKind.u64.wrap (y6 : Int)) * 2 ^ 8)) (IntKind.u64.wrap (y7 : Int)) =
    ((((((((((0 * 256 + y0) * 256 + y1) * 256 + y2) * 256 + y3) * 256 + y4) * 256 + y5) * 256 + y6) * 256 + y7 : Nat)) : Int) := by
  have e0 := acc1 0 y0 (by omega) h0
  rw [show ((0 : Nat) : Int) = 0 from rfl] at e0
  rw [e0, acc1 _ y1 (by omega) h1, acc1 _ y2 (by omega) h2, acc1 _ y3 (by omega) h3, acc1 _ y4 (by omega) h4, acc1 _ y5 (by omega) h5, acc1 _ y6 (by omega) h6, acc1 _ y7 (by omega) h7]
theorem len_cases {α : Type} {l : List α} {n : Nat} (h : l.length = n + 1) : ∃ a t, l = a :: t ∧ t.length = n := by
  cases l with
  | nil => simp at h
  | cons a t => exact ⟨a, t, rfl, by simpa using h⟩
/-- The number that bytes tell. -/
def numOf (s : List UInt8) : Nat := s.foldl (fun n b => n * 256 + b.toNat) 0
def wideN (n : Nat) : Prop := n = 1 ∨ n = 2 ∨ n = 4 ∨ n = 8
def Rdr.num (r : Rdr) (width : Nat) : Rdr × Nat := ((r.raw width).1, if (r.raw width).1.bad then 0 else numOf (r.raw width).2)
set_option maxHeartbeats 4000000 in
theorem rnum_ok (r : Rdr) (hr : r.Ok) (width : Nat) (hw : wideN width) : COk Try.prog 92 [.ptr 0 0, .d (.int .i64 width)] [r.kb] (fun s k => ∃ r1, k = [Rdr.kb r1] ∧ (s = .d (.int .u64 (r.num width).2) ∧ r1 = (r.num width).1)) := by
  refine cOk_of_run (TT := TT) (IN := lookI [(126, Try.f126, 1), (94, Try.f94, 1)]) TT_ok (INok_cons (INok_cons INok_nil Try.func94 (by kernel_rfl) (by kernel_rfl)) Try.func126 (by kernel_rfl) (by kernel_rfl)) mixed 1000 Try.func92 rfl (enters Try.func92 (by kernel_rfl) rfl) 34 (by kernel_rfl) ?_
  rcases hw with rfl | rfl | rfl | rfl
  · conv => whnf
    repeat (first | (refine brT rfl ?_; conv => whnf) | (refine brF rfl ?_; conv => whnf) | (refine .once ?_; conv => whnf) | (refine ⟨by decide, ?_⟩; conv => whnf) | (refine And.intro (Nat.le_of_ble_eq_true rfl) ?_; conv => whnf))
    refine .rel _ (rdr_fam (raw_ok r hr 1 (by omega)) [] [] _ rfl rfl) (fun x ks' hR => ?_)
    obtain ⟨_, r1, ⟨rfl, rfl⟩, rfl, rfl⟩ := hR
    conv => whnf
    refine ⟨fun h1 => ?_, fun h1 => ?_⟩
    · have e : r.num 1 = ((r.raw 1).1, 0) := by unfold Rdr.num; rw [if_pos (show (r.raw ((1 : Nat) : Int)).1.bad = true from h1)]; rfl
      rw [e]
      conv => whnf
      refine ⟨[0], .d (.int .u64 0), [(r.raw 1).1.kb], rfl, rfl, rfl, ?_, _, rfl, rfl, rfl⟩
      repeat' (first | exact True.intro | exact rfl | exact fun _ => Iff.rfl | exact fun _ _ => rfl | exact renM_ent rfl _ | refine And.intro ?_ ?_)
    · have hrl : (r.raw ((1 : Nat) : Int)).2.length = 1 := Rdr.raw_len 1 h1
      have e : r.num 1 = ((r.raw 1).1, numOf (r.raw ((1 : Nat) : Int)).2) := by unfold Rdr.num; rw [if_neg (by rw [show (r.raw ((1 : Nat) : Int)).1.bad = false from h1]; simp)]; rfl
      rw [e]
      obtain ⟨b0, t0, e0, l0⟩ := len_cases hrl
      have e9 := List.length_eq_zero_iff.1 l0
      subst e9
      rw [e0]
      rw [show (r.raw 1).2 = [b0] from e0]
      conv => whnf
      repeat (first | (refine brT rfl ?_; conv => whnf) | (refine brF rfl ?_; conv => whnf) | (refine .once ?_; conv => whnf) | (refine ⟨by decide, ?_⟩; conv => whnf) | (refine And.intro (Nat.le_of_ble_eq_true rfl) ?_; conv => whnf))
      refine ⟨[0], .d (.int .u64 (numOf [b0])), [(r.raw 1).1.kb], rfl, rfl, ?_, ?_, _, rfl, rfl, rfl⟩
      · exact congrArg (fun z => SV.d (DV.int .u64 z)) (acc8 (0) (0) (0) (0) (0) (0) (0) (b0.toNat) (by omega) (by omega) (by omega) (by omega) (by omega) (by omega) (by omega) (UInt8.toNat_lt _))
      · repeat' (first | exact True.intro | exact rfl | exact fun _ => Iff.rfl | exact fun _ _ => rfl | exact renM_ent rfl _ | refine And.intro ?_ ?_)
  · conv => whnf
    repeat (first | (refine brT rfl ?_; conv => whnf) | (refine brF rfl ?_; conv => whnf) | (refine .once ?_; conv => whnf) | (refine ⟨by decide, ?_⟩; conv => whnf) | (refine And.intro (Nat.le_of_ble_eq_true rfl) ?_; conv => whnf))
    refine .rel _ (rdr_fam (raw_ok r hr 2 (by omega)) [] [] _ rfl rfl) (fun x ks' hR => ?_)
    obtain ⟨_, r1, ⟨rfl, rfl⟩, rfl, rfl⟩ := hR
    conv => whnf
    refine ⟨fun h1 => ?_, fun h1 => ?_⟩
    · have e : r.num 2 = ((r.raw 2).1, 0) := by unfold Rdr.num; rw [if_pos (show (r.raw ((2 : Nat) : Int)).1.bad = true from h1)]; rfl
      rw [e]
      conv => whnf
      refine ⟨[0], .d (.int .u64 0), [(r.raw 2).1.kb], rfl, rfl, rfl, ?_, _, rfl, rfl, rfl⟩
      repeat' (first | exact True.intro | exact rfl | exact fun _ => Iff.rfl | exact fun _ _ => rfl | exact renM_ent rfl _ | refine And.intro ?_ ?_)
    · have hrl : (r.raw ((2 : Nat) : Int)).2.length = 2 := Rdr.raw_len 2 h1
      have e : r.num 2 = ((r.raw 2).1, numOf (r.raw ((2 : Nat) : Int)).2) := by unfold Rdr.num; rw [if_neg (by rw [show (r.raw ((2 : Nat) : Int)).1.bad = false from h1]; simp)]; rfl
      rw [e]
      obtain ⟨b0, t0, e0, l0⟩ := len_cases hrl
      obtain ⟨b1, t1, e1, l1⟩ := len_cases l0
      subst e1
      have e9 := List.length_eq_zero_iff.1 l1
      subst e9
      rw [e0]
      rw [show (r.raw 2).2 = [b0, b1] from e0]
      conv => whnf
      repeat (first | (refine brT rfl ?_; conv => whnf) | (refine brF rfl ?_; conv => whnf) | (refine .once ?_; conv => whnf) | (refine ⟨by decide, ?_⟩; conv => whnf) | (refine And.intro (Nat.le_of_ble_eq_true rfl) ?_; conv => whnf))
      refine ⟨[0], .d (.int .u64 (numOf [b0, b1])), [(r.raw 2).1.kb], rfl, rfl, ?_, ?_, _, rfl, rfl, rfl⟩
      · exact congrArg (fun z => SV.d (DV.int .u64 z)) (acc8 (0) (0) (0) (0) (0) (0) (b0.toNat) (b1.toNat) (by omega) (by omega) (by omega) (by omega) (by omega) (by omega) (UInt8.toNat_lt _) (UInt8.toNat_lt _))
      · repeat' (first | exact True.intro | exact rfl | exact fun _ => Iff.rfl | exact fun _ _ => rfl | exact renM_ent rfl _ | refine And.intro ?_ ?_)
  · conv => whnf
    repeat (first | (refine brT rfl ?_; conv => whnf) | (refine brF rfl ?_; conv => whnf) | (refine .once ?_; conv => whnf) | (refine ⟨by decide, ?_⟩; conv => whnf) | (refine And.intro (Nat.le_of_ble_eq_true rfl) ?_; conv => whnf))
    refine .rel _ (rdr_fam (raw_ok r hr 4 (by omega)) [] [] _ rfl rfl) (fun x ks' hR => ?_)
    obtain ⟨_, r1, ⟨rfl, rfl⟩, rfl, rfl⟩ := hR
    conv => whnf
    refine ⟨fun h1 => ?_, fun h1 => ?_⟩
    · have e : r.num 4 = ((r.raw 4).1, 0) := by unfold Rdr.num; rw [if_pos (show (r.raw ((4 : Nat) : Int)).1.bad = true from h1)]; rfl
      rw [e]
      conv => whnf
      refine ⟨[0], .d (.int .u64 0), [(r.raw 4).1.kb], rfl, rfl, rfl, ?_, _, rfl, rfl, rfl⟩
      repeat' (first | exact True.intro | exact rfl | exact fun _ => Iff.rfl | exact fun _ _ => rfl | exact renM_ent rfl _ | refine And.intro ?_ ?_)
    · have hrl : (r.raw ((4 : Nat) : Int)).2.length = 4 := Rdr.raw_len 4 h1
      have e : r.num 4 = ((r.raw 4).1, numOf (r.raw ((4 : Nat) : Int)).2) := by unfold Rdr.num; rw [if_neg (by rw [show (r.raw ((4 : Nat) : Int)).1.bad = false from h1]; simp)]; rfl
      rw [e]
      obtain ⟨b0, t0, e0, l0⟩ := len_cases hrl
      obtain ⟨b1, t1, e1, l1⟩ := len_cases l0
      obtain ⟨b2, t2, e2, l2⟩ := len_cases l1
      obtain ⟨b3, t3, e3, l3⟩ := len_cases l2
      subst e1
      subst e2
      subst e3
      have e9 := List.length_eq_zero_iff.1 l3
      subst e9
      rw [e0]
      rw [show (r.raw 4).2 = [b0, b1, b2, b3] from e0]
      conv => whnf
      repeat (first | (refine brT rfl ?_; conv => whnf) | (refine brF rfl ?_; conv => whnf) | (refine .once ?_; conv => whnf) | (refine ⟨by decide, ?_⟩; conv => whnf) | (refine And.intro (Nat.le_of_ble_eq_true rfl) ?_; conv => whnf))
      refine ⟨[0], .d (.int .u64 (numOf [b0, b1, b2, b3])), [(r.raw 4).1.kb], rfl, rfl, ?_, ?_, _, rfl, rfl, rfl⟩
      · exact congrArg (fun z => SV.d (DV.int .u64 z)) (acc8 (0) (0) (0) (0) (b0.toNat) (b1.toNat) (b2.toNat) (b3.toNat) (by omega) (by omega) (by omega) (by omega) (UInt8.toNat_lt _) (UInt8.toNat_lt _) (UInt8.toNat_lt _) (UInt8.toNat_lt _))
      · repeat' (first | exact True.intro | exact rfl | exact fun _ => Iff.rfl | exact fun _ _ => rfl | exact renM_ent rfl _ | refine And.intro ?_ ?_)
  · conv => whnf
    repeat (first | (refine brT rfl ?_; conv => whnf) | (refine brF rfl ?_; conv => whnf) | (refine .once ?_; conv => whnf) | (refine ⟨by decide, ?_⟩; conv => whnf) | (refine And.intro (Nat.le_of_ble_eq_true rfl) ?_; conv => whnf))
    refine .rel _ (rdr_fam (raw_ok r hr 8 (by omega)) [] [] _ rfl rfl) (fun x ks' hR => ?_)
    obtain ⟨_, r1, ⟨rfl, rfl⟩, rfl, rfl⟩ := hR
    conv => whnf
    refine ⟨fun h1 => ?_, fun h1 => ?_⟩
    · have e : r.num 8 = ((r.raw 8).1, 0) := by unfold Rdr.num; rw [if_pos (show (r.raw ((8 : Nat) : Int)).1.bad = true from h1)]; rfl
      rw [e]
      conv => whnf
      refine ⟨[0], .d (.int .u64 0), [(r.raw 8).1.kb], rfl, rfl, rfl, ?_, _, rfl, rfl, rfl⟩
      repeat' (first | exact True.intro | exact rfl | exact fun _ => Iff.rfl | exact fun _ _ => rfl | exact renM_ent rfl _ | refine And.intro ?_ ?_)
    · have hrl : (r.raw ((8 : Nat) : Int)).2.length = 8 := Rdr.raw_len 8 h1
      have e : r.num 8 = ((r.raw 8).1, numOf (r.raw ((8 : Nat) : Int)).2) := by unfold Rdr.num; rw [if_neg (by rw [show (r.raw ((8 : Nat) : Int)).1.bad = false from h1]; simp)]; rfl
      rw [e]
      obtain ⟨b0, t0, e0, l0⟩ := len_cases hrl
      obtain ⟨b1, t1, e1, l1⟩ := len_cases l0
      obtain ⟨b2, t2, e2, l2⟩ := len_cases l1
      obtain ⟨b3, t3, e3, l3⟩ := len_cases l2
      obtain ⟨b4, t4, e4, l4⟩ := len_cases l3
      obtain ⟨b5, t5, e5, l5⟩ := len_cases l4
      obtain ⟨b6, t6, e6, l6⟩ := len_cases l5
      obtain ⟨b7, t7, e7, l7⟩ := len_cases l6
      subst e1
      subst e2
      subst e3
      subst e4
      subst e5
      subst e6
      subst e7
      have e9 := List.length_eq_zero_iff.1 l7
      subst e9
      rw [e0]
      rw [show (r.raw 8).2 = [b0, b1, b2, b3, b4, b5, b6, b7] from e0]
      conv => whnf
      repeat (first | (refine brT rfl ?_; conv => whnf) | (refine brF rfl ?_; conv => whnf) | (refine .once ?_; conv => whnf) | (refine ⟨by decide, ?_⟩; conv => whnf) | (refine And.intro (Nat.le_of_ble_eq_true rfl) ?_; conv => whnf))
      refine ⟨[0], .d (.int .u64 (numOf [b0, b1, b2, b3, b4, b5, b6, b7])), [(r.raw 8).1.kb], rfl, rfl, ?_, ?_, _, rfl, rfl, rfl⟩
      · exact congrArg (fun z => SV.d (DV.int .u64 z)) (acc8 (b0.toNat) (b1.toNat) (b2.toNat) (b3.toNat) (b4.toNat) (b5.toNat) (b6.toNat) (b7.toNat) (UInt8.toNat_lt _) (UInt8.toNat_lt _) (UInt8.toNat_lt _) (UInt8.toNat_lt _) (UInt8.toNat_lt _) (UInt8.toNat_lt _) (UInt8.toNat_lt _) (UInt8.toNat_lt _))
      · repeat' (first | exact True.intro | exact rfl | exact fun _ => Iff.rfl | exact fun _ _ => rfl | exact renM_ent rfl _ | refine And.intro ?_ ?_)
end Go.Proofs.Ytdphkaiijlekhaa
namespace Go.Proofs.Ytdphkaiijlekhaa
open Go Go.Eng
/-- Labels, without an end. -/
def labs : List (List UInt8) → List UInt8
  | [] => []
  | l :: ls => lab l ++ labs ls
theorem labs_append (a b : List (List UInt8)) : labs (a ++ b) = labs a ++ labs b := by
  induction a with
  | nil => rfl
  | cons l a ih => simp [labs, ih]
theorem labs_mk (a : List (List UInt8)) : labs a ++ [0] = mk a := by
  induction a with
  | nil => rfl
  | cons l a ih => simp [labs, mk, ← ih]
theorem labs_no (a : List (List UInt8)) (ha : ∀ l ∈ a, okL l) : ∀ b, (∀ l ∈ b, okL l) → labs a ≠ mk b := by
  induction a with
  | nil =>
    intro b _ h
    have := mk_pos b
    rw [← h] at this
    simp [labs] at this
  | cons l a ih =>
    intro b hb h
    have hl := ha l (List.mem_cons_self ..)
    have h1 : bt (labs (l :: a)) 0 = l.length := bt_lab l (labs a) hl
    cases b with
    | nil =>
      rw [h] at h1
      have h2 := hl.1
      have : (0 : Nat) = l.length := h1
      omega
    | cons k b =>
      have hk := hb k (List.mem_cons_self ..)
      have h2 : bt (mk (k :: b)) 0 = k.length := bt_lab k (mk b) hk
      rw [h] at h1
      have hlen : l.length = k.length := by rw [← h1, h2]
      have := congrArg (List.drop (1 + l.length)) h
      rw [show labs (l :: a) = lab l ++ labs a from rfl, drop_lab, hlen, show mk (k :: b) = lab k ++ mk b from rfl, drop_lab] at this
      exact ih (fun x hx => ha x (List.mem_cons_of_mem _ hx)) b (fun x hx => hb x (List.mem_cons_of_mem _ hx)) this
theorem labs_notName (a : List (List UInt8)) (ha : ∀ l ∈ a, okL l) : ¬ isName (labs a) := fun h => by
  obtain ⟨_, ls, h1, h2⟩ := (isName_iff _).1 h
  exact labs_no a ha ls h1 h2
/-- A name is read: label by label, and on where it is pointed to. -/
def rnGo (s : List UInt8) : Nat → Nat → Nat → Option Nat → List UInt8 → List UInt8 × Option Nat
  | 0, _, _, bh, nm => (nm, bh)
  | f + 1, begin, at_, bh, nm =>
    if at_ < s.length ∧ nm.length < 255 then
      if bt s at_ = 0 then (nm ++ [0], some (bh.getD (at_ + 1)))
      else if bt s at_ ≤ 63 ∧ bt s at_ < s.length - at_ then rnGo s f begin (at_ + 1 + bt s at_) bh (nm ++ (s.drop at_).take (1 + bt s at_))
      else if 192 ≤ bt s at_ ∧ at_ + 1 < s.length then
        if (bt s at_ - 192) * 256 + bt s (at_ + 1) ≥ begin then (nm, some (bh.getD (at_ + 2)))
        else rnGo s f ((bt s at_ - 192) * 256 + bt s (at_ + 1)) ((bt s at_ - 192) * 256 + bt s (at_ + 1)) (some (bh.getD (at_ + 2))) nm
      else (nm, bh)
    else (nm, bh)
/-- How many steps it takes at most. -/
def rnFuel (s : List UInt8) (begin : Nat) (nm : List UInt8) : Nat := (400 - nm.length) * (s.length + 1) + begin
def rnAll (s : List UInt8) (p : Nat) : List UInt8 × Option Nat := rnGo s (rnFuel s p [] + 1) p p none []
def Rdr.name (r : Rdr) : Rdr × List UInt8 := if r.bad then (r, []) else
  if isName (rnAll r.s r.p).1 then ({ r with p := (rnAll r.s r.p).2.getD 0 }, (rnAll r.s r.p).1) else ({ r with bad := true }, [])
theorem Rdr.name_bad {r : Rdr} (h1 : r.bad = false) {nm : List UInt8} (h : (rnAll r.s r.p).1 = nm) (hn : ¬ isName nm) : r.name = ({ r with bad := true }, []) := by
  unfold Rdr.name
  rw [if_neg (by simp [h1]), h, if_neg hn]
theorem Rdr.name_ok {r : Rdr} (h1 : r.bad = false) {nm : List UInt8} {k : Nat} (h : rnAll r.s r.p = (nm, some k)) (hn : isName nm) : r.name = ({ r with p := k }, nm) := by
  unfold Rdr.name
  rw [if_neg (by simp [h1]), h, if_pos hn]
  rfl
theorem bytesOf_cat (a b : List UInt8) (f : Nat → List DV) (hf : ∀ i, i < a.length + b.length → f i = bytesF (a ++ b) i) : bytesOf (a.length + b.length) f = a ++ b := by
  have := bytesOf_bytesF (a ++ b)
  rw [List.length_append] at this
  rw [← this]
  unfold bytesOf
  apply List.map_congr_left
  intro i hi
  rw [hf i (List.mem_range.1 hi)]
theorem zero_cat (nm : List UInt8) (i : Nat) (h : i < nm.length + 1) : catF nm.length (bytesF nm) (chunk [.int .u8 0] 1) i = bytesF (nm ++ [0]) i := by
  unfold catF
  split
  · rename_i hl
    unfold bytesF byteAt
    rw [Int.toNat_natCast, List.getElem?_append_left hl]
  · rename_i hl
    have : i = nm.length := by omega
    subst this
    rw [Nat.sub_self]
    unfold bytesF byteAt
    rw [Int.toNat_natCast, List.getElem?_append_right (Nat.le_refl _), Nat.sub_self]
    rfl
theorem labs_snoc (ls : List (List UInt8)) (l : List UInt8) : labs (ls ++ [l]) = labs ls ++ lab l := by
  rw [labs_append]
  simp [labs]
theorem or_i64 (a b : Nat) (ha : a < 4611686018427387904) (hb : b < 4611686018427387904) (hab : a ||| b < 9223372036854775808) : bits .or .i64 (a : Int) (b : Int) = ((a ||| b : Nat) : Int) := by
  have h := u64_or_nat a b (by omega) (by omega)
  unfold bits at h ⊢
  have e : ((BitVec.ofInt IntKind.i64.bits (a : Int) ||| BitVec.ofInt IntKind.i64.bits (b : Int)).toNat : Int) = ((BitVec.ofInt IntKind.u64.bits (a : Int) ||| BitVec.ofInt IntKind.u64.bits (b : Int)).toNat : Int) := rfl
  show IntKind.i64.wrap ((BitVec.ofInt IntKind.i64.bits (a : Int) ||| BitVec.ofInt IntKind.i64.bits (b : Int)).toNat : Int) = _
  have h : IntKind.u64.wrap ((BitVec.ofInt IntKind.u64.bits (a : Int) ||| BitVec.ofInt IntKind.u64.bits (b : Int)).toNat : Int) = ((a ||| b : Nat) : Int) := h
  have hlt := (BitVec.ofInt IntKind.u64.bits (a : Int) ||| BitVec.ofInt IntKind.u64.bits (b : Int)).isLt
  rw [IntKind.wrap_u64] at h
  rw [e]
  generalize (BitVec.ofInt IntKind.u64.bits (a : Int) ||| BitVec.ofInt IntKind.u64.bits (b : Int)).toNat = X at h hlt
  have hlt : X < 18446744073709551616 := hlt
  rw [w64_in _ (by omega)]
  omega
def bhI : Option Nat → Int
  | none => -1
  | some k => k
structure RnSt where
  b : Nat
  p : Nat
  bh : Option Nat
  nm : List UInt8
  f : Nat
set_option maxRecDepth 100000
set_option maxHeartbeats 8000000 in
theorem rname_ok (r : Rdr) (hr : r.Ok) : COk Try.prog 93 [.ptr 0 0] [r.kb] (fun s k => ∃ r1, k = [Rdr.kb r1] ∧ (s = .d (.str r.name.2) ∧ r1 = r.name.1)) := by
  refine cOk_of_run (TT := TT) (IN := lookI [(94, Try.f94, 1), (138, Try.f138, 1)]) TT_ok (INok_cons (INok_cons INok_nil Try.func138 (by kernel_rfl) (by kernel_rfl)) Try.func94 (by kernel_rfl) (by kernel_rfl)) mixed 1000 Try.func93 rfl (enters Try.func93 (by kernel_rfl) rfl) 123 (by kernel_rfl) ?_
  have hlen := hr.len
  have hp := hr.p
  conv => whnf
  refine ⟨fun h1 => ?_, fun h1 => ?_⟩
  · have e : r.name = (r, []) := by unfold Rdr.name; rw [if_pos h1]
    rw [e]
    conv => whnf
    refine ⟨[0], .d (.str []), [r.kb], rfl, rfl, rfl, ?_, _, rfl, rfl, rfl⟩
    repeat' (first | exact True.intro | exact rfl | exact fun _ => Iff.rfl | exact fun _ _ => rfl | exact renM_ent rfl _ | refine And.intro ?_ ?_)
  conv => whnf
  refine .nilT 3 5 1 (bytesF []) 0 (fun _ => []) rfl ?_
  conv => whnf
  refine .inv RnSt (fun s => s.p ≤ r.s.length ∧ s.b ≤ r.s.length ∧ (∀ k, s.bh = some k → k ≤ r.s.length) ∧ (∃ ls, (∀ l ∈ ls, okL l) ∧ s.nm = labs ls) ∧ s.nm.length ≤ 318 ∧ rnFuel r.s s.b s.nm < s.f ∧ rnGo r.s s.f s.b s.p s.bh s.nm = rnAll r.s r.p) (fun s => [(3, .all 1), (4, .d (.int .i64 s.b)), (5, .d (.int .i64 s.p)), (6, .d (.int .i64 (bhI s.bh)))]) (fun s => [(1, .row 5 1 s.nm.length .iff (bytesF s.nm))]) (fun s => s.f) ⟨⟨r.p, r.p, none, [], rnFuel r.s r.p [] + 1⟩, [0, 1], ?_, ?_⟩ ?_
  · exact ⟨hp, hp, (fun k h => by cases h), ⟨[], (fun l h => by cases h), rfl⟩, by show 0 ≤ 318; omega, Nat.lt_succ_self _, rfl⟩
  · conv => whnf
    repeat' (first | exact True.intro | exact rfl | exact fun _ => Iff.rfl | exact fun _ _ => rfl | exact renM_ent rfl _ | refine And.intro ?_ ?_)
  intro s hs
  obtain ⟨hp1, hb1, hbh, ⟨ls, hls, hnm⟩, hnl, hf, hgo⟩ := hs
  conv => whnf
  generalize s.p = p at hp1 hgo ⊢
  generalize s.b = b at hb1 hf hgo ⊢
  generalize s.bh = bh at hbh hgo ⊢
  generalize s.nm = nm at hnm hnl hf hgo ⊢
  generalize s.f = f at hf hgo ⊢
  obtain ⟨f', rfl⟩ : ∃ f', f = f' + 1 := ⟨f - 1, by omega⟩
  rw [rnGo] at hgo
  have hnn : ¬ isName nm := by rw [hnm]; exact labs_notName ls hls
  have hbhI : bhI bh = -1 ∨ ∃ k : Nat, bh = some k ∧ bhI bh = (k : Int) ∧ k ≤ r.s.length := by
    cases hb : bh with
    | none => exact .inl rfl
    | some k => exact .inr ⟨k, rfl, rfl, hbh k hb⟩
  have hbt : bt r.s p < 256 := bt_lt _ _
  refine ⟨fun c1 => ?_, fun c1 => ?_⟩
  rotate_left
  · have c1' : ¬ p < r.s.length := by have : ¬ (p : Int) < r.s.length := of_decide_eq_false c1
                                      omega
    rw [if_neg (by omega)] at hgo
    conv => whnf
    · have hfin : r.name = ({ r with bad := true }, []) := Rdr.name_bad h1 (show (rnAll r.s r.p).1 = nm by rw [← hgo]) hnn
      rw [hfin]
      conv => whnf
      refine ⟨fun i hi => ⟨_, rfl⟩, ?_⟩
      conv => whnf
      rw [bytesOf_bytesF]
      refine .one (.data _ (check_ok nm) rfl rfl ?_)
      rw [if_neg hnn]
      conv => whnf
      repeat (first | (refine brT rfl ?_; conv => whnf) | (refine brF rfl ?_; conv => whnf) | (refine .once ?_; conv => whnf) | (refine ⟨by decide, ?_⟩; conv => whnf) | (refine And.intro (Nat.le_of_ble_eq_true rfl) ?_; conv => whnf))
      refine ⟨[0], .d (.str []), [Rdr.kb { r with bad := true }], rfl, rfl, rfl, ?_, _, rfl, rfl, rfl⟩
      repeat' (first | exact True.intro | exact rfl | exact fun _ => Iff.rfl | exact fun _ _ => rfl | exact renM_ent rfl _ | refine And.intro ?_ ?_)
  have c1' : p < r.s.length := by have : (p : Int) < r.s.length := of_decide_eq_true c1
                                  omega
  conv => whnf
  refine ⟨fun c2 => ?_, fun c2 => ?_⟩
  rotate_left
  · have c2' : ¬ nm.length < 255 := by have : ¬ (nm.length : Int) < 255 := of_decide_eq_false c2
                                       omega
    rw [if_neg (by omega)] at hgo
    conv => whnf
    · have hfin : r.name = ({ r with bad := true }, []) := Rdr.name_bad h1 (show (rnAll r.s r.p).1 = nm by rw [← hgo]) hnn
      rw [hfin]
      conv => whnf
      refine ⟨fun i hi => ⟨_, rfl⟩, ?_⟩
      conv => whnf
      rw [bytesOf_bytesF]
      refine .one (.data _ (check_ok nm) rfl rfl ?_)
      rw [if_neg hnn]
      conv => whnf
      repeat (first | (refine brT rfl ?_; conv => whnf) | (refine brF rfl ?_; conv => whnf) | (refine .once ?_; conv => whnf) | (refine ⟨by decide, ?_⟩; conv => whnf) | (refine And.intro (Nat.le_of_ble_eq_true rfl) ?_; conv => whnf))
      refine ⟨[0], .d (.str []), [Rdr.kb { r with bad := true }], rfl, rfl, rfl, ?_, _, rfl, rfl, rfl⟩
      repeat' (first | exact True.intro | exact rfl | exact fun _ => Iff.rfl | exact fun _ _ => rfl | exact renM_ent rfl _ | refine And.intro ?_ ?_)
  have c2' : nm.length < 255 := by have : (nm.length : Int) < 255 := of_decide_eq_true c2
                                   omega
  rw [if_pos ⟨c1', c2'⟩] at hgo
  have hby : byteAt r.s (p : Int) = (bt r.s p : Int) := bt_eq _ _
  have hwb : IntKind.i64.wrap (byteAt r.s (p : Int)) = (bt r.s p : Int) := by rw [hby, w64_in _ (by omega)]
  conv => whnf
  refine ⟨by omega, ?_⟩
  conv => whnf
  rw [hwb]
  refine ⟨fun c3 => ?_, fun c3 => ?_⟩
  · have c3' : bt r.s p = 0 := by have : (bt r.s p : Int) = 0 := by simpa using c3
                                  omega
    rw [if_pos c3'] at hgo
    have hz : bytesOf (nm.length + 1) (catF nm.length (bytesF nm) (chunk [.int .u8 0] 1)) = nm ++ [0] := bytesOf_cat nm [0] _ (fun i hi => zero_cat nm i hi)
    have hw1 : IntKind.i64.wrap ((p : Int) + 1) = ((p + 1 : Nat) : Int) := by rw [w64_in _ (by omega)]; omega
    conv => whnf
    refine ⟨by omega, ?_⟩
    rcases bh with _ | k
    · conv => whnf
      refine brT rfl ?_
      conv => whnf
      rw [hw1]
      refine ⟨fun i hi => ⟨_, zero_cat nm i hi⟩, ?_⟩
      rw [hz]
      refine .one (.data _ (check_ok (nm ++ [0])) rfl rfl ?_)
      by_cases hn : isName (nm ++ [0])
      · have hfin : r.name = ({ r with p := p + 1 }, nm ++ [0]) := Rdr.name_ok h1 hgo.symm hn
        rw [if_pos hn, hfin]
        conv => whnf
        refine brF rfl ?_
        conv => whnf
        refine ⟨fun i hi => ⟨_, zero_cat nm i hi⟩, ?_⟩
        rw [hz]
        conv => whnf
        refine ⟨[0], .d (.str (nm ++ [0])), [Rdr.kb { r with p := p + 1 }], rfl, rfl, rfl, ?_, _, rfl, rfl, rfl⟩
        repeat' (first | exact True.intro | exact rfl | exact fun _ => Iff.rfl | exact fun _ _ => rfl | exact renM_ent rfl _ | refine And.intro ?_ ?_)
      · have hfin : r.name = ({ r with bad := true }, []) := Rdr.name_bad h1 (show (rnAll r.s r.p).1 = nm ++ [0] by rw [← hgo]) hn
        rw [if_neg hn, hfin]
        conv => whnf
        repeat (first | (refine brT rfl ?_; conv => whnf) | (refine brF rfl ?_; conv => whnf) | (refine .once ?_; conv => whnf) | (refine ⟨by decide, ?_⟩; conv => whnf) | (refine And.intro (Nat.le_of_ble_eq_true rfl) ?_; conv => whnf))
        refine ⟨[0], .d (.str []), [Rdr.kb { r with bad := true }], rfl, rfl, rfl, ?_, _, rfl, rfl, rfl⟩
        repeat' (first | exact True.intro | exact rfl | exact fun _ => Iff.rfl | exact fun _ _ => rfl | exact renM_ent rfl _ | refine And.intro ?_ ?_)
    · conv => whnf
      refine brF (decide_eq_false (by show ¬ ((k : Nat) : Int) < 0; omega)) ?_
      conv => whnf
      refine ⟨fun i hi => ⟨_, zero_cat nm i hi⟩, ?_⟩
      rw [hz]
      refine .one (.data _ (check_ok (nm ++ [0])) rfl rfl ?_)
      by_cases hn : isName (nm ++ [0])
      · have hfin : r.name = ({ r with p := k }, nm ++ [0]) := Rdr.name_ok h1 hgo.symm hn
        rw [if_pos hn, hfin]
        conv => whnf
        refine brF rfl ?_
        conv => whnf
        refine ⟨fun i hi => ⟨_, zero_cat nm i hi⟩, ?_⟩
        rw [hz]
        conv => whnf
        refine ⟨[0], .d (.str (nm ++ [0])), [Rdr.kb { r with p := k }], rfl, rfl, rfl, ?_, _, rfl, rfl, rfl⟩
        repeat' (first | exact True.intro | exact rfl | exact fun _ => Iff.rfl | exact fun _ _ => rfl | exact renM_ent rfl _ | refine And.intro ?_ ?_)
      · have hfin : r.name = ({ r with bad := true }, []) := Rdr.name_bad h1 (show (rnAll r.s r.p).1 = nm ++ [0] by rw [← hgo]) hn
        rw [if_neg hn, hfin]
        conv => whnf
        repeat (first | (refine brT rfl ?_; conv => whnf) | (refine brF rfl ?_; conv => whnf) | (refine .once ?_; conv => whnf) | (refine ⟨by decide, ?_⟩; conv => whnf) | (refine And.intro (Nat.le_of_ble_eq_true rfl) ?_; conv => whnf))
        refine ⟨[0], .d (.str []), [Rdr.kb { r with bad := true }], rfl, rfl, rfl, ?_, _, rfl, rfl, rfl⟩
        repeat' (first | exact True.intro | exact rfl | exact fun _ => Iff.rfl | exact fun _ _ => rfl | exact renM_ent rfl _ | refine And.intro ?_ ?_)
  have c3' : ¬ bt r.s p = 0 := by have : ¬ (bt r.s p : Int) = 0 := by simpa using c3
                                  omega
  rw [if_neg c3'] at hgo
  have hwl : IntKind.i64.wrap ((r.s.length : Int) - p) = (r.s.length : Int) - p := w64_in _ (by omega)
  conv => whnf
  refine ⟨fun c4 => ?_, fun c4 => ?_⟩
  · have c4' : bt r.s p ≤ 63 := by have : (bt r.s p : Int) ≤ 63 := of_decide_eq_true c4
                                   omega
    conv => whnf
    rw [hwl]
    refine ⟨fun c5 => ?_, fun c5 => ?_⟩
    · have c5' : bt r.s p < r.s.length - p := by have : (bt r.s p : Int) < (r.s.length : Int) - p := of_decide_eq_true c5
                                                 omega
      rw [if_pos ⟨c4', c5'⟩] at hgo
      have hw2 : IntKind.i64.wrap (IntKind.i64.wrap ((p : Int) + 1) + (bt r.s p : Int)) = ((p + 1 + bt r.s p : Nat) : Int) := by rw [w64_in ((p : Int) + 1) (by omega), w64_in _ (by omega)]; omega
      have hw3 : IntKind.i64.wrap ((p : Int) + IntKind.i64.wrap (1 + (bt r.s p : Int))) = ((p + 1 + bt r.s p : Nat) : Int) := by rw [w64_in (1 + (bt r.s p : Int)) (by omega), w64_in _ (by omega)]; omega
      have hsub : sub r.s (p : Int) ((p + 1 + bt r.s p : Nat) : Int) = (r.s.drop p).take (1 + bt r.s p) := by
        unfold sub
        rw [Int.toNat_natCast, Int.toNat_natCast, show p + 1 + bt r.s p - p = 1 + bt r.s p by omega]
      have hl1 : ((r.s.drop p).take (1 + bt r.s p)).length = 1 + bt r.s p := by simp; omega
      have hlab : (r.s.drop p).take (1 + bt r.s p) = lab ((r.s.drop (p + 1)).take (bt r.s p)) := by
        have h2 : ((r.s.drop (p + 1)).take (bt r.s p)).length = bt r.s p := by simp; omega
        unfold lab
        rw [h2]
        have h3 : r.s.drop p = r.s[p] :: r.s.drop (p + 1) := List.drop_eq_getElem_cons c1'
        rw [h3, show 1 + bt r.s p = bt r.s p + 1 by omega, List.take_succ_cons]
        congr 1
        have : bt r.s p = r.s[p].toNat := by simp [bt, c1']
        rw [this]
        simp
      conv => whnf
      rw [hw2]
      refine ⟨by omega, ?_⟩
      conv => whnf
      rw [hsub, hl1]
      refine ⟨by omega, ?_⟩
      conv => whnf
      rw [hw3]
      refine ⟨⟨b, p + 1 + bt r.s p, bh, nm ++ (r.s.drop p).take (1 + bt r.s p), f'⟩, [0, 2], ⟨by show p + 1 + bt r.s p ≤ r.s.length; omega, hb1, hbh, ⟨ls ++ [(r.s.drop (p + 1)).take (bt r.s p)], fun l hl => ?_, by show nm ++ _ = _; rw [labs_snoc, hlab, hnm]⟩, by show (nm ++ _).length ≤ 318; rw [List.length_append, hl1]; omega, ?_, hgo⟩, by show f' < f' + 1; omega, ?_⟩
      · rcases List.mem_append.1 hl with hl | hl
        · exact hls l hl
        · rw [List.mem_singleton.1 hl]
          have h2 : ((r.s.drop (p + 1)).take (bt r.s p)).length = bt r.s p := by simp; omega
          unfold okL
          omega
      · show rnFuel r.s b (nm ++ (r.s.drop p).take (1 + bt r.s p)) < f'
        unfold rnFuel at hf ⊢
        rw [List.length_append, hl1]
        have : (400 - (nm.length + (1 + bt r.s p))) + 1 ≤ 400 - nm.length := by omega
        have := Nat.mul_le_mul_right (r.s.length + 1) this
        rw [Nat.add_mul, Nat.one_mul] at this
        omega
      · conv => whnf
        repeat' (first | exact True.intro | exact rfl | exact fun _ _ => rfl | exact (show nm.length + (1 + bt r.s p) = (nm ++ (r.s.drop p).take (1 + bt r.s p)).length by rw [List.length_append, hl1]) | exact (fun i hi => byteAt_cat _ _ i (by rw [hl1]; exact hi)) | refine And.intro ?_ ?_)
    · have c5' : ¬ bt r.s p < r.s.length - p := by have : ¬ (bt r.s p : Int) < (r.s.length : Int) - p := of_decide_eq_false c5
                                                   omega
      rw [if_neg (by omega), if_neg (by omega)] at hgo
      conv => whnf
      refine brF (decide_eq_false (by omega)) ?_
      conv => whnf
      · have hfin : r.name = ({ r with bad := true }, []) := Rdr.name_bad h1 (show (rnAll r.s r.p).1 = nm by rw [← hgo]) hnn
        rw [hfin]
        conv => whnf
        refine ⟨fun i hi => ⟨_, rfl⟩, ?_⟩
        conv => whnf
        rw [bytesOf_bytesF]
        refine .one (.data _ (check_ok nm) rfl rfl ?_)
        rw [if_neg hnn]
        conv => whnf
        repeat (first | (refine brT rfl ?_; conv => whnf) | (refine brF rfl ?_; conv => whnf) | (refine .once ?_; conv => whnf) | (refine ⟨by decide, ?_⟩; conv => whnf) | (refine And.intro (Nat.le_of_ble_eq_true rfl) ?_; conv => whnf))
        refine ⟨[0], .d (.str []), [Rdr.kb { r with bad := true }], rfl, rfl, rfl, ?_, _, rfl, rfl, rfl⟩
        repeat' (first | exact True.intro | exact rfl | exact fun _ => Iff.rfl | exact fun _ _ => rfl | exact renM_ent rfl _ | refine And.intro ?_ ?_)
  · have c4' : ¬ bt r.s p ≤ 63 := by have : ¬ (bt r.s p : Int) ≤ 63 := of_decide_eq_false c4
                                     omega
    rw [if_neg (by omega)] at hgo
    conv => whnf
    refine ⟨fun c6 => ?_, fun c6 => ?_⟩
    rotate_left
    · have c6' : ¬ 192 ≤ bt r.s p := by have : ¬ (bt r.s p : Int) ≥ 192 := of_decide_eq_false c6
                                        omega
      rw [if_neg (by omega)] at hgo
      conv => whnf
      · have hfin : r.name = ({ r with bad := true }, []) := Rdr.name_bad h1 (show (rnAll r.s r.p).1 = nm by rw [← hgo]) hnn
        rw [hfin]
        conv => whnf
        refine ⟨fun i hi => ⟨_, rfl⟩, ?_⟩
        conv => whnf
        rw [bytesOf_bytesF]
        refine .one (.data _ (check_ok nm) rfl rfl ?_)
        rw [if_neg hnn]
        conv => whnf
        repeat (first | (refine brT rfl ?_; conv => whnf) | (refine brF rfl ?_; conv => whnf) | (refine .once ?_; conv => whnf) | (refine ⟨by decide, ?_⟩; conv => whnf) | (refine And.intro (Nat.le_of_ble_eq_true rfl) ?_; conv => whnf))
        refine ⟨[0], .d (.str []), [Rdr.kb { r with bad := true }], rfl, rfl, rfl, ?_, _, rfl, rfl, rfl⟩
        repeat' (first | exact True.intro | exact rfl | exact fun _ => Iff.rfl | exact fun _ _ => rfl | exact renM_ent rfl _ | refine And.intro ?_ ?_)
    have c6' : 192 ≤ bt r.s p := by have : (bt r.s p : Int) ≥ 192 := of_decide_eq_true c6
                                    omega
    have hw1 : IntKind.i64.wrap ((p : Int) + 1) = ((p + 1 : Nat) : Int) := by rw [w64_in _ (by omega)]; omega
    have hw2 : IntKind.i64.wrap ((p : Int) + 2) = ((p + 2 : Nat) : Int) := by rw [w64_in _ (by omega)]; omega
    conv => whnf
    rw [hw1]
    refine ⟨fun c7 => ?_, fun c7 => ?_⟩
    rotate_left
    · have c7' : ¬ p + 1 < r.s.length := by have : ¬ ((p + 1 : Nat) : Int) < (r.s.length : Int) := of_decide_eq_false c7
                                            omega
      rw [if_neg (by omega)] at hgo
      conv => whnf
      · have hfin : r.name = ({ r with bad := true }, []) := Rdr.name_bad h1 (show (rnAll r.s r.p).1 = nm by rw [← hgo]) hnn
        rw [hfin]
        conv => whnf
        refine ⟨fun i hi => ⟨_, rfl⟩, ?_⟩
        conv => whnf
        rw [bytesOf_bytesF]
        refine .one (.data _ (check_ok nm) rfl rfl ?_)
        rw [if_neg hnn]
        conv => whnf
        repeat (first | (refine brT rfl ?_; conv => whnf) | (refine brF rfl ?_; conv => whnf) | (refine .once ?_; conv => whnf) | (refine ⟨by decide, ?_⟩; conv => whnf) | (refine And.intro (Nat.le_of_ble_eq_true rfl) ?_; conv => whnf))
        refine ⟨[0], .d (.str []), [Rdr.kb { r with bad := true }], rfl, rfl, rfl, ?_, _, rfl, rfl, rfl⟩
        repeat' (first | exact True.intro | exact rfl | exact fun _ => Iff.rfl | exact fun _ _ => rfl | exact renM_ent rfl _ | refine And.intro ?_ ?_)
    have c7' : p + 1 < r.s.length := by have : ((p + 1 : Nat) : Int) < (r.s.length : Int) := of_decide_eq_true c7
                                        omega
    rw [if_pos ⟨c6', c7'⟩] at hgo
    have hb2 := bt_lt r.s (p + 1)
    have hor : IntKind.i64.wrap (bits .or .i64 (IntKind.i64.wrap ((bt r.s p : Int) * 2 ^ 8)) (IntKind.i64.wrap (byteAt r.s ((p + 1 : Nat) : Int))) - 49152) = (((bt r.s p - 192) * 256 + bt r.s (p + 1) : Nat) : Int) := by
      have e1 : IntKind.i64.wrap ((bt r.s p : Int) * 2 ^ 8) = ((bt r.s p * 256 : Nat) : Int) := by rw [w64_in _ (by omega)]; omega
      have e2 : IntKind.i64.wrap (byteAt r.s ((p + 1 : Nat) : Int)) = (bt r.s (p + 1) : Int) := by rw [bt_eq, w64_in _ (by omega)]
      have e3 : bt r.s p * 256 ||| bt r.s (p + 1) = bt r.s p * 256 + bt r.s (p + 1) := by
        have := Nat.two_pow_add_eq_or_of_lt (i := 8) (show bt r.s (p + 1) < 2 ^ 8 by omega) (bt r.s p)
        rw [show bt r.s p * 256 = 2 ^ 8 * bt r.s p by omega, ← this]
      rw [e1, e2, or_i64 _ _ (by omega) (by omega) (by rw [e3]; omega), e3, w64_in _ (by omega)]
      omega
    obtain ⟨to, hto⟩ : ∃ to, to = (bt r.s p - 192) * 256 + bt r.s (p + 1) := ⟨_, rfl⟩
    rw [← hto] at hor hgo
    conv => whnf
    refine ⟨by decide, ?_⟩
    conv => whnf
    rw [hw1]
    refine ⟨by omega, ?_⟩
    conv => whnf
    rw [show IntKind.i64.wrap (bits .or .i64 (IntKind.i64.wrap ((bt r.s p : Int) * 2 ^ (min (Int.toNat 8) IntKind.i64.bits))) (IntKind.i64.wrap (byteAt r.s ((p + 1 : Nat) : Int))) - 49152) = (to : Int) from hor]
    rcases bh with _ | k
    · conv => whnf
      refine brT rfl ?_
      conv => whnf
      rw [hw2]
      refine ⟨fun c8 => ?_, fun c8 => ?_⟩
      · have c8' : to ≥ b := by have : (to : Int) ≥ (b : Int) := of_decide_eq_true c8
                                omega
        rw [if_pos c8'] at hgo
        conv => whnf
        have hfin : r.name = ({ r with bad := true }, []) := Rdr.name_bad h1 (show (rnAll r.s r.p).1 = nm by rw [← hgo]) hnn
        rw [hfin]
        conv => whnf
        refine ⟨fun i hi => ⟨_, rfl⟩, ?_⟩
        conv => whnf
        rw [bytesOf_bytesF]
        refine .one (.data _ (check_ok nm) rfl rfl ?_)
        rw [if_neg hnn]
        conv => whnf
        repeat (first | (refine brT rfl ?_; conv => whnf) | (refine brF rfl ?_; conv => whnf) | (refine .once ?_; conv => whnf) | (refine ⟨by decide, ?_⟩; conv => whnf) | (refine And.intro (Nat.le_of_ble_eq_true rfl) ?_; conv => whnf))
        refine ⟨[0], .d (.str []), [Rdr.kb { r with bad := true }], rfl, rfl, rfl, ?_, _, rfl, rfl, rfl⟩
        repeat' (first | exact True.intro | exact rfl | exact fun _ => Iff.rfl | exact fun _ _ => rfl | exact renM_ent rfl _ | refine And.intro ?_ ?_)
      · have c8' : ¬ to ≥ b := by have : ¬ (to : Int) ≥ (b : Int) := of_decide_eq_false c8
                                  omega
        rw [if_neg c8'] at hgo
        conv => whnf
        refine ⟨⟨to, to, some (p + 2), nm, f'⟩, [0, 1], ⟨by show to ≤ r.s.length; omega, by show to ≤ r.s.length; omega, fun k hk => by cases hk; omega, ⟨ls, hls, hnm⟩, hnl, ?_, hgo⟩, by show f' < f' + 1; omega, ?_⟩
        · show rnFuel r.s to nm < f'
          unfold rnFuel at hf ⊢
          omega
        · conv => whnf
          repeat' (first | exact True.intro | exact rfl | exact fun _ => Iff.rfl | exact fun _ _ => rfl | exact renM_ent rfl _ | refine And.intro ?_ ?_)
    · conv => whnf
      refine brF (decide_eq_false (by show ¬ ((k : Nat) : Int) < 0; omega)) ?_
      conv => whnf
      refine ⟨fun c8 => ?_, fun c8 => ?_⟩
      · have c8' : to ≥ b := by have : (to : Int) ≥ (b : Int) := of_decide_eq_true c8
                                omega
        rw [if_pos c8'] at hgo
        conv => whnf
        have hfin : r.name = ({ r with bad := true }, []) := Rdr.name_bad h1 (show (rnAll r.s r.p).1 = nm by rw [← hgo]) hnn
        rw [hfin]
        conv => whnf
        refine ⟨fun i hi => ⟨_, rfl⟩, ?_⟩
        conv => whnf
        rw [bytesOf_bytesF]
        refine .one (.data _ (check_ok nm) rfl rfl ?_)
        rw [if_neg hnn]
        conv => whnf
        repeat (first | (refine brT rfl ?_; conv => whnf) | (refine brF rfl ?_; conv => whnf) | (refine .once ?_; conv => whnf) | (refine ⟨by decide, ?_⟩; conv => whnf) | (refine And.intro (Nat.le_of_ble_eq_true rfl) ?_; conv => whnf))
        refine ⟨[0], .d (.str []), [Rdr.kb { r with bad := true }], rfl, rfl, rfl, ?_, _, rfl, rfl, rfl⟩
        repeat' (first | exact True.intro | exact rfl | exact fun _ => Iff.rfl | exact fun _ _ => rfl | exact renM_ent rfl _ | refine And.intro ?_ ?_)
      · have c8' : ¬ to ≥ b := by have : ¬ (to : Int) ≥ (b : Int) := of_decide_eq_false c8
                                  omega
        rw [if_neg c8'] at hgo
        have hk2 := hbh k rfl
        conv => whnf
        refine ⟨⟨to, to, some k, nm, f'⟩, [0, 1], ⟨by show to ≤ r.s.length; omega, by show to ≤ r.s.length; omega, fun k hk => by cases hk; omega, ⟨ls, hls, hnm⟩, hnl, ?_, hgo⟩, by show f' < f' + 1; omega, ?_⟩
        · show rnFuel r.s to nm < f'
          unfold rnFuel at hf ⊢
          omega
        · conv => whnf
          repeat' (first | exact True.intro | exact rfl | exact fun _ => Iff.rfl | exact fun _ _ => rfl | exact renM_ent rfl _ | refine And.intro ?_ ?_)
end Go.Proofs.Ytdphkaiijlekhaa
