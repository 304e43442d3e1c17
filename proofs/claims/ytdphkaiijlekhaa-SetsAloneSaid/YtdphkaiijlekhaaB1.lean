/-
  The table of types of this seat, as the engine reads it; checked against the program by one closed fact. Written by mktt.py. label.Check tells whether a text is a name. No conditions. label.Fold puts for each capital letter its small one. No conditions but that the text is shorter than 2 to the 62. Names as lists of labels. Plain lemmas. The shelf's contracts of strings.Join and strings.Compare at this program, in plain words (written by the kit's lay-plain.mjs). No conditions. rdata: what the functions of package rdata compute: the name with which bytes begin, texts, parts of data by their type, Check. No conditions but lengths where they are named. strings.Join of texts, as a contract over data (from the shelf). Conditions: lengths. rdata.look, rdata.Fold, sets.Check. No conditions. Records, record.Check. No conditions. Labels behind one another; the name that bytes begin with. Plain lemmas.
-/
import Derived.Test.YtdphkaiijlekhaaRows
import Derived.KernelRfl
import Derived.Shelf.Strings.OnBuilder
import Derived.Shelf.Small.Strs
import Derived.Test.YtdphkaiijlekhaaProg
import Derived.Test.YtdphkaiijlekhaaM4
set_option linter.unusedVariables false
set_option linter.unusedSimpArgs false
namespace Go.Proofs.Ytdphkaiijlekhaa
open Go Go.Eng
def types : List (Nat × TI) := [
  (2, ⟨1, 8, false, [.d (.int .i64 0)], .int .i64, []⟩),
  (3, ⟨1, 8, false, [.d (.int .i64 0)], .int .i64, []⟩),
  (4, ⟨1, 1, false, [.d .ff], .bool, []⟩),
  (5, ⟨1, 1, false, [.d (.int .u8 0)], .int .u8, []⟩),
  (6, ⟨1, 1, false, [.d (.int .u8 0)], .int .u8, []⟩),
  (7, ⟨4, 24, true, [.d (.int .i64 0), .d (.int .i64 0), .d .ff, .d (.int .u8 0)], .struct [(0, 2), (1, 3), (2, 4), (3, 6)], [.int .i64, .int .i64, .bool, .int .u8]⟩),
  (9, ⟨1, 16, false, [.d (.str [])], .str, []⟩),
  (17, ⟨1, 8, false, [.v (.pointer none)], .ptr 280, []⟩),
  (18, ⟨1, 8, true, [.v (.pointer none)], .struct [(0, 17)], []⟩),
  (19, ⟨1, 8, true, [.v (.pointer none)], .struct [(0, 17)], []⟩),
  (21, ⟨1, 4, false, [.d (.int .i32 0)], .int .i32, []⟩),
  (22, ⟨1, 24, false, [nilS], .slice 36, []⟩),
  (23, ⟨1, 2, false, [.d (.int .u16 0)], .int .u16, []⟩),
  (24, ⟨1, 2, false, [.d (.int .u16 0)], .int .u16, []⟩),
  (26, ⟨1, 8, false, [.v (.pointer none)], .ptr 100, []⟩),
  (27, ⟨1, 8, false, [.d (.int .i64 0)], .int .i64, []⟩),
  (30, ⟨1, 4, false, [.d (.int .u32 0)], .int .u32, []⟩),
  (31, ⟨1, 24, false, [nilS], .slice 9, []⟩),
  (32, ⟨4, 48, true, [.d (.str []), .d (.int .u16 0), .d (.int .u32 0), nilS], .struct [(0, 9), (1, 24), (2, 30), (3, 31)], []⟩),
  (33, ⟨4, 48, true, [.d (.str []), .d (.int .u16 0), .d (.int .u32 0), nilS], .struct [(0, 9), (1, 24), (2, 30), (3, 31)], []⟩),
  (34, ⟨1, 1, false, [.d (.int .u8 0)], .int .u8, []⟩),
  (35, ⟨10, 72, true, [.d (.int .i64 0), .d (.str []), .d (.int .u16 0), .d (.int .u32 0), nilS, .d (.int .u16 0), .d (.int .u8 0), .d .ff, .d (.int .u32 0), .d (.int .i64 0)], .struct [(0, 3), (1, 33), (5, 24), (6, 34), (7, 4), (8, 30), (9, 2)], []⟩),
  (36, ⟨10, 72, true, [.d (.int .i64 0), .d (.str []), .d (.int .u16 0), .d (.int .u32 0), nilS, .d (.int .u16 0), .d (.int .u8 0), .d .ff, .d (.int .u32 0), .d (.int .i64 0)], .struct [(0, 3), (1, 33), (5, 24), (6, 34), (7, 4), (8, 30), (9, 2)], []⟩),
  (40, ⟨7, 56, true, [.d (.str []), .d (.int .u16 0), .d (.int .u32 0), nilS, .d (.int .u8 0), .d .ff, .d .ff], .struct [(0, 33), (4, 34), (5, 4), (6, 4)], []⟩),
  (41, ⟨7, 56, true, [.d (.str []), .d (.int .u16 0), .d (.int .u32 0), nilS, .d (.int .u8 0), .d .ff, .d .ff], .struct [(0, 33), (4, 34), (5, 4), (6, 4)], []⟩),
  (47, ⟨1, 24, false, [nilS], .slice 60, []⟩),
  (53, ⟨1, 24, false, [nilS], .slice 33, []⟩),
  (59, ⟨5, 40, true, [.d (.str []), .d (.int .u16 0), .d (.int .u16 0), .d (.int .u32 0), .d (.str [])], .struct [(0, 9), (1, 24), (2, 23), (3, 30), (4, 9)], [.str, .int .u16, .int .u16, .int .u32, .str]⟩),
  (60, ⟨5, 40, true, [.d (.str []), .d (.int .u16 0), .d (.int .u16 0), .d (.int .u32 0), .d (.str [])], .struct [(0, 9), (1, 24), (2, 23), (3, 30), (4, 9)], [.str, .int .u16, .int .u16, .int .u32, .str]⟩),
  (64, ⟨1, 24, false, [nilS], .slice 77, []⟩),
  (65, ⟨6, 104, true, [.d (.int .u16 0), .d (.int .u16 0), nilS, nilS, nilS, nilS], .struct [(0, 23), (1, 23), (2, 64), (3, 47), (4, 47), (5, 47)], []⟩),
  (66, ⟨6, 104, true, [.d (.int .u16 0), .d (.int .u16 0), nilS, nilS, nilS, nilS], .struct [(0, 23), (1, 23), (2, 64), (3, 47), (4, 47), (5, 47)], []⟩),
  (76, ⟨3, 24, true, [.d (.str []), .d (.int .u16 0), .d (.int .u16 0)], .struct [(0, 9), (1, 24), (2, 23)], [.str, .int .u16, .int .u16]⟩),
  (77, ⟨3, 24, true, [.d (.str []), .d (.int .u16 0), .d (.int .u16 0)], .struct [(0, 9), (1, 24), (2, 23)], [.str, .int .u16, .int .u16]⟩),
  (80, ⟨1, 24, false, [nilS], .slice 223, []⟩),
  (81, ⟨6, 32, true, [.d .ff, .d (.int .u16 0), .d (.int .u8 0), .d (.int .u8 0), .d (.int .u16 0), nilS], .struct [(0, 4), (1, 23), (2, 5), (3, 5), (4, 23), (5, 80)], []⟩),
  (82, ⟨6, 32, true, [.d .ff, .d (.int .u16 0), .d (.int .u8 0), .d (.int .u8 0), .d (.int .u16 0), nilS], .struct [(0, 4), (1, 23), (2, 5), (3, 5), (4, 23), (5, 80)], []⟩),
  (83, ⟨15, 176, true, [.d (.int .u16 0), .d (.int .u16 0), nilS, nilS, nilS, nilS, .d .ff, .d (.int .u16 0), .d (.int .u8 0), .d (.int .u8 0), .d (.int .u16 0), nilS, .d (.str []), .d (.str []), .d (.int .i64 0)], .struct [(0, 66), (6, 82), (12, 9), (13, 9), (14, 3)], []⟩),
  (84, ⟨15, 176, true, [.d (.int .u16 0), .d (.int .u16 0), nilS, nilS, nilS, nilS, .d .ff, .d (.int .u16 0), .d (.int .u8 0), .d (.int .u8 0), .d (.int .u16 0), nilS, .d (.str []), .d (.str []), .d (.int .i64 0)], .struct [(0, 66), (6, 82), (12, 9), (13, 9), (14, 3)], []⟩),
  (88, ⟨1, 24, false, [nilS], .slice 91, []⟩),
  (90, ⟨8, 64, true, [.d (.str []), .d (.int .u16 0), .d (.int .u32 0), nilS, .d (.int .u8 0), .d .ff, .d .ff, .d (.int .i64 0)], .struct [(0, 41), (7, 2)], []⟩),
  (91, ⟨8, 64, true, [.d (.str []), .d (.int .u16 0), .d (.int .u32 0), nilS, .d (.int .u8 0), .d .ff, .d .ff, .d (.int .i64 0)], .struct [(0, 41), (7, 2)], []⟩),
  (92, ⟨1, 8, false, [.v .nilFunc], .other, []⟩),
  (95, ⟨2, 4, true, [.d (.int .u16 0), .d (.int .u16 0)], .array 2 24, [.int .u16, .int .u16]⟩),
  (96, ⟨1, 8, false, [.v (.pointer none)], .ptr 108, []⟩),
  (98, ⟨1, 8, false, [.v (.map none)], .map 102 96, []⟩),
  (99, ⟨3, 24, true, [.d (.int .i64 0), .v (.pointer none), .v (.map none)], .struct [(0, 3), (1, 96), (2, 98)], []⟩),
  (100, ⟨3, 24, true, [.d (.int .i64 0), .v (.pointer none), .v (.map none)], .struct [(0, 3), (1, 96), (2, 98)], []⟩),
  (101, ⟨2, 24, true, [.d (.str []), .d (.int .u16 0)], .struct [(0, 9), (1, 24)], [.str, .int .u16]⟩),
  (102, ⟨2, 24, true, [.d (.str []), .d (.int .u16 0)], .struct [(0, 9), (1, 24)], [.str, .int .u16]⟩),
  (105, ⟨8, 64, true, [.d (.str []), .d (.int .u16 0), .d (.int .u32 0), nilS, .d (.int .u8 0), .d .ff, .d .ff, .d (.int .i64 0)], .struct [(0, 41), (7, 2)], []⟩),
  (106, ⟨8, 64, true, [.d (.str []), .d (.int .u16 0), .d (.int .u32 0), nilS, .d (.int .u8 0), .d .ff, .d .ff, .d (.int .i64 0)], .struct [(0, 41), (7, 2)], []⟩),
  (107, ⟨12, 104, true, [.d (.str []), .d (.int .u16 0), .d (.int .u32 0), nilS, .d (.int .u8 0), .d .ff, .d .ff, .d (.int .i64 0), .d (.str []), .d (.int .u16 0), .v (.pointer none), .v (.pointer none)], .struct [(0, 106), (8, 102), (10, 96), (11, 96)], []⟩),
  (108, ⟨12, 104, true, [.d (.str []), .d (.int .u16 0), .d (.int .u32 0), nilS, .d (.int .u8 0), .d .ff, .d .ff, .d (.int .i64 0), .d (.str []), .d (.int .u16 0), .v (.pointer none), .v (.pointer none)], .struct [(0, 106), (8, 102), (10, 96), (11, 96)], []⟩),
  (116, ⟨1, 8, false, [.v .nilFunc], .other, []⟩),
  (122, ⟨1, 8, false, [.v (.map none)], .map 125 47, []⟩),
  (123, ⟨1, 24, false, [nilS], .slice 125, []⟩),
  (124, ⟨2, 24, true, [.d (.str []), .d (.int .u16 0)], .struct [(0, 9), (1, 24)], [.str, .int .u16]⟩),
  (125, ⟨2, 24, true, [.d (.str []), .d (.int .u16 0)], .struct [(0, 9), (1, 24)], [.str, .int .u16]⟩),
  (128, ⟨4, 40, true, [.d (.str []), .d (.int .u16 0), .d (.int .u16 0), .d (.str [])], .struct [(0, 9), (1, 24), (2, 23), (3, 9)], [.str, .int .u16, .int .u16, .str]⟩),
  (129, ⟨4, 40, true, [.d (.str []), .d (.int .u16 0), .d (.int .u16 0), .d (.str [])], .struct [(0, 9), (1, 24), (2, 23), (3, 9)], [.str, .int .u16, .int .u16, .str]⟩),
  (131, ⟨1, 24, false, [nilS], .slice 47, []⟩),
  (134, ⟨1, 8, false, [.v (.pointer none)], .ptr 206, []⟩),
  (136, ⟨6, 48, true, [.d (.int .i64 0), .d (.int .i64 0), .d (.int .i64 0), .d (.int .i64 0), .d (.int .i64 0), .d (.int .i64 0)], .array 6 3, [.int .i64, .int .i64, .int .i64, .int .i64, .int .i64, .int .i64]⟩),
  (137, ⟨1, 8, false, [.v .nilFunc], .other, []⟩),
  (138, ⟨1, 8, false, [.d (.int .u64 0)], .int .u64, []⟩),
  (141, ⟨1, 8, false, [.v .nilFunc], .other, []⟩),
  (143, ⟨1, 8, false, [.v (.pointer none)], .ptr 66, []⟩),
  (144, ⟨1, 8, false, [.v (.pointer none)], .ptr 47, []⟩),
  (147, ⟨1, 24, false, [nilS], .slice 258, []⟩),
  (148, ⟨4, 56, true, [.d (.str []), .d (.int .i64 0), .d .ff, nilS], .struct [(0, 9), (1, 3), (2, 4), (3, 147)], []⟩),
  (149, ⟨4, 56, true, [.d (.str []), .d (.int .i64 0), .d .ff, nilS], .struct [(0, 9), (1, 3), (2, 4), (3, 147)], []⟩),
  (154, ⟨1, 8, false, [.d (.int .u64 0)], .int .u64, []⟩),
  (158, ⟨1, 8, false, [.v (.pointer none)], .ptr 218, []⟩),
  (160, ⟨1, 8, false, [.v .nilFunc], .other, []⟩),
  (161, ⟨1, 24, false, [nilS], .slice 3, []⟩),
  (175, ⟨1, 8, false, [.v .nilFunc], .other, []⟩),
  (178, ⟨1, 8, false, [.v .nilFunc], .other, []⟩),
  (181, ⟨1, 24, false, [nilS], .slice 5, []⟩),
  (184, ⟨1, 8, false, [.v .nilFunc], .other, []⟩),
  (193, ⟨3, 24, true, [.d (.int .i64 0), .d (.int .i64 0), .d (.int .i64 0)], .struct [(0, 3), (1, 3), (2, 3)], [.int .i64, .int .i64, .int .i64]⟩),
  (194, ⟨3, 24, true, [.d (.int .i64 0), .d (.int .i64 0), .d (.int .i64 0)], .struct [(0, 3), (1, 3), (2, 3)], [.int .i64, .int .i64, .int .i64]⟩),
  (197, ⟨3, 56, true, [.d (.str []), nilS, .d (.str [])], .struct [(0, 9), (1, 31), (2, 9)], []⟩),
  (198, ⟨3, 56, true, [.d (.str []), nilS, .d (.str [])], .struct [(0, 9), (1, 31), (2, 9)], []⟩),
  (204, ⟨1, 8, false, [.v (.map none)], .map 9 3, []⟩),
  (205, ⟨4, 48, true, [nilS, .d (.int .i64 0), .d .ff, .v (.map none)], .struct [(0, 181), (1, 3), (2, 4), (3, 204)], []⟩),
  (206, ⟨4, 48, true, [nilS, .d (.int .i64 0), .d .ff, .v (.map none)], .struct [(0, 181), (1, 3), (2, 4), (3, 204)], []⟩),
  (208, ⟨8, 8, true, [.d (.int .u8 0), .d (.int .u8 0), .d (.int .u8 0), .d (.int .u8 0), .d (.int .u8 0), .d (.int .u8 0), .d (.int .u8 0), .d (.int .u8 0)], .array 8 5, [.int .u8, .int .u8, .int .u8, .int .u8, .int .u8, .int .u8, .int .u8, .int .u8]⟩),
  (213, ⟨1, 8, false, [.v .nilFunc], .other, []⟩),
  (217, ⟨3, 32, true, [.d (.str []), .d (.int .i64 0), .d .ff], .struct [(0, 9), (1, 3), (2, 4)], [.str, .int .i64, .bool]⟩),
  (218, ⟨3, 32, true, [.d (.str []), .d (.int .i64 0), .d .ff], .struct [(0, 9), (1, 3), (2, 4)], [.str, .int .i64, .bool]⟩),
  (222, ⟨2, 24, true, [.d (.int .u16 0), .d (.str [])], .struct [(0, 23), (1, 9)], [.int .u16, .str]⟩),
  (223, ⟨2, 24, true, [.d (.int .u16 0), .d (.str [])], .struct [(0, 23), (1, 9)], [.int .u16, .str]⟩),
  (235, ⟨1, 8, false, [.v .nilFunc], .other, []⟩),
  (244, ⟨1, 8, false, [.v (.pointer none)], .ptr 246, []⟩),
  (245, ⟨2, 32, true, [.v (.pointer none), nilS], .struct [(0, 244), (1, 181)], []⟩),
  (246, ⟨2, 32, true, [.v (.pointer none), nilS], .struct [(0, 244), (1, 181)], []⟩),
  (247, ⟨1, 8, false, [.v .nilFunc], .other, []⟩),
  (249, ⟨1, 16, false, [.v .nilIface], .iface, []⟩),
  (254, ⟨2, 2, true, [.d (.int .u8 0), .d (.int .u8 0)], .array 2 5, [.int .u8, .int .u8]⟩),
  (257, ⟨2, 24, true, [.d (.str []), .d (.int .i64 0)], .struct [(0, 9), (1, 3)], [.str, .int .i64]⟩),
  (258, ⟨2, 24, true, [.d (.str []), .d (.int .i64 0)], .struct [(0, 9), (1, 3)], [.str, .int .i64]⟩),
  (264, ⟨1, 8, false, [.v (.pointer none)], .ptr 5, []⟩),
  (266, ⟨1, 8, false, [.v (.pointer none)], .other, []⟩),
  (269, ⟨4, 40, true, [.v (.pointer none), .v (.pointer none), .v (.pointer none), .d (.str [])], .struct [(0, 17), (1, 17), (2, 17), (3, 9)], []⟩),
  (274, ⟨1, 1, false, [.d (.int .u8 0)], .int .u8, []⟩),
  (275, ⟨1, 1, false, [.d (.int .u8 0)], .int .u8, []⟩),
  (277, ⟨1, 4, false, [.d (.int .i32 0)], .int .i32, []⟩),
  (278, ⟨1, 4, false, [.d (.int .i32 0)], .int .i32, []⟩),
  (280, ⟨11, 48, true, [.d (.int .u64 0), .d (.int .u64 0), .d (.int .u32 0), .d (.int .u8 0), .d (.int .u8 0), .d (.int .u8 0), .d (.int .u8 0), .v .nilFunc, .v (.pointer none), .d (.int .i32 0), .d (.int .i32 0)], .struct [(0, 12), (1, 12), (2, 30), (3, 274), (4, 5), (5, 5), (6, 275), (7, 276), (8, 264), (9, 277), (10, 278)], []⟩)]
def TT (n : Nat) : Option TI := Eng.look types n
set_option maxRecDepth 100000 in
theorem TT_ok : TTok Try.prog TT := TTok_of_check (P := Try.prog) (l := types) (by kernel_rfl)
theorem mixed : Try.prog.follows .mixedOrders = true := by kernel_rfl
end Go.Proofs.Ytdphkaiijlekhaa
namespace Go.Proofs.Ytdphkaiijlekhaa
open Go Go.Eng
/-- The byte of a text, 0 beyond it. -/
def bt (s : List UInt8) (k : Nat) : Nat := (s[k]?.getD 0).toNat
theorem bt_eq (s : List UInt8) (k : Nat) : byteAt s (k : Int) = (bt s k : Int) := by
  unfold byteAt bt; simp
theorem bt_lt (s : List UInt8) (k : Nat) : bt s k < 256 := UInt8.toNat_lt _
def more (s : List UInt8) (k : Nat) : Prop := k < s.length ∧ ¬ bt s k = 0 ∧ bt s k ≤ 63 ∧ bt s k < s.length - k
instance (s : List UInt8) (k : Nat) : Decidable (more s k) := by unfold more; infer_instance
/-- Where the labels end that begin at k. -/
def endOf (s : List UInt8) : Nat → Nat → Nat
  | 0, k => k
  | m + 1, k => if more s k then endOf s m (k + 1 + bt s k) else k
def lastOf (s : List UInt8) : Nat := endOf s s.length 0
def At (s : List UInt8) (k : Nat) : Prop := k ≤ s.length ∧ ∃ m, s.length ≤ k + m ∧ endOf s m k = lastOf s
theorem At.zero (s : List UInt8) : At s 0 := ⟨Nat.zero_le _, s.length, by omega, rfl⟩
theorem At.next {s : List UInt8} {k : Nat} (h : At s k) (hm : more s k) : At s (k + 1 + bt s k) := by
  obtain ⟨h1, m, h2, h3⟩ := h
  have := hm
  obtain ⟨a1, a2, a3, a4⟩ := this
  cases m with
  | zero => omega
  | succ m => exact ⟨by omega, m, by omega, by rw [← h3]; simp [endOf, hm]⟩
theorem At.last {s : List UInt8} {k : Nat} (h : At s k) (hm : ¬ more s k) : k = lastOf s := by
  obtain ⟨h1, m, h2, h3⟩ := h
  rw [← h3]
  cases m <;> simp [endOf, hm]
def isName (s : List UInt8) : Prop := 0 < s.length ∧ s.length ≤ 255 ∧ lastOf s = s.length - 1 ∧ bt s (lastOf s) = 0
instance (s : List UInt8) : Decidable (isName s) := by unfold isName; infer_instance
theorem w64_in (n : Int) (h : -9223372036854775808 ≤ n ∧ n ≤ 9223372036854775807) : IntKind.i64.wrap n = n := by rw [IntKind.wrap_i64]; omega
set_option maxRecDepth 100000
set_option maxHeartbeats 2000000 in
theorem check_ok (s : List UInt8) : FnOk Try.prog 49 [.d (.str s)] (.d (.int .i64 (if isName s then 0 else 2))) := by
  refine fnOk_of_run (TT := TT) (IN := lookI [(104, Try.f104, 1), (153, Try.f153, 2)]) TT_ok ?_ mixed 1000 Try.func49 rfl (enters Try.func49 (by kernel_rfl) rfl) rfl 27 (by kernel_rfl) ?_
  · exact INok_cons (INok_cons INok_nil Try.func153 (by kernel_rfl) (by kernel_rfl)) Try.func104 (by kernel_rfl) (by kernel_rfl)
  conv => whnf
  refine ⟨fun h1 => ?_, fun h1 => ?_⟩
  · have : ¬ isName s := fun hn => by have a := hn.1; simp at h1; rw [h1] at a; simp at a
    exact congrArg (DV.int _) (by rw [if_neg this])
  have hpos : 0 < s.length := by
    rcases Nat.eq_zero_or_pos s.length with e | e
    · rw [e] at h1; cases h1
    · exact e
  conv => whnf
  refine ⟨fun h2 => ?_, fun h2 => ?_⟩
  · have : ¬ isName s := fun hn => by have a := hn.2.1; simp at h2; omega
    exact congrArg (DV.int _) (by rw [if_neg this])
  have hlen : s.length ≤ 255 := by simp at h2; omega
  conv => whnf
  refine .inv Nat (fun k => At s k) (fun k => [(3, .d (.int .i64 k))]) (fun k => [(0, .cells 3 [.d (.int .i64 k)])]) (fun k => s.length - k) ⟨0, [0, 1, 2], At.zero s, ?_⟩ ?_
  · conv => whnf
    repeat' (first | exact True.intro | exact rfl | refine And.intro ?_ ?_)
  intro k hk
  have hkl := hk.1
  have hby := bt_lt s k
  have hwb : IntKind.i64.wrap (byteAt s (k : Int)) = (bt s k : Int) := by rw [bt_eq, w64_in _ (by omega)]
  have hwl : IntKind.i64.wrap ((s.length : Int) - 1) = (s.length : Int) - 1 := w64_in _ (by omega)
  have key1 : ¬ more s k → (((k : Int) != IntKind.i64.wrap ((s.length : Int) - 1)) = true) → ¬ isName s := fun hm hne hn => by
    have := hk.last hm
    obtain ⟨_, _, a, _⟩ := hn
    rw [hwl] at hne
    simp at hne
    omega
  have key2 : ¬ more s k → (((k : Int) != IntKind.i64.wrap ((s.length : Int) - 1)) = false) → (bt s k = 0 ↔ isName s) ∧ k < s.length := fun hm hne => by
    have := hk.last hm
    rw [hwl] at hne
    simp at hne
    unfold isName
    rw [← this]
    omega
  conv => whnf
  refine ⟨fun hlt => ?_, fun hge => ?_⟩
  · have hlt' : k < s.length := by simpa using hlt
    conv => whnf
    refine ⟨by simp; omega, ?_⟩
    conv => whnf
    refine ⟨fun h0 => ?_, fun h0 => ?_⟩
    · have hm : ¬ more s k := fun hm => by rw [hwb] at h0; simp at h0; exact hm.2.1 h0
      conv => whnf
      refine ⟨fun e => congrArg (DV.int _) (by rw [if_neg (key1 hm e)]), fun e => ?_⟩
      obtain ⟨e1, e2⟩ := key2 hm e
      conv => whnf
      refine ⟨by simp; omega, ?_⟩
      conv => whnf
      refine ⟨fun hz => ?_, fun hz => ?_⟩
      · exact congrArg (DV.int _) (by rw [if_neg (fun hn => by rw [bt_eq] at hz; simp at hz; exact hz (e1.2 hn))])
      · exact congrArg (DV.int _) (by rw [if_pos (e1.1 (by rw [bt_eq] at hz; simpa using hz))])
    · have h0' : ¬ bt s k = 0 := by rw [hwb] at h0; simpa using h0
      conv => whnf
      refine ⟨fun h3 => ?_, fun h3 => ?_⟩
      · have hm : ¬ more s k := fun hm => by rw [hwb] at h3; simp at h3; have := hm.2.2.1; omega
        conv => whnf
        refine ⟨fun e => congrArg (DV.int _) (by rw [if_neg (key1 hm e)]), fun e => ?_⟩
        obtain ⟨e1, e2⟩ := key2 hm e
        conv => whnf
        refine ⟨by simp; omega, ?_⟩
        conv => whnf
        refine ⟨fun hz => ?_, fun hz => ?_⟩
        · exact congrArg (DV.int _) (by rw [if_neg (fun hn => by rw [bt_eq] at hz; simp at hz; exact hz (e1.2 hn))])
        · exact congrArg (DV.int _) (by rw [if_pos (e1.1 (by rw [bt_eq] at hz; simpa using hz))])
      · have h3' : bt s k ≤ 63 := by rw [hwb] at h3; simp at h3; omega
        conv => whnf
        have hws : IntKind.i64.wrap ((s.length : Int) - (k : Int)) = (s.length : Int) - k := w64_in _ (by omega)
        refine ⟨fun h4 => ?_, fun h4 => ?_⟩
        · have hm : ¬ more s k := fun hm => by rw [hwb, hws] at h4; simp at h4; have := hm.2.2.2; omega
          conv => whnf
          refine ⟨fun e => congrArg (DV.int _) (by rw [if_neg (key1 hm e)]), fun e => ?_⟩
          obtain ⟨e1, e2⟩ := key2 hm e
          conv => whnf
          refine ⟨by simp; omega, ?_⟩
          conv => whnf
          refine ⟨fun hz => ?_, fun hz => ?_⟩
          · exact congrArg (DV.int _) (by rw [if_neg (fun hn => by rw [bt_eq] at hz; simp at hz; exact hz (e1.2 hn))])
          · exact congrArg (DV.int _) (by rw [if_pos (e1.1 (by rw [bt_eq] at hz; simpa using hz))])
        · have hm : more s k := ⟨hlt', h0', h3', by rw [hwb, hws] at h4; simp at h4; omega⟩
          conv => whnf
          refine ⟨k + 1 + bt s k, [0, 1, 2], hk.next hm, by show s.length - (k + 1 + bt s k) < s.length - k; omega, ?_⟩
          have hnx : IntKind.i64.wrap ((k : Int) + IntKind.i64.wrap (1 + IntKind.i64.wrap (byteAt s (k : Int)))) = ((k + 1 + bt s k : Nat) : Int) := by rw [hwb, w64_in (1 + (bt s k : Int)) (by omega), w64_in _ (by omega)]; omega
          conv => whnf
          repeat' (first | exact True.intro | exact rfl | refine And.intro ?_ ?_)
          all_goals exact congrArg SV.d (congrArg (DV.int _) hnx)
  · have hm : ¬ more s k := fun hm => by have := hm.1; simp at hge; omega
    conv => whnf
    refine ⟨fun e => congrArg (DV.int _) (by rw [if_neg (key1 hm e)]), fun e => ?_⟩
    obtain ⟨e1, e2⟩ := key2 hm e
    conv => whnf
    refine ⟨by simp; omega, ?_⟩
    conv => whnf
    refine ⟨fun hz => ?_, fun hz => ?_⟩
    · exact congrArg (DV.int _) (by rw [if_neg (fun hn => by rw [bt_eq] at hz; simp at hz; exact hz (e1.2 hn))])
    · exact congrArg (DV.int _) (by rw [if_pos (e1.1 (by rw [bt_eq] at hz; simpa using hz))])
end Go.Proofs.Ytdphkaiijlekhaa
namespace Go.Proofs.Ytdphkaiijlekhaa
open Go Go.Eng
def low (b : UInt8) : UInt8 := if 65 ≤ b ∧ b ≤ 90 then b + 32 else b
def fold (s : List UInt8) : List UInt8 := s.map low
theorem low_nat (b : UInt8) : (low b).toNat = if 65 ≤ b.toNat ∧ b.toNat ≤ 90 then b.toNat + 32 else b.toNat := by
  unfold low
  have e1 : (65 ≤ b) ↔ 65 ≤ b.toNat := by rw [UInt8.le_iff_toNat_le]; rfl
  have e2 : (b ≤ 90) ↔ b.toNat ≤ 90 := by rw [UInt8.le_iff_toNat_le]; rfl
  simp only [e1, e2]
  split
  · rw [UInt8.toNat_add]
    have : (32 : UInt8).toNat = 32 := rfl
    omega
  · rfl
def mix (s : List UInt8) (k j : Nat) : Int := if j < k then ((low (s[j]?.getD 0)).toNat : Int) else (bt s j : Int)
set_option maxRecDepth 100000
set_option maxHeartbeats 2000000 in
theorem fold_ok (s : List UInt8) (hs : s.length < 9223372036854775808) : FnOk Try.prog 60 [.d (.str s)] (.d (.str (fold s))) := by
  refine fnOk_of_run (TT := TT) (IN := lookI []) TT_ok INok_nil mixed 1000 Try.func60 rfl (enters Try.func60 (by kernel_rfl) rfl) rfl 28 (by kernel_rfl) ?_
  conv => whnf
  refine .inv Nat (fun k => k ≤ s.length) (fun k => [(10, .d (.int .i64 k))]) (fun k => [(0, .row 5 1 s.length .no (fun j => [.int .u8 (mix s k j)]))]) (fun k => s.length - k) ⟨0, [0], by omega, ?_⟩ ?_
  · conv => whnf
    repeat' (first | exact True.intro | exact rfl | refine And.intro ?_ ?_)
    intro i hi
    simp [mix, bt_eq]
  intro k hk
  have hk1 : k < s.length → IntKind.i64.wrap ((k : Int) + 1) = ((k + 1 : Nat) : Int) := fun _ => by rw [w64_in _ (by omega)]; omega
  conv => whnf
  refine ⟨fun hlt => ?_, fun hge => ?_⟩
  · have hlt' : k < s.length := by simpa using hlt
    conv => whnf
    refine ⟨by simp; omega, ?_⟩
    have hmk : mix s k (Int.toNat (k : Int)) = (bt s k : Int) := by simp [mix]
    have hb := bt_lt s k
    conv => whnf
    have stay : ¬ (65 ≤ bt s k ∧ bt s k ≤ 90) → ∀ i, i < s.length → [DV.int IntKind.u8 (mix s k i)] = [DV.int IntKind.u8 (mix s (k + 1) i)] := fun hn i hi => by
      unfold mix
      by_cases e : i = k
      · subst e
        rw [if_neg (by omega), if_pos (by omega), low_nat, if_neg (by unfold bt at hn; exact hn)]
        rfl
      · by_cases e2 : i < k
        · rw [if_pos e2, if_pos (by omega)]
        · rw [if_neg e2, if_neg (by omega)]
    rw [hmk]
    refine ⟨fun h1 => ?_, fun h1 => ?_⟩
    · conv => whnf
      refine ⟨fun h2 => ?_, fun h2 => ?_⟩
      · conv => whnf
        refine ⟨by simp; omega, ?_⟩
        conv => whnf
        refine ⟨k + 1, [0], by omega, by show s.length - (k + 1) < s.length - k; omega, ?_⟩
        conv => whnf
        repeat' (first | exact True.intro | exact rfl | refine And.intro ?_ ?_)
        all_goals first
          | exact congrArg SV.d (congrArg (DV.int _) (hk1 hlt'))
          | exact stay (by simp at h1 h2; omega)
          | (intro i hi
             show oneF _ _ _ _ i = _
             unfold oneF mix
             simp at h1 h2
             by_cases e : i = k
             · subst e
               simp only [Int.toNat_natCast, if_true, putD, List.set_cons_zero]
               rw [if_pos (by omega), low_nat, if_pos (by unfold bt at h1 h2; omega), IntKind.wrap_u8]
               unfold bt at *
               congr 2
               omega
             · rw [if_neg (by simpa using e)]
               show [DV.int _ _] = [DV.int _ _]
               by_cases e2 : i < k
               · rw [if_pos e2, if_pos (by omega)]
               · rw [if_neg e2, if_neg (by omega)])
      · conv => whnf
        refine ⟨k + 1, [0], by omega, by show s.length - (k + 1) < s.length - k; omega, ?_⟩
        conv => whnf
        repeat' (first | exact True.intro | exact rfl | refine And.intro ?_ ?_)
        all_goals first
          | exact congrArg SV.d (congrArg (DV.int _) (hk1 hlt'))
          | exact stay (by simp at h1 h2; omega)
          | (intro i hi
             show oneF _ _ _ _ i = _
             unfold oneF mix
             simp at h1 h2
             by_cases e : i = k
             · subst e
               simp only [Int.toNat_natCast, if_true, putD, List.set_cons_zero]
               rw [if_pos (by omega), low_nat, if_pos (by unfold bt at h1 h2; omega), IntKind.wrap_u8]
               unfold bt at *
               congr 2
               omega
             · rw [if_neg (by simpa using e)]
               show [DV.int _ _] = [DV.int _ _]
               by_cases e2 : i < k
               · rw [if_pos e2, if_pos (by omega)]
               · rw [if_neg e2, if_neg (by omega)])
    · conv => whnf
      refine ⟨k + 1, [0], by omega, by show s.length - (k + 1) < s.length - k; omega, ?_⟩
      conv => whnf
      repeat' (first | exact True.intro | exact rfl | refine And.intro ?_ ?_)
      all_goals first
        | exact congrArg SV.d (congrArg (DV.int _) (hk1 hlt'))
        | exact stay (by simp at h1; omega)
        | (intro i hi
           show oneF _ _ _ _ i = _
           unfold oneF mix
           simp at h1
           by_cases e : i = k
           · subst e
             simp only [Int.toNat_natCast, if_true, putD, List.set_cons_zero]
             rw [if_pos (by omega), low_nat, if_pos (by unfold bt at h1; omega), IntKind.wrap_u8]
             unfold bt at *
             congr 2
             omega
           · rw [if_neg (by simpa using e)]
             show [DV.int _ _] = [DV.int _ _]
             by_cases e2 : i < k
             · rw [if_pos e2, if_pos (by omega)]
             · rw [if_neg e2, if_neg (by omega)])
  · have hke : k = s.length := by simp at hge; omega
    subst hke
    conv => whnf
    refine ⟨fun i _ => ⟨_, rfl⟩, ?_⟩
    conv => whnf
    refine congrArg DV.str ?_
    unfold bytesOf fold
    apply List.ext_getElem?
    intro i
    rw [List.getElem?_map, List.getElem?_map]
    by_cases hi : i < s.length
    · rw [List.getElem?_range hi, List.getElem?_eq_getElem hi]
      simp [mix, hi]
    · rw [List.getElem?_eq_none (by simp; omega), List.getElem?_eq_none (by omega)]
      rfl
end Go.Proofs.Ytdphkaiijlekhaa
namespace Go.Proofs.Ytdphkaiijlekhaa
open Go Go.Eng
def okL (l : List UInt8) : Prop := 1 ≤ l.length ∧ l.length ≤ 63
def lab (l : List UInt8) : List UInt8 := UInt8.ofNat l.length :: l
/-- The name of labels. -/
def mk : List (List UInt8) → List UInt8
  | [] => [0]
  | l :: ls => lab l ++ mk ls
theorem bt_drop (s : List UInt8) (k j : Nat) : bt (s.drop k) j = bt s (k + j) := by simp [bt]
theorem more_drop (s : List UInt8) (k : Nat) : more s k ↔ more (s.drop k) 0 := by
  unfold more
  rw [bt_drop, Nat.add_zero, List.length_drop]
  omega
theorem endOf_drop : ∀ (m : Nat) (s : List UInt8) (k : Nat), endOf s m k = k + endOf (s.drop k) m 0
  | 0, s, k => rfl
  | m + 1, s, k => by
    simp only [endOf]
    by_cases h : more s k
    · rw [if_pos h, if_pos ((more_drop s k).1 h), endOf_drop m s, endOf_drop m (s.drop k), bt_drop, List.drop_drop, show k + 0 = k from rfl]
      have e : k + (0 + 1 + bt s k) = k + 1 + bt s k := by omega
      rw [e]
      omega
    · rw [if_neg h, if_neg (fun e => h ((more_drop s k).2 e))]
      rfl
theorem toNat_ofNat {n : Nat} (h : n < 256) : (UInt8.ofNat n).toNat = n := by
  rw [UInt8.toNat_ofNat']; exact Nat.mod_eq_of_lt h
theorem bt_lab (l t : List UInt8) (h : okL l) : bt (lab l ++ t) 0 = l.length := by
  simp only [bt, lab, List.cons_append, List.getElem?_cons_zero, Option.getD_some]
  exact toNat_ofNat (by have := h.2; omega)
theorem lab_len (l : List UInt8) : (lab l).length = 1 + l.length := by simp [lab]; omega
theorem mk_pos (ls : List (List UInt8)) : 0 < (mk ls).length := by cases ls <;> simp [mk, lab]
theorem drop_lab (l t : List UInt8) : (lab l ++ t).drop (1 + l.length) = t := by
  rw [← lab_len l, List.drop_left]
theorem take_lab (l t : List UInt8) : (lab l ++ t).take (1 + l.length) = lab l := by
  rw [← lab_len l, List.take_left]
theorem name_of : ∀ (m : Nat) (s : List UInt8), 0 < s.length → endOf s m 0 = s.length - 1 → bt s (s.length - 1) = 0 → ∃ ls, (∀ l ∈ ls, okL l) ∧ s = mk ls
  | m, s, h0, h1, h2 => by
    have leaf : s.length = 1 → ∃ ls, (∀ l ∈ ls, okL l) ∧ s = mk ls := fun hl => by
      match s, hl with
      | [b], _ =>
        refine ⟨[], (fun l h => by cases h), ?_⟩
        have : b.toNat = 0 := by simpa [bt] using h2
        rw [mk, UInt8.toNat_inj.1 (show b.toNat = (0 : UInt8).toNat from this)]
    cases m with
    | zero => exact leaf (by simp [endOf] at h1; omega)
    | succ m =>
      simp only [endOf] at h1
      split at h1
      · rename_i hm
        obtain ⟨a1, a2, a3, a4⟩ := hm
        rw [endOf_drop] at h1
        have hb : 1 + bt s 0 < s.length := by omega
        obtain ⟨ls, i1, i2⟩ := name_of m (s.drop (0 + 1 + bt s 0)) (by rw [List.length_drop]; omega) (by rw [List.length_drop]; omega) (by
          rw [bt_drop, List.length_drop, show 0 + 1 + bt s 0 + (s.length - (0 + 1 + bt s 0) - 1) = s.length - 1 by omega]
          exact h2)
        refine ⟨(s.drop 1).take (bt s 0) :: ls, fun l hl => ?_, ?_⟩
        · rcases List.mem_cons.1 hl with rfl | hl
          · have : ((s.drop 1).take (bt s 0)).length = bt s 0 := by simp; omega
            unfold okL
            omega
          · exact i1 l hl
        · rw [mk, ← i2]
          have hlen : ((s.drop 1).take (bt s 0)).length = bt s 0 := by simp; omega
          unfold lab
          rw [hlen]
          match s, a1 with
          | b :: r, _ =>
            have e : bt (b :: r) 0 = b.toNat := by simp [bt]
            rw [e]
            simp [show 0 + 1 + b.toNat = b.toNat + 1 by omega]
      · exact leaf (by omega)
theorem endOf_mk (ls : List (List UInt8)) (h : ∀ l ∈ ls, okL l) : ∀ m, (mk ls).length ≤ m → endOf (mk ls) m 0 = (mk ls).length - 1 := by
  induction ls with
  | nil =>
    intro m hm
    cases m with
    | zero => rfl
    | succ m =>
      show (if more [0] 0 then endOf [0] m (0 + 1 + bt [0] 0) else 0) = 0
      exact if_neg (by rintro ⟨_, h2, _⟩; exact h2 rfl)
  | cons l ls ih =>
    intro m hm
    have hl := h l (List.mem_cons_self ..)
    have hb := bt_lab l (mk ls) hl
    have hlen : (mk (l :: ls)).length = 1 + l.length + (mk ls).length := by simp [mk, lab_len]
    have hp := mk_pos ls
    cases m with
    | zero => omega
    | succ m =>
      simp only [endOf]
      show (if more (mk (l :: ls)) 0 then endOf (mk (l :: ls)) m (0 + 1 + bt (mk (l :: ls)) 0) else 0) = _
      have hbm : bt (mk (l :: ls)) 0 = l.length := hb
      rw [if_pos ⟨by omega, by rw [hbm]; have := hl.1; omega, by rw [hbm]; exact hl.2, by rw [hbm]; omega⟩, hbm, endOf_drop, Nat.zero_add]
      have : (mk (l :: ls)).drop (1 + l.length) = mk ls := drop_lab l (mk ls)
      rw [this, ih (fun x hx => h x (List.mem_cons_of_mem _ hx)) m (by omega)]
      omega
theorem last_mk (ls : List (List UInt8)) : bt (mk ls) ((mk ls).length - 1) = 0 := by
  induction ls with
  | nil => rfl
  | cons l ls ih =>
    have hlen : (mk (l :: ls)).length = 1 + l.length + (mk ls).length := by simp [mk, lab_len]
    have hp := mk_pos ls
    have e : (mk (l :: ls)).drop (1 + l.length) = mk ls := drop_lab l (mk ls)
    have := bt_drop (mk (l :: ls)) (1 + l.length) ((mk ls).length - 1)
    rw [e, ih] at this
    rw [hlen, show 1 + l.length + (mk ls).length - 1 = 1 + l.length + ((mk ls).length - 1) by omega]
    exact this.symm
/-- A name is what labels make. -/
theorem isName_iff (s : List UInt8) : isName s ↔ s.length ≤ 255 ∧ ∃ ls, (∀ l ∈ ls, okL l) ∧ s = mk ls := by
  constructor
  · rintro ⟨h1, h2, h3, h4⟩
    exact ⟨h2, name_of s.length s h1 h3 (by rw [← h3]; exact h4)⟩
  · rintro ⟨h1, ls, h2, rfl⟩
    have := endOf_mk ls h2 (mk ls).length (Nat.le_refl _)
    exact ⟨mk_pos ls, h1, this, by unfold lastOf; rw [this]; exact last_mk ls⟩
/-- Labels are told by their name. -/
theorem mk_inj : ∀ {a b : List (List UInt8)}, (∀ l ∈ a, okL l) → (∀ l ∈ b, okL l) → mk a = mk b → a = b
  | [], [], _, _, _ => rfl
  | [], l :: b, _, hb, h => by
    have h1 := hb l (List.mem_cons_self ..)
    have := bt_lab l (mk b) h1
    rw [show lab l ++ mk b = mk (l :: b) from rfl, ← h] at this
    have h2 := h1.1
    have : (0 : Nat) = l.length := this
    omega
  | l :: a, [], ha, _, h => by
    have h1 := ha l (List.mem_cons_self ..)
    have := bt_lab l (mk a) h1
    rw [show lab l ++ mk a = mk (l :: a) from rfl, h] at this
    have h2 := h1.1
    have : (0 : Nat) = l.length := this
    omega
  | l :: a, k :: b, ha, hb, h => by
    have h1 := bt_lab l (mk a) (ha l (List.mem_cons_self ..))
    have h2 := bt_lab k (mk b) (hb k (List.mem_cons_self ..))
    have hlen : l.length = k.length := by
      rw [← h1, ← h2]
      show bt (mk (l :: a)) 0 = bt (mk (k :: b)) 0
      rw [h]
    have e1 : lab l = lab k := by
      have := congrArg (List.take (1 + l.length)) h
      rw [show mk (l :: a) = lab l ++ mk a from rfl, take_lab, hlen, show mk (k :: b) = lab k ++ mk b from rfl, take_lab] at this
      exact this
    have e2 : mk a = mk b := by
      have := congrArg (List.drop (1 + l.length)) h
      rw [show mk (l :: a) = lab l ++ mk a from rfl, drop_lab, hlen, show mk (k :: b) = lab k ++ mk b from rfl, drop_lab] at this
      exact this
    have e3 : l = k := (List.cons.inj e1).2
    rw [e3, mk_inj (fun x hx => ha x (List.mem_cons_of_mem _ hx)) (fun x hx => hb x (List.mem_cons_of_mem _ hx)) e2]
end Go.Proofs.Ytdphkaiijlekhaa
namespace Go.Proofs
open Go.Shelf
def Try.lays156_ren : Go.Shelf.Ren := ⟨fun | 156 => 125 | 165 => 161 | 166 => 162 | 169 => 163 | 240 => 178 | 241 => 179 | 276 => 183 | 277 => 184 | n => n, fun | 31 => 31 | 9 => 9 | 3 => 3 | 4 => 4 | 0 => 0 | 20 => 20 | 72 => 246 | 76 => 250 | 70 => 244 | 37 => 181 | 75 => 249 | 127 => 264 | 164 => 266 | 5 => 5 | 80 => 162 | n => n, fun | n => n⟩
theorem Try.lays156 : Go.Proofs.Lays.n156 Try.prog Try.lays156_ren := {
  mixed := by kernel_rfl
  f156 := Try.func125.trans (congrArg some (by kernel_rfl))
  f165 := Try.func161.trans (congrArg some (by kernel_rfl))
  f166 := Try.func162.trans (congrArg some (by kernel_rfl))
  f169 := Try.func163.trans (congrArg some (by kernel_rfl))
  f240 := Try.func178.trans (congrArg some (by kernel_rfl))
  f241 := Try.func179.trans (congrArg some (by kernel_rfl))
  f276 := Try.func183.trans (congrArg some (by kernel_rfl))
  f277 := Try.func184.trans (congrArg some (by kernel_rfl))
  t0 := Try.underlying0
  a0 := Try.isAgg0
  z0 := Try.sizeOf0
  v0 := Try.zeroValue0
  t3 := Try.underlying3
  a3 := Try.isAgg3
  z3 := Try.sizeOf3
  v3 := Try.zeroValue3
  t4 := Try.underlying4
  a4 := Try.isAgg4
  z4 := Try.sizeOf4
  v4 := Try.zeroValue4
  t9 := Try.underlying9
  a9 := Try.isAgg9
  z9 := Try.sizeOf9
  v9 := Try.zeroValue9
  t20 := Try.underlying20
  a20 := Try.isAgg20
  z20 := Try.sizeOf20
  v20 := Try.zeroValue20
  t31 := Try.underlying31
  a31 := Try.isAgg31
  z31 := Try.sizeOf31
  v31 := Try.zeroValue31
  t37 := Try.underlying181
  a37 := Try.isAgg181
  z37 := Try.sizeOf181
  v37 := Try.zeroValue181
  t70 := Try.underlying244
  a70 := Try.isAgg244
  z70 := Try.sizeOf244
  v70 := Try.zeroValue244
  t72 := Try.underlying246
  a72 := Try.isAgg246
  z72 := Try.sizeOf246
  v72 := Try.zeroValue246
  t75 := Try.underlying249
  a75 := Try.isAgg249
  z75 := Try.sizeOf249
  v75 := Try.zeroValue249
  t76 := Try.underlying250
  a76 := Try.isAgg250
  z76 := Try.sizeOf250
  v76 := Try.zeroValue250
  t127 := Try.underlying264
  a127 := Try.isAgg264
  z127 := Try.sizeOf264
  v127 := Try.zeroValue264
  t164 := Try.underlying266
  a164 := Try.isAgg266
  z164 := Try.sizeOf266
  v164 := Try.zeroValue266 }
theorem Try.Builder_Extra_156 : Builder.Extra Try.prog Try.lays156_ren := {
  sizeBuilder := by kernel_rfl
  liesBuilder := by kernel_rfl
  t5 := Try.underlying5
  a5 := Try.isAgg5
  z5 := Try.sizeOf5
  v5 := Try.zeroValue5
  infoByte := by kernel_rfl
  cellsByte := by kernel_rfl
  sizeByte := by kernel_rfl
  neB5 := by decide }
open Go.RowKit in
/-- No element: the empty string; the world is as it was. (Whatever the slice's address and capacity: a nil slice too.) (LAID: no walk: one application.) -/
theorem Try.strings_Join_none (a : Option Addr) (c : Nat) (sep : ByteArray) (w : World) :
    Calls Try.prog 125 #[.slice a 0 c, .string sep] w fun e w' => e = .returned (.string ⟨#[]⟩) ∧ w' = w := Any.strings_Join_none Try.lays156 Try.Builder_Extra_156 a c sep w
open Go.RowKit in
/-- strings.Join: "Join concatenates the elements of its first argument to create a single string. The separator string sep is placed between elements in the resulting string.": HOWEVER MANY ELEMENTS. Below the heap's end the world is as it was. (LAID: no walk: one application.) -/
theorem Try.strings_Join (bk o c : Nat) (xs : List ByteArray) (sep : ByteArray) (w : World) (hcells : ∀ (j : Nat) x, xs[j]? = some x → w.cell? ⟨bk, o + j, none⟩ = some (.string x)) (hbk : bk < w.heap.size) (hN : xs.length ≤ 140737488355328) (hcap : xs.length ≤ c) (hlen : (Lib.join (xs.map (·.data.toList)) sep.data.toList).length ≤ 140737488355328) :
    Calls Try.prog 125 #[.slice (some ⟨bk, o, none⟩) xs.length c, .string sep] w fun e w' => e = .returned (.string ⟨(Lib.join (xs.map (·.data.toList)) sep.data.toList).toArray⟩) ∧ Below w.heap.size w w' := Any.strings_Join Try.lays156 Try.Builder_Extra_156 bk o c xs sep w hcells hbk hN hcap hlen
def Try.lays213_ren : Go.Shelf.Ren := ⟨fun | 213 => 155 | 265 => 175 | n => n, fun | 9 => 9 | 3 => 3 | n => n, fun | n => n⟩
theorem Try.lays213 : Go.Proofs.Lays.n213 Try.prog Try.lays213_ren := {
  mixed := by kernel_rfl
  f213 := Try.func155.trans (congrArg some (by kernel_rfl))
  f265 := Try.func175.trans (congrArg some (by kernel_rfl))
  t3 := Try.underlying3
  a3 := Try.isAgg3
  z3 := Try.sizeOf3
  v3 := Try.zeroValue3
  t9 := Try.underlying9
  a9 := Try.isAgg9
  z9 := Try.sizeOf9
  v9 := Try.zeroValue9 }
open Go.RowKit in
/-- internal/bytealg.CompareString (what strings.Compare calls): IT RETURNS 'Lib.compareBytes a b'; the world is as it was. (LAID: no walk: one application.) -/
theorem Try.bytealg_CompareString (a b : ByteArray) (w : World) :
    Calls Try.prog 155 #[.string a, .string b] w fun e w' => e = .returned (.int .i64 (Lib.compareBytes a.data.toList b.data.toList)) ∧ w' = w := Any.bytealg_CompareString Try.lays213 a b w
def Try.lays106_ren : Go.Shelf.Ren := ⟨fun | 106 => 113 | 213 => 155 | 265 => 175 | n => n, fun | 9 => 9 | 3 => 3 | n => n, fun | n => n⟩
theorem Try.lays106 : Go.Proofs.Lays.n106 Try.prog Try.lays106_ren := {
  mixed := by kernel_rfl
  f106 := Try.func113.trans (congrArg some (by kernel_rfl))
  f213 := Try.func155.trans (congrArg some (by kernel_rfl))
  f265 := Try.func175.trans (congrArg some (by kernel_rfl))
  t3 := Try.underlying3
  a3 := Try.isAgg3
  z3 := Try.sizeOf3
  v3 := Try.zeroValue3
  t9 := Try.underlying9
  a9 := Try.isAgg9
  z9 := Try.sizeOf9
  v9 := Try.zeroValue9 }
open Go.RowKit in
/-- strings.Compare: "Compare returns an integer comparing two strings lexicographically. The result will be 0 if a == b, -1 if a < b, and +1 if a > b.": IT RETURNS 'Lib.compareBytes a b'; the world is as it was. (LAID: no walk: one application.) -/
theorem Try.strings_Compare (a b : ByteArray) (w : World) :
    Calls Try.prog 113 #[.string a, .string b] w fun e w' => e = .returned (.int .i64 (Lib.compareBytes a.data.toList b.data.toList)) ∧ w' = w := Any.strings_Compare Try.lays106 a b w
end Go.Proofs
namespace Go.Proofs.Ytdphkaiijlekhaa
open Go Go.Eng
/-- How many bytes the name has with which s begins from k on; 0: there is none. -/
def firstF (s : List UInt8) : Nat → Nat → Nat
  | 0, _ => 0
  | m + 1, k => if k < s.length ∧ k < 255 then (if bt s k = 0 then (if isName (s.take (k + 1)) then k + 1 else 0) else firstF s m (k + 1 + bt s k)) else 0
def firstN (s : List UInt8) : Nat := firstF s 256 0
def FAt (s : List UInt8) (k : Nat) : Prop := k ≤ 510 ∧ ∃ m, 256 ≤ k + m ∧ firstF s m k = firstN s
theorem FAt.zero (s : List UInt8) : FAt s 0 := ⟨by omega, 256, by omega, rfl⟩
theorem FAt.step {s : List UInt8} {k : Nat} (h : FAt s k) (h1 : k < s.length) (h2 : k < 255) : (firstN s = if bt s k = 0 then (if isName (s.take (k + 1)) then k + 1 else 0) else firstN s) ∧ (bt s k ≠ 0 → FAt s (k + 1 + bt s k)) := by
  obtain ⟨hk, m, hm, e⟩ := h
  cases m with
  | zero => omega
  | succ m =>
    simp only [firstF, h1, h2, and_self, if_true] at e
    have := bt_lt s k
    refine ⟨?_, fun hb => ⟨by omega, m, by omega, ?_⟩⟩
    · split
      · rename_i hb; rw [if_pos hb] at e; exact e.symm
      · rfl
    · rw [if_neg hb] at e; exact e
theorem FAt.last {s : List UInt8} {k : Nat} (h : FAt s k) (h1 : ¬ (k < s.length ∧ k < 255)) : firstN s = 0 := by
  obtain ⟨hk, m, hm, e⟩ := h
  rw [← e]
  cases m with
  | zero => rfl
  | succ m => simp only [firstF, if_neg h1]
theorem brT {b : Bool} {p q : Prop} (h : b = true) (hp : p) : (b = true → p) ∧ (b = false → q) := ⟨fun _ => hp, fun e => (by rw [h] at e; cases e)⟩
theorem brF {b : Bool} {p q : Prop} (h : b = false) (hq : q) : (b = true → p) ∧ (b = false → q) := ⟨fun e => (by rw [h] at e; cases e), fun _ => hq⟩
set_option maxRecDepth 100000
set_option maxHeartbeats 2000000 in
theorem first_ok (s : List UInt8) : FnOk Try.prog 160 [.d (.str s)] (.d (.int .i64 (firstN s))) := by
  refine fnOk_of_run (TT := TT) (IN := lookI []) TT_ok INok_nil mixed 1000 Try.func160 rfl (enters Try.func160 (by kernel_rfl) rfl) rfl 30 (by kernel_rfl) ?_
  conv => whnf
  refine .inv Nat (fun k => FAt s k) (fun k => [(3, .d (.int .i64 k))]) (fun k => []) (fun k => 600 - k) ⟨0, [], FAt.zero s, ?_⟩ ?_
  · conv => whnf
    repeat' (first | exact True.intro | exact rfl | refine And.intro ?_ ?_)
  intro k hk
  have hk1 := hk.1
  have hby := bt_lt s k
  conv => whnf
  refine ⟨fun hlt => ?_, fun hge => ?_⟩
  · conv => whnf
    refine ⟨fun hlt2 => ?_, fun hge2 => ?_⟩
    · have h1 : k < s.length := by simpa using hlt
      have h2 : k < 255 := by simp at hlt2; omega
      obtain ⟨e1, e2⟩ := hk.step h1 h2
      conv => whnf
      refine ⟨by simp; omega, ?_⟩
      conv => whnf
      rw [bt_eq]
      refine ⟨fun hb => ?_, fun hb => ?_⟩
      · have hb' : bt s k ≠ 0 := by simpa using hb
        conv => whnf
        refine ⟨by simp; omega, ?_⟩
        conv => whnf
        refine ⟨k + 1 + bt s k, [], e2 hb', by show 600 - (k + 1 + bt s k) < 600 - k; omega, ?_⟩
        have hnx : IntKind.i64.wrap ((k : Int) + IntKind.i64.wrap (1 + IntKind.i64.wrap (byteAt s (k : Int)))) = ((k + 1 + bt s k : Nat) : Int) := by simp (disch := omega) only [bt_eq, w64_in]; omega
        conv => whnf
        repeat' (first | exact True.intro | exact rfl | refine And.intro ?_ ?_)
        all_goals exact congrArg SV.d (congrArg (DV.int _) hnx)
      · have hb' : bt s k = 0 := by simpa using hb
        rw [if_pos hb'] at e1
        have hw : IntKind.i64.wrap ((k : Int) + 1) = ((k + 1 : Nat) : Int) := by rw [w64_in _ (by omega)]; omega
        conv => whnf
        rw [hw]
        refine ⟨by omega, ?_⟩
        conv => whnf
        refine .one (.data _ (check_ok _) rfl rfl ?_)
        have hsub : sub s 0 ((k + 1 : Nat) : Int) = s.take (k + 1) := by simp [sub]
        rw [hsub]
        by_cases hn : isName (s.take (k + 1))
        · rw [if_pos hn] at e1 ⊢
          conv => whnf
          refine brF (by decide) ?_
          conv => whnf
          refine congrArg (DV.int _) ?_
          rw [e1, hw]
        · rw [if_neg hn] at e1 ⊢
          conv => whnf
          refine brT (by decide) ?_
          conv => whnf
          exact congrArg (DV.int _) (by rw [e1]; rfl)
    · conv => whnf
      exact congrArg (DV.int _) (by rw [hk.last (by simp at hge2; omega)]; rfl)
  · conv => whnf
    exact congrArg (DV.int _) (by rw [hk.last (by simp at hge; omega)]; rfl)
/-- The texts of which data are made. -/
def textsF : Nat → List UInt8 → Option (List (List UInt8))
  | _, [] => some []
  | 0, _ :: _ => none
  | m + 1, a :: r => if a.toNat ≤ r.length then (textsF m (r.drop a.toNat)).map (r.take a.toNat :: ·) else none
def textsOf (s : List UInt8) : Option (List (List UInt8)) := textsF s.length s
def textsOk (s : List UInt8) : Bool := match textsOf s with
  | some l => decide (0 < l.length)
  | none => false
/-- A row of texts. -/
def strs (l : List (List UInt8)) (i : Nat) : List DV := [.str (l[i]?.getD [])]
theorem strs_cat (l : List (List UInt8)) (x : List UInt8) (g : Nat → List DV) (hg : g 0 = [.str x]) : ∀ i, i < l.length + 1 → catF l.length (strs l) g i = strs (l ++ [x]) i := fun i hi => by
  unfold catF strs
  split
  · rename_i h; rw [List.getElem?_append_left h]
  · rename_i h
    have : i = l.length := by omega
    subst this
    simp [hg]
def TAt (s : List UInt8) (k : Nat) (l : List (List UInt8)) : Prop := k ≤ s.length ∧ l.length ≤ k ∧ ∃ m, s.length ≤ k + m ∧ (textsF m (s.drop k)).map (l ++ ·) = textsOf s
theorem TAt.zero (s : List UInt8) : TAt s 0 [] := ⟨Nat.zero_le _, Nat.zero_le _, s.length, by omega, by simp [textsOf]⟩
theorem TAt.step {s : List UInt8} {k : Nat} {l : List (List UInt8)} (h : TAt s k l) (hk : k < s.length) : (s.length < k + 1 + bt s k → textsOf s = none) ∧ (k + 1 + bt s k ≤ s.length → TAt s (k + 1 + bt s k) (l ++ [(s.drop (k + 1)).take (bt s k)])) := by
  obtain ⟨h1, h2, m, h3, h4⟩ := h
  have hd : s.drop k = s[k] :: s.drop (k + 1) := List.drop_eq_getElem_cons hk
  have hb : bt s k = s[k].toNat := by simp [bt, hk]
  cases m with
  | zero => omega
  | succ m =>
    rw [hd] at h4
    simp only [textsF, List.length_drop, ← hb] at h4
    refine ⟨fun hlt => ?_, fun hle => ⟨hle, by simp; omega, m, by omega, ?_⟩⟩
    · rw [if_neg (by omega)] at h4
      simpa using h4.symm
    · rw [if_pos (by omega), List.drop_drop] at h4
      rw [← h4]
      simp [Function.comp_def]
theorem TAt.last {s : List UInt8} {k : Nat} {l : List (List UInt8)} (h : TAt s k l) (hk : k = s.length) : textsOf s = some l := by
  obtain ⟨h1, h2, m, h3, h4⟩ := h
  rw [← h4, hk, List.drop_length]
  cases m <;> simp [textsF]
set_option maxHeartbeats 2000000 in
theorem texts_ok (s : List UInt8) (hs : s.length ≤ 4096) : FnOk Try.prog 121 [.d (.str s)] (.tup [.any, .d (.bool (textsOk s))]) := by
  refine fnOk_of_run (TT := TT) (IN := lookI []) TT_ok INok_nil mixed 1000 Try.func121 rfl (enters Try.func121 (by kernel_rfl) rfl) rfl 28 (by kernel_rfl) ?_
  conv => whnf
  refine .nilT 4 9 1 (fun _ => []) _ _ rfl ?_
  conv => whnf
  refine .inv (Nat × List (List UInt8)) (fun p => TAt s p.1 p.2) (fun p => [(0, .d (.str (s.drop p.1))), (4, .all 0)]) (fun p => [(0, .row 9 1 p.2.length .iff (strs p.2))]) (fun p => s.length - p.1) ⟨(0, []), [0], TAt.zero s, ?_⟩ ?_
  · conv => whnf
    repeat' (first | exact True.intro | exact rfl | refine And.intro ?_ ?_)
    intro i hi
    exact absurd hi (by simp)
  intro p hk
  have hk0 : p.1 ≤ s.length := hk.1
  have hk2 : p.2.length ≤ p.1 := hk.2.1
  have hby := bt_lt s p.1
  have hlen : (s.drop p.1).length = s.length - p.1 := by simp
  conv => whnf
  refine ⟨fun hne => ?_, fun heq => ?_⟩
  · have hlt : p.1 < s.length := by
      rcases Nat.lt_or_ge p.1 s.length with e | e
      · exact e
      · rw [List.drop_eq_nil_of_le e] at hne; simp at hne
    obtain ⟨e1, e2⟩ := TAt.step hk hlt
    have hb0 : byteAt (s.drop p.1) 0 = (bt s p.1 : Int) := by
      rw [show (0 : Int) = ((0 : Nat) : Int) from rfl, bt_eq]
      simp [bt]
    conv => whnf
    refine ⟨by omega, ?_⟩
    have hsz : IntKind.i64.wrap (1 + IntKind.i64.wrap (byteAt (s.drop p.1) 0)) = ((1 + bt s p.1 : Nat) : Int) := by rw [hb0]; simp (disch := omega) only [w64_in]; omega
    conv => whnf
    rw [hsz]
    refine ⟨fun hgt => ?_, fun hle => ?_⟩
    · conv => whnf
      refine ⟨True.intro, ?_, True.intro⟩
      have : textsOk s = false := by unfold textsOk; rw [e1 (by simp at hgt; omega)]
      rw [this]
      exact rfl
    · have hle' : p.1 + 1 + bt s p.1 ≤ s.length := by simp at hle; omega
      conv => whnf
      refine ⟨by omega, ?_⟩
      conv => whnf
      refine ⟨by omega, ?_⟩
      conv => whnf
      refine ⟨by omega, ?_⟩
      conv => whnf
      refine ⟨(p.1 + 1 + bt s p.1, p.2 ++ [(s.drop (p.1 + 1)).take (bt s p.1)]), [2], e2 hle', by show s.length - (p.1 + 1 + bt s p.1) < s.length - p.1; omega, ?_⟩
      conv => whnf
      repeat' (first | exact True.intro | exact rfl | refine And.intro ?_ ?_)
      · refine congrArg SV.d (congrArg DV.str ?_)
        show sub (s.drop p.1) _ _ = s.drop (p.1 + 1 + bt s p.1)
        simp only [sub, Int.toNat_natCast, List.drop_drop]
        rw [List.take_of_length_le (by simp; omega)]
        congr 1
        omega
      · simp
      · refine strs_cat _ _ _ ?_
        show [DV.str _] = [DV.str _]
        congr 2
        simp only [sub, Int.toNat_natCast, List.drop_drop]
        rw [show (1 : Int).toNat = 1 from rfl]
        congr 1
        omega
  · have hke : p.1 = s.length := by
      simp at heq
      omega
    conv => whnf
    refine ⟨True.intro, ?_, True.intro⟩
    have : textsOk s = decide (0 < p.2.length) := by unfold textsOk; rw [TAt.last hk hke]
    rw [this]
    refine congrArg DV.bool ?_
    simp
theorem DEq_refl (x : DV) : DEq x x := by
  cases x <;> simp [DEq]
theorem firstF_le (s : List UInt8) : ∀ m k, firstF s m k ≤ s.length ∧ firstF s m k ≤ 255 := by
  intro m
  induction m with
  | zero => intro k; simp [firstF]
  | succ m ih =>
    intro k
    simp only [firstF]
    split
    · split
      · split
        · omega
        · omega
      · exact ih _
    · omega
theorem firstN_le (s : List UInt8) : firstN s ≤ s.length ∧ firstN s ≤ 255 := firstF_le s _ _
/-- The names with which bytes begin, and what stands behind them. -/
def namesF : Nat → List UInt8 → Option (List (List UInt8) × List UInt8)
  | 0, s => some ([], s)
  | n + 1, s => if firstN s = 0 then none else (namesF n (s.drop (firstN s))).map (fun p => (s.take (firstN s) :: p.1, p.2))
def cutF (a n c : Nat) (s : List UInt8) : Option (List UInt8 × List (List UInt8) × List UInt8) :=
  if s.length < 2 * a then none else (namesF n (s.drop (2 * a))).bind fun p => if p.2.length = 4 * c then some (s.take (2 * a), p.1, p.2) else none
def partsV (x : List UInt8) (l : List (List UInt8)) (r : List UInt8) : SV := .agg [.d (.str x), .d (.sl (Nat.beq l.length 0) l.length 1 (strs l)), .d (.str r)]
def noParts : SV := .agg [.d (.str []), nilS, .d (.str [])]
def cutR : Option (List UInt8 × List (List UInt8) × List UInt8) → SV
  | none => .tup [noParts, .d .ff]
  | some (x, l, r) => .tup [partsV x l r, .d .tt]
/-- Behind i names. -/
structure NAt (n : Nat) (s : List UInt8) (i : Nat) (l : List (List UInt8)) (r : List UInt8) : Prop where
  le : i ≤ n
  len : l.length = i
  short : r.length ≤ s.length
  eq : (namesF (n - i) r).map (fun p => (l ++ p.1, p.2)) = namesF n s
theorem NAt.zero (n : Nat) (s : List UInt8) : NAt n s 0 [] s := ⟨Nat.zero_le _, rfl, Nat.le_refl _, by simp⟩
theorem NAt.step {n : Nat} {s : List UInt8} {i : Nat} {l : List (List UInt8)} {r : List UInt8} (h : NAt n s i l r) (hi : i < n) : (firstN r = 0 → namesF n s = none) ∧ (firstN r ≠ 0 → NAt n s (i + 1) (l ++ [r.take (firstN r)]) (r.drop (firstN r))) := by
  have e := h.eq
  rw [show n - i = (n - (i + 1)) + 1 from by omega] at e
  simp only [namesF] at e
  refine ⟨fun h0 => by rw [if_pos h0] at e; simpa using e.symm, fun h0 => ⟨hi, by simp [h.len], by have := h.short; simp; omega, ?_⟩⟩
  rw [if_neg h0] at e
  rw [← e]
  simp [Function.comp_def]
theorem NAt.last {n : Nat} {s : List UInt8} {l : List (List UInt8)} {r : List UInt8} (h : NAt n s n l r) : namesF n s = some (l, r) := by
  rw [← h.eq]
  simp [namesF]
set_option maxHeartbeats 4000000 in
theorem cut_ok (a n c : Nat) (ha : a ≤ 100) (hn : n ≤ 100) (hc : c ≤ 100) (s : List UInt8) : FnOk Try.prog 123 [.agg [.d (.int .i64 a), .d (.int .i64 n), .d (.int .i64 c)], .d (.str s)] (cutR (cutF a n c s)) := by
  refine fnOk_of_run (TT := TT) (IN := lookI []) TT_ok INok_nil mixed 1000 Try.func123 rfl (enters Try.func123 (by kernel_rfl) rfl) rfl 56 (by kernel_rfl) ?_
  have h2a : IntKind.i64.wrap (2 * (a : Int)) = ((2 * a : Nat) : Int) := by rw [w64_in _ (by omega)]; omega
  have h4c : IntKind.i64.wrap (4 * (c : Int)) = ((4 * c : Nat) : Int) := by rw [w64_in _ (by omega)]; omega
  conv => whnf
  rw [h2a]
  refine ⟨fun hlt => ?_, fun hge => ?_⟩
  · have : cutF a n c s = none := by unfold cutF; rw [if_pos (by simp at hlt; omega)]
    rw [this]
    conv => whnf
    repeat' (first | exact True.intro | exact rfl | exact Or.inl rfl | exact Or.inr rfl | exact fun _ _ => rfl | refine And.intro ?_ ?_)
  · have hge' : 2 * a ≤ s.length := by simp at hge; omega
    conv => whnf
    rw [h2a]
    refine ⟨by omega, ?_⟩
    conv => whnf
    rw [h2a]
    refine ⟨by omega, ?_⟩
    conv => whnf
    refine .nilC 2 1 9 1 (fun _ => []) _ _ _ _ rfl rfl ?_
    conv => whnf
    have hr0 : sub s ((2 * a : Nat) : Int) (s.length : Int) = s.drop (2 * a) := by
      simp only [sub, Int.toNat_natCast]
      rw [List.take_of_length_le (by simp)]
    have hx0 : sub s 0 ((2 * a : Nat) : Int) = s.take (2 * a) := by simp only [sub, Int.toNat_natCast]; simp
    rw [hr0, hx0]
    refine .inv (Nat × List (List UInt8) × List UInt8) (fun p => NAt n (s.drop (2 * a)) p.1 p.2.1 p.2.2) (fun p => [(7, .d (.str p.2.2)), (29, .d (.int .i64 p.1))]) (fun p => [(2, .cells 198 [.d (.str (s.take (2 * a))), .all 3, .d (.str [])]), (3, .row 9 1 p.2.1.length .iff (strs p.2.1))]) (fun p => n - p.1) ⟨(0, [], s.drop (2 * a)), [0, 1, 2, 3], NAt.zero _ _, ?_⟩ ?_
    · conv => whnf
      repeat' (first | exact True.intro | exact rfl | refine And.intro ?_ ?_)
      intro i hi
      omega
    intro p hp
    have hp1 := hp.le
    have hp2 := hp.len
    have hp3 := hp.short
    have hf := firstN_le p.2.2
    simp only [List.length_drop] at hp3
    conv => whnf
    refine ⟨fun hlt => ?_, fun hge => ?_⟩
    · have hi : p.1 < n := by simpa using hlt
      obtain ⟨e1, e2⟩ := hp.step hi
      conv => whnf
      refine .one (.data _ (first_ok _) rfl rfl ?_)
      conv => whnf
      refine ⟨fun h0 => ?_, fun h0 => ?_⟩
      · have h0' : firstN p.2.2 = 0 := by simpa using h0
        have : cutF a n c s = none := by unfold cutF; rw [if_neg (by omega), e1 h0']; rfl
        rw [this]
        conv => whnf
        repeat' (first | exact True.intro | exact rfl | exact Or.inl rfl | exact Or.inr rfl | exact fun _ _ => rfl | refine And.intro ?_ ?_)
      · have h0' : firstN p.2.2 ≠ 0 := by simpa using h0
        conv => whnf
        refine ⟨by omega, ?_⟩
        conv => whnf
        refine ⟨by omega, ?_⟩
        conv => whnf
        refine ⟨by omega, ?_⟩
        conv => whnf
        refine ⟨(p.1 + 1, p.2.1 ++ [p.2.2.take (firstN p.2.2)], p.2.2.drop (firstN p.2.2)), [0, 1, 2, 5], e2 h0', by show n - (p.1 + 1) < n - p.1; omega, ?_⟩
        have hw : IntKind.i64.wrap ((p.1 : Int) + 1) = ((p.1 + 1 : Nat) : Int) := by rw [w64_in _ (by omega)]; omega
        conv => whnf
        repeat' (first | exact True.intro | exact rfl | refine And.intro ?_ ?_)
        · refine congrArg SV.d (congrArg DV.str ?_)
          simp only [sub, Int.toNat_natCast]
          rw [List.take_of_length_le (by simp)]
        · exact congrArg SV.d (congrArg (DV.int _) hw)
        · simp
        · refine strs_cat _ _ _ ?_
          show [DV.str _] = [DV.str _]
          simp [sub]
    · have hi : p.1 = n := by simp at hge; omega
      rw [hi] at hp
      have hnm := hp.last
      conv => whnf
      rw [h4c]
      refine ⟨fun hne => ?_, fun heq => ?_⟩
      · have : cutF a n c s = none := by unfold cutF; rw [if_neg (by omega), hnm]; simp at hne ⊢; omega
        rw [this]
        conv => whnf
        repeat' (first | exact True.intro | exact rfl | exact Or.inl rfl | exact Or.inr rfl | exact fun _ _ => rfl | refine And.intro ?_ ?_)
      · have : cutF a n c s = some (s.take (2 * a), p.2.1, p.2.2) := by unfold cutF; rw [if_neg (by omega), hnm]; simp at heq ⊢; omega
        rw [this]
        conv => whnf
        repeat' (first | exact True.intro | exact rfl | exact Or.inl rfl | exact Or.inr rfl | exact fun _ _ => rfl | refine And.intro ?_ ?_)


/-- How data with names are made: numbers of 2 bytes, names, numbers of 4 bytes. -/
def formOf (t : Int) : Option (Nat × Nat × Nat) :=
  if t = 2 ∨ t = 5 ∨ t = 12 then some (0, 1, 0) else if t = 15 then some (1, 1, 0) else if t = 33 then some (3, 1, 0) else if t = 6 then some (0, 2, 5) else none
def formV (p : Nat × Nat × Nat) : SV := .agg [.d (.int .i64 p.1), .d (.int .i64 p.2.1), .d (.int .i64 p.2.2)]
def formR : Option (Nat × Nat × Nat) → SV
  | some p => .tup [formV p, .d .tt]
  | none => .tup [formV (0, 0, 0), .d .ff]
theorem formOf_le {t : Int} {p : Nat × Nat × Nat} (h : formOf t = some p) : p.1 ≤ 100 ∧ p.2.1 ≤ 100 ∧ p.2.2 ≤ 100 := by
  unfold formOf at h
  repeat' (split at h)
  all_goals first | (cases h; decide) | cases h
set_option maxHeartbeats 4000000 in
theorem formOf_ok (t : Int) : FnOk Try.prog 122 [.d (.int .u16 t)] (formR (formOf t)) := by
  refine fnOk_of_run (TT := TT) (IN := lookI []) TT_ok INok_nil mixed 1000 Try.func122 rfl (enters Try.func122 (by kernel_rfl) rfl) rfl 19 (by kernel_rfl) ?_
  have fin1 : t = 2 ∨ t = 5 ∨ t = 12 → formOf t = some (0, 1, 0) := fun h => by unfold formOf; rw [if_pos h]
  conv => whnf
  refine ⟨fun h1 => ?_, fun h1 => ?_⟩
  · rw [fin1 (.inl (by simpa using h1))]
    conv => whnf
    refine brT h1 ?_
    conv => whnf
    repeat' (first | exact True.intro | exact rfl | refine And.intro ?_ ?_)
  simp only [beq_eq_false_iff_ne, ne_eq] at h1
  conv => whnf
  refine ⟨fun h2 => ?_, fun h2 => ?_⟩
  · rw [fin1 (.inr (.inl (by simpa using h2)))]
    conv => whnf
    refine brT h2 ?_
    conv => whnf
    repeat' (first | exact True.intro | exact rfl | refine And.intro ?_ ?_)
  simp only [beq_eq_false_iff_ne, ne_eq] at h2
  conv => whnf
  refine ⟨fun h3 => ?_, fun h3 => ?_⟩
  · rw [fin1 (.inr (.inr (by simpa using h3)))]
    conv => whnf
    repeat' (first | exact True.intro | exact rfl | refine And.intro ?_ ?_)
  simp only [beq_eq_false_iff_ne, ne_eq] at h3
  conv => whnf
  refine ⟨fun h4 => ?_, fun h4 => ?_⟩
  · have : formOf t = some (1, 1, 0) := by unfold formOf; simp at h4; simp [h4]
    rw [this]
    conv => whnf
    repeat' (first | exact True.intro | exact rfl | refine And.intro ?_ ?_)
  simp only [beq_eq_false_iff_ne, ne_eq] at h4
  conv => whnf
  refine ⟨fun h5 => ?_, fun h5 => ?_⟩
  · have : formOf t = some (3, 1, 0) := by unfold formOf; simp at h5; simp [h5]
    rw [this]
    conv => whnf
    repeat' (first | exact True.intro | exact rfl | refine And.intro ?_ ?_)
  simp only [beq_eq_false_iff_ne, ne_eq] at h5
  conv => whnf
  refine ⟨fun h6 => ?_, fun h6 => ?_⟩
  · have : formOf t = some (0, 2, 5) := by unfold formOf; simp at h6; simp [h6]
    rw [this]
    conv => whnf
    repeat' (first | exact True.intro | exact rfl | refine And.intro ?_ ?_)
  simp only [beq_eq_false_iff_ne, ne_eq] at h6
  have : formOf t = none := by unfold formOf; simp [h1, h2, h3, h4, h5, h6]
  rw [this]
  conv => whnf
  repeat' (first | exact True.intro | exact rfl | refine And.intro ?_ ?_)
/-- Are data right for a type? -/
def rgood (t : Int) (s : List UInt8) : Bool :=
  if t = 1 then s.length == 4 else if t = 28 then s.length == 16 else if t = 16 then textsOk s else match formOf t with
  | some p => (cutF p.1 p.2.1 p.2.2 s).isSome
  | none => true
def rcheck (t : Int) (s : List UInt8) : Bool := decide (s.length ≤ 4096) && rgood t s
def errno (b : Bool) : Int := if b then 0 else 2
theorem lenEq (s : List UInt8) (n : Nat) : ((s.length : Int) == (n : Int)) = (s.length == n) := by
  rw [Bool.eq_iff_iff]; simp; omega
set_option maxHeartbeats 4000000 in
theorem rcheck_ok (t : Int) (s : List UInt8) : FnOk Try.prog 69 [.d (.int .u16 t), .d (.str s)] (.d (.int .i64 (errno (rcheck t s)))) := by
  refine fnOk_of_run (TT := TT) (IN := lookI []) TT_ok INok_nil mixed 1000 Try.func69 rfl (enters Try.func69 (by kernel_rfl) rfl) rfl 43 (by kernel_rfl) ?_
  conv => whnf
  refine ⟨fun h0 => ?_, fun h0 => ?_⟩
  · have : rcheck t s = false := by unfold rcheck; simp at h0; simp; intro h; omega
    rw [this]
    conv => whnf
    exact rfl
  have hle : s.length ≤ 4096 := by simp at h0; omega
  have hr : rcheck t s = rgood t s := by unfold rcheck; simp [hle]
  rw [hr]
  have hlast : ∀ b : Bool, rgood t s = b → (((!b) = true → (if rgood t s = true then (0 : Int) else 2) = 2) ∧ ((!b) = false → (if rgood t s = true then (0 : Int) else 2) = 0)) := fun b h => by rw [h]; cases b <;> simp
  conv => whnf
  refine ⟨fun h1 => ?_, fun h1 => ?_⟩
  · simp only [beq_iff_eq] at h1
    have e : rgood t s = ((s.length : Int) == 4) := by unfold rgood; rw [if_pos h1, ← lenEq]; rfl
    obtain ⟨l1, l2⟩ := hlast _ e
    conv => whnf
    refine ⟨fun h => ?_, fun h => ?_⟩
    · conv => whnf
      exact congrArg (DV.int _) (l1 h).symm
    · conv => whnf
      exact congrArg (DV.int _) (l2 h).symm
  simp only [beq_eq_false_iff_ne, ne_eq] at h1
  conv => whnf
  refine ⟨fun h2 => ?_, fun h2 => ?_⟩
  · simp only [beq_iff_eq] at h2
    have e : rgood t s = ((s.length : Int) == 16) := by unfold rgood; rw [if_neg h1, if_pos h2, ← lenEq]; rfl
    obtain ⟨l1, l2⟩ := hlast _ e
    conv => whnf
    refine ⟨fun h => ?_, fun h => ?_⟩
    · conv => whnf
      exact congrArg (DV.int _) (l1 h).symm
    · conv => whnf
      exact congrArg (DV.int _) (l2 h).symm
  simp only [beq_eq_false_iff_ne, ne_eq] at h2
  conv => whnf
  refine ⟨fun h3 => ?_, fun h3 => ?_⟩
  · simp only [beq_iff_eq] at h3
    have e : rgood t s = textsOk s := by unfold rgood; rw [if_neg h1, if_neg h2, if_pos h3]
    obtain ⟨l1, l2⟩ := hlast _ e
    conv => whnf
    refine .one (.data _ (texts_ok s hle) rfl rfl ?_)
    conv => whnf
    refine ⟨fun h => ?_, fun h => ?_⟩
    · conv => whnf
      exact congrArg (DV.int _) (l1 h).symm
    · conv => whnf
      exact congrArg (DV.int _) (l2 h).symm
  simp only [beq_eq_false_iff_ne, ne_eq] at h3
  conv => whnf
  refine .one (.data _ (formOf_ok t) rfl ?_ ?_)
  · cases formOf t <;> rfl
  cases hf : formOf t with
  | none =>
    have e : rgood t s = true := by unfold rgood; rw [if_neg h1, if_neg h2, if_neg h3, hf]
    obtain ⟨l1, l2⟩ := hlast _ e
    conv => whnf
    refine brF (by simpa using h0) ?_
    conv => whnf
    exact congrArg (DV.int _) (l2 rfl).symm
  | some p =>
    obtain ⟨f1, f2, f3⟩ := formOf_le hf
    have e : rgood t s = (cutF p.1 p.2.1 p.2.2 s).isSome := by unfold rgood; rw [if_neg h1, if_neg h2, if_neg h3, hf]
    obtain ⟨l1, l2⟩ := hlast _ e
    conv => whnf
    refine .one (.data _ (cut_ok p.1 p.2.1 p.2.2 f1 f2 f3 s) rfl ?_ ?_)
    · cases cutF p.1 p.2.1 p.2.2 s <;> rfl
    cases hc : cutF p.1 p.2.1 p.2.2 s with
    | none =>
      rw [hc] at l1
      conv => whnf
      exact congrArg (DV.int _) (l1 rfl).symm
    | some q =>
      rw [hc] at l2
      conv => whnf
      exact congrArg (DV.int _) (l2 rfl).symm
end Go.Proofs.Ytdphkaiijlekhaa
namespace Go.Proofs.Ytdphkaiijlekhaa
open Go Go.Eng
theorem rd_slice {w : World} {M : Nat → Prop} {b : Bool} {n sz : Nat} {f : Nat → List DV} {v : Value} (h : Rd w M (.sl b n sz f) v) : (n = 0 ∧ v = .slice none 0 0) ∨ ∃ (ad : Addr) (cap : Nat) (u : Nat → Nat → Value), v = .slice (some ad) n cap ∧ n ≤ cap ∧
    (0 < n → ad.block < w.heap.size ∧ ¬ M ad.block) ∧ (∀ (i j : Nat) (d : DV), i < n → (f i)[j]? = some d → w.cell? (ad.add (i * sz + j)) = some (u i j)) ∧ (∀ (i j : Nat) (d : DV), i < n → (f i)[j]? = some d → Rd w M d (u i j)) := by
  cases h with
  | nil => exact .inl ⟨rfl, rfl⟩
  | sl _ _ _ ad cap u g1 g3 g4 g5 g6 => exact .inr ⟨ad, cap, u, rfl, g1, g3, g5, g6⟩
/-- strings.Join of texts. -/
theorem join_ok (b : Bool) (l : List (List UInt8)) (sep : List UInt8) (hn : l.length ≤ 140737488355328) (hj : (Lib.join l sep).length ≤ 140737488355328) : FnOk Try.prog 125 [.d (.sl b l.length 1 (strs l)), .d (.str sep)] (.d (.str (Lib.join l sep))) := by
  refine ⟨enters Try.func125 (by kernel_rfl) rfl, fun M w vs hM hl hd => ?_⟩
  match vs, hl with
  | [v0, v1], _ =>
    have h0 := den_data (hd 0 _ v0 rfl rfl)
    have h1 := den_str (hd 1 _ v1 rfl rfl)
    subst h1
    rcases rd_slice h0 with ⟨hl0, rfl⟩ | ⟨ad, cap, u, rfl, g1, g3, g5, g6⟩
    · have : l = [] := List.eq_nil_of_length_eq_zero hl0
      subst this
      refine (Try.strings_Join_none none 0 ⟨sep.toArray⟩ w).mono ?_
      rintro e w' ⟨rfl, rfl⟩
      exact ⟨_, rfl, Step.refl _ _, .d (.str _)⟩
    · by_cases hz : l = []
      · subst hz
        refine (Try.strings_Join_none (some ad) cap ⟨sep.toArray⟩ w).mono ?_
        rintro e w' ⟨rfl, rfl⟩
        exact ⟨_, rfl, Step.refl _ _, .d (.str _)⟩
      · have hpos : 0 < l.length := List.length_pos_iff.2 hz
        obtain ⟨hb, _⟩ := g3 hpos
        have hu : ∀ i, i < l.length → u i 0 = strV (l[i]?.getD []) := fun i hi => by
          have := g6 i 0 (.str (l[i]?.getD [])) hi rfl
          exact den_str (β := noE) (.d this)
        have hc0 := g5 0 0 (.str (l[0]?.getD [])) hpos rfl
        have hspot : ad.spot = none := by
          rw [show ad.add (0 * 1 + 0) = ad from rfl] at hc0
          unfold World.cell? at hc0
          split at hc0
          · cases hs : ad.spot with
            | none => rfl
            | some _ => simp [hs] at hc0
          · cases hc0
        obtain ⟨bk, o, sp⟩ := ad
        simp only at hspot hb
        subst hspot
        have := Try.strings_Join bk o cap (l.map fun x => ⟨x.toArray⟩) ⟨sep.toArray⟩ w (fun j x hx => by
          rw [List.getElem?_map, Option.map_eq_some_iff] at hx
          obtain ⟨y, hy, rfl⟩ := hx
          have hj : j < l.length := (List.getElem?_eq_some_iff.1 hy).1
          have h5 := g5 j 0 (.str (l[j]?.getD [])) hj rfl
          rw [hu j hj, add_lit0, hy] at h5
          simpa [strV] using h5) hb (by simpa using hn) (by simpa using g1) (by
            simp only [List.map_map, Function.comp_def, List.toList_toArray, List.map_id']
            exact hj)
        simp only [List.length_map, List.map_map, Function.comp_def, List.toList_toArray, List.map_id'] at this
        refine this.mono ?_
        rintro e w' ⟨rfl, hw⟩
        exact ⟨_, rfl, Step.of_below _ hw, .d (.str _)⟩
end Go.Proofs.Ytdphkaiijlekhaa
namespace Go.Proofs.Ytdphkaiijlekhaa
open Go Go.Eng

/-- Right data of a form, in their parts. -/
def lookF (t : Int) (s : List UInt8) : Option ((Nat × Nat × Nat) × (List UInt8 × List (List UInt8) × List UInt8)) :=
  if s.length ≤ 4096 then (formOf t).bind fun p => (cutF p.1 p.2.1 p.2.2 s).map fun q => (p, q) else none
def lookR : Option ((Nat × Nat × Nat) × (List UInt8 × List (List UInt8) × List UInt8)) → SV
  | none => .tup [.agg [.any, .any, .any], noParts, .d .ff]
  | some (p, x, l, r) => .tup [formV p, partsV x l r, .d .tt]
set_option maxRecDepth 100000
set_option maxHeartbeats 4000000 in
theorem look_ok (t : Int) (s : List UInt8) : FnOk Try.prog 124 [.d (.int .u16 t), .d (.str s)] (lookR (lookF t s)) := by
  refine fnOk_of_run (TT := TT) (IN := lookI []) TT_ok INok_nil mixed 1000 Try.func124 rfl (enters Try.func124 (by kernel_rfl) rfl) rfl 32 (by kernel_rfl) ?_
  conv => whnf
  refine .one (.data _ (formOf_ok t) rfl ?_ ?_)
  · cases formOf t <;> rfl
  cases hf : formOf t with
  | none =>
    have e : lookF t s = none := by unfold lookF; rw [hf]; split <;> rfl
    rw [e]
    conv => whnf
    repeat' (first | exact True.intro | exact rfl | exact Or.inl rfl | exact Or.inr rfl | exact fun _ _ => rfl | refine And.intro ?_ ?_)
  | some p =>
    obtain ⟨f1, f2, f3⟩ := formOf_le hf
    conv => whnf
    refine ⟨fun hgt => ?_, fun hle => ?_⟩
    · have e : lookF t s = none := by unfold lookF; rw [if_neg (by simp at hgt; omega)]
      rw [e]
      conv => whnf
      repeat' (first | exact True.intro | exact rfl | exact Or.inl rfl | exact Or.inr rfl | exact fun _ _ => rfl | refine And.intro ?_ ?_)
    · have e : lookF t s = (cutF p.1 p.2.1 p.2.2 s).map fun q => (p, q) := by unfold lookF; rw [if_pos (by simp at hle; omega), hf]; rfl
      rw [e]
      conv => whnf
      refine .one (.data _ (cut_ok p.1 p.2.1 p.2.2 f1 f2 f3 s) rfl ?_ ?_)
      · cases cutF p.1 p.2.1 p.2.2 s <;> rfl
      cases hc : cutF p.1 p.2.1 p.2.2 s with
      | none =>
        conv => whnf
        (apply Exists.intro; apply Exists.intro; apply And.intro; focus ((conv => whnf); repeat' (first | exact True.intro | exact rfl | apply And.intro)))
        conv => whnf
        repeat' (first | exact True.intro | exact rfl | exact Or.inl rfl | exact Or.inr rfl | exact fun _ _ => rfl | refine And.intro ?_ ?_)
      | some q =>
        conv => whnf
        (apply Exists.intro; apply Exists.intro; apply And.intro; focus ((conv => whnf); repeat' (first | exact True.intro | exact rfl | apply And.intro)))
        conv => whnf
        repeat' (first | exact True.intro | exact rfl | exact Or.inl rfl | exact Or.inr rfl | exact fun _ _ => rfl | refine And.intro ?_ ?_)

/-- Data, their names with small letters. -/
def rfold (t : Int) (s : List UInt8) : List UInt8 := match lookF t s with
  | none => s
  | some (_, x, l, r) => x ++ fold (Lib.join l []) ++ r
theorem join_nil (l : List (List UInt8)) : Lib.join l [] = l.flatten := by
  induction l with
  | nil => rfl
  | cons a l ih => cases l with
    | nil => simp [Lib.join]
    | cons b l => simp [Lib.join] at ih ⊢; rw [ih]
theorem namesF_len : ∀ (n : Nat) (s : List UInt8) (l : List (List UInt8)) (r : List UInt8), namesF n s = some (l, r) → l.length = n ∧ l.flatten.length + r.length = s.length := by
  intro n
  induction n with
  | zero => intro s l r h; simp only [namesF, Option.some.injEq, Prod.mk.injEq] at h; obtain ⟨rfl, rfl⟩ := h; simp
  | succ n ih =>
    intro s l r h
    simp only [namesF] at h
    split at h
    · cases h
    · cases hn : namesF n (s.drop (firstN s)) with
      | none => rw [hn] at h; cases h
      | some p =>
        rw [hn] at h
        simp only [Option.map_some, Option.some.injEq, Prod.mk.injEq] at h
        obtain ⟨rfl, rfl⟩ := h
        obtain ⟨h1, h2⟩ := ih _ p.1 p.2 hn
        have := firstN_le s
        refine ⟨by simp [h1], ?_⟩
        simp only [List.flatten_cons, List.length_append, List.length_take, List.length_drop] at h2 ⊢
        omega
theorem lookF_len {t : Int} {s : List UInt8} {p : Nat × Nat × Nat} {x : List UInt8} {l : List (List UInt8)} {r : List UInt8} (h : lookF t s = some (p, x, l, r)) : s.length ≤ 4096 ∧ l.length ≤ 100 ∧ x.length + l.flatten.length + r.length = s.length := by
  unfold lookF at h
  split at h
  · rename_i hs
    cases hf : formOf t with
    | none => rw [hf] at h; cases h
    | some q =>
      rw [hf] at h
      simp only [Option.bind_some] at h
      cases hc : cutF q.1 q.2.1 q.2.2 s with
      | none => rw [hc] at h; cases h
      | some c =>
        rw [hc] at h
        simp only [Option.map_some, Option.some.injEq, Prod.mk.injEq] at h
        obtain ⟨rfl, rfl⟩ := h
        unfold cutF at hc
        split at hc
        · cases hc
        · cases hn : namesF q.2.1 (s.drop (2 * q.1)) with
          | none => rw [hn] at hc; cases hc
          | some y =>
            rw [hn] at hc
            simp only [Option.bind_some] at hc
            split at hc
            · simp only [Option.some.injEq, Prod.mk.injEq] at hc
              obtain ⟨rfl, rfl, rfl⟩ := hc
              obtain ⟨h1, h2⟩ := namesF_len _ _ y.1 y.2 hn
              have := (formOf_le hf).2.1
              refine ⟨hs, by omega, ?_⟩
              simp only [List.length_take, List.length_drop] at h2 ⊢
              omega
            · cases hc
  · cases h
set_option maxHeartbeats 4000000 in
theorem rfold_ok (t : Int) (s : List UInt8) : FnOk Try.prog 70 [.d (.int .u16 t), .d (.str s)] (.d (.str (rfold t s))) := by
  refine fnOk_of_run (TT := TT) (IN := lookI []) TT_ok INok_nil mixed 1000 Try.func70 rfl (enters Try.func70 (by kernel_rfl) rfl) rfl 26 (by kernel_rfl) ?_
  conv => whnf
  refine .one (.data _ (look_ok t s) rfl ?_ ?_)
  · cases lookF t s <;> rfl
  cases hf : lookF t s with
  | none =>
    have e : rfold t s = s := by unfold rfold; rw [hf]
    rw [e]
    conv => whnf
  | some p =>
    obtain ⟨p, x, l, r⟩ := p
    obtain ⟨h1, h2, h3⟩ := lookF_len hf
    have e : rfold t s = x ++ fold (Lib.join l []) ++ r := by unfold rfold; rw [hf]
    rw [e]
    conv => whnf
    refine .data _ (join_ok _ l [] (by omega) (by rw [join_nil]; omega)) rfl rfl ?_
    conv => whnf
    refine .data _ (fold_ok _ (by rw [join_nil]; omega)) rfl rfl ?_
    have hfl : (fold (Lib.join l [])).length = l.flatten.length := by rw [join_nil]; simp only [fold, List.length_map]
    conv => whnf
    refine ⟨by omega, ?_⟩
    conv => whnf
    refine ⟨by simp only [List.length_append]; omega, ?_⟩
    conv => whnf

/-- Are data right for a type, and rising? last: those ahead. -/
def rising (t : Int) : Bool → List UInt8 → List (List UInt8) → Bool
  | _, _, [] => true
  | b, last, d :: l => rcheck t d && !(b && (Op.bytesLess (rfold t d) last || rfold t d == last)) && rising t true (rfold t d) l
/-- Is a set right? -/
def scheck (name : List UInt8) (t ttl : Int) (l : List (List UInt8)) : Bool :=
  isName name && decide (ttl ≤ 2147483647) && decide (0 < l.length ∧ l.length ≤ 64) && rising t false [] l
def setV (name : List UInt8) (t ttl : Int) (b : Bool) (l : List (List UInt8)) : SV := .agg [.d (.str name), .d (.int .u16 t), .d (.int .u32 ttl), .d (.sl b l.length 1 (strs l))]
set_option maxHeartbeats 4000000 in
theorem scheck_ok (name : List UInt8) (t ttl : Int) (b : Bool) (l : List (List UInt8)) : FnOk Try.prog 28 [setV name t ttl b l] (.d (.int .i64 (errno (scheck name t ttl l)))) := by
  refine fnOk_of_run (TT := TT) (IN := lookI []) TT_ok INok_nil mixed 1000 Try.func28 rfl (enters Try.func28 (by kernel_rfl) rfl) rfl 51 (by kernel_rfl) ?_
  have bad : scheck name t ttl l = false → errno (scheck name t ttl l) = 2 := fun h => by rw [h]; rfl
  conv => whnf
  refine .one (.data _ (check_ok _) rfl rfl ?_)
  by_cases hn : isName name
  · rw [if_pos hn]
    conv => whnf
    refine brF (by decide) ?_
    conv => whnf
    refine ⟨fun hgt => ?_, fun hle => ?_⟩
    · rw [bad (by simp only [scheck, Bool.and_eq_false_iff, decide_eq_false_iff_not]; simp at hgt; omega)]
      conv => whnf
    conv => whnf
    refine ⟨fun h0 => ?_, fun h0 => ?_⟩
    · rw [bad (by simp only [scheck, Bool.and_eq_false_iff, decide_eq_false_iff_not]; simp at h0; simp [h0])]
      conv => whnf
    conv => whnf
    refine ⟨fun h1 => ?_, fun h1 => ?_⟩
    · rw [bad (by simp only [scheck, Bool.and_eq_false_iff, decide_eq_false_iff_not]; simp at h1; omega)]
      conv => whnf
    have hl : 0 < l.length ∧ l.length ≤ 64 := by simp at h0 h1; exact ⟨by rw [List.length_pos_iff]; exact h0, by omega⟩
    have hsc : scheck name t ttl l = rising t false [] l := by
      unfold scheck
      rw [decide_eq_true hl]
      have : ttl ≤ 2147483647 := by simpa using hle
      simp [hn, this]
    rw [hsc]
    conv => whnf
    refine .inv (Nat × List UInt8) (fun p => p.1 ≤ l.length ∧ rising t (decide (0 < p.1)) p.2 (l.drop p.1) = rising t false [] l) (fun p => [(3, .d (.str p.2)), (29, .d (.int .i64 p.1))]) (fun p => []) (fun p => l.length - p.1) ⟨(0, []), [0], ⟨by omega, rfl⟩, ?_⟩ ?_
    · conv => whnf
      repeat' (first | exact True.intro | exact rfl | refine And.intro ?_ ?_)
    intro p hp
    obtain ⟨hp1, hp2⟩ := hp
    conv => whnf
    refine ⟨fun hlt => ?_, fun hge => ?_⟩
    · have hi : p.1 < l.length := by simpa using hlt
      have hd : l.drop p.1 = l[p.1] :: l.drop (p.1 + 1) := List.drop_eq_getElem_cons hi
      rw [hd] at hp2
      simp only [rising] at hp2
      conv => whnf
      refine ⟨by omega, ?_⟩
      conv => whnf
      have hel : l[((p.1 : Nat) : Int).toNat]?.getD [] = l[p.1] := by simp [hi]
      rw [hel]
      generalize hdd : l[p.1] = d at hp2 ⊢
      refine .one (.data _ (rcheck_ok t d) rfl rfl ?_)
      cases hr : rcheck t d with
      | false =>
        rw [hr, Bool.false_and, Bool.false_and] at hp2
        rw [show rising t false [] l = false from hp2.symm]
        conv => whnf
        refine brT (by decide) ?_
        conv => whnf
        exact rfl
      | true =>
        rw [hr, Bool.true_and] at hp2
        conv => whnf
        refine brF (by decide) ?_
        conv => whnf
        refine .one (.data _ (rfold_ok t d) rfl rfl ?_)
        conv => whnf
        have fin : ∀ z : Bool, ((decide (0 < p.1) && (Op.bytesLess (rfold t d) p.2 || rfold t d == p.2)) = z) → z = false → rising t true (rfold t d) (l.drop (p.1 + 1)) = rising t false [] l := fun z h1 h2 => by rw [h2] at h1; rw [h1] at hp2; simpa using hp2
        have hw : IntKind.i64.wrap ((p.1 : Int) + 1) = ((p.1 + 1 : Nat) : Int) := by rw [w64_in _ (by omega)]; omega
        refine ⟨fun hg => ?_, fun hg => ?_⟩
        · have hg' : 0 < p.1 := by simp at hg; omega
          conv => whnf
          refine ⟨fun hle => ?_, fun hle => ?_⟩
          · have : (Op.bytesLess (rfold t d) p.2 || rfold t d == p.2) = true := hle
            rw [this] at hp2
            rw [decide_eq_true hg'] at hp2
            rw [show rising t false [] l = false from hp2.symm]
            conv => whnf
            exact rfl
          · conv => whnf
            refine ⟨(p.1 + 1, rfold t d), [0], ⟨hi, ?_⟩, by show l.length - (p.1 + 1) < l.length - p.1; omega, ?_⟩
            · rw [decide_eq_true (Nat.succ_pos _)]
              exact fin _ rfl (by rw [show (Op.bytesLess (rfold t d) p.2 || rfold t d == p.2) = false from hle, Bool.and_false])
            conv => whnf
            repeat' (first | exact True.intro | exact rfl | refine And.intro ?_ ?_)
            all_goals exact congrArg SV.d (congrArg (DV.int _) hw)
        · have hg' : p.1 = 0 := by simp at hg; omega
          conv => whnf
          refine ⟨(p.1 + 1, rfold t d), [0], ⟨hi, ?_⟩, by show l.length - (p.1 + 1) < l.length - p.1; omega, ?_⟩
          · rw [decide_eq_true (Nat.succ_pos _)]
            exact fin _ rfl (by rw [hg']; rfl)
          conv => whnf
          repeat' (first | exact True.intro | exact rfl | refine And.intro ?_ ?_)
          all_goals exact congrArg SV.d (congrArg (DV.int _) hw)
    · have hi : p.1 = l.length := by simp at hge; omega
      rw [hi, List.drop_length] at hp2
      rw [← hp2]
      conv => whnf
      exact congrArg (DV.int _) rfl
  · rw [if_neg hn]
    rw [bad (by simp [scheck, hn])]
    conv => whnf
    refine brT (by decide) ?_
    conv => whnf
end Go.Proofs.Ytdphkaiijlekhaa
namespace Go.Proofs.Ytdphkaiijlekhaa
open Go Go.Eng
/-- A record. -/
structure RR where
  nm : List UInt8
  ty : Int
  cl : Int
  ttl : Int
  d : List UInt8
deriving Inhabited
def RR.enc (r : RR) : List DV := [.str r.nm, .int .u16 r.ty, .int .u16 r.cl, .int .u32 r.ttl, .str r.d]
def RR.V (r : RR) : SV := .agg [.d (.str r.nm), .d (.int .u16 r.ty), .d (.int .u16 r.cl), .d (.int .u32 r.ttl), .d (.str r.d)]
def RR.check (r : RR) : Bool := decide (isName r.nm) && rcheck r.ty r.d && (decide (r.ttl ≤ 2147483647) || r.ty == 41)
set_option maxRecDepth 100000
set_option maxHeartbeats 4000000 in
theorem reccheck_ok (r : RR) : FnOk Try.prog 31 [r.V] (.d (.int .i64 (errno r.check))) := by
  refine fnOk_of_run (TT := TT) (IN := lookI []) TT_ok INok_nil mixed 1000 Try.func31 rfl (enters Try.func31 (by kernel_rfl) rfl) rfl 22 (by kernel_rfl) ?_
  conv => whnf
  refine .one (.data _ (check_ok r.nm) rfl rfl ?_)
  by_cases hn : isName r.nm
  · rw [if_pos hn]
    conv => whnf
    refine brF rfl ?_
    conv => whnf
    refine .one (.data _ (rcheck_ok r.ty r.d) rfl rfl ?_)
    cases hc : rcheck r.ty r.d
    · have e : r.check = false := by simp [RR.check, hc]
      rw [e]
      conv => whnf
      refine brT rfl ?_
      conv => whnf
      exact rfl
    · conv => whnf
      refine brF rfl ?_
      conv => whnf
      refine ⟨fun c1 => ?_, fun c1 => ?_⟩
      · have c1' : ¬ r.ttl ≤ 2147483647 := by have : r.ttl > 2147483647 := of_decide_eq_true c1
                                              omega
        conv => whnf
        refine ⟨fun c2 => ?_, fun c2 => ?_⟩
        · have e : r.check = false := by
            have : ¬ r.ty = 41 := by simpa using c2
            simp [RR.check, c1', this]
          rw [e]
          conv => whnf
          exact rfl
        · have e : r.check = true := by
            have : r.ty = 41 := by simpa using c2
            simp only [RR.check, hn, hc, decide_true, Bool.true_and, Bool.or_eq_true, beq_iff_eq]
            exact .inr this
          rw [e]
          conv => whnf
          exact rfl
      · have c1' : r.ttl ≤ 2147483647 := by have : ¬ r.ttl > 2147483647 := of_decide_eq_false c1
                                            omega
        have e : r.check = true := by simp [RR.check, hn, hc, c1']
        rw [e]
        conv => whnf
        exact rfl
  · rw [if_neg hn]
    have e : r.check = false := by simp [RR.check, hn]
    rw [e]
    conv => whnf
    refine brT rfl ?_
    conv => whnf
    exact rfl
def rrsD (z : Bool) (l : List RR) : DV := .sl z l.length 5 (fun i => (l.getD i default).enc)
theorem rr_cat (l : List RR) (q : RR) (j : Nat) (hj : j < l.length + 1) : catF l.length (fun j => (l.getD j default).enc) (chunk q.enc 5) j = ((l ++ [q]).getD j default).enc := by
  unfold catF
  split
  · rename_i h
    show (l.getD j default).enc = _
    rw [List.getD, List.getD, List.getElem?_append_left h]
  · rename_i h
    have : j = l.length := by omega
    subst this
    rw [Nat.sub_self, List.getD, List.getElem?_append_right (Nat.le_refl _), Nat.sub_self]
    rfl
structure RR.Ok (r : RR) : Prop where
  ty : 0 ≤ r.ty ∧ r.ty ≤ 65535
  cl : 0 ≤ r.cl ∧ r.cl ≤ 65535
  ttl : 0 ≤ r.ttl ∧ r.ttl ≤ 4294967295
def smallR (r : RR) : Bool := decide (r.d.length ≤ 5000) && decide (r.nm.length ≤ 1000)
end Go.Proofs.Ytdphkaiijlekhaa
namespace Go.Proofs.Ytdphkaiijlekhaa
open Go Go.Eng
def labs : List (List UInt8) → List UInt8
  | [] => []
  | l :: ls => lab l ++ labs ls
theorem labs_append (a b : List (List UInt8)) : labs (a ++ b) = labs a ++ labs b := by
  induction a with
  | nil => rfl
  | cons l a ih => simp [labs, ih]
theorem labs_mk (a : List (List UInt8)) : labs a ++ [0] = mk a := by
  induction a with
  | nil => rfl
  | cons l a ih => simp [labs, mk, ← ih]
theorem labs_no (a : List (List UInt8)) (ha : ∀ l ∈ a, okL l) : ∀ b, (∀ l ∈ b, okL l) → labs a ≠ mk b := by
  induction a with
  | nil =>
    intro b _ h
    have := mk_pos b
    rw [← h] at this
    simp [labs] at this
  | cons l a ih =>
    intro b hb h
    have hl := ha l (List.mem_cons_self ..)
    have h1 : bt (labs (l :: a)) 0 = l.length := bt_lab l (labs a) hl
    cases b with
    | nil =>
      rw [h] at h1
      have h2 := hl.1
      have : (0 : Nat) = l.length := h1
      omega
    | cons k b =>
      have hk := hb k (List.mem_cons_self ..)
      have h2 : bt (mk (k :: b)) 0 = k.length := bt_lab k (mk b) hk
      rw [h] at h1
      have hlen : l.length = k.length := by rw [← h1, h2]
      have := congrArg (List.drop (1 + l.length)) h
      rw [show labs (l :: a) = lab l ++ labs a from rfl, drop_lab, hlen, show mk (k :: b) = lab k ++ mk b from rfl, drop_lab] at this
      exact ih (fun x hx => ha x (List.mem_cons_of_mem _ hx)) b (fun x hx => hb x (List.mem_cons_of_mem _ hx)) this
theorem labs_notName (a : List (List UInt8)) (ha : ∀ l ∈ a, okL l) : ¬ isName (labs a) := fun h => by
  obtain ⟨_, ls, h1, h2⟩ := (isName_iff _).1 h
  exact labs_no a ha ls h1 h2
theorem labs_snoc (ls : List (List UInt8)) (l : List UInt8) : labs (ls ++ [l]) = labs ls ++ lab l := by
  rw [labs_append]
  simp [labs]
theorem firstF_name (s : List UInt8) : ∀ m k, firstF s m k ≠ 0 → isName (s.take (firstF s m k)) := by
  intro m
  induction m with
  | zero => intro k h; exact absurd rfl h
  | succ m ih =>
    intro k h
    simp only [firstF] at h ⊢
    split at h
    · rename_i h1
      rw [if_pos h1]
      split at h
      · rename_i h2
        rw [if_pos h2]
        split at h
        · rename_i h3
          rw [if_pos h3]
          exact h3
        · exact absurd rfl h
      · rename_i h2
        rw [if_neg h2]
        exact ih _ h
    · exact absurd rfl h
end Go.Proofs.Ytdphkaiijlekhaa
