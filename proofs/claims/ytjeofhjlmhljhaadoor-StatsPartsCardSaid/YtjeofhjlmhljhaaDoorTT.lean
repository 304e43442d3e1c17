/-
  The table of types of this seat, as the engine reads it; checked against the program by one closed fact. Written by mktt.py.
-/
import Derived.Test.YtjeofhjlmhljhaaDoorRows
import Derived.Test.YtjeofhjlmhljhaaDoorEg26
import Derived.KernelRfl
namespace Go.Proofs.YtjeofhjlmhljhaaDoor
open Go Go.Eng
def types : List (Nat × TI) := [
  (2, ⟨1, 8, false, [.d (.int .i64 0)], .int .i64, []⟩),
  (3, ⟨1, 8, false, [.d (.int .i64 0)], .int .i64, []⟩),
  (4, ⟨1, 1, false, [.d .ff], .bool, []⟩),
  (5, ⟨1, 1, false, [.d (.int .u8 0)], .int .u8, []⟩),
  (6, ⟨1, 1, false, [.d (.int .u8 0)], .int .u8, []⟩),
  (7, ⟨4, 24, true, [.d (.int .i64 0), .d (.int .i64 0), .d .ff, .d (.int .u8 0)], .struct [(0, 2), (1, 3), (2, 4), (3, 6)], [.int .i64, .int .i64, .bool, .int .u8]⟩),
  (9, ⟨1, 16, false, [.d (.str [])], .str, []⟩),
  (17, ⟨1, 8, false, [.v (.pointer none)], .ptr 78, []⟩),
  (18, ⟨1, 8, true, [.v (.pointer none)], .struct [(0, 17)], []⟩),
  (19, ⟨1, 8, true, [.v (.pointer none)], .struct [(0, 17)], []⟩),
  (21, ⟨1, 4, false, [.d (.int .i32 0)], .int .i32, []⟩),
  (22, ⟨1, 24, false, [nilS], .slice 40, []⟩),
  (23, ⟨1, 2, false, [.d (.int .u16 0)], .int .u16, []⟩),
  (25, ⟨5, 40, true, [.d (.int .i64 0), .d (.int .i64 0), .d (.int .i64 0), .d (.int .i64 0), .d (.int .i64 0)], .array 5 3, [.int .i64, .int .i64, .int .i64, .int .i64, .int .i64]⟩),
  (26, ⟨11, 88, true, [.d (.int .i64 0), .d (.int .i64 0), .d (.int .i64 0), .d (.int .i64 0), .d (.int .i64 0), .d (.int .i64 0), .d (.int .i64 0), .d (.int .i64 0), .d (.int .i64 0), .d (.int .i64 0), .d (.int .i64 0)], .struct [(0, 3), (1, 3), (2, 3), (3, 3), (4, 25), (9, 3), (10, 2)], [.int .i64, .int .i64, .int .i64, .int .i64, .int .i64, .int .i64, .int .i64, .int .i64, .int .i64, .int .i64, .int .i64]⟩),
  (27, ⟨11, 88, true, [.d (.int .i64 0), .d (.int .i64 0), .d (.int .i64 0), .d (.int .i64 0), .d (.int .i64 0), .d (.int .i64 0), .d (.int .i64 0), .d (.int .i64 0), .d (.int .i64 0), .d (.int .i64 0), .d (.int .i64 0)], .struct [(0, 3), (1, 3), (2, 3), (3, 3), (4, 25), (9, 3), (10, 2)], [.int .i64, .int .i64, .int .i64, .int .i64, .int .i64, .int .i64, .int .i64, .int .i64, .int .i64, .int .i64, .int .i64]⟩),
  (31, ⟨1, 24, false, [nilS], .slice 9, []⟩),
  (32, ⟨1, 2, false, [.d (.int .u16 0)], .int .u16, []⟩),
  (33, ⟨1, 4, false, [.d (.int .u32 0)], .int .u32, []⟩),
  (34, ⟨4, 48, true, [.d (.str []), .d (.int .u16 0), .d (.int .u32 0), nilS], .struct [(0, 9), (1, 32), (2, 33), (3, 31)], []⟩),
  (35, ⟨4, 48, true, [.d (.str []), .d (.int .u16 0), .d (.int .u32 0), nilS], .struct [(0, 9), (1, 32), (2, 33), (3, 31)], []⟩),
  (36, ⟨1, 1, false, [.d (.int .u8 0)], .int .u8, []⟩),
  (37, ⟨7, 56, true, [.d (.str []), .d (.int .u16 0), .d (.int .u32 0), nilS, .d (.int .u8 0), .d .ff, .d .ff], .struct [(0, 35), (4, 36), (5, 4), (6, 4)], []⟩),
  (38, ⟨7, 56, true, [.d (.str []), .d (.int .u16 0), .d (.int .u32 0), nilS, .d (.int .u8 0), .d .ff, .d .ff], .struct [(0, 35), (4, 36), (5, 4), (6, 4)], []⟩),
  (39, ⟨8, 64, true, [.d (.str []), .d (.int .u16 0), .d (.int .u32 0), nilS, .d (.int .u8 0), .d .ff, .d .ff, .d (.int .i64 0)], .struct [(0, 38), (7, 2)], []⟩),
  (40, ⟨8, 64, true, [.d (.str []), .d (.int .u16 0), .d (.int .u32 0), nilS, .d (.int .u8 0), .d .ff, .d .ff, .d (.int .i64 0)], .struct [(0, 38), (7, 2)], []⟩),
  (42, ⟨1, 24, false, [nilS], .slice 5, []⟩),
  (43, ⟨1, 24, false, [nilS], .slice 2, []⟩),
  (46, ⟨1, 8, false, [.d (.int .u64 0)], .int .u64, []⟩),
  (49, ⟨24, 24, true, [.d (.int .u8 0), .d (.int .u8 0), .d (.int .u8 0), .d (.int .u8 0), .d (.int .u8 0), .d (.int .u8 0), .d (.int .u8 0), .d (.int .u8 0), .d (.int .u8 0), .d (.int .u8 0), .d (.int .u8 0), .d (.int .u8 0), .d (.int .u8 0), .d (.int .u8 0), .d (.int .u8 0), .d (.int .u8 0), .d (.int .u8 0), .d (.int .u8 0), .d (.int .u8 0), .d (.int .u8 0), .d (.int .u8 0), .d (.int .u8 0), .d (.int .u8 0), .d (.int .u8 0)], .array 24 5, [.int .u8, .int .u8, .int .u8, .int .u8, .int .u8, .int .u8, .int .u8, .int .u8, .int .u8, .int .u8, .int .u8, .int .u8, .int .u8, .int .u8, .int .u8, .int .u8, .int .u8, .int .u8, .int .u8, .int .u8, .int .u8, .int .u8, .int .u8, .int .u8]⟩),
  (56, ⟨20, 160, true, [.d (.int .u64 0), .d (.int .u64 0), .d (.int .u64 0), .d (.int .u64 0), .d (.int .u64 0), .d (.int .u64 0), .d (.int .u64 0), .d (.int .u64 0), .d (.int .u64 0), .d (.int .u64 0), .d (.int .u64 0), .d (.int .u64 0), .d (.int .u64 0), .d (.int .u64 0), .d (.int .u64 0), .d (.int .u64 0), .d (.int .u64 0), .d (.int .u64 0), .d (.int .u64 0), .d (.int .u64 0)], .array 20 46, [.int .u64, .int .u64, .int .u64, .int .u64, .int .u64, .int .u64, .int .u64, .int .u64, .int .u64, .int .u64, .int .u64, .int .u64, .int .u64, .int .u64, .int .u64, .int .u64, .int .u64, .int .u64, .int .u64, .int .u64]⟩),
  (59, ⟨1, 8, false, [.d (.int .u64 0)], .int .u64, []⟩),
  (65, ⟨4, 40, true, [.v (.pointer none), .v (.pointer none), .v (.pointer none), .d (.str [])], .struct [(0, 17), (1, 17), (2, 17), (3, 9)], []⟩),
  (71, ⟨1, 1, false, [.d (.int .u8 0)], .int .u8, []⟩),
  (72, ⟨1, 1, false, [.d (.int .u8 0)], .int .u8, []⟩),
  (74, ⟨1, 8, false, [.v (.pointer none)], .ptr 5, []⟩),
  (75, ⟨1, 4, false, [.d (.int .i32 0)], .int .i32, []⟩),
  (76, ⟨1, 4, false, [.d (.int .i32 0)], .int .i32, []⟩),
  (78, ⟨11, 48, true, [.d (.int .u64 0), .d (.int .u64 0), .d (.int .u32 0), .d (.int .u8 0), .d (.int .u8 0), .d (.int .u8 0), .d (.int .u8 0), .v .nilFunc, .v (.pointer none), .d (.int .i32 0), .d (.int .i32 0)], .struct [(0, 12), (1, 12), (2, 33), (3, 71), (4, 5), (5, 5), (6, 72), (7, 73), (8, 74), (9, 75), (10, 76)], []⟩),
  (79, ⟨1, 8, false, [.v (.pointer none)], .other, []⟩)]
def TT (n : Nat) : Option TI := Eng.look types n
set_option maxRecDepth 100000 in
theorem TT_ok : TTok Tryd.prog TT := TTok_of_check (P := Tryd.prog) (l := types) (by kernel_rfl)
theorem mixed : Tryd.prog.follows .mixedOrders = true := by kernel_rfl
end Go.Proofs.YtjeofhjlmhljhaaDoor
