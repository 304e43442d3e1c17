/-
  What stats.Of counts, in plain Lean. No conditions.
-/
import Derived.Test.YtjeofhjlmhljhaaDoorTT
namespace Go.Proofs.YtjeofhjlmhljhaaDoor
open Go Go.Eng

structure Held where
  name : List UInt8
  ty : Int
  ttl : Int
  nil : Bool
  n : Nat
  sz : Nat
  f : Nat → List DV
  rank : Int
  no : Bool
  nm : Bool
  till : Int
instance : Inhabited Held := ⟨⟨[], 0, 0, true, 0, 0, fun _ => [], 0, false, false, 0⟩⟩

def Held.enc (h : Held) : List DV := [.str h.name, .int .u16 h.ty, .int .u32 h.ttl, DV.sl h.nil h.n h.sz h.f, .int .u8 h.rank, .bool h.no, .bool h.nm, .int .i64 h.till]
def heldsD (nil : Bool) (l : List Held) : DV := .sl nil l.length 8 (fun i => (l.getD i default).enc)

structure Stats where
  sets : Int
  data : Int
  none : Int
  names : Int
  r0 : Int
  r1 : Int
  r2 : Int
  r3 : Int
  r4 : Int
  live : Int
  least : Int

def w64 (n : Int) : Int := IntKind.i64.wrap n
def ii (n : Int) : SV := .d (.int .i64 n)
def Stats.enc (s : Stats) : List SV := [ii s.sets, ii s.data, ii s.none, ii s.names, ii s.r0, ii s.r1, ii s.r2, ii s.r3, ii s.r4, ii s.live, ii s.least]

def Stats.zero : Stats := ⟨0, 0, 0, 0, 0, 0, 0, 0, 0, 0, 0⟩
def inc (b : Bool) (n : Int) : Int := if b then w64 (n + 1) else n
/-- One thing more. -/
def Stats.more (now : Int) (s : Stats) (h : Held) : Stats :=
  { sets := inc (!h.no) s.sets
    data := if h.no then s.data else w64 (s.data + h.n)
    none := inc h.no s.none
    names := inc (h.no && h.nm) s.names
    r0 := inc (decide (h.rank = 0)) s.r0
    r1 := inc (decide (h.rank = 1)) s.r1
    r2 := inc (decide (h.rank = 2)) s.r2
    r3 := inc (decide (h.rank = 3)) s.r3
    r4 := inc (decide (h.rank = 4)) s.r4
    live := inc (decide (now < h.till)) s.live
    least := if now < h.till then (if s.live = 0 ∨ h.till < s.least then h.till else s.least) else s.least }
def statsOf (now : Int) (l : List Held) : Stats := l.foldl (Stats.more now) Stats.zero


theorem statsOf_succ (now : Int) (l : List Held) (k : Nat) (hk : k < l.length) : statsOf now (l.take (k + 1)) = (statsOf now (l.take k)).more now (l.getD k default) := by
  unfold statsOf
  rw [List.take_succ_eq_append_getElem hk, List.foldl_append]
  simp [List.getD, hk]


theorem rk0 (r a b c d e : Int) : (if r = 0 then IntKind.i64.wrap (pickI [a, b, c, d, e] r + 1) else a) = inc (decide (r = 0)) a := by split <;> simp_all [inc, pickI, w64]
theorem rk1 (r a b c d e : Int) : (if r = 1 then IntKind.i64.wrap (pickI [a, b, c, d, e] r + 1) else b) = inc (decide (r = 1)) b := by split <;> simp_all [inc, pickI, w64]
theorem rk2 (r a b c d e : Int) : (if r = 2 then IntKind.i64.wrap (pickI [a, b, c, d, e] r + 1) else c) = inc (decide (r = 2)) c := by split <;> simp_all [inc, pickI, w64]
theorem rk3 (r a b c d e : Int) : (if r = 3 then IntKind.i64.wrap (pickI [a, b, c, d, e] r + 1) else d) = inc (decide (r = 3)) d := by split <;> simp_all [inc, pickI, w64]
theorem rk4 (r a b c d e : Int) : (if r = 4 then IntKind.i64.wrap (pickI [a, b, c, d, e] r + 1) else e) = inc (decide (r = 4)) e := by split <;> simp_all [inc, pickI, w64]
theorem wrap_in (n : Int) (h : -9223372036854775808 ≤ n ∧ n ≤ 9223372036854775807) : IntKind.i64.wrap n = n := by rw [IntKind.wrap_i64]; omega

end Go.Proofs.YtjeofhjlmhljhaaDoor
