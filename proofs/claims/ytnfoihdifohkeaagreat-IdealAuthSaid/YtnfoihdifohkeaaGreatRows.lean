/-
  No cell of these rows narrows 'for every input' (looked for: loops, veiled, ifaces, maps, wideKeys, modest, calm, conditions, laid).
  DERIVED. THE GIVEN ROWS OF THIS SEAT. 4 by the template 'for every input the law returns true; each argument reads behind the call as it read before'; 0 by the template 'total and deterministic' (their statements: YtnfoihdifohkeaaGreatTotals.lean).
  GIVEN WITH THE SEED: the statements are not yours to turn. If you find one false, say at which input.
  Laid BY PROGRAM, IN A SANDBOX (cutbox-rows.mjs): the forced cells as the released guide's own fill.sh prints them over the translation 1908dd5405a0b47b… (all of the seat's roots in one cut). By AI agents, Wed Nov 11 2026. No macro, syntax, notation, axiom, sorry.
-/
import Derived.Test.YtnfoihdifohkeaaGreatChecked
import GoSem.Claim
import GoSem.ClaimJoined
import GoSem.ClaimMapViews
import Derived.JoinedTies
import Derived.KernelRfl
namespace Go.Proofs.YtnfoihdifohkeaaGreat
/- THE CELL 'sum', in the pinned program and in every row, IS THE sha256 OF THE DUMP (.gsa) THAT YtnfoihdifohkeaaGreatProg.lean LOADS. Nothing in Lean hashes anything: it is a label: what it is worth is what the hold of that sum in a sandbox is worth. -/
noncomputable def Tryz.pinned : Pinned := { name := "ytnfoihdifohkeaagreat", sum := "1908dd5405a0b47b94e7d3ea58a8f4c774705a3352c35828e945c3b33693b75a", checked := Tryz.checked }
namespace Rows
def none {H : Type} : Left H := { results := [], args := [] }

/-- 'hardtacktop.TopBest': WHATEVER THE INPUT: true; the input reads as it did. -/
def topBestSpec : ChangeSpec := { name := "topBest", fn := fun _ => fun
  | [d1, d2] => { results := [.lit (.bool true)], args := [d1, d2] }
  | _ => none }
def topBestRow : OpenClaim := { program := "ytnfoihdifohkeaagreat", sum := "1908dd5405a0b47b94e7d3ea58a8f4c774705a3352c35828e945c3b33693b75a", func := "hardtack/hardtacktop.TopBest", spec := "topBest", inPlace := ["internal/abi.NoEscape", "internal/bytealg.MakeNoZero", "internal/bytealg.abigen_runtime_cmpstring"], unfollowed := true, recurses := true, plainKeys := false, apart := false }
def TopBestSaid : Prop := topBestRow.holds Tryz.pinned (OpenSpec.ofChange topBestSpec)

/-- ITS FALSE NEIGHBOUR: 'it returns false'. Refute it at one input. -/
def topBestWrong : ChangeSpec := { name := "topBest", fn := fun _ => fun
  | [d1, d2] => { results := [.lit (.bool false)], args := [d1, d2] }
  | _ => none }
def TopBestWrongFalsely : Prop := topBestRow.holds Tryz.pinned (OpenSpec.ofChange topBestWrong)

/-- 'hardtacktop.TopMinim': WHATEVER THE INPUT: true; the input reads as it did. -/
def topMinimSpec : ChangeSpec := { name := "topMinim", fn := fun _ => fun
  | [d1, d2] => { results := [.lit (.bool true)], args := [d1, d2] }
  | _ => none }
def topMinimRow : OpenClaim := { program := "ytnfoihdifohkeaagreat", sum := "1908dd5405a0b47b94e7d3ea58a8f4c774705a3352c35828e945c3b33693b75a", func := "hardtack/hardtacktop.TopMinim", spec := "topMinim", inPlace := ["internal/abi.NoEscape", "internal/bytealg.MakeNoZero", "internal/bytealg.abigen_runtime_cmpstring"], unfollowed := true, recurses := true, plainKeys := false, apart := false }
def TopMinimSaid : Prop := topMinimRow.holds Tryz.pinned (OpenSpec.ofChange topMinimSpec)

/-- ITS FALSE NEIGHBOUR: 'it returns false'. Refute it at one input. -/
def topMinimWrong : ChangeSpec := { name := "topMinim", fn := fun _ => fun
  | [d1, d2] => { results := [.lit (.bool false)], args := [d1, d2] }
  | _ => none }
def TopMinimWrongFalsely : Prop := topMinimRow.holds Tryz.pinned (OpenSpec.ofChange topMinimWrong)

/-- 'hardtacklaw24.IdealAuth': WHATEVER THE INPUT: true; the input reads as it did. -/
def idealAuthSpec : ChangeSpec := { name := "idealAuth", fn := fun _ => fun
  | [d1, d2] => { results := [.lit (.bool true)], args := [d1, d2] }
  | _ => none }
def idealAuthRow : OpenClaim := { program := "ytnfoihdifohkeaagreat", sum := "1908dd5405a0b47b94e7d3ea58a8f4c774705a3352c35828e945c3b33693b75a", func := "hardtack/hardtacklaw24.IdealAuth", spec := "idealAuth", inPlace := ["internal/abi.NoEscape", "internal/bytealg.MakeNoZero", "internal/bytealg.abigen_runtime_cmpstring"], unfollowed := true, recurses := true, plainKeys := false, apart := false }
def IdealAuthSaid : Prop := idealAuthRow.holds Tryz.pinned (OpenSpec.ofChange idealAuthSpec)

/-- ITS FALSE NEIGHBOUR: 'it returns false'. Refute it at one input. -/
def idealAuthWrong : ChangeSpec := { name := "idealAuth", fn := fun _ => fun
  | [d1, d2] => { results := [.lit (.bool false)], args := [d1, d2] }
  | _ => none }
def IdealAuthWrongFalsely : Prop := idealAuthRow.holds Tryz.pinned (OpenSpec.ofChange idealAuthWrong)

/-- 'hardtacktop.TopResolved': WHATEVER THE INPUT: true; the input reads as it did. -/
def topResolvedSpec : ChangeSpec := { name := "topResolved", fn := fun _ => fun
  | [d1, d2] => { results := [.lit (.bool true)], args := [d1, d2] }
  | _ => none }
def topResolvedRow : OpenClaim := { program := "ytnfoihdifohkeaagreat", sum := "1908dd5405a0b47b94e7d3ea58a8f4c774705a3352c35828e945c3b33693b75a", func := "hardtack/hardtacktop.TopResolved", spec := "topResolved", inPlace := ["internal/abi.NoEscape", "internal/bytealg.MakeNoZero", "internal/bytealg.abigen_runtime_cmpstring"], unfollowed := true, recurses := true, plainKeys := false, apart := false }
def TopResolvedSaid : Prop := topResolvedRow.holds Tryz.pinned (OpenSpec.ofChange topResolvedSpec)

/-- ITS FALSE NEIGHBOUR: 'it returns false'. Refute it at one input. -/
def topResolvedWrong : ChangeSpec := { name := "topResolved", fn := fun _ => fun
  | [d1, d2] => { results := [.lit (.bool false)], args := [d1, d2] }
  | _ => none }
def TopResolvedWrongFalsely : Prop := topResolvedRow.holds Tryz.pinned (OpenSpec.ofChange topResolvedWrong)

/- THE SECOND FORM. 'bulk': how many values and letters a reading holds, each counted each time it is reached (what is shared counts as often as it is met; a slice's spare places count too). A statement '..UptoSaid' is the law's where the arguments, and the package variables that the reading takes, are together of bulk at most 1048576: NARROWER than '..Said'. Prove '..Said' where nothing that the law and all that it calls make is longer than what came in: it says more and counts as full. Else prove '..UptoSaid'. A law counts once. -/
mutual
def uptoBulk {H : Type} : DataW H → Nat
  | .lit (.string bytes) => bytes.length + 1
  | .lit _ => 1
  | .nil => 1
  | .ptr d => uptoBulk d + 1
  | .slice elems spare => uptoBulkAll elems + uptoBulkAll spare + 1
  | .agg parts => uptoBulkAll parts + 1
  | .iface _ d => uptoBulk d + 1
  | .map entries => uptoBulkEntries entries + 1
  | .held _ => 1
def uptoBulkAll {H : Type} : List (DataW H) → Nat
  | [] => 0
  | d :: r => uptoBulk d + uptoBulkAll r
def uptoBulkEntries {H : Type} : List (Lit × DataW H) → Nat
  | [] => 0
  | x :: r => uptoBulkEntry x + uptoBulkEntries r
def uptoBulkEntry {H : Type} : Lit × DataW H → Nat
  | (.string bytes, d) => bytes.length + uptoBulk d + 1
  | (_, d) => uptoBulk d + 1
 end
def uptoSmall : (H : Type) → List (DataW H) → Bool := fun _ ds => decide (uptoBulkAll ds ≤ 1048576)
def OpenSpec.upto (s : _root_.Go.ChangeSpec) : _root_.Go.OpenSpec := { _root_.Go.OpenSpec.ofChange s with cond := some uptoSmall }

/-- 'hardtacktop.TopBest', WHERE WHAT IT READS IS OF BULK AT MOST 1048576: true; the input reads as it did. -/
def topBestUptoRow : OpenClaim := { program := "ytnfoihdifohkeaagreat", sum := "1908dd5405a0b47b94e7d3ea58a8f4c774705a3352c35828e945c3b33693b75a", func := "hardtack/hardtacktop.TopBest", spec := "topBest", inPlace := ["internal/abi.NoEscape", "internal/bytealg.MakeNoZero", "internal/bytealg.abigen_runtime_cmpstring"], unfollowed := true, recurses := true, plainKeys := false, apart := false, narrowed := true }
def TopBestUptoSaid : Prop := topBestUptoRow.holds Tryz.pinned (OpenSpec.upto topBestSpec)

/-- 'hardtacktop.TopMinim', WHERE WHAT IT READS IS OF BULK AT MOST 1048576: true; the input reads as it did. -/
def topMinimUptoRow : OpenClaim := { program := "ytnfoihdifohkeaagreat", sum := "1908dd5405a0b47b94e7d3ea58a8f4c774705a3352c35828e945c3b33693b75a", func := "hardtack/hardtacktop.TopMinim", spec := "topMinim", inPlace := ["internal/abi.NoEscape", "internal/bytealg.MakeNoZero", "internal/bytealg.abigen_runtime_cmpstring"], unfollowed := true, recurses := true, plainKeys := false, apart := false, narrowed := true }
def TopMinimUptoSaid : Prop := topMinimUptoRow.holds Tryz.pinned (OpenSpec.upto topMinimSpec)

/-- 'hardtacklaw24.IdealAuth', WHERE WHAT IT READS IS OF BULK AT MOST 1048576: true; the input reads as it did. -/
def idealAuthUptoRow : OpenClaim := { program := "ytnfoihdifohkeaagreat", sum := "1908dd5405a0b47b94e7d3ea58a8f4c774705a3352c35828e945c3b33693b75a", func := "hardtack/hardtacklaw24.IdealAuth", spec := "idealAuth", inPlace := ["internal/abi.NoEscape", "internal/bytealg.MakeNoZero", "internal/bytealg.abigen_runtime_cmpstring"], unfollowed := true, recurses := true, plainKeys := false, apart := false, narrowed := true }
def IdealAuthUptoSaid : Prop := idealAuthUptoRow.holds Tryz.pinned (OpenSpec.upto idealAuthSpec)

/-- 'hardtacktop.TopResolved', WHERE WHAT IT READS IS OF BULK AT MOST 1048576: true; the input reads as it did. -/
def topResolvedUptoRow : OpenClaim := { program := "ytnfoihdifohkeaagreat", sum := "1908dd5405a0b47b94e7d3ea58a8f4c774705a3352c35828e945c3b33693b75a", func := "hardtack/hardtacktop.TopResolved", spec := "topResolved", inPlace := ["internal/abi.NoEscape", "internal/bytealg.MakeNoZero", "internal/bytealg.abigen_runtime_cmpstring"], unfollowed := true, recurses := true, plainKeys := false, apart := false, narrowed := true }
def TopResolvedUptoSaid : Prop := topResolvedUptoRow.holds Tryz.pinned (OpenSpec.upto topResolvedSpec)

end Rows
end Go.Proofs.YtnfoihdifohkeaaGreat
