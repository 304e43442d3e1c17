/-
  No cell of these rows narrows 'for every input' (looked for: loops, veiled, ifaces, maps, wideKeys, modest, calm, conditions, laid).
  DERIVED. THE GIVEN ROWS OF THIS SEAT. 5 by the template 'for every input the law returns true; each argument reads behind the call as it read before'; 0 by the template 'total and deterministic' (their statements: YtiiafibkblpbcaaGreatTotals.lean).
  GIVEN WITH THE SEED: the statements are not yours to turn. If you find one false, say at which input.
  Laid BY PROGRAM, IN A SANDBOX (cutbox-rows.mjs): the forced cells as the released guide's own fill.sh prints them over the translation e43df3814f0a8081… (all of the seat's roots in one cut). By AI agents, Wed Nov 11 2026. No macro, syntax, notation, axiom, sorry.
-/
import Derived.Test.YtiiafibkblpbcaaGreatChecked
import GoSem.Claim
import GoSem.ClaimJoined
import GoSem.ClaimMapViews
import Derived.JoinedTies
import Derived.KernelRfl
namespace Go.Proofs.YtiiafibkblpbcaaGreat
/- THE CELL 'sum', in the pinned program and in every row, IS THE sha256 OF THE DUMP (.gsa) THAT YtiiafibkblpbcaaGreatProg.lean LOADS. Nothing in Lean hashes anything: it is a label: what it is worth is what the hold of that sum in a sandbox is worth. -/
noncomputable def Tryz.pinned : Pinned := { name := "ytiiafibkblpbcaagreat", sum := "e43df3814f0a8081eef055b7cea919e8366109ce18f6d2a5a36a1c5b1804674f", checked := Tryz.checked }
namespace Rows
def none {H : Type} : Left H := { results := [], args := [] }

/-- 'hardtacklaw26.TaskDone': WHATEVER THE INPUT: true; the input reads as it did. -/
def taskDoneSpec : ChangeSpec := { name := "taskDone", fn := fun _ => fun
  | [d1, d2, d3, d4] => { results := [.lit (.bool true)], args := [d1, d2, d3, d4] }
  | _ => none }
def taskDoneRow : OpenClaim := { program := "ytiiafibkblpbcaagreat", sum := "e43df3814f0a8081eef055b7cea919e8366109ce18f6d2a5a36a1c5b1804674f", func := "hardtack/hardtacklaw26.TaskDone", spec := "taskDone", inPlace := ["internal/abi.NoEscape", "internal/bytealg.MakeNoZero"], unfollowed := true, recurses := true, plainKeys := false, apart := false }
def TaskDoneSaid : Prop := taskDoneRow.holds Tryz.pinned (OpenSpec.ofChange taskDoneSpec)

/-- ITS FALSE NEIGHBOUR: 'it returns false'. Refute it at one input. -/
def taskDoneWrong : ChangeSpec := { name := "taskDone", fn := fun _ => fun
  | [d1, d2, d3, d4] => { results := [.lit (.bool false)], args := [d1, d2, d3, d4] }
  | _ => none }
def TaskDoneWrongFalsely : Prop := taskDoneRow.holds Tryz.pinned (OpenSpec.ofChange taskDoneWrong)

/-- 'hardtacklaw26.TaskEnds': WHATEVER THE INPUT: true; the input reads as it did. -/
def taskEndsSpec : ChangeSpec := { name := "taskEnds", fn := fun _ => fun
  | [d1, d2, d3, d4, d5, d6] => { results := [.lit (.bool true)], args := [d1, d2, d3, d4, d5, d6] }
  | _ => none }
def taskEndsRow : OpenClaim := { program := "ytiiafibkblpbcaagreat", sum := "e43df3814f0a8081eef055b7cea919e8366109ce18f6d2a5a36a1c5b1804674f", func := "hardtack/hardtacklaw26.TaskEnds", spec := "taskEnds", inPlace := ["internal/abi.NoEscape", "internal/bytealg.MakeNoZero"], unfollowed := true, recurses := true, plainKeys := false, apart := false }
def TaskEndsSaid : Prop := taskEndsRow.holds Tryz.pinned (OpenSpec.ofChange taskEndsSpec)

/-- ITS FALSE NEIGHBOUR: 'it returns false'. Refute it at one input. -/
def taskEndsWrong : ChangeSpec := { name := "taskEnds", fn := fun _ => fun
  | [d1, d2, d3, d4, d5, d6] => { results := [.lit (.bool false)], args := [d1, d2, d3, d4, d5, d6] }
  | _ => none }
def TaskEndsWrongFalsely : Prop := taskEndsRow.holds Tryz.pinned (OpenSpec.ofChange taskEndsWrong)

/-- 'hardtacklaw29.FrontGreater': WHATEVER THE INPUT: true; the input reads as it did. -/
def frontGreaterSpec : ChangeSpec := { name := "frontGreater", fn := fun _ => fun
  | [d1, d2, d3, d4, d5, d6] => { results := [.lit (.bool true)], args := [d1, d2, d3, d4, d5, d6] }
  | _ => none }
def frontGreaterRow : OpenClaim := { program := "ytiiafibkblpbcaagreat", sum := "e43df3814f0a8081eef055b7cea919e8366109ce18f6d2a5a36a1c5b1804674f", func := "hardtack/hardtacklaw29.FrontGreater", spec := "frontGreater", inPlace := ["internal/abi.NoEscape", "internal/bytealg.MakeNoZero"], unfollowed := true, recurses := true, plainKeys := false, apart := false }
def FrontGreaterSaid : Prop := frontGreaterRow.holds Tryz.pinned (OpenSpec.ofChange frontGreaterSpec)

/-- ITS FALSE NEIGHBOUR: 'it returns false'. Refute it at one input. -/
def frontGreaterWrong : ChangeSpec := { name := "frontGreater", fn := fun _ => fun
  | [d1, d2, d3, d4, d5, d6] => { results := [.lit (.bool false)], args := [d1, d2, d3, d4, d5, d6] }
  | _ => none }
def FrontGreaterWrongFalsely : Prop := frontGreaterRow.holds Tryz.pinned (OpenSpec.ofChange frontGreaterWrong)

/-- 'hardtacklaw37.BoundsSmall': WHATEVER THE INPUT: true; the input reads as it did. -/
def boundsSmallSpec : ChangeSpec := { name := "boundsSmall", fn := fun _ => fun
  | [d1, d2, d3] => { results := [.lit (.bool true)], args := [d1, d2, d3] }
  | _ => none }
def boundsSmallRow : OpenClaim := { program := "ytiiafibkblpbcaagreat", sum := "e43df3814f0a8081eef055b7cea919e8366109ce18f6d2a5a36a1c5b1804674f", func := "hardtack/hardtacklaw37.BoundsSmall", spec := "boundsSmall", inPlace := ["internal/abi.NoEscape", "internal/bytealg.MakeNoZero", "internal/bytealg.abigen_runtime_cmpstring"], unfollowed := true, recurses := true, plainKeys := false, apart := false }
def BoundsSmallSaid : Prop := boundsSmallRow.holds Tryz.pinned (OpenSpec.ofChange boundsSmallSpec)

/-- ITS FALSE NEIGHBOUR: 'it returns false'. Refute it at one input. -/
def boundsSmallWrong : ChangeSpec := { name := "boundsSmall", fn := fun _ => fun
  | [d1, d2, d3] => { results := [.lit (.bool false)], args := [d1, d2, d3] }
  | _ => none }
def BoundsSmallWrongFalsely : Prop := boundsSmallRow.holds Tryz.pinned (OpenSpec.ofChange boundsSmallWrong)

/-- 'hardtacktop.TopGate': WHATEVER THE INPUT: true; the input reads as it did. -/
def topGateSpec : ChangeSpec := { name := "topGate", fn := fun _ => fun
  | [d1, d2, d3, d4, d5, d6, d7] => { results := [.lit (.bool true)], args := [d1, d2, d3, d4, d5, d6, d7] }
  | _ => none }
def topGateRow : OpenClaim := { program := "ytiiafibkblpbcaagreat", sum := "e43df3814f0a8081eef055b7cea919e8366109ce18f6d2a5a36a1c5b1804674f", func := "hardtack/hardtacktop.TopGate", spec := "topGate", inPlace := ["internal/abi.NoEscape", "internal/bytealg.MakeNoZero"], unfollowed := true, recurses := true, plainKeys := false, apart := false }
def TopGateSaid : Prop := topGateRow.holds Tryz.pinned (OpenSpec.ofChange topGateSpec)

/-- ITS FALSE NEIGHBOUR: 'it returns false'. Refute it at one input. -/
def topGateWrong : ChangeSpec := { name := "topGate", fn := fun _ => fun
  | [d1, d2, d3, d4, d5, d6, d7] => { results := [.lit (.bool false)], args := [d1, d2, d3, d4, d5, d6, d7] }
  | _ => none }
def TopGateWrongFalsely : Prop := topGateRow.holds Tryz.pinned (OpenSpec.ofChange topGateWrong)

/- THE SECOND FORM. 'bulk': how many values and letters a reading holds, each counted each time it is reached (what is shared counts as often as it is met; a slice's spare places count too). A statement '..UptoSaid' is the law's where the arguments, and the package variables that the reading takes, are together of bulk at most 1048576: NARROWER than '..Said'. Prove '..Said' where nothing that the law and all that it calls make is longer than what came in: it says more and counts as full. Else prove '..UptoSaid'. A law counts once. -/
mutual
def uptoBulk {H : Type} : DataW H → Nat
  | .lit (.string bytes) => bytes.length + 1
  | .lit _ => 1
  | .nil => 1
  | .ptr d => uptoBulk d + 1
  | .slice elems spare => uptoBulkAll elems + uptoBulkAll spare + 1
  | .agg parts => uptoBulkAll parts + 1
  | .iface _ d => uptoBulk d + 1
  | .map entries => uptoBulkEntries entries + 1
  | .held _ => 1
def uptoBulkAll {H : Type} : List (DataW H) → Nat
  | [] => 0
  | d :: r => uptoBulk d + uptoBulkAll r
def uptoBulkEntries {H : Type} : List (Lit × DataW H) → Nat
  | [] => 0
  | x :: r => uptoBulkEntry x + uptoBulkEntries r
def uptoBulkEntry {H : Type} : Lit × DataW H → Nat
  | (.string bytes, d) => bytes.length + uptoBulk d + 1
  | (_, d) => uptoBulk d + 1
 end
def uptoSmall : (H : Type) → List (DataW H) → Bool := fun _ ds => decide (uptoBulkAll ds ≤ 1048576)
def OpenSpec.upto (s : _root_.Go.ChangeSpec) : _root_.Go.OpenSpec := { _root_.Go.OpenSpec.ofChange s with cond := some uptoSmall }

/-- 'hardtacklaw26.TaskDone', WHERE WHAT IT READS IS OF BULK AT MOST 1048576: true; the input reads as it did. -/
def taskDoneUptoRow : OpenClaim := { program := "ytiiafibkblpbcaagreat", sum := "e43df3814f0a8081eef055b7cea919e8366109ce18f6d2a5a36a1c5b1804674f", func := "hardtack/hardtacklaw26.TaskDone", spec := "taskDone", inPlace := ["internal/abi.NoEscape", "internal/bytealg.MakeNoZero"], unfollowed := true, recurses := true, plainKeys := false, apart := false, narrowed := true }
def TaskDoneUptoSaid : Prop := taskDoneUptoRow.holds Tryz.pinned (OpenSpec.upto taskDoneSpec)

/-- 'hardtacklaw26.TaskEnds', WHERE WHAT IT READS IS OF BULK AT MOST 1048576: true; the input reads as it did. -/
def taskEndsUptoRow : OpenClaim := { program := "ytiiafibkblpbcaagreat", sum := "e43df3814f0a8081eef055b7cea919e8366109ce18f6d2a5a36a1c5b1804674f", func := "hardtack/hardtacklaw26.TaskEnds", spec := "taskEnds", inPlace := ["internal/abi.NoEscape", "internal/bytealg.MakeNoZero"], unfollowed := true, recurses := true, plainKeys := false, apart := false, narrowed := true }
def TaskEndsUptoSaid : Prop := taskEndsUptoRow.holds Tryz.pinned (OpenSpec.upto taskEndsSpec)

/-- 'hardtacklaw29.FrontGreater', WHERE WHAT IT READS IS OF BULK AT MOST 1048576: true; the input reads as it did. -/
def frontGreaterUptoRow : OpenClaim := { program := "ytiiafibkblpbcaagreat", sum := "e43df3814f0a8081eef055b7cea919e8366109ce18f6d2a5a36a1c5b1804674f", func := "hardtack/hardtacklaw29.FrontGreater", spec := "frontGreater", inPlace := ["internal/abi.NoEscape", "internal/bytealg.MakeNoZero"], unfollowed := true, recurses := true, plainKeys := false, apart := false, narrowed := true }
def FrontGreaterUptoSaid : Prop := frontGreaterUptoRow.holds Tryz.pinned (OpenSpec.upto frontGreaterSpec)

/-- 'hardtacklaw37.BoundsSmall', WHERE WHAT IT READS IS OF BULK AT MOST 1048576: true; the input reads as it did. -/
def boundsSmallUptoRow : OpenClaim := { program := "ytiiafibkblpbcaagreat", sum := "e43df3814f0a8081eef055b7cea919e8366109ce18f6d2a5a36a1c5b1804674f", func := "hardtack/hardtacklaw37.BoundsSmall", spec := "boundsSmall", inPlace := ["internal/abi.NoEscape", "internal/bytealg.MakeNoZero", "internal/bytealg.abigen_runtime_cmpstring"], unfollowed := true, recurses := true, plainKeys := false, apart := false, narrowed := true }
def BoundsSmallUptoSaid : Prop := boundsSmallUptoRow.holds Tryz.pinned (OpenSpec.upto boundsSmallSpec)

/-- 'hardtacktop.TopGate', WHERE WHAT IT READS IS OF BULK AT MOST 1048576: true; the input reads as it did. -/
def topGateUptoRow : OpenClaim := { program := "ytiiafibkblpbcaagreat", sum := "e43df3814f0a8081eef055b7cea919e8366109ce18f6d2a5a36a1c5b1804674f", func := "hardtack/hardtacktop.TopGate", spec := "topGate", inPlace := ["internal/abi.NoEscape", "internal/bytealg.MakeNoZero"], unfollowed := true, recurses := true, plainKeys := false, apart := false, narrowed := true }
def TopGateUptoSaid : Prop := topGateUptoRow.holds Tryz.pinned (OpenSpec.upto topGateSpec)

end Rows
end Go.Proofs.YtiiafibkblpbcaaGreat
