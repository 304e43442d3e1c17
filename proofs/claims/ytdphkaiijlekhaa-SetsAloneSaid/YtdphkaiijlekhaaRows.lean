/-
  No cell of these rows narrows 'for every input' (looked for: loops, veiled, ifaces, maps, wideKeys, modest, calm, conditions, laid).
  DERIVED. THE GIVEN ROWS OF THIS SEAT. 8 by the template 'for every input the law returns true; each argument reads behind the call as it read before'; 0 by the template 'total and deterministic' (their statements: YtdphkaiijlekhaaTotals.lean).
  GIVEN WITH THE SEED: the statements are not yours to turn. If you find one false, say at which input.
  Laid BY PROGRAM, IN A SANDBOX (cutbox-rows.mjs): the forced cells as the released guide's own fill.sh prints them over the translation ef4d9402f131e462… (all of the seat's roots in one cut). By AI agents, Wed Nov 11 2026. No macro, syntax, notation, axiom, sorry.
-/
import Derived.Test.YtdphkaiijlekhaaChecked
import GoSem.Claim
import GoSem.ClaimJoined
import GoSem.ClaimMapViews
import Derived.JoinedTies
import Derived.KernelRfl
namespace Go.Proofs.Ytdphkaiijlekhaa
/- THE CELL 'sum', in the pinned program and in every row, IS THE sha256 OF THE DUMP (.gsa) THAT YtdphkaiijlekhaaProg.lean LOADS. Nothing in Lean hashes anything: it is a label: what it is worth is what the hold of that sum in a sandbox is worth. -/
noncomputable def Try.pinned : Pinned := { name := "ytdphkaiijlekhaa", sum := "ef4d9402f131e4627f5261842878056f0e62f103484da3b97c4b5461ab0933b2", checked := Try.checked }
namespace Rows
def none {H : Type} : Left H := { results := [], args := [] }

/-- 'hardtacklaw14.CacheLonger': WHATEVER THE INPUT: true; the input reads as it did. -/
def cacheLongerSpec : ChangeSpec := { name := "cacheLonger", fn := fun _ => fun
  | [d1, d2, d3, d4, d5] => { results := [.lit (.bool true)], args := [d1, d2, d3, d4, d5] }
  | _ => none }
def cacheLongerRow : OpenClaim := { program := "ytdphkaiijlekhaa", sum := "ef4d9402f131e4627f5261842878056f0e62f103484da3b97c4b5461ab0933b2", func := "hardtack/hardtacklaw14.CacheLonger", spec := "cacheLonger", inPlace := ["internal/abi.NoEscape", "internal/bytealg.MakeNoZero"], unfollowed := true, recurses := true, plainKeys := false, apart := false }
def CacheLongerSaid : Prop := cacheLongerRow.holds Try.pinned (OpenSpec.ofChange cacheLongerSpec)

/-- ITS FALSE NEIGHBOUR: 'it returns false'. Refute it at one input. -/
def cacheLongerWrong : ChangeSpec := { name := "cacheLonger", fn := fun _ => fun
  | [d1, d2, d3, d4, d5] => { results := [.lit (.bool false)], args := [d1, d2, d3, d4, d5] }
  | _ => none }
def CacheLongerWrongFalsely : Prop := cacheLongerRow.holds Try.pinned (OpenSpec.ofChange cacheLongerWrong)

/-- 'hardtacklaw14.CacheBetter': WHATEVER THE INPUT: true; the input reads as it did. -/
def cacheBetterSpec : ChangeSpec := { name := "cacheBetter", fn := fun _ => fun
  | [d1, d2, d3, d4, d5, d6] => { results := [.lit (.bool true)], args := [d1, d2, d3, d4, d5, d6] }
  | _ => none }
def cacheBetterRow : OpenClaim := { program := "ytdphkaiijlekhaa", sum := "ef4d9402f131e4627f5261842878056f0e62f103484da3b97c4b5461ab0933b2", func := "hardtack/hardtacklaw14.CacheBetter", spec := "cacheBetter", inPlace := ["internal/abi.NoEscape", "internal/bytealg.MakeNoZero"], unfollowed := true, recurses := true, plainKeys := false, apart := false }
def CacheBetterSaid : Prop := cacheBetterRow.holds Try.pinned (OpenSpec.ofChange cacheBetterSpec)

/-- ITS FALSE NEIGHBOUR: 'it returns false'. Refute it at one input. -/
def cacheBetterWrong : ChangeSpec := { name := "cacheBetter", fn := fun _ => fun
  | [d1, d2, d3, d4, d5, d6] => { results := [.lit (.bool false)], args := [d1, d2, d3, d4, d5, d6] }
  | _ => none }
def CacheBetterWrongFalsely : Prop := cacheBetterRow.holds Try.pinned (OpenSpec.ofChange cacheBetterWrong)

/-- 'hardtacklaw13.SetsOf': WHATEVER THE INPUT: true; the input reads as it did. -/
def setsOfSpec : ChangeSpec := { name := "setsOf", fn := fun _ => fun
  | [d1, d2, d3] => { results := [.lit (.bool true)], args := [d1, d2, d3] }
  | _ => none }
def setsOfRow : OpenClaim := { program := "ytdphkaiijlekhaa", sum := "ef4d9402f131e4627f5261842878056f0e62f103484da3b97c4b5461ab0933b2", func := "hardtack/hardtacklaw13.SetsOf", spec := "setsOf", inPlace := ["internal/abi.NoEscape", "internal/bytealg.MakeNoZero", "internal/bytealg.abigen_runtime_cmpstring"], unfollowed := true, recurses := true, plainKeys := false, apart := false }
def SetsOfSaid : Prop := setsOfRow.holds Try.pinned (OpenSpec.ofChange setsOfSpec)

/-- ITS FALSE NEIGHBOUR: 'it returns false'. Refute it at one input. -/
def setsOfWrong : ChangeSpec := { name := "setsOf", fn := fun _ => fun
  | [d1, d2, d3] => { results := [.lit (.bool false)], args := [d1, d2, d3] }
  | _ => none }
def SetsOfWrongFalsely : Prop := setsOfRow.holds Try.pinned (OpenSpec.ofChange setsOfWrong)

/-- 'hardtacklaw13.SetsAlone': WHATEVER THE INPUT: true; the input reads as it did. -/
def setsAloneSpec : ChangeSpec := { name := "setsAlone", fn := fun _ => fun
  | [d1, d2] => { results := [.lit (.bool true)], args := [d1, d2] }
  | _ => none }
def setsAloneRow : OpenClaim := { program := "ytdphkaiijlekhaa", sum := "ef4d9402f131e4627f5261842878056f0e62f103484da3b97c4b5461ab0933b2", func := "hardtack/hardtacklaw13.SetsAlone", spec := "setsAlone", inPlace := ["internal/abi.NoEscape", "internal/bytealg.MakeNoZero", "internal/bytealg.abigen_runtime_cmpstring"], unfollowed := true, recurses := true, plainKeys := false, apart := false }
def SetsAloneSaid : Prop := setsAloneRow.holds Try.pinned (OpenSpec.ofChange setsAloneSpec)

/-- ITS FALSE NEIGHBOUR: 'it returns false'. Refute it at one input. -/
def setsAloneWrong : ChangeSpec := { name := "setsAlone", fn := fun _ => fun
  | [d1, d2] => { results := [.lit (.bool false)], args := [d1, d2] }
  | _ => none }
def SetsAloneWrongFalsely : Prop := setsAloneRow.holds Try.pinned (OpenSpec.ofChange setsAloneWrong)

/-- 'hardtacklaw06.MessageWrites': WHATEVER THE INPUT: true; the input reads as it did. -/
def messageWritesSpec : ChangeSpec := { name := "messageWrites", fn := fun _ => fun
  | [d1, d2, d3] => { results := [.lit (.bool true)], args := [d1, d2, d3] }
  | _ => none }
def messageWritesRow : OpenClaim := { program := "ytdphkaiijlekhaa", sum := "ef4d9402f131e4627f5261842878056f0e62f103484da3b97c4b5461ab0933b2", func := "hardtack/hardtacklaw06.MessageWrites", spec := "messageWrites", inPlace := ["internal/abi.NoEscape"], unfollowed := true, recurses := true, plainKeys := false, apart := false }
def MessageWritesSaid : Prop := messageWritesRow.holds Try.pinned (OpenSpec.ofChange messageWritesSpec)

/-- ITS FALSE NEIGHBOUR: 'it returns false'. Refute it at one input. -/
def messageWritesWrong : ChangeSpec := { name := "messageWrites", fn := fun _ => fun
  | [d1, d2, d3] => { results := [.lit (.bool false)], args := [d1, d2, d3] }
  | _ => none }
def MessageWritesWrongFalsely : Prop := messageWritesRow.holds Try.pinned (OpenSpec.ofChange messageWritesWrong)

/-- 'hardtacklaw06.MessageBack': WHATEVER THE INPUT: true; the input reads as it did. -/
def messageBackSpec : ChangeSpec := { name := "messageBack", fn := fun _ => fun
  | [d1, d2] => { results := [.lit (.bool true)], args := [d1, d2] }
  | _ => none }
def messageBackRow : OpenClaim := { program := "ytdphkaiijlekhaa", sum := "ef4d9402f131e4627f5261842878056f0e62f103484da3b97c4b5461ab0933b2", func := "hardtack/hardtacklaw06.MessageBack", spec := "messageBack", inPlace := ["internal/abi.NoEscape"], unfollowed := true, recurses := true, plainKeys := false, apart := false }
def MessageBackSaid : Prop := messageBackRow.holds Try.pinned (OpenSpec.ofChange messageBackSpec)

/-- ITS FALSE NEIGHBOUR: 'it returns false'. Refute it at one input. -/
def messageBackWrong : ChangeSpec := { name := "messageBack", fn := fun _ => fun
  | [d1, d2] => { results := [.lit (.bool false)], args := [d1, d2] }
  | _ => none }
def MessageBackWrongFalsely : Prop := messageBackRow.holds Try.pinned (OpenSpec.ofChange messageBackWrong)

/-- 'hardtacklaw06.MessageAgain': WHATEVER THE INPUT: true; the input reads as it did. -/
def messageAgainSpec : ChangeSpec := { name := "messageAgain", fn := fun _ => fun
  | [d1, d2] => { results := [.lit (.bool true)], args := [d1, d2] }
  | _ => none }
def messageAgainRow : OpenClaim := { program := "ytdphkaiijlekhaa", sum := "ef4d9402f131e4627f5261842878056f0e62f103484da3b97c4b5461ab0933b2", func := "hardtack/hardtacklaw06.MessageAgain", spec := "messageAgain", inPlace := ["internal/abi.NoEscape"], unfollowed := true, recurses := true, plainKeys := false, apart := false }
def MessageAgainSaid : Prop := messageAgainRow.holds Try.pinned (OpenSpec.ofChange messageAgainSpec)

/-- ITS FALSE NEIGHBOUR: 'it returns false'. Refute it at one input. -/
def messageAgainWrong : ChangeSpec := { name := "messageAgain", fn := fun _ => fun
  | [d1, d2] => { results := [.lit (.bool false)], args := [d1, d2] }
  | _ => none }
def MessageAgainWrongFalsely : Prop := messageAgainRow.holds Try.pinned (OpenSpec.ofChange messageAgainWrong)

/-- 'hardtacklaw28.ValidAll': WHATEVER THE INPUT: true; the input reads as it did. -/
def validAllSpec : ChangeSpec := { name := "validAll", fn := fun _ => fun
  | [d1, d2, d3] => { results := [.lit (.bool true)], args := [d1, d2, d3] }
  | _ => none }
def validAllRow : OpenClaim := { program := "ytdphkaiijlekhaa", sum := "ef4d9402f131e4627f5261842878056f0e62f103484da3b97c4b5461ab0933b2", func := "hardtack/hardtacklaw28.ValidAll", spec := "validAll", inPlace := ["internal/abi.NoEscape"], unfollowed := true, recurses := true, plainKeys := false, apart := false }
def ValidAllSaid : Prop := validAllRow.holds Try.pinned (OpenSpec.ofChange validAllSpec)

/-- ITS FALSE NEIGHBOUR: 'it returns false'. Refute it at one input. -/
def validAllWrong : ChangeSpec := { name := "validAll", fn := fun _ => fun
  | [d1, d2, d3] => { results := [.lit (.bool false)], args := [d1, d2, d3] }
  | _ => none }
def ValidAllWrongFalsely : Prop := validAllRow.holds Try.pinned (OpenSpec.ofChange validAllWrong)

/- THE SECOND FORM. 'bulk': how many values and letters a reading holds, each counted each time it is reached (what is shared counts as often as it is met; a slice's spare places count too). A statement '..UptoSaid' is the law's where the arguments, and the package variables that the reading takes, are together of bulk at most 1048576: NARROWER than '..Said'. Prove '..Said' where nothing that the law and all that it calls make is longer than what came in: it says more and counts as full. Else prove '..UptoSaid'. A law counts once. -/
mutual
def uptoBulk {H : Type} : DataW H → Nat
  | .lit (.string bytes) => bytes.length + 1
  | .lit _ => 1
  | .nil => 1
  | .ptr d => uptoBulk d + 1
  | .slice elems spare => uptoBulkAll elems + uptoBulkAll spare + 1
  | .agg parts => uptoBulkAll parts + 1
  | .iface _ d => uptoBulk d + 1
  | .map entries => uptoBulkEntries entries + 1
  | .held _ => 1
def uptoBulkAll {H : Type} : List (DataW H) → Nat
  | [] => 0
  | d :: r => uptoBulk d + uptoBulkAll r
def uptoBulkEntries {H : Type} : List (Lit × DataW H) → Nat
  | [] => 0
  | x :: r => uptoBulkEntry x + uptoBulkEntries r
def uptoBulkEntry {H : Type} : Lit × DataW H → Nat
  | (.string bytes, d) => bytes.length + uptoBulk d + 1
  | (_, d) => uptoBulk d + 1
 end
def uptoSmall : (H : Type) → List (DataW H) → Bool := fun _ ds => decide (uptoBulkAll ds ≤ 1048576)
def OpenSpec.upto (s : _root_.Go.ChangeSpec) : _root_.Go.OpenSpec := { _root_.Go.OpenSpec.ofChange s with cond := some uptoSmall }

/-- 'hardtacklaw14.CacheLonger', WHERE WHAT IT READS IS OF BULK AT MOST 1048576: true; the input reads as it did. -/
def cacheLongerUptoRow : OpenClaim := { program := "ytdphkaiijlekhaa", sum := "ef4d9402f131e4627f5261842878056f0e62f103484da3b97c4b5461ab0933b2", func := "hardtack/hardtacklaw14.CacheLonger", spec := "cacheLonger", inPlace := ["internal/abi.NoEscape", "internal/bytealg.MakeNoZero"], unfollowed := true, recurses := true, plainKeys := false, apart := false, narrowed := true }
def CacheLongerUptoSaid : Prop := cacheLongerUptoRow.holds Try.pinned (OpenSpec.upto cacheLongerSpec)

/-- 'hardtacklaw14.CacheBetter', WHERE WHAT IT READS IS OF BULK AT MOST 1048576: true; the input reads as it did. -/
def cacheBetterUptoRow : OpenClaim := { program := "ytdphkaiijlekhaa", sum := "ef4d9402f131e4627f5261842878056f0e62f103484da3b97c4b5461ab0933b2", func := "hardtack/hardtacklaw14.CacheBetter", spec := "cacheBetter", inPlace := ["internal/abi.NoEscape", "internal/bytealg.MakeNoZero"], unfollowed := true, recurses := true, plainKeys := false, apart := false, narrowed := true }
def CacheBetterUptoSaid : Prop := cacheBetterUptoRow.holds Try.pinned (OpenSpec.upto cacheBetterSpec)

/-- 'hardtacklaw13.SetsOf', WHERE WHAT IT READS IS OF BULK AT MOST 1048576: true; the input reads as it did. -/
def setsOfUptoRow : OpenClaim := { program := "ytdphkaiijlekhaa", sum := "ef4d9402f131e4627f5261842878056f0e62f103484da3b97c4b5461ab0933b2", func := "hardtack/hardtacklaw13.SetsOf", spec := "setsOf", inPlace := ["internal/abi.NoEscape", "internal/bytealg.MakeNoZero", "internal/bytealg.abigen_runtime_cmpstring"], unfollowed := true, recurses := true, plainKeys := false, apart := false, narrowed := true }
def SetsOfUptoSaid : Prop := setsOfUptoRow.holds Try.pinned (OpenSpec.upto setsOfSpec)

/-- 'hardtacklaw13.SetsAlone', WHERE WHAT IT READS IS OF BULK AT MOST 1048576: true; the input reads as it did. -/
def setsAloneUptoRow : OpenClaim := { program := "ytdphkaiijlekhaa", sum := "ef4d9402f131e4627f5261842878056f0e62f103484da3b97c4b5461ab0933b2", func := "hardtack/hardtacklaw13.SetsAlone", spec := "setsAlone", inPlace := ["internal/abi.NoEscape", "internal/bytealg.MakeNoZero", "internal/bytealg.abigen_runtime_cmpstring"], unfollowed := true, recurses := true, plainKeys := false, apart := false, narrowed := true }
def SetsAloneUptoSaid : Prop := setsAloneUptoRow.holds Try.pinned (OpenSpec.upto setsAloneSpec)

/-- 'hardtacklaw06.MessageWrites', WHERE WHAT IT READS IS OF BULK AT MOST 1048576: true; the input reads as it did. -/
def messageWritesUptoRow : OpenClaim := { program := "ytdphkaiijlekhaa", sum := "ef4d9402f131e4627f5261842878056f0e62f103484da3b97c4b5461ab0933b2", func := "hardtack/hardtacklaw06.MessageWrites", spec := "messageWrites", inPlace := ["internal/abi.NoEscape"], unfollowed := true, recurses := true, plainKeys := false, apart := false, narrowed := true }
def MessageWritesUptoSaid : Prop := messageWritesUptoRow.holds Try.pinned (OpenSpec.upto messageWritesSpec)

/-- 'hardtacklaw06.MessageBack', WHERE WHAT IT READS IS OF BULK AT MOST 1048576: true; the input reads as it did. -/
def messageBackUptoRow : OpenClaim := { program := "ytdphkaiijlekhaa", sum := "ef4d9402f131e4627f5261842878056f0e62f103484da3b97c4b5461ab0933b2", func := "hardtack/hardtacklaw06.MessageBack", spec := "messageBack", inPlace := ["internal/abi.NoEscape"], unfollowed := true, recurses := true, plainKeys := false, apart := false, narrowed := true }
def MessageBackUptoSaid : Prop := messageBackUptoRow.holds Try.pinned (OpenSpec.upto messageBackSpec)

/-- 'hardtacklaw06.MessageAgain', WHERE WHAT IT READS IS OF BULK AT MOST 1048576: true; the input reads as it did. -/
def messageAgainUptoRow : OpenClaim := { program := "ytdphkaiijlekhaa", sum := "ef4d9402f131e4627f5261842878056f0e62f103484da3b97c4b5461ab0933b2", func := "hardtack/hardtacklaw06.MessageAgain", spec := "messageAgain", inPlace := ["internal/abi.NoEscape"], unfollowed := true, recurses := true, plainKeys := false, apart := false, narrowed := true }
def MessageAgainUptoSaid : Prop := messageAgainUptoRow.holds Try.pinned (OpenSpec.upto messageAgainSpec)

/-- 'hardtacklaw28.ValidAll', WHERE WHAT IT READS IS OF BULK AT MOST 1048576: true; the input reads as it did. -/
def validAllUptoRow : OpenClaim := { program := "ytdphkaiijlekhaa", sum := "ef4d9402f131e4627f5261842878056f0e62f103484da3b97c4b5461ab0933b2", func := "hardtack/hardtacklaw28.ValidAll", spec := "validAll", inPlace := ["internal/abi.NoEscape"], unfollowed := true, recurses := true, plainKeys := false, apart := false, narrowed := true }
def ValidAllUptoSaid : Prop := validAllUptoRow.holds Try.pinned (OpenSpec.upto validAllSpec)

end Rows
end Go.Proofs.Ytdphkaiijlekhaa
