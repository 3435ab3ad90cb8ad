/-
  No cell of these rows narrows 'for every input' (looked for: loops, veiled, ifaces, maps, wideKeys, modest, calm, conditions, laid).
  DERIVED. THE GIVEN ROWS OF THIS SEAT. 10 by the template 'for every input the law returns true; each argument reads behind the call as it read before'; 0 by the template 'total and deterministic' (their statements: YtnccgmffgmfinaaTotals.lean).
  GIVEN WITH THE SEED: the statements are not yours to turn. If you find one false, say at which input.
  Laid BY PROGRAM, IN A SANDBOX (cutbox-rows.mjs): the forced cells as the released guide's own fill.sh prints them over the translation 3e81ff0a8904a8e0… (all of the seat's roots in one cut). By AI agents, Wed Nov 11 2026. No macro, syntax, notation, axiom, sorry.
-/
import Derived.Test.YtnccgmffgmfinaaChecked
import GoSem.Claim
import GoSem.ClaimJoined
import GoSem.ClaimMapViews
import Derived.JoinedTies
import Derived.KernelRfl
namespace Go.Proofs.Ytnccgmffgmfinaa
/- THE CELL 'sum', in the pinned program and in every row, IS THE sha256 OF THE DUMP (.gsa) THAT YtnccgmffgmfinaaProg.lean LOADS. Nothing in Lean hashes anything: it is a label: what it is worth is what the hold of that sum in a sandbox is worth. -/
noncomputable def Try.pinned : Pinned := { name := "ytnccgmffgmfinaa", sum := "3e81ff0a8904a8e00c2c52c7798d6d5b2e6b5a8b3311b22c1f21e6d3df937215", checked := Try.checked }
namespace Rows
def none {H : Type} : Left H := { results := [], args := [] }

/-- 'loggialaw12.BlocksFind': WHATEVER THE INPUT: true; the input reads as it did. -/
def blocksFindSpec : ChangeSpec := { name := "blocksFind", fn := fun _ => fun
  | [d1, d2] => { results := [.lit (.bool true)], args := [d1, d2] }
  | _ => none }
def blocksFindRow : OpenClaim := { program := "ytnccgmffgmfinaa", sum := "3e81ff0a8904a8e00c2c52c7798d6d5b2e6b5a8b3311b22c1f21e6d3df937215", func := "loggia/loggialaw12.BlocksFind", spec := "blocksFind", unfollowed := true, recurses := true, apart := false }
def BlocksFindSaid : Prop := blocksFindRow.holds Try.pinned (OpenSpec.ofChange blocksFindSpec)

/-- ITS FALSE NEIGHBOUR: 'it returns false'. Refute it at one input. -/
def blocksFindWrong : ChangeSpec := { name := "blocksFind", fn := fun _ => fun
  | [d1, d2] => { results := [.lit (.bool false)], args := [d1, d2] }
  | _ => none }
def BlocksFindWrongFalsely : Prop := blocksFindRow.holds Try.pinned (OpenSpec.ofChange blocksFindWrong)

/-- 'loggialaw12.BlocksBack': WHATEVER THE INPUT: true; the input reads as it did. -/
def blocksBackSpec : ChangeSpec := { name := "blocksBack", fn := fun _ => fun
  | [d1, d2] => { results := [.lit (.bool true)], args := [d1, d2] }
  | _ => none }
def blocksBackRow : OpenClaim := { program := "ytnccgmffgmfinaa", sum := "3e81ff0a8904a8e00c2c52c7798d6d5b2e6b5a8b3311b22c1f21e6d3df937215", func := "loggia/loggialaw12.BlocksBack", spec := "blocksBack", unfollowed := true, recurses := true, apart := false }
def BlocksBackSaid : Prop := blocksBackRow.holds Try.pinned (OpenSpec.ofChange blocksBackSpec)

/-- ITS FALSE NEIGHBOUR: 'it returns false'. Refute it at one input. -/
def blocksBackWrong : ChangeSpec := { name := "blocksBack", fn := fun _ => fun
  | [d1, d2] => { results := [.lit (.bool false)], args := [d1, d2] }
  | _ => none }
def BlocksBackWrongFalsely : Prop := blocksBackRow.holds Try.pinned (OpenSpec.ofChange blocksBackWrong)

/-- 'loggialaw12.BlocksTables': WHATEVER THE INPUT: true; the input reads as it did. -/
def blocksTablesSpec : ChangeSpec := { name := "blocksTables", fn := fun _ => fun
  | [d1, d2] => { results := [.lit (.bool true)], args := [d1, d2] }
  | _ => none }
def blocksTablesRow : OpenClaim := { program := "ytnccgmffgmfinaa", sum := "3e81ff0a8904a8e00c2c52c7798d6d5b2e6b5a8b3311b22c1f21e6d3df937215", func := "loggia/loggialaw12.BlocksTables", spec := "blocksTables", unfollowed := true, recurses := true, apart := false }
def BlocksTablesSaid : Prop := blocksTablesRow.holds Try.pinned (OpenSpec.ofChange blocksTablesSpec)

/-- ITS FALSE NEIGHBOUR: 'it returns false'. Refute it at one input. -/
def blocksTablesWrong : ChangeSpec := { name := "blocksTables", fn := fun _ => fun
  | [d1, d2] => { results := [.lit (.bool false)], args := [d1, d2] }
  | _ => none }
def BlocksTablesWrongFalsely : Prop := blocksTablesRow.holds Try.pinned (OpenSpec.ofChange blocksTablesWrong)

/-- 'loggialaw12.BlocksOrder': WHATEVER THE INPUT: true; the input reads as it did. -/
def blocksOrderSpec : ChangeSpec := { name := "blocksOrder", fn := fun _ => fun
  | [d1, d2, d3] => { results := [.lit (.bool true)], args := [d1, d2, d3] }
  | _ => none }
def blocksOrderRow : OpenClaim := { program := "ytnccgmffgmfinaa", sum := "3e81ff0a8904a8e00c2c52c7798d6d5b2e6b5a8b3311b22c1f21e6d3df937215", func := "loggia/loggialaw12.BlocksOrder", spec := "blocksOrder", unfollowed := true, recurses := true, apart := false }
def BlocksOrderSaid : Prop := blocksOrderRow.holds Try.pinned (OpenSpec.ofChange blocksOrderSpec)

/-- ITS FALSE NEIGHBOUR: 'it returns false'. Refute it at one input. -/
def blocksOrderWrong : ChangeSpec := { name := "blocksOrder", fn := fun _ => fun
  | [d1, d2, d3] => { results := [.lit (.bool false)], args := [d1, d2, d3] }
  | _ => none }
def BlocksOrderWrongFalsely : Prop := blocksOrderRow.holds Try.pinned (OpenSpec.ofChange blocksOrderWrong)

/-- 'loggialaw25.QueuePlays': WHATEVER THE INPUT: true; the input reads as it did. -/
def queuePlaysSpec : ChangeSpec := { name := "queuePlays", fn := fun _ => fun
  | [d] => { results := [.lit (.bool true)], args := [d] }
  | _ => none }
def queuePlaysRow : OpenClaim := { program := "ytnccgmffgmfinaa", sum := "3e81ff0a8904a8e00c2c52c7798d6d5b2e6b5a8b3311b22c1f21e6d3df937215", func := "loggia/loggialaw25.QueuePlays", spec := "queuePlays", unfollowed := true, recurses := true, apart := false }
def QueuePlaysSaid : Prop := queuePlaysRow.holds Try.pinned (OpenSpec.ofChange queuePlaysSpec)

/-- ITS FALSE NEIGHBOUR: 'it returns false'. Refute it at one input. -/
def queuePlaysWrong : ChangeSpec := { name := "queuePlays", fn := fun _ => fun
  | [d] => { results := [.lit (.bool false)], args := [d] }
  | _ => none }
def QueuePlaysWrongFalsely : Prop := queuePlaysRow.holds Try.pinned (OpenSpec.ofChange queuePlaysWrong)

/-- 'loggialaw25.QueueOrder': WHATEVER THE INPUT: true; the input reads as it did. -/
def queueOrderSpec : ChangeSpec := { name := "queueOrder", fn := fun _ => fun
  | [d1, d2] => { results := [.lit (.bool true)], args := [d1, d2] }
  | _ => none }
def queueOrderRow : OpenClaim := { program := "ytnccgmffgmfinaa", sum := "3e81ff0a8904a8e00c2c52c7798d6d5b2e6b5a8b3311b22c1f21e6d3df937215", func := "loggia/loggialaw25.QueueOrder", spec := "queueOrder", unfollowed := true, recurses := true, apart := false }
def QueueOrderSaid : Prop := queueOrderRow.holds Try.pinned (OpenSpec.ofChange queueOrderSpec)

/-- ITS FALSE NEIGHBOUR: 'it returns false'. Refute it at one input. -/
def queueOrderWrong : ChangeSpec := { name := "queueOrder", fn := fun _ => fun
  | [d1, d2] => { results := [.lit (.bool false)], args := [d1, d2] }
  | _ => none }
def QueueOrderWrongFalsely : Prop := queueOrderRow.holds Try.pinned (OpenSpec.ofChange queueOrderWrong)

/-- 'loggialaw25.QueueFull': WHATEVER THE INPUT: true; the input reads as it did. -/
def queueFullSpec : ChangeSpec := { name := "queueFull", fn := fun _ => fun
  | [d] => { results := [.lit (.bool true)], args := [d] }
  | _ => none }
def queueFullRow : OpenClaim := { program := "ytnccgmffgmfinaa", sum := "3e81ff0a8904a8e00c2c52c7798d6d5b2e6b5a8b3311b22c1f21e6d3df937215", func := "loggia/loggialaw25.QueueFull", spec := "queueFull", unfollowed := true, recurses := true, apart := false }
def QueueFullSaid : Prop := queueFullRow.holds Try.pinned (OpenSpec.ofChange queueFullSpec)

/-- ITS FALSE NEIGHBOUR: 'it returns false'. Refute it at one input. -/
def queueFullWrong : ChangeSpec := { name := "queueFull", fn := fun _ => fun
  | [d] => { results := [.lit (.bool false)], args := [d] }
  | _ => none }
def QueueFullWrongFalsely : Prop := queueFullRow.holds Try.pinned (OpenSpec.ofChange queueFullWrong)

/-- 'loggialaw25.QueueFlush': WHATEVER THE INPUT: true; the input reads as it did. -/
def queueFlushSpec : ChangeSpec := { name := "queueFlush", fn := fun _ => fun
  | [d1, d2] => { results := [.lit (.bool true)], args := [d1, d2] }
  | _ => none }
def queueFlushRow : OpenClaim := { program := "ytnccgmffgmfinaa", sum := "3e81ff0a8904a8e00c2c52c7798d6d5b2e6b5a8b3311b22c1f21e6d3df937215", func := "loggia/loggialaw25.QueueFlush", spec := "queueFlush", unfollowed := true, recurses := true, apart := false }
def QueueFlushSaid : Prop := queueFlushRow.holds Try.pinned (OpenSpec.ofChange queueFlushSpec)

/-- ITS FALSE NEIGHBOUR: 'it returns false'. Refute it at one input. -/
def queueFlushWrong : ChangeSpec := { name := "queueFlush", fn := fun _ => fun
  | [d1, d2] => { results := [.lit (.bool false)], args := [d1, d2] }
  | _ => none }
def QueueFlushWrongFalsely : Prop := queueFlushRow.holds Try.pinned (OpenSpec.ofChange queueFlushWrong)

/-- 'loggialaw21.TagsPlay': WHATEVER THE INPUT: true; the input reads as it did. -/
def tagsPlaySpec : ChangeSpec := { name := "tagsPlay", fn := fun _ => fun
  | [d1, d2] => { results := [.lit (.bool true)], args := [d1, d2] }
  | _ => none }
def tagsPlayRow : OpenClaim := { program := "ytnccgmffgmfinaa", sum := "3e81ff0a8904a8e00c2c52c7798d6d5b2e6b5a8b3311b22c1f21e6d3df937215", func := "loggia/loggialaw21.TagsPlay", spec := "tagsPlay", unfollowed := true, recurses := true, apart := false }
def TagsPlaySaid : Prop := tagsPlayRow.holds Try.pinned (OpenSpec.ofChange tagsPlaySpec)

/-- ITS FALSE NEIGHBOUR: 'it returns false'. Refute it at one input. -/
def tagsPlayWrong : ChangeSpec := { name := "tagsPlay", fn := fun _ => fun
  | [d1, d2] => { results := [.lit (.bool false)], args := [d1, d2] }
  | _ => none }
def TagsPlayWrongFalsely : Prop := tagsPlayRow.holds Try.pinned (OpenSpec.ofChange tagsPlayWrong)

/-- 'loggialaw21.TagsFull': WHATEVER THE INPUT: true; the input reads as it did. -/
def tagsFullSpec : ChangeSpec := { name := "tagsFull", fn := fun _ => fun
  | [d1, d2] => { results := [.lit (.bool true)], args := [d1, d2] }
  | _ => none }
def tagsFullRow : OpenClaim := { program := "ytnccgmffgmfinaa", sum := "3e81ff0a8904a8e00c2c52c7798d6d5b2e6b5a8b3311b22c1f21e6d3df937215", func := "loggia/loggialaw21.TagsFull", spec := "tagsFull", unfollowed := true, recurses := true, apart := false }
def TagsFullSaid : Prop := tagsFullRow.holds Try.pinned (OpenSpec.ofChange tagsFullSpec)

/-- ITS FALSE NEIGHBOUR: 'it returns false'. Refute it at one input. -/
def tagsFullWrong : ChangeSpec := { name := "tagsFull", fn := fun _ => fun
  | [d1, d2] => { results := [.lit (.bool false)], args := [d1, d2] }
  | _ => none }
def TagsFullWrongFalsely : Prop := tagsFullRow.holds Try.pinned (OpenSpec.ofChange tagsFullWrong)

/- THE SECOND FORM. 'bulk': how many values and letters a reading holds, each counted each time it is reached (what is shared counts as often as it is met; a slice's spare places count too). A statement '..UptoSaid' is the law's where the arguments, and the package variables that the reading takes, are together of bulk at most 1048576: NARROWER than '..Said'. Prove '..Said' where nothing that the law and all that it calls make is longer than what came in: it says more and counts as full. Else prove '..UptoSaid'. A law counts once. -/
mutual
def uptoBulk {H : Type} : DataW H → Nat
  | .lit (.string bytes) => bytes.length + 1
  | .lit _ => 1
  | .nil => 1
  | .ptr d => uptoBulk d + 1
  | .slice elems spare => uptoBulkAll elems + uptoBulkAll spare + 1
  | .agg parts => uptoBulkAll parts + 1
  | .iface _ d => uptoBulk d + 1
  | .map entries => uptoBulkEntries entries + 1
  | .held _ => 1
def uptoBulkAll {H : Type} : List (DataW H) → Nat
  | [] => 0
  | d :: r => uptoBulk d + uptoBulkAll r
def uptoBulkEntries {H : Type} : List (Lit × DataW H) → Nat
  | [] => 0
  | x :: r => uptoBulkEntry x + uptoBulkEntries r
def uptoBulkEntry {H : Type} : Lit × DataW H → Nat
  | (.string bytes, d) => bytes.length + uptoBulk d + 1
  | (_, d) => uptoBulk d + 1
 end
def uptoSmall : (H : Type) → List (DataW H) → Bool := fun _ ds => decide (uptoBulkAll ds ≤ 1048576)
def OpenSpec.upto (s : _root_.Go.ChangeSpec) : _root_.Go.OpenSpec := { _root_.Go.OpenSpec.ofChange s with cond := some uptoSmall }

/-- 'loggialaw12.BlocksFind', WHERE WHAT IT READS IS OF BULK AT MOST 1048576: true; the input reads as it did. -/
def blocksFindUptoRow : OpenClaim := { program := "ytnccgmffgmfinaa", sum := "3e81ff0a8904a8e00c2c52c7798d6d5b2e6b5a8b3311b22c1f21e6d3df937215", func := "loggia/loggialaw12.BlocksFind", spec := "blocksFind", unfollowed := true, recurses := true, apart := false, narrowed := true }
def BlocksFindUptoSaid : Prop := blocksFindUptoRow.holds Try.pinned (OpenSpec.upto blocksFindSpec)

/-- 'loggialaw12.BlocksBack', WHERE WHAT IT READS IS OF BULK AT MOST 1048576: true; the input reads as it did. -/
def blocksBackUptoRow : OpenClaim := { program := "ytnccgmffgmfinaa", sum := "3e81ff0a8904a8e00c2c52c7798d6d5b2e6b5a8b3311b22c1f21e6d3df937215", func := "loggia/loggialaw12.BlocksBack", spec := "blocksBack", unfollowed := true, recurses := true, apart := false, narrowed := true }
def BlocksBackUptoSaid : Prop := blocksBackUptoRow.holds Try.pinned (OpenSpec.upto blocksBackSpec)

/-- 'loggialaw12.BlocksTables', WHERE WHAT IT READS IS OF BULK AT MOST 1048576: true; the input reads as it did. -/
def blocksTablesUptoRow : OpenClaim := { program := "ytnccgmffgmfinaa", sum := "3e81ff0a8904a8e00c2c52c7798d6d5b2e6b5a8b3311b22c1f21e6d3df937215", func := "loggia/loggialaw12.BlocksTables", spec := "blocksTables", unfollowed := true, recurses := true, apart := false, narrowed := true }
def BlocksTablesUptoSaid : Prop := blocksTablesUptoRow.holds Try.pinned (OpenSpec.upto blocksTablesSpec)

/-- 'loggialaw12.BlocksOrder', WHERE WHAT IT READS IS OF BULK AT MOST 1048576: true; the input reads as it did. -/
def blocksOrderUptoRow : OpenClaim := { program := "ytnccgmffgmfinaa", sum := "3e81ff0a8904a8e00c2c52c7798d6d5b2e6b5a8b3311b22c1f21e6d3df937215", func := "loggia/loggialaw12.BlocksOrder", spec := "blocksOrder", unfollowed := true, recurses := true, apart := false, narrowed := true }
def BlocksOrderUptoSaid : Prop := blocksOrderUptoRow.holds Try.pinned (OpenSpec.upto blocksOrderSpec)

/-- 'loggialaw25.QueuePlays', WHERE WHAT IT READS IS OF BULK AT MOST 1048576: true; the input reads as it did. -/
def queuePlaysUptoRow : OpenClaim := { program := "ytnccgmffgmfinaa", sum := "3e81ff0a8904a8e00c2c52c7798d6d5b2e6b5a8b3311b22c1f21e6d3df937215", func := "loggia/loggialaw25.QueuePlays", spec := "queuePlays", unfollowed := true, recurses := true, apart := false, narrowed := true }
def QueuePlaysUptoSaid : Prop := queuePlaysUptoRow.holds Try.pinned (OpenSpec.upto queuePlaysSpec)

/-- 'loggialaw25.QueueOrder', WHERE WHAT IT READS IS OF BULK AT MOST 1048576: true; the input reads as it did. -/
def queueOrderUptoRow : OpenClaim := { program := "ytnccgmffgmfinaa", sum := "3e81ff0a8904a8e00c2c52c7798d6d5b2e6b5a8b3311b22c1f21e6d3df937215", func := "loggia/loggialaw25.QueueOrder", spec := "queueOrder", unfollowed := true, recurses := true, apart := false, narrowed := true }
def QueueOrderUptoSaid : Prop := queueOrderUptoRow.holds Try.pinned (OpenSpec.upto queueOrderSpec)

/-- 'loggialaw25.QueueFull', WHERE WHAT IT READS IS OF BULK AT MOST 1048576: true; the input reads as it did. -/
def queueFullUptoRow : OpenClaim := { program := "ytnccgmffgmfinaa", sum := "3e81ff0a8904a8e00c2c52c7798d6d5b2e6b5a8b3311b22c1f21e6d3df937215", func := "loggia/loggialaw25.QueueFull", spec := "queueFull", unfollowed := true, recurses := true, apart := false, narrowed := true }
def QueueFullUptoSaid : Prop := queueFullUptoRow.holds Try.pinned (OpenSpec.upto queueFullSpec)

/-- 'loggialaw25.QueueFlush', WHERE WHAT IT READS IS OF BULK AT MOST 1048576: true; the input reads as it did. -/
def queueFlushUptoRow : OpenClaim := { program := "ytnccgmffgmfinaa", sum := "3e81ff0a8904a8e00c2c52c7798d6d5b2e6b5a8b3311b22c1f21e6d3df937215", func := "loggia/loggialaw25.QueueFlush", spec := "queueFlush", unfollowed := true, recurses := true, apart := false, narrowed := true }
def QueueFlushUptoSaid : Prop := queueFlushUptoRow.holds Try.pinned (OpenSpec.upto queueFlushSpec)

/-- 'loggialaw21.TagsPlay', WHERE WHAT IT READS IS OF BULK AT MOST 1048576: true; the input reads as it did. -/
def tagsPlayUptoRow : OpenClaim := { program := "ytnccgmffgmfinaa", sum := "3e81ff0a8904a8e00c2c52c7798d6d5b2e6b5a8b3311b22c1f21e6d3df937215", func := "loggia/loggialaw21.TagsPlay", spec := "tagsPlay", unfollowed := true, recurses := true, apart := false, narrowed := true }
def TagsPlayUptoSaid : Prop := tagsPlayUptoRow.holds Try.pinned (OpenSpec.upto tagsPlaySpec)

/-- 'loggialaw21.TagsFull', WHERE WHAT IT READS IS OF BULK AT MOST 1048576: true; the input reads as it did. -/
def tagsFullUptoRow : OpenClaim := { program := "ytnccgmffgmfinaa", sum := "3e81ff0a8904a8e00c2c52c7798d6d5b2e6b5a8b3311b22c1f21e6d3df937215", func := "loggia/loggialaw21.TagsFull", spec := "tagsFull", unfollowed := true, recurses := true, apart := false, narrowed := true }
def TagsFullUptoSaid : Prop := tagsFullUptoRow.holds Try.pinned (OpenSpec.upto tagsFullSpec)

end Rows
end Go.Proofs.Ytnccgmffgmfinaa
