/-
  No cell of these rows narrows 'for every input' (looked for: loops, veiled, ifaces, maps, wideKeys, modest, calm, conditions, laid).
  DERIVED. THE GIVEN ROWS OF THIS SEAT. 11 by the template 'for every input the law returns true; each argument reads behind the call as it read before'; 0 by the template 'total and deterministic' (their statements: YtblmbchjafffbaaTotals.lean).
  GIVEN WITH THE SEED: the statements are not yours to turn. If you find one false, say at which input.
  Laid BY PROGRAM, IN A SANDBOX (cutbox-rows.mjs): the forced cells as the released guide's own fill.sh prints them over the translation b167d4cd9f826614… (all of the seat's roots in one cut). By AI agents, Wed Nov 11 2026. No macro, syntax, notation, axiom, sorry.
-/
import Derived.Test.YtblmbchjafffbaaChecked
import GoSem.Claim
import GoSem.ClaimJoined
import GoSem.ClaimMapViews
import Derived.JoinedTies
import Derived.KernelRfl
namespace Go.Proofs.Ytblmbchjafffbaa
/- THE CELL 'sum', in the pinned program and in every row, IS THE sha256 OF THE DUMP (.gsa) THAT YtblmbchjafffbaaProg.lean LOADS. Nothing in Lean hashes anything: it is a label: what it is worth is what the hold of that sum in a sandbox is worth. -/
noncomputable def Try.pinned : Pinned := { name := "ytblmbchjafffbaa", sum := "b167d4cd9f8266144299955475fd345f0a71ef0f78d5f16bed1258129596c119", checked := Try.checked }
namespace Rows
def none {H : Type} : Left H := { results := [], args := [] }

/-- 'loggialaw6.FrameBack': WHATEVER THE INPUT: true; the input reads as it did. -/
def frameBackSpec : ChangeSpec := { name := "frameBack", fn := fun _ => fun
  | [d1, d2] => { results := [.lit (.bool true)], args := [d1, d2] }
  | _ => none }
def frameBackRow : OpenClaim := { program := "ytblmbchjafffbaa", sum := "b167d4cd9f8266144299955475fd345f0a71ef0f78d5f16bed1258129596c119", func := "loggia/loggialaw6.FrameBack", spec := "frameBack", apart := false }
def FrameBackSaid : Prop := frameBackRow.holds Try.pinned (OpenSpec.ofChange frameBackSpec)

/-- ITS FALSE NEIGHBOUR: 'it returns false'. Refute it at one input. -/
def frameBackWrong : ChangeSpec := { name := "frameBack", fn := fun _ => fun
  | [d1, d2] => { results := [.lit (.bool false)], args := [d1, d2] }
  | _ => none }
def FrameBackWrongFalsely : Prop := frameBackRow.holds Try.pinned (OpenSpec.ofChange frameBackWrong)

/-- 'loggialaw6.FrameSizes': WHATEVER THE INPUT: true; the input reads as it did. -/
def frameSizesSpec : ChangeSpec := { name := "frameSizes", fn := fun _ => fun
  | [d1, d2] => { results := [.lit (.bool true)], args := [d1, d2] }
  | _ => none }
def frameSizesRow : OpenClaim := { program := "ytblmbchjafffbaa", sum := "b167d4cd9f8266144299955475fd345f0a71ef0f78d5f16bed1258129596c119", func := "loggia/loggialaw6.FrameSizes", spec := "frameSizes", apart := false }
def FrameSizesSaid : Prop := frameSizesRow.holds Try.pinned (OpenSpec.ofChange frameSizesSpec)

/-- ITS FALSE NEIGHBOUR: 'it returns false'. Refute it at one input. -/
def frameSizesWrong : ChangeSpec := { name := "frameSizes", fn := fun _ => fun
  | [d1, d2] => { results := [.lit (.bool false)], args := [d1, d2] }
  | _ => none }
def FrameSizesWrongFalsely : Prop := frameSizesRow.holds Try.pinned (OpenSpec.ofChange frameSizesWrong)

/-- 'loggialaw6.FrameEach': WHATEVER THE INPUT: true; the input reads as it did. -/
def frameEachSpec : ChangeSpec := { name := "frameEach", fn := fun _ => fun
  | [d] => { results := [.lit (.bool true)], args := [d] }
  | _ => none }
def frameEachRow : OpenClaim := { program := "ytblmbchjafffbaa", sum := "b167d4cd9f8266144299955475fd345f0a71ef0f78d5f16bed1258129596c119", func := "loggia/loggialaw6.FrameEach", spec := "frameEach", apart := false }
def FrameEachSaid : Prop := frameEachRow.holds Try.pinned (OpenSpec.ofChange frameEachSpec)

/-- ITS FALSE NEIGHBOUR: 'it returns false'. Refute it at one input. -/
def frameEachWrong : ChangeSpec := { name := "frameEach", fn := fun _ => fun
  | [d] => { results := [.lit (.bool false)], args := [d] }
  | _ => none }
def FrameEachWrongFalsely : Prop := frameEachRow.holds Try.pinned (OpenSpec.ofChange frameEachWrong)

/-- 'loggialaw6.FrameBytes': WHATEVER THE INPUT: true; the input reads as it did. -/
def frameBytesSpec : ChangeSpec := { name := "frameBytes", fn := fun _ => fun
  | [d1, d2, d3] => { results := [.lit (.bool true)], args := [d1, d2, d3] }
  | _ => none }
def frameBytesRow : OpenClaim := { program := "ytblmbchjafffbaa", sum := "b167d4cd9f8266144299955475fd345f0a71ef0f78d5f16bed1258129596c119", func := "loggia/loggialaw6.FrameBytes", spec := "frameBytes", apart := false }
def FrameBytesSaid : Prop := frameBytesRow.holds Try.pinned (OpenSpec.ofChange frameBytesSpec)

/-- ITS FALSE NEIGHBOUR: 'it returns false'. Refute it at one input. -/
def frameBytesWrong : ChangeSpec := { name := "frameBytes", fn := fun _ => fun
  | [d1, d2, d3] => { results := [.lit (.bool false)], args := [d1, d2, d3] }
  | _ => none }
def FrameBytesWrongFalsely : Prop := frameBytesRow.holds Try.pinned (OpenSpec.ofChange frameBytesWrong)

/-- 'loggialaw11.InodeBack': WHATEVER THE INPUT: true; the input reads as it did. -/
def inodeBackSpec : ChangeSpec := { name := "inodeBack", fn := fun _ => fun
  | [d] => { results := [.lit (.bool true)], args := [d] }
  | _ => none }
def inodeBackRow : OpenClaim := { program := "ytblmbchjafffbaa", sum := "b167d4cd9f8266144299955475fd345f0a71ef0f78d5f16bed1258129596c119", func := "loggia/loggialaw11.InodeBack", spec := "inodeBack", unfollowed := true, recurses := true, apart := false }
def InodeBackSaid : Prop := inodeBackRow.holds Try.pinned (OpenSpec.ofChange inodeBackSpec)

/-- ITS FALSE NEIGHBOUR: 'it returns false'. Refute it at one input. -/
def inodeBackWrong : ChangeSpec := { name := "inodeBack", fn := fun _ => fun
  | [d] => { results := [.lit (.bool false)], args := [d] }
  | _ => none }
def InodeBackWrongFalsely : Prop := inodeBackRow.holds Try.pinned (OpenSpec.ofChange inodeBackWrong)

/-- 'loggialaw11.InodeBytes': WHATEVER THE INPUT: true; the input reads as it did. -/
def inodeBytesSpec : ChangeSpec := { name := "inodeBytes", fn := fun _ => fun
  | [d] => { results := [.lit (.bool true)], args := [d] }
  | _ => none }
def inodeBytesRow : OpenClaim := { program := "ytblmbchjafffbaa", sum := "b167d4cd9f8266144299955475fd345f0a71ef0f78d5f16bed1258129596c119", func := "loggia/loggialaw11.InodeBytes", spec := "inodeBytes", unfollowed := true, recurses := true, apart := false }
def InodeBytesSaid : Prop := inodeBytesRow.holds Try.pinned (OpenSpec.ofChange inodeBytesSpec)

/-- ITS FALSE NEIGHBOUR: 'it returns false'. Refute it at one input. -/
def inodeBytesWrong : ChangeSpec := { name := "inodeBytes", fn := fun _ => fun
  | [d] => { results := [.lit (.bool false)], args := [d] }
  | _ => none }
def InodeBytesWrongFalsely : Prop := inodeBytesRow.holds Try.pinned (OpenSpec.ofChange inodeBytesWrong)

/-- 'loggialaw11.InodeBlocks': WHATEVER THE INPUT: true; the input reads as it did. -/
def inodeBlocksSpec : ChangeSpec := { name := "inodeBlocks", fn := fun _ => fun
  | [d1, d2] => { results := [.lit (.bool true)], args := [d1, d2] }
  | _ => none }
def inodeBlocksRow : OpenClaim := { program := "ytblmbchjafffbaa", sum := "b167d4cd9f8266144299955475fd345f0a71ef0f78d5f16bed1258129596c119", func := "loggia/loggialaw11.InodeBlocks", spec := "inodeBlocks", unfollowed := true, recurses := true, apart := false }
def InodeBlocksSaid : Prop := inodeBlocksRow.holds Try.pinned (OpenSpec.ofChange inodeBlocksSpec)

/-- ITS FALSE NEIGHBOUR: 'it returns false'. Refute it at one input. -/
def inodeBlocksWrong : ChangeSpec := { name := "inodeBlocks", fn := fun _ => fun
  | [d1, d2] => { results := [.lit (.bool false)], args := [d1, d2] }
  | _ => none }
def InodeBlocksWrongFalsely : Prop := inodeBlocksRow.holds Try.pinned (OpenSpec.ofChange inodeBlocksWrong)

/-- 'loggialaw11.InodeTurned': WHATEVER THE INPUT: true; the input reads as it did. -/
def inodeTurnedSpec : ChangeSpec := { name := "inodeTurned", fn := fun _ => fun
  | [d1, d2, d3] => { results := [.lit (.bool true)], args := [d1, d2, d3] }
  | _ => none }
def inodeTurnedRow : OpenClaim := { program := "ytblmbchjafffbaa", sum := "b167d4cd9f8266144299955475fd345f0a71ef0f78d5f16bed1258129596c119", func := "loggia/loggialaw11.InodeTurned", spec := "inodeTurned", unfollowed := true, recurses := true, apart := false }
def InodeTurnedSaid : Prop := inodeTurnedRow.holds Try.pinned (OpenSpec.ofChange inodeTurnedSpec)

/-- ITS FALSE NEIGHBOUR: 'it returns false'. Refute it at one input. -/
def inodeTurnedWrong : ChangeSpec := { name := "inodeTurned", fn := fun _ => fun
  | [d1, d2, d3] => { results := [.lit (.bool false)], args := [d1, d2, d3] }
  | _ => none }
def InodeTurnedWrongFalsely : Prop := inodeTurnedRow.holds Try.pinned (OpenSpec.ofChange inodeTurnedWrong)

/-- 'loggialaw10.GeomBytes': WHATEVER THE INPUT: true; the input reads as it did. -/
def geomBytesSpec : ChangeSpec := { name := "geomBytes", fn := fun _ => fun
  | [d1, d2] => { results := [.lit (.bool true)], args := [d1, d2] }
  | _ => none }
def geomBytesRow : OpenClaim := { program := "ytblmbchjafffbaa", sum := "b167d4cd9f8266144299955475fd345f0a71ef0f78d5f16bed1258129596c119", func := "loggia/loggialaw10.GeomBytes", spec := "geomBytes", unfollowed := true, recurses := true, apart := false }
def GeomBytesSaid : Prop := geomBytesRow.holds Try.pinned (OpenSpec.ofChange geomBytesSpec)

/-- ITS FALSE NEIGHBOUR: 'it returns false'. Refute it at one input. -/
def geomBytesWrong : ChangeSpec := { name := "geomBytes", fn := fun _ => fun
  | [d1, d2] => { results := [.lit (.bool false)], args := [d1, d2] }
  | _ => none }
def GeomBytesWrongFalsely : Prop := geomBytesRow.holds Try.pinned (OpenSpec.ofChange geomBytesWrong)

/-- 'loggialaw10.GeomForm': WHATEVER THE INPUT: true; the input reads as it did. -/
def geomFormSpec : ChangeSpec := { name := "geomForm", fn := fun _ => fun
  | [d] => { results := [.lit (.bool true)], args := [d] }
  | _ => none }
def geomFormRow : OpenClaim := { program := "ytblmbchjafffbaa", sum := "b167d4cd9f8266144299955475fd345f0a71ef0f78d5f16bed1258129596c119", func := "loggia/loggialaw10.GeomForm", spec := "geomForm", unfollowed := true, recurses := true, apart := false }
def GeomFormSaid : Prop := geomFormRow.holds Try.pinned (OpenSpec.ofChange geomFormSpec)

/-- ITS FALSE NEIGHBOUR: 'it returns false'. Refute it at one input. -/
def geomFormWrong : ChangeSpec := { name := "geomForm", fn := fun _ => fun
  | [d] => { results := [.lit (.bool false)], args := [d] }
  | _ => none }
def GeomFormWrongFalsely : Prop := geomFormRow.holds Try.pinned (OpenSpec.ofChange geomFormWrong)

/-- 'loggialaw10.GeomApart': WHATEVER THE INPUT: true; the input reads as it did. -/
def geomApartSpec : ChangeSpec := { name := "geomApart", fn := fun _ => fun
  | [d1, d2, d3] => { results := [.lit (.bool true)], args := [d1, d2, d3] }
  | _ => none }
def geomApartRow : OpenClaim := { program := "ytblmbchjafffbaa", sum := "b167d4cd9f8266144299955475fd345f0a71ef0f78d5f16bed1258129596c119", func := "loggia/loggialaw10.GeomApart", spec := "geomApart", unfollowed := true, recurses := true, apart := false }
def GeomApartSaid : Prop := geomApartRow.holds Try.pinned (OpenSpec.ofChange geomApartSpec)

/-- ITS FALSE NEIGHBOUR: 'it returns false'. Refute it at one input. -/
def geomApartWrong : ChangeSpec := { name := "geomApart", fn := fun _ => fun
  | [d1, d2, d3] => { results := [.lit (.bool false)], args := [d1, d2, d3] }
  | _ => none }
def GeomApartWrongFalsely : Prop := geomApartRow.holds Try.pinned (OpenSpec.ofChange geomApartWrong)

/- THE SECOND FORM. 'bulk': how many values and letters a reading holds, each counted each time it is reached (what is shared counts as often as it is met; a slice's spare places count too). A statement '..UptoSaid' is the law's where the arguments, and the package variables that the reading takes, are together of bulk at most 1048576: NARROWER than '..Said'. Prove '..Said' where nothing that the law and all that it calls make is longer than what came in: it says more and counts as full. Else prove '..UptoSaid'. A law counts once. -/
mutual
def uptoBulk {H : Type} : DataW H → Nat
  | .lit (.string bytes) => bytes.length + 1
  | .lit _ => 1
  | .nil => 1
  | .ptr d => uptoBulk d + 1
  | .slice elems spare => uptoBulkAll elems + uptoBulkAll spare + 1
  | .agg parts => uptoBulkAll parts + 1
  | .iface _ d => uptoBulk d + 1
  | .map entries => uptoBulkEntries entries + 1
  | .held _ => 1
def uptoBulkAll {H : Type} : List (DataW H) → Nat
  | [] => 0
  | d :: r => uptoBulk d + uptoBulkAll r
def uptoBulkEntries {H : Type} : List (Lit × DataW H) → Nat
  | [] => 0
  | x :: r => uptoBulkEntry x + uptoBulkEntries r
def uptoBulkEntry {H : Type} : Lit × DataW H → Nat
  | (.string bytes, d) => bytes.length + uptoBulk d + 1
  | (_, d) => uptoBulk d + 1
 end
def uptoSmall : (H : Type) → List (DataW H) → Bool := fun _ ds => decide (uptoBulkAll ds ≤ 1048576)
def OpenSpec.upto (s : _root_.Go.ChangeSpec) : _root_.Go.OpenSpec := { _root_.Go.OpenSpec.ofChange s with cond := some uptoSmall }

/-- 'loggialaw6.FrameBack', WHERE WHAT IT READS IS OF BULK AT MOST 1048576: true; the input reads as it did. -/
def frameBackUptoRow : OpenClaim := { program := "ytblmbchjafffbaa", sum := "b167d4cd9f8266144299955475fd345f0a71ef0f78d5f16bed1258129596c119", func := "loggia/loggialaw6.FrameBack", spec := "frameBack", apart := false, narrowed := true }
def FrameBackUptoSaid : Prop := frameBackUptoRow.holds Try.pinned (OpenSpec.upto frameBackSpec)

/-- 'loggialaw6.FrameSizes', WHERE WHAT IT READS IS OF BULK AT MOST 1048576: true; the input reads as it did. -/
def frameSizesUptoRow : OpenClaim := { program := "ytblmbchjafffbaa", sum := "b167d4cd9f8266144299955475fd345f0a71ef0f78d5f16bed1258129596c119", func := "loggia/loggialaw6.FrameSizes", spec := "frameSizes", apart := false, narrowed := true }
def FrameSizesUptoSaid : Prop := frameSizesUptoRow.holds Try.pinned (OpenSpec.upto frameSizesSpec)

/-- 'loggialaw6.FrameEach', WHERE WHAT IT READS IS OF BULK AT MOST 1048576: true; the input reads as it did. -/
def frameEachUptoRow : OpenClaim := { program := "ytblmbchjafffbaa", sum := "b167d4cd9f8266144299955475fd345f0a71ef0f78d5f16bed1258129596c119", func := "loggia/loggialaw6.FrameEach", spec := "frameEach", apart := false, narrowed := true }
def FrameEachUptoSaid : Prop := frameEachUptoRow.holds Try.pinned (OpenSpec.upto frameEachSpec)

/-- 'loggialaw6.FrameBytes', WHERE WHAT IT READS IS OF BULK AT MOST 1048576: true; the input reads as it did. -/
def frameBytesUptoRow : OpenClaim := { program := "ytblmbchjafffbaa", sum := "b167d4cd9f8266144299955475fd345f0a71ef0f78d5f16bed1258129596c119", func := "loggia/loggialaw6.FrameBytes", spec := "frameBytes", apart := false, narrowed := true }
def FrameBytesUptoSaid : Prop := frameBytesUptoRow.holds Try.pinned (OpenSpec.upto frameBytesSpec)

/-- 'loggialaw11.InodeBack', WHERE WHAT IT READS IS OF BULK AT MOST 1048576: true; the input reads as it did. -/
def inodeBackUptoRow : OpenClaim := { program := "ytblmbchjafffbaa", sum := "b167d4cd9f8266144299955475fd345f0a71ef0f78d5f16bed1258129596c119", func := "loggia/loggialaw11.InodeBack", spec := "inodeBack", unfollowed := true, recurses := true, apart := false, narrowed := true }
def InodeBackUptoSaid : Prop := inodeBackUptoRow.holds Try.pinned (OpenSpec.upto inodeBackSpec)

/-- 'loggialaw11.InodeBytes', WHERE WHAT IT READS IS OF BULK AT MOST 1048576: true; the input reads as it did. -/
def inodeBytesUptoRow : OpenClaim := { program := "ytblmbchjafffbaa", sum := "b167d4cd9f8266144299955475fd345f0a71ef0f78d5f16bed1258129596c119", func := "loggia/loggialaw11.InodeBytes", spec := "inodeBytes", unfollowed := true, recurses := true, apart := false, narrowed := true }
def InodeBytesUptoSaid : Prop := inodeBytesUptoRow.holds Try.pinned (OpenSpec.upto inodeBytesSpec)

/-- 'loggialaw11.InodeBlocks', WHERE WHAT IT READS IS OF BULK AT MOST 1048576: true; the input reads as it did. -/
def inodeBlocksUptoRow : OpenClaim := { program := "ytblmbchjafffbaa", sum := "b167d4cd9f8266144299955475fd345f0a71ef0f78d5f16bed1258129596c119", func := "loggia/loggialaw11.InodeBlocks", spec := "inodeBlocks", unfollowed := true, recurses := true, apart := false, narrowed := true }
def InodeBlocksUptoSaid : Prop := inodeBlocksUptoRow.holds Try.pinned (OpenSpec.upto inodeBlocksSpec)

/-- 'loggialaw11.InodeTurned', WHERE WHAT IT READS IS OF BULK AT MOST 1048576: true; the input reads as it did. -/
def inodeTurnedUptoRow : OpenClaim := { program := "ytblmbchjafffbaa", sum := "b167d4cd9f8266144299955475fd345f0a71ef0f78d5f16bed1258129596c119", func := "loggia/loggialaw11.InodeTurned", spec := "inodeTurned", unfollowed := true, recurses := true, apart := false, narrowed := true }
def InodeTurnedUptoSaid : Prop := inodeTurnedUptoRow.holds Try.pinned (OpenSpec.upto inodeTurnedSpec)

/-- 'loggialaw10.GeomBytes', WHERE WHAT IT READS IS OF BULK AT MOST 1048576: true; the input reads as it did. -/
def geomBytesUptoRow : OpenClaim := { program := "ytblmbchjafffbaa", sum := "b167d4cd9f8266144299955475fd345f0a71ef0f78d5f16bed1258129596c119", func := "loggia/loggialaw10.GeomBytes", spec := "geomBytes", unfollowed := true, recurses := true, apart := false, narrowed := true }
def GeomBytesUptoSaid : Prop := geomBytesUptoRow.holds Try.pinned (OpenSpec.upto geomBytesSpec)

/-- 'loggialaw10.GeomForm', WHERE WHAT IT READS IS OF BULK AT MOST 1048576: true; the input reads as it did. -/
def geomFormUptoRow : OpenClaim := { program := "ytblmbchjafffbaa", sum := "b167d4cd9f8266144299955475fd345f0a71ef0f78d5f16bed1258129596c119", func := "loggia/loggialaw10.GeomForm", spec := "geomForm", unfollowed := true, recurses := true, apart := false, narrowed := true }
def GeomFormUptoSaid : Prop := geomFormUptoRow.holds Try.pinned (OpenSpec.upto geomFormSpec)

/-- 'loggialaw10.GeomApart', WHERE WHAT IT READS IS OF BULK AT MOST 1048576: true; the input reads as it did. -/
def geomApartUptoRow : OpenClaim := { program := "ytblmbchjafffbaa", sum := "b167d4cd9f8266144299955475fd345f0a71ef0f78d5f16bed1258129596c119", func := "loggia/loggialaw10.GeomApart", spec := "geomApart", unfollowed := true, recurses := true, apart := false, narrowed := true }
def GeomApartUptoSaid : Prop := geomApartUptoRow.holds Try.pinned (OpenSpec.upto geomApartSpec)

end Rows
end Go.Proofs.Ytblmbchjafffbaa
