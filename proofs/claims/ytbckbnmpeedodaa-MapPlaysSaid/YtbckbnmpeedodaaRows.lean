/-
  No cell of these rows narrows 'for every input' (looked for: loops, veiled, ifaces, maps, wideKeys, modest, calm, conditions, laid).
  DERIVED. THE GIVEN ROWS OF THIS SEAT. 9 by the template 'for every input the law returns true; each argument reads behind the call as it read before'; 0 by the template 'total and deterministic' (their statements: YtbckbnmpeedodaaTotals.lean).
  GIVEN WITH THE SEED: the statements are not yours to turn. If you find one false, say at which input.
  Laid BY PROGRAM, IN A SANDBOX (cutbox-rows.mjs): the forced cells as the released guide's own fill.sh prints them over the translation 635a100ba96af7e2… (all of the seat's roots in one cut). By AI agents, Wed Nov 11 2026. No macro, syntax, notation, axiom, sorry.
-/
import Derived.Test.YtbckbnmpeedodaaChecked
import GoSem.Claim
import GoSem.ClaimJoined
import GoSem.ClaimMapViews
import Derived.JoinedTies
import Derived.KernelRfl
namespace Go.Proofs.Ytbckbnmpeedodaa
/- THE CELL 'sum', in the pinned program and in every row, IS THE sha256 OF THE DUMP (.gsa) THAT YtbckbnmpeedodaaProg.lean LOADS. Nothing in Lean hashes anything: it is a label: what it is worth is what the hold of that sum in a sandbox is worth. -/
noncomputable def Try.pinned : Pinned := { name := "ytbckbnmpeedodaa", sum := "635a100ba96af7e2b3f194c595fb651d1859926b51cdac30a5a92655f58abb04", checked := Try.checked }
namespace Rows
def none {H : Type} : Left H := { results := [], args := [] }

/-- 'loggialaw3.QidBack': WHATEVER THE INPUT: true; the input reads as it did. -/
def qidBackSpec : ChangeSpec := { name := "qidBack", fn := fun _ => fun
  | [d1, d2] => { results := [.lit (.bool true)], args := [d1, d2] }
  | _ => none }
def qidBackRow : OpenClaim := { program := "ytbckbnmpeedodaa", sum := "635a100ba96af7e2b3f194c595fb651d1859926b51cdac30a5a92655f58abb04", func := "loggia/loggialaw3.QidBack", spec := "qidBack", apart := false }
def QidBackSaid : Prop := qidBackRow.holds Try.pinned (OpenSpec.ofChange qidBackSpec)

/-- ITS FALSE NEIGHBOUR: 'it returns false'. Refute it at one input. -/
def qidBackWrong : ChangeSpec := { name := "qidBack", fn := fun _ => fun
  | [d1, d2] => { results := [.lit (.bool false)], args := [d1, d2] }
  | _ => none }
def QidBackWrongFalsely : Prop := qidBackRow.holds Try.pinned (OpenSpec.ofChange qidBackWrong)

/-- 'loggialaw3.QidShort': WHATEVER THE INPUT: true; the input reads as it did. -/
def qidShortSpec : ChangeSpec := { name := "qidShort", fn := fun _ => fun
  | [d1, d2] => { results := [.lit (.bool true)], args := [d1, d2] }
  | _ => none }
def qidShortRow : OpenClaim := { program := "ytbckbnmpeedodaa", sum := "635a100ba96af7e2b3f194c595fb651d1859926b51cdac30a5a92655f58abb04", func := "loggia/loggialaw3.QidShort", spec := "qidShort", apart := false }
def QidShortSaid : Prop := qidShortRow.holds Try.pinned (OpenSpec.ofChange qidShortSpec)

/-- ITS FALSE NEIGHBOUR: 'it returns false'. Refute it at one input. -/
def qidShortWrong : ChangeSpec := { name := "qidShort", fn := fun _ => fun
  | [d1, d2] => { results := [.lit (.bool false)], args := [d1, d2] }
  | _ => none }
def QidShortWrongFalsely : Prop := qidShortRow.holds Try.pinned (OpenSpec.ofChange qidShortWrong)

/-- 'loggialaw1.NumBack': WHATEVER THE INPUT: true; the input reads as it did. -/
def numBackSpec : ChangeSpec := { name := "numBack", fn := fun _ => fun
  | [d] => { results := [.lit (.bool true)], args := [d] }
  | _ => none }
def numBackRow : OpenClaim := { program := "ytbckbnmpeedodaa", sum := "635a100ba96af7e2b3f194c595fb651d1859926b51cdac30a5a92655f58abb04", func := "loggia/loggialaw1.NumBack", spec := "numBack", apart := false }
def NumBackSaid : Prop := numBackRow.holds Try.pinned (OpenSpec.ofChange numBackSpec)

/-- ITS FALSE NEIGHBOUR: 'it returns false'. Refute it at one input. -/
def numBackWrong : ChangeSpec := { name := "numBack", fn := fun _ => fun
  | [d] => { results := [.lit (.bool false)], args := [d] }
  | _ => none }
def NumBackWrongFalsely : Prop := numBackRow.holds Try.pinned (OpenSpec.ofChange numBackWrong)

/-- 'loggialaw1.NumBytes': WHATEVER THE INPUT: true; the input reads as it did. -/
def numBytesSpec : ChangeSpec := { name := "numBytes", fn := fun _ => fun
  | [d1, d2] => { results := [.lit (.bool true)], args := [d1, d2] }
  | _ => none }
def numBytesRow : OpenClaim := { program := "ytbckbnmpeedodaa", sum := "635a100ba96af7e2b3f194c595fb651d1859926b51cdac30a5a92655f58abb04", func := "loggia/loggialaw1.NumBytes", spec := "numBytes", apart := false }
def NumBytesSaid : Prop := numBytesRow.holds Try.pinned (OpenSpec.ofChange numBytesSpec)

/-- ITS FALSE NEIGHBOUR: 'it returns false'. Refute it at one input. -/
def numBytesWrong : ChangeSpec := { name := "numBytes", fn := fun _ => fun
  | [d1, d2] => { results := [.lit (.bool false)], args := [d1, d2] }
  | _ => none }
def NumBytesWrongFalsely : Prop := numBytesRow.holds Try.pinned (OpenSpec.ofChange numBytesWrong)

/-- 'loggialaw1.NumWide': WHATEVER THE INPUT: true; the input reads as it did. -/
def numWideSpec : ChangeSpec := { name := "numWide", fn := fun _ => fun
  | [d1, d2] => { results := [.lit (.bool true)], args := [d1, d2] }
  | _ => none }
def numWideRow : OpenClaim := { program := "ytbckbnmpeedodaa", sum := "635a100ba96af7e2b3f194c595fb651d1859926b51cdac30a5a92655f58abb04", func := "loggia/loggialaw1.NumWide", spec := "numWide", apart := false }
def NumWideSaid : Prop := numWideRow.holds Try.pinned (OpenSpec.ofChange numWideSpec)

/-- ITS FALSE NEIGHBOUR: 'it returns false'. Refute it at one input. -/
def numWideWrong : ChangeSpec := { name := "numWide", fn := fun _ => fun
  | [d1, d2] => { results := [.lit (.bool false)], args := [d1, d2] }
  | _ => none }
def NumWideWrongFalsely : Prop := numWideRow.holds Try.pinned (OpenSpec.ofChange numWideWrong)

/-- 'loggialaw9.MapBytes': WHATEVER THE INPUT: true; the input reads as it did. -/
def mapBytesSpec : ChangeSpec := { name := "mapBytes", fn := fun _ => fun
  | [d1, d2] => { results := [.lit (.bool true)], args := [d1, d2] }
  | _ => none }
def mapBytesRow : OpenClaim := { program := "ytbckbnmpeedodaa", sum := "635a100ba96af7e2b3f194c595fb651d1859926b51cdac30a5a92655f58abb04", func := "loggia/loggialaw9.MapBytes", spec := "mapBytes", apart := false }
def MapBytesSaid : Prop := mapBytesRow.holds Try.pinned (OpenSpec.ofChange mapBytesSpec)

/-- ITS FALSE NEIGHBOUR: 'it returns false'. Refute it at one input. -/
def mapBytesWrong : ChangeSpec := { name := "mapBytes", fn := fun _ => fun
  | [d1, d2] => { results := [.lit (.bool false)], args := [d1, d2] }
  | _ => none }
def MapBytesWrongFalsely : Prop := mapBytesRow.holds Try.pinned (OpenSpec.ofChange mapBytesWrong)

/-- 'loggialaw9.MapFull': WHATEVER THE INPUT: true; the input reads as it did. -/
def mapFullSpec : ChangeSpec := { name := "mapFull", fn := fun _ => fun
  | [d1, d2] => { results := [.lit (.bool true)], args := [d1, d2] }
  | _ => none }
def mapFullRow : OpenClaim := { program := "ytbckbnmpeedodaa", sum := "635a100ba96af7e2b3f194c595fb651d1859926b51cdac30a5a92655f58abb04", func := "loggia/loggialaw9.MapFull", spec := "mapFull", apart := false }
def MapFullSaid : Prop := mapFullRow.holds Try.pinned (OpenSpec.ofChange mapFullSpec)

/-- ITS FALSE NEIGHBOUR: 'it returns false'. Refute it at one input. -/
def mapFullWrong : ChangeSpec := { name := "mapFull", fn := fun _ => fun
  | [d1, d2] => { results := [.lit (.bool false)], args := [d1, d2] }
  | _ => none }
def MapFullWrongFalsely : Prop := mapFullRow.holds Try.pinned (OpenSpec.ofChange mapFullWrong)

/-- 'loggialaw3.QidRow': WHATEVER THE INPUT: true; the input reads as it did. -/
def qidRowSpec : ChangeSpec := { name := "qidRow", fn := fun _ => fun
  | [d] => { results := [.lit (.bool true)], args := [d] }
  | _ => none }
def qidRowRow : OpenClaim := { program := "ytbckbnmpeedodaa", sum := "635a100ba96af7e2b3f194c595fb651d1859926b51cdac30a5a92655f58abb04", func := "loggia/loggialaw3.QidRow", spec := "qidRow", apart := false }
def QidRowSaid : Prop := qidRowRow.holds Try.pinned (OpenSpec.ofChange qidRowSpec)

/-- ITS FALSE NEIGHBOUR: 'it returns false'. Refute it at one input. -/
def qidRowWrong : ChangeSpec := { name := "qidRow", fn := fun _ => fun
  | [d] => { results := [.lit (.bool false)], args := [d] }
  | _ => none }
def QidRowWrongFalsely : Prop := qidRowRow.holds Try.pinned (OpenSpec.ofChange qidRowWrong)

/-- 'loggialaw9.MapPlays': WHATEVER THE INPUT: true; the input reads as it did. -/
def mapPlaysSpec : ChangeSpec := { name := "mapPlays", fn := fun _ => fun
  | [d1, d2] => { results := [.lit (.bool true)], args := [d1, d2] }
  | _ => none }
def mapPlaysRow : OpenClaim := { program := "ytbckbnmpeedodaa", sum := "635a100ba96af7e2b3f194c595fb651d1859926b51cdac30a5a92655f58abb04", func := "loggia/loggialaw9.MapPlays", spec := "mapPlays", apart := false }
def MapPlaysSaid : Prop := mapPlaysRow.holds Try.pinned (OpenSpec.ofChange mapPlaysSpec)

/-- ITS FALSE NEIGHBOUR: 'it returns false'. Refute it at one input. -/
def mapPlaysWrong : ChangeSpec := { name := "mapPlays", fn := fun _ => fun
  | [d1, d2] => { results := [.lit (.bool false)], args := [d1, d2] }
  | _ => none }
def MapPlaysWrongFalsely : Prop := mapPlaysRow.holds Try.pinned (OpenSpec.ofChange mapPlaysWrong)

/- THE SECOND FORM. 'bulk': how many values and letters a reading holds, each counted each time it is reached (what is shared counts as often as it is met; a slice's spare places count too). A statement '..UptoSaid' is the law's where the arguments, and the package variables that the reading takes, are together of bulk at most 1048576: NARROWER than '..Said'. Prove '..Said' where nothing that the law and all that it calls make is longer than what came in: it says more and counts as full. Else prove '..UptoSaid'. A law counts once. -/
mutual
def uptoBulk {H : Type} : DataW H → Nat
  | .lit (.string bytes) => bytes.length + 1
  | .lit _ => 1
  | .nil => 1
  | .ptr d => uptoBulk d + 1
  | .slice elems spare => uptoBulkAll elems + uptoBulkAll spare + 1
  | .agg parts => uptoBulkAll parts + 1
  | .iface _ d => uptoBulk d + 1
  | .map entries => uptoBulkEntries entries + 1
  | .held _ => 1
def uptoBulkAll {H : Type} : List (DataW H) → Nat
  | [] => 0
  | d :: r => uptoBulk d + uptoBulkAll r
def uptoBulkEntries {H : Type} : List (Lit × DataW H) → Nat
  | [] => 0
  | x :: r => uptoBulkEntry x + uptoBulkEntries r
def uptoBulkEntry {H : Type} : Lit × DataW H → Nat
  | (.string bytes, d) => bytes.length + uptoBulk d + 1
  | (_, d) => uptoBulk d + 1
 end
def uptoSmall : (H : Type) → List (DataW H) → Bool := fun _ ds => decide (uptoBulkAll ds ≤ 1048576)
def OpenSpec.upto (s : _root_.Go.ChangeSpec) : _root_.Go.OpenSpec := { _root_.Go.OpenSpec.ofChange s with cond := some uptoSmall }

/-- 'loggialaw3.QidBack', WHERE WHAT IT READS IS OF BULK AT MOST 1048576: true; the input reads as it did. -/
def qidBackUptoRow : OpenClaim := { program := "ytbckbnmpeedodaa", sum := "635a100ba96af7e2b3f194c595fb651d1859926b51cdac30a5a92655f58abb04", func := "loggia/loggialaw3.QidBack", spec := "qidBack", apart := false, narrowed := true }
def QidBackUptoSaid : Prop := qidBackUptoRow.holds Try.pinned (OpenSpec.upto qidBackSpec)

/-- 'loggialaw3.QidShort', WHERE WHAT IT READS IS OF BULK AT MOST 1048576: true; the input reads as it did. -/
def qidShortUptoRow : OpenClaim := { program := "ytbckbnmpeedodaa", sum := "635a100ba96af7e2b3f194c595fb651d1859926b51cdac30a5a92655f58abb04", func := "loggia/loggialaw3.QidShort", spec := "qidShort", apart := false, narrowed := true }
def QidShortUptoSaid : Prop := qidShortUptoRow.holds Try.pinned (OpenSpec.upto qidShortSpec)

/-- 'loggialaw1.NumBack', WHERE WHAT IT READS IS OF BULK AT MOST 1048576: true; the input reads as it did. -/
def numBackUptoRow : OpenClaim := { program := "ytbckbnmpeedodaa", sum := "635a100ba96af7e2b3f194c595fb651d1859926b51cdac30a5a92655f58abb04", func := "loggia/loggialaw1.NumBack", spec := "numBack", apart := false, narrowed := true }
def NumBackUptoSaid : Prop := numBackUptoRow.holds Try.pinned (OpenSpec.upto numBackSpec)

/-- 'loggialaw1.NumBytes', WHERE WHAT IT READS IS OF BULK AT MOST 1048576: true; the input reads as it did. -/
def numBytesUptoRow : OpenClaim := { program := "ytbckbnmpeedodaa", sum := "635a100ba96af7e2b3f194c595fb651d1859926b51cdac30a5a92655f58abb04", func := "loggia/loggialaw1.NumBytes", spec := "numBytes", apart := false, narrowed := true }
def NumBytesUptoSaid : Prop := numBytesUptoRow.holds Try.pinned (OpenSpec.upto numBytesSpec)

/-- 'loggialaw1.NumWide', WHERE WHAT IT READS IS OF BULK AT MOST 1048576: true; the input reads as it did. -/
def numWideUptoRow : OpenClaim := { program := "ytbckbnmpeedodaa", sum := "635a100ba96af7e2b3f194c595fb651d1859926b51cdac30a5a92655f58abb04", func := "loggia/loggialaw1.NumWide", spec := "numWide", apart := false, narrowed := true }
def NumWideUptoSaid : Prop := numWideUptoRow.holds Try.pinned (OpenSpec.upto numWideSpec)

/-- 'loggialaw9.MapBytes', WHERE WHAT IT READS IS OF BULK AT MOST 1048576: true; the input reads as it did. -/
def mapBytesUptoRow : OpenClaim := { program := "ytbckbnmpeedodaa", sum := "635a100ba96af7e2b3f194c595fb651d1859926b51cdac30a5a92655f58abb04", func := "loggia/loggialaw9.MapBytes", spec := "mapBytes", apart := false, narrowed := true }
def MapBytesUptoSaid : Prop := mapBytesUptoRow.holds Try.pinned (OpenSpec.upto mapBytesSpec)

/-- 'loggialaw9.MapFull', WHERE WHAT IT READS IS OF BULK AT MOST 1048576: true; the input reads as it did. -/
def mapFullUptoRow : OpenClaim := { program := "ytbckbnmpeedodaa", sum := "635a100ba96af7e2b3f194c595fb651d1859926b51cdac30a5a92655f58abb04", func := "loggia/loggialaw9.MapFull", spec := "mapFull", apart := false, narrowed := true }
def MapFullUptoSaid : Prop := mapFullUptoRow.holds Try.pinned (OpenSpec.upto mapFullSpec)

/-- 'loggialaw3.QidRow', WHERE WHAT IT READS IS OF BULK AT MOST 1048576: true; the input reads as it did. -/
def qidRowUptoRow : OpenClaim := { program := "ytbckbnmpeedodaa", sum := "635a100ba96af7e2b3f194c595fb651d1859926b51cdac30a5a92655f58abb04", func := "loggia/loggialaw3.QidRow", spec := "qidRow", apart := false, narrowed := true }
def QidRowUptoSaid : Prop := qidRowUptoRow.holds Try.pinned (OpenSpec.upto qidRowSpec)

/-- 'loggialaw9.MapPlays', WHERE WHAT IT READS IS OF BULK AT MOST 1048576: true; the input reads as it did. -/
def mapPlaysUptoRow : OpenClaim := { program := "ytbckbnmpeedodaa", sum := "635a100ba96af7e2b3f194c595fb651d1859926b51cdac30a5a92655f58abb04", func := "loggia/loggialaw9.MapPlays", spec := "mapPlays", apart := false, narrowed := true }
def MapPlaysUptoSaid : Prop := mapPlaysUptoRow.holds Try.pinned (OpenSpec.upto mapPlaysSpec)

end Rows
end Go.Proofs.Ytbckbnmpeedodaa
