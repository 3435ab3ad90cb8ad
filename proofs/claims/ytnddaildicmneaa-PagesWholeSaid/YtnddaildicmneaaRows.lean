/-
  No cell of these rows narrows 'for every input' (looked for: loops, veiled, ifaces, maps, wideKeys, modest, calm, conditions, laid).
  DERIVED. THE GIVEN ROWS OF THIS SEAT. 10 by the template 'for every input the law returns true; each argument reads behind the call as it read before'; 0 by the template 'total and deterministic' (their statements: YtnddaildicmneaaTotals.lean).
  GIVEN WITH THE SEED: the statements are not yours to turn. If you find one false, say at which input.
  Laid BY PROGRAM, IN A SANDBOX (cutbox-rows.mjs): the forced cells as the released guide's own fill.sh prints them over the translation 28712207731e90ab… (all of the seat's roots in one cut). By AI agents, Wed Nov 11 2026. No macro, syntax, notation, axiom, sorry.
-/
import Derived.Test.YtnddaildicmneaaChecked
import GoSem.Claim
import GoSem.ClaimJoined
import GoSem.ClaimMapViews
import Derived.JoinedTies
import Derived.KernelRfl
namespace Go.Proofs.Ytnddaildicmneaa
/- THE CELL 'sum', in the pinned program and in every row, IS THE sha256 OF THE DUMP (.gsa) THAT YtnddaildicmneaaProg.lean LOADS. Nothing in Lean hashes anything: it is a label: what it is worth is what the hold of that sum in a sandbox is worth. -/
noncomputable def Try.pinned : Pinned := { name := "ytnddaildicmneaa", sum := "28712207731e90ab4d9f8f572772cc1b93e802a9b8e3a5a5ed16ed8030648923", checked := Try.checked }
namespace Rows
def none {H : Type} : Left H := { results := [], args := [] }

/-- 'loggialaw20.FidsPlay': WHATEVER THE INPUT: true; the input reads as it did. -/
def fidsPlaySpec : ChangeSpec := { name := "fidsPlay", fn := fun _ => fun
  | [d] => { results := [.lit (.bool true)], args := [d] }
  | _ => none }
def fidsPlayRow : OpenClaim := { program := "ytnddaildicmneaa", sum := "28712207731e90ab4d9f8f572772cc1b93e802a9b8e3a5a5ed16ed8030648923", func := "loggia/loggialaw20.FidsPlay", spec := "fidsPlay", unfollowed := true, recurses := true, plainKeys := false, apart := false }
def FidsPlaySaid : Prop := fidsPlayRow.holds Try.pinned (OpenSpec.ofChange fidsPlaySpec)

/-- ITS FALSE NEIGHBOUR: 'it returns false'. Refute it at one input. -/
def fidsPlayWrong : ChangeSpec := { name := "fidsPlay", fn := fun _ => fun
  | [d] => { results := [.lit (.bool false)], args := [d] }
  | _ => none }
def FidsPlayWrongFalsely : Prop := fidsPlayRow.holds Try.pinned (OpenSpec.ofChange fidsPlayWrong)

/-- 'loggialaw20.FidsFull': WHATEVER THE INPUT: true; the input reads as it did. -/
def fidsFullSpec : ChangeSpec := { name := "fidsFull", fn := fun _ => fun
  | [d1, d2] => { results := [.lit (.bool true)], args := [d1, d2] }
  | _ => none }
def fidsFullRow : OpenClaim := { program := "ytnddaildicmneaa", sum := "28712207731e90ab4d9f8f572772cc1b93e802a9b8e3a5a5ed16ed8030648923", func := "loggia/loggialaw20.FidsFull", spec := "fidsFull", unfollowed := true, recurses := true, plainKeys := false, apart := false }
def FidsFullSaid : Prop := fidsFullRow.holds Try.pinned (OpenSpec.ofChange fidsFullSpec)

/-- ITS FALSE NEIGHBOUR: 'it returns false'. Refute it at one input. -/
def fidsFullWrong : ChangeSpec := { name := "fidsFull", fn := fun _ => fun
  | [d1, d2] => { results := [.lit (.bool false)], args := [d1, d2] }
  | _ => none }
def FidsFullWrongFalsely : Prop := fidsFullRow.holds Try.pinned (OpenSpec.ofChange fidsFullWrong)

/-- 'loggialaw20.FidsApart': WHATEVER THE INPUT: true; the input reads as it did. -/
def fidsApartSpec : ChangeSpec := { name := "fidsApart", fn := fun _ => fun
  | [d1, d2] => { results := [.lit (.bool true)], args := [d1, d2] }
  | _ => none }
def fidsApartRow : OpenClaim := { program := "ytnddaildicmneaa", sum := "28712207731e90ab4d9f8f572772cc1b93e802a9b8e3a5a5ed16ed8030648923", func := "loggia/loggialaw20.FidsApart", spec := "fidsApart", unfollowed := true, recurses := true, plainKeys := false, apart := false }
def FidsApartSaid : Prop := fidsApartRow.holds Try.pinned (OpenSpec.ofChange fidsApartSpec)

/-- ITS FALSE NEIGHBOUR: 'it returns false'. Refute it at one input. -/
def fidsApartWrong : ChangeSpec := { name := "fidsApart", fn := fun _ => fun
  | [d1, d2] => { results := [.lit (.bool false)], args := [d1, d2] }
  | _ => none }
def FidsApartWrongFalsely : Prop := fidsApartRow.holds Try.pinned (OpenSpec.ofChange fidsApartWrong)

/-- 'loggialaw7.DiskArms': WHATEVER THE INPUT: true; the input reads as it did. -/
def diskArmsSpec : ChangeSpec := { name := "diskArms", fn := fun _ => fun
  | [d] => { results := [.lit (.bool true)], args := [d] }
  | _ => none }
def diskArmsRow : OpenClaim := { program := "ytnddaildicmneaa", sum := "28712207731e90ab4d9f8f572772cc1b93e802a9b8e3a5a5ed16ed8030648923", func := "loggia/loggialaw7.DiskArms", spec := "diskArms", unfollowed := true, recurses := true, plainKeys := false, apart := false }
def DiskArmsSaid : Prop := diskArmsRow.holds Try.pinned (OpenSpec.ofChange diskArmsSpec)

/-- ITS FALSE NEIGHBOUR: 'it returns false'. Refute it at one input. -/
def diskArmsWrong : ChangeSpec := { name := "diskArms", fn := fun _ => fun
  | [d] => { results := [.lit (.bool false)], args := [d] }
  | _ => none }
def DiskArmsWrongFalsely : Prop := diskArmsRow.holds Try.pinned (OpenSpec.ofChange diskArmsWrong)

/-- 'loggialaw7.DiskSyncs': WHATEVER THE INPUT: true; the input reads as it did. -/
def diskSyncsSpec : ChangeSpec := { name := "diskSyncs", fn := fun _ => fun
  | [d1, d2, d3] => { results := [.lit (.bool true)], args := [d1, d2, d3] }
  | _ => none }
def diskSyncsRow : OpenClaim := { program := "ytnddaildicmneaa", sum := "28712207731e90ab4d9f8f572772cc1b93e802a9b8e3a5a5ed16ed8030648923", func := "loggia/loggialaw7.DiskSyncs", spec := "diskSyncs", unfollowed := true, recurses := true, plainKeys := false, apart := false }
def DiskSyncsSaid : Prop := diskSyncsRow.holds Try.pinned (OpenSpec.ofChange diskSyncsSpec)

/-- ITS FALSE NEIGHBOUR: 'it returns false'. Refute it at one input. -/
def diskSyncsWrong : ChangeSpec := { name := "diskSyncs", fn := fun _ => fun
  | [d1, d2, d3] => { results := [.lit (.bool false)], args := [d1, d2, d3] }
  | _ => none }
def DiskSyncsWrongFalsely : Prop := diskSyncsRow.holds Try.pinned (OpenSpec.ofChange diskSyncsWrong)

/-- 'loggialaw7.DiskPlays': WHATEVER THE INPUT: true; the input reads as it did. -/
def diskPlaysSpec : ChangeSpec := { name := "diskPlays", fn := fun _ => fun
  | [d1, d2, d3] => { results := [.lit (.bool true)], args := [d1, d2, d3] }
  | _ => none }
def diskPlaysRow : OpenClaim := { program := "ytnddaildicmneaa", sum := "28712207731e90ab4d9f8f572772cc1b93e802a9b8e3a5a5ed16ed8030648923", func := "loggia/loggialaw7.DiskPlays", spec := "diskPlays", inPlace := ["maps.clone"], unfollowed := true, recurses := true, plainKeys := false, apart := false }
def DiskPlaysSaid : Prop := diskPlaysRow.holds Try.pinned (OpenSpec.ofChange diskPlaysSpec)

/-- ITS FALSE NEIGHBOUR: 'it returns false'. Refute it at one input. -/
def diskPlaysWrong : ChangeSpec := { name := "diskPlays", fn := fun _ => fun
  | [d1, d2, d3] => { results := [.lit (.bool false)], args := [d1, d2, d3] }
  | _ => none }
def DiskPlaysWrongFalsely : Prop := diskPlaysRow.holds Try.pinned (OpenSpec.ofChange diskPlaysWrong)

/-- 'loggialaw7.DiskOf': WHATEVER THE INPUT: true; the input reads as it did. -/
def diskOfSpec : ChangeSpec := { name := "diskOf", fn := fun _ => fun
  | [d1, d2] => { results := [.lit (.bool true)], args := [d1, d2] }
  | _ => none }
def diskOfRow : OpenClaim := { program := "ytnddaildicmneaa", sum := "28712207731e90ab4d9f8f572772cc1b93e802a9b8e3a5a5ed16ed8030648923", func := "loggia/loggialaw7.DiskOf", spec := "diskOf", unfollowed := true, recurses := true, plainKeys := false, apart := false }
def DiskOfSaid : Prop := diskOfRow.holds Try.pinned (OpenSpec.ofChange diskOfSpec)

/-- ITS FALSE NEIGHBOUR: 'it returns false'. Refute it at one input. -/
def diskOfWrong : ChangeSpec := { name := "diskOf", fn := fun _ => fun
  | [d1, d2] => { results := [.lit (.bool false)], args := [d1, d2] }
  | _ => none }
def DiskOfWrongFalsely : Prop := diskOfRow.holds Try.pinned (OpenSpec.ofChange diskOfWrong)

/-- 'loggialaw8.PagesArgs': WHATEVER THE INPUT: true; the input reads as it did. -/
def pagesArgsSpec : ChangeSpec := { name := "pagesArgs", fn := fun _ => fun
  | [d1, d2, d3] => { results := [.lit (.bool true)], args := [d1, d2, d3] }
  | _ => none }
def pagesArgsRow : OpenClaim := { program := "ytnddaildicmneaa", sum := "28712207731e90ab4d9f8f572772cc1b93e802a9b8e3a5a5ed16ed8030648923", func := "loggia/loggialaw8.PagesArgs", spec := "pagesArgs", unfollowed := true, recurses := true, plainKeys := false, apart := false }
def PagesArgsSaid : Prop := pagesArgsRow.holds Try.pinned (OpenSpec.ofChange pagesArgsSpec)

/-- ITS FALSE NEIGHBOUR: 'it returns false'. Refute it at one input. -/
def pagesArgsWrong : ChangeSpec := { name := "pagesArgs", fn := fun _ => fun
  | [d1, d2, d3] => { results := [.lit (.bool false)], args := [d1, d2, d3] }
  | _ => none }
def PagesArgsWrongFalsely : Prop := pagesArgsRow.holds Try.pinned (OpenSpec.ofChange pagesArgsWrong)

/-- 'loggialaw8.PagesWhole': WHATEVER THE INPUT: true; the input reads as it did. -/
def pagesWholeSpec : ChangeSpec := { name := "pagesWhole", fn := fun _ => fun
  | [d1, d2, d3] => { results := [.lit (.bool true)], args := [d1, d2, d3] }
  | _ => none }
def pagesWholeRow : OpenClaim := { program := "ytnddaildicmneaa", sum := "28712207731e90ab4d9f8f572772cc1b93e802a9b8e3a5a5ed16ed8030648923", func := "loggia/loggialaw8.PagesWhole", spec := "pagesWhole", unfollowed := true, recurses := true, plainKeys := false, apart := false }
def PagesWholeSaid : Prop := pagesWholeRow.holds Try.pinned (OpenSpec.ofChange pagesWholeSpec)

/-- ITS FALSE NEIGHBOUR: 'it returns false'. Refute it at one input. -/
def pagesWholeWrong : ChangeSpec := { name := "pagesWhole", fn := fun _ => fun
  | [d1, d2, d3] => { results := [.lit (.bool false)], args := [d1, d2, d3] }
  | _ => none }
def PagesWholeWrongFalsely : Prop := pagesWholeRow.holds Try.pinned (OpenSpec.ofChange pagesWholeWrong)

/-- 'loggialaw8.PagesBytes': WHATEVER THE INPUT: true; the input reads as it did. -/
def pagesBytesSpec : ChangeSpec := { name := "pagesBytes", fn := fun _ => fun
  | [d1, d2, d3] => { results := [.lit (.bool true)], args := [d1, d2, d3] }
  | _ => none }
def pagesBytesRow : OpenClaim := { program := "ytnddaildicmneaa", sum := "28712207731e90ab4d9f8f572772cc1b93e802a9b8e3a5a5ed16ed8030648923", func := "loggia/loggialaw8.PagesBytes", spec := "pagesBytes", unfollowed := true, recurses := true, plainKeys := false, apart := false }
def PagesBytesSaid : Prop := pagesBytesRow.holds Try.pinned (OpenSpec.ofChange pagesBytesSpec)

/-- ITS FALSE NEIGHBOUR: 'it returns false'. Refute it at one input. -/
def pagesBytesWrong : ChangeSpec := { name := "pagesBytes", fn := fun _ => fun
  | [d1, d2, d3] => { results := [.lit (.bool false)], args := [d1, d2, d3] }
  | _ => none }
def PagesBytesWrongFalsely : Prop := pagesBytesRow.holds Try.pinned (OpenSpec.ofChange pagesBytesWrong)

/- THE SECOND FORM. 'bulk': how many values and letters a reading holds, each counted each time it is reached (what is shared counts as often as it is met; a slice's spare places count too). A statement '..UptoSaid' is the law's where the arguments, and the package variables that the reading takes, are together of bulk at most 1048576: NARROWER than '..Said'. Prove '..Said' where nothing that the law and all that it calls make is longer than what came in: it says more and counts as full. Else prove '..UptoSaid'. A law counts once. -/
mutual
def uptoBulk {H : Type} : DataW H → Nat
  | .lit (.string bytes) => bytes.length + 1
  | .lit _ => 1
  | .nil => 1
  | .ptr d => uptoBulk d + 1
  | .slice elems spare => uptoBulkAll elems + uptoBulkAll spare + 1
  | .agg parts => uptoBulkAll parts + 1
  | .iface _ d => uptoBulk d + 1
  | .map entries => uptoBulkEntries entries + 1
  | .held _ => 1
def uptoBulkAll {H : Type} : List (DataW H) → Nat
  | [] => 0
  | d :: r => uptoBulk d + uptoBulkAll r
def uptoBulkEntries {H : Type} : List (Lit × DataW H) → Nat
  | [] => 0
  | x :: r => uptoBulkEntry x + uptoBulkEntries r
def uptoBulkEntry {H : Type} : Lit × DataW H → Nat
  | (.string bytes, d) => bytes.length + uptoBulk d + 1
  | (_, d) => uptoBulk d + 1
 end
def uptoSmall : (H : Type) → List (DataW H) → Bool := fun _ ds => decide (uptoBulkAll ds ≤ 1048576)
def OpenSpec.upto (s : _root_.Go.ChangeSpec) : _root_.Go.OpenSpec := { _root_.Go.OpenSpec.ofChange s with cond := some uptoSmall }

/-- 'loggialaw20.FidsPlay', WHERE WHAT IT READS IS OF BULK AT MOST 1048576: true; the input reads as it did. -/
def fidsPlayUptoRow : OpenClaim := { program := "ytnddaildicmneaa", sum := "28712207731e90ab4d9f8f572772cc1b93e802a9b8e3a5a5ed16ed8030648923", func := "loggia/loggialaw20.FidsPlay", spec := "fidsPlay", unfollowed := true, recurses := true, plainKeys := false, apart := false, narrowed := true }
def FidsPlayUptoSaid : Prop := fidsPlayUptoRow.holds Try.pinned (OpenSpec.upto fidsPlaySpec)

/-- 'loggialaw20.FidsFull', WHERE WHAT IT READS IS OF BULK AT MOST 1048576: true; the input reads as it did. -/
def fidsFullUptoRow : OpenClaim := { program := "ytnddaildicmneaa", sum := "28712207731e90ab4d9f8f572772cc1b93e802a9b8e3a5a5ed16ed8030648923", func := "loggia/loggialaw20.FidsFull", spec := "fidsFull", unfollowed := true, recurses := true, plainKeys := false, apart := false, narrowed := true }
def FidsFullUptoSaid : Prop := fidsFullUptoRow.holds Try.pinned (OpenSpec.upto fidsFullSpec)

/-- 'loggialaw20.FidsApart', WHERE WHAT IT READS IS OF BULK AT MOST 1048576: true; the input reads as it did. -/
def fidsApartUptoRow : OpenClaim := { program := "ytnddaildicmneaa", sum := "28712207731e90ab4d9f8f572772cc1b93e802a9b8e3a5a5ed16ed8030648923", func := "loggia/loggialaw20.FidsApart", spec := "fidsApart", unfollowed := true, recurses := true, plainKeys := false, apart := false, narrowed := true }
def FidsApartUptoSaid : Prop := fidsApartUptoRow.holds Try.pinned (OpenSpec.upto fidsApartSpec)

/-- 'loggialaw7.DiskArms', WHERE WHAT IT READS IS OF BULK AT MOST 1048576: true; the input reads as it did. -/
def diskArmsUptoRow : OpenClaim := { program := "ytnddaildicmneaa", sum := "28712207731e90ab4d9f8f572772cc1b93e802a9b8e3a5a5ed16ed8030648923", func := "loggia/loggialaw7.DiskArms", spec := "diskArms", unfollowed := true, recurses := true, plainKeys := false, apart := false, narrowed := true }
def DiskArmsUptoSaid : Prop := diskArmsUptoRow.holds Try.pinned (OpenSpec.upto diskArmsSpec)

/-- 'loggialaw7.DiskSyncs', WHERE WHAT IT READS IS OF BULK AT MOST 1048576: true; the input reads as it did. -/
def diskSyncsUptoRow : OpenClaim := { program := "ytnddaildicmneaa", sum := "28712207731e90ab4d9f8f572772cc1b93e802a9b8e3a5a5ed16ed8030648923", func := "loggia/loggialaw7.DiskSyncs", spec := "diskSyncs", unfollowed := true, recurses := true, plainKeys := false, apart := false, narrowed := true }
def DiskSyncsUptoSaid : Prop := diskSyncsUptoRow.holds Try.pinned (OpenSpec.upto diskSyncsSpec)

/-- 'loggialaw7.DiskPlays', WHERE WHAT IT READS IS OF BULK AT MOST 1048576: true; the input reads as it did. -/
def diskPlaysUptoRow : OpenClaim := { program := "ytnddaildicmneaa", sum := "28712207731e90ab4d9f8f572772cc1b93e802a9b8e3a5a5ed16ed8030648923", func := "loggia/loggialaw7.DiskPlays", spec := "diskPlays", inPlace := ["maps.clone"], unfollowed := true, recurses := true, plainKeys := false, apart := false, narrowed := true }
def DiskPlaysUptoSaid : Prop := diskPlaysUptoRow.holds Try.pinned (OpenSpec.upto diskPlaysSpec)

/-- 'loggialaw7.DiskOf', WHERE WHAT IT READS IS OF BULK AT MOST 1048576: true; the input reads as it did. -/
def diskOfUptoRow : OpenClaim := { program := "ytnddaildicmneaa", sum := "28712207731e90ab4d9f8f572772cc1b93e802a9b8e3a5a5ed16ed8030648923", func := "loggia/loggialaw7.DiskOf", spec := "diskOf", unfollowed := true, recurses := true, plainKeys := false, apart := false, narrowed := true }
def DiskOfUptoSaid : Prop := diskOfUptoRow.holds Try.pinned (OpenSpec.upto diskOfSpec)

/-- 'loggialaw8.PagesArgs', WHERE WHAT IT READS IS OF BULK AT MOST 1048576: true; the input reads as it did. -/
def pagesArgsUptoRow : OpenClaim := { program := "ytnddaildicmneaa", sum := "28712207731e90ab4d9f8f572772cc1b93e802a9b8e3a5a5ed16ed8030648923", func := "loggia/loggialaw8.PagesArgs", spec := "pagesArgs", unfollowed := true, recurses := true, plainKeys := false, apart := false, narrowed := true }
def PagesArgsUptoSaid : Prop := pagesArgsUptoRow.holds Try.pinned (OpenSpec.upto pagesArgsSpec)

/-- 'loggialaw8.PagesWhole', WHERE WHAT IT READS IS OF BULK AT MOST 1048576: true; the input reads as it did. -/
def pagesWholeUptoRow : OpenClaim := { program := "ytnddaildicmneaa", sum := "28712207731e90ab4d9f8f572772cc1b93e802a9b8e3a5a5ed16ed8030648923", func := "loggia/loggialaw8.PagesWhole", spec := "pagesWhole", unfollowed := true, recurses := true, plainKeys := false, apart := false, narrowed := true }
def PagesWholeUptoSaid : Prop := pagesWholeUptoRow.holds Try.pinned (OpenSpec.upto pagesWholeSpec)

/-- 'loggialaw8.PagesBytes', WHERE WHAT IT READS IS OF BULK AT MOST 1048576: true; the input reads as it did. -/
def pagesBytesUptoRow : OpenClaim := { program := "ytnddaildicmneaa", sum := "28712207731e90ab4d9f8f572772cc1b93e802a9b8e3a5a5ed16ed8030648923", func := "loggia/loggialaw8.PagesBytes", spec := "pagesBytes", unfollowed := true, recurses := true, plainKeys := false, apart := false, narrowed := true }
def PagesBytesUptoSaid : Prop := pagesBytesUptoRow.holds Try.pinned (OpenSpec.upto pagesBytesSpec)

end Rows
end Go.Proofs.Ytnddaildicmneaa
