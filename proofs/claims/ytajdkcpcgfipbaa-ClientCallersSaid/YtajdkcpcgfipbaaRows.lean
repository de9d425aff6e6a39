/-
  No cell of these rows narrows 'for every input' (looked for: loops, veiled, ifaces, maps, wideKeys, modest, calm, conditions, laid).
  DERIVED. THE GIVEN ROWS OF THIS SEAT. 12 by the template 'for every input the law returns true; each argument reads behind the call as it read before'; 0 by the template 'total and deterministic' (their statements: YtajdkcpcgfipbaaTotals.lean).
  GIVEN WITH THE SEED: the statements are not yours to turn. If you find one false, say at which input.
  Laid BY PROGRAM, IN A SANDBOX (cutbox-rows.mjs): the forced cells as the released guide's own fill.sh prints them over the translation d849538bdf1b54ad… (all of the seat's roots in one cut). By AI agents, Wed Nov 11 2026. No macro, syntax, notation, axiom, sorry.
-/
import Derived.Test.YtajdkcpcgfipbaaChecked
import GoSem.Claim
import GoSem.ClaimJoined
import GoSem.ClaimMapViews
import Derived.JoinedTies
import Derived.KernelRfl
namespace Go.Proofs.Ytajdkcpcgfipbaa
/- THE CELL 'sum', in the pinned program and in every row, IS THE sha256 OF THE DUMP (.gsa) THAT YtajdkcpcgfipbaaProg.lean LOADS. Nothing in Lean hashes anything: it is a label: what it is worth is what the hold of that sum in a sandbox is worth. -/
noncomputable def Try.pinned : Pinned := { name := "ytajdkcpcgfipbaa", sum := "d849538bdf1b54ad7e98ce28c0241d4874d6c8c6463e00bd7b3cdc6974a0789d", checked := Try.checked }
namespace Rows
def none {H : Type} : Left H := { results := [], args := [] }

/-- 'worldmintlaw37.ClientLies': WHATEVER THE INPUT: true; the input reads as it did. -/
def clientLiesSpec : ChangeSpec := { name := "clientLies", fn := fun _ => fun
  | [d1, d2, d3, d4, d5] => { results := [.lit (.bool true)], args := [d1, d2, d3, d4, d5] }
  | _ => none }
def clientLiesRow : OpenClaim := { program := "ytajdkcpcgfipbaa", sum := "d849538bdf1b54ad7e98ce28c0241d4874d6c8c6463e00bd7b3cdc6974a0789d", func := "worldmint/worldmintlaw37.ClientLies", spec := "clientLies", unfollowed := true, recurses := true, apart := false }
def ClientLiesSaid : Prop := clientLiesRow.holds Try.pinned (OpenSpec.ofChange clientLiesSpec)

/-- ITS FALSE NEIGHBOUR: 'it returns false'. Refute it at one input. -/
def clientLiesWrong : ChangeSpec := { name := "clientLies", fn := fun _ => fun
  | [d1, d2, d3, d4, d5] => { results := [.lit (.bool false)], args := [d1, d2, d3, d4, d5] }
  | _ => none }
def ClientLiesWrongFalsely : Prop := clientLiesRow.holds Try.pinned (OpenSpec.ofChange clientLiesWrong)

/-- 'worldmintlaw37.ClientSessions': WHATEVER THE INPUT: true; the input reads as it did. -/
def clientSessionsSpec : ChangeSpec := { name := "clientSessions", fn := fun _ => fun
  | [d] => { results := [.lit (.bool true)], args := [d] }
  | _ => none }
def clientSessionsRow : OpenClaim := { program := "ytajdkcpcgfipbaa", sum := "d849538bdf1b54ad7e98ce28c0241d4874d6c8c6463e00bd7b3cdc6974a0789d", func := "worldmint/worldmintlaw37.ClientSessions", spec := "clientSessions", unfollowed := true, recurses := true, apart := false }
def ClientSessionsSaid : Prop := clientSessionsRow.holds Try.pinned (OpenSpec.ofChange clientSessionsSpec)

/-- ITS FALSE NEIGHBOUR: 'it returns false'. Refute it at one input. -/
def clientSessionsWrong : ChangeSpec := { name := "clientSessions", fn := fun _ => fun
  | [d] => { results := [.lit (.bool false)], args := [d] }
  | _ => none }
def ClientSessionsWrongFalsely : Prop := clientSessionsRow.holds Try.pinned (OpenSpec.ofChange clientSessionsWrong)

/-- 'worldmintlaw25.JournalFrames': WHATEVER THE INPUT: true; the input reads as it did. -/
def journalFramesSpec : ChangeSpec := { name := "journalFrames", fn := fun _ => fun
  | [d1, d2, d3, d4] => { results := [.lit (.bool true)], args := [d1, d2, d3, d4] }
  | _ => none }
def journalFramesRow : OpenClaim := { program := "ytajdkcpcgfipbaa", sum := "d849538bdf1b54ad7e98ce28c0241d4874d6c8c6463e00bd7b3cdc6974a0789d", func := "worldmint/worldmintlaw25.JournalFrames", spec := "journalFrames", unfollowed := true, recurses := true, apart := false }
def JournalFramesSaid : Prop := journalFramesRow.holds Try.pinned (OpenSpec.ofChange journalFramesSpec)

/-- ITS FALSE NEIGHBOUR: 'it returns false'. Refute it at one input. -/
def journalFramesWrong : ChangeSpec := { name := "journalFrames", fn := fun _ => fun
  | [d1, d2, d3, d4] => { results := [.lit (.bool false)], args := [d1, d2, d3, d4] }
  | _ => none }
def JournalFramesWrongFalsely : Prop := journalFramesRow.holds Try.pinned (OpenSpec.ofChange journalFramesWrong)

/-- 'worldmintlaw25.JournalScans': WHATEVER THE INPUT: true; the input reads as it did. -/
def journalScansSpec : ChangeSpec := { name := "journalScans", fn := fun _ => fun
  | [d1, d2, d3, d4] => { results := [.lit (.bool true)], args := [d1, d2, d3, d4] }
  | _ => none }
def journalScansRow : OpenClaim := { program := "ytajdkcpcgfipbaa", sum := "d849538bdf1b54ad7e98ce28c0241d4874d6c8c6463e00bd7b3cdc6974a0789d", func := "worldmint/worldmintlaw25.JournalScans", spec := "journalScans", unfollowed := true, recurses := true, apart := false }
def JournalScansSaid : Prop := journalScansRow.holds Try.pinned (OpenSpec.ofChange journalScansSpec)

/-- ITS FALSE NEIGHBOUR: 'it returns false'. Refute it at one input. -/
def journalScansWrong : ChangeSpec := { name := "journalScans", fn := fun _ => fun
  | [d1, d2, d3, d4] => { results := [.lit (.bool false)], args := [d1, d2, d3, d4] }
  | _ => none }
def JournalScansWrongFalsely : Prop := journalScansRow.holds Try.pinned (OpenSpec.ofChange journalScansWrong)

/-- 'worldmintlaw25.JournalDetects': WHATEVER THE INPUT: true; the input reads as it did. -/
def journalDetectsSpec : ChangeSpec := { name := "journalDetects", fn := fun _ => fun
  | [d1, d2] => { results := [.lit (.bool true)], args := [d1, d2] }
  | _ => none }
def journalDetectsRow : OpenClaim := { program := "ytajdkcpcgfipbaa", sum := "d849538bdf1b54ad7e98ce28c0241d4874d6c8c6463e00bd7b3cdc6974a0789d", func := "worldmint/worldmintlaw25.JournalDetects", spec := "journalDetects", unfollowed := true, recurses := true, apart := false }
def JournalDetectsSaid : Prop := journalDetectsRow.holds Try.pinned (OpenSpec.ofChange journalDetectsSpec)

/-- ITS FALSE NEIGHBOUR: 'it returns false'. Refute it at one input. -/
def journalDetectsWrong : ChangeSpec := { name := "journalDetects", fn := fun _ => fun
  | [d1, d2] => { results := [.lit (.bool false)], args := [d1, d2] }
  | _ => none }
def JournalDetectsWrongFalsely : Prop := journalDetectsRow.holds Try.pinned (OpenSpec.ofChange journalDetectsWrong)

/-- 'worldmintlaw37.ClientCallers': WHATEVER THE INPUT: true; the input reads as it did. -/
def clientCallersSpec : ChangeSpec := { name := "clientCallers", fn := fun _ => fun
  | [d1, d2, d3] => { results := [.lit (.bool true)], args := [d1, d2, d3] }
  | _ => none }
def clientCallersRow : OpenClaim := { program := "ytajdkcpcgfipbaa", sum := "d849538bdf1b54ad7e98ce28c0241d4874d6c8c6463e00bd7b3cdc6974a0789d", func := "worldmint/worldmintlaw37.ClientCallers", spec := "clientCallers", unfollowed := true, recurses := true, apart := false }
def ClientCallersSaid : Prop := clientCallersRow.holds Try.pinned (OpenSpec.ofChange clientCallersSpec)

/-- ITS FALSE NEIGHBOUR: 'it returns false'. Refute it at one input. -/
def clientCallersWrong : ChangeSpec := { name := "clientCallers", fn := fun _ => fun
  | [d1, d2, d3] => { results := [.lit (.bool false)], args := [d1, d2, d3] }
  | _ => none }
def ClientCallersWrongFalsely : Prop := clientCallersRow.holds Try.pinned (OpenSpec.ofChange clientCallersWrong)

/-- 'worldmintlaw37.ClientOnce': WHATEVER THE INPUT: true; the input reads as it did. -/
def clientOnceSpec : ChangeSpec := { name := "clientOnce", fn := fun _ => fun
  | [d1, d2] => { results := [.lit (.bool true)], args := [d1, d2] }
  | _ => none }
def clientOnceRow : OpenClaim := { program := "ytajdkcpcgfipbaa", sum := "d849538bdf1b54ad7e98ce28c0241d4874d6c8c6463e00bd7b3cdc6974a0789d", func := "worldmint/worldmintlaw37.ClientOnce", spec := "clientOnce", unfollowed := true, recurses := true, apart := false }
def ClientOnceSaid : Prop := clientOnceRow.holds Try.pinned (OpenSpec.ofChange clientOnceSpec)

/-- ITS FALSE NEIGHBOUR: 'it returns false'. Refute it at one input. -/
def clientOnceWrong : ChangeSpec := { name := "clientOnce", fn := fun _ => fun
  | [d1, d2] => { results := [.lit (.bool false)], args := [d1, d2] }
  | _ => none }
def ClientOnceWrongFalsely : Prop := clientOnceRow.holds Try.pinned (OpenSpec.ofChange clientOnceWrong)

/-- 'worldmintlaw37.ClientBytes': WHATEVER THE INPUT: true; the input reads as it did. -/
def clientBytesSpec : ChangeSpec := { name := "clientBytes", fn := fun _ => fun
  | [d1, d2, d3, d4, d5, d6, d7] => { results := [.lit (.bool true)], args := [d1, d2, d3, d4, d5, d6, d7] }
  | _ => none }
def clientBytesRow : OpenClaim := { program := "ytajdkcpcgfipbaa", sum := "d849538bdf1b54ad7e98ce28c0241d4874d6c8c6463e00bd7b3cdc6974a0789d", func := "worldmint/worldmintlaw37.ClientBytes", spec := "clientBytes", unfollowed := true, recurses := true, apart := false }
def ClientBytesSaid : Prop := clientBytesRow.holds Try.pinned (OpenSpec.ofChange clientBytesSpec)

/-- ITS FALSE NEIGHBOUR: 'it returns false'. Refute it at one input. -/
def clientBytesWrong : ChangeSpec := { name := "clientBytes", fn := fun _ => fun
  | [d1, d2, d3, d4, d5, d6, d7] => { results := [.lit (.bool false)], args := [d1, d2, d3, d4, d5, d6, d7] }
  | _ => none }
def ClientBytesWrongFalsely : Prop := clientBytesRow.holds Try.pinned (OpenSpec.ofChange clientBytesWrong)

/-- 'worldmintlaw25.JournalFull': WHATEVER THE INPUT: true; the input reads as it did. -/
def journalFullSpec : ChangeSpec := { name := "journalFull", fn := fun _ => fun
  | [d1, d2] => { results := [.lit (.bool true)], args := [d1, d2] }
  | _ => none }
def journalFullRow : OpenClaim := { program := "ytajdkcpcgfipbaa", sum := "d849538bdf1b54ad7e98ce28c0241d4874d6c8c6463e00bd7b3cdc6974a0789d", func := "worldmint/worldmintlaw25.JournalFull", spec := "journalFull", unfollowed := true, recurses := true, apart := false }
def JournalFullSaid : Prop := journalFullRow.holds Try.pinned (OpenSpec.ofChange journalFullSpec)

/-- ITS FALSE NEIGHBOUR: 'it returns false'. Refute it at one input. -/
def journalFullWrong : ChangeSpec := { name := "journalFull", fn := fun _ => fun
  | [d1, d2] => { results := [.lit (.bool false)], args := [d1, d2] }
  | _ => none }
def JournalFullWrongFalsely : Prop := journalFullRow.holds Try.pinned (OpenSpec.ofChange journalFullWrong)

/-- 'worldmintlaw25.JournalApart': WHATEVER THE INPUT: true; the input reads as it did. -/
def journalApartSpec : ChangeSpec := { name := "journalApart", fn := fun _ => fun
  | [d1, d2, d3] => { results := [.lit (.bool true)], args := [d1, d2, d3] }
  | _ => none }
def journalApartRow : OpenClaim := { program := "ytajdkcpcgfipbaa", sum := "d849538bdf1b54ad7e98ce28c0241d4874d6c8c6463e00bd7b3cdc6974a0789d", func := "worldmint/worldmintlaw25.JournalApart", spec := "journalApart", unfollowed := true, recurses := true, apart := false }
def JournalApartSaid : Prop := journalApartRow.holds Try.pinned (OpenSpec.ofChange journalApartSpec)

/-- ITS FALSE NEIGHBOUR: 'it returns false'. Refute it at one input. -/
def journalApartWrong : ChangeSpec := { name := "journalApart", fn := fun _ => fun
  | [d1, d2, d3] => { results := [.lit (.bool false)], args := [d1, d2, d3] }
  | _ => none }
def JournalApartWrongFalsely : Prop := journalApartRow.holds Try.pinned (OpenSpec.ofChange journalApartWrong)

/-- 'worldmintlaw25.JournalDurable': WHATEVER THE INPUT: true; the input reads as it did. -/
def journalDurableSpec : ChangeSpec := { name := "journalDurable", fn := fun _ => fun
  | [d1, d2, d3, d4] => { results := [.lit (.bool true)], args := [d1, d2, d3, d4] }
  | _ => none }
def journalDurableRow : OpenClaim := { program := "ytajdkcpcgfipbaa", sum := "d849538bdf1b54ad7e98ce28c0241d4874d6c8c6463e00bd7b3cdc6974a0789d", func := "worldmint/worldmintlaw25.JournalDurable", spec := "journalDurable", unfollowed := true, recurses := true, apart := false }
def JournalDurableSaid : Prop := journalDurableRow.holds Try.pinned (OpenSpec.ofChange journalDurableSpec)

/-- ITS FALSE NEIGHBOUR: 'it returns false'. Refute it at one input. -/
def journalDurableWrong : ChangeSpec := { name := "journalDurable", fn := fun _ => fun
  | [d1, d2, d3, d4] => { results := [.lit (.bool false)], args := [d1, d2, d3, d4] }
  | _ => none }
def JournalDurableWrongFalsely : Prop := journalDurableRow.holds Try.pinned (OpenSpec.ofChange journalDurableWrong)

/-- 'worldmintlaw25.JournalInverted': WHATEVER THE INPUT: true; the input reads as it did. -/
def journalInvertedSpec : ChangeSpec := { name := "journalInverted", fn := fun _ => fun
  | [d1, d2, d3, d4] => { results := [.lit (.bool true)], args := [d1, d2, d3, d4] }
  | _ => none }
def journalInvertedRow : OpenClaim := { program := "ytajdkcpcgfipbaa", sum := "d849538bdf1b54ad7e98ce28c0241d4874d6c8c6463e00bd7b3cdc6974a0789d", func := "worldmint/worldmintlaw25.JournalInverted", spec := "journalInverted", unfollowed := true, recurses := true, apart := false }
def JournalInvertedSaid : Prop := journalInvertedRow.holds Try.pinned (OpenSpec.ofChange journalInvertedSpec)

/-- ITS FALSE NEIGHBOUR: 'it returns false'. Refute it at one input. -/
def journalInvertedWrong : ChangeSpec := { name := "journalInverted", fn := fun _ => fun
  | [d1, d2, d3, d4] => { results := [.lit (.bool false)], args := [d1, d2, d3, d4] }
  | _ => none }
def JournalInvertedWrongFalsely : Prop := journalInvertedRow.holds Try.pinned (OpenSpec.ofChange journalInvertedWrong)

/- THE SECOND FORM. 'bulk': how many values and letters a reading holds, each counted each time it is reached (what is shared counts as often as it is met; a slice's spare places count too). A statement '..UptoSaid' is the law's where the arguments, and the package variables that the reading takes, are together of bulk at most 1048576: NARROWER than '..Said'. Prove '..Said' where nothing that the law and all that it calls make is longer than what came in: it says more and counts as full. Else prove '..UptoSaid'. A law counts once. -/
mutual
def uptoBulk {H : Type} : DataW H → Nat
  | .lit (.string bytes) => bytes.length + 1
  | .lit _ => 1
  | .nil => 1
  | .ptr d => uptoBulk d + 1
  | .slice elems spare => uptoBulkAll elems + uptoBulkAll spare + 1
  | .agg parts => uptoBulkAll parts + 1
  | .iface _ d => uptoBulk d + 1
  | .map entries => uptoBulkEntries entries + 1
  | .held _ => 1
def uptoBulkAll {H : Type} : List (DataW H) → Nat
  | [] => 0
  | d :: r => uptoBulk d + uptoBulkAll r
def uptoBulkEntries {H : Type} : List (Lit × DataW H) → Nat
  | [] => 0
  | x :: r => uptoBulkEntry x + uptoBulkEntries r
def uptoBulkEntry {H : Type} : Lit × DataW H → Nat
  | (.string bytes, d) => bytes.length + uptoBulk d + 1
  | (_, d) => uptoBulk d + 1
 end
def uptoSmall : (H : Type) → List (DataW H) → Bool := fun _ ds => decide (uptoBulkAll ds ≤ 1048576)
def OpenSpec.upto (s : _root_.Go.ChangeSpec) : _root_.Go.OpenSpec := { _root_.Go.OpenSpec.ofChange s with cond := some uptoSmall }

/-- 'worldmintlaw37.ClientLies', WHERE WHAT IT READS IS OF BULK AT MOST 1048576: true; the input reads as it did. -/
def clientLiesUptoRow : OpenClaim := { program := "ytajdkcpcgfipbaa", sum := "d849538bdf1b54ad7e98ce28c0241d4874d6c8c6463e00bd7b3cdc6974a0789d", func := "worldmint/worldmintlaw37.ClientLies", spec := "clientLies", unfollowed := true, recurses := true, apart := false, narrowed := true }
def ClientLiesUptoSaid : Prop := clientLiesUptoRow.holds Try.pinned (OpenSpec.upto clientLiesSpec)

/-- 'worldmintlaw37.ClientSessions', WHERE WHAT IT READS IS OF BULK AT MOST 1048576: true; the input reads as it did. -/
def clientSessionsUptoRow : OpenClaim := { program := "ytajdkcpcgfipbaa", sum := "d849538bdf1b54ad7e98ce28c0241d4874d6c8c6463e00bd7b3cdc6974a0789d", func := "worldmint/worldmintlaw37.ClientSessions", spec := "clientSessions", unfollowed := true, recurses := true, apart := false, narrowed := true }
def ClientSessionsUptoSaid : Prop := clientSessionsUptoRow.holds Try.pinned (OpenSpec.upto clientSessionsSpec)

/-- 'worldmintlaw25.JournalFrames', WHERE WHAT IT READS IS OF BULK AT MOST 1048576: true; the input reads as it did. -/
def journalFramesUptoRow : OpenClaim := { program := "ytajdkcpcgfipbaa", sum := "d849538bdf1b54ad7e98ce28c0241d4874d6c8c6463e00bd7b3cdc6974a0789d", func := "worldmint/worldmintlaw25.JournalFrames", spec := "journalFrames", unfollowed := true, recurses := true, apart := false, narrowed := true }
def JournalFramesUptoSaid : Prop := journalFramesUptoRow.holds Try.pinned (OpenSpec.upto journalFramesSpec)

/-- 'worldmintlaw25.JournalScans', WHERE WHAT IT READS IS OF BULK AT MOST 1048576: true; the input reads as it did. -/
def journalScansUptoRow : OpenClaim := { program := "ytajdkcpcgfipbaa", sum := "d849538bdf1b54ad7e98ce28c0241d4874d6c8c6463e00bd7b3cdc6974a0789d", func := "worldmint/worldmintlaw25.JournalScans", spec := "journalScans", unfollowed := true, recurses := true, apart := false, narrowed := true }
def JournalScansUptoSaid : Prop := journalScansUptoRow.holds Try.pinned (OpenSpec.upto journalScansSpec)

/-- 'worldmintlaw25.JournalDetects', WHERE WHAT IT READS IS OF BULK AT MOST 1048576: true; the input reads as it did. -/
def journalDetectsUptoRow : OpenClaim := { program := "ytajdkcpcgfipbaa", sum := "d849538bdf1b54ad7e98ce28c0241d4874d6c8c6463e00bd7b3cdc6974a0789d", func := "worldmint/worldmintlaw25.JournalDetects", spec := "journalDetects", unfollowed := true, recurses := true, apart := false, narrowed := true }
def JournalDetectsUptoSaid : Prop := journalDetectsUptoRow.holds Try.pinned (OpenSpec.upto journalDetectsSpec)

/-- 'worldmintlaw37.ClientCallers', WHERE WHAT IT READS IS OF BULK AT MOST 1048576: true; the input reads as it did. -/
def clientCallersUptoRow : OpenClaim := { program := "ytajdkcpcgfipbaa", sum := "d849538bdf1b54ad7e98ce28c0241d4874d6c8c6463e00bd7b3cdc6974a0789d", func := "worldmint/worldmintlaw37.ClientCallers", spec := "clientCallers", unfollowed := true, recurses := true, apart := false, narrowed := true }
def ClientCallersUptoSaid : Prop := clientCallersUptoRow.holds Try.pinned (OpenSpec.upto clientCallersSpec)

/-- 'worldmintlaw37.ClientOnce', WHERE WHAT IT READS IS OF BULK AT MOST 1048576: true; the input reads as it did. -/
def clientOnceUptoRow : OpenClaim := { program := "ytajdkcpcgfipbaa", sum := "d849538bdf1b54ad7e98ce28c0241d4874d6c8c6463e00bd7b3cdc6974a0789d", func := "worldmint/worldmintlaw37.ClientOnce", spec := "clientOnce", unfollowed := true, recurses := true, apart := false, narrowed := true }
def ClientOnceUptoSaid : Prop := clientOnceUptoRow.holds Try.pinned (OpenSpec.upto clientOnceSpec)

/-- 'worldmintlaw37.ClientBytes', WHERE WHAT IT READS IS OF BULK AT MOST 1048576: true; the input reads as it did. -/
def clientBytesUptoRow : OpenClaim := { program := "ytajdkcpcgfipbaa", sum := "d849538bdf1b54ad7e98ce28c0241d4874d6c8c6463e00bd7b3cdc6974a0789d", func := "worldmint/worldmintlaw37.ClientBytes", spec := "clientBytes", unfollowed := true, recurses := true, apart := false, narrowed := true }
def ClientBytesUptoSaid : Prop := clientBytesUptoRow.holds Try.pinned (OpenSpec.upto clientBytesSpec)

/-- 'worldmintlaw25.JournalFull', WHERE WHAT IT READS IS OF BULK AT MOST 1048576: true; the input reads as it did. -/
def journalFullUptoRow : OpenClaim := { program := "ytajdkcpcgfipbaa", sum := "d849538bdf1b54ad7e98ce28c0241d4874d6c8c6463e00bd7b3cdc6974a0789d", func := "worldmint/worldmintlaw25.JournalFull", spec := "journalFull", unfollowed := true, recurses := true, apart := false, narrowed := true }
def JournalFullUptoSaid : Prop := journalFullUptoRow.holds Try.pinned (OpenSpec.upto journalFullSpec)

/-- 'worldmintlaw25.JournalApart', WHERE WHAT IT READS IS OF BULK AT MOST 1048576: true; the input reads as it did. -/
def journalApartUptoRow : OpenClaim := { program := "ytajdkcpcgfipbaa", sum := "d849538bdf1b54ad7e98ce28c0241d4874d6c8c6463e00bd7b3cdc6974a0789d", func := "worldmint/worldmintlaw25.JournalApart", spec := "journalApart", unfollowed := true, recurses := true, apart := false, narrowed := true }
def JournalApartUptoSaid : Prop := journalApartUptoRow.holds Try.pinned (OpenSpec.upto journalApartSpec)

/-- 'worldmintlaw25.JournalDurable', WHERE WHAT IT READS IS OF BULK AT MOST 1048576: true; the input reads as it did. -/
def journalDurableUptoRow : OpenClaim := { program := "ytajdkcpcgfipbaa", sum := "d849538bdf1b54ad7e98ce28c0241d4874d6c8c6463e00bd7b3cdc6974a0789d", func := "worldmint/worldmintlaw25.JournalDurable", spec := "journalDurable", unfollowed := true, recurses := true, apart := false, narrowed := true }
def JournalDurableUptoSaid : Prop := journalDurableUptoRow.holds Try.pinned (OpenSpec.upto journalDurableSpec)

/-- 'worldmintlaw25.JournalInverted', WHERE WHAT IT READS IS OF BULK AT MOST 1048576: true; the input reads as it did. -/
def journalInvertedUptoRow : OpenClaim := { program := "ytajdkcpcgfipbaa", sum := "d849538bdf1b54ad7e98ce28c0241d4874d6c8c6463e00bd7b3cdc6974a0789d", func := "worldmint/worldmintlaw25.JournalInverted", spec := "journalInverted", unfollowed := true, recurses := true, apart := false, narrowed := true }
def JournalInvertedUptoSaid : Prop := journalInvertedUptoRow.holds Try.pinned (OpenSpec.upto journalInvertedSpec)

end Rows
end Go.Proofs.Ytajdkcpcgfipbaa
