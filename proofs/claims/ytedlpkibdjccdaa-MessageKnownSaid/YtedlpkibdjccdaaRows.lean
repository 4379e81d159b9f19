/-
  No cell of these rows narrows 'for every input' (looked for: loops, veiled, ifaces, maps, wideKeys, modest, calm, conditions, laid).
  DERIVED. THE GIVEN ROWS OF THIS SEAT. 7 by the template 'for every input the law returns true; each argument reads behind the call as it read before'; 0 by the template 'total and deterministic' (their statements: YtedlpkibdjccdaaTotals.lean).
  GIVEN WITH THE SEED: the statements are not yours to turn. If you find one false, say at which input.
  Laid BY PROGRAM, IN A SANDBOX (cutbox-rows.mjs): the forced cells as the released guide's own fill.sh prints them over the translation f5c7992961cd41b6… (all of the seat's roots in one cut). By AI agents, Wed Nov 11 2026. No macro, syntax, notation, axiom, sorry.
-/
import Derived.Test.YtedlpkibdjccdaaChecked
import GoSem.Claim
import GoSem.ClaimJoined
import GoSem.ClaimMapViews
import Derived.JoinedTies
import Derived.KernelRfl
namespace Go.Proofs.Ytedlpkibdjccdaa
/- THE CELL 'sum', in the pinned program and in every row, IS THE sha256 OF THE DUMP (.gsa) THAT YtedlpkibdjccdaaProg.lean LOADS. Nothing in Lean hashes anything: it is a label: what it is worth is what the hold of that sum in a sandbox is worth. -/
noncomputable def Try.pinned : Pinned := { name := "ytedlpkibdjccdaa", sum := "f5c7992961cd41b680ccd822dfddba26a040a8a005e882415d7320918637b7a2", checked := Try.checked }
namespace Rows
def none {H : Type} : Left H := { results := [], args := [] }

/-- 'vignettelaw23.MessageWrites': WHATEVER THE INPUT: true; the input reads as it did. -/
def messageWritesSpec : ChangeSpec := { name := "messageWrites", fn := fun _ => fun
  | [d] => { results := [.lit (.bool true)], args := [d] }
  | _ => none }
def messageWritesRow : OpenClaim := { program := "ytedlpkibdjccdaa", sum := "f5c7992961cd41b680ccd822dfddba26a040a8a005e882415d7320918637b7a2", func := "vignette/vignettelaw23.MessageWrites", spec := "messageWrites", unfollowed := true, recurses := true, apart := false }
def MessageWritesSaid : Prop := messageWritesRow.holds Try.pinned (OpenSpec.ofChange messageWritesSpec)

/-- ITS FALSE NEIGHBOUR: 'it returns false'. Refute it at one input. -/
def messageWritesWrong : ChangeSpec := { name := "messageWrites", fn := fun _ => fun
  | [d] => { results := [.lit (.bool false)], args := [d] }
  | _ => none }
def MessageWritesWrongFalsely : Prop := messageWritesRow.holds Try.pinned (OpenSpec.ofChange messageWritesWrong)

/-- 'vignettelaw23.MessageReads': WHATEVER THE INPUT: true; the input reads as it did. -/
def messageReadsSpec : ChangeSpec := { name := "messageReads", fn := fun _ => fun
  | [d] => { results := [.lit (.bool true)], args := [d] }
  | _ => none }
def messageReadsRow : OpenClaim := { program := "ytedlpkibdjccdaa", sum := "f5c7992961cd41b680ccd822dfddba26a040a8a005e882415d7320918637b7a2", func := "vignette/vignettelaw23.MessageReads", spec := "messageReads", unfollowed := true, recurses := true, apart := false }
def MessageReadsSaid : Prop := messageReadsRow.holds Try.pinned (OpenSpec.ofChange messageReadsSpec)

/-- ITS FALSE NEIGHBOUR: 'it returns false'. Refute it at one input. -/
def messageReadsWrong : ChangeSpec := { name := "messageReads", fn := fun _ => fun
  | [d] => { results := [.lit (.bool false)], args := [d] }
  | _ => none }
def MessageReadsWrongFalsely : Prop := messageReadsRow.holds Try.pinned (OpenSpec.ofChange messageReadsWrong)

/-- 'vignettelaw23.MessageBack': WHATEVER THE INPUT: true; the input reads as it did. -/
def messageBackSpec : ChangeSpec := { name := "messageBack", fn := fun _ => fun
  | [d1, d2, d3] => { results := [.lit (.bool true)], args := [d1, d2, d3] }
  | _ => none }
def messageBackRow : OpenClaim := { program := "ytedlpkibdjccdaa", sum := "f5c7992961cd41b680ccd822dfddba26a040a8a005e882415d7320918637b7a2", func := "vignette/vignettelaw23.MessageBack", spec := "messageBack", unfollowed := true, recurses := true, apart := false }
def MessageBackSaid : Prop := messageBackRow.holds Try.pinned (OpenSpec.ofChange messageBackSpec)

/-- ITS FALSE NEIGHBOUR: 'it returns false'. Refute it at one input. -/
def messageBackWrong : ChangeSpec := { name := "messageBack", fn := fun _ => fun
  | [d1, d2, d3] => { results := [.lit (.bool false)], args := [d1, d2, d3] }
  | _ => none }
def MessageBackWrongFalsely : Prop := messageBackRow.holds Try.pinned (OpenSpec.ofChange messageBackWrong)

/-- 'vignettelaw23.MessageStream': WHATEVER THE INPUT: true; the input reads as it did. -/
def messageStreamSpec : ChangeSpec := { name := "messageStream", fn := fun _ => fun
  | [d1, d2] => { results := [.lit (.bool true)], args := [d1, d2] }
  | _ => none }
def messageStreamRow : OpenClaim := { program := "ytedlpkibdjccdaa", sum := "f5c7992961cd41b680ccd822dfddba26a040a8a005e882415d7320918637b7a2", func := "vignette/vignettelaw23.MessageStream", spec := "messageStream", unfollowed := true, recurses := true, apart := false }
def MessageStreamSaid : Prop := messageStreamRow.holds Try.pinned (OpenSpec.ofChange messageStreamSpec)

/-- ITS FALSE NEIGHBOUR: 'it returns false'. Refute it at one input. -/
def messageStreamWrong : ChangeSpec := { name := "messageStream", fn := fun _ => fun
  | [d1, d2] => { results := [.lit (.bool false)], args := [d1, d2] }
  | _ => none }
def MessageStreamWrongFalsely : Prop := messageStreamRow.holds Try.pinned (OpenSpec.ofChange messageStreamWrong)

/-- 'vignettelaw23.MessageAny': WHATEVER THE INPUT: true; the input reads as it did. -/
def messageAnySpec : ChangeSpec := { name := "messageAny", fn := fun _ => fun
  | [d] => { results := [.lit (.bool true)], args := [d] }
  | _ => none }
def messageAnyRow : OpenClaim := { program := "ytedlpkibdjccdaa", sum := "f5c7992961cd41b680ccd822dfddba26a040a8a005e882415d7320918637b7a2", func := "vignette/vignettelaw23.MessageAny", spec := "messageAny", unfollowed := true, recurses := true, apart := false }
def MessageAnySaid : Prop := messageAnyRow.holds Try.pinned (OpenSpec.ofChange messageAnySpec)

/-- ITS FALSE NEIGHBOUR: 'it returns false'. Refute it at one input. -/
def messageAnyWrong : ChangeSpec := { name := "messageAny", fn := fun _ => fun
  | [d] => { results := [.lit (.bool false)], args := [d] }
  | _ => none }
def MessageAnyWrongFalsely : Prop := messageAnyRow.holds Try.pinned (OpenSpec.ofChange messageAnyWrong)

/-- 'vignettelaw23.MessageKnown': WHATEVER THE INPUT: true; the input reads as it did. -/
def messageKnownSpec : ChangeSpec := { name := "messageKnown", fn := fun _ => fun
  | [] => { results := [.lit (.bool true)], args := [] }
  | _ => none }
def messageKnownRow : OpenClaim := { program := "ytedlpkibdjccdaa", sum := "f5c7992961cd41b680ccd822dfddba26a040a8a005e882415d7320918637b7a2", func := "vignette/vignettelaw23.MessageKnown", spec := "messageKnown", unfollowed := true, recurses := true, apart := false }
def MessageKnownSaid : Prop := messageKnownRow.holds Try.pinned (OpenSpec.ofChange messageKnownSpec)

/-- ITS FALSE NEIGHBOUR: 'it returns false'. Refute it at one input. -/
def messageKnownWrong : ChangeSpec := { name := "messageKnown", fn := fun _ => fun
  | [] => { results := [.lit (.bool false)], args := [] }
  | _ => none }
def MessageKnownWrongFalsely : Prop := messageKnownRow.holds Try.pinned (OpenSpec.ofChange messageKnownWrong)

/-- 'vignettelaw23.MessageApart': WHATEVER THE INPUT: true; the input reads as it did. -/
def messageApartSpec : ChangeSpec := { name := "messageApart", fn := fun _ => fun
  | [d1, d2] => { results := [.lit (.bool true)], args := [d1, d2] }
  | _ => none }
def messageApartRow : OpenClaim := { program := "ytedlpkibdjccdaa", sum := "f5c7992961cd41b680ccd822dfddba26a040a8a005e882415d7320918637b7a2", func := "vignette/vignettelaw23.MessageApart", spec := "messageApart", unfollowed := true, recurses := true, apart := false }
def MessageApartSaid : Prop := messageApartRow.holds Try.pinned (OpenSpec.ofChange messageApartSpec)

/-- ITS FALSE NEIGHBOUR: 'it returns false'. Refute it at one input. -/
def messageApartWrong : ChangeSpec := { name := "messageApart", fn := fun _ => fun
  | [d1, d2] => { results := [.lit (.bool false)], args := [d1, d2] }
  | _ => none }
def MessageApartWrongFalsely : Prop := messageApartRow.holds Try.pinned (OpenSpec.ofChange messageApartWrong)

/- THE SECOND FORM. 'bulk': how many values and letters a reading holds, each counted each time it is reached (what is shared counts as often as it is met; a slice's spare places count too). A statement '..UptoSaid' is the law's where the arguments, and the package variables that the reading takes, are together of bulk at most 1048576: NARROWER than '..Said'. Prove '..Said' where nothing that the law and all that it calls make is longer than what came in: it says more and counts as full. Else prove '..UptoSaid'. A law counts once. -/
mutual
def uptoBulk {H : Type} : DataW H → Nat
  | .lit (.string bytes) => bytes.length + 1
  | .lit _ => 1
  | .nil => 1
  | .ptr d => uptoBulk d + 1
  | .slice elems spare => uptoBulkAll elems + uptoBulkAll spare + 1
  | .agg parts => uptoBulkAll parts + 1
  | .iface _ d => uptoBulk d + 1
  | .map entries => uptoBulkEntries entries + 1
  | .held _ => 1
def uptoBulkAll {H : Type} : List (DataW H) → Nat
  | [] => 0
  | d :: r => uptoBulk d + uptoBulkAll r
def uptoBulkEntries {H : Type} : List (Lit × DataW H) → Nat
  | [] => 0
  | x :: r => uptoBulkEntry x + uptoBulkEntries r
def uptoBulkEntry {H : Type} : Lit × DataW H → Nat
  | (.string bytes, d) => bytes.length + uptoBulk d + 1
  | (_, d) => uptoBulk d + 1
 end
def uptoSmall : (H : Type) → List (DataW H) → Bool := fun _ ds => decide (uptoBulkAll ds ≤ 1048576)
def OpenSpec.upto (s : _root_.Go.ChangeSpec) : _root_.Go.OpenSpec := { _root_.Go.OpenSpec.ofChange s with cond := some uptoSmall }

/-- 'vignettelaw23.MessageWrites', WHERE WHAT IT READS IS OF BULK AT MOST 1048576: true; the input reads as it did. -/
def messageWritesUptoRow : OpenClaim := { program := "ytedlpkibdjccdaa", sum := "f5c7992961cd41b680ccd822dfddba26a040a8a005e882415d7320918637b7a2", func := "vignette/vignettelaw23.MessageWrites", spec := "messageWrites", unfollowed := true, recurses := true, apart := false, narrowed := true }
def MessageWritesUptoSaid : Prop := messageWritesUptoRow.holds Try.pinned (OpenSpec.upto messageWritesSpec)

/-- 'vignettelaw23.MessageReads', WHERE WHAT IT READS IS OF BULK AT MOST 1048576: true; the input reads as it did. -/
def messageReadsUptoRow : OpenClaim := { program := "ytedlpkibdjccdaa", sum := "f5c7992961cd41b680ccd822dfddba26a040a8a005e882415d7320918637b7a2", func := "vignette/vignettelaw23.MessageReads", spec := "messageReads", unfollowed := true, recurses := true, apart := false, narrowed := true }
def MessageReadsUptoSaid : Prop := messageReadsUptoRow.holds Try.pinned (OpenSpec.upto messageReadsSpec)

/-- 'vignettelaw23.MessageBack', WHERE WHAT IT READS IS OF BULK AT MOST 1048576: true; the input reads as it did. -/
def messageBackUptoRow : OpenClaim := { program := "ytedlpkibdjccdaa", sum := "f5c7992961cd41b680ccd822dfddba26a040a8a005e882415d7320918637b7a2", func := "vignette/vignettelaw23.MessageBack", spec := "messageBack", unfollowed := true, recurses := true, apart := false, narrowed := true }
def MessageBackUptoSaid : Prop := messageBackUptoRow.holds Try.pinned (OpenSpec.upto messageBackSpec)

/-- 'vignettelaw23.MessageStream', WHERE WHAT IT READS IS OF BULK AT MOST 1048576: true; the input reads as it did. -/
def messageStreamUptoRow : OpenClaim := { program := "ytedlpkibdjccdaa", sum := "f5c7992961cd41b680ccd822dfddba26a040a8a005e882415d7320918637b7a2", func := "vignette/vignettelaw23.MessageStream", spec := "messageStream", unfollowed := true, recurses := true, apart := false, narrowed := true }
def MessageStreamUptoSaid : Prop := messageStreamUptoRow.holds Try.pinned (OpenSpec.upto messageStreamSpec)

/-- 'vignettelaw23.MessageAny', WHERE WHAT IT READS IS OF BULK AT MOST 1048576: true; the input reads as it did. -/
def messageAnyUptoRow : OpenClaim := { program := "ytedlpkibdjccdaa", sum := "f5c7992961cd41b680ccd822dfddba26a040a8a005e882415d7320918637b7a2", func := "vignette/vignettelaw23.MessageAny", spec := "messageAny", unfollowed := true, recurses := true, apart := false, narrowed := true }
def MessageAnyUptoSaid : Prop := messageAnyUptoRow.holds Try.pinned (OpenSpec.upto messageAnySpec)

/-- 'vignettelaw23.MessageKnown', WHERE WHAT IT READS IS OF BULK AT MOST 1048576: true; the input reads as it did. -/
def messageKnownUptoRow : OpenClaim := { program := "ytedlpkibdjccdaa", sum := "f5c7992961cd41b680ccd822dfddba26a040a8a005e882415d7320918637b7a2", func := "vignette/vignettelaw23.MessageKnown", spec := "messageKnown", unfollowed := true, recurses := true, apart := false, narrowed := true }
def MessageKnownUptoSaid : Prop := messageKnownUptoRow.holds Try.pinned (OpenSpec.upto messageKnownSpec)

/-- 'vignettelaw23.MessageApart', WHERE WHAT IT READS IS OF BULK AT MOST 1048576: true; the input reads as it did. -/
def messageApartUptoRow : OpenClaim := { program := "ytedlpkibdjccdaa", sum := "f5c7992961cd41b680ccd822dfddba26a040a8a005e882415d7320918637b7a2", func := "vignette/vignettelaw23.MessageApart", spec := "messageApart", unfollowed := true, recurses := true, apart := false, narrowed := true }
def MessageApartUptoSaid : Prop := messageApartUptoRow.holds Try.pinned (OpenSpec.upto messageApartSpec)

end Rows
end Go.Proofs.Ytedlpkibdjccdaa
