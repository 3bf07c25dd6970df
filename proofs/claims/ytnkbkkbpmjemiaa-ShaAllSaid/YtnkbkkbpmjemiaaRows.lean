/-
  No cell of these rows narrows 'for every input' (looked for: loops, veiled, ifaces, maps, wideKeys, modest, calm, conditions, laid).
  DERIVED. THE GIVEN ROWS OF THIS SEAT. 6 by the template 'for every input the law returns true; each argument reads behind the call as it read before'; 0 by the template 'total and deterministic' (their statements: YtnkbkkbpmjemiaaTotals.lean).
  GIVEN WITH THE SEED: the statements are not yours to turn. If you find one false, say at which input.
  Laid BY PROGRAM, IN A SANDBOX (cutbox-rows.mjs): the forced cells as the released guide's own fill.sh prints them over the translation c736cef5d5ae9c8f… (all of the seat's roots in one cut). By AI agents, Wed Nov 11 2026. No macro, syntax, notation, axiom, sorry.
-/
import Derived.Test.YtnkbkkbpmjemiaaChecked
import GoSem.Claim
import GoSem.ClaimJoined
import GoSem.ClaimMapViews
import Derived.JoinedTies
import Derived.KernelRfl
namespace Go.Proofs.Ytnkbkkbpmjemiaa
/- THE CELL 'sum', in the pinned program and in every row, IS THE sha256 OF THE DUMP (.gsa) THAT YtnkbkkbpmjemiaaProg.lean LOADS. Nothing in Lean hashes anything: it is a label: what it is worth is what the hold of that sum in a sandbox is worth. -/
noncomputable def Try.pinned : Pinned := { name := "ytnkbkkbpmjemiaa", sum := "c736cef5d5ae9c8fe499c18feecfe4643fe7ae29a81b637ea4e6eb23e937b649", checked := Try.checked }
namespace Rows
def none {H : Type} : Left H := { results := [], args := [] }

/-- 'lychgatelaw0.Names': WHATEVER THE INPUT: true; the input reads as it did. -/
def namesSpec : ChangeSpec := { name := "names", fn := fun _ => fun
  | [] => { results := [.lit (.bool true)], args := [] }
  | _ => none }
def namesRow : OpenClaim := { program := "ytnkbkkbpmjemiaa", sum := "c736cef5d5ae9c8fe499c18feecfe4643fe7ae29a81b637ea4e6eb23e937b649", func := "lychgate/lychgatelaw0.Names", spec := "names", apart := false }
def NamesSaid : Prop := namesRow.holds Try.pinned (OpenSpec.ofChange namesSpec)

/-- ITS FALSE NEIGHBOUR: 'it returns false'. Refute it at one input. -/
def namesWrong : ChangeSpec := { name := "names", fn := fun _ => fun
  | [] => { results := [.lit (.bool false)], args := [] }
  | _ => none }
def NamesWrongFalsely : Prop := namesRow.holds Try.pinned (OpenSpec.ofChange namesWrong)

/-- 'lychgatelaw2.CrcAll': WHATEVER THE INPUT: true; the input reads as it did. -/
def crcAllSpec : ChangeSpec := { name := "crcAll", fn := fun _ => fun
  | [d1, d2] => { results := [.lit (.bool true)], args := [d1, d2] }
  | _ => none }
def crcAllRow : OpenClaim := { program := "ytnkbkkbpmjemiaa", sum := "c736cef5d5ae9c8fe499c18feecfe4643fe7ae29a81b637ea4e6eb23e937b649", func := "lychgate/lychgatelaw2.CrcAll", spec := "crcAll", apart := false }
def CrcAllSaid : Prop := crcAllRow.holds Try.pinned (OpenSpec.ofChange crcAllSpec)

/-- ITS FALSE NEIGHBOUR: 'it returns false'. Refute it at one input. -/
def crcAllWrong : ChangeSpec := { name := "crcAll", fn := fun _ => fun
  | [d1, d2] => { results := [.lit (.bool false)], args := [d1, d2] }
  | _ => none }
def CrcAllWrongFalsely : Prop := crcAllRow.holds Try.pinned (OpenSpec.ofChange crcAllWrong)

/-- 'lychgatelaw2.CrcSpoilt': WHATEVER THE INPUT: true; the input reads as it did. -/
def crcSpoiltSpec : ChangeSpec := { name := "crcSpoilt", fn := fun _ => fun
  | [d1, d2, d3] => { results := [.lit (.bool true)], args := [d1, d2, d3] }
  | _ => none }
def crcSpoiltRow : OpenClaim := { program := "ytnkbkkbpmjemiaa", sum := "c736cef5d5ae9c8fe499c18feecfe4643fe7ae29a81b637ea4e6eb23e937b649", func := "lychgate/lychgatelaw2.CrcSpoilt", spec := "crcSpoilt", apart := false }
def CrcSpoiltSaid : Prop := crcSpoiltRow.holds Try.pinned (OpenSpec.ofChange crcSpoiltSpec)

/-- ITS FALSE NEIGHBOUR: 'it returns false'. Refute it at one input. -/
def crcSpoiltWrong : ChangeSpec := { name := "crcSpoilt", fn := fun _ => fun
  | [d1, d2, d3] => { results := [.lit (.bool false)], args := [d1, d2, d3] }
  | _ => none }
def CrcSpoiltWrongFalsely : Prop := crcSpoiltRow.holds Try.pinned (OpenSpec.ofChange crcSpoiltWrong)

/-- 'lychgatelaw14.DiceAll': WHATEVER THE INPUT: true; the input reads as it did. -/
def diceAllSpec : ChangeSpec := { name := "diceAll", fn := fun _ => fun
  | [d1, d2] => { results := [.lit (.bool true)], args := [d1, d2] }
  | _ => none }
def diceAllRow : OpenClaim := { program := "ytnkbkkbpmjemiaa", sum := "c736cef5d5ae9c8fe499c18feecfe4643fe7ae29a81b637ea4e6eb23e937b649", func := "lychgate/lychgatelaw14.DiceAll", spec := "diceAll", apart := false }
def DiceAllSaid : Prop := diceAllRow.holds Try.pinned (OpenSpec.ofChange diceAllSpec)

/-- ITS FALSE NEIGHBOUR: 'it returns false'. Refute it at one input. -/
def diceAllWrong : ChangeSpec := { name := "diceAll", fn := fun _ => fun
  | [d1, d2] => { results := [.lit (.bool false)], args := [d1, d2] }
  | _ => none }
def DiceAllWrongFalsely : Prop := diceAllRow.holds Try.pinned (OpenSpec.ofChange diceAllWrong)

/-- 'lychgatelaw8.ShaAll': WHATEVER THE INPUT: true; the input reads as it did. -/
def shaAllSpec : ChangeSpec := { name := "shaAll", fn := fun _ => fun
  | [d1, d2] => { results := [.lit (.bool true)], args := [d1, d2] }
  | _ => none }
def shaAllRow : OpenClaim := { program := "ytnkbkkbpmjemiaa", sum := "c736cef5d5ae9c8fe499c18feecfe4643fe7ae29a81b637ea4e6eb23e937b649", func := "lychgate/lychgatelaw8.ShaAll", spec := "shaAll", apart := false }
def ShaAllSaid : Prop := shaAllRow.holds Try.pinned (OpenSpec.ofChange shaAllSpec)

/-- ITS FALSE NEIGHBOUR: 'it returns false'. Refute it at one input. -/
def shaAllWrong : ChangeSpec := { name := "shaAll", fn := fun _ => fun
  | [d1, d2] => { results := [.lit (.bool false)], args := [d1, d2] }
  | _ => none }
def ShaAllWrongFalsely : Prop := shaAllRow.holds Try.pinned (OpenSpec.ofChange shaAllWrong)

/-- 'lychgatelaw8.ShaPassword': WHATEVER THE INPUT: true; the input reads as it did. -/
def shaPasswordSpec : ChangeSpec := { name := "shaPassword", fn := fun _ => fun
  | [d1, d2] => { results := [.lit (.bool true)], args := [d1, d2] }
  | _ => none }
def shaPasswordRow : OpenClaim := { program := "ytnkbkkbpmjemiaa", sum := "c736cef5d5ae9c8fe499c18feecfe4643fe7ae29a81b637ea4e6eb23e937b649", func := "lychgate/lychgatelaw8.ShaPassword", spec := "shaPassword", apart := false }
def ShaPasswordSaid : Prop := shaPasswordRow.holds Try.pinned (OpenSpec.ofChange shaPasswordSpec)

/-- ITS FALSE NEIGHBOUR: 'it returns false'. Refute it at one input. -/
def shaPasswordWrong : ChangeSpec := { name := "shaPassword", fn := fun _ => fun
  | [d1, d2] => { results := [.lit (.bool false)], args := [d1, d2] }
  | _ => none }
def ShaPasswordWrongFalsely : Prop := shaPasswordRow.holds Try.pinned (OpenSpec.ofChange shaPasswordWrong)

/- THE SECOND FORM. 'bulk': how many values and letters a reading holds, each counted each time it is reached (what is shared counts as often as it is met; a slice's spare places count too). A statement '..UptoSaid' is the law's where the arguments, and the package variables that the reading takes, are together of bulk at most 1048576: NARROWER than '..Said'. Prove '..Said' where nothing that the law and all that it calls make is longer than what came in: it says more and counts as full. Else prove '..UptoSaid'. A law counts once. -/
mutual
def uptoBulk {H : Type} : DataW H → Nat
  | .lit (.string bytes) => bytes.length + 1
  | .lit _ => 1
  | .nil => 1
  | .ptr d => uptoBulk d + 1
  | .slice elems spare => uptoBulkAll elems + uptoBulkAll spare + 1
  | .agg parts => uptoBulkAll parts + 1
  | .iface _ d => uptoBulk d + 1
  | .map entries => uptoBulkEntries entries + 1
  | .held _ => 1
def uptoBulkAll {H : Type} : List (DataW H) → Nat
  | [] => 0
  | d :: r => uptoBulk d + uptoBulkAll r
def uptoBulkEntries {H : Type} : List (Lit × DataW H) → Nat
  | [] => 0
  | x :: r => uptoBulkEntry x + uptoBulkEntries r
def uptoBulkEntry {H : Type} : Lit × DataW H → Nat
  | (.string bytes, d) => bytes.length + uptoBulk d + 1
  | (_, d) => uptoBulk d + 1
 end
def uptoSmall : (H : Type) → List (DataW H) → Bool := fun _ ds => decide (uptoBulkAll ds ≤ 1048576)
def OpenSpec.upto (s : _root_.Go.ChangeSpec) : _root_.Go.OpenSpec := { _root_.Go.OpenSpec.ofChange s with cond := some uptoSmall }

/-- 'lychgatelaw0.Names', WHERE WHAT IT READS IS OF BULK AT MOST 1048576: true; the input reads as it did. -/
def namesUptoRow : OpenClaim := { program := "ytnkbkkbpmjemiaa", sum := "c736cef5d5ae9c8fe499c18feecfe4643fe7ae29a81b637ea4e6eb23e937b649", func := "lychgate/lychgatelaw0.Names", spec := "names", apart := false, narrowed := true }
def NamesUptoSaid : Prop := namesUptoRow.holds Try.pinned (OpenSpec.upto namesSpec)

/-- 'lychgatelaw2.CrcAll', WHERE WHAT IT READS IS OF BULK AT MOST 1048576: true; the input reads as it did. -/
def crcAllUptoRow : OpenClaim := { program := "ytnkbkkbpmjemiaa", sum := "c736cef5d5ae9c8fe499c18feecfe4643fe7ae29a81b637ea4e6eb23e937b649", func := "lychgate/lychgatelaw2.CrcAll", spec := "crcAll", apart := false, narrowed := true }
def CrcAllUptoSaid : Prop := crcAllUptoRow.holds Try.pinned (OpenSpec.upto crcAllSpec)

/-- 'lychgatelaw2.CrcSpoilt', WHERE WHAT IT READS IS OF BULK AT MOST 1048576: true; the input reads as it did. -/
def crcSpoiltUptoRow : OpenClaim := { program := "ytnkbkkbpmjemiaa", sum := "c736cef5d5ae9c8fe499c18feecfe4643fe7ae29a81b637ea4e6eb23e937b649", func := "lychgate/lychgatelaw2.CrcSpoilt", spec := "crcSpoilt", apart := false, narrowed := true }
def CrcSpoiltUptoSaid : Prop := crcSpoiltUptoRow.holds Try.pinned (OpenSpec.upto crcSpoiltSpec)

/-- 'lychgatelaw14.DiceAll', WHERE WHAT IT READS IS OF BULK AT MOST 1048576: true; the input reads as it did. -/
def diceAllUptoRow : OpenClaim := { program := "ytnkbkkbpmjemiaa", sum := "c736cef5d5ae9c8fe499c18feecfe4643fe7ae29a81b637ea4e6eb23e937b649", func := "lychgate/lychgatelaw14.DiceAll", spec := "diceAll", apart := false, narrowed := true }
def DiceAllUptoSaid : Prop := diceAllUptoRow.holds Try.pinned (OpenSpec.upto diceAllSpec)

/-- 'lychgatelaw8.ShaAll', WHERE WHAT IT READS IS OF BULK AT MOST 1048576: true; the input reads as it did. -/
def shaAllUptoRow : OpenClaim := { program := "ytnkbkkbpmjemiaa", sum := "c736cef5d5ae9c8fe499c18feecfe4643fe7ae29a81b637ea4e6eb23e937b649", func := "lychgate/lychgatelaw8.ShaAll", spec := "shaAll", apart := false, narrowed := true }
def ShaAllUptoSaid : Prop := shaAllUptoRow.holds Try.pinned (OpenSpec.upto shaAllSpec)

/-- 'lychgatelaw8.ShaPassword', WHERE WHAT IT READS IS OF BULK AT MOST 1048576: true; the input reads as it did. -/
def shaPasswordUptoRow : OpenClaim := { program := "ytnkbkkbpmjemiaa", sum := "c736cef5d5ae9c8fe499c18feecfe4643fe7ae29a81b637ea4e6eb23e937b649", func := "lychgate/lychgatelaw8.ShaPassword", spec := "shaPassword", apart := false, narrowed := true }
def ShaPasswordUptoSaid : Prop := shaPasswordUptoRow.holds Try.pinned (OpenSpec.upto shaPasswordSpec)

end Rows
end Go.Proofs.Ytnkbkkbpmjemiaa
