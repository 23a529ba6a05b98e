/-
  No cell of these rows narrows 'for every input' (looked for: loops, veiled, ifaces, maps, wideKeys, modest, calm, conditions, laid).
  DERIVED. THE GIVEN ROWS OF THIS SEAT. 4 by the template 'for every input the law returns true; each argument reads behind the call as it read before'; 0 by the template 'total and deterministic' (their statements: YticfnlclbmibeaaTotals.lean).
  GIVEN WITH THE SEED: the statements are not yours to turn. If you find one false, say at which input.
  Laid BY PROGRAM, IN A SANDBOX (cutbox-rows.mjs): the forced cells as the released guide's own fill.sh prints them over the translation 90c46596ab7886e5… (all of the seat's roots in one cut). By AI agents, Wed Nov 11 2026. No macro, syntax, notation, axiom, sorry.
-/
import Derived.Test.YticfnlclbmibeaaChecked
import GoSem.Claim
import GoSem.ClaimJoined
import GoSem.ClaimMapViews
import Derived.JoinedTies
import Derived.KernelRfl
namespace Go.Proofs.Yticfnlclbmibeaa
/- THE CELL 'sum', in the pinned program and in every row, IS THE sha256 OF THE DUMP (.gsa) THAT YticfnlclbmibeaaProg.lean LOADS. Nothing in Lean hashes anything: it is a label: what it is worth is what the hold of that sum in a sandbox is worth. -/
noncomputable def Try.pinned : Pinned := { name := "yticfnlclbmibeaa", sum := "90c46596ab7886e5b3140498b62f0b16873a55d1effa1025e09d33e081eac463", checked := Try.checked }
namespace Rows
def none {H : Type} : Left H := { results := [], args := [] }

/-- 'garlandlaw06.JoinPlays': WHATEVER THE INPUT: true; the input reads as it did. -/
def joinPlaysSpec : ChangeSpec := { name := "joinPlays", fn := fun _ => fun
  | [d1, d2, d3, d4] => { results := [.lit (.bool true)], args := [d1, d2, d3, d4] }
  | _ => none }
def joinPlaysRow : OpenClaim := { program := "yticfnlclbmibeaa", sum := "90c46596ab7886e5b3140498b62f0b16873a55d1effa1025e09d33e081eac463", func := "garland/garlandlaw06.JoinPlays", spec := "joinPlays", unfollowed := true, recurses := true, apart := false }
def JoinPlaysSaid : Prop := joinPlaysRow.holds Try.pinned (OpenSpec.ofChange joinPlaysSpec)

/-- ITS FALSE NEIGHBOUR: 'it returns false'. Refute it at one input. -/
def joinPlaysWrong : ChangeSpec := { name := "joinPlays", fn := fun _ => fun
  | [d1, d2, d3, d4] => { results := [.lit (.bool false)], args := [d1, d2, d3, d4] }
  | _ => none }
def JoinPlaysWrongFalsely : Prop := joinPlaysRow.holds Try.pinned (OpenSpec.ofChange joinPlaysWrong)

/-- 'garlandlaw06.JoinAll': WHATEVER THE INPUT: true; the input reads as it did. -/
def joinAllSpec : ChangeSpec := { name := "joinAll", fn := fun _ => fun
  | [d1, d2, d3] => { results := [.lit (.bool true)], args := [d1, d2, d3] }
  | _ => none }
def joinAllRow : OpenClaim := { program := "yticfnlclbmibeaa", sum := "90c46596ab7886e5b3140498b62f0b16873a55d1effa1025e09d33e081eac463", func := "garland/garlandlaw06.JoinAll", spec := "joinAll", unfollowed := true, recurses := true, apart := false }
def JoinAllSaid : Prop := joinAllRow.holds Try.pinned (OpenSpec.ofChange joinAllSpec)

/-- ITS FALSE NEIGHBOUR: 'it returns false'. Refute it at one input. -/
def joinAllWrong : ChangeSpec := { name := "joinAll", fn := fun _ => fun
  | [d1, d2, d3] => { results := [.lit (.bool false)], args := [d1, d2, d3] }
  | _ => none }
def JoinAllWrongFalsely : Prop := joinAllRow.holds Try.pinned (OpenSpec.ofChange joinAllWrong)

/-- 'garlandlaw06.JoinNil': WHATEVER THE INPUT: true; the input reads as it did. -/
def joinNilSpec : ChangeSpec := { name := "joinNil", fn := fun _ => fun
  | [d1, d2] => { results := [.lit (.bool true)], args := [d1, d2] }
  | _ => none }
def joinNilRow : OpenClaim := { program := "yticfnlclbmibeaa", sum := "90c46596ab7886e5b3140498b62f0b16873a55d1effa1025e09d33e081eac463", func := "garland/garlandlaw06.JoinNil", spec := "joinNil", unfollowed := true, recurses := true, apart := false }
def JoinNilSaid : Prop := joinNilRow.holds Try.pinned (OpenSpec.ofChange joinNilSpec)

/-- ITS FALSE NEIGHBOUR: 'it returns false'. Refute it at one input. -/
def joinNilWrong : ChangeSpec := { name := "joinNil", fn := fun _ => fun
  | [d1, d2] => { results := [.lit (.bool false)], args := [d1, d2] }
  | _ => none }
def JoinNilWrongFalsely : Prop := joinNilRow.holds Try.pinned (OpenSpec.ofChange joinNilWrong)

/-- 'garlandlaw06.JoinOrder': WHATEVER THE INPUT: true; the input reads as it did. -/
def joinOrderSpec : ChangeSpec := { name := "joinOrder", fn := fun _ => fun
  | [d1, d2, d3] => { results := [.lit (.bool true)], args := [d1, d2, d3] }
  | _ => none }
def joinOrderRow : OpenClaim := { program := "yticfnlclbmibeaa", sum := "90c46596ab7886e5b3140498b62f0b16873a55d1effa1025e09d33e081eac463", func := "garland/garlandlaw06.JoinOrder", spec := "joinOrder", unfollowed := true, recurses := true, apart := false }
def JoinOrderSaid : Prop := joinOrderRow.holds Try.pinned (OpenSpec.ofChange joinOrderSpec)

/-- ITS FALSE NEIGHBOUR: 'it returns false'. Refute it at one input. -/
def joinOrderWrong : ChangeSpec := { name := "joinOrder", fn := fun _ => fun
  | [d1, d2, d3] => { results := [.lit (.bool false)], args := [d1, d2, d3] }
  | _ => none }
def JoinOrderWrongFalsely : Prop := joinOrderRow.holds Try.pinned (OpenSpec.ofChange joinOrderWrong)

/- THE SECOND FORM. 'bulk': how many values and letters a reading holds, each counted each time it is reached (what is shared counts as often as it is met; a slice's spare places count too). A statement '..UptoSaid' is the law's where the arguments, and the package variables that the reading takes, are together of bulk at most 1048576: NARROWER than '..Said'. Prove '..Said' where nothing that the law and all that it calls make is longer than what came in: it says more and counts as full. Else prove '..UptoSaid'. A law counts once. -/
mutual
def uptoBulk {H : Type} : DataW H → Nat
  | .lit (.string bytes) => bytes.length + 1
  | .lit _ => 1
  | .nil => 1
  | .ptr d => uptoBulk d + 1
  | .slice elems spare => uptoBulkAll elems + uptoBulkAll spare + 1
  | .agg parts => uptoBulkAll parts + 1
  | .iface _ d => uptoBulk d + 1
  | .map entries => uptoBulkEntries entries + 1
  | .held _ => 1
def uptoBulkAll {H : Type} : List (DataW H) → Nat
  | [] => 0
  | d :: r => uptoBulk d + uptoBulkAll r
def uptoBulkEntries {H : Type} : List (Lit × DataW H) → Nat
  | [] => 0
  | x :: r => uptoBulkEntry x + uptoBulkEntries r
def uptoBulkEntry {H : Type} : Lit × DataW H → Nat
  | (.string bytes, d) => bytes.length + uptoBulk d + 1
  | (_, d) => uptoBulk d + 1
 end
def uptoSmall : (H : Type) → List (DataW H) → Bool := fun _ ds => decide (uptoBulkAll ds ≤ 1048576)
def OpenSpec.upto (s : _root_.Go.ChangeSpec) : _root_.Go.OpenSpec := { _root_.Go.OpenSpec.ofChange s with cond := some uptoSmall }

/-- 'garlandlaw06.JoinPlays', WHERE WHAT IT READS IS OF BULK AT MOST 1048576: true; the input reads as it did. -/
def joinPlaysUptoRow : OpenClaim := { program := "yticfnlclbmibeaa", sum := "90c46596ab7886e5b3140498b62f0b16873a55d1effa1025e09d33e081eac463", func := "garland/garlandlaw06.JoinPlays", spec := "joinPlays", unfollowed := true, recurses := true, apart := false, narrowed := true }
def JoinPlaysUptoSaid : Prop := joinPlaysUptoRow.holds Try.pinned (OpenSpec.upto joinPlaysSpec)

/-- 'garlandlaw06.JoinAll', WHERE WHAT IT READS IS OF BULK AT MOST 1048576: true; the input reads as it did. -/
def joinAllUptoRow : OpenClaim := { program := "yticfnlclbmibeaa", sum := "90c46596ab7886e5b3140498b62f0b16873a55d1effa1025e09d33e081eac463", func := "garland/garlandlaw06.JoinAll", spec := "joinAll", unfollowed := true, recurses := true, apart := false, narrowed := true }
def JoinAllUptoSaid : Prop := joinAllUptoRow.holds Try.pinned (OpenSpec.upto joinAllSpec)

/-- 'garlandlaw06.JoinNil', WHERE WHAT IT READS IS OF BULK AT MOST 1048576: true; the input reads as it did. -/
def joinNilUptoRow : OpenClaim := { program := "yticfnlclbmibeaa", sum := "90c46596ab7886e5b3140498b62f0b16873a55d1effa1025e09d33e081eac463", func := "garland/garlandlaw06.JoinNil", spec := "joinNil", unfollowed := true, recurses := true, apart := false, narrowed := true }
def JoinNilUptoSaid : Prop := joinNilUptoRow.holds Try.pinned (OpenSpec.upto joinNilSpec)

/-- 'garlandlaw06.JoinOrder', WHERE WHAT IT READS IS OF BULK AT MOST 1048576: true; the input reads as it did. -/
def joinOrderUptoRow : OpenClaim := { program := "yticfnlclbmibeaa", sum := "90c46596ab7886e5b3140498b62f0b16873a55d1effa1025e09d33e081eac463", func := "garland/garlandlaw06.JoinOrder", spec := "joinOrder", unfollowed := true, recurses := true, apart := false, narrowed := true }
def JoinOrderUptoSaid : Prop := joinOrderUptoRow.holds Try.pinned (OpenSpec.upto joinOrderSpec)

end Rows
end Go.Proofs.Yticfnlclbmibeaa
