/-
  No cell of these rows narrows 'for every input' (looked for: loops, veiled, ifaces, maps, wideKeys, modest, calm, conditions, laid).
  DERIVED. THE GIVEN ROWS OF THIS SEAT. 4 by the template 'for every input the law returns true; each argument reads behind the call as it read before'; 0 by the template 'total and deterministic' (their statements: YtepjcfbigcfkfaaTotals.lean).
  GIVEN WITH THE SEED: the statements are not yours to turn. If you find one false, say at which input.
  Laid BY PROGRAM, IN A SANDBOX (cutbox-rows.mjs): the forced cells as the released guide's own fill.sh prints them over the translation 408a46b06c47e084… (all of the seat's roots in one cut). By AI agents, Wed Nov 11 2026. No macro, syntax, notation, axiom, sorry.
-/
import Derived.Test.YtepjcfbigcfkfaaChecked
import GoSem.Claim
import GoSem.ClaimJoined
import GoSem.ClaimMapViews
import Derived.JoinedTies
import Derived.KernelRfl
namespace Go.Proofs.Ytepjcfbigcfkfaa
/- THE CELL 'sum', in the pinned program and in every row, IS THE sha256 OF THE DUMP (.gsa) THAT YtepjcfbigcfkfaaProg.lean LOADS. Nothing in Lean hashes anything: it is a label: what it is worth is what the hold of that sum in a sandbox is worth. -/
noncomputable def Try.pinned : Pinned := { name := "ytepjcfbigcfkfaa", sum := "408a46b06c47e0849385ce9f8d582970e28934f0fa18da2ec72b31ac5732d9d8", checked := Try.checked }
namespace Rows
def none {H : Type} : Left H := { results := [], args := [] }

/-- 'garlandlaw23.TutteParity': WHATEVER THE INPUT: true; the input reads as it did. -/
def tutteParitySpec : ChangeSpec := { name := "tutteParity", fn := fun _ => fun
  | [d1, d2, d3, d4] => { results := [.lit (.bool true)], args := [d1, d2, d3, d4] }
  | _ => none }
def tutteParityRow : OpenClaim := { program := "ytepjcfbigcfkfaa", sum := "408a46b06c47e0849385ce9f8d582970e28934f0fa18da2ec72b31ac5732d9d8", func := "garland/garlandlaw23.TutteParity", spec := "tutteParity", unfollowed := true, recurses := true, apart := false }
def TutteParitySaid : Prop := tutteParityRow.holds Try.pinned (OpenSpec.ofChange tutteParitySpec)

/-- ITS FALSE NEIGHBOUR: 'it returns false'. Refute it at one input. -/
def tutteParityWrong : ChangeSpec := { name := "tutteParity", fn := fun _ => fun
  | [d1, d2, d3, d4] => { results := [.lit (.bool false)], args := [d1, d2, d3, d4] }
  | _ => none }
def TutteParityWrongFalsely : Prop := tutteParityRow.holds Try.pinned (OpenSpec.ofChange tutteParityWrong)

/-- 'garlandlaw23.TutteRefuses': WHATEVER THE INPUT: true; the input reads as it did. -/
def tutteRefusesSpec : ChangeSpec := { name := "tutteRefuses", fn := fun _ => fun
  | [d1, d2, d3] => { results := [.lit (.bool true)], args := [d1, d2, d3] }
  | _ => none }
def tutteRefusesRow : OpenClaim := { program := "ytepjcfbigcfkfaa", sum := "408a46b06c47e0849385ce9f8d582970e28934f0fa18da2ec72b31ac5732d9d8", func := "garland/garlandlaw23.TutteRefuses", spec := "tutteRefuses", unfollowed := true, recurses := true, apart := false }
def TutteRefusesSaid : Prop := tutteRefusesRow.holds Try.pinned (OpenSpec.ofChange tutteRefusesSpec)

/-- ITS FALSE NEIGHBOUR: 'it returns false'. Refute it at one input. -/
def tutteRefusesWrong : ChangeSpec := { name := "tutteRefuses", fn := fun _ => fun
  | [d1, d2, d3] => { results := [.lit (.bool false)], args := [d1, d2, d3] }
  | _ => none }
def TutteRefusesWrongFalsely : Prop := tutteRefusesRow.holds Try.pinned (OpenSpec.ofChange tutteRefusesWrong)

/-- 'garlandlaw23.TutteTells': WHATEVER THE INPUT: true; the input reads as it did. -/
def tutteTellsSpec : ChangeSpec := { name := "tutteTells", fn := fun _ => fun
  | [d1, d2, d3, d4] => { results := [.lit (.bool true)], args := [d1, d2, d3, d4] }
  | _ => none }
def tutteTellsRow : OpenClaim := { program := "ytepjcfbigcfkfaa", sum := "408a46b06c47e0849385ce9f8d582970e28934f0fa18da2ec72b31ac5732d9d8", func := "garland/garlandlaw23.TutteTells", spec := "tutteTells", unfollowed := true, recurses := true, apart := false }
def TutteTellsSaid : Prop := tutteTellsRow.holds Try.pinned (OpenSpec.ofChange tutteTellsSpec)

/-- ITS FALSE NEIGHBOUR: 'it returns false'. Refute it at one input. -/
def tutteTellsWrong : ChangeSpec := { name := "tutteTells", fn := fun _ => fun
  | [d1, d2, d3, d4] => { results := [.lit (.bool false)], args := [d1, d2, d3, d4] }
  | _ => none }
def TutteTellsWrongFalsely : Prop := tutteTellsRow.holds Try.pinned (OpenSpec.ofChange tutteTellsWrong)

/-- 'garlandlaw23.TutteShows': WHATEVER THE INPUT: true; the input reads as it did. -/
def tutteShowsSpec : ChangeSpec := { name := "tutteShows", fn := fun _ => fun
  | [d1, d2, d3, d4] => { results := [.lit (.bool true)], args := [d1, d2, d3, d4] }
  | _ => none }
def tutteShowsRow : OpenClaim := { program := "ytepjcfbigcfkfaa", sum := "408a46b06c47e0849385ce9f8d582970e28934f0fa18da2ec72b31ac5732d9d8", func := "garland/garlandlaw23.TutteShows", spec := "tutteShows", unfollowed := true, recurses := true, apart := false }
def TutteShowsSaid : Prop := tutteShowsRow.holds Try.pinned (OpenSpec.ofChange tutteShowsSpec)

/-- ITS FALSE NEIGHBOUR: 'it returns false'. Refute it at one input. -/
def tutteShowsWrong : ChangeSpec := { name := "tutteShows", fn := fun _ => fun
  | [d1, d2, d3, d4] => { results := [.lit (.bool false)], args := [d1, d2, d3, d4] }
  | _ => none }
def TutteShowsWrongFalsely : Prop := tutteShowsRow.holds Try.pinned (OpenSpec.ofChange tutteShowsWrong)

/- THE SECOND FORM. 'bulk': how many values and letters a reading holds, each counted each time it is reached (what is shared counts as often as it is met; a slice's spare places count too). A statement '..UptoSaid' is the law's where the arguments, and the package variables that the reading takes, are together of bulk at most 1048576: NARROWER than '..Said'. Prove '..Said' where nothing that the law and all that it calls make is longer than what came in: it says more and counts as full. Else prove '..UptoSaid'. A law counts once. -/
mutual
def uptoBulk {H : Type} : DataW H → Nat
  | .lit (.string bytes) => bytes.length + 1
  | .lit _ => 1
  | .nil => 1
  | .ptr d => uptoBulk d + 1
  | .slice elems spare => uptoBulkAll elems + uptoBulkAll spare + 1
  | .agg parts => uptoBulkAll parts + 1
  | .iface _ d => uptoBulk d + 1
  | .map entries => uptoBulkEntries entries + 1
  | .held _ => 1
def uptoBulkAll {H : Type} : List (DataW H) → Nat
  | [] => 0
  | d :: r => uptoBulk d + uptoBulkAll r
def uptoBulkEntries {H : Type} : List (Lit × DataW H) → Nat
  | [] => 0
  | x :: r => uptoBulkEntry x + uptoBulkEntries r
def uptoBulkEntry {H : Type} : Lit × DataW H → Nat
  | (.string bytes, d) => bytes.length + uptoBulk d + 1
  | (_, d) => uptoBulk d + 1
 end
def uptoSmall : (H : Type) → List (DataW H) → Bool := fun _ ds => decide (uptoBulkAll ds ≤ 1048576)
def OpenSpec.upto (s : _root_.Go.ChangeSpec) : _root_.Go.OpenSpec := { _root_.Go.OpenSpec.ofChange s with cond := some uptoSmall }

/-- 'garlandlaw23.TutteParity', WHERE WHAT IT READS IS OF BULK AT MOST 1048576: true; the input reads as it did. -/
def tutteParityUptoRow : OpenClaim := { program := "ytepjcfbigcfkfaa", sum := "408a46b06c47e0849385ce9f8d582970e28934f0fa18da2ec72b31ac5732d9d8", func := "garland/garlandlaw23.TutteParity", spec := "tutteParity", unfollowed := true, recurses := true, apart := false, narrowed := true }
def TutteParityUptoSaid : Prop := tutteParityUptoRow.holds Try.pinned (OpenSpec.upto tutteParitySpec)

/-- 'garlandlaw23.TutteRefuses', WHERE WHAT IT READS IS OF BULK AT MOST 1048576: true; the input reads as it did. -/
def tutteRefusesUptoRow : OpenClaim := { program := "ytepjcfbigcfkfaa", sum := "408a46b06c47e0849385ce9f8d582970e28934f0fa18da2ec72b31ac5732d9d8", func := "garland/garlandlaw23.TutteRefuses", spec := "tutteRefuses", unfollowed := true, recurses := true, apart := false, narrowed := true }
def TutteRefusesUptoSaid : Prop := tutteRefusesUptoRow.holds Try.pinned (OpenSpec.upto tutteRefusesSpec)

/-- 'garlandlaw23.TutteTells', WHERE WHAT IT READS IS OF BULK AT MOST 1048576: true; the input reads as it did. -/
def tutteTellsUptoRow : OpenClaim := { program := "ytepjcfbigcfkfaa", sum := "408a46b06c47e0849385ce9f8d582970e28934f0fa18da2ec72b31ac5732d9d8", func := "garland/garlandlaw23.TutteTells", spec := "tutteTells", unfollowed := true, recurses := true, apart := false, narrowed := true }
def TutteTellsUptoSaid : Prop := tutteTellsUptoRow.holds Try.pinned (OpenSpec.upto tutteTellsSpec)

/-- 'garlandlaw23.TutteShows', WHERE WHAT IT READS IS OF BULK AT MOST 1048576: true; the input reads as it did. -/
def tutteShowsUptoRow : OpenClaim := { program := "ytepjcfbigcfkfaa", sum := "408a46b06c47e0849385ce9f8d582970e28934f0fa18da2ec72b31ac5732d9d8", func := "garland/garlandlaw23.TutteShows", spec := "tutteShows", unfollowed := true, recurses := true, apart := false, narrowed := true }
def TutteShowsUptoSaid : Prop := tutteShowsUptoRow.holds Try.pinned (OpenSpec.upto tutteShowsSpec)

end Rows
end Go.Proofs.Ytepjcfbigcfkfaa
