/-
  No cell of these rows narrows 'for every input' (looked for: loops, veiled, ifaces, maps, wideKeys, modest, calm, conditions, laid).
  DERIVED. THE GIVEN ROWS OF THIS SEAT. 4 by the template 'for every input the law returns true; each argument reads behind the call as it read before'; 0 by the template 'total and deterministic' (their statements: YtmpbfdakdoicjaaTotals.lean).
  GIVEN WITH THE SEED: the statements are not yours to turn. If you find one false, say at which input.
  Laid BY PROGRAM, IN A SANDBOX (cutbox-rows.mjs): the forced cells as the released guide's own fill.sh prints them over the translation 5a1051e478b50f7d… (all of the seat's roots in one cut). By AI agents, Wed Nov 11 2026. No macro, syntax, notation, axiom, sorry.
-/
import Derived.Test.YtmpbfdakdoicjaaChecked
import GoSem.Claim
import GoSem.ClaimJoined
import GoSem.ClaimMapViews
import Derived.JoinedTies
import Derived.KernelRfl
namespace Go.Proofs.Ytmpbfdakdoicjaa
/- THE CELL 'sum', in the pinned program and in every row, IS THE sha256 OF THE DUMP (.gsa) THAT YtmpbfdakdoicjaaProg.lean LOADS. Nothing in Lean hashes anything: it is a label: what it is worth is what the hold of that sum in a sandbox is worth. -/
noncomputable def Try.pinned : Pinned := { name := "ytmpbfdakdoicjaa", sum := "5a1051e478b50f7d22f31cb9e9f0b93d8076016e2c5648406b1d03ab77140ba9", checked := Try.checked }
namespace Rows
def none {H : Type} : Left H := { results := [], args := [] }

/-- 'garlandlaw03.PiecesTell': WHATEVER THE INPUT: true; the input reads as it did. -/
def piecesTellSpec : ChangeSpec := { name := "piecesTell", fn := fun _ => fun
  | [d1, d2, d3, d4] => { results := [.lit (.bool true)], args := [d1, d2, d3, d4] }
  | _ => none }
def piecesTellRow : OpenClaim := { program := "ytmpbfdakdoicjaa", sum := "5a1051e478b50f7d22f31cb9e9f0b93d8076016e2c5648406b1d03ab77140ba9", func := "garland/garlandlaw03.PiecesTell", spec := "piecesTell", unfollowed := true, recurses := true, apart := false }
def PiecesTellSaid : Prop := piecesTellRow.holds Try.pinned (OpenSpec.ofChange piecesTellSpec)

/-- ITS FALSE NEIGHBOUR: 'it returns false'. Refute it at one input. -/
def piecesTellWrong : ChangeSpec := { name := "piecesTell", fn := fun _ => fun
  | [d1, d2, d3, d4] => { results := [.lit (.bool false)], args := [d1, d2, d3, d4] }
  | _ => none }
def PiecesTellWrongFalsely : Prop := piecesTellRow.holds Try.pinned (OpenSpec.ofChange piecesTellWrong)

/-- 'garlandlaw03.PiecesEach': WHATEVER THE INPUT: true; the input reads as it did. -/
def piecesEachSpec : ChangeSpec := { name := "piecesEach", fn := fun _ => fun
  | [d1, d2, d3] => { results := [.lit (.bool true)], args := [d1, d2, d3] }
  | _ => none }
def piecesEachRow : OpenClaim := { program := "ytmpbfdakdoicjaa", sum := "5a1051e478b50f7d22f31cb9e9f0b93d8076016e2c5648406b1d03ab77140ba9", func := "garland/garlandlaw03.PiecesEach", spec := "piecesEach", unfollowed := true, recurses := true, apart := false }
def PiecesEachSaid : Prop := piecesEachRow.holds Try.pinned (OpenSpec.ofChange piecesEachSpec)

/-- ITS FALSE NEIGHBOUR: 'it returns false'. Refute it at one input. -/
def piecesEachWrong : ChangeSpec := { name := "piecesEach", fn := fun _ => fun
  | [d1, d2, d3] => { results := [.lit (.bool false)], args := [d1, d2, d3] }
  | _ => none }
def PiecesEachWrongFalsely : Prop := piecesEachRow.holds Try.pinned (OpenSpec.ofChange piecesEachWrong)

/-- 'garlandlaw03.PiecesParity': WHATEVER THE INPUT: true; the input reads as it did. -/
def piecesParitySpec : ChangeSpec := { name := "piecesParity", fn := fun _ => fun
  | [d1, d2, d3] => { results := [.lit (.bool true)], args := [d1, d2, d3] }
  | _ => none }
def piecesParityRow : OpenClaim := { program := "ytmpbfdakdoicjaa", sum := "5a1051e478b50f7d22f31cb9e9f0b93d8076016e2c5648406b1d03ab77140ba9", func := "garland/garlandlaw03.PiecesParity", spec := "piecesParity", unfollowed := true, recurses := true, apart := false }
def PiecesParitySaid : Prop := piecesParityRow.holds Try.pinned (OpenSpec.ofChange piecesParitySpec)

/-- ITS FALSE NEIGHBOUR: 'it returns false'. Refute it at one input. -/
def piecesParityWrong : ChangeSpec := { name := "piecesParity", fn := fun _ => fun
  | [d1, d2, d3] => { results := [.lit (.bool false)], args := [d1, d2, d3] }
  | _ => none }
def PiecesParityWrongFalsely : Prop := piecesParityRow.holds Try.pinned (OpenSpec.ofChange piecesParityWrong)

/-- 'garlandlaw03.PiecesJoin': WHATEVER THE INPUT: true; the input reads as it did. -/
def piecesJoinSpec : ChangeSpec := { name := "piecesJoin", fn := fun _ => fun
  | [d1, d2, d3, d4, d5, d6] => { results := [.lit (.bool true)], args := [d1, d2, d3, d4, d5, d6] }
  | _ => none }
def piecesJoinRow : OpenClaim := { program := "ytmpbfdakdoicjaa", sum := "5a1051e478b50f7d22f31cb9e9f0b93d8076016e2c5648406b1d03ab77140ba9", func := "garland/garlandlaw03.PiecesJoin", spec := "piecesJoin", unfollowed := true, recurses := true, apart := false }
def PiecesJoinSaid : Prop := piecesJoinRow.holds Try.pinned (OpenSpec.ofChange piecesJoinSpec)

/-- ITS FALSE NEIGHBOUR: 'it returns false'. Refute it at one input. -/
def piecesJoinWrong : ChangeSpec := { name := "piecesJoin", fn := fun _ => fun
  | [d1, d2, d3, d4, d5, d6] => { results := [.lit (.bool false)], args := [d1, d2, d3, d4, d5, d6] }
  | _ => none }
def PiecesJoinWrongFalsely : Prop := piecesJoinRow.holds Try.pinned (OpenSpec.ofChange piecesJoinWrong)

/- THE SECOND FORM. 'bulk': how many values and letters a reading holds, each counted each time it is reached (what is shared counts as often as it is met; a slice's spare places count too). A statement '..UptoSaid' is the law's where the arguments, and the package variables that the reading takes, are together of bulk at most 1048576: NARROWER than '..Said'. Prove '..Said' where nothing that the law and all that it calls make is longer than what came in: it says more and counts as full. Else prove '..UptoSaid'. A law counts once. -/
mutual
def uptoBulk {H : Type} : DataW H → Nat
  | .lit (.string bytes) => bytes.length + 1
  | .lit _ => 1
  | .nil => 1
  | .ptr d => uptoBulk d + 1
  | .slice elems spare => uptoBulkAll elems + uptoBulkAll spare + 1
  | .agg parts => uptoBulkAll parts + 1
  | .iface _ d => uptoBulk d + 1
  | .map entries => uptoBulkEntries entries + 1
  | .held _ => 1
def uptoBulkAll {H : Type} : List (DataW H) → Nat
  | [] => 0
  | d :: r => uptoBulk d + uptoBulkAll r
def uptoBulkEntries {H : Type} : List (Lit × DataW H) → Nat
  | [] => 0
  | x :: r => uptoBulkEntry x + uptoBulkEntries r
def uptoBulkEntry {H : Type} : Lit × DataW H → Nat
  | (.string bytes, d) => bytes.length + uptoBulk d + 1
  | (_, d) => uptoBulk d + 1
 end
def uptoSmall : (H : Type) → List (DataW H) → Bool := fun _ ds => decide (uptoBulkAll ds ≤ 1048576)
def OpenSpec.upto (s : _root_.Go.ChangeSpec) : _root_.Go.OpenSpec := { _root_.Go.OpenSpec.ofChange s with cond := some uptoSmall }

/-- 'garlandlaw03.PiecesTell', WHERE WHAT IT READS IS OF BULK AT MOST 1048576: true; the input reads as it did. -/
def piecesTellUptoRow : OpenClaim := { program := "ytmpbfdakdoicjaa", sum := "5a1051e478b50f7d22f31cb9e9f0b93d8076016e2c5648406b1d03ab77140ba9", func := "garland/garlandlaw03.PiecesTell", spec := "piecesTell", unfollowed := true, recurses := true, apart := false, narrowed := true }
def PiecesTellUptoSaid : Prop := piecesTellUptoRow.holds Try.pinned (OpenSpec.upto piecesTellSpec)

/-- 'garlandlaw03.PiecesEach', WHERE WHAT IT READS IS OF BULK AT MOST 1048576: true; the input reads as it did. -/
def piecesEachUptoRow : OpenClaim := { program := "ytmpbfdakdoicjaa", sum := "5a1051e478b50f7d22f31cb9e9f0b93d8076016e2c5648406b1d03ab77140ba9", func := "garland/garlandlaw03.PiecesEach", spec := "piecesEach", unfollowed := true, recurses := true, apart := false, narrowed := true }
def PiecesEachUptoSaid : Prop := piecesEachUptoRow.holds Try.pinned (OpenSpec.upto piecesEachSpec)

/-- 'garlandlaw03.PiecesParity', WHERE WHAT IT READS IS OF BULK AT MOST 1048576: true; the input reads as it did. -/
def piecesParityUptoRow : OpenClaim := { program := "ytmpbfdakdoicjaa", sum := "5a1051e478b50f7d22f31cb9e9f0b93d8076016e2c5648406b1d03ab77140ba9", func := "garland/garlandlaw03.PiecesParity", spec := "piecesParity", unfollowed := true, recurses := true, apart := false, narrowed := true }
def PiecesParityUptoSaid : Prop := piecesParityUptoRow.holds Try.pinned (OpenSpec.upto piecesParitySpec)

/-- 'garlandlaw03.PiecesJoin', WHERE WHAT IT READS IS OF BULK AT MOST 1048576: true; the input reads as it did. -/
def piecesJoinUptoRow : OpenClaim := { program := "ytmpbfdakdoicjaa", sum := "5a1051e478b50f7d22f31cb9e9f0b93d8076016e2c5648406b1d03ab77140ba9", func := "garland/garlandlaw03.PiecesJoin", spec := "piecesJoin", unfollowed := true, recurses := true, apart := false, narrowed := true }
def PiecesJoinUptoSaid : Prop := piecesJoinUptoRow.holds Try.pinned (OpenSpec.upto piecesJoinSpec)

end Rows
end Go.Proofs.Ytmpbfdakdoicjaa
