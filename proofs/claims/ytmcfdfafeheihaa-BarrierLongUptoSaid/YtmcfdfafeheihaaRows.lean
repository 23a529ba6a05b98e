/-
  No cell of these rows narrows 'for every input' (looked for: loops, veiled, ifaces, maps, wideKeys, modest, calm, conditions, laid).
  DERIVED. THE GIVEN ROWS OF THIS SEAT. 5 by the template 'for every input the law returns true; each argument reads behind the call as it read before'; 0 by the template 'total and deterministic' (their statements: YtmcfdfafeheihaaTotals.lean).
  GIVEN WITH THE SEED: the statements are not yours to turn. If you find one false, say at which input.
  Laid BY PROGRAM, IN A SANDBOX (cutbox-rows.mjs): the forced cells as the released guide's own fill.sh prints them over the translation 7870dd898aa86cb7… (all of the seat's roots in one cut). By AI agents, Wed Nov 11 2026. No macro, syntax, notation, axiom, sorry.
-/
import Derived.Test.YtmcfdfafeheihaaChecked
import GoSem.Claim
import GoSem.ClaimJoined
import GoSem.ClaimMapViews
import Derived.JoinedTies
import Derived.KernelRfl
namespace Go.Proofs.Ytmcfdfafeheihaa
/- THE CELL 'sum', in the pinned program and in every row, IS THE sha256 OF THE DUMP (.gsa) THAT YtmcfdfafeheihaaProg.lean LOADS. Nothing in Lean hashes anything: it is a label: what it is worth is what the hold of that sum in a sandbox is worth. -/
noncomputable def Try.pinned : Pinned := { name := "ytmcfdfafeheihaa", sum := "7870dd898aa86cb7e19b0047ad710c0e9c385808d1d3614a2ea54f77fd81e7e5", checked := Try.checked }
namespace Rows
def none {H : Type} : Left H := { results := [], args := [] }

/-- 'garlandlaw13.BarrierMost': WHATEVER THE INPUT: true; the input reads as it did. -/
def barrierMostSpec : ChangeSpec := { name := "barrierMost", fn := fun _ => fun
  | [d1, d2, d3, d4] => { results := [.lit (.bool true)], args := [d1, d2, d3, d4] }
  | _ => none }
def barrierMostRow : OpenClaim := { program := "ytmcfdfafeheihaa", sum := "7870dd898aa86cb7e19b0047ad710c0e9c385808d1d3614a2ea54f77fd81e7e5", func := "garland/garlandlaw13.BarrierMost", spec := "barrierMost", unfollowed := true, recurses := true, apart := false }
def BarrierMostSaid : Prop := barrierMostRow.holds Try.pinned (OpenSpec.ofChange barrierMostSpec)

/-- ITS FALSE NEIGHBOUR: 'it returns false'. Refute it at one input. -/
def barrierMostWrong : ChangeSpec := { name := "barrierMost", fn := fun _ => fun
  | [d1, d2, d3, d4] => { results := [.lit (.bool false)], args := [d1, d2, d3, d4] }
  | _ => none }
def BarrierMostWrongFalsely : Prop := barrierMostRow.holds Try.pinned (OpenSpec.ofChange barrierMostWrong)

/-- 'garlandlaw13.BarrierStar': WHATEVER THE INPUT: true; the input reads as it did. -/
def barrierStarSpec : ChangeSpec := { name := "barrierStar", fn := fun _ => fun
  | [d] => { results := [.lit (.bool true)], args := [d] }
  | _ => none }
def barrierStarRow : OpenClaim := { program := "ytmcfdfafeheihaa", sum := "7870dd898aa86cb7e19b0047ad710c0e9c385808d1d3614a2ea54f77fd81e7e5", func := "garland/garlandlaw13.BarrierStar", spec := "barrierStar", unfollowed := true, recurses := true, apart := false }
def BarrierStarSaid : Prop := barrierStarRow.holds Try.pinned (OpenSpec.ofChange barrierStarSpec)

/-- ITS FALSE NEIGHBOUR: 'it returns false'. Refute it at one input. -/
def barrierStarWrong : ChangeSpec := { name := "barrierStar", fn := fun _ => fun
  | [d] => { results := [.lit (.bool false)], args := [d] }
  | _ => none }
def BarrierStarWrongFalsely : Prop := barrierStarRow.holds Try.pinned (OpenSpec.ofChange barrierStarWrong)

/-- 'garlandlaw13.BarrierBeside': WHATEVER THE INPUT: true; the input reads as it did. -/
def barrierBesideSpec : ChangeSpec := { name := "barrierBeside", fn := fun _ => fun
  | [d1, d2, d3, d4, d5, d6] => { results := [.lit (.bool true)], args := [d1, d2, d3, d4, d5, d6] }
  | _ => none }
def barrierBesideRow : OpenClaim := { program := "ytmcfdfafeheihaa", sum := "7870dd898aa86cb7e19b0047ad710c0e9c385808d1d3614a2ea54f77fd81e7e5", func := "garland/garlandlaw13.BarrierBeside", spec := "barrierBeside", unfollowed := true, recurses := true, apart := false }
def BarrierBesideSaid : Prop := barrierBesideRow.holds Try.pinned (OpenSpec.ofChange barrierBesideSpec)

/-- ITS FALSE NEIGHBOUR: 'it returns false'. Refute it at one input. -/
def barrierBesideWrong : ChangeSpec := { name := "barrierBeside", fn := fun _ => fun
  | [d1, d2, d3, d4, d5, d6] => { results := [.lit (.bool false)], args := [d1, d2, d3, d4, d5, d6] }
  | _ => none }
def BarrierBesideWrongFalsely : Prop := barrierBesideRow.holds Try.pinned (OpenSpec.ofChange barrierBesideWrong)

/-- 'garlandlaw13.BarrierShows': WHATEVER THE INPUT: true; the input reads as it did. -/
def barrierShowsSpec : ChangeSpec := { name := "barrierShows", fn := fun _ => fun
  | [d1, d2] => { results := [.lit (.bool true)], args := [d1, d2] }
  | _ => none }
def barrierShowsRow : OpenClaim := { program := "ytmcfdfafeheihaa", sum := "7870dd898aa86cb7e19b0047ad710c0e9c385808d1d3614a2ea54f77fd81e7e5", func := "garland/garlandlaw13.BarrierShows", spec := "barrierShows", unfollowed := true, recurses := true, apart := false }
def BarrierShowsSaid : Prop := barrierShowsRow.holds Try.pinned (OpenSpec.ofChange barrierShowsSpec)

/-- ITS FALSE NEIGHBOUR: 'it returns false'. Refute it at one input. -/
def barrierShowsWrong : ChangeSpec := { name := "barrierShows", fn := fun _ => fun
  | [d1, d2] => { results := [.lit (.bool false)], args := [d1, d2] }
  | _ => none }
def BarrierShowsWrongFalsely : Prop := barrierShowsRow.holds Try.pinned (OpenSpec.ofChange barrierShowsWrong)

/-- 'garlandlaw13.BarrierLong': WHATEVER THE INPUT: true; the input reads as it did. -/
def barrierLongSpec : ChangeSpec := { name := "barrierLong", fn := fun _ => fun
  | [d1, d2, d3, d4] => { results := [.lit (.bool true)], args := [d1, d2, d3, d4] }
  | _ => none }
def barrierLongRow : OpenClaim := { program := "ytmcfdfafeheihaa", sum := "7870dd898aa86cb7e19b0047ad710c0e9c385808d1d3614a2ea54f77fd81e7e5", func := "garland/garlandlaw13.BarrierLong", spec := "barrierLong", unfollowed := true, recurses := true, apart := false }
def BarrierLongSaid : Prop := barrierLongRow.holds Try.pinned (OpenSpec.ofChange barrierLongSpec)

/-- ITS FALSE NEIGHBOUR: 'it returns false'. Refute it at one input. -/
def barrierLongWrong : ChangeSpec := { name := "barrierLong", fn := fun _ => fun
  | [d1, d2, d3, d4] => { results := [.lit (.bool false)], args := [d1, d2, d3, d4] }
  | _ => none }
def BarrierLongWrongFalsely : Prop := barrierLongRow.holds Try.pinned (OpenSpec.ofChange barrierLongWrong)

/- THE SECOND FORM. 'bulk': how many values and letters a reading holds, each counted each time it is reached (what is shared counts as often as it is met; a slice's spare places count too). A statement '..UptoSaid' is the law's where the arguments, and the package variables that the reading takes, are together of bulk at most 1048576: NARROWER than '..Said'. Prove '..Said' where nothing that the law and all that it calls make is longer than what came in: it says more and counts as full. Else prove '..UptoSaid'. A law counts once. -/
mutual
def uptoBulk {H : Type} : DataW H → Nat
  | .lit (.string bytes) => bytes.length + 1
  | .lit _ => 1
  | .nil => 1
  | .ptr d => uptoBulk d + 1
  | .slice elems spare => uptoBulkAll elems + uptoBulkAll spare + 1
  | .agg parts => uptoBulkAll parts + 1
  | .iface _ d => uptoBulk d + 1
  | .map entries => uptoBulkEntries entries + 1
  | .held _ => 1
def uptoBulkAll {H : Type} : List (DataW H) → Nat
  | [] => 0
  | d :: r => uptoBulk d + uptoBulkAll r
def uptoBulkEntries {H : Type} : List (Lit × DataW H) → Nat
  | [] => 0
  | x :: r => uptoBulkEntry x + uptoBulkEntries r
def uptoBulkEntry {H : Type} : Lit × DataW H → Nat
  | (.string bytes, d) => bytes.length + uptoBulk d + 1
  | (_, d) => uptoBulk d + 1
 end
def uptoSmall : (H : Type) → List (DataW H) → Bool := fun _ ds => decide (uptoBulkAll ds ≤ 1048576)
def OpenSpec.upto (s : _root_.Go.ChangeSpec) : _root_.Go.OpenSpec := { _root_.Go.OpenSpec.ofChange s with cond := some uptoSmall }

/-- 'garlandlaw13.BarrierMost', WHERE WHAT IT READS IS OF BULK AT MOST 1048576: true; the input reads as it did. -/
def barrierMostUptoRow : OpenClaim := { program := "ytmcfdfafeheihaa", sum := "7870dd898aa86cb7e19b0047ad710c0e9c385808d1d3614a2ea54f77fd81e7e5", func := "garland/garlandlaw13.BarrierMost", spec := "barrierMost", unfollowed := true, recurses := true, apart := false, narrowed := true }
def BarrierMostUptoSaid : Prop := barrierMostUptoRow.holds Try.pinned (OpenSpec.upto barrierMostSpec)

/-- 'garlandlaw13.BarrierStar', WHERE WHAT IT READS IS OF BULK AT MOST 1048576: true; the input reads as it did. -/
def barrierStarUptoRow : OpenClaim := { program := "ytmcfdfafeheihaa", sum := "7870dd898aa86cb7e19b0047ad710c0e9c385808d1d3614a2ea54f77fd81e7e5", func := "garland/garlandlaw13.BarrierStar", spec := "barrierStar", unfollowed := true, recurses := true, apart := false, narrowed := true }
def BarrierStarUptoSaid : Prop := barrierStarUptoRow.holds Try.pinned (OpenSpec.upto barrierStarSpec)

/-- 'garlandlaw13.BarrierBeside', WHERE WHAT IT READS IS OF BULK AT MOST 1048576: true; the input reads as it did. -/
def barrierBesideUptoRow : OpenClaim := { program := "ytmcfdfafeheihaa", sum := "7870dd898aa86cb7e19b0047ad710c0e9c385808d1d3614a2ea54f77fd81e7e5", func := "garland/garlandlaw13.BarrierBeside", spec := "barrierBeside", unfollowed := true, recurses := true, apart := false, narrowed := true }
def BarrierBesideUptoSaid : Prop := barrierBesideUptoRow.holds Try.pinned (OpenSpec.upto barrierBesideSpec)

/-- 'garlandlaw13.BarrierShows', WHERE WHAT IT READS IS OF BULK AT MOST 1048576: true; the input reads as it did. -/
def barrierShowsUptoRow : OpenClaim := { program := "ytmcfdfafeheihaa", sum := "7870dd898aa86cb7e19b0047ad710c0e9c385808d1d3614a2ea54f77fd81e7e5", func := "garland/garlandlaw13.BarrierShows", spec := "barrierShows", unfollowed := true, recurses := true, apart := false, narrowed := true }
def BarrierShowsUptoSaid : Prop := barrierShowsUptoRow.holds Try.pinned (OpenSpec.upto barrierShowsSpec)

/-- 'garlandlaw13.BarrierLong', WHERE WHAT IT READS IS OF BULK AT MOST 1048576: true; the input reads as it did. -/
def barrierLongUptoRow : OpenClaim := { program := "ytmcfdfafeheihaa", sum := "7870dd898aa86cb7e19b0047ad710c0e9c385808d1d3614a2ea54f77fd81e7e5", func := "garland/garlandlaw13.BarrierLong", spec := "barrierLong", unfollowed := true, recurses := true, apart := false, narrowed := true }
def BarrierLongUptoSaid : Prop := barrierLongUptoRow.holds Try.pinned (OpenSpec.upto barrierLongSpec)

end Rows
end Go.Proofs.Ytmcfdfafeheihaa
