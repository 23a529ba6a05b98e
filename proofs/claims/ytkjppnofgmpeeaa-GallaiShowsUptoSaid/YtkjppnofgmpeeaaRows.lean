/-
  No cell of these rows narrows 'for every input' (looked for: loops, veiled, ifaces, maps, wideKeys, modest, calm, conditions, laid).
  DERIVED. THE GIVEN ROWS OF THIS SEAT. 6 by the template 'for every input the law returns true; each argument reads behind the call as it read before'; 0 by the template 'total and deterministic' (their statements: YtkjppnofgmpeeaaTotals.lean).
  GIVEN WITH THE SEED: the statements are not yours to turn. If you find one false, say at which input.
  Laid BY PROGRAM, IN A SANDBOX (cutbox-rows.mjs): the forced cells as the released guide's own fill.sh prints them over the translation 810fc8252f7f8be7… (all of the seat's roots in one cut). By AI agents, Wed Nov 11 2026. No macro, syntax, notation, axiom, sorry.
-/
import Derived.Test.YtkjppnofgmpeeaaChecked
import GoSem.Claim
import GoSem.ClaimJoined
import GoSem.ClaimMapViews
import Derived.JoinedTies
import Derived.KernelRfl
namespace Go.Proofs.Ytkjppnofgmpeeaa
/- THE CELL 'sum', in the pinned program and in every row, IS THE sha256 OF THE DUMP (.gsa) THAT YtkjppnofgmpeeaaProg.lean LOADS. Nothing in Lean hashes anything: it is a label: what it is worth is what the hold of that sum in a sandbox is worth. -/
noncomputable def Try.pinned : Pinned := { name := "ytkjppnofgmpeeaa", sum := "810fc8252f7f8be74d85e1af07ae6ef346f12d904f6e158b2514a884695c299c", checked := Try.checked }
namespace Rows
def none {H : Type} : Left H := { results := [], args := [] }

/-- 'garlandlaw14.GallaiLess': WHATEVER THE INPUT: true; the input reads as it did. -/
def gallaiLessSpec : ChangeSpec := { name := "gallaiLess", fn := fun _ => fun
  | [d1, d2, d3] => { results := [.lit (.bool true)], args := [d1, d2, d3] }
  | _ => none }
def gallaiLessRow : OpenClaim := { program := "ytkjppnofgmpeeaa", sum := "810fc8252f7f8be74d85e1af07ae6ef346f12d904f6e158b2514a884695c299c", func := "garland/garlandlaw14.GallaiLess", spec := "gallaiLess", unfollowed := true, recurses := true, apart := false }
def GallaiLessSaid : Prop := gallaiLessRow.holds Try.pinned (OpenSpec.ofChange gallaiLessSpec)

/-- ITS FALSE NEIGHBOUR: 'it returns false'. Refute it at one input. -/
def gallaiLessWrong : ChangeSpec := { name := "gallaiLess", fn := fun _ => fun
  | [d1, d2, d3] => { results := [.lit (.bool false)], args := [d1, d2, d3] }
  | _ => none }
def GallaiLessWrongFalsely : Prop := gallaiLessRow.holds Try.pinned (OpenSpec.ofChange gallaiLessWrong)

/-- 'garlandlaw14.GallaiBeside': WHATEVER THE INPUT: true; the input reads as it did. -/
def gallaiBesideSpec : ChangeSpec := { name := "gallaiBeside", fn := fun _ => fun
  | [d1, d2, d3, d4] => { results := [.lit (.bool true)], args := [d1, d2, d3, d4] }
  | _ => none }
def gallaiBesideRow : OpenClaim := { program := "ytkjppnofgmpeeaa", sum := "810fc8252f7f8be74d85e1af07ae6ef346f12d904f6e158b2514a884695c299c", func := "garland/garlandlaw14.GallaiBeside", spec := "gallaiBeside", unfollowed := true, recurses := true, apart := false }
def GallaiBesideSaid : Prop := gallaiBesideRow.holds Try.pinned (OpenSpec.ofChange gallaiBesideSpec)

/-- ITS FALSE NEIGHBOUR: 'it returns false'. Refute it at one input. -/
def gallaiBesideWrong : ChangeSpec := { name := "gallaiBeside", fn := fun _ => fun
  | [d1, d2, d3, d4] => { results := [.lit (.bool false)], args := [d1, d2, d3, d4] }
  | _ => none }
def GallaiBesideWrongFalsely : Prop := gallaiBesideRow.holds Try.pinned (OpenSpec.ofChange gallaiBesideWrong)

/-- 'garlandlaw14.GallaiMore': WHATEVER THE INPUT: true; the input reads as it did. -/
def gallaiMoreSpec : ChangeSpec := { name := "gallaiMore", fn := fun _ => fun
  | [d1, d2, d3, d4] => { results := [.lit (.bool true)], args := [d1, d2, d3, d4] }
  | _ => none }
def gallaiMoreRow : OpenClaim := { program := "ytkjppnofgmpeeaa", sum := "810fc8252f7f8be74d85e1af07ae6ef346f12d904f6e158b2514a884695c299c", func := "garland/garlandlaw14.GallaiMore", spec := "gallaiMore", unfollowed := true, recurses := true, apart := false }
def GallaiMoreSaid : Prop := gallaiMoreRow.holds Try.pinned (OpenSpec.ofChange gallaiMoreSpec)

/-- ITS FALSE NEIGHBOUR: 'it returns false'. Refute it at one input. -/
def gallaiMoreWrong : ChangeSpec := { name := "gallaiMore", fn := fun _ => fun
  | [d1, d2, d3, d4] => { results := [.lit (.bool false)], args := [d1, d2, d3, d4] }
  | _ => none }
def GallaiMoreWrongFalsely : Prop := gallaiMoreRow.holds Try.pinned (OpenSpec.ofChange gallaiMoreWrong)

/-- 'garlandlaw14.GallaiParts': WHATEVER THE INPUT: true; the input reads as it did. -/
def gallaiPartsSpec : ChangeSpec := { name := "gallaiParts", fn := fun _ => fun
  | [d1, d2] => { results := [.lit (.bool true)], args := [d1, d2] }
  | _ => none }
def gallaiPartsRow : OpenClaim := { program := "ytkjppnofgmpeeaa", sum := "810fc8252f7f8be74d85e1af07ae6ef346f12d904f6e158b2514a884695c299c", func := "garland/garlandlaw14.GallaiParts", spec := "gallaiParts", unfollowed := true, recurses := true, apart := false }
def GallaiPartsSaid : Prop := gallaiPartsRow.holds Try.pinned (OpenSpec.ofChange gallaiPartsSpec)

/-- ITS FALSE NEIGHBOUR: 'it returns false'. Refute it at one input. -/
def gallaiPartsWrong : ChangeSpec := { name := "gallaiParts", fn := fun _ => fun
  | [d1, d2] => { results := [.lit (.bool false)], args := [d1, d2] }
  | _ => none }
def GallaiPartsWrongFalsely : Prop := gallaiPartsRow.holds Try.pinned (OpenSpec.ofChange gallaiPartsWrong)

/-- 'garlandlaw14.GallaiRefuses': WHATEVER THE INPUT: true; the input reads as it did. -/
def gallaiRefusesSpec : ChangeSpec := { name := "gallaiRefuses", fn := fun _ => fun
  | [d] => { results := [.lit (.bool true)], args := [d] }
  | _ => none }
def gallaiRefusesRow : OpenClaim := { program := "ytkjppnofgmpeeaa", sum := "810fc8252f7f8be74d85e1af07ae6ef346f12d904f6e158b2514a884695c299c", func := "garland/garlandlaw14.GallaiRefuses", spec := "gallaiRefuses", unfollowed := true, recurses := true, apart := false }
def GallaiRefusesSaid : Prop := gallaiRefusesRow.holds Try.pinned (OpenSpec.ofChange gallaiRefusesSpec)

/-- ITS FALSE NEIGHBOUR: 'it returns false'. Refute it at one input. -/
def gallaiRefusesWrong : ChangeSpec := { name := "gallaiRefuses", fn := fun _ => fun
  | [d] => { results := [.lit (.bool false)], args := [d] }
  | _ => none }
def GallaiRefusesWrongFalsely : Prop := gallaiRefusesRow.holds Try.pinned (OpenSpec.ofChange gallaiRefusesWrong)

/-- 'garlandlaw14.GallaiShows': WHATEVER THE INPUT: true; the input reads as it did. -/
def gallaiShowsSpec : ChangeSpec := { name := "gallaiShows", fn := fun _ => fun
  | [d1, d2, d3, d4] => { results := [.lit (.bool true)], args := [d1, d2, d3, d4] }
  | _ => none }
def gallaiShowsRow : OpenClaim := { program := "ytkjppnofgmpeeaa", sum := "810fc8252f7f8be74d85e1af07ae6ef346f12d904f6e158b2514a884695c299c", func := "garland/garlandlaw14.GallaiShows", spec := "gallaiShows", unfollowed := true, recurses := true, apart := false }
def GallaiShowsSaid : Prop := gallaiShowsRow.holds Try.pinned (OpenSpec.ofChange gallaiShowsSpec)

/-- ITS FALSE NEIGHBOUR: 'it returns false'. Refute it at one input. -/
def gallaiShowsWrong : ChangeSpec := { name := "gallaiShows", fn := fun _ => fun
  | [d1, d2, d3, d4] => { results := [.lit (.bool false)], args := [d1, d2, d3, d4] }
  | _ => none }
def GallaiShowsWrongFalsely : Prop := gallaiShowsRow.holds Try.pinned (OpenSpec.ofChange gallaiShowsWrong)

/- THE SECOND FORM. 'bulk': how many values and letters a reading holds, each counted each time it is reached (what is shared counts as often as it is met; a slice's spare places count too). A statement '..UptoSaid' is the law's where the arguments, and the package variables that the reading takes, are together of bulk at most 1048576: NARROWER than '..Said'. Prove '..Said' where nothing that the law and all that it calls make is longer than what came in: it says more and counts as full. Else prove '..UptoSaid'. A law counts once. -/
mutual
def uptoBulk {H : Type} : DataW H → Nat
  | .lit (.string bytes) => bytes.length + 1
  | .lit _ => 1
  | .nil => 1
  | .ptr d => uptoBulk d + 1
  | .slice elems spare => uptoBulkAll elems + uptoBulkAll spare + 1
  | .agg parts => uptoBulkAll parts + 1
  | .iface _ d => uptoBulk d + 1
  | .map entries => uptoBulkEntries entries + 1
  | .held _ => 1
def uptoBulkAll {H : Type} : List (DataW H) → Nat
  | [] => 0
  | d :: r => uptoBulk d + uptoBulkAll r
def uptoBulkEntries {H : Type} : List (Lit × DataW H) → Nat
  | [] => 0
  | x :: r => uptoBulkEntry x + uptoBulkEntries r
def uptoBulkEntry {H : Type} : Lit × DataW H → Nat
  | (.string bytes, d) => bytes.length + uptoBulk d + 1
  | (_, d) => uptoBulk d + 1
 end
def uptoSmall : (H : Type) → List (DataW H) → Bool := fun _ ds => decide (uptoBulkAll ds ≤ 1048576)
def OpenSpec.upto (s : _root_.Go.ChangeSpec) : _root_.Go.OpenSpec := { _root_.Go.OpenSpec.ofChange s with cond := some uptoSmall }

/-- 'garlandlaw14.GallaiLess', WHERE WHAT IT READS IS OF BULK AT MOST 1048576: true; the input reads as it did. -/
def gallaiLessUptoRow : OpenClaim := { program := "ytkjppnofgmpeeaa", sum := "810fc8252f7f8be74d85e1af07ae6ef346f12d904f6e158b2514a884695c299c", func := "garland/garlandlaw14.GallaiLess", spec := "gallaiLess", unfollowed := true, recurses := true, apart := false, narrowed := true }
def GallaiLessUptoSaid : Prop := gallaiLessUptoRow.holds Try.pinned (OpenSpec.upto gallaiLessSpec)

/-- 'garlandlaw14.GallaiBeside', WHERE WHAT IT READS IS OF BULK AT MOST 1048576: true; the input reads as it did. -/
def gallaiBesideUptoRow : OpenClaim := { program := "ytkjppnofgmpeeaa", sum := "810fc8252f7f8be74d85e1af07ae6ef346f12d904f6e158b2514a884695c299c", func := "garland/garlandlaw14.GallaiBeside", spec := "gallaiBeside", unfollowed := true, recurses := true, apart := false, narrowed := true }
def GallaiBesideUptoSaid : Prop := gallaiBesideUptoRow.holds Try.pinned (OpenSpec.upto gallaiBesideSpec)

/-- 'garlandlaw14.GallaiMore', WHERE WHAT IT READS IS OF BULK AT MOST 1048576: true; the input reads as it did. -/
def gallaiMoreUptoRow : OpenClaim := { program := "ytkjppnofgmpeeaa", sum := "810fc8252f7f8be74d85e1af07ae6ef346f12d904f6e158b2514a884695c299c", func := "garland/garlandlaw14.GallaiMore", spec := "gallaiMore", unfollowed := true, recurses := true, apart := false, narrowed := true }
def GallaiMoreUptoSaid : Prop := gallaiMoreUptoRow.holds Try.pinned (OpenSpec.upto gallaiMoreSpec)

/-- 'garlandlaw14.GallaiParts', WHERE WHAT IT READS IS OF BULK AT MOST 1048576: true; the input reads as it did. -/
def gallaiPartsUptoRow : OpenClaim := { program := "ytkjppnofgmpeeaa", sum := "810fc8252f7f8be74d85e1af07ae6ef346f12d904f6e158b2514a884695c299c", func := "garland/garlandlaw14.GallaiParts", spec := "gallaiParts", unfollowed := true, recurses := true, apart := false, narrowed := true }
def GallaiPartsUptoSaid : Prop := gallaiPartsUptoRow.holds Try.pinned (OpenSpec.upto gallaiPartsSpec)

/-- 'garlandlaw14.GallaiRefuses', WHERE WHAT IT READS IS OF BULK AT MOST 1048576: true; the input reads as it did. -/
def gallaiRefusesUptoRow : OpenClaim := { program := "ytkjppnofgmpeeaa", sum := "810fc8252f7f8be74d85e1af07ae6ef346f12d904f6e158b2514a884695c299c", func := "garland/garlandlaw14.GallaiRefuses", spec := "gallaiRefuses", unfollowed := true, recurses := true, apart := false, narrowed := true }
def GallaiRefusesUptoSaid : Prop := gallaiRefusesUptoRow.holds Try.pinned (OpenSpec.upto gallaiRefusesSpec)

/-- 'garlandlaw14.GallaiShows', WHERE WHAT IT READS IS OF BULK AT MOST 1048576: true; the input reads as it did. -/
def gallaiShowsUptoRow : OpenClaim := { program := "ytkjppnofgmpeeaa", sum := "810fc8252f7f8be74d85e1af07ae6ef346f12d904f6e158b2514a884695c299c", func := "garland/garlandlaw14.GallaiShows", spec := "gallaiShows", unfollowed := true, recurses := true, apart := false, narrowed := true }
def GallaiShowsUptoSaid : Prop := gallaiShowsUptoRow.holds Try.pinned (OpenSpec.upto gallaiShowsSpec)

end Rows
end Go.Proofs.Ytkjppnofgmpeeaa
