/-
  No cell of these rows narrows 'for every input' (looked for: loops, veiled, ifaces, maps, wideKeys, modest, calm, conditions, laid).
  DERIVED. THE GIVEN ROWS OF THIS SEAT. 4 by the template 'for every input the law returns true; each argument reads behind the call as it read before'; 0 by the template 'total and deterministic' (their statements: YtjpjdglddmhplaaTotals.lean).
  GIVEN WITH THE SEED: the statements are not yours to turn. If you find one false, say at which input.
  Laid BY PROGRAM, IN A SANDBOX (cutbox-rows.mjs): the forced cells as the released guide's own fill.sh prints them over the translation 31c30b67ca3176c8… (all of the seat's roots in one cut). By AI agents, Wed Nov 11 2026. No macro, syntax, notation, axiom, sorry.
-/
import Derived.Test.YtjpjdglddmhplaaChecked
import GoSem.Claim
import GoSem.ClaimJoined
import GoSem.ClaimMapViews
import Derived.JoinedTies
import Derived.KernelRfl
namespace Go.Proofs.Ytjpjdglddmhplaa
/- THE CELL 'sum', in the pinned program and in every row, IS THE sha256 OF THE DUMP (.gsa) THAT YtjpjdglddmhplaaProg.lean LOADS. Nothing in Lean hashes anything: it is a label: what it is worth is what the hold of that sum in a sandbox is worth. -/
noncomputable def Try.pinned : Pinned := { name := "ytjpjdglddmhplaa", sum := "31c30b67ca3176c803f52e6ddddcd67c0b85a891161128af33d2d1a0c5a020d4", checked := Try.checked }
namespace Rows
def none {H : Type} : Left H := { results := [], args := [] }

/-- 'ceroplastlaw04.PawnKnown': WHATEVER THE INPUT: true; the input reads as it did. -/
def pawnKnownSpec : ChangeSpec := { name := "pawnKnown", fn := fun _ => fun
  | [] => { results := [.lit (.bool true)], args := [] }
  | _ => none }
def pawnKnownRow : OpenClaim := { program := "ytjpjdglddmhplaa", sum := "31c30b67ca3176c803f52e6ddddcd67c0b85a891161128af33d2d1a0c5a020d4", func := "ceroplast/ceroplastlaw04.PawnKnown", spec := "pawnKnown", unfollowed := true, recurses := true, plainKeys := false, apart := false }
def PawnKnownSaid : Prop := pawnKnownRow.holds Try.pinned (OpenSpec.ofChange pawnKnownSpec)

/-- ITS FALSE NEIGHBOUR: 'it returns false'. Refute it at one input. -/
def pawnKnownWrong : ChangeSpec := { name := "pawnKnown", fn := fun _ => fun
  | [] => { results := [.lit (.bool false)], args := [] }
  | _ => none }
def PawnKnownWrongFalsely : Prop := pawnKnownRow.holds Try.pinned (OpenSpec.ofChange pawnKnownWrong)

/-- 'ceroplastlaw04.PawnLater': WHATEVER THE INPUT: true; the input reads as it did. -/
def pawnLaterSpec : ChangeSpec := { name := "pawnLater", fn := fun _ => fun
  | [d1, d2, d3] => { results := [.lit (.bool true)], args := [d1, d2, d3] }
  | _ => none }
def pawnLaterRow : OpenClaim := { program := "ytjpjdglddmhplaa", sum := "31c30b67ca3176c803f52e6ddddcd67c0b85a891161128af33d2d1a0c5a020d4", func := "ceroplast/ceroplastlaw04.PawnLater", spec := "pawnLater", unfollowed := true, recurses := true, plainKeys := false, apart := false }
def PawnLaterSaid : Prop := pawnLaterRow.holds Try.pinned (OpenSpec.ofChange pawnLaterSpec)

/-- ITS FALSE NEIGHBOUR: 'it returns false'. Refute it at one input. -/
def pawnLaterWrong : ChangeSpec := { name := "pawnLater", fn := fun _ => fun
  | [d1, d2, d3] => { results := [.lit (.bool false)], args := [d1, d2, d3] }
  | _ => none }
def PawnLaterWrongFalsely : Prop := pawnLaterRow.holds Try.pinned (OpenSpec.ofChange pawnLaterWrong)

/-- 'ceroplastlaw04.PawnMore': WHATEVER THE INPUT: true; the input reads as it did. -/
def pawnMoreSpec : ChangeSpec := { name := "pawnMore", fn := fun _ => fun
  | [d1, d2] => { results := [.lit (.bool true)], args := [d1, d2] }
  | _ => none }
def pawnMoreRow : OpenClaim := { program := "ytjpjdglddmhplaa", sum := "31c30b67ca3176c803f52e6ddddcd67c0b85a891161128af33d2d1a0c5a020d4", func := "ceroplast/ceroplastlaw04.PawnMore", spec := "pawnMore", unfollowed := true, recurses := true, plainKeys := false, apart := false }
def PawnMoreSaid : Prop := pawnMoreRow.holds Try.pinned (OpenSpec.ofChange pawnMoreSpec)

/-- ITS FALSE NEIGHBOUR: 'it returns false'. Refute it at one input. -/
def pawnMoreWrong : ChangeSpec := { name := "pawnMore", fn := fun _ => fun
  | [d1, d2] => { results := [.lit (.bool false)], args := [d1, d2] }
  | _ => none }
def PawnMoreWrongFalsely : Prop := pawnMoreRow.holds Try.pinned (OpenSpec.ofChange pawnMoreWrong)

/-- 'ceroplastlaw04.PawnOrder': WHATEVER THE INPUT: true; the input reads as it did. -/
def pawnOrderSpec : ChangeSpec := { name := "pawnOrder", fn := fun _ => fun
  | [d] => { results := [.lit (.bool true)], args := [d] }
  | _ => none }
def pawnOrderRow : OpenClaim := { program := "ytjpjdglddmhplaa", sum := "31c30b67ca3176c803f52e6ddddcd67c0b85a891161128af33d2d1a0c5a020d4", func := "ceroplast/ceroplastlaw04.PawnOrder", spec := "pawnOrder", unfollowed := true, recurses := true, plainKeys := false, apart := false }
def PawnOrderSaid : Prop := pawnOrderRow.holds Try.pinned (OpenSpec.ofChange pawnOrderSpec)

/-- ITS FALSE NEIGHBOUR: 'it returns false'. Refute it at one input. -/
def pawnOrderWrong : ChangeSpec := { name := "pawnOrder", fn := fun _ => fun
  | [d] => { results := [.lit (.bool false)], args := [d] }
  | _ => none }
def PawnOrderWrongFalsely : Prop := pawnOrderRow.holds Try.pinned (OpenSpec.ofChange pawnOrderWrong)

/- THE SECOND FORM. 'bulk': how many values and letters a reading holds, each counted each time it is reached (what is shared counts as often as it is met; a slice's spare places count too). A statement '..UptoSaid' is the law's where the arguments, and the package variables that the reading takes, are together of bulk at most 1048576: NARROWER than '..Said'. Prove '..Said' where nothing that the law and all that it calls make is longer than what came in: it says more and counts as full. Else prove '..UptoSaid'. A law counts once. -/
mutual
def uptoBulk {H : Type} : DataW H → Nat
  | .lit (.string bytes) => bytes.length + 1
  | .lit _ => 1
  | .nil => 1
  | .ptr d => uptoBulk d + 1
  | .slice elems spare => uptoBulkAll elems + uptoBulkAll spare + 1
  | .agg parts => uptoBulkAll parts + 1
  | .iface _ d => uptoBulk d + 1
  | .map entries => uptoBulkEntries entries + 1
  | .held _ => 1
def uptoBulkAll {H : Type} : List (DataW H) → Nat
  | [] => 0
  | d :: r => uptoBulk d + uptoBulkAll r
def uptoBulkEntries {H : Type} : List (Lit × DataW H) → Nat
  | [] => 0
  | x :: r => uptoBulkEntry x + uptoBulkEntries r
def uptoBulkEntry {H : Type} : Lit × DataW H → Nat
  | (.string bytes, d) => bytes.length + uptoBulk d + 1
  | (_, d) => uptoBulk d + 1
 end
def uptoSmall : (H : Type) → List (DataW H) → Bool := fun _ ds => decide (uptoBulkAll ds ≤ 1048576)
def OpenSpec.upto (s : _root_.Go.ChangeSpec) : _root_.Go.OpenSpec := { _root_.Go.OpenSpec.ofChange s with cond := some uptoSmall }

/-- 'ceroplastlaw04.PawnKnown', WHERE WHAT IT READS IS OF BULK AT MOST 1048576: true; the input reads as it did. -/
def pawnKnownUptoRow : OpenClaim := { program := "ytjpjdglddmhplaa", sum := "31c30b67ca3176c803f52e6ddddcd67c0b85a891161128af33d2d1a0c5a020d4", func := "ceroplast/ceroplastlaw04.PawnKnown", spec := "pawnKnown", unfollowed := true, recurses := true, plainKeys := false, apart := false, narrowed := true }
def PawnKnownUptoSaid : Prop := pawnKnownUptoRow.holds Try.pinned (OpenSpec.upto pawnKnownSpec)

/-- 'ceroplastlaw04.PawnLater', WHERE WHAT IT READS IS OF BULK AT MOST 1048576: true; the input reads as it did. -/
def pawnLaterUptoRow : OpenClaim := { program := "ytjpjdglddmhplaa", sum := "31c30b67ca3176c803f52e6ddddcd67c0b85a891161128af33d2d1a0c5a020d4", func := "ceroplast/ceroplastlaw04.PawnLater", spec := "pawnLater", unfollowed := true, recurses := true, plainKeys := false, apart := false, narrowed := true }
def PawnLaterUptoSaid : Prop := pawnLaterUptoRow.holds Try.pinned (OpenSpec.upto pawnLaterSpec)

/-- 'ceroplastlaw04.PawnMore', WHERE WHAT IT READS IS OF BULK AT MOST 1048576: true; the input reads as it did. -/
def pawnMoreUptoRow : OpenClaim := { program := "ytjpjdglddmhplaa", sum := "31c30b67ca3176c803f52e6ddddcd67c0b85a891161128af33d2d1a0c5a020d4", func := "ceroplast/ceroplastlaw04.PawnMore", spec := "pawnMore", unfollowed := true, recurses := true, plainKeys := false, apart := false, narrowed := true }
def PawnMoreUptoSaid : Prop := pawnMoreUptoRow.holds Try.pinned (OpenSpec.upto pawnMoreSpec)

/-- 'ceroplastlaw04.PawnOrder', WHERE WHAT IT READS IS OF BULK AT MOST 1048576: true; the input reads as it did. -/
def pawnOrderUptoRow : OpenClaim := { program := "ytjpjdglddmhplaa", sum := "31c30b67ca3176c803f52e6ddddcd67c0b85a891161128af33d2d1a0c5a020d4", func := "ceroplast/ceroplastlaw04.PawnOrder", spec := "pawnOrder", unfollowed := true, recurses := true, plainKeys := false, apart := false, narrowed := true }
def PawnOrderUptoSaid : Prop := pawnOrderUptoRow.holds Try.pinned (OpenSpec.upto pawnOrderSpec)

end Rows
end Go.Proofs.Ytjpjdglddmhplaa
