/-
  No cell of these rows narrows 'for every input' (looked for: loops, veiled, ifaces, maps, wideKeys, modest, calm, conditions, laid).
  DERIVED. THE GIVEN ROWS OF THIS SEAT. 13 by the template 'for every input the law returns true; each argument reads behind the call as it read before'; 0 by the template 'total and deterministic' (their statements: YtjjmechghfjbmaaTotals.lean).
  GIVEN WITH THE SEED: the statements are not yours to turn. If you find one false, say at which input.
  Laid BY PROGRAM, IN A SANDBOX (cutbox-rows.mjs): the forced cells as the released guide's own fill.sh prints them over the translation 214e43f4b8195459… (all of the seat's roots in one cut). By AI agents, Wed Nov 11 2026. No macro, syntax, notation, axiom, sorry.
-/
import Derived.Test.YtjjmechghfjbmaaChecked
import GoSem.Claim
import GoSem.ClaimJoined
import GoSem.ClaimMapViews
import Derived.JoinedTies
import Derived.KernelRfl
namespace Go.Proofs.Ytjjmechghfjbmaa
/- THE CELL 'sum', in the pinned program and in every row, IS THE sha256 OF THE DUMP (.gsa) THAT YtjjmechghfjbmaaProg.lean LOADS. Nothing in Lean hashes anything: it is a label: what it is worth is what the hold of that sum in a sandbox is worth. -/
noncomputable def Try.pinned : Pinned := { name := "ytjjmechghfjbmaa", sum := "214e43f4b81954596b18365315a149bebd20fcc744ab9b1c474e446613e30c18", checked := Try.checked }
namespace Rows
def none {H : Type} : Left H := { results := [], args := [] }

/-- 'ceroplastlaw06.VanTimes': WHATEVER THE INPUT: true; the input reads as it did. -/
def vanTimesSpec : ChangeSpec := { name := "vanTimes", fn := fun _ => fun
  | [d1, d2, d3] => { results := [.lit (.bool true)], args := [d1, d2, d3] }
  | _ => none }
def vanTimesRow : OpenClaim := { program := "ytjjmechghfjbmaa", sum := "214e43f4b81954596b18365315a149bebd20fcc744ab9b1c474e446613e30c18", func := "ceroplast/ceroplastlaw06.VanTimes", spec := "vanTimes", unfollowed := true, recurses := true, plainKeys := false, apart := false }
def VanTimesSaid : Prop := vanTimesRow.holds Try.pinned (OpenSpec.ofChange vanTimesSpec)

/-- ITS FALSE NEIGHBOUR: 'it returns false'. Refute it at one input. -/
def vanTimesWrong : ChangeSpec := { name := "vanTimes", fn := fun _ => fun
  | [d1, d2, d3] => { results := [.lit (.bool false)], args := [d1, d2, d3] }
  | _ => none }
def VanTimesWrongFalsely : Prop := vanTimesRow.holds Try.pinned (OpenSpec.ofChange vanTimesWrong)

/-- 'ceroplastlaw06.VanTolds': WHATEVER THE INPUT: true; the input reads as it did. -/
def vanToldsSpec : ChangeSpec := { name := "vanTolds", fn := fun _ => fun
  | [d1, d2, d3] => { results := [.lit (.bool true)], args := [d1, d2, d3] }
  | _ => none }
def vanToldsRow : OpenClaim := { program := "ytjjmechghfjbmaa", sum := "214e43f4b81954596b18365315a149bebd20fcc744ab9b1c474e446613e30c18", func := "ceroplast/ceroplastlaw06.VanTolds", spec := "vanTolds", unfollowed := true, recurses := true, plainKeys := false, apart := false }
def VanToldsSaid : Prop := vanToldsRow.holds Try.pinned (OpenSpec.ofChange vanToldsSpec)

/-- ITS FALSE NEIGHBOUR: 'it returns false'. Refute it at one input. -/
def vanToldsWrong : ChangeSpec := { name := "vanTolds", fn := fun _ => fun
  | [d1, d2, d3] => { results := [.lit (.bool false)], args := [d1, d2, d3] }
  | _ => none }
def VanToldsWrongFalsely : Prop := vanToldsRow.holds Try.pinned (OpenSpec.ofChange vanToldsWrong)

/-- 'ceroplastlaw06.VanBests': WHATEVER THE INPUT: true; the input reads as it did. -/
def vanBestsSpec : ChangeSpec := { name := "vanBests", fn := fun _ => fun
  | [d] => { results := [.lit (.bool true)], args := [d] }
  | _ => none }
def vanBestsRow : OpenClaim := { program := "ytjjmechghfjbmaa", sum := "214e43f4b81954596b18365315a149bebd20fcc744ab9b1c474e446613e30c18", func := "ceroplast/ceroplastlaw06.VanBests", spec := "vanBests", unfollowed := true, recurses := true, plainKeys := false, apart := false }
def VanBestsSaid : Prop := vanBestsRow.holds Try.pinned (OpenSpec.ofChange vanBestsSpec)

/-- ITS FALSE NEIGHBOUR: 'it returns false'. Refute it at one input. -/
def vanBestsWrong : ChangeSpec := { name := "vanBests", fn := fun _ => fun
  | [d] => { results := [.lit (.bool false)], args := [d] }
  | _ => none }
def VanBestsWrongFalsely : Prop := vanBestsRow.holds Try.pinned (OpenSpec.ofChange vanBestsWrong)

/-- 'ceroplastlaw06.VanLooses': WHATEVER THE INPUT: true; the input reads as it did. -/
def vanLoosesSpec : ChangeSpec := { name := "vanLooses", fn := fun _ => fun
  | [d] => { results := [.lit (.bool true)], args := [d] }
  | _ => none }
def vanLoosesRow : OpenClaim := { program := "ytjjmechghfjbmaa", sum := "214e43f4b81954596b18365315a149bebd20fcc744ab9b1c474e446613e30c18", func := "ceroplast/ceroplastlaw06.VanLooses", spec := "vanLooses", unfollowed := true, recurses := true, plainKeys := false, apart := false }
def VanLoosesSaid : Prop := vanLoosesRow.holds Try.pinned (OpenSpec.ofChange vanLoosesSpec)

/-- ITS FALSE NEIGHBOUR: 'it returns false'. Refute it at one input. -/
def vanLoosesWrong : ChangeSpec := { name := "vanLooses", fn := fun _ => fun
  | [d] => { results := [.lit (.bool false)], args := [d] }
  | _ => none }
def VanLoosesWrongFalsely : Prop := vanLoosesRow.holds Try.pinned (OpenSpec.ofChange vanLoosesWrong)

/-- 'ceroplastlaw06.VanKnown': WHATEVER THE INPUT: true; the input reads as it did. -/
def vanKnownSpec : ChangeSpec := { name := "vanKnown", fn := fun _ => fun
  | [] => { results := [.lit (.bool true)], args := [] }
  | _ => none }
def vanKnownRow : OpenClaim := { program := "ytjjmechghfjbmaa", sum := "214e43f4b81954596b18365315a149bebd20fcc744ab9b1c474e446613e30c18", func := "ceroplast/ceroplastlaw06.VanKnown", spec := "vanKnown", unfollowed := true, recurses := true, plainKeys := false, apart := false }
def VanKnownSaid : Prop := vanKnownRow.holds Try.pinned (OpenSpec.ofChange vanKnownSpec)

/-- ITS FALSE NEIGHBOUR: 'it returns false'. Refute it at one input. -/
def vanKnownWrong : ChangeSpec := { name := "vanKnown", fn := fun _ => fun
  | [] => { results := [.lit (.bool false)], args := [] }
  | _ => none }
def VanKnownWrongFalsely : Prop := vanKnownRow.holds Try.pinned (OpenSpec.ofChange vanKnownWrong)

/-- 'ceroplastlaw06.VanTrue': WHATEVER THE INPUT: true; the input reads as it did. -/
def vanTrueSpec : ChangeSpec := { name := "vanTrue", fn := fun _ => fun
  | [d1, d2] => { results := [.lit (.bool true)], args := [d1, d2] }
  | _ => none }
def vanTrueRow : OpenClaim := { program := "ytjjmechghfjbmaa", sum := "214e43f4b81954596b18365315a149bebd20fcc744ab9b1c474e446613e30c18", func := "ceroplast/ceroplastlaw06.VanTrue", spec := "vanTrue", unfollowed := true, recurses := true, plainKeys := false, apart := false }
def VanTrueSaid : Prop := vanTrueRow.holds Try.pinned (OpenSpec.ofChange vanTrueSpec)

/-- ITS FALSE NEIGHBOUR: 'it returns false'. Refute it at one input. -/
def vanTrueWrong : ChangeSpec := { name := "vanTrue", fn := fun _ => fun
  | [d1, d2] => { results := [.lit (.bool false)], args := [d1, d2] }
  | _ => none }
def VanTrueWrongFalsely : Prop := vanTrueRow.holds Try.pinned (OpenSpec.ofChange vanTrueWrong)

/-- 'ceroplastlaw06.VanMost': WHATEVER THE INPUT: true; the input reads as it did. -/
def vanMostSpec : ChangeSpec := { name := "vanMost", fn := fun _ => fun
  | [d1, d2] => { results := [.lit (.bool true)], args := [d1, d2] }
  | _ => none }
def vanMostRow : OpenClaim := { program := "ytjjmechghfjbmaa", sum := "214e43f4b81954596b18365315a149bebd20fcc744ab9b1c474e446613e30c18", func := "ceroplast/ceroplastlaw06.VanMost", spec := "vanMost", unfollowed := true, recurses := true, plainKeys := false, apart := false }
def VanMostSaid : Prop := vanMostRow.holds Try.pinned (OpenSpec.ofChange vanMostSpec)

/-- ITS FALSE NEIGHBOUR: 'it returns false'. Refute it at one input. -/
def vanMostWrong : ChangeSpec := { name := "vanMost", fn := fun _ => fun
  | [d1, d2] => { results := [.lit (.bool false)], args := [d1, d2] }
  | _ => none }
def VanMostWrongFalsely : Prop := vanMostRow.holds Try.pinned (OpenSpec.ofChange vanMostWrong)

/-- 'ceroplastlaw06.VanLast': WHATEVER THE INPUT: true; the input reads as it did. -/
def vanLastSpec : ChangeSpec := { name := "vanLast", fn := fun _ => fun
  | [d1, d2] => { results := [.lit (.bool true)], args := [d1, d2] }
  | _ => none }
def vanLastRow : OpenClaim := { program := "ytjjmechghfjbmaa", sum := "214e43f4b81954596b18365315a149bebd20fcc744ab9b1c474e446613e30c18", func := "ceroplast/ceroplastlaw06.VanLast", spec := "vanLast", unfollowed := true, recurses := true, plainKeys := false, apart := false }
def VanLastSaid : Prop := vanLastRow.holds Try.pinned (OpenSpec.ofChange vanLastSpec)

/-- ITS FALSE NEIGHBOUR: 'it returns false'. Refute it at one input. -/
def vanLastWrong : ChangeSpec := { name := "vanLast", fn := fun _ => fun
  | [d1, d2] => { results := [.lit (.bool false)], args := [d1, d2] }
  | _ => none }
def VanLastWrongFalsely : Prop := vanLastRow.holds Try.pinned (OpenSpec.ofChange vanLastWrong)

/-- 'ceroplastlaw06.VanTold': WHATEVER THE INPUT: true; the input reads as it did. -/
def vanToldSpec : ChangeSpec := { name := "vanTold", fn := fun _ => fun
  | [d1, d2, d3] => { results := [.lit (.bool true)], args := [d1, d2, d3] }
  | _ => none }
def vanToldRow : OpenClaim := { program := "ytjjmechghfjbmaa", sum := "214e43f4b81954596b18365315a149bebd20fcc744ab9b1c474e446613e30c18", func := "ceroplast/ceroplastlaw06.VanTold", spec := "vanTold", unfollowed := true, recurses := true, plainKeys := false, apart := false }
def VanToldSaid : Prop := vanToldRow.holds Try.pinned (OpenSpec.ofChange vanToldSpec)

/-- ITS FALSE NEIGHBOUR: 'it returns false'. Refute it at one input. -/
def vanToldWrong : ChangeSpec := { name := "vanTold", fn := fun _ => fun
  | [d1, d2, d3] => { results := [.lit (.bool false)], args := [d1, d2, d3] }
  | _ => none }
def VanToldWrongFalsely : Prop := vanToldRow.holds Try.pinned (OpenSpec.ofChange vanToldWrong)

/-- 'ceroplastlaw06.VanNever': WHATEVER THE INPUT: true; the input reads as it did. -/
def vanNeverSpec : ChangeSpec := { name := "vanNever", fn := fun _ => fun
  | [d1, d2, d3] => { results := [.lit (.bool true)], args := [d1, d2, d3] }
  | _ => none }
def vanNeverRow : OpenClaim := { program := "ytjjmechghfjbmaa", sum := "214e43f4b81954596b18365315a149bebd20fcc744ab9b1c474e446613e30c18", func := "ceroplast/ceroplastlaw06.VanNever", spec := "vanNever", unfollowed := true, recurses := true, plainKeys := false, apart := false }
def VanNeverSaid : Prop := vanNeverRow.holds Try.pinned (OpenSpec.ofChange vanNeverSpec)

/-- ITS FALSE NEIGHBOUR: 'it returns false'. Refute it at one input. -/
def vanNeverWrong : ChangeSpec := { name := "vanNever", fn := fun _ => fun
  | [d1, d2, d3] => { results := [.lit (.bool false)], args := [d1, d2, d3] }
  | _ => none }
def VanNeverWrongFalsely : Prop := vanNeverRow.holds Try.pinned (OpenSpec.ofChange vanNeverWrong)

/-- 'ceroplastlaw06.VanLoose': WHATEVER THE INPUT: true; the input reads as it did. -/
def vanLooseSpec : ChangeSpec := { name := "vanLoose", fn := fun _ => fun
  | [d1, d2] => { results := [.lit (.bool true)], args := [d1, d2] }
  | _ => none }
def vanLooseRow : OpenClaim := { program := "ytjjmechghfjbmaa", sum := "214e43f4b81954596b18365315a149bebd20fcc744ab9b1c474e446613e30c18", func := "ceroplast/ceroplastlaw06.VanLoose", spec := "vanLoose", unfollowed := true, recurses := true, plainKeys := false, apart := false }
def VanLooseSaid : Prop := vanLooseRow.holds Try.pinned (OpenSpec.ofChange vanLooseSpec)

/-- ITS FALSE NEIGHBOUR: 'it returns false'. Refute it at one input. -/
def vanLooseWrong : ChangeSpec := { name := "vanLoose", fn := fun _ => fun
  | [d1, d2] => { results := [.lit (.bool false)], args := [d1, d2] }
  | _ => none }
def VanLooseWrongFalsely : Prop := vanLooseRow.holds Try.pinned (OpenSpec.ofChange vanLooseWrong)

/-- 'ceroplastlaw06.VanEarlier': WHATEVER THE INPUT: true; the input reads as it did. -/
def vanEarlierSpec : ChangeSpec := { name := "vanEarlier", fn := fun _ => fun
  | [d] => { results := [.lit (.bool true)], args := [d] }
  | _ => none }
def vanEarlierRow : OpenClaim := { program := "ytjjmechghfjbmaa", sum := "214e43f4b81954596b18365315a149bebd20fcc744ab9b1c474e446613e30c18", func := "ceroplast/ceroplastlaw06.VanEarlier", spec := "vanEarlier", unfollowed := true, recurses := true, plainKeys := false, apart := false }
def VanEarlierSaid : Prop := vanEarlierRow.holds Try.pinned (OpenSpec.ofChange vanEarlierSpec)

/-- ITS FALSE NEIGHBOUR: 'it returns false'. Refute it at one input. -/
def vanEarlierWrong : ChangeSpec := { name := "vanEarlier", fn := fun _ => fun
  | [d] => { results := [.lit (.bool false)], args := [d] }
  | _ => none }
def VanEarlierWrongFalsely : Prop := vanEarlierRow.holds Try.pinned (OpenSpec.ofChange vanEarlierWrong)

/-- 'ceroplastlaw06.VanEasier': WHATEVER THE INPUT: true; the input reads as it did. -/
def vanEasierSpec : ChangeSpec := { name := "vanEasier", fn := fun _ => fun
  | [d1, d2] => { results := [.lit (.bool true)], args := [d1, d2] }
  | _ => none }
def vanEasierRow : OpenClaim := { program := "ytjjmechghfjbmaa", sum := "214e43f4b81954596b18365315a149bebd20fcc744ab9b1c474e446613e30c18", func := "ceroplast/ceroplastlaw06.VanEasier", spec := "vanEasier", unfollowed := true, recurses := true, plainKeys := false, apart := false }
def VanEasierSaid : Prop := vanEasierRow.holds Try.pinned (OpenSpec.ofChange vanEasierSpec)

/-- ITS FALSE NEIGHBOUR: 'it returns false'. Refute it at one input. -/
def vanEasierWrong : ChangeSpec := { name := "vanEasier", fn := fun _ => fun
  | [d1, d2] => { results := [.lit (.bool false)], args := [d1, d2] }
  | _ => none }
def VanEasierWrongFalsely : Prop := vanEasierRow.holds Try.pinned (OpenSpec.ofChange vanEasierWrong)

/- THE SECOND FORM. 'bulk': how many values and letters a reading holds, each counted each time it is reached (what is shared counts as often as it is met; a slice's spare places count too). A statement '..UptoSaid' is the law's where the arguments, and the package variables that the reading takes, are together of bulk at most 1048576: NARROWER than '..Said'. Prove '..Said' where nothing that the law and all that it calls make is longer than what came in: it says more and counts as full. Else prove '..UptoSaid'. A law counts once. -/
mutual
def uptoBulk {H : Type} : DataW H → Nat
  | .lit (.string bytes) => bytes.length + 1
  | .lit _ => 1
  | .nil => 1
  | .ptr d => uptoBulk d + 1
  | .slice elems spare => uptoBulkAll elems + uptoBulkAll spare + 1
  | .agg parts => uptoBulkAll parts + 1
  | .iface _ d => uptoBulk d + 1
  | .map entries => uptoBulkEntries entries + 1
  | .held _ => 1
def uptoBulkAll {H : Type} : List (DataW H) → Nat
  | [] => 0
  | d :: r => uptoBulk d + uptoBulkAll r
def uptoBulkEntries {H : Type} : List (Lit × DataW H) → Nat
  | [] => 0
  | x :: r => uptoBulkEntry x + uptoBulkEntries r
def uptoBulkEntry {H : Type} : Lit × DataW H → Nat
  | (.string bytes, d) => bytes.length + uptoBulk d + 1
  | (_, d) => uptoBulk d + 1
 end
def uptoSmall : (H : Type) → List (DataW H) → Bool := fun _ ds => decide (uptoBulkAll ds ≤ 1048576)
def OpenSpec.upto (s : _root_.Go.ChangeSpec) : _root_.Go.OpenSpec := { _root_.Go.OpenSpec.ofChange s with cond := some uptoSmall }

/-- 'ceroplastlaw06.VanTimes', WHERE WHAT IT READS IS OF BULK AT MOST 1048576: true; the input reads as it did. -/
def vanTimesUptoRow : OpenClaim := { program := "ytjjmechghfjbmaa", sum := "214e43f4b81954596b18365315a149bebd20fcc744ab9b1c474e446613e30c18", func := "ceroplast/ceroplastlaw06.VanTimes", spec := "vanTimes", unfollowed := true, recurses := true, plainKeys := false, apart := false, narrowed := true }
def VanTimesUptoSaid : Prop := vanTimesUptoRow.holds Try.pinned (OpenSpec.upto vanTimesSpec)

/-- 'ceroplastlaw06.VanTolds', WHERE WHAT IT READS IS OF BULK AT MOST 1048576: true; the input reads as it did. -/
def vanToldsUptoRow : OpenClaim := { program := "ytjjmechghfjbmaa", sum := "214e43f4b81954596b18365315a149bebd20fcc744ab9b1c474e446613e30c18", func := "ceroplast/ceroplastlaw06.VanTolds", spec := "vanTolds", unfollowed := true, recurses := true, plainKeys := false, apart := false, narrowed := true }
def VanToldsUptoSaid : Prop := vanToldsUptoRow.holds Try.pinned (OpenSpec.upto vanToldsSpec)

/-- 'ceroplastlaw06.VanBests', WHERE WHAT IT READS IS OF BULK AT MOST 1048576: true; the input reads as it did. -/
def vanBestsUptoRow : OpenClaim := { program := "ytjjmechghfjbmaa", sum := "214e43f4b81954596b18365315a149bebd20fcc744ab9b1c474e446613e30c18", func := "ceroplast/ceroplastlaw06.VanBests", spec := "vanBests", unfollowed := true, recurses := true, plainKeys := false, apart := false, narrowed := true }
def VanBestsUptoSaid : Prop := vanBestsUptoRow.holds Try.pinned (OpenSpec.upto vanBestsSpec)

/-- 'ceroplastlaw06.VanLooses', WHERE WHAT IT READS IS OF BULK AT MOST 1048576: true; the input reads as it did. -/
def vanLoosesUptoRow : OpenClaim := { program := "ytjjmechghfjbmaa", sum := "214e43f4b81954596b18365315a149bebd20fcc744ab9b1c474e446613e30c18", func := "ceroplast/ceroplastlaw06.VanLooses", spec := "vanLooses", unfollowed := true, recurses := true, plainKeys := false, apart := false, narrowed := true }
def VanLoosesUptoSaid : Prop := vanLoosesUptoRow.holds Try.pinned (OpenSpec.upto vanLoosesSpec)

/-- 'ceroplastlaw06.VanKnown', WHERE WHAT IT READS IS OF BULK AT MOST 1048576: true; the input reads as it did. -/
def vanKnownUptoRow : OpenClaim := { program := "ytjjmechghfjbmaa", sum := "214e43f4b81954596b18365315a149bebd20fcc744ab9b1c474e446613e30c18", func := "ceroplast/ceroplastlaw06.VanKnown", spec := "vanKnown", unfollowed := true, recurses := true, plainKeys := false, apart := false, narrowed := true }
def VanKnownUptoSaid : Prop := vanKnownUptoRow.holds Try.pinned (OpenSpec.upto vanKnownSpec)

/-- 'ceroplastlaw06.VanTrue', WHERE WHAT IT READS IS OF BULK AT MOST 1048576: true; the input reads as it did. -/
def vanTrueUptoRow : OpenClaim := { program := "ytjjmechghfjbmaa", sum := "214e43f4b81954596b18365315a149bebd20fcc744ab9b1c474e446613e30c18", func := "ceroplast/ceroplastlaw06.VanTrue", spec := "vanTrue", unfollowed := true, recurses := true, plainKeys := false, apart := false, narrowed := true }
def VanTrueUptoSaid : Prop := vanTrueUptoRow.holds Try.pinned (OpenSpec.upto vanTrueSpec)

/-- 'ceroplastlaw06.VanMost', WHERE WHAT IT READS IS OF BULK AT MOST 1048576: true; the input reads as it did. -/
def vanMostUptoRow : OpenClaim := { program := "ytjjmechghfjbmaa", sum := "214e43f4b81954596b18365315a149bebd20fcc744ab9b1c474e446613e30c18", func := "ceroplast/ceroplastlaw06.VanMost", spec := "vanMost", unfollowed := true, recurses := true, plainKeys := false, apart := false, narrowed := true }
def VanMostUptoSaid : Prop := vanMostUptoRow.holds Try.pinned (OpenSpec.upto vanMostSpec)

/-- 'ceroplastlaw06.VanLast', WHERE WHAT IT READS IS OF BULK AT MOST 1048576: true; the input reads as it did. -/
def vanLastUptoRow : OpenClaim := { program := "ytjjmechghfjbmaa", sum := "214e43f4b81954596b18365315a149bebd20fcc744ab9b1c474e446613e30c18", func := "ceroplast/ceroplastlaw06.VanLast", spec := "vanLast", unfollowed := true, recurses := true, plainKeys := false, apart := false, narrowed := true }
def VanLastUptoSaid : Prop := vanLastUptoRow.holds Try.pinned (OpenSpec.upto vanLastSpec)

/-- 'ceroplastlaw06.VanTold', WHERE WHAT IT READS IS OF BULK AT MOST 1048576: true; the input reads as it did. -/
def vanToldUptoRow : OpenClaim := { program := "ytjjmechghfjbmaa", sum := "214e43f4b81954596b18365315a149bebd20fcc744ab9b1c474e446613e30c18", func := "ceroplast/ceroplastlaw06.VanTold", spec := "vanTold", unfollowed := true, recurses := true, plainKeys := false, apart := false, narrowed := true }
def VanToldUptoSaid : Prop := vanToldUptoRow.holds Try.pinned (OpenSpec.upto vanToldSpec)

/-- 'ceroplastlaw06.VanNever', WHERE WHAT IT READS IS OF BULK AT MOST 1048576: true; the input reads as it did. -/
def vanNeverUptoRow : OpenClaim := { program := "ytjjmechghfjbmaa", sum := "214e43f4b81954596b18365315a149bebd20fcc744ab9b1c474e446613e30c18", func := "ceroplast/ceroplastlaw06.VanNever", spec := "vanNever", unfollowed := true, recurses := true, plainKeys := false, apart := false, narrowed := true }
def VanNeverUptoSaid : Prop := vanNeverUptoRow.holds Try.pinned (OpenSpec.upto vanNeverSpec)

/-- 'ceroplastlaw06.VanLoose', WHERE WHAT IT READS IS OF BULK AT MOST 1048576: true; the input reads as it did. -/
def vanLooseUptoRow : OpenClaim := { program := "ytjjmechghfjbmaa", sum := "214e43f4b81954596b18365315a149bebd20fcc744ab9b1c474e446613e30c18", func := "ceroplast/ceroplastlaw06.VanLoose", spec := "vanLoose", unfollowed := true, recurses := true, plainKeys := false, apart := false, narrowed := true }
def VanLooseUptoSaid : Prop := vanLooseUptoRow.holds Try.pinned (OpenSpec.upto vanLooseSpec)

/-- 'ceroplastlaw06.VanEarlier', WHERE WHAT IT READS IS OF BULK AT MOST 1048576: true; the input reads as it did. -/
def vanEarlierUptoRow : OpenClaim := { program := "ytjjmechghfjbmaa", sum := "214e43f4b81954596b18365315a149bebd20fcc744ab9b1c474e446613e30c18", func := "ceroplast/ceroplastlaw06.VanEarlier", spec := "vanEarlier", unfollowed := true, recurses := true, plainKeys := false, apart := false, narrowed := true }
def VanEarlierUptoSaid : Prop := vanEarlierUptoRow.holds Try.pinned (OpenSpec.upto vanEarlierSpec)

/-- 'ceroplastlaw06.VanEasier', WHERE WHAT IT READS IS OF BULK AT MOST 1048576: true; the input reads as it did. -/
def vanEasierUptoRow : OpenClaim := { program := "ytjjmechghfjbmaa", sum := "214e43f4b81954596b18365315a149bebd20fcc744ab9b1c474e446613e30c18", func := "ceroplast/ceroplastlaw06.VanEasier", spec := "vanEasier", unfollowed := true, recurses := true, plainKeys := false, apart := false, narrowed := true }
def VanEasierUptoSaid : Prop := vanEasierUptoRow.holds Try.pinned (OpenSpec.upto vanEasierSpec)

end Rows
end Go.Proofs.Ytjjmechghfjbmaa
