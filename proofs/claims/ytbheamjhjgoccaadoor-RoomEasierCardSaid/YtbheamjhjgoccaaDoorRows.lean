/-
  NARROWER THAN 'FOR EVERY INPUT', by the rows' own cells (each row's printed sentence says how): RoomFates: laid · RoomShows: laid · RoomBests: laid · RoomBreaks: laid · RoomKnown: laid · RoomSafe: laid · RoomMost: laid · RoomBroken: laid · RoomMargin: laid · RoomFate: laid · RoomEasier: laid · RoomOrder: laid · RoomNeeds: laid · RoomLoads: laid.
  DERIVED. THE GIVEN ROWS OF THIS SEAT. 14 by the template 'for every input the law returns true; each argument reads behind the call as it read before'; 0 by the template 'total and deterministic' (their statements: YtbheamjhjgoccaaDoorTotals.lean).
  GIVEN WITH THE SEED: the statements are not yours to turn. If you find one false, say at which input.
  Laid BY PROGRAM, IN A SANDBOX (cutbox-rows.mjs): the forced cells as the released guide's own fill.sh prints them over the translation 4902952e769cd34f… (all of the seat's roots in one cut). By AI agents, Wed Nov 11 2026. No macro, syntax, notation, axiom, sorry.
-/
import Derived.Test.YtbheamjhjgoccaaDoorChecked
import GoSem.Claim
import GoSem.ClaimJoined
import GoSem.ClaimMapViews
import Derived.JoinedTies
import Derived.KernelRfl
namespace Go.Proofs.YtbheamjhjgoccaaDoor
/- THE CELL 'sum', in the pinned program and in every row, IS THE sha256 OF THE DUMP (.gsa) THAT YtbheamjhjgoccaaDoorProg.lean LOADS. Nothing in Lean hashes anything: it is a label: what it is worth is what the hold of that sum in a sandbox is worth. -/
noncomputable def Tryd.pinned : Pinned := { name := "ytbheamjhjgoccaadoor", sum := "4902952e769cd34f4451e2a468ff8121897de2d369858c5f6d68aae1eaa0f350", checked := Tryd.checked }
namespace Rows
def none {H : Type} : Left H := { results := [], args := [] }

/- WHAT THE LISTED PACKAGE-LEVEL VARIABLES READ AS WHEN THE CALL BEGINS. Each datum BY PROGRAM (the guide's laid-datum.mjs) off the statement by which the dump's own 'gosem.cut.vars' lays the variable. In a bare row this is a premise. The card (YtbheamjhjgoccaaDoorCards.lean) ties it to the program's text. -/
def laid_math_bits_deBruijn32tab {H : Type} : DataW H := .agg [.lit (.int .u8 0), .lit (.int .u8 1), .lit (.int .u8 28), .lit (.int .u8 2), .lit (.int .u8 29), .lit (.int .u8 14), .lit (.int .u8 24), .lit (.int .u8 3), .lit (.int .u8 30), .lit (.int .u8 22), .lit (.int .u8 20), .lit (.int .u8 15), .lit (.int .u8 25), .lit (.int .u8 17), .lit (.int .u8 4), .lit (.int .u8 8), .lit (.int .u8 31), .lit (.int .u8 27), .lit (.int .u8 13), .lit (.int .u8 23), .lit (.int .u8 21), .lit (.int .u8 19), .lit (.int .u8 16), .lit (.int .u8 7), .lit (.int .u8 26), .lit (.int .u8 12), .lit (.int .u8 18), .lit (.int .u8 6), .lit (.int .u8 11), .lit (.int .u8 5), .lit (.int .u8 10), .lit (.int .u8 9)]
def laid_math_bits_deBruijn64tab {H : Type} : DataW H := .agg [.lit (.int .u8 0), .lit (.int .u8 1), .lit (.int .u8 56), .lit (.int .u8 2), .lit (.int .u8 57), .lit (.int .u8 49), .lit (.int .u8 28), .lit (.int .u8 3), .lit (.int .u8 61), .lit (.int .u8 58), .lit (.int .u8 42), .lit (.int .u8 50), .lit (.int .u8 38), .lit (.int .u8 29), .lit (.int .u8 17), .lit (.int .u8 4), .lit (.int .u8 62), .lit (.int .u8 47), .lit (.int .u8 59), .lit (.int .u8 36), .lit (.int .u8 45), .lit (.int .u8 43), .lit (.int .u8 51), .lit (.int .u8 22), .lit (.int .u8 53), .lit (.int .u8 39), .lit (.int .u8 33), .lit (.int .u8 30), .lit (.int .u8 24), .lit (.int .u8 18), .lit (.int .u8 12), .lit (.int .u8 5), .lit (.int .u8 63), .lit (.int .u8 55), .lit (.int .u8 48), .lit (.int .u8 27), .lit (.int .u8 60), .lit (.int .u8 41), .lit (.int .u8 37), .lit (.int .u8 16), .lit (.int .u8 46), .lit (.int .u8 35), .lit (.int .u8 44), .lit (.int .u8 21), .lit (.int .u8 52), .lit (.int .u8 32), .lit (.int .u8 23), .lit (.int .u8 11), .lit (.int .u8 54), .lit (.int .u8 26), .lit (.int .u8 40), .lit (.int .u8 15), .lit (.int .u8 34), .lit (.int .u8 20), .lit (.int .u8 31), .lit (.int .u8 10), .lit (.int .u8 25), .lit (.int .u8 14), .lit (.int .u8 19), .lit (.int .u8 9), .lit (.int .u8 13), .lit (.int .u8 8), .lit (.int .u8 7), .lit (.int .u8 6)]

/-- 'ceroplastlaw05.RoomFates': WHATEVER THE INPUT: true; the input reads as it did. -/
def roomFatesSpec : ChangeSpec := { name := "roomFates", fn := fun _ => fun
  | [d1, d2, d3] => { results := [.lit (.bool true)], args := [d1, d2, d3] }
  | _ => none }
def roomFatesRow : OpenClaim := { program := "ytbheamjhjgoccaadoor", sum := "4902952e769cd34f4451e2a468ff8121897de2d369858c5f6d68aae1eaa0f350", func := "ceroplast/ceroplastlaw05.RoomFates", spec := "roomFates", unfollowed := true, recurses := true, named := ["math/bits.deBruijn32tab", "math/bits.deBruijn64tab"], apart := false, laid := [("math/bits.deBruijn32tab", laid_math_bits_deBruijn32tab), ("math/bits.deBruijn64tab", laid_math_bits_deBruijn64tab)] }
def RoomFatesSaid : Prop := roomFatesRow.holds Tryd.pinned (OpenSpec.ofChange roomFatesSpec)

/-- ITS FALSE NEIGHBOUR: 'it returns false'. Refute it at one input. -/
def roomFatesWrong : ChangeSpec := { name := "roomFates", fn := fun _ => fun
  | [d1, d2, d3] => { results := [.lit (.bool false)], args := [d1, d2, d3] }
  | _ => none }
def RoomFatesWrongFalsely : Prop := roomFatesRow.holds Tryd.pinned (OpenSpec.ofChange roomFatesWrong)

/-- 'ceroplastlaw05.RoomShows': WHATEVER THE INPUT: true; the input reads as it did. -/
def roomShowsSpec : ChangeSpec := { name := "roomShows", fn := fun _ => fun
  | [d1, d2] => { results := [.lit (.bool true)], args := [d1, d2] }
  | _ => none }
def roomShowsRow : OpenClaim := { program := "ytbheamjhjgoccaadoor", sum := "4902952e769cd34f4451e2a468ff8121897de2d369858c5f6d68aae1eaa0f350", func := "ceroplast/ceroplastlaw05.RoomShows", spec := "roomShows", unfollowed := true, recurses := true, named := ["math/bits.deBruijn32tab", "math/bits.deBruijn64tab"], apart := false, laid := [("math/bits.deBruijn32tab", laid_math_bits_deBruijn32tab), ("math/bits.deBruijn64tab", laid_math_bits_deBruijn64tab)] }
def RoomShowsSaid : Prop := roomShowsRow.holds Tryd.pinned (OpenSpec.ofChange roomShowsSpec)

/-- ITS FALSE NEIGHBOUR: 'it returns false'. Refute it at one input. -/
def roomShowsWrong : ChangeSpec := { name := "roomShows", fn := fun _ => fun
  | [d1, d2] => { results := [.lit (.bool false)], args := [d1, d2] }
  | _ => none }
def RoomShowsWrongFalsely : Prop := roomShowsRow.holds Tryd.pinned (OpenSpec.ofChange roomShowsWrong)

/-- 'ceroplastlaw05.RoomBests': WHATEVER THE INPUT: true; the input reads as it did. -/
def roomBestsSpec : ChangeSpec := { name := "roomBests", fn := fun _ => fun
  | [d] => { results := [.lit (.bool true)], args := [d] }
  | _ => none }
def roomBestsRow : OpenClaim := { program := "ytbheamjhjgoccaadoor", sum := "4902952e769cd34f4451e2a468ff8121897de2d369858c5f6d68aae1eaa0f350", func := "ceroplast/ceroplastlaw05.RoomBests", spec := "roomBests", unfollowed := true, recurses := true, named := ["math/bits.deBruijn32tab", "math/bits.deBruijn64tab"], apart := false, laid := [("math/bits.deBruijn32tab", laid_math_bits_deBruijn32tab), ("math/bits.deBruijn64tab", laid_math_bits_deBruijn64tab)] }
def RoomBestsSaid : Prop := roomBestsRow.holds Tryd.pinned (OpenSpec.ofChange roomBestsSpec)

/-- ITS FALSE NEIGHBOUR: 'it returns false'. Refute it at one input. -/
def roomBestsWrong : ChangeSpec := { name := "roomBests", fn := fun _ => fun
  | [d] => { results := [.lit (.bool false)], args := [d] }
  | _ => none }
def RoomBestsWrongFalsely : Prop := roomBestsRow.holds Tryd.pinned (OpenSpec.ofChange roomBestsWrong)

/-- 'ceroplastlaw05.RoomBreaks': WHATEVER THE INPUT: true; the input reads as it did. -/
def roomBreaksSpec : ChangeSpec := { name := "roomBreaks", fn := fun _ => fun
  | [d1, d2] => { results := [.lit (.bool true)], args := [d1, d2] }
  | _ => none }
def roomBreaksRow : OpenClaim := { program := "ytbheamjhjgoccaadoor", sum := "4902952e769cd34f4451e2a468ff8121897de2d369858c5f6d68aae1eaa0f350", func := "ceroplast/ceroplastlaw05.RoomBreaks", spec := "roomBreaks", unfollowed := true, recurses := true, named := ["math/bits.deBruijn32tab", "math/bits.deBruijn64tab"], apart := false, laid := [("math/bits.deBruijn32tab", laid_math_bits_deBruijn32tab), ("math/bits.deBruijn64tab", laid_math_bits_deBruijn64tab)] }
def RoomBreaksSaid : Prop := roomBreaksRow.holds Tryd.pinned (OpenSpec.ofChange roomBreaksSpec)

/-- ITS FALSE NEIGHBOUR: 'it returns false'. Refute it at one input. -/
def roomBreaksWrong : ChangeSpec := { name := "roomBreaks", fn := fun _ => fun
  | [d1, d2] => { results := [.lit (.bool false)], args := [d1, d2] }
  | _ => none }
def RoomBreaksWrongFalsely : Prop := roomBreaksRow.holds Tryd.pinned (OpenSpec.ofChange roomBreaksWrong)

/-- 'ceroplastlaw05.RoomKnown': WHATEVER THE INPUT: true; the input reads as it did. -/
def roomKnownSpec : ChangeSpec := { name := "roomKnown", fn := fun _ => fun
  | [] => { results := [.lit (.bool true)], args := [] }
  | _ => none }
def roomKnownRow : OpenClaim := { program := "ytbheamjhjgoccaadoor", sum := "4902952e769cd34f4451e2a468ff8121897de2d369858c5f6d68aae1eaa0f350", func := "ceroplast/ceroplastlaw05.RoomKnown", spec := "roomKnown", unfollowed := true, recurses := true, named := ["math/bits.deBruijn32tab", "math/bits.deBruijn64tab"], apart := false, laid := [("math/bits.deBruijn32tab", laid_math_bits_deBruijn32tab), ("math/bits.deBruijn64tab", laid_math_bits_deBruijn64tab)] }
def RoomKnownSaid : Prop := roomKnownRow.holds Tryd.pinned (OpenSpec.ofChange roomKnownSpec)

/-- ITS FALSE NEIGHBOUR: 'it returns false'. Refute it at one input. -/
def roomKnownWrong : ChangeSpec := { name := "roomKnown", fn := fun _ => fun
  | [] => { results := [.lit (.bool false)], args := [] }
  | _ => none }
def RoomKnownWrongFalsely : Prop := roomKnownRow.holds Tryd.pinned (OpenSpec.ofChange roomKnownWrong)

/-- 'ceroplastlaw05.RoomSafe': WHATEVER THE INPUT: true; the input reads as it did. -/
def roomSafeSpec : ChangeSpec := { name := "roomSafe", fn := fun _ => fun
  | [d1, d2] => { results := [.lit (.bool true)], args := [d1, d2] }
  | _ => none }
def roomSafeRow : OpenClaim := { program := "ytbheamjhjgoccaadoor", sum := "4902952e769cd34f4451e2a468ff8121897de2d369858c5f6d68aae1eaa0f350", func := "ceroplast/ceroplastlaw05.RoomSafe", spec := "roomSafe", unfollowed := true, recurses := true, named := ["math/bits.deBruijn32tab", "math/bits.deBruijn64tab"], apart := false, laid := [("math/bits.deBruijn32tab", laid_math_bits_deBruijn32tab), ("math/bits.deBruijn64tab", laid_math_bits_deBruijn64tab)] }
def RoomSafeSaid : Prop := roomSafeRow.holds Tryd.pinned (OpenSpec.ofChange roomSafeSpec)

/-- ITS FALSE NEIGHBOUR: 'it returns false'. Refute it at one input. -/
def roomSafeWrong : ChangeSpec := { name := "roomSafe", fn := fun _ => fun
  | [d1, d2] => { results := [.lit (.bool false)], args := [d1, d2] }
  | _ => none }
def RoomSafeWrongFalsely : Prop := roomSafeRow.holds Tryd.pinned (OpenSpec.ofChange roomSafeWrong)

/-- 'ceroplastlaw05.RoomMost': WHATEVER THE INPUT: true; the input reads as it did. -/
def roomMostSpec : ChangeSpec := { name := "roomMost", fn := fun _ => fun
  | [d1, d2, d3] => { results := [.lit (.bool true)], args := [d1, d2, d3] }
  | _ => none }
def roomMostRow : OpenClaim := { program := "ytbheamjhjgoccaadoor", sum := "4902952e769cd34f4451e2a468ff8121897de2d369858c5f6d68aae1eaa0f350", func := "ceroplast/ceroplastlaw05.RoomMost", spec := "roomMost", unfollowed := true, recurses := true, named := ["math/bits.deBruijn32tab", "math/bits.deBruijn64tab"], apart := false, laid := [("math/bits.deBruijn32tab", laid_math_bits_deBruijn32tab), ("math/bits.deBruijn64tab", laid_math_bits_deBruijn64tab)] }
def RoomMostSaid : Prop := roomMostRow.holds Tryd.pinned (OpenSpec.ofChange roomMostSpec)

/-- ITS FALSE NEIGHBOUR: 'it returns false'. Refute it at one input. -/
def roomMostWrong : ChangeSpec := { name := "roomMost", fn := fun _ => fun
  | [d1, d2, d3] => { results := [.lit (.bool false)], args := [d1, d2, d3] }
  | _ => none }
def RoomMostWrongFalsely : Prop := roomMostRow.holds Tryd.pinned (OpenSpec.ofChange roomMostWrong)

/-- 'ceroplastlaw05.RoomBroken': WHATEVER THE INPUT: true; the input reads as it did. -/
def roomBrokenSpec : ChangeSpec := { name := "roomBroken", fn := fun _ => fun
  | [d1, d2] => { results := [.lit (.bool true)], args := [d1, d2] }
  | _ => none }
def roomBrokenRow : OpenClaim := { program := "ytbheamjhjgoccaadoor", sum := "4902952e769cd34f4451e2a468ff8121897de2d369858c5f6d68aae1eaa0f350", func := "ceroplast/ceroplastlaw05.RoomBroken", spec := "roomBroken", unfollowed := true, recurses := true, named := ["math/bits.deBruijn32tab", "math/bits.deBruijn64tab"], apart := false, laid := [("math/bits.deBruijn32tab", laid_math_bits_deBruijn32tab), ("math/bits.deBruijn64tab", laid_math_bits_deBruijn64tab)] }
def RoomBrokenSaid : Prop := roomBrokenRow.holds Tryd.pinned (OpenSpec.ofChange roomBrokenSpec)

/-- ITS FALSE NEIGHBOUR: 'it returns false'. Refute it at one input. -/
def roomBrokenWrong : ChangeSpec := { name := "roomBroken", fn := fun _ => fun
  | [d1, d2] => { results := [.lit (.bool false)], args := [d1, d2] }
  | _ => none }
def RoomBrokenWrongFalsely : Prop := roomBrokenRow.holds Tryd.pinned (OpenSpec.ofChange roomBrokenWrong)

/-- 'ceroplastlaw05.RoomMargin': WHATEVER THE INPUT: true; the input reads as it did. -/
def roomMarginSpec : ChangeSpec := { name := "roomMargin", fn := fun _ => fun
  | [d1, d2] => { results := [.lit (.bool true)], args := [d1, d2] }
  | _ => none }
def roomMarginRow : OpenClaim := { program := "ytbheamjhjgoccaadoor", sum := "4902952e769cd34f4451e2a468ff8121897de2d369858c5f6d68aae1eaa0f350", func := "ceroplast/ceroplastlaw05.RoomMargin", spec := "roomMargin", unfollowed := true, recurses := true, named := ["math/bits.deBruijn32tab", "math/bits.deBruijn64tab"], apart := false, laid := [("math/bits.deBruijn32tab", laid_math_bits_deBruijn32tab), ("math/bits.deBruijn64tab", laid_math_bits_deBruijn64tab)] }
def RoomMarginSaid : Prop := roomMarginRow.holds Tryd.pinned (OpenSpec.ofChange roomMarginSpec)

/-- ITS FALSE NEIGHBOUR: 'it returns false'. Refute it at one input. -/
def roomMarginWrong : ChangeSpec := { name := "roomMargin", fn := fun _ => fun
  | [d1, d2] => { results := [.lit (.bool false)], args := [d1, d2] }
  | _ => none }
def RoomMarginWrongFalsely : Prop := roomMarginRow.holds Tryd.pinned (OpenSpec.ofChange roomMarginWrong)

/-- 'ceroplastlaw05.RoomFate': WHATEVER THE INPUT: true; the input reads as it did. -/
def roomFateSpec : ChangeSpec := { name := "roomFate", fn := fun _ => fun
  | [d1, d2, d3] => { results := [.lit (.bool true)], args := [d1, d2, d3] }
  | _ => none }
def roomFateRow : OpenClaim := { program := "ytbheamjhjgoccaadoor", sum := "4902952e769cd34f4451e2a468ff8121897de2d369858c5f6d68aae1eaa0f350", func := "ceroplast/ceroplastlaw05.RoomFate", spec := "roomFate", unfollowed := true, recurses := true, named := ["math/bits.deBruijn32tab", "math/bits.deBruijn64tab"], apart := false, laid := [("math/bits.deBruijn32tab", laid_math_bits_deBruijn32tab), ("math/bits.deBruijn64tab", laid_math_bits_deBruijn64tab)] }
def RoomFateSaid : Prop := roomFateRow.holds Tryd.pinned (OpenSpec.ofChange roomFateSpec)

/-- ITS FALSE NEIGHBOUR: 'it returns false'. Refute it at one input. -/
def roomFateWrong : ChangeSpec := { name := "roomFate", fn := fun _ => fun
  | [d1, d2, d3] => { results := [.lit (.bool false)], args := [d1, d2, d3] }
  | _ => none }
def RoomFateWrongFalsely : Prop := roomFateRow.holds Tryd.pinned (OpenSpec.ofChange roomFateWrong)

/-- 'ceroplastlaw05.RoomEasier': WHATEVER THE INPUT: true; the input reads as it did. -/
def roomEasierSpec : ChangeSpec := { name := "roomEasier", fn := fun _ => fun
  | [d1, d2] => { results := [.lit (.bool true)], args := [d1, d2] }
  | _ => none }
def roomEasierRow : OpenClaim := { program := "ytbheamjhjgoccaadoor", sum := "4902952e769cd34f4451e2a468ff8121897de2d369858c5f6d68aae1eaa0f350", func := "ceroplast/ceroplastlaw05.RoomEasier", spec := "roomEasier", unfollowed := true, recurses := true, named := ["math/bits.deBruijn32tab", "math/bits.deBruijn64tab"], apart := false, laid := [("math/bits.deBruijn32tab", laid_math_bits_deBruijn32tab), ("math/bits.deBruijn64tab", laid_math_bits_deBruijn64tab)] }
def RoomEasierSaid : Prop := roomEasierRow.holds Tryd.pinned (OpenSpec.ofChange roomEasierSpec)

/-- ITS FALSE NEIGHBOUR: 'it returns false'. Refute it at one input. -/
def roomEasierWrong : ChangeSpec := { name := "roomEasier", fn := fun _ => fun
  | [d1, d2] => { results := [.lit (.bool false)], args := [d1, d2] }
  | _ => none }
def RoomEasierWrongFalsely : Prop := roomEasierRow.holds Tryd.pinned (OpenSpec.ofChange roomEasierWrong)

/-- 'ceroplastlaw05.RoomOrder': WHATEVER THE INPUT: true; the input reads as it did. -/
def roomOrderSpec : ChangeSpec := { name := "roomOrder", fn := fun _ => fun
  | [d] => { results := [.lit (.bool true)], args := [d] }
  | _ => none }
def roomOrderRow : OpenClaim := { program := "ytbheamjhjgoccaadoor", sum := "4902952e769cd34f4451e2a468ff8121897de2d369858c5f6d68aae1eaa0f350", func := "ceroplast/ceroplastlaw05.RoomOrder", spec := "roomOrder", unfollowed := true, recurses := true, named := ["math/bits.deBruijn32tab", "math/bits.deBruijn64tab"], apart := false, laid := [("math/bits.deBruijn32tab", laid_math_bits_deBruijn32tab), ("math/bits.deBruijn64tab", laid_math_bits_deBruijn64tab)] }
def RoomOrderSaid : Prop := roomOrderRow.holds Tryd.pinned (OpenSpec.ofChange roomOrderSpec)

/-- ITS FALSE NEIGHBOUR: 'it returns false'. Refute it at one input. -/
def roomOrderWrong : ChangeSpec := { name := "roomOrder", fn := fun _ => fun
  | [d] => { results := [.lit (.bool false)], args := [d] }
  | _ => none }
def RoomOrderWrongFalsely : Prop := roomOrderRow.holds Tryd.pinned (OpenSpec.ofChange roomOrderWrong)

/-- 'ceroplastlaw05.RoomNeeds': WHATEVER THE INPUT: true; the input reads as it did. -/
def roomNeedsSpec : ChangeSpec := { name := "roomNeeds", fn := fun _ => fun
  | [d1, d2, d3] => { results := [.lit (.bool true)], args := [d1, d2, d3] }
  | _ => none }
def roomNeedsRow : OpenClaim := { program := "ytbheamjhjgoccaadoor", sum := "4902952e769cd34f4451e2a468ff8121897de2d369858c5f6d68aae1eaa0f350", func := "ceroplast/ceroplastlaw05.RoomNeeds", spec := "roomNeeds", unfollowed := true, recurses := true, named := ["math/bits.deBruijn32tab", "math/bits.deBruijn64tab"], apart := false, laid := [("math/bits.deBruijn32tab", laid_math_bits_deBruijn32tab), ("math/bits.deBruijn64tab", laid_math_bits_deBruijn64tab)] }
def RoomNeedsSaid : Prop := roomNeedsRow.holds Tryd.pinned (OpenSpec.ofChange roomNeedsSpec)

/-- ITS FALSE NEIGHBOUR: 'it returns false'. Refute it at one input. -/
def roomNeedsWrong : ChangeSpec := { name := "roomNeeds", fn := fun _ => fun
  | [d1, d2, d3] => { results := [.lit (.bool false)], args := [d1, d2, d3] }
  | _ => none }
def RoomNeedsWrongFalsely : Prop := roomNeedsRow.holds Tryd.pinned (OpenSpec.ofChange roomNeedsWrong)

/-- 'ceroplastlaw05.RoomLoads': WHATEVER THE INPUT: true; the input reads as it did. -/
def roomLoadsSpec : ChangeSpec := { name := "roomLoads", fn := fun _ => fun
  | [d1, d2] => { results := [.lit (.bool true)], args := [d1, d2] }
  | _ => none }
def roomLoadsRow : OpenClaim := { program := "ytbheamjhjgoccaadoor", sum := "4902952e769cd34f4451e2a468ff8121897de2d369858c5f6d68aae1eaa0f350", func := "ceroplast/ceroplastlaw05.RoomLoads", spec := "roomLoads", unfollowed := true, recurses := true, named := ["math/bits.deBruijn32tab", "math/bits.deBruijn64tab"], apart := false, laid := [("math/bits.deBruijn32tab", laid_math_bits_deBruijn32tab), ("math/bits.deBruijn64tab", laid_math_bits_deBruijn64tab)] }
def RoomLoadsSaid : Prop := roomLoadsRow.holds Tryd.pinned (OpenSpec.ofChange roomLoadsSpec)

/-- ITS FALSE NEIGHBOUR: 'it returns false'. Refute it at one input. -/
def roomLoadsWrong : ChangeSpec := { name := "roomLoads", fn := fun _ => fun
  | [d1, d2] => { results := [.lit (.bool false)], args := [d1, d2] }
  | _ => none }
def RoomLoadsWrongFalsely : Prop := roomLoadsRow.holds Tryd.pinned (OpenSpec.ofChange roomLoadsWrong)

/- THE SECOND FORM. 'bulk': how many values and letters a reading holds, each counted each time it is reached (what is shared counts as often as it is met; a slice's spare places count too). A statement '..UptoSaid' is the law's where the arguments, and the package variables that the reading takes, are together of bulk at most 1048576: NARROWER than '..Said'. Prove '..Said' where nothing that the law and all that it calls make is longer than what came in: it says more and counts as full. Else prove '..UptoSaid'. A law counts once. -/
mutual
def uptoBulk {H : Type} : DataW H → Nat
  | .lit (.string bytes) => bytes.length + 1
  | .lit _ => 1
  | .nil => 1
  | .ptr d => uptoBulk d + 1
  | .slice elems spare => uptoBulkAll elems + uptoBulkAll spare + 1
  | .agg parts => uptoBulkAll parts + 1
  | .iface _ d => uptoBulk d + 1
  | .map entries => uptoBulkEntries entries + 1
  | .held _ => 1
def uptoBulkAll {H : Type} : List (DataW H) → Nat
  | [] => 0
  | d :: r => uptoBulk d + uptoBulkAll r
def uptoBulkEntries {H : Type} : List (Lit × DataW H) → Nat
  | [] => 0
  | x :: r => uptoBulkEntry x + uptoBulkEntries r
def uptoBulkEntry {H : Type} : Lit × DataW H → Nat
  | (.string bytes, d) => bytes.length + uptoBulk d + 1
  | (_, d) => uptoBulk d + 1
 end
def uptoSmall : (H : Type) → List (DataW H) → Bool := fun _ ds => decide (uptoBulkAll ds ≤ 1048576)
def OpenSpec.upto (s : _root_.Go.ChangeSpec) : _root_.Go.OpenSpec := { _root_.Go.OpenSpec.ofChange s with cond := some uptoSmall }

/-- 'ceroplastlaw05.RoomFates', WHERE WHAT IT READS IS OF BULK AT MOST 1048576: true; the input reads as it did. -/
def roomFatesUptoRow : OpenClaim := { program := "ytbheamjhjgoccaadoor", sum := "4902952e769cd34f4451e2a468ff8121897de2d369858c5f6d68aae1eaa0f350", func := "ceroplast/ceroplastlaw05.RoomFates", spec := "roomFates", unfollowed := true, recurses := true, named := ["math/bits.deBruijn32tab", "math/bits.deBruijn64tab"], apart := false, laid := [("math/bits.deBruijn32tab", laid_math_bits_deBruijn32tab), ("math/bits.deBruijn64tab", laid_math_bits_deBruijn64tab)], narrowed := true }
def RoomFatesUptoSaid : Prop := roomFatesUptoRow.holds Tryd.pinned (OpenSpec.upto roomFatesSpec)

/-- 'ceroplastlaw05.RoomShows', WHERE WHAT IT READS IS OF BULK AT MOST 1048576: true; the input reads as it did. -/
def roomShowsUptoRow : OpenClaim := { program := "ytbheamjhjgoccaadoor", sum := "4902952e769cd34f4451e2a468ff8121897de2d369858c5f6d68aae1eaa0f350", func := "ceroplast/ceroplastlaw05.RoomShows", spec := "roomShows", unfollowed := true, recurses := true, named := ["math/bits.deBruijn32tab", "math/bits.deBruijn64tab"], apart := false, laid := [("math/bits.deBruijn32tab", laid_math_bits_deBruijn32tab), ("math/bits.deBruijn64tab", laid_math_bits_deBruijn64tab)], narrowed := true }
def RoomShowsUptoSaid : Prop := roomShowsUptoRow.holds Tryd.pinned (OpenSpec.upto roomShowsSpec)

/-- 'ceroplastlaw05.RoomBests', WHERE WHAT IT READS IS OF BULK AT MOST 1048576: true; the input reads as it did. -/
def roomBestsUptoRow : OpenClaim := { program := "ytbheamjhjgoccaadoor", sum := "4902952e769cd34f4451e2a468ff8121897de2d369858c5f6d68aae1eaa0f350", func := "ceroplast/ceroplastlaw05.RoomBests", spec := "roomBests", unfollowed := true, recurses := true, named := ["math/bits.deBruijn32tab", "math/bits.deBruijn64tab"], apart := false, laid := [("math/bits.deBruijn32tab", laid_math_bits_deBruijn32tab), ("math/bits.deBruijn64tab", laid_math_bits_deBruijn64tab)], narrowed := true }
def RoomBestsUptoSaid : Prop := roomBestsUptoRow.holds Tryd.pinned (OpenSpec.upto roomBestsSpec)

/-- 'ceroplastlaw05.RoomBreaks', WHERE WHAT IT READS IS OF BULK AT MOST 1048576: true; the input reads as it did. -/
def roomBreaksUptoRow : OpenClaim := { program := "ytbheamjhjgoccaadoor", sum := "4902952e769cd34f4451e2a468ff8121897de2d369858c5f6d68aae1eaa0f350", func := "ceroplast/ceroplastlaw05.RoomBreaks", spec := "roomBreaks", unfollowed := true, recurses := true, named := ["math/bits.deBruijn32tab", "math/bits.deBruijn64tab"], apart := false, laid := [("math/bits.deBruijn32tab", laid_math_bits_deBruijn32tab), ("math/bits.deBruijn64tab", laid_math_bits_deBruijn64tab)], narrowed := true }
def RoomBreaksUptoSaid : Prop := roomBreaksUptoRow.holds Tryd.pinned (OpenSpec.upto roomBreaksSpec)

/-- 'ceroplastlaw05.RoomKnown', WHERE WHAT IT READS IS OF BULK AT MOST 1048576: true; the input reads as it did. -/
def roomKnownUptoRow : OpenClaim := { program := "ytbheamjhjgoccaadoor", sum := "4902952e769cd34f4451e2a468ff8121897de2d369858c5f6d68aae1eaa0f350", func := "ceroplast/ceroplastlaw05.RoomKnown", spec := "roomKnown", unfollowed := true, recurses := true, named := ["math/bits.deBruijn32tab", "math/bits.deBruijn64tab"], apart := false, laid := [("math/bits.deBruijn32tab", laid_math_bits_deBruijn32tab), ("math/bits.deBruijn64tab", laid_math_bits_deBruijn64tab)], narrowed := true }
def RoomKnownUptoSaid : Prop := roomKnownUptoRow.holds Tryd.pinned (OpenSpec.upto roomKnownSpec)

/-- 'ceroplastlaw05.RoomSafe', WHERE WHAT IT READS IS OF BULK AT MOST 1048576: true; the input reads as it did. -/
def roomSafeUptoRow : OpenClaim := { program := "ytbheamjhjgoccaadoor", sum := "4902952e769cd34f4451e2a468ff8121897de2d369858c5f6d68aae1eaa0f350", func := "ceroplast/ceroplastlaw05.RoomSafe", spec := "roomSafe", unfollowed := true, recurses := true, named := ["math/bits.deBruijn32tab", "math/bits.deBruijn64tab"], apart := false, laid := [("math/bits.deBruijn32tab", laid_math_bits_deBruijn32tab), ("math/bits.deBruijn64tab", laid_math_bits_deBruijn64tab)], narrowed := true }
def RoomSafeUptoSaid : Prop := roomSafeUptoRow.holds Tryd.pinned (OpenSpec.upto roomSafeSpec)

/-- 'ceroplastlaw05.RoomMost', WHERE WHAT IT READS IS OF BULK AT MOST 1048576: true; the input reads as it did. -/
def roomMostUptoRow : OpenClaim := { program := "ytbheamjhjgoccaadoor", sum := "4902952e769cd34f4451e2a468ff8121897de2d369858c5f6d68aae1eaa0f350", func := "ceroplast/ceroplastlaw05.RoomMost", spec := "roomMost", unfollowed := true, recurses := true, named := ["math/bits.deBruijn32tab", "math/bits.deBruijn64tab"], apart := false, laid := [("math/bits.deBruijn32tab", laid_math_bits_deBruijn32tab), ("math/bits.deBruijn64tab", laid_math_bits_deBruijn64tab)], narrowed := true }
def RoomMostUptoSaid : Prop := roomMostUptoRow.holds Tryd.pinned (OpenSpec.upto roomMostSpec)

/-- 'ceroplastlaw05.RoomBroken', WHERE WHAT IT READS IS OF BULK AT MOST 1048576: true; the input reads as it did. -/
def roomBrokenUptoRow : OpenClaim := { program := "ytbheamjhjgoccaadoor", sum := "4902952e769cd34f4451e2a468ff8121897de2d369858c5f6d68aae1eaa0f350", func := "ceroplast/ceroplastlaw05.RoomBroken", spec := "roomBroken", unfollowed := true, recurses := true, named := ["math/bits.deBruijn32tab", "math/bits.deBruijn64tab"], apart := false, laid := [("math/bits.deBruijn32tab", laid_math_bits_deBruijn32tab), ("math/bits.deBruijn64tab", laid_math_bits_deBruijn64tab)], narrowed := true }
def RoomBrokenUptoSaid : Prop := roomBrokenUptoRow.holds Tryd.pinned (OpenSpec.upto roomBrokenSpec)

/-- 'ceroplastlaw05.RoomMargin', WHERE WHAT IT READS IS OF BULK AT MOST 1048576: true; the input reads as it did. -/
def roomMarginUptoRow : OpenClaim := { program := "ytbheamjhjgoccaadoor", sum := "4902952e769cd34f4451e2a468ff8121897de2d369858c5f6d68aae1eaa0f350", func := "ceroplast/ceroplastlaw05.RoomMargin", spec := "roomMargin", unfollowed := true, recurses := true, named := ["math/bits.deBruijn32tab", "math/bits.deBruijn64tab"], apart := false, laid := [("math/bits.deBruijn32tab", laid_math_bits_deBruijn32tab), ("math/bits.deBruijn64tab", laid_math_bits_deBruijn64tab)], narrowed := true }
def RoomMarginUptoSaid : Prop := roomMarginUptoRow.holds Tryd.pinned (OpenSpec.upto roomMarginSpec)

/-- 'ceroplastlaw05.RoomFate', WHERE WHAT IT READS IS OF BULK AT MOST 1048576: true; the input reads as it did. -/
def roomFateUptoRow : OpenClaim := { program := "ytbheamjhjgoccaadoor", sum := "4902952e769cd34f4451e2a468ff8121897de2d369858c5f6d68aae1eaa0f350", func := "ceroplast/ceroplastlaw05.RoomFate", spec := "roomFate", unfollowed := true, recurses := true, named := ["math/bits.deBruijn32tab", "math/bits.deBruijn64tab"], apart := false, laid := [("math/bits.deBruijn32tab", laid_math_bits_deBruijn32tab), ("math/bits.deBruijn64tab", laid_math_bits_deBruijn64tab)], narrowed := true }
def RoomFateUptoSaid : Prop := roomFateUptoRow.holds Tryd.pinned (OpenSpec.upto roomFateSpec)

/-- 'ceroplastlaw05.RoomEasier', WHERE WHAT IT READS IS OF BULK AT MOST 1048576: true; the input reads as it did. -/
def roomEasierUptoRow : OpenClaim := { program := "ytbheamjhjgoccaadoor", sum := "4902952e769cd34f4451e2a468ff8121897de2d369858c5f6d68aae1eaa0f350", func := "ceroplast/ceroplastlaw05.RoomEasier", spec := "roomEasier", unfollowed := true, recurses := true, named := ["math/bits.deBruijn32tab", "math/bits.deBruijn64tab"], apart := false, laid := [("math/bits.deBruijn32tab", laid_math_bits_deBruijn32tab), ("math/bits.deBruijn64tab", laid_math_bits_deBruijn64tab)], narrowed := true }
def RoomEasierUptoSaid : Prop := roomEasierUptoRow.holds Tryd.pinned (OpenSpec.upto roomEasierSpec)

/-- 'ceroplastlaw05.RoomOrder', WHERE WHAT IT READS IS OF BULK AT MOST 1048576: true; the input reads as it did. -/
def roomOrderUptoRow : OpenClaim := { program := "ytbheamjhjgoccaadoor", sum := "4902952e769cd34f4451e2a468ff8121897de2d369858c5f6d68aae1eaa0f350", func := "ceroplast/ceroplastlaw05.RoomOrder", spec := "roomOrder", unfollowed := true, recurses := true, named := ["math/bits.deBruijn32tab", "math/bits.deBruijn64tab"], apart := false, laid := [("math/bits.deBruijn32tab", laid_math_bits_deBruijn32tab), ("math/bits.deBruijn64tab", laid_math_bits_deBruijn64tab)], narrowed := true }
def RoomOrderUptoSaid : Prop := roomOrderUptoRow.holds Tryd.pinned (OpenSpec.upto roomOrderSpec)

/-- 'ceroplastlaw05.RoomNeeds', WHERE WHAT IT READS IS OF BULK AT MOST 1048576: true; the input reads as it did. -/
def roomNeedsUptoRow : OpenClaim := { program := "ytbheamjhjgoccaadoor", sum := "4902952e769cd34f4451e2a468ff8121897de2d369858c5f6d68aae1eaa0f350", func := "ceroplast/ceroplastlaw05.RoomNeeds", spec := "roomNeeds", unfollowed := true, recurses := true, named := ["math/bits.deBruijn32tab", "math/bits.deBruijn64tab"], apart := false, laid := [("math/bits.deBruijn32tab", laid_math_bits_deBruijn32tab), ("math/bits.deBruijn64tab", laid_math_bits_deBruijn64tab)], narrowed := true }
def RoomNeedsUptoSaid : Prop := roomNeedsUptoRow.holds Tryd.pinned (OpenSpec.upto roomNeedsSpec)

/-- 'ceroplastlaw05.RoomLoads', WHERE WHAT IT READS IS OF BULK AT MOST 1048576: true; the input reads as it did. -/
def roomLoadsUptoRow : OpenClaim := { program := "ytbheamjhjgoccaadoor", sum := "4902952e769cd34f4451e2a468ff8121897de2d369858c5f6d68aae1eaa0f350", func := "ceroplast/ceroplastlaw05.RoomLoads", spec := "roomLoads", unfollowed := true, recurses := true, named := ["math/bits.deBruijn32tab", "math/bits.deBruijn64tab"], apart := false, laid := [("math/bits.deBruijn32tab", laid_math_bits_deBruijn32tab), ("math/bits.deBruijn64tab", laid_math_bits_deBruijn64tab)], narrowed := true }
def RoomLoadsUptoSaid : Prop := roomLoadsUptoRow.holds Tryd.pinned (OpenSpec.upto roomLoadsSpec)

end Rows
end Go.Proofs.YtbheamjhjgoccaaDoor
