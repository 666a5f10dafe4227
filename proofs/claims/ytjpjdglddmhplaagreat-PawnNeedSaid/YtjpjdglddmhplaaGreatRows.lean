/-
  No cell of these rows narrows 'for every input' (looked for: loops, veiled, ifaces, maps, wideKeys, modest, calm, conditions, laid).
  DERIVED. THE GIVEN ROWS OF THIS SEAT. 7 by the template 'for every input the law returns true; each argument reads behind the call as it read before'; 0 by the template 'total and deterministic' (their statements: YtjpjdglddmhplaaGreatTotals.lean).
  GIVEN WITH THE SEED: the statements are not yours to turn. If you find one false, say at which input.
  Laid BY PROGRAM, IN A SANDBOX (cutbox-rows.mjs): the forced cells as the released guide's own fill.sh prints them over the translation 356832d47a69a760… (all of the seat's roots in one cut). By AI agents, Wed Nov 11 2026. No macro, syntax, notation, axiom, sorry.
-/
import Derived.Test.YtjpjdglddmhplaaGreatChecked
import GoSem.Claim
import GoSem.ClaimJoined
import GoSem.ClaimMapViews
import Derived.JoinedTies
import Derived.KernelRfl
namespace Go.Proofs.YtjpjdglddmhplaaGreat
/- THE CELL 'sum', in the pinned program and in every row, IS THE sha256 OF THE DUMP (.gsa) THAT YtjpjdglddmhplaaGreatProg.lean LOADS. Nothing in Lean hashes anything: it is a label: what it is worth is what the hold of that sum in a sandbox is worth. -/
noncomputable def Tryz.pinned : Pinned := { name := "ytjpjdglddmhplaagreat", sum := "356832d47a69a760d231a0657e0a7d69857762f10969de6b9f6f6792bf494231", checked := Tryz.checked }
namespace Rows
def none {H : Type} : Left H := { results := [], args := [] }

/-- 'ceroplastlaw04.PawnPrices': WHATEVER THE INPUT: true; the input reads as it did. -/
def pawnPricesSpec : ChangeSpec := { name := "pawnPrices", fn := fun _ => fun
  | [d1, d2] => { results := [.lit (.bool true)], args := [d1, d2] }
  | _ => none }
def pawnPricesRow : OpenClaim := { program := "ytjpjdglddmhplaagreat", sum := "356832d47a69a760d231a0657e0a7d69857762f10969de6b9f6f6792bf494231", func := "ceroplast/ceroplastlaw04.PawnPrices", spec := "pawnPrices", unfollowed := true, recurses := true, plainKeys := false, apart := false }
def PawnPricesSaid : Prop := pawnPricesRow.holds Tryz.pinned (OpenSpec.ofChange pawnPricesSpec)

/-- ITS FALSE NEIGHBOUR: 'it returns false'. Refute it at one input. -/
def pawnPricesWrong : ChangeSpec := { name := "pawnPrices", fn := fun _ => fun
  | [d1, d2] => { results := [.lit (.bool false)], args := [d1, d2] }
  | _ => none }
def PawnPricesWrongFalsely : Prop := pawnPricesRow.holds Tryz.pinned (OpenSpec.ofChange pawnPricesWrong)

/-- 'ceroplastlaw04.PawnPurses': WHATEVER THE INPUT: true; the input reads as it did. -/
def pawnPursesSpec : ChangeSpec := { name := "pawnPurses", fn := fun _ => fun
  | [d1, d2, d3] => { results := [.lit (.bool true)], args := [d1, d2, d3] }
  | _ => none }
def pawnPursesRow : OpenClaim := { program := "ytjpjdglddmhplaagreat", sum := "356832d47a69a760d231a0657e0a7d69857762f10969de6b9f6f6792bf494231", func := "ceroplast/ceroplastlaw04.PawnPurses", spec := "pawnPurses", unfollowed := true, recurses := true, plainKeys := false, apart := false }
def PawnPursesSaid : Prop := pawnPursesRow.holds Tryz.pinned (OpenSpec.ofChange pawnPursesSpec)

/-- ITS FALSE NEIGHBOUR: 'it returns false'. Refute it at one input. -/
def pawnPursesWrong : ChangeSpec := { name := "pawnPurses", fn := fun _ => fun
  | [d1, d2, d3] => { results := [.lit (.bool false)], args := [d1, d2, d3] }
  | _ => none }
def PawnPursesWrongFalsely : Prop := pawnPursesRow.holds Tryz.pinned (OpenSpec.ofChange pawnPursesWrong)

/-- 'ceroplastlaw04.PawnBests': WHATEVER THE INPUT: true; the input reads as it did. -/
def pawnBestsSpec : ChangeSpec := { name := "pawnBests", fn := fun _ => fun
  | [d] => { results := [.lit (.bool true)], args := [d] }
  | _ => none }
def pawnBestsRow : OpenClaim := { program := "ytjpjdglddmhplaagreat", sum := "356832d47a69a760d231a0657e0a7d69857762f10969de6b9f6f6792bf494231", func := "ceroplast/ceroplastlaw04.PawnBests", spec := "pawnBests", unfollowed := true, recurses := true, plainKeys := false, apart := false }
def PawnBestsSaid : Prop := pawnBestsRow.holds Tryz.pinned (OpenSpec.ofChange pawnBestsSpec)

/-- ITS FALSE NEIGHBOUR: 'it returns false'. Refute it at one input. -/
def pawnBestsWrong : ChangeSpec := { name := "pawnBests", fn := fun _ => fun
  | [d] => { results := [.lit (.bool false)], args := [d] }
  | _ => none }
def PawnBestsWrongFalsely : Prop := pawnBestsRow.holds Tryz.pinned (OpenSpec.ofChange pawnBestsWrong)

/-- 'ceroplastlaw04.PawnBack': WHATEVER THE INPUT: true; the input reads as it did. -/
def pawnBackSpec : ChangeSpec := { name := "pawnBack", fn := fun _ => fun
  | [d1, d2] => { results := [.lit (.bool true)], args := [d1, d2] }
  | _ => none }
def pawnBackRow : OpenClaim := { program := "ytjpjdglddmhplaagreat", sum := "356832d47a69a760d231a0657e0a7d69857762f10969de6b9f6f6792bf494231", func := "ceroplast/ceroplastlaw04.PawnBack", spec := "pawnBack", unfollowed := true, recurses := true, plainKeys := false, apart := false }
def PawnBackSaid : Prop := pawnBackRow.holds Tryz.pinned (OpenSpec.ofChange pawnBackSpec)

/-- ITS FALSE NEIGHBOUR: 'it returns false'. Refute it at one input. -/
def pawnBackWrong : ChangeSpec := { name := "pawnBack", fn := fun _ => fun
  | [d1, d2] => { results := [.lit (.bool false)], args := [d1, d2] }
  | _ => none }
def PawnBackWrongFalsely : Prop := pawnBackRow.holds Tryz.pinned (OpenSpec.ofChange pawnBackWrong)

/-- 'ceroplastlaw04.PawnBare': WHATEVER THE INPUT: true; the input reads as it did. -/
def pawnBareSpec : ChangeSpec := { name := "pawnBare", fn := fun _ => fun
  | [d1, d2, d3] => { results := [.lit (.bool true)], args := [d1, d2, d3] }
  | _ => none }
def pawnBareRow : OpenClaim := { program := "ytjpjdglddmhplaagreat", sum := "356832d47a69a760d231a0657e0a7d69857762f10969de6b9f6f6792bf494231", func := "ceroplast/ceroplastlaw04.PawnBare", spec := "pawnBare", unfollowed := true, recurses := true, plainKeys := false, apart := false }
def PawnBareSaid : Prop := pawnBareRow.holds Tryz.pinned (OpenSpec.ofChange pawnBareSpec)

/-- ITS FALSE NEIGHBOUR: 'it returns false'. Refute it at one input. -/
def pawnBareWrong : ChangeSpec := { name := "pawnBare", fn := fun _ => fun
  | [d1, d2, d3] => { results := [.lit (.bool false)], args := [d1, d2, d3] }
  | _ => none }
def PawnBareWrongFalsely : Prop := pawnBareRow.holds Tryz.pinned (OpenSpec.ofChange pawnBareWrong)

/-- 'ceroplastlaw04.PawnNeed': WHATEVER THE INPUT: true; the input reads as it did. -/
def pawnNeedSpec : ChangeSpec := { name := "pawnNeed", fn := fun _ => fun
  | [d] => { results := [.lit (.bool true)], args := [d] }
  | _ => none }
def pawnNeedRow : OpenClaim := { program := "ytjpjdglddmhplaagreat", sum := "356832d47a69a760d231a0657e0a7d69857762f10969de6b9f6f6792bf494231", func := "ceroplast/ceroplastlaw04.PawnNeed", spec := "pawnNeed", unfollowed := true, recurses := true, plainKeys := false, apart := false }
def PawnNeedSaid : Prop := pawnNeedRow.holds Tryz.pinned (OpenSpec.ofChange pawnNeedSpec)

/-- ITS FALSE NEIGHBOUR: 'it returns false'. Refute it at one input. -/
def pawnNeedWrong : ChangeSpec := { name := "pawnNeed", fn := fun _ => fun
  | [d] => { results := [.lit (.bool false)], args := [d] }
  | _ => none }
def PawnNeedWrongFalsely : Prop := pawnNeedRow.holds Tryz.pinned (OpenSpec.ofChange pawnNeedWrong)

/-- 'ceroplastlaw04.PawnPaid': WHATEVER THE INPUT: true; the input reads as it did. -/
def pawnPaidSpec : ChangeSpec := { name := "pawnPaid", fn := fun _ => fun
  | [d1, d2, d3] => { results := [.lit (.bool true)], args := [d1, d2, d3] }
  | _ => none }
def pawnPaidRow : OpenClaim := { program := "ytjpjdglddmhplaagreat", sum := "356832d47a69a760d231a0657e0a7d69857762f10969de6b9f6f6792bf494231", func := "ceroplast/ceroplastlaw04.PawnPaid", spec := "pawnPaid", unfollowed := true, recurses := true, plainKeys := false, apart := false }
def PawnPaidSaid : Prop := pawnPaidRow.holds Tryz.pinned (OpenSpec.ofChange pawnPaidSpec)

/-- ITS FALSE NEIGHBOUR: 'it returns false'. Refute it at one input. -/
def pawnPaidWrong : ChangeSpec := { name := "pawnPaid", fn := fun _ => fun
  | [d1, d2, d3] => { results := [.lit (.bool false)], args := [d1, d2, d3] }
  | _ => none }
def PawnPaidWrongFalsely : Prop := pawnPaidRow.holds Tryz.pinned (OpenSpec.ofChange pawnPaidWrong)

/- THE SECOND FORM. 'bulk': how many values and letters a reading holds, each counted each time it is reached (what is shared counts as often as it is met; a slice's spare places count too). A statement '..UptoSaid' is the law's where the arguments, and the package variables that the reading takes, are together of bulk at most 1048576: NARROWER than '..Said'. Prove '..Said' where nothing that the law and all that it calls make is longer than what came in: it says more and counts as full. Else prove '..UptoSaid'. A law counts once. -/
mutual
def uptoBulk {H : Type} : DataW H → Nat
  | .lit (.string bytes) => bytes.length + 1
  | .lit _ => 1
  | .nil => 1
  | .ptr d => uptoBulk d + 1
  | .slice elems spare => uptoBulkAll elems + uptoBulkAll spare + 1
  | .agg parts => uptoBulkAll parts + 1
  | .iface _ d => uptoBulk d + 1
  | .map entries => uptoBulkEntries entries + 1
  | .held _ => 1
def uptoBulkAll {H : Type} : List (DataW H) → Nat
  | [] => 0
  | d :: r => uptoBulk d + uptoBulkAll r
def uptoBulkEntries {H : Type} : List (Lit × DataW H) → Nat
  | [] => 0
  | x :: r => uptoBulkEntry x + uptoBulkEntries r
def uptoBulkEntry {H : Type} : Lit × DataW H → Nat
  | (.string bytes, d) => bytes.length + uptoBulk d + 1
  | (_, d) => uptoBulk d + 1
 end
def uptoSmall : (H : Type) → List (DataW H) → Bool := fun _ ds => decide (uptoBulkAll ds ≤ 1048576)
def OpenSpec.upto (s : _root_.Go.ChangeSpec) : _root_.Go.OpenSpec := { _root_.Go.OpenSpec.ofChange s with cond := some uptoSmall }

/-- 'ceroplastlaw04.PawnPrices', WHERE WHAT IT READS IS OF BULK AT MOST 1048576: true; the input reads as it did. -/
def pawnPricesUptoRow : OpenClaim := { program := "ytjpjdglddmhplaagreat", sum := "356832d47a69a760d231a0657e0a7d69857762f10969de6b9f6f6792bf494231", func := "ceroplast/ceroplastlaw04.PawnPrices", spec := "pawnPrices", unfollowed := true, recurses := true, plainKeys := false, apart := false, narrowed := true }
def PawnPricesUptoSaid : Prop := pawnPricesUptoRow.holds Tryz.pinned (OpenSpec.upto pawnPricesSpec)

/-- 'ceroplastlaw04.PawnPurses', WHERE WHAT IT READS IS OF BULK AT MOST 1048576: true; the input reads as it did. -/
def pawnPursesUptoRow : OpenClaim := { program := "ytjpjdglddmhplaagreat", sum := "356832d47a69a760d231a0657e0a7d69857762f10969de6b9f6f6792bf494231", func := "ceroplast/ceroplastlaw04.PawnPurses", spec := "pawnPurses", unfollowed := true, recurses := true, plainKeys := false, apart := false, narrowed := true }
def PawnPursesUptoSaid : Prop := pawnPursesUptoRow.holds Tryz.pinned (OpenSpec.upto pawnPursesSpec)

/-- 'ceroplastlaw04.PawnBests', WHERE WHAT IT READS IS OF BULK AT MOST 1048576: true; the input reads as it did. -/
def pawnBestsUptoRow : OpenClaim := { program := "ytjpjdglddmhplaagreat", sum := "356832d47a69a760d231a0657e0a7d69857762f10969de6b9f6f6792bf494231", func := "ceroplast/ceroplastlaw04.PawnBests", spec := "pawnBests", unfollowed := true, recurses := true, plainKeys := false, apart := false, narrowed := true }
def PawnBestsUptoSaid : Prop := pawnBestsUptoRow.holds Tryz.pinned (OpenSpec.upto pawnBestsSpec)

/-- 'ceroplastlaw04.PawnBack', WHERE WHAT IT READS IS OF BULK AT MOST 1048576: true; the input reads as it did. -/
def pawnBackUptoRow : OpenClaim := { program := "ytjpjdglddmhplaagreat", sum := "356832d47a69a760d231a0657e0a7d69857762f10969de6b9f6f6792bf494231", func := "ceroplast/ceroplastlaw04.PawnBack", spec := "pawnBack", unfollowed := true, recurses := true, plainKeys := false, apart := false, narrowed := true }
def PawnBackUptoSaid : Prop := pawnBackUptoRow.holds Tryz.pinned (OpenSpec.upto pawnBackSpec)

/-- 'ceroplastlaw04.PawnBare', WHERE WHAT IT READS IS OF BULK AT MOST 1048576: true; the input reads as it did. -/
def pawnBareUptoRow : OpenClaim := { program := "ytjpjdglddmhplaagreat", sum := "356832d47a69a760d231a0657e0a7d69857762f10969de6b9f6f6792bf494231", func := "ceroplast/ceroplastlaw04.PawnBare", spec := "pawnBare", unfollowed := true, recurses := true, plainKeys := false, apart := false, narrowed := true }
def PawnBareUptoSaid : Prop := pawnBareUptoRow.holds Tryz.pinned (OpenSpec.upto pawnBareSpec)

/-- 'ceroplastlaw04.PawnNeed', WHERE WHAT IT READS IS OF BULK AT MOST 1048576: true; the input reads as it did. -/
def pawnNeedUptoRow : OpenClaim := { program := "ytjpjdglddmhplaagreat", sum := "356832d47a69a760d231a0657e0a7d69857762f10969de6b9f6f6792bf494231", func := "ceroplast/ceroplastlaw04.PawnNeed", spec := "pawnNeed", unfollowed := true, recurses := true, plainKeys := false, apart := false, narrowed := true }
def PawnNeedUptoSaid : Prop := pawnNeedUptoRow.holds Tryz.pinned (OpenSpec.upto pawnNeedSpec)

/-- 'ceroplastlaw04.PawnPaid', WHERE WHAT IT READS IS OF BULK AT MOST 1048576: true; the input reads as it did. -/
def pawnPaidUptoRow : OpenClaim := { program := "ytjpjdglddmhplaagreat", sum := "356832d47a69a760d231a0657e0a7d69857762f10969de6b9f6f6792bf494231", func := "ceroplast/ceroplastlaw04.PawnPaid", spec := "pawnPaid", unfollowed := true, recurses := true, plainKeys := false, apart := false, narrowed := true }
def PawnPaidUptoSaid : Prop := pawnPaidUptoRow.holds Tryz.pinned (OpenSpec.upto pawnPaidSpec)

end Rows
end Go.Proofs.YtjpjdglddmhplaaGreat
