/-
  No cell of these rows narrows 'for every input' (looked for: loops, veiled, ifaces, maps, wideKeys, modest, calm, conditions, laid).
  DERIVED. THE GIVEN ROWS OF THIS SEAT. 13 by the template 'for every input the law returns true; each argument reads behind the call as it read before'; 0 by the template 'total and deterministic' (their statements: YtdkflofgolehkaaTotals.lean).
  GIVEN WITH THE SEED: the statements are not yours to turn. If you find one false, say at which input.
  Laid BY PROGRAM, IN A SANDBOX (cutbox-rows.mjs): the forced cells as the released guide's own fill.sh prints them over the translation 6991201b98a7b931… (all of the seat's roots in one cut). By AI agents, Wed Nov 11 2026. No macro, syntax, notation, axiom, sorry.
-/
import Derived.Test.YtdkflofgolehkaaChecked
import GoSem.Claim
import GoSem.ClaimJoined
import GoSem.ClaimMapViews
import Derived.JoinedTies
import Derived.KernelRfl
namespace Go.Proofs.Ytdkflofgolehkaa
/- THE CELL 'sum', in the pinned program and in every row, IS THE sha256 OF THE DUMP (.gsa) THAT YtdkflofgolehkaaProg.lean LOADS. Nothing in Lean hashes anything: it is a label: what it is worth is what the hold of that sum in a sandbox is worth. -/
noncomputable def Try.pinned : Pinned := { name := "ytdkflofgolehkaa", sum := "6991201b98a7b9317ff6f893e82a719560a2e77bca1f75ae97b090970bad7412", checked := Try.checked }
namespace Rows
def none {H : Type} : Left H := { results := [], args := [] }

/-- 'ceroplastlaw09.DressCosts': WHATEVER THE INPUT: true; the input reads as it did. -/
def dressCostsSpec : ChangeSpec := { name := "dressCosts", fn := fun _ => fun
  | [d1, d2] => { results := [.lit (.bool true)], args := [d1, d2] }
  | _ => none }
def dressCostsRow : OpenClaim := { program := "ytdkflofgolehkaa", sum := "6991201b98a7b9317ff6f893e82a719560a2e77bca1f75ae97b090970bad7412", func := "ceroplast/ceroplastlaw09.DressCosts", spec := "dressCosts", unfollowed := true, recurses := true, plainKeys := false, apart := false }
def DressCostsSaid : Prop := dressCostsRow.holds Try.pinned (OpenSpec.ofChange dressCostsSpec)

/-- ITS FALSE NEIGHBOUR: 'it returns false'. Refute it at one input. -/
def dressCostsWrong : ChangeSpec := { name := "dressCosts", fn := fun _ => fun
  | [d1, d2] => { results := [.lit (.bool false)], args := [d1, d2] }
  | _ => none }
def DressCostsWrongFalsely : Prop := dressCostsRow.holds Try.pinned (OpenSpec.ofChange dressCostsWrong)

/-- 'ceroplastlaw09.DressPlans': WHATEVER THE INPUT: true; the input reads as it did. -/
def dressPlansSpec : ChangeSpec := { name := "dressPlans", fn := fun _ => fun
  | [d1, d2] => { results := [.lit (.bool true)], args := [d1, d2] }
  | _ => none }
def dressPlansRow : OpenClaim := { program := "ytdkflofgolehkaa", sum := "6991201b98a7b9317ff6f893e82a719560a2e77bca1f75ae97b090970bad7412", func := "ceroplast/ceroplastlaw09.DressPlans", spec := "dressPlans", unfollowed := true, recurses := true, plainKeys := false, apart := false }
def DressPlansSaid : Prop := dressPlansRow.holds Try.pinned (OpenSpec.ofChange dressPlansSpec)

/-- ITS FALSE NEIGHBOUR: 'it returns false'. Refute it at one input. -/
def dressPlansWrong : ChangeSpec := { name := "dressPlans", fn := fun _ => fun
  | [d1, d2] => { results := [.lit (.bool false)], args := [d1, d2] }
  | _ => none }
def DressPlansWrongFalsely : Prop := dressPlansRow.holds Try.pinned (OpenSpec.ofChange dressPlansWrong)

/-- 'ceroplastlaw09.DressBests': WHATEVER THE INPUT: true; the input reads as it did. -/
def dressBestsSpec : ChangeSpec := { name := "dressBests", fn := fun _ => fun
  | [d1, d2] => { results := [.lit (.bool true)], args := [d1, d2] }
  | _ => none }
def dressBestsRow : OpenClaim := { program := "ytdkflofgolehkaa", sum := "6991201b98a7b9317ff6f893e82a719560a2e77bca1f75ae97b090970bad7412", func := "ceroplast/ceroplastlaw09.DressBests", spec := "dressBests", unfollowed := true, recurses := true, plainKeys := false, apart := false }
def DressBestsSaid : Prop := dressBestsRow.holds Try.pinned (OpenSpec.ofChange dressBestsSpec)

/-- ITS FALSE NEIGHBOUR: 'it returns false'. Refute it at one input. -/
def dressBestsWrong : ChangeSpec := { name := "dressBests", fn := fun _ => fun
  | [d1, d2] => { results := [.lit (.bool false)], args := [d1, d2] }
  | _ => none }
def DressBestsWrongFalsely : Prop := dressBestsRow.holds Try.pinned (OpenSpec.ofChange dressBestsWrong)

/-- 'ceroplastlaw09.DressOuts': WHATEVER THE INPUT: true; the input reads as it did. -/
def dressOutsSpec : ChangeSpec := { name := "dressOuts", fn := fun _ => fun
  | [d] => { results := [.lit (.bool true)], args := [d] }
  | _ => none }
def dressOutsRow : OpenClaim := { program := "ytdkflofgolehkaa", sum := "6991201b98a7b9317ff6f893e82a719560a2e77bca1f75ae97b090970bad7412", func := "ceroplast/ceroplastlaw09.DressOuts", spec := "dressOuts", unfollowed := true, recurses := true, plainKeys := false, apart := false }
def DressOutsSaid : Prop := dressOutsRow.holds Try.pinned (OpenSpec.ofChange dressOutsSpec)

/-- ITS FALSE NEIGHBOUR: 'it returns false'. Refute it at one input. -/
def dressOutsWrong : ChangeSpec := { name := "dressOuts", fn := fun _ => fun
  | [d] => { results := [.lit (.bool false)], args := [d] }
  | _ => none }
def DressOutsWrongFalsely : Prop := dressOutsRow.holds Try.pinned (OpenSpec.ofChange dressOutsWrong)

/-- 'ceroplastlaw09.DressKnown': WHATEVER THE INPUT: true; the input reads as it did. -/
def dressKnownSpec : ChangeSpec := { name := "dressKnown", fn := fun _ => fun
  | [] => { results := [.lit (.bool true)], args := [] }
  | _ => none }
def dressKnownRow : OpenClaim := { program := "ytdkflofgolehkaa", sum := "6991201b98a7b9317ff6f893e82a719560a2e77bca1f75ae97b090970bad7412", func := "ceroplast/ceroplastlaw09.DressKnown", spec := "dressKnown", unfollowed := true, recurses := true, plainKeys := false, apart := false }
def DressKnownSaid : Prop := dressKnownRow.holds Try.pinned (OpenSpec.ofChange dressKnownSpec)

/-- ITS FALSE NEIGHBOUR: 'it returns false'. Refute it at one input. -/
def dressKnownWrong : ChangeSpec := { name := "dressKnown", fn := fun _ => fun
  | [] => { results := [.lit (.bool false)], args := [] }
  | _ => none }
def DressKnownWrongFalsely : Prop := dressKnownRow.holds Try.pinned (OpenSpec.ofChange dressKnownWrong)

/-- 'ceroplastlaw09.DressLeast': WHATEVER THE INPUT: true; the input reads as it did. -/
def dressLeastSpec : ChangeSpec := { name := "dressLeast", fn := fun _ => fun
  | [d1, d2] => { results := [.lit (.bool true)], args := [d1, d2] }
  | _ => none }
def dressLeastRow : OpenClaim := { program := "ytdkflofgolehkaa", sum := "6991201b98a7b9317ff6f893e82a719560a2e77bca1f75ae97b090970bad7412", func := "ceroplast/ceroplastlaw09.DressLeast", spec := "dressLeast", unfollowed := true, recurses := true, plainKeys := false, apart := false }
def DressLeastSaid : Prop := dressLeastRow.holds Try.pinned (OpenSpec.ofChange dressLeastSpec)

/-- ITS FALSE NEIGHBOUR: 'it returns false'. Refute it at one input. -/
def dressLeastWrong : ChangeSpec := { name := "dressLeast", fn := fun _ => fun
  | [d1, d2] => { results := [.lit (.bool false)], args := [d1, d2] }
  | _ => none }
def DressLeastWrongFalsely : Prop := dressLeastRow.holds Try.pinned (OpenSpec.ofChange dressLeastWrong)

/-- 'ceroplastlaw09.DressWho': WHATEVER THE INPUT: true; the input reads as it did. -/
def dressWhoSpec : ChangeSpec := { name := "dressWho", fn := fun _ => fun
  | [d1, d2, d3] => { results := [.lit (.bool true)], args := [d1, d2, d3] }
  | _ => none }
def dressWhoRow : OpenClaim := { program := "ytdkflofgolehkaa", sum := "6991201b98a7b9317ff6f893e82a719560a2e77bca1f75ae97b090970bad7412", func := "ceroplast/ceroplastlaw09.DressWho", spec := "dressWho", unfollowed := true, recurses := true, plainKeys := false, apart := false }
def DressWhoSaid : Prop := dressWhoRow.holds Try.pinned (OpenSpec.ofChange dressWhoSpec)

/-- ITS FALSE NEIGHBOUR: 'it returns false'. Refute it at one input. -/
def dressWhoWrong : ChangeSpec := { name := "dressWho", fn := fun _ => fun
  | [d1, d2, d3] => { results := [.lit (.bool false)], args := [d1, d2, d3] }
  | _ => none }
def DressWhoWrongFalsely : Prop := dressWhoRow.holds Try.pinned (OpenSpec.ofChange dressWhoWrong)

/-- 'ceroplastlaw09.DressOut': WHATEVER THE INPUT: true; the input reads as it did. -/
def dressOutSpec : ChangeSpec := { name := "dressOut", fn := fun _ => fun
  | [d1, d2] => { results := [.lit (.bool true)], args := [d1, d2] }
  | _ => none }
def dressOutRow : OpenClaim := { program := "ytdkflofgolehkaa", sum := "6991201b98a7b9317ff6f893e82a719560a2e77bca1f75ae97b090970bad7412", func := "ceroplast/ceroplastlaw09.DressOut", spec := "dressOut", unfollowed := true, recurses := true, plainKeys := false, apart := false }
def DressOutSaid : Prop := dressOutRow.holds Try.pinned (OpenSpec.ofChange dressOutSpec)

/-- ITS FALSE NEIGHBOUR: 'it returns false'. Refute it at one input. -/
def dressOutWrong : ChangeSpec := { name := "dressOut", fn := fun _ => fun
  | [d1, d2] => { results := [.lit (.bool false)], args := [d1, d2] }
  | _ => none }
def DressOutWrongFalsely : Prop := dressOutRow.holds Try.pinned (OpenSpec.ofChange dressOutWrong)

/-- 'ceroplastlaw09.DressBought': WHATEVER THE INPUT: true; the input reads as it did. -/
def dressBoughtSpec : ChangeSpec := { name := "dressBought", fn := fun _ => fun
  | [d1, d2] => { results := [.lit (.bool true)], args := [d1, d2] }
  | _ => none }
def dressBoughtRow : OpenClaim := { program := "ytdkflofgolehkaa", sum := "6991201b98a7b9317ff6f893e82a719560a2e77bca1f75ae97b090970bad7412", func := "ceroplast/ceroplastlaw09.DressBought", spec := "dressBought", unfollowed := true, recurses := true, plainKeys := false, apart := false }
def DressBoughtSaid : Prop := dressBoughtRow.holds Try.pinned (OpenSpec.ofChange dressBoughtSpec)

/-- ITS FALSE NEIGHBOUR: 'it returns false'. Refute it at one input. -/
def dressBoughtWrong : ChangeSpec := { name := "dressBought", fn := fun _ => fun
  | [d1, d2] => { results := [.lit (.bool false)], args := [d1, d2] }
  | _ => none }
def DressBoughtWrongFalsely : Prop := dressBoughtRow.holds Try.pinned (OpenSpec.ofChange dressBoughtWrong)

/-- 'ceroplastlaw09.DressHair': WHATEVER THE INPUT: true; the input reads as it did. -/
def dressHairSpec : ChangeSpec := { name := "dressHair", fn := fun _ => fun
  | [d1, d2] => { results := [.lit (.bool true)], args := [d1, d2] }
  | _ => none }
def dressHairRow : OpenClaim := { program := "ytdkflofgolehkaa", sum := "6991201b98a7b9317ff6f893e82a719560a2e77bca1f75ae97b090970bad7412", func := "ceroplast/ceroplastlaw09.DressHair", spec := "dressHair", unfollowed := true, recurses := true, plainKeys := false, apart := false }
def DressHairSaid : Prop := dressHairRow.holds Try.pinned (OpenSpec.ofChange dressHairSpec)

/-- ITS FALSE NEIGHBOUR: 'it returns false'. Refute it at one input. -/
def dressHairWrong : ChangeSpec := { name := "dressHair", fn := fun _ => fun
  | [d1, d2] => { results := [.lit (.bool false)], args := [d1, d2] }
  | _ => none }
def DressHairWrongFalsely : Prop := dressHairRow.holds Try.pinned (OpenSpec.ofChange dressHairWrong)

/-- 'ceroplastlaw09.DressMore': WHATEVER THE INPUT: true; the input reads as it did. -/
def dressMoreSpec : ChangeSpec := { name := "dressMore", fn := fun _ => fun
  | [d1, d2] => { results := [.lit (.bool true)], args := [d1, d2] }
  | _ => none }
def dressMoreRow : OpenClaim := { program := "ytdkflofgolehkaa", sum := "6991201b98a7b9317ff6f893e82a719560a2e77bca1f75ae97b090970bad7412", func := "ceroplast/ceroplastlaw09.DressMore", spec := "dressMore", unfollowed := true, recurses := true, plainKeys := false, apart := false }
def DressMoreSaid : Prop := dressMoreRow.holds Try.pinned (OpenSpec.ofChange dressMoreSpec)

/-- ITS FALSE NEIGHBOUR: 'it returns false'. Refute it at one input. -/
def dressMoreWrong : ChangeSpec := { name := "dressMore", fn := fun _ => fun
  | [d1, d2] => { results := [.lit (.bool false)], args := [d1, d2] }
  | _ => none }
def DressMoreWrongFalsely : Prop := dressMoreRow.holds Try.pinned (OpenSpec.ofChange dressMoreWrong)

/-- 'ceroplastlaw09.DressAs': WHATEVER THE INPUT: true; the input reads as it did. -/
def dressAsSpec : ChangeSpec := { name := "dressAs", fn := fun _ => fun
  | [d1, d2] => { results := [.lit (.bool true)], args := [d1, d2] }
  | _ => none }
def dressAsRow : OpenClaim := { program := "ytdkflofgolehkaa", sum := "6991201b98a7b9317ff6f893e82a719560a2e77bca1f75ae97b090970bad7412", func := "ceroplast/ceroplastlaw09.DressAs", spec := "dressAs", unfollowed := true, recurses := true, plainKeys := false, apart := false }
def DressAsSaid : Prop := dressAsRow.holds Try.pinned (OpenSpec.ofChange dressAsSpec)

/-- ITS FALSE NEIGHBOUR: 'it returns false'. Refute it at one input. -/
def dressAsWrong : ChangeSpec := { name := "dressAs", fn := fun _ => fun
  | [d1, d2] => { results := [.lit (.bool false)], args := [d1, d2] }
  | _ => none }
def DressAsWrongFalsely : Prop := dressAsRow.holds Try.pinned (OpenSpec.ofChange dressAsWrong)

/-- 'ceroplastlaw09.DressOrder': WHATEVER THE INPUT: true; the input reads as it did. -/
def dressOrderSpec : ChangeSpec := { name := "dressOrder", fn := fun _ => fun
  | [d] => { results := [.lit (.bool true)], args := [d] }
  | _ => none }
def dressOrderRow : OpenClaim := { program := "ytdkflofgolehkaa", sum := "6991201b98a7b9317ff6f893e82a719560a2e77bca1f75ae97b090970bad7412", func := "ceroplast/ceroplastlaw09.DressOrder", spec := "dressOrder", unfollowed := true, recurses := true, plainKeys := false, apart := false }
def DressOrderSaid : Prop := dressOrderRow.holds Try.pinned (OpenSpec.ofChange dressOrderSpec)

/-- ITS FALSE NEIGHBOUR: 'it returns false'. Refute it at one input. -/
def dressOrderWrong : ChangeSpec := { name := "dressOrder", fn := fun _ => fun
  | [d] => { results := [.lit (.bool false)], args := [d] }
  | _ => none }
def DressOrderWrongFalsely : Prop := dressOrderRow.holds Try.pinned (OpenSpec.ofChange dressOrderWrong)

/- THE SECOND FORM. 'bulk': how many values and letters a reading holds, each counted each time it is reached (what is shared counts as often as it is met; a slice's spare places count too). A statement '..UptoSaid' is the law's where the arguments, and the package variables that the reading takes, are together of bulk at most 1048576: NARROWER than '..Said'. Prove '..Said' where nothing that the law and all that it calls make is longer than what came in: it says more and counts as full. Else prove '..UptoSaid'. A law counts once. -/
mutual
def uptoBulk {H : Type} : DataW H → Nat
  | .lit (.string bytes) => bytes.length + 1
  | .lit _ => 1
  | .nil => 1
  | .ptr d => uptoBulk d + 1
  | .slice elems spare => uptoBulkAll elems + uptoBulkAll spare + 1
  | .agg parts => uptoBulkAll parts + 1
  | .iface _ d => uptoBulk d + 1
  | .map entries => uptoBulkEntries entries + 1
  | .held _ => 1
def uptoBulkAll {H : Type} : List (DataW H) → Nat
  | [] => 0
  | d :: r => uptoBulk d + uptoBulkAll r
def uptoBulkEntries {H : Type} : List (Lit × DataW H) → Nat
  | [] => 0
  | x :: r => uptoBulkEntry x + uptoBulkEntries r
def uptoBulkEntry {H : Type} : Lit × DataW H → Nat
  | (.string bytes, d) => bytes.length + uptoBulk d + 1
  | (_, d) => uptoBulk d + 1
 end
def uptoSmall : (H : Type) → List (DataW H) → Bool := fun _ ds => decide (uptoBulkAll ds ≤ 1048576)
def OpenSpec.upto (s : _root_.Go.ChangeSpec) : _root_.Go.OpenSpec := { _root_.Go.OpenSpec.ofChange s with cond := some uptoSmall }

/-- 'ceroplastlaw09.DressCosts', WHERE WHAT IT READS IS OF BULK AT MOST 1048576: true; the input reads as it did. -/
def dressCostsUptoRow : OpenClaim := { program := "ytdkflofgolehkaa", sum := "6991201b98a7b9317ff6f893e82a719560a2e77bca1f75ae97b090970bad7412", func := "ceroplast/ceroplastlaw09.DressCosts", spec := "dressCosts", unfollowed := true, recurses := true, plainKeys := false, apart := false, narrowed := true }
def DressCostsUptoSaid : Prop := dressCostsUptoRow.holds Try.pinned (OpenSpec.upto dressCostsSpec)

/-- 'ceroplastlaw09.DressPlans', WHERE WHAT IT READS IS OF BULK AT MOST 1048576: true; the input reads as it did. -/
def dressPlansUptoRow : OpenClaim := { program := "ytdkflofgolehkaa", sum := "6991201b98a7b9317ff6f893e82a719560a2e77bca1f75ae97b090970bad7412", func := "ceroplast/ceroplastlaw09.DressPlans", spec := "dressPlans", unfollowed := true, recurses := true, plainKeys := false, apart := false, narrowed := true }
def DressPlansUptoSaid : Prop := dressPlansUptoRow.holds Try.pinned (OpenSpec.upto dressPlansSpec)

/-- 'ceroplastlaw09.DressBests', WHERE WHAT IT READS IS OF BULK AT MOST 1048576: true; the input reads as it did. -/
def dressBestsUptoRow : OpenClaim := { program := "ytdkflofgolehkaa", sum := "6991201b98a7b9317ff6f893e82a719560a2e77bca1f75ae97b090970bad7412", func := "ceroplast/ceroplastlaw09.DressBests", spec := "dressBests", unfollowed := true, recurses := true, plainKeys := false, apart := false, narrowed := true }
def DressBestsUptoSaid : Prop := dressBestsUptoRow.holds Try.pinned (OpenSpec.upto dressBestsSpec)

/-- 'ceroplastlaw09.DressOuts', WHERE WHAT IT READS IS OF BULK AT MOST 1048576: true; the input reads as it did. -/
def dressOutsUptoRow : OpenClaim := { program := "ytdkflofgolehkaa", sum := "6991201b98a7b9317ff6f893e82a719560a2e77bca1f75ae97b090970bad7412", func := "ceroplast/ceroplastlaw09.DressOuts", spec := "dressOuts", unfollowed := true, recurses := true, plainKeys := false, apart := false, narrowed := true }
def DressOutsUptoSaid : Prop := dressOutsUptoRow.holds Try.pinned (OpenSpec.upto dressOutsSpec)

/-- 'ceroplastlaw09.DressKnown', WHERE WHAT IT READS IS OF BULK AT MOST 1048576: true; the input reads as it did. -/
def dressKnownUptoRow : OpenClaim := { program := "ytdkflofgolehkaa", sum := "6991201b98a7b9317ff6f893e82a719560a2e77bca1f75ae97b090970bad7412", func := "ceroplast/ceroplastlaw09.DressKnown", spec := "dressKnown", unfollowed := true, recurses := true, plainKeys := false, apart := false, narrowed := true }
def DressKnownUptoSaid : Prop := dressKnownUptoRow.holds Try.pinned (OpenSpec.upto dressKnownSpec)

/-- 'ceroplastlaw09.DressLeast', WHERE WHAT IT READS IS OF BULK AT MOST 1048576: true; the input reads as it did. -/
def dressLeastUptoRow : OpenClaim := { program := "ytdkflofgolehkaa", sum := "6991201b98a7b9317ff6f893e82a719560a2e77bca1f75ae97b090970bad7412", func := "ceroplast/ceroplastlaw09.DressLeast", spec := "dressLeast", unfollowed := true, recurses := true, plainKeys := false, apart := false, narrowed := true }
def DressLeastUptoSaid : Prop := dressLeastUptoRow.holds Try.pinned (OpenSpec.upto dressLeastSpec)

/-- 'ceroplastlaw09.DressWho', WHERE WHAT IT READS IS OF BULK AT MOST 1048576: true; the input reads as it did. -/
def dressWhoUptoRow : OpenClaim := { program := "ytdkflofgolehkaa", sum := "6991201b98a7b9317ff6f893e82a719560a2e77bca1f75ae97b090970bad7412", func := "ceroplast/ceroplastlaw09.DressWho", spec := "dressWho", unfollowed := true, recurses := true, plainKeys := false, apart := false, narrowed := true }
def DressWhoUptoSaid : Prop := dressWhoUptoRow.holds Try.pinned (OpenSpec.upto dressWhoSpec)

/-- 'ceroplastlaw09.DressOut', WHERE WHAT IT READS IS OF BULK AT MOST 1048576: true; the input reads as it did. -/
def dressOutUptoRow : OpenClaim := { program := "ytdkflofgolehkaa", sum := "6991201b98a7b9317ff6f893e82a719560a2e77bca1f75ae97b090970bad7412", func := "ceroplast/ceroplastlaw09.DressOut", spec := "dressOut", unfollowed := true, recurses := true, plainKeys := false, apart := false, narrowed := true }
def DressOutUptoSaid : Prop := dressOutUptoRow.holds Try.pinned (OpenSpec.upto dressOutSpec)

/-- 'ceroplastlaw09.DressBought', WHERE WHAT IT READS IS OF BULK AT MOST 1048576: true; the input reads as it did. -/
def dressBoughtUptoRow : OpenClaim := { program := "ytdkflofgolehkaa", sum := "6991201b98a7b9317ff6f893e82a719560a2e77bca1f75ae97b090970bad7412", func := "ceroplast/ceroplastlaw09.DressBought", spec := "dressBought", unfollowed := true, recurses := true, plainKeys := false, apart := false, narrowed := true }
def DressBoughtUptoSaid : Prop := dressBoughtUptoRow.holds Try.pinned (OpenSpec.upto dressBoughtSpec)

/-- 'ceroplastlaw09.DressHair', WHERE WHAT IT READS IS OF BULK AT MOST 1048576: true; the input reads as it did. -/
def dressHairUptoRow : OpenClaim := { program := "ytdkflofgolehkaa", sum := "6991201b98a7b9317ff6f893e82a719560a2e77bca1f75ae97b090970bad7412", func := "ceroplast/ceroplastlaw09.DressHair", spec := "dressHair", unfollowed := true, recurses := true, plainKeys := false, apart := false, narrowed := true }
def DressHairUptoSaid : Prop := dressHairUptoRow.holds Try.pinned (OpenSpec.upto dressHairSpec)

/-- 'ceroplastlaw09.DressMore', WHERE WHAT IT READS IS OF BULK AT MOST 1048576: true; the input reads as it did. -/
def dressMoreUptoRow : OpenClaim := { program := "ytdkflofgolehkaa", sum := "6991201b98a7b9317ff6f893e82a719560a2e77bca1f75ae97b090970bad7412", func := "ceroplast/ceroplastlaw09.DressMore", spec := "dressMore", unfollowed := true, recurses := true, plainKeys := false, apart := false, narrowed := true }
def DressMoreUptoSaid : Prop := dressMoreUptoRow.holds Try.pinned (OpenSpec.upto dressMoreSpec)

/-- 'ceroplastlaw09.DressAs', WHERE WHAT IT READS IS OF BULK AT MOST 1048576: true; the input reads as it did. -/
def dressAsUptoRow : OpenClaim := { program := "ytdkflofgolehkaa", sum := "6991201b98a7b9317ff6f893e82a719560a2e77bca1f75ae97b090970bad7412", func := "ceroplast/ceroplastlaw09.DressAs", spec := "dressAs", unfollowed := true, recurses := true, plainKeys := false, apart := false, narrowed := true }
def DressAsUptoSaid : Prop := dressAsUptoRow.holds Try.pinned (OpenSpec.upto dressAsSpec)

/-- 'ceroplastlaw09.DressOrder', WHERE WHAT IT READS IS OF BULK AT MOST 1048576: true; the input reads as it did. -/
def dressOrderUptoRow : OpenClaim := { program := "ytdkflofgolehkaa", sum := "6991201b98a7b9317ff6f893e82a719560a2e77bca1f75ae97b090970bad7412", func := "ceroplast/ceroplastlaw09.DressOrder", spec := "dressOrder", unfollowed := true, recurses := true, plainKeys := false, apart := false, narrowed := true }
def DressOrderUptoSaid : Prop := dressOrderUptoRow.holds Try.pinned (OpenSpec.upto dressOrderSpec)

end Rows
end Go.Proofs.Ytdkflofgolehkaa
