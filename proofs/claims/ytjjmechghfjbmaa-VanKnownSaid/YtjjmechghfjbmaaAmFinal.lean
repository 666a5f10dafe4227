/- From a run of the abstract machine to the program's call. -/
import Derived.Test.YtjjmechghfjbmaaAmCall
import Derived.Test.YtjjmechghfjbmaaAmRules
import Derived.Below
set_option linter.unusedVariables false
set_option linter.unusedSimpArgs false
set_option linter.unnecessarySimpa false
namespace Am
open Go Go.RowKit

theorem law_calls {P : Program} (hmix : P.follows .mixedOrders = true) {T : Tab} (hT : TabOk P T) {i : Nat} {args : List AV} {H' : AHeap} (h : CallR T ⟨0, []⟩ [] (.fn (.func i) [] []) args [.b true] H') (W : World) {vs : Array Value} (hl : vs.size = args.length)
    (hV : ∀ (j : Nat) x, args[j]? = some x → Den (fun β o => W.cell? ⟨β, o, none⟩) x (vs[j]?.getD undef)) : Calls P i vs W fun e W' => e = .returned (.bool true) ∧ Below W.heap.size W W' := by
  obtain ⟨n, h⟩ := h
  cases n with
  | zero => simp [mach] at h
  | succ m =>
    rw [mach_call] at h
    let g0 : Ghost := ⟨fun _ => .none, fun β o => W.cell? ⟨β, o, none⟩⟩
    have hR : Rel (MCof P) P W.heap.size [] g0 W := ⟨fun _ _ _ h => h, fun i β h => by simp [g0, GB.blk] at h, fun i j β h => by simp [g0, GB.blk] at h, fun i o h => by simp at h, fun _ _ => rfl, Nat.le_refl _⟩
    have hS : ScOk ⟨0, []⟩ ([] : AHeap) := ⟨by simp, by simp, fun B _ i _ o h => by simp at h⟩
    obtain ⟨_, hgo⟩ := fun_sound hT (mach_sound hmix hT m).1 h hR hS (by simpa using hl) (fun j x hj => .den _ _ (hV j x (by simpa using hj)))
    intro cs
    obtain ⟨us, w', g', fs, fr, h1, h2, h3, h4, h5, h6, h7, h8, h9⟩ := hgo cs
    have hus : us = [.bool true] := by
      cases h4 with
      | cons _ u f _ us fs h k =>
        cases k
        cases h with
        | one _ _ _ _ h =>
          cases h with
          | val _ _ h => have := V_lit h; subst this; rfl
    subst hus
    refine ⟨.returned (.bool true), w', fr, ⟨rfl, ?_⟩, h1, h2, h3⟩
    exact ⟨h7.os, h7.tape, h7.output, h7.size, fun k hk => (h7.frame k hk (fun i o hi => by simp at hi)).1⟩
end Am
