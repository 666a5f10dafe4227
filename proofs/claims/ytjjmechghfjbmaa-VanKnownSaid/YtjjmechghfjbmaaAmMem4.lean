/- Variables that are made; stores. -/
import Derived.Test.YtjjmechghfjbmaaAmMem3
set_option linter.unusedVariables false
set_option linter.unusedSimpArgs false
set_option linter.unnecessarySimpa false
namespace Am
open Go
section
variable {MC : Nat → Code → ACode → Prop} {P : Program} {B0 : Nat} {c : Sc} {n0 : Nat} {H H' : AHeap} {g : Ghost} {w : World} {s : Slots} {a : Act} {o : Oper} {v : AV}

theorem setOwns_sound : ∀ (owns : List (Nat × Nat × Nat)) {zs zs' : List AV} {H H' : AHeap} {g : Ghost} {vs : Array Value}, setOwns n0 owns zs H = (zs', H') → Rel MC P B0 H g w →
    Free H g n0 (owns.map fun x => x.2.1) → (owns.map fun x => x.2.1).Nodup → (∀ x ∈ owns, 0 < x.2.2 ∧ vs[x.1]? = some (.slice none 0 0)) → CellsV g zs vs →
    ∃ g', Rel MC P B0 H' g' w ∧ Ext H g w H' g' w ∧ H'.length = H.length ∧ CellsV g' zs' vs ∧ (∀ i, i ∉ owns.map (fun x => n0 + x.2.1) → g.L i = .none → g'.L i = .none)
  | [], zs, zs', H, H', g, vs, h, hR, _, _, _, hC => by
    simp [setOwns] at h; obtain ⟨rfl, rfl⟩ := h
    exact ⟨g, hR, Ext.refl _ _ _, rfl, hC, fun i _ h => h⟩
  | (j, r, k) :: owns, zs, zs', H, H', g, vs, h, hR, hF, hnd, hx, hC => by
    simp only [setOwns] at h
    obtain ⟨hi, hn⟩ := hF r (by simp)
    obtain ⟨hk, hj⟩ := hx _ (by simp : (j, r, k) ∈ (j, r, k) :: owns)
    simp only at hk hj
    have hb := hR.bare hi hn (o' := .arr k false []) (gb' := .arr k (.slice none 0 0)) rfl ⟨rfl, hk, by simp, .inl ⟨rfl, rfl⟩⟩
    simp only [List.map_cons, List.nodup_cons] at hnd
    have hC' : CellsV ⟨updL g.L (n0 + r) (.arr k (.slice none 0 0)), g.Φ⟩ (zs.set j (.asl (n0 + r) 0)) vs := by
      refine ⟨by rw [hC.1]; simp, fun i x hi => ?_⟩
      rw [List.getElem?_set] at hi
      by_cases e : j = i
      · subst e
        rw [if_pos rfl] at hi
        split at hi
        · cases hi
          exact ⟨_, hj, .asl _ _ k (.slice none 0 0) _ (by simp [updL]) (by simp [slen]) rfl (fun _ => rfl), rfl⟩
        · cases hi
      · rw [if_neg e] at hi
        obtain ⟨u, e1, e2, e3⟩ := hC.2 i x hi
        exact ⟨u, e1, e2.mono hb.2.le, e3⟩
    obtain ⟨g', q1, q2, q3, q4, q5⟩ := setOwns_sound owns h hb.1 (fun r' hr' => by
        obtain ⟨y, hy, rfl⟩ := List.mem_map.1 hr'
        obtain ⟨f1, f2⟩ := hF y.2.1 (by simp; exact .inr ⟨_, _, hy⟩)
        refine ⟨by simpa [hset] using f1, ?_⟩
        have : y.2.1 ≠ r := fun e => hnd.1 (by rw [← e]; exact hr')
        exact (updL_other (by omega)).trans f2) hnd.2 (fun x hx' => hx x (by simp [hx'])) hC'
    refine ⟨g', q1, hb.2.trans q2, by rw [q3]; simp [hset], q4, fun i hi hni => ?_⟩
    simp only [List.map_cons, List.mem_cons, not_or] at hi
    refine q5 i hi.2 ?_
    exact (updL_other hi.1).trans hni

theorem m_alloc {zs : List AV} {owns : List (Nat × Nat × Nat)} {r : Nat} (hm : matchOp P o.op (.alloc zs owns r) = true) (hR : Rel MC P B0 H g w) (hF : Free H g n0 (ranksOf (.alloc zs owns r))) (hnd : (ranksOf (.alloc zs owns r)).Nodup)
    (h : prim c n0 s H (.alloc zs owns r) = some (v, H')) : Does MC P B0 a o ((ranksOf (.alloc zs owns r)).map (n0 + ·)) H g w v H' := by
  simp only [matchOp] at hm
  split at hm
  · next e hop =>
    simp only [Bool.and_eq_true] at hm
    obtain ⟨⟨h1, h2⟩, h3⟩ := hm
    obtain ⟨i, zv, hi, hz, hC, hk⟩ := zeroIs_spec h1 g
    simp only [prim] at h
    cases hso : setOwns n0 owns zs H with
    | mk zs' H1 =>
      simp only [hso] at h
      simp at h; obtain ⟨rfl, rfl⟩ := h
      simp only [ranksOf, List.nodup_cons] at hnd
      obtain ⟨g1, q1, q2, q3, q4, q5⟩ := setOwns_sound (MC := MC) (P := P) (B0 := B0) owns hso hR (fun r' hr' => hF r' (by simp only [ranksOf, List.mem_cons]; exact .inr hr')) hnd.2 (fun x hx => by
        have := List.all_eq_true.1 h2 x hx
        simp only [Bool.and_eq_true] at this
        refine ⟨by simpa using this.1, ?_⟩
        have t2 := this.2
        split at t2
        · next kk hzz =>
          obtain ⟨u, e1, e2, _⟩ := hC.2 _ _ hzz
          cases e2 with
          | den _ _ hd => cases hd; exact e1
        · cases t2) hC
      obtain ⟨hi0, hn0⟩ := hF r (by simp [ranksOf])
      have hn1 : g1.L (n0 + r) = .none := q5 _ (by
        intro hmem
        obtain ⟨y, hy, e⟩ := List.mem_map.1 hmem
        exact hnd.1 (List.mem_map.2 ⟨y, hy, by omega⟩)) hn0
      have hle : g1.le ⟨updL g1.L (n0 + r) (.cells w.heap.size e), g1.Φ⟩ := ⟨fun j => by simp only [updL]; split; (next e => subst e; rw [hn1]; trivial); exact GB.le_refl _, fun _ _ _ h => h⟩
      have hb := q1.alloc (by omega : n0 + r < H1.length) hn1 (.cells zv.cells e) (o' := .cells zs') (gb' := .cells w.heap.size e) rfl
        ⟨_, heap_alloc_new w _, q4.1, fun j x hj => let ⟨u, b1, b2, b3⟩ := q4.2 j x hj; ⟨u, b1, b2.mono hle, b3⟩, fun off => q1.phi_none (Nat.le_refl _)⟩
      refine ⟨_, _, _, .inl ?_, .ptr _ _ w.heap.size e (by simp [updL]), hb.1, q2.trans hb.2, by simp [hset, q3], fun j hj hnj => ?_⟩
      · simp [execOp, hop, Instr.alloc, zeroValue, typeInfo, hi, hz, newVar, newRow]
      · simp only [ranksOf, List.map_cons, List.map_map, List.mem_cons, not_or] at hj
        exact (updL_other hj.1).trans (q5 j (by simpa [Function.comp_def] using hj.2) hnj)
  · cases hm

theorem setRow_other (w : World) (β γ : Nat) (cs : Array Value) (h : γ ≠ β) : (w.setRow β cs).heap[γ]? = w.heap[γ]? := by
  simp only [World.setRow, Array.getElem?_modify]
  rw [if_neg (by omega)]

theorem cell_setRow_other (w : World) (β γ off : Nat) (cs : Array Value) (h : γ ≠ β) : (w.setRow β cs).cell? ⟨γ, off, none⟩ = w.cell? ⟨γ, off, none⟩ :=
  World.cell?_of_block (setRow_other w β γ cs h)

/-- A block of cells turns. -/
theorem Rel.write (hR : Rel MC P B0 H g w) {b : Nat} (hb : ∃ ob, H[b]? = some ob ∧ ob.isW = true) {β : Nat} (hL : (g.L b).blk = some β) {cur : Array Value} {e : TypeId} (hg : w.heap[β]? = some (.cells cur e (0, 0)))
    (new : Array Value) {o' : AO} {gb' : GB} (hle : (g.L b).le gb') (hbl : gb'.blk = some β) (hΦ : ∀ off, (g.Φ β off).isSome → new[off]? = g.Φ β off)
    {Φ' : Nat → Nat → Option Value} (hΦ1 : ∀ γ off, γ ≠ β → Φ' γ off = g.Φ γ off) (hΦ2 : ∀ off u, g.Φ β off = some u → Φ' β off = some u) (hΦ3 : ∀ off u, Φ' β off = some u → new[off]? = some u)
    (hbox : BoxOk MC P ⟨updL g.L b gb', Φ'⟩ (w.setRow β new) o'.rd gb') :
    Rel MC P B0 (H.set b o') ⟨updL g.L b gb', Φ'⟩ (w.setRow β new) ∧ Ext H g w (H.set b o') ⟨updL g.L b gb', Φ'⟩ (w.setRow β new) := by
  obtain ⟨ob, hob, hw⟩ := hb
  have hi := (List.getElem?_eq_some_iff.1 hob).1
  refine hR.upd hi (.inl ⟨ob, hob, hw⟩) rfl rfl rfl (by simp [World.setRow]) (fun γ hγ hne => setRow_other _ _ _ _ (fun e => hne (by rw [hL, e]))) hle (fun γ hγ => ?_) (fun γ off u h => ?_) (fun γ hγ hne off => hΦ1 _ _ (fun e => hne (by rw [hL, e]))) (fun γ off u h => ?_) hbox
  · rw [hbl] at hγ; cases hγ
    refine ⟨.inl hL, ?_⟩
    have := (hR.base b β hL).2
    simpa [World.setRow] using this
  · by_cases e : γ = β
    · subst e; exact hΦ2 off u h
    · rw [hΦ1 _ _ e]; exact h
  · by_cases e1 : γ = β
    · subst e1
      have := setRow_heap w γ cur new e (0, 0) hg
      simp [World.cell?, this]
      exact hΦ3 off u h
    · rw [cell_setRow_other _ _ _ _ _ e1]
      rw [hΦ1 _ _ e1] at h
      exact hR.phi γ off u h

theorem Rel.write_cells (hR : Rel MC P B0 H g w) {b β : Nat} {e : TypeId} {cs : List AV} (hc : hcellsW H b = some cs) (hL : g.L b = .cells β e) {cs' : List AV} {new : Array Value} (hV : CellsV g cs' new) :
    Rel MC P B0 (H.set b (.cells cs')) g (w.setRow β new) ∧ Ext H g w (H.set b (.cells cs')) g (w.setRow β new) := by
  have hb := hcellsW_get hc
  have hbox := hR.box b _ hb
  rw [hL] at hbox
  obtain ⟨cur, h1, h2, h3, h4⟩ := hbox
  have e1 : updL g.L b (g.L b) = g.L := by funext j; simp only [updL]; split; (next e => rw [e]); rfl
  have := hR.write (b := b) ⟨_, hb, rfl⟩ (by rw [hL]; rfl) h1 new (o' := .cells cs') (gb' := g.L b) (GB.le_refl _) (by rw [hL]; rfl) (fun off hs => by rw [h4 off] at hs; cases hs)
    (Φ' := g.Φ) (fun _ _ _ => rfl) (fun _ _ h => h) (fun off u h => by rw [h4 off] at h; cases h) (by
      rw [hL]
      refine ⟨new, setRow_heap w β cur new e (0, 0) h1, hV.1, fun j x hj => ?_, h4⟩
      obtain ⟨u, a1, a2, a3⟩ := hV.2 j x hj
      refine ⟨u, a1, ?_, a3⟩
      rw [← hL, e1]; exact a2)
  rw [e1] at this
  exact this

theorem spliceV {cs : List AV} {vs : Array Value} (hC : CellsV g cs vs) {new : List AV} {ns : Array Value} (hN : CellsV g new ns) {off : Nat} (hle : off + new.length ≤ cs.length) :
    CellsV g (splice cs off new) (vs.toList.take off ++ ns.toList ++ vs.toList.drop (off + ns.toList.length)).toArray := by
  obtain ⟨n1, n2⟩ := hN
  refine ⟨by rw [splice_len _ _ _ hle]; simp [hC.1, n1]; omega, fun j x hj => ?_⟩
  rw [splice_get _ _ _ hle] at hj
  have e1 : ((vs.toList.take off ++ ns.toList ++ vs.toList.drop (off + ns.toList.length)).toArray)[j]? = if j < off then vs[j]? else if j < off + new.length then ns[j - off]? else vs[j]? := by
    have hlt : (vs.toList.take off).length = off := by simp [hC.1]; omega
    simp only [List.getElem?_toArray, List.append_assoc]
    rw [List.getElem?_append]
    rw [hlt]
    split
    · next h1 => rw [List.getElem?_take_of_lt h1]; simp
    · next h1 =>
      rw [List.getElem?_append]
      simp only [Array.length_toList, n1]
      split
      · next h2 => rw [if_pos (by omega)]; simp
      · next h2 =>
        rw [if_neg (by omega), List.getElem?_drop]
        simp
        congr 1; omega
  rw [e1]
  split at hj
  · next h1 => rw [if_pos h1]; exact hC.2 j x hj
  · next h1 =>
    rw [if_neg h1]
    split at hj
    · next h2 => rw [if_pos h2]; exact n2 _ x hj
    · next h2 => rw [if_neg h2]; exact hC.2 j x hj

theorem run_storeVar {t : TypeId} {k : Nat} (hkn : known P t = true) (hk : P.cellsOf t = k) {β off : Nat} {cur : Array Value} {e : TypeId} (hg : w.heap[β]? = some (.cells cur e (0, 0))) {u : Value} (hu : u.cells.size = k)
    (h1 : ∀ x ∈ u.cells.toList, x.oneCell' = true) (hfit : off + k ≤ cur.size) :
    (storeVar t ⟨β, off, none⟩ u).run P w = .ok () (w.setRow β (cur.toList.take off ++ u.cells.toList ++ cur.toList.drop (off + u.cells.toList.length)).toArray) := by
  have hst := run_storeCells_at P β off e u.cells.toList 0 cur w hg (by simp [hu]; omega) h1
  simp only [Nat.add_zero] at hst
  simp only [storeVar, Sem.run_bind, run_sizeOf (known_info hkn), Result.andThen_ok, hk]
  have hne : ¬ (u.cells.size ≠ k) := by omega
  simp [hne, hst]
end
end Am
