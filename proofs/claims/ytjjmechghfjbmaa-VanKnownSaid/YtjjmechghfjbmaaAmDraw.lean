/- Orders that are drawn: all come to the same. -/
import Derived.Test.YtjjmechghfjbmaaAmMatchCode
import Derived.Orders
set_option linter.unusedVariables false
set_option linter.unusedSimpArgs false
set_option linter.unnecessarySimpa false
namespace Am
open Go

/-! ### what an operation looks at -/
section
variable {s s' : Slots}

theorem ev_congr (x : Opd) (h : ∀ t ∈ opdSlots x, sget s t = sget s' t) : ev s x = ev s' x := by
  cases x <;> simp [ev]
  exact h _ (by simp [opdSlots])
theorem evs_congr : ∀ (l : List Opd) (_ : ∀ t ∈ l.flatMap opdSlots, sget s t = sget s' t), evs s l = evs s' l
  | [], _ => rfl
  | x :: l, h => by
    simp only [evs, ev_congr x (fun t ht => h t (by simp [ht])), evs_congr l (fun t ht => h t (by simp at ht ⊢; exact .inr ht))]
theorem evParts_congr : ∀ (l : List (Nat × Nat × Opd)) (_ : ∀ t ∈ l.flatMap fun q => opdSlots q.2.2, sget s t = sget s' t), evParts s l = evParts s' l
  | [], _ => rfl
  | x :: l, h => by
    obtain ⟨i, n, x⟩ := x
    simp only [evParts, ev_congr x (fun t ht => h t (by simp [ht])), evParts_congr l (fun t ht => h t (by simp at ht ⊢; exact .inr ht))]
theorem evPartsR_congr : ∀ (l : List (Nat × Opd)) (_ : ∀ t ∈ l.flatMap fun q => opdSlots q.2, sget s t = sget s' t), evPartsR s l = evPartsR s' l
  | [], _ => rfl
  | x :: l, h => by
    obtain ⟨i, x⟩ := x
    simp only [evPartsR, ev_congr x (fun t ht => h t (by simp [ht])), evPartsR_congr l (fun t ht => h t (by simp at ht ⊢; exact .inr ht))]
theorem bnd_congr (d : Int) (x : Option Opd) (h : ∀ t ∈ optSlots x, sget s t = sget s' t) : bnd s d x = bnd s' d x := by
  cases x with
  | none => rfl
  | some x => simp only [bnd, evInt, ev_congr x h]

theorem prim_congr {c : Sc} {n0 : Nat} {H : AHeap} {op : AOp} (h : ∀ t ∈ slotsOf op, sget s t = sget s' t) : prim c n0 s H op = prim c n0 s' H op := by
  cases op with
  | load k x => cases k <;> simp only [prim, ev_congr x h]
  | build z ps => simp only [prim, evParts_congr ps h]
  | lits k z n ps own => simp only [prim, evPartsR_congr ps h]
  | xlits k z n ps => simp only [prim, evPartsR_congr ps h]
  | mkfn f x y =>
    simp only [slotsOf, List.mem_append] at h
    simp only [prim, evs_congr x (fun t ht => h t (.inl ht)), evs_congr y (fun t ht => h t (.inr ht))]
  | mm mx xs => simp only [prim, evs_congr xs h]
  | pick x y z | mupd _ _ x y z =>
    simp only [slotsOf, List.mem_append] at h
    simp only [prim, ev_congr x (fun t ht => h t (.inl (.inl ht))), ev_congr y (fun t ht => h t (.inl (.inr ht))), ev_congr z (fun t ht => h t (.inr ht))]
  | store _ x y | bin _ x y | beq _ x y | cmp _ _ x y | idxS _ x y | idxA _ _ x y | idxStr x y | idxAgg _ _ _ x y | lookup _ _ _ x y _ | append _ _ x y _ _ | copy _ x y | mkslice _ _ _ x y _ =>
    simp only [slotsOf, List.mem_append] at h
    simp only [prim, ev_congr x (fun t ht => h t (.inl ht)), ev_congr y (fun t ht => h t (.inr ht))]
  | sliceS x l r | sliceL _ x l r | sliceQ _ x l r =>
    simp only [slotsOf, List.mem_append] at h
    have e1 : ∀ d, bnd s d l = bnd s' d l := fun d => bnd_congr d l (fun t ht => h t (.inl (.inr ht)))
    have e2 : ∀ d, bnd s d r = bnd s' d r := fun d => bnd_congr d r (fun t ht => h t (.inr ht))
    simp only [prim, ev_congr x (fun t ht => h t (.inl (.inl ht))), e1, e2]
  | cut _ x r _ =>
    simp only [slotsOf, List.mem_append] at h
    have e2 : ∀ d, bnd s d r = bnd s' d r := fun d => bnd_congr d r (fun t ht => h t (.inr ht))
    simp only [prim, ev_congr x (fun t ht => h t (.inl ht)), e2]
  | nil | alloc | mkmap | call => rfl
  | mv x | box _ x _ | nilck x | un _ x | conv _ x | idc x | sliceA _ _ x | fieldAddr _ x | field _ _ x | range x _ | next x | extract x _ | lenS x | lenL x | lenM x => simp only [prim, ev_congr x h]

theorem core_congr {M : Mach} {c : Sc} {n0 : Nat} {H : AHeap} {op : AOp} (h : ∀ t ∈ slotsOf op, sget s t = sget s' t) : core M c n0 s H op = core M c n0 s' H op := by
  by_cases hc : ∃ f args own pure, op = .call f args own pure
  · obtain ⟨f, args, own, pure, rfl⟩ := hc
    simp only [slotsOf, List.mem_append] at h
    simp only [core, callOp, ev_congr f (fun t ht => h t (.inl ht)), evs_congr args (fun t ht => h t (.inr ht))]
  · have e : ∀ s, core M c n0 s H op = prim c n0 s H op := by
      intro s; cases op <;> first | rfl | exact absurd ⟨_, _, _, _, rfl⟩ hc
    rw [e, e]; exact prim_congr h

theorem ways_congr {H : AHeap} : ∀ (l : List (Nat × List Nat)) (_ : ∀ t ∈ l.map (·.1), sget s t = sget s' t), ways s H l = ways s' H l
  | [], _ => rfl
  | x :: l, h => by
    simp only [ways, h x.1 (by simp), ways_congr l (fun t ht => h t (by simp at ht ⊢; exact .inr ht))]

theorem wanted_congr (x : Option (Nat × Bool)) (h : ∀ t ∈ (match x with | some (t, _) => [t] | none => []), sget s t = sget s' t) : wanted s x = wanted s' x := by
  cases x with
  | none => rfl
  | some x => obtain ⟨t, w⟩ := x; simp only [wanted, h t (by simp)]
end

/-! ### memory, box by box -/
def look : List (Nat × AO) → Nat → Option AO
  | [], _ => none
  | x :: l, i => (look l i).or (if x.1 = i then some x.2 else none)
def setAll : AHeap → List (Nat × AO) → AHeap
  | H, [] => H
  | H, x :: l => setAll (hset H x.1 x.2) l

theorem setAll_get : ∀ (l : List (Nat × AO)) (H : AHeap) (i : Nat), (setAll H l)[i]? = (H[i]?).map fun o => (look l i).getD o
  | [], H, i => by simp [setAll, look]
  | x :: l, H, i => by
    simp only [setAll, setAll_get l, hset, List.getElem?_set, look]
    by_cases e : x.1 = i
    · subst e
      by_cases hl : x.1 < H.length
      · simp [hl]
      · simp [hl]
    · simp [e]
theorem setAll_len : ∀ (l : List (Nat × AO)) (H : AHeap), (setAll H l).length = H.length
  | [], H => rfl
  | x :: l, H => by simp [setAll, setAll_len l, hset]
theorem look_none {l : List (Nat × AO)} {i : Nat} (h : ∀ x ∈ l, x.1 ≠ i) : look l i = none := by
  induction l with
  | nil => rfl
  | cons x l ih => simp [look, ih (fun y hy => h y (by simp [hy])), h x (by simp)]
theorem look_mem {l : List (Nat × AO)} {i : Nat} {o : AO} (h : look l i = some o) : ∃ x ∈ l, x.1 = i := by
  induction l generalizing o with
  | nil => cases h
  | cons x l ih =>
    simp only [look] at h
    cases hl : look l i with
    | some o' => obtain ⟨y, hy, e⟩ := ih hl; exact ⟨y, by simp [hy], e⟩
    | none =>
      rw [hl] at h
      simp only [Option.none_or] at h
      split at h
      · next e => exact ⟨x, by simp, e⟩
      · cases h

theorem hide_len' (H : AHeap) : ∀ l, (hide H l).length = H.length
  | [] => rfl
  | b :: l => by simp [hide, hset, hide_len' H l]
theorem unhide_len' (G H : AHeap) : ∀ l, (unhide G H l).length = H.length
  | [] => rfl
  | b :: l => by
    simp only [unhide]
    split
    · simp [hset, unhide_len' G H l]
    · exact unhide_len' G H l
theorem hide_get' (H : AHeap) (i : Nat) : ∀ l, (hide H l)[i]? = (H[i]?).map fun o => if i ∈ l then AO.dead else o
  | [] => by simp [hide]
  | b :: l => by
    simp only [hide, hset, List.getElem?_set, hide_get' H i l, List.mem_cons, hide_len']
    by_cases e : b = i
    · subst e
      by_cases hb : b < H.length
      · simp [hb]
      · have : H[b]? = none := List.getElem?_eq_none (by omega)
        simp [hb, this]
    · have e' : ¬ i = b := fun h => e h.symm
      simp [e, e']
theorem unhide_get' (G H : AHeap) (i : Nat) : ∀ l, (unhide G H l)[i]? = (H[i]?).map fun o => if i ∈ l then (G[i]?).getD o else o
  | [] => by simp [unhide]
  | b :: l => by
    simp only [unhide]
    split
    · next o ho =>
      have ho' : G[b]? = some o := ho
      simp only [hset, List.getElem?_set, unhide_len', unhide_get' G H i l, List.mem_cons]
      by_cases e : b = i
      · subst e
        by_cases hb : b < H.length
        · simp [hb, ho']
        · have : H[b]? = none := List.getElem?_eq_none (by omega)
          simp [hb, this]
      · have e' : ¬ i = b := fun h => e h.symm
        simp [e, e']
    · next hn =>
      have hn' : G[b]? = none := hn
      rw [unhide_get' G H i l]
      by_cases e : i = b
      · subst e; simp [hn']
      · simp [e]

theorem heap_ext {H K : AHeap} (h : ∀ i : Nat, H[i]? = K[i]?) : H = K := List.ext_getElem? h

theorem hide_setAll {H : AHeap} {S : List (Nat × AO)} {hs : List Nat} (h : ∀ x ∈ S, x.1 ∈ hs) : hide (setAll H S) hs = hide H hs := by
  apply heap_ext; intro i
  rw [hide_get', hide_get', setAll_get, Option.map_map]
  congr 1; funext o
  simp only [Function.comp]
  by_cases hi : i ∈ hs
  · simp [hi]
  · simp [hi, look_none (l := S) (i := i) (fun x hx e => hi (by rw [← e]; exact h x hx))]
theorem unhide_setAll {H H2 : AHeap} {S : List (Nat × AO)} {hs : List Nat} (h : ∀ x ∈ S, x.1 ∈ hs) (hb : ∀ b ∈ hs, b < H.length) : unhide (setAll H S) H2 hs = setAll (unhide H H2 hs) S := by
  apply heap_ext; intro i
  rw [unhide_get', setAll_get, setAll_get, unhide_get', Option.map_map]
  congr 1; funext o
  simp only [Function.comp]
  by_cases hi : i ∈ hs
  · have := List.getElem?_eq_getElem (hb i hi)
    simp [hi, this]
  · simp [hi, look_none (l := S) (i := i) (fun x hx e => hi (by rw [← e]; exact h x hx))]
theorem unhide_hide_setAll {H : AHeap} {S : List (Nat × AO)} {hs : List Nat} (h : ∀ x ∈ S, x.1 ∉ hs) : unhide H (setAll (hide H hs) S) hs = setAll H S := by
  apply heap_ext; intro i
  rw [unhide_get', setAll_get, setAll_get, hide_get', Option.map_map, Option.map_map]
  cases hH : H[i]? with
  | none => simp
  | some o =>
    simp only [Option.map_some, Option.getD_some, Function.comp, Option.some.injEq]
    by_cases hi : i ∈ hs
    · simp [hi, look_none (l := S) (i := i) (fun x hx e => h x hx (by rw [e]; exact hi))]
    · simp [hi]
theorem setAll_comm {H : AHeap} {S T : List (Nat × AO)} (h : ∀ x ∈ S, ∀ y ∈ T, x.1 ≠ y.1) : setAll (setAll H S) T = setAll (setAll H T) S := by
  apply heap_ext; intro i
  simp only [setAll_get, Option.map_map]
  congr 1; funext o
  simp only [Function.comp]
  cases hS : look S i with
  | none => simp
  | some oS =>
    cases hT : look T i with
    | none => simp
    | some oT =>
      obtain ⟨x, hx, e1⟩ := look_mem hS
      obtain ⟨y, hy, e2⟩ := look_mem hT
      exact absurd (e1.trans e2.symm) (h x hx y hy)
theorem setAll_app : ∀ (S T : List (Nat × AO)) (H : AHeap), setAll H (S ++ T) = setAll (setAll H S) T
  | [], T, H => rfl
  | x :: S, T, H => by simp [setAll, setAll_app S T]

/-! ### operations that write to boxes of their own alone -/
def ownSets (n0 : Nat) (owns : List (Nat × Nat × Nat)) : List (Nat × AO) := owns.map fun x => (n0 + x.2.1, .arr x.2.2 false [])

theorem setOwns_eq {n0 : Nat} : ∀ (owns : List (Nat × Nat × Nat)) (zs : List AV) (H : AHeap), setOwns n0 owns zs H = ((setOwns n0 owns zs []).1, setAll H (ownSets n0 owns))
  | [], zs, H => rfl
  | (j, r, k) :: l, zs, H => by
    simp only [setOwns, ownSets, List.map_cons, setAll]
    rw [setOwns_eq l _ (hset H (n0 + r) (.arr k false [])), setOwns_eq l _ (hset [] (n0 + r) (.arr k false []))]
    rfl

theorem inC_eq {n0 : Nat} {own : List (Nat × Nat)} {j : Nat} (v : AV) : ∃ S, (∀ x ∈ S, ∃ r ∈ own.map (·.2), x.1 = n0 + r) ∧ ∀ H, inC n0 H own j v = ((inC n0 [] own j v).1, setAll H S) := by
  have none : (∀ H, inC n0 H own j v = ((inC n0 [] own j v).1, H)) → ∃ S : List (Nat × AO), (∀ x ∈ S, ∃ r ∈ own.map (·.2), x.1 = n0 + r) ∧ ∀ H, inC n0 H own j v = ((inC n0 [] own j v).1, setAll H S) := fun h => ⟨[], by simp, fun H => by rw [h]; rfl⟩
  cases v with
  | fresh k rows =>
    cases hr : rankOf j own with
    | none => exact none (fun H => by simp [inC, hr])
    | some r =>
      refine ⟨[(n0 + r, .arr k false rows)], ?_, fun H => by simp [inC, hr, setAll]⟩
      intro x hx
      simp at hx; subst hx
      refine ⟨r, ?_, rfl⟩
      clear none
      induction own with
      | nil => cases hr
      | cons y own ih =>
        simp only [rankOf] at hr
        cases hb : Nat.beq y.1 j with
        | true => simp [hb] at hr; simp [hr]
        | false => simp only [hb, cond_false] at hr; exact List.mem_cons_of_mem _ (ih hr)
  | _ => exact none (fun H => rfl)
theorem inCs_eq {n0 : Nat} {own : List (Nat × Nat)} : ∀ (l : List AV) (j : Nat), ∃ S, (∀ x ∈ S, ∃ r ∈ own.map (·.2), x.1 = n0 + r) ∧ ∀ H, inCs n0 H own j l = ((inCs n0 [] own j l).1, setAll H S)
  | [], j => ⟨[], by simp, fun H => rfl⟩
  | v :: l, j => by
    obtain ⟨S, h1, h2⟩ := inC_eq (n0 := n0) (own := own) (j := j) v
    obtain ⟨T, h3, h4⟩ := inCs_eq (n0 := n0) (own := own) l (j + 1)
    refine ⟨S ++ T, fun x hx => (List.mem_append.1 hx).elim (h1 x) (h3 x), fun H => ?_⟩
    simp only [inCs]
    rw [h2 H, h4 (setAll H S), h2 [], h4 (setAll [] S), setAll_app]
theorem inV_eq {n0 : Nat} {own : List (Nat × Nat)} (v : AV) : ∃ S, (∀ x ∈ S, ∃ r ∈ own.map (·.2), x.1 = n0 + r) ∧ ∀ H, inV n0 H own v = ((inV n0 [] own v).1, setAll H S) := by
  by_cases hv : ∃ cs, v = .agg cs
  · obtain ⟨cs, rfl⟩ := hv
    obtain ⟨S, h1, h2⟩ := inCs_eq (n0 := n0) (own := own) cs 0
    refine ⟨S, h1, fun H => ?_⟩
    simp only [inV]; rw [h2 H, h2 []]
  · obtain ⟨S, h1, h2⟩ := inC_eq (n0 := n0) (own := own) (j := 0) v
    have e : ∀ H, inV n0 H own v = inC n0 H own 0 v := by
      intro H; cases v <;> first | rfl | exact absurd ⟨_, rfl⟩ hv
    exact ⟨S, h1, fun H => by rw [e, e]; exact h2 H⟩
theorem inVs_eq {n0 : Nat} : ∀ (l : List AV) (own : List (List (Nat × Nat))), ∃ S, (∀ x ∈ S, ∃ r ∈ own.flatMap fun q => q.map (·.2), x.1 = n0 + r) ∧ ∀ H, inVs n0 H l own = ((inVs n0 [] l own).1, setAll H S)
  | [], own => ⟨[], by simp, fun H => rfl⟩
  | v :: l, own => by
    obtain ⟨S, h1, h2⟩ := inV_eq (n0 := n0) (own := own.headD []) v
    obtain ⟨T, h3, h4⟩ := inVs_eq (n0 := n0) l own.tail
    refine ⟨S ++ T, fun x hx => ?_, fun H => ?_⟩
    · have split : (own.flatMap fun q => q.map (·.2)) = (own.headD []).map (·.2) ++ own.tail.flatMap fun q => q.map (·.2) := by cases own <;> simp
      rw [split]
      rcases List.mem_append.1 hx with hx | hx
      · obtain ⟨r, hr, e⟩ := h1 x hx; exact ⟨r, List.mem_append_left _ hr, e⟩
      · obtain ⟨r, hr, e⟩ := h3 x hx; exact ⟨r, List.mem_append_right _ hr, e⟩
    · simp only [inVs]
      rw [h2 H, h4 (setAll H S), h2 [], h4 (setAll [] S), setAll_app]

/-- Where an operation that reads looks the same. -/
def Same (s : Slots) (op : AOp) (H K : AHeap) : Prop := readsA op = false ∨ H = K ∨ (isR op = true ∧ ∀ b, rbox s op = some b → hget K b = hget H b)

theorem hcells_of {H K : AHeap} {b : Nat} (h : hget K b = hget H b) : hcells K b = hcells H b := by simp [hcells, h]
theorem harr_of {H K : AHeap} {b : Nat} (h : hget K b = hget H b) : harr K b = harr H b := by simp [harr, h]
theorem hmap_of {H K : AHeap} {b : Nat} (h : hget K b = hget H b) : hmap K b = hmap H b := by simp [hmap, h]
theorem ptrCells_of {H K : AHeap} {p : AV} (h : ∀ b, p.box? = some b → hget K b = hget H b) : ptrCells K p = ptrCells H p := by
  cases p with
  | ptr b o => simp [ptrCells, hcells_of (h b rfl)]
  | eptr b n i o => simp [ptrCells, harr_of (h b rfl)]
  | _ => rfl

theorem own_form {M : Mach} {c : Sc} {n0 : Nat} {s : Slots} {H H' : AHeap} {op : AOp} {v : AV} (hw : writes op = false) (h : core M c n0 s H op = some (v, H')) :
    ∃ S : List (Nat × AO), (∀ x ∈ S, ∃ r ∈ ranksOf op, x.1 = n0 + r) ∧ H' = setAll H S ∧ ∀ K, Same s op H K → core M c n0 s K op = some (v, setAll K S) := by
  have still : H' = H → (∀ K, Same s op H K → core M c n0 s K op = some (v, K)) → ∃ S : List (Nat × AO), (∀ x ∈ S, ∃ r ∈ ranksOf op, x.1 = n0 + r) ∧ H' = setAll H S ∧ ∀ K, Same s op H K → core M c n0 s K op = some (v, setAll K S) :=
    fun e hK => ⟨[], by simp, e, hK⟩
  cases op with
  | store | append | copy | next | mupd | cut | sliceL => simp [writes] at hw
  | call f args own pure =>
    simp only [writes, Bool.not_eq_false'] at hw
    subst hw
    have hH : ∀ {K}, Same s (.call f args own true) H K → H = K := by
      intro K hK
      rcases hK with hK | hK | ⟨hK, _⟩
      · simp [readsA] at hK
      · exact hK
      · simp [isR, addrOf] at hK
    simp only [core, callOp, if_true] at h
    have h0 := h
    repeat' split at h
    all_goals try (cases h; done)
    rename_i rs _ _ hbd
    obtain ⟨S, h1, h2⟩ := inVs_eq (n0 := n0) rs own
    simp only [Option.some.injEq, Prod.mk.injEq] at h
    obtain ⟨rfl, rfl⟩ := h
    refine ⟨S, h1, by rw [h2 H], fun K hK => ?_⟩
    have := hH hK; subst this
    simp only [core, callOp, if_true]
    rw [h0, h2 H]
  | load k x =>
    cases k with
    | none =>
      simp only [core, prim] at h
      split at h
      · next p hp =>
        split at h
        · next y l hy =>
          simp only [Option.some.injEq, Prod.mk.injEq] at h
          obtain ⟨rfl, rfl⟩ := h
          refine still rfl (fun K hK => ?_)
          have : ptrCells K p = ptrCells H p := by
            rcases hK with hK | hK | ⟨_, hK⟩
            · simp [readsA, addrOf] at hK
            · rw [hK]
            · exact ptrCells_of (fun b hb => hK b (by simp [rbox, addrOf, hp, hb]))
          simp [core, prim, hp, this, hy]
        · cases h
      · cases h
    | some k =>
      simp only [core, prim] at h
      split at h
      · next p hp =>
        split at h
        · next cs hy =>
          split at h
          · next hle =>
            simp only [Option.some.injEq, Prod.mk.injEq] at h
            obtain ⟨rfl, rfl⟩ := h
            refine still rfl (fun K hK => ?_)
            have : ptrCells K p = ptrCells H p := by
              rcases hK with hK | hK | ⟨_, hK⟩
              · simp [readsA, addrOf] at hK
              · rw [hK]
              · exact ptrCells_of (fun b hb => hK b (by simp [rbox, addrOf, hp, hb]))
            simp only [core, prim, hp, this, hy, hle, if_true]
          · cases h
        · cases h
      · cases h
  | lookup z ag ks x y ok =>
    simp only [core, prim] at h
    split at h
    · next m key e1 e2 =>
      have hh : ∀ K, Same s (.lookup z ag ks x y ok) H K → ∀ b, m = .mp b → hmap K b = hmap H b := by
        intro K hK b hb
        rcases hK with hK | hK | ⟨_, hK⟩
        · simp [readsA, addrOf] at hK
        · rw [hK]
        · exact hmap_of (hK b (by simp [rbox, addrOf, e1, hb, AV.box?]))
      cases m with
      | mp b =>
        simp only at h
        split at h
        · next es cs he hk =>
          split at h
          · next hif =>
            split at h
            · next i v' hfd =>
              simp only [Option.some.injEq, Prod.mk.injEq] at h
              obtain ⟨rfl, rfl⟩ := h
              exact still rfl (fun K hK => by simp only [core, prim, e1, e2, hh K hK b rfl, he, hk, hif, if_true, hfd])
            · next hfd =>
              simp only [Option.some.injEq, Prod.mk.injEq] at h
              obtain ⟨rfl, rfl⟩ := h
              exact still rfl (fun K hK => by simp only [core, prim, e1, e2, hh K hK b rfl, he, hk, hif, if_true, hfd])
            · cases h
          · cases h
        · cases h
      | lit u =>
        cases u with
        | map r =>
          cases r with
          | none =>
            simp only at h
            split at h
            · next es cs he hk =>
              simp only [Option.some.injEq] at he; subst he
              split at h
              · next hif =>
                simp only [findKey, Option.some.injEq, Prod.mk.injEq] at h
                obtain ⟨rfl, rfl⟩ := h
                exact still rfl (fun K hK => by simp only [core, prim, e1, e2, hk, hif, if_true, findKey])
              · cases h
            · cases h
          | some r => simp at h
        | _ => simp at h
      | _ => simp at h
    · cases h
  | lenL x =>
    simp only [core, prim] at h
    split at h
    · next hx =>
      simp only [Option.some.injEq, Prod.mk.injEq] at h
      obtain ⟨rfl, rfl⟩ := h
      exact still rfl (fun K _ => by simp only [core, prim, hx])
    · next hx =>
      simp only [Option.some.injEq, Prod.mk.injEq] at h
      obtain ⟨rfl, rfl⟩ := h
      exact still rfl (fun K _ => by simp only [core, prim, hx])
    · next hx =>
      simp only [Option.some.injEq, Prod.mk.injEq] at h
      obtain ⟨rfl, rfl⟩ := h
      exact still rfl (fun K _ => by simp only [core, prim, hx])
    · next hx =>
      simp only [Option.some.injEq, Prod.mk.injEq] at h
      obtain ⟨rfl, rfl⟩ := h
      exact still rfl (fun K _ => by simp only [core, prim, hx])
    · next b n hx =>
      split at h
      · next k p rows hr =>
        split at h
        · next hn =>
          simp only [Option.some.injEq, Prod.mk.injEq] at h
          obtain ⟨rfl, rfl⟩ := h
          refine still rfl (fun K hK => ?_)
          have : harr K b = harr H b := by
            rcases hK with hK | hK | ⟨_, hK⟩
            · simp [readsA, addrOf] at hK
            · rw [hK]
            · exact harr_of (hK b (by simp [rbox, addrOf, hx, AV.box?]))
          simp only [core, prim, hx, this, hr, if_pos hn]
        · cases h
      · cases h
    · cases h
  | lenM x =>
    simp only [core, prim] at h
    split at h
    · next b hx =>
      split at h
      · next es hr =>
        simp only [Option.some.injEq, Prod.mk.injEq] at h
        obtain ⟨rfl, rfl⟩ := h
        refine still rfl (fun K hK => ?_)
        have : hmap K b = hmap H b := by
          rcases hK with hK | hK | ⟨_, hK⟩
          · simp [readsA, addrOf] at hK
          · rw [hK]
          · exact hmap_of (hK b (by simp [rbox, addrOf, hx, AV.box?]))
        simp only [core, prim, hx, this, hr]
      · cases h
    · next hx =>
      simp only [Option.some.injEq, Prod.mk.injEq] at h
      obtain ⟨rfl, rfl⟩ := h
      exact still rfl (fun K _ => by simp only [core, prim, hx])
    · cases h
  | idxS k x y =>
    simp only [core, prim] at h
    split at h
    · next k' rows m i hx hy =>
      split at h
      · next hif =>
        split at h
        · next r hr =>
          simp only [Option.some.injEq, Prod.mk.injEq] at h
          obtain ⟨rfl, rfl⟩ := h
          exact still rfl (fun K _ => by simp only [core, prim, hx, hy, if_pos hif, hr])
        · cases h
      · cases h
    · next k' rows m i hx hy =>
      split at h
      · next hif =>
        split at h
        · next r hr =>
          simp only [Option.some.injEq, Prod.mk.injEq] at h
          obtain ⟨rfl, rfl⟩ := h
          exact still rfl (fun K _ => by simp only [core, prim, hx, hy, if_pos hif, hr])
        · cases h
      · cases h
    · next b n m i hx hy =>
      split at h
      · next k' p rows hr =>
        split at h
        · next hif =>
          simp only [Option.some.injEq, Prod.mk.injEq] at h
          obtain ⟨rfl, rfl⟩ := h
          refine still rfl (fun K hK => ?_)
          have : harr K b = harr H b := by
            rcases hK with hK | hK | ⟨_, hK⟩
            · simp [readsA, addrOf] at hK
            · rw [hK]
            · exact harr_of (hK b (by simp [rbox, addrOf, hx, AV.box?]))
          simp only [core, prim, hx, hy, this, hr, if_pos hif]
        · cases h
      · cases h
    · cases h
  | sliceA k n x =>
    simp only [core, prim] at h
    split at h
    · next b o hb =>
      split at h
      · next cs hcs =>
        split at h
        · next hle =>
          simp only [Option.some.injEq, Prod.mk.injEq] at h
          obtain ⟨rfl, rfl⟩ := h
          refine still rfl (fun K hK => ?_)
          have : hcells K b = hcells H b := by
            rcases hK with hK | hK | ⟨_, hK⟩
            · simp [readsA, addrOf] at hK
            · rw [hK]
            · exact hcells_of (hK b (by simp [rbox, addrOf, hb, AV.box?]))
          simp only [core, prim, hb, this, hcs, hle, if_true]
        · cases h
      · cases h
    · cases h
  | nil k r =>
    simp only [core, prim, Option.some.injEq, Prod.mk.injEq] at h
    obtain ⟨rfl, rfl⟩ := h
    exact ⟨[(n0 + r, .arr k false [])], by simp [ranksOf], rfl, fun K _ => rfl⟩
  | mkmap r =>
    simp only [core, prim, Option.some.injEq, Prod.mk.injEq] at h
    obtain ⟨rfl, rfl⟩ := h
    exact ⟨[(n0 + r, .map [])], by simp [ranksOf], rfl, fun K _ => rfl⟩
  | alloc zs owns r =>
    simp only [core, prim, Option.some.injEq, Prod.mk.injEq] at h
    obtain ⟨rfl, rfl⟩ := h
    refine ⟨ownSets n0 owns ++ [(n0 + r, .cells (setOwns n0 owns zs []).1)], ?_, ?_, fun K _ => ?_⟩
    · intro x hx
      simp only [List.mem_append, ownSets, List.mem_map, List.mem_singleton] at hx
      rcases hx with ⟨q, hq, rfl⟩ | rfl
      · exact ⟨q.2.1, by simp only [ranksOf, List.mem_cons, List.mem_map]; exact .inr ⟨q, hq, rfl⟩, rfl⟩
      · exact ⟨r, by simp [ranksOf], rfl⟩
    · rw [setOwns_eq, setAll_app]; rfl
    · simp only [core, prim]; rw [setOwns_eq, setAll_app]; rfl
  | box n x r =>
    simp only [core, prim] at h
    split at h
    · next u hu =>
      split at h
      · next hn =>
        simp only [Option.some.injEq, Prod.mk.injEq] at h
        obtain ⟨rfl, rfl⟩ := h
        exact ⟨[(n0 + r, .cells u.cellsOf)], by simp [ranksOf], rfl, fun K _ => by simp only [core, prim, hu, hn, if_true]; rfl⟩
      · cases h
    · cases h
  | range x r =>
    simp only [core, prim] at h
    split at h
    · next u hu =>
      simp only [Option.some.injEq, Prod.mk.injEq] at h
      obtain ⟨rfl, rfl⟩ := h
      exact ⟨[(n0 + r, .iter u 0)], by simp [ranksOf], rfl, fun K _ => by simp only [core, prim, hu]; rfl⟩
    · cases h
  | mkslice k b z l cp r =>
    simp only [core, prim] at h
    split at h
    · next l1 c1 e1 e2 =>
      split at h
      · next hif =>
        simp only [Option.some.injEq, Prod.mk.injEq] at h
        obtain ⟨rfl, rfl⟩ := h
        exact ⟨[(n0 + r, .arr k false (List.replicate l1.toNat z))], by simp [ranksOf], rfl, fun K _ => by simp only [core, prim, e1, e2, if_pos hif]; rfl⟩
      · cases h
    · cases h
  | lits k z n ps own =>
    simp only [core, prim, Option.bind_eq_some_iff] at h
    obtain ⟨qs, e1, rows, e2, h⟩ := h
    split at h
    · next hfr =>
      cases own with
      | none =>
        simp only [Option.some.injEq, Prod.mk.injEq] at h
        obtain ⟨rfl, rfl⟩ := h
        exact still rfl (fun K _ => by simp [core, prim, e1, e2, hfr])
      | some r =>
        simp only [Option.some.injEq, Prod.mk.injEq] at h
        obtain ⟨rfl, rfl⟩ := h
        exact ⟨[(n0 + r, .arr k false rows)], by simp [ranksOf], rfl, fun K _ => by simp [core, prim, e1, e2, hfr, setAll]⟩
    · cases h
  | build z ps =>
    simp only [core, prim, Option.bind_eq_some_iff] at h
    obtain ⟨qs, e1, h⟩ := h
    have e := map_snd h
    subst e
    refine still rfl (fun K _ => ?_)
    simp only [core, prim, e1, Option.bind_some]
    revert h
    cases fillC z qs <;> simp
  | xlits k z n ps =>
    simp only [core, prim, Option.bind_eq_some_iff] at h
    obtain ⟨qs, e1, h⟩ := h
    have e := map_snd h
    subst e
    refine still rfl (fun K _ => ?_)
    simp only [core, prim, e1, Option.bind_some]
    revert h
    cases fillR k (List.replicate n z) qs <;> simp
  | _ =>
    simp only [core, prim] at h
    have h0 := h
    have e : H' = H := by
      first
      | exact map_snd h
      | (repeat' split at h) <;> first
          | (cases h; done)
          | (simp only [Option.some.injEq, Prod.mk.injEq] at h; exact h.2.symm)
          | exact map_snd h
    subst e
    refine still rfl (fun K _ => ?_)
    simp only [core, prim]
    revert h0
    first
    | (cases ev s _ <;> simp <;> done)
    | (repeat' split) <;> first
        | (simp; done)
        | (simp only [Option.map_eq_some_iff, Prod.mk.injEq]; rintro ⟨y, hy, rfl, _⟩; exact ⟨y, hy, rfl, rfl⟩)
end Am
