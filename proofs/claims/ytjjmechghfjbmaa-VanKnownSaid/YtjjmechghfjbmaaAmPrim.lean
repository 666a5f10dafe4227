/- Every operation that calls nothing; and what scopes keep. -/
import Derived.Test.YtjjmechghfjbmaaAmMem8
set_option linter.unusedVariables false
set_option linter.unusedSimpArgs false
set_option linter.unnecessarySimpa false
namespace Am
open Go

/-- What is asked of an operation beside its match. -/
def opOk : AOp → Bool
  | .load (some 0) _ => false
  | _ => true

section
variable {MC : Nat → Code → ACode → Prop} {P : Program} {B0 : Nat} {c : Sc} {n0 : Nat} {H H' : AHeap} {g : Ghost} {w : World} {s : Slots} {a : Act} {o : Oper} {v : AV}

theorem m_sliceQ {k : Nat} {x : Opd} {lo hi : Option Opd} (hm : matchOp P o.op (.sliceQ k x lo hi) = true) (hR : Rel MC P B0 H g w) (hS : SlotsOk g s a.tmps) (h : prim c n0 s H (.sliceQ k x lo hi) = some (v, H')) : Does MC P B0 a o [] H g w v H' := by
  have hm' : matchOp P o.op (.sliceL k x lo hi) = true := by simpa only [matchOp] using hm
  refine m_sliceL hm' hR hS (c := c) (n0 := n0) ?_
  simp only [prim] at h ⊢
  split at h
  · next k' rows he => simpa [he, frvA, frv] using h
  · cases h

theorem Does.mono {X Y : List Nat} (h : Does MC P B0 a o X H g w v H') (hXY : ∀ i ∈ X, i ∈ Y) : Does MC P B0 a o Y H g w v H' := by
  obtain ⟨x, w', g', h1, h2, h3, h4, h5, h6⟩ := h
  exact ⟨x, w', g', h1, h2, h3, h4, h5, fun i hi hn => h6 i (fun hx => hi (hXY i hx)) hn⟩

end

/-! ### scopes -/
/-- All boxes named in an object are below N (of a loop's slots: those that are seen). -/
def AO.bdP (N : Nat) : AO → Prop
  | .loop _ s _ _ _ _ _ => ∀ t v, sget s t = some v → v.bd N = true
  | .ro o => o.bdP N
  | .cells cs => bdL N cs = true
  | .map es => bdE N es = true
  | _ => True

structure ScOk (c : Sc) (H : AHeap) : Prop where
  cur : c.cur ≤ H.length
  out : ∀ B ∈ c.outer, B ≤ c.cur
  bd : ∀ B ∈ c.cur :: c.outer, ∀ i, i < B → ∀ o, H[i]? = some o → o.bdP B

theorem ScOk.set {c : Sc} {H : AHeap} (h : ScOk c H) (i : Nat) (o' : AO) (hb : ∀ B ∈ c.cur :: c.outer, i < B → o'.bdP B) : ScOk c (hset H i o') where
  cur := by simpa [hset] using h.cur
  out := h.out
  bd := fun B hB j hj o ho => by
    simp only [hset, List.getElem?_set] at ho
    split at ho
    · next e =>
      split at ho
      · cases ho; exact hb B hB (by omega)
      · cases ho
    · exact h.bd B hB j hj o ho

theorem ScOk.setNew {c : Sc} {H : AHeap} (h : ScOk c H) (i : Nat) (hi : c.cur ≤ i) (o' : AO) : ScOk c (hset H i o') :=
  h.set i o' (fun B hB hlt => by
    rcases List.mem_cons.1 hB with rfl | hB
    · omega
    · have := h.out B hB; omega)
theorem ScOk.setTriv {c : Sc} {H : AHeap} (h : ScOk c H) (i : Nat) (o' : AO) (ht : ∀ B, o'.bdP B) : ScOk c (hset H i o') := h.set i o' (fun B _ _ => ht B)

theorem bdL_iff {N : Nat} : ∀ {l : List AV}, bdL N l = true ↔ ∀ x ∈ l, x.bd N = true
  | [] => by simp [bdL]
  | x :: l => by simp [bdL, bdL_iff (l := l)]
theorem bdR_iff {N : Nat} : ∀ {l : List (List AV)}, bdR N l = true ↔ ∀ r ∈ l, ∀ x ∈ r, x.bd N = true
  | [] => by simp [bdR]
  | x :: l => by simp [bdR, bdL_iff, bdR_iff (l := l)]
theorem bdE_iff {N : Nat} : ∀ {l : List (AV × AV)}, bdE N l = true ↔ ∀ e ∈ l, e.1.bd N = true ∧ e.2.bd N = true
  | [] => by simp [bdE]
  | x :: l => by simp [bdE, bdE_iff (l := l)]

theorem plain_bd {v : AV} (h : v.plain = true) (N : Nat) : v.bd N = true := by cases v <;> simp [AV.plain] at h <;> simp [AV.bd]
theorem frz_bd {v : AV} (h : v.frz = true) (N : Nat) : v.bd N = true := by cases v <;> simp [AV.frz] at h <;> simp [AV.bd]

theorem okL_iff {c : Sc} {b : Nat} : ∀ {l : List AV}, c.okL b l = true ↔ ∀ x ∈ l, c.ok b x = true
  | [] => by simp [Sc.okL]
  | x :: l => by simp [Sc.okL, okL_iff (l := l)]

theorem ok_bd {c : Sc} {b : Nat} {v : AV} (h : c.ok b v = true) (hout : ∀ B ∈ c.outer, B ≤ c.cur) {B : Nat} (hB : B ∈ c.cur :: c.outer) (hb : b < B) : v.bd B = true := by
  simp only [Sc.ok, Bool.or_eq_true, Bool.and_eq_true, Nat.ble_eq, List.all_eq_true] at h
  have hlt : ¬ c.cur ≤ b := by
    rcases List.mem_cons.1 hB with rfl | hB'
    · omega
    · have := hout B hB'; omega
  rcases h with (h | h) | ⟨h, h2⟩
  · exact absurd h hlt
  · exact plain_bd h B
  · rcases List.mem_cons.1 hB with rfl | hB'
    · exact h.resolve_left hlt
    · exact (h2 B hB').resolve_left (by omega)

theorem splice_mem {cs : List AV} {o : Nat} {new : List AV} {x : AV} (h : x ∈ splice cs o new) : x ∈ cs ∨ x ∈ new := by
  simp only [splice, List.mem_append] at h
  rcases h with (h | h) | h
  · exact .inl (List.mem_of_mem_take h)
  · exact .inr h
  · exact .inl (List.mem_of_mem_drop h)

theorem frv_sc {c : Sc} {H H' : AHeap} {v v' : AV} (h : ScOk c H) (hf : frv H v = some (v', H')) : ScOk c H' := by
  unfold frv at hf
  repeat' split at hf
  all_goals (try cases hf)
  all_goals first
    | exact h
    | exact h.setTriv _ _ (fun _ => trivial)
theorem frvL_sc {c : Sc} : ∀ {l l' : List AV} {H H' : AHeap}, ScOk c H → frvL H l = some (l', H') → ScOk c H'
  | [], l', H, H', h, hf => by simp only [frvL, Option.some.injEq, Prod.mk.injEq] at hf; exact hf.2 ▸ h
  | v :: l, l', H, H', h, hf => by
    simp only [frvL] at hf
    split at hf
    · cases hf
    · next v1 H1 e1 =>
      split at hf
      · cases hf
      · next l2 H2 e2 =>
        simp only [Option.some.injEq, Prod.mk.injEq] at hf
        exact hf.2 ▸ frvL_sc (frv_sc h e1) e2
theorem frvA_sc {c : Sc} {H H' : AHeap} {v v' : AV} (h : ScOk c H) (hf : frvA H v = some (v', H')) : ScOk c H' := by
  unfold frvA at hf
  split at hf
  · next cs =>
    cases hl : frvL H cs with
    | none => simp [hl] at hf
    | some r => simp only [hl, Option.map_some, Option.some.injEq, Prod.mk.injEq] at hf; exact hf.2 ▸ frvL_sc h (l' := r.1) (H' := r.2) hl
  · cases hf; exact h
  · exact frv_sc h hf
theorem frvAs_sc {c : Sc} : ∀ {l l' : List AV} {H H' : AHeap}, ScOk c H → frvAs H l = some (l', H') → ScOk c H'
  | [], l', H, H', h, hf => by simp only [frvAs, Option.some.injEq, Prod.mk.injEq] at hf; exact hf.2 ▸ h
  | v :: l, l', H, H', h, hf => by
    simp only [frvAs] at hf
    split at hf
    · cases hf
    · next v1 H1 e1 =>
      split at hf
      · cases hf
      · next l2 H2 e2 =>
        simp only [Option.some.injEq, Prod.mk.injEq] at hf
        exact hf.2 ▸ frvAs_sc (frvA_sc h e1) e2
theorem publish_sc {c : Sc} {s : Slots} : ∀ {l : List Nat} {H H' : AHeap}, ScOk c H → publish s H l = some H' → ScOk c H'
  | [], H, H', h, hf => by simp only [publish, Option.some.injEq] at hf; exact hf ▸ h
  | t :: l, H, H', h, hf => by
    simp only [publish] at hf
    split at hf
    · split at hf
      · next r e1 => exact publish_sc (frvA_sc h (v' := r.1) (H' := r.2) e1) hf
      · cases hf
    · cases hf

theorem setOwns_sc {c : Sc} {n0 : Nat} (hn : c.cur ≤ n0) : ∀ {owns : List (Nat × Nat × Nat)} {zs zs' : List AV} {H H' : AHeap}, ScOk c H → setOwns n0 owns zs H = (zs', H') → ScOk c H'
  | [], zs, zs', H, H', h, hf => by simp only [setOwns, Prod.mk.injEq] at hf; exact hf.2 ▸ h
  | (j, r, k) :: l, zs, zs', H, H', h, hf => by simp only [setOwns] at hf; exact setOwns_sc hn (h.setNew _ (by omega) _) hf

theorem map_snd {α : Type} {f : α → AV} {x : Option α} {H H' : AHeap} {v : AV} (h : x.map (fun y => (f y, H)) = some (v, H')) : H' = H := by
  cases x <;> simp at h; exact h.2.symm

theorem prim_sc {c : Sc} {n0 : Nat} {s : Slots} {H H' : AHeap} {op : AOp} {v : AV} (h : ScOk c H) (hn : c.cur ≤ n0) (hp : prim c n0 s H op = some (v, H')) : ScOk c H' := by
  have hset1 : ∀ {r : Nat} {o' : AO}, ScOk c (hset H (n0 + r) o') := fun {r o'} => h.setNew _ (by omega) _
  cases op with
  | nil k r => simp only [prim, Option.some.injEq, Prod.mk.injEq] at hp; exact hp.2 ▸ hset1
  | mkmap r => simp only [prim, Option.some.injEq, Prod.mk.injEq] at hp; exact hp.2 ▸ hset1
  | alloc zs owns r =>
    simp only [prim, Option.some.injEq, Prod.mk.injEq] at hp
    have := setOwns_sc hn h (zs := zs) (owns := owns) (n0 := n0) (zs' := (setOwns n0 owns zs H).1) (H' := (setOwns n0 owns zs H).2) rfl
    exact hp.2 ▸ this.setNew _ (by omega) _
  | store k x y =>
    simp only [prim] at hp
    split at hp
    · next b o u e1 e2 =>
      split at hp
      · next cs hc =>
        split at hp
        · next hif =>
          simp only [Option.some.injEq, Prod.mk.injEq] at hp
          simp only [Bool.and_eq_true] at hif
          refine hp.2 ▸ h.set _ _ (fun B hB hb => ?_)
          simp only [AO.bdP, bdL_iff]
          intro x hx
          rcases splice_mem hx with hx | hx
          · have hg := hcellsW_get hc
            have := h.bd B hB b hb _ hg
            simp only [AO.bdP, bdL_iff] at this
            exact this x hx
          · exact ok_bd (okL_iff.1 hif.2 x hx) h.out hB hb
        · cases hp
      · cases hp
    · next b n i o u e1 e2 =>
      split at hp
      · cases hp
      · next cs H1 hf =>
        have h1 := frvL_sc h hf
        repeat' split at hp
        all_goals (try cases hp)
        exact h1.setTriv _ _ (fun _ => trivial)
    · cases hp
  | mupd ag ks x y z =>
    simp only [prim] at hp
    split at hp
    · next b key u e1 e2 e3 =>
      split at hp
      · next es cs hm hk =>
        split at hp
        · next hif =>
          simp only [Bool.and_eq_true] at hif
          have hkey : ∀ B, key.bd B = true := by
            intro B
            have hkk : ∀ (ks : List Nat) (cs : List AV), kinds ks cs = true → ∀ x ∈ cs, x.bd B = true := by
              intro ks cs
              induction ks, cs using kinds.induct <;> simp_all [kinds, AV.bd]
            have h2 := hkk ks cs hif.1.1
            revert hk
            unfold keyCells
            split
            · intro hk; cases hk; simpa only [AV.bd, bdL_iff] using h2
            · intro hk; cases hk; simp [AV.bd]
            · intro hk; cases hk
          have hval : ∀ B, u.bd B = true := by
            intro B
            have h2 := hif.1.2
            have h3 := hif.2
            rw [List.all_eq_true] at h2
            cases u <;> simp only [AV.cellsOf] at h2 h3 <;> first
              | (rename_i cs'; simp only [AV.bd, bdL_iff]; exact fun x hx => frz_bd (h2 x hx) B)
              | (simp at h3; done)
              | exact frz_bd (h2 _ (by simp)) B
          have hset : ∀ es', (∀ e ∈ es', e ∈ es ∨ e = (key, u)) → ScOk c (hset H b (.map es')) := by
            intro es' hes
            refine h.set _ _ (fun B hB hb => ?_)
            have hg := hmapW_get hm
            have := h.bd B hB b hb _ hg
            simp only [AO.bdP, bdE_iff] at this ⊢
            intro e he
            rcases hes e he with he | rfl
            · exact this e he
            · exact ⟨hkey B, hval B⟩
          split at hp
          · simp only [Option.some.injEq, Prod.mk.injEq] at hp
            exact hp.2 ▸ hset _ (fun e he => by rcases List.mem_or_eq_of_mem_set he with h | h <;> simp [h])
          · simp only [Option.some.injEq, Prod.mk.injEq] at hp
            exact hp.2 ▸ hset _ (fun e he => by simpa using he)
          · cases hp
        · cases hp
      · cases hp
    · cases hp
  | sliceL k x lo hi =>
    simp only [prim] at hp
    split at hp
    · split at hp
      · next rows H1 hf =>
        have h1 := frvA_sc h hf
        repeat' split at hp
        all_goals (try cases hp)
        exact h1
      · cases hp
    · cases hp
  | load k x =>
    cases k <;> simp only [prim] at hp <;> (repeat' split at hp) <;> first
      | (cases hp; done)
      | (simp only [Option.some.injEq, Prod.mk.injEq] at hp; exact hp.2 ▸ h)
  | cut k x hi r =>
    simp only [prim] at hp
    repeat' split at hp
    all_goals first
      | (cases hp; done)
      | skip
    simp only [Option.some.injEq, Prod.mk.injEq] at hp
    obtain ⟨_, rfl⟩ := hp
    exact (h.setTriv _ .dead (fun _ => trivial)).setNew _ (by omega) _
  | build z parts =>
    simp only [prim, Option.bind_eq_some_iff] at hp
    obtain ⟨ps, _, hp⟩ := hp
    exact map_snd hp ▸ h
  | xlits k z n parts =>
    simp only [prim, Option.bind_eq_some_iff] at hp
    obtain ⟨ps, _, hp⟩ := hp
    exact map_snd hp ▸ h
  | lits k z n parts own =>
    simp only [prim, Option.bind_eq_some_iff] at hp
    obtain ⟨ps, _, rows, _, hp⟩ := hp
    repeat' split at hp
    all_goals (try cases hp)
    · exact h
    · exact hset1
  | _ =>
    simp only [prim] at hp
    first
    | exact map_snd hp ▸ h
    | (repeat' split at hp) <;> first
        | (cases hp; done)
        | (simp only [Option.some.injEq, Prod.mk.injEq] at hp; first | exact hp.2 ▸ h | exact hp.2 ▸ hset1 | exact hp.2 ▸ h.setTriv _ _ (fun _ => trivial) | exact hp.2 ▸ (h.setTriv _ _ (fun _ => trivial)).setNew _ (by omega) _)
        | exact map_snd hp ▸ h
        | skip
end Am
