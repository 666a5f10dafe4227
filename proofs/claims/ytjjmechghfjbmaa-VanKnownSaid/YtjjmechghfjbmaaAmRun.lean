/- One operation, calls too. -/
import Derived.Test.YtjjmechghfjbmaaAmSteps
import Derived.Test.YtjjmechghfjbmaaAmCut
set_option linter.unusedVariables false
set_option linter.unusedSimpArgs false
set_option linter.unnecessarySimpa false
namespace Am
open Go

theorem sget_sput {s : Slots} {d t : Nat} {v : AV} : sget (sput s (some d) v) t = if d = t then some v else sget s t := by
  simp only [sput, sget]
  cases h : Nat.beq d t with
  | true => simp [Nat.eq_of_beq_eq_true h]
  | false => simp [Nat.ne_of_beq_eq_false h]

theorem SlotsOk.put {g : Ghost} {s : Slots} {a : Act} {dst : Option Nat} {v : AV} {x : Value} (h : SlotsOk g s a.tmps) (hV : V g v x) (hd : ∀ d, dst = some d → d < a.tmps.size) : SlotsOk g (sput s dst v) (a.put dst x).tmps := by
  cases dst with
  | none => exact h
  | some d =>
    intro t u hu
    rw [sget_sput] at hu
    simp only [Act.put]
    split at hu
    · next e => subst e; cases hu; exact ⟨x, by simp [hd d rfl], hV⟩
    · next e =>
      obtain ⟨y, hy, hVy⟩ := h t u hu
      exact ⟨y, by rw [Array.getElem?_setIfInBounds_ne e]; exact hy, hVy⟩

theorem put_size {a : Act} {dst : Option Nat} {x : Value} : (a.put dst x).tmps.size = a.tmps.size := by cases dst <;> simp [Act.put]
theorem put_defers {a : Act} {dst : Option Nat} {x : Value} : (a.put dst x).defers = a.defers := by cases dst <;> rfl

theorem SlotsOk.restrict {g : Ghost} {s : Slots} {tmps : Array Value} (h : SlotsOk g s tmps) (l : List Nat) : SlotsOk g (restrict s l) tmps := by
  intro t v hv
  induction l with
  | nil => simp [Am.restrict, sget] at hv
  | cons x l ih =>
    simp only [Am.restrict] at hv
    split at hv
    · next u hu =>
      simp only [sget] at hv
      cases hb : Nat.beq x t with
      | true => simp [hb] at hv; subst hv; exact h t _ (Nat.eq_of_beq_eq_true hb ▸ hu)
      | false => simp [hb] at hv; exact ih hv
    · exact ih hv

theorem V_tup_nil {g : Ghost} {u : Value} (h : V g (.tup []) u) : u = .tuple #[] := by
  cases h with
  | den _ _ hd => cases hd
  | tup _ vs hl => simp at hl; simp [hl]

theorem wanted_eq {g : Ghost} {s : Slots} {tmps : Array Value} {ops : Array Oper} {o : Oper} {ao : AOper} {r : Bool} (hm : matchGuard ops o.guard ao.guard = true) (hS : SlotsOk g s tmps) (h : wanted s ao.guard = some r) : Region.wanted o (yielded ops tmps) = r := by
  unfold matchGuard at hm
  unfold wanted at h
  unfold Region.wanted
  revert hm h
  cases o.guard <;> cases ao.guard <;> simp only [Bool.false_eq_true, false_implies, imp_self, implies_true]
  · intro _ h; simpa using h
  · rename_i x y
    obtain ⟨j, want⟩ := x
    obtain ⟨t, want'⟩ := y
    intro hm h
    simp only [Bool.and_eq_true, beq_iff_eq] at hm
    obtain ⟨rfl, hm⟩ := hm
    split at hm
    · next q hq =>
      have hd : q.dst = some t := by simpa using hm
      have hy : yielded ops tmps j = (match tmps[t]? with | some (.bool b) => some b | _ => none) := by
        simp only [yielded, hq, hd, Option.bind_some]
        rcases tmps[t]? with _ | v
        · rfl
        · cases v <;> rfl
      simp only [hy]
      split at h
      · next b hb =>
        obtain ⟨x, hx, hV⟩ := hS t _ hb
        have := V_lit hV
        subst this
        simp only [hx]
        simp only [Option.some.injEq] at h
        subst h
        cases b <;> cases want <;> rfl
      · next hb =>
        obtain ⟨x, hx, hV⟩ := hS t _ hb
        have := V_tup_nil hV
        subst this
        simp only [hx]
        simp at h
        simp [h]
      · cases h
    · cases hm

section
variable {MC : Nat → Code → ACode → Prop} {P : Program} {B0 : Nat}

/-- The marks of a frame's own. -/
def DefOk (lo : Nat) (ds : List Deferred) (g : Ghost) (w : World) : Prop :=
  lo ≤ w.heap.size ∧ ∃ βs : List Nat, ds = βs.map markOf ∧ βs.Nodup ∧ ∀ β ∈ βs, lo ≤ β ∧ β < w.heap.size ∧ w.heap[β]? = some (.deferred (some [])) ∧ ∀ i, (g.L i).blk ≠ some β

theorem DefOk.ext {lo : Nat} {ds : List Deferred} {H H' : AHeap} {g g' : Ghost} {w w' : World} (h : DefOk lo ds g w) (hE : Ext H g w H' g' w') : DefOk lo ds g' w' := by
  obtain ⟨h0, βs, h1, h2, h3⟩ := h
  refine ⟨Nat.le_trans h0 hE.size, βs, h1, h2, fun β hβ => ?_⟩
  obtain ⟨q1, q2, q3, q4⟩ := h3 β hβ
  refine ⟨q1, Nat.lt_of_lt_of_le q2 hE.size, ?_, fun i hc => ?_⟩
  · rw [(hE.frame β q2 (fun i o _ _ => q4 i)).1]; exact q3
  · rcases hE.blk i β hc with h | h | ⟨j, _, _, _, h⟩
    · exact q4 i h
    · omega
    · exact q4 j h

theorem markOf_inj : ∀ {l m : List Nat}, l.map markOf = m.map markOf → l = m
  | [], [], _ => rfl
  | [], _ :: _, h => by simp at h
  | _ :: _, [], h => by simp at h
  | x :: l, y :: m, h => by
    simp only [List.map_cons, List.cons.injEq] at h
    have h1 : x = y := by have := h.1; simpa [markOf] using this
    rw [h1, markOf_inj h.2]

def packV : List Value → Value
  | [v] => v
  | l => .tuple l.toArray

/-- What a call comes to. -/
def CallOK (MC : Nat → Code → ACode → Prop) (P : Program) (B0 : Nat) (M : Mach) : Prop :=
  ∀ c H f args rs H', M.call c H f args = some (rs, H') → ∀ g w fv (vs : Array Value), Rel MC P B0 H g w → ScOk c H → V g f fv → vs.size = args.length → (∀ (j : Nat) x, args[j]? = some x → V g x (vs[j]?.getD undef)) →
    ∃ fr0, Begins P w fv vs fr0 ∧ ∀ fr cs, ∃ us w' g' fs, Steps P (lone fr0 (fr :: cs) w) (lone (fr.finish (packV us)) cs w') ∧ RVs g' rs us fs ∧ FsOk MC P g' w' (OkB B0 H g w) fs ∧ Rel MC P B0 H' g' w' ∧ Ext H g w H' g' w' ∧ ScOk c H' ∧ Unborn H g g'

theorem evs_len {s : Slots} : ∀ {xs : List Opd} {vs : List AV}, evs s xs = some vs → vs.length = xs.length
  | [], vs, h => by simp only [evs, Option.some.injEq] at h; simp [← h]
  | x :: xs, vs, h => by
    simp only [evs, Option.bind_eq_some_iff, Option.map_eq_some_iff] at h
    obtain ⟨v, _, l, hl, rfl⟩ := h
    simp [evs_len hl]

theorem matchOpds_len : ∀ {xs : List Operand} {ys : List Opd}, matchOpds xs ys = true → xs.length = ys.length
  | [], [], _ => rfl
  | [], _ :: _, h => by simp [matchOpds] at h
  | _ :: _, [], h => by simp [matchOpds] at h
  | x :: l, y :: m, h => by simp only [matchOpds, Bool.and_eq_true] at h; simp [matchOpds_len h.2]

/-- Nothing turns where all arrays are public. -/
theorem frv_pub {H H' : AHeap} {v v' : AV} (hp : pubbed H v = true) (h : frv H v = some (v', H')) : H' = H := by
  unfold frv at h
  repeat' split at h
  all_goals first
    | (cases h; done)
    | (simp only [Option.some.injEq, Prod.mk.injEq] at h; exact h.2.symm)
    | (simp_all [pubbed])
theorem frvL_pub : ∀ {l l' : List AV} {H H' : AHeap}, l.all (pubbed H) = true → frvL H l = some (l', H') → H' = H
  | [], l', H, H', _, h => by simp only [frvL, Option.some.injEq, Prod.mk.injEq] at h; exact h.2.symm
  | v :: l, l', H, H', hp, h => by
    simp only [List.all_cons, Bool.and_eq_true] at hp
    simp only [frvL] at h
    split at h
    · cases h
    · next v1 H1 e1 =>
      have := frv_pub hp.1 e1
      subst this
      split at h
      · cases h
      · next l2 H2 e2 =>
        simp only [Option.some.injEq, Prod.mk.injEq] at h
        exact h.2 ▸ frvL_pub hp.2 e2
theorem frvA_pub {H H' : AHeap} {v v' : AV} (hp : pubbedA H v = true) (h : frvA H v = some (v', H')) : H' = H := by
  unfold frvA at h
  split at h
  · next cs =>
    cases hl : frvL H cs with
    | none => simp [hl] at h
    | some r => simp only [hl, Option.map_some, Option.some.injEq, Prod.mk.injEq] at h; exact h.2 ▸ frvL_pub (by simpa [pubbedA] using hp) (l' := r.1) (H' := r.2) hl
  · simp only [Option.some.injEq, Prod.mk.injEq] at h; exact h.2.symm
  · refine frv_pub ?_ h
    rename_i h1 h2
    cases v <;> first | exact hp | exact absurd rfl (h1 _)
theorem frvAs_pub : ∀ {l l' : List AV} {H H' : AHeap}, l.all (pubbedA H) = true → frvAs H l = some (l', H') → H' = H
  | [], l', H, H', _, h => by simp only [frvAs, Option.some.injEq, Prod.mk.injEq] at h; exact h.2.symm
  | v :: l, l', H, H', hp, h => by
    simp only [List.all_cons, Bool.and_eq_true] at hp
    simp only [frvAs] at h
    split at h
    · cases h
    · next v1 H1 e1 =>
      have := frvA_pub hp.1 e1
      subst this
      split at h
      · cases h
      · next l2 H2 e2 =>
        simp only [Option.some.injEq, Prod.mk.injEq] at h
        exact h.2 ▸ frvAs_pub hp.2 e2

theorem V_packed {g : Ghost} {xs : List AV} {us : List Value} (hl : xs.length = us.length) (h : ∀ (i : Nat) x, xs[i]? = some x → V g x (us[i]?.getD undef)) : V g (packed xs) (packV us) := by
  match xs, us, hl with
  | [], [], _ => exact .tup [] #[] rfl (by simp)
  | [x], [u], _ => exact h 0 x rfl
  | x :: y :: l, u :: v :: m, hl =>
    simp only [packed, packV]
    exact .tup _ _ (by simpa using hl.symm) (fun j z hz => by simpa using h j z hz)

variable {M : Mach} {b : Frame} {k : List Item} {cs : List Frame} {ops : Array Oper} {nt n0 : Nat} {c : Sc}

/-- An operation, from where it sees what it may see. -/
theorem core_sound (hM : CallOK MC P B0 M) {a : Act} {s : Slots} {H H' : AHeap} {g : Ghost} {w : World} {i : Nat} {rest : List Nat} {o : Oper} {op : AOp} {v : AV} (ho : ops[i]? = some o) (hw : Region.wanted o (yielded ops a.tmps) = true)
    (hok : opOk op = true) (hm : matchOp P o.op op = true) (hR : Rel MC P B0 H g w) (hS : SlotsOk g s a.tmps) (hC : ScOk c H) (hn : c.cur ≤ n0) (hF : Free H g n0 (ranksOf op)) (hnd : (ranksOf op).Nodup) (h : core M c n0 s H op = some (v, H')) :
    ∃ x w' g', Steps P (lone (b.atR a (.inRegion ops (i :: rest) :: k)) cs w) (lone (b.atR (a.put o.dst x) (.inRegion ops rest :: k)) cs w') ∧ V g' v x ∧ Rel MC P B0 H' g' w' ∧ Ext H g w H' g' w' ∧ ScOk c H' ∧
      ∀ i, i < H.length → i ∉ (ranksOf op).map (n0 + ·) → g.L i = .none → g'.L i = .none := by
  by_cases hcall : ∃ f args own pure, op = .call f args own pure
  · obtain ⟨f, args, own, pure, rfl⟩ := hcall
    simp only [core] at h
    simp only [matchOp] at hm
    split at hm
    · next f0 args0 ats hop =>
      simp only [Bool.and_eq_true] at hm
      obtain ⟨hm1, hm2⟩ := hm
      have hB : B0 ≤ w.heap.size := hR.b0
      simp only [callOp] at h
      split at h
      · next fv as he1 he2 =>
        have hVf := ev_V hS hm1 he1
        have hVas := evs_V hS hm2 he2
        have hlen : (args0.map a.eval).toList.length = as.length := by simp [evs_len he2]; simpa using matchOpds_len hm2
        have hVas' : ∀ (j : Nat) x, as[j]? = some x → V g x ((args0.map a.eval).toList[j]?.getD undef) := by
          have := evs_V hS hm2 he2
          first
            | exact this
            | (intro j x hj; have := this j x hj; simpa using this)
            | (intro j x hj; obtain ⟨q1, q2⟩ := this; have := q2 j x hj; simpa using this)
        have finish : ∀ (x : Value), (b.atR a (.inRegion ops (i :: rest) :: k)).finish x = b.atR (a.put o.dst x) (.inRegion ops rest :: k) := by
          intro x
          have hf := Frame.finish_atR b a ops i rest k x
          rw [ho] at hf; exact hf
        split at h
        · next hpure =>
          split at h
          · next hpub =>
            split at h
            · cases h
            · next as' H1 hfr =>
              have e1 := frvAs_pub hpub hfr
              subst e1
              obtain ⟨g1, hFz, hl1, hV1⟩ := frvAs_sound hR hlen hVas' hfr
              split at h
              · cases h
              · next rs H2 hcl =>
                split at h
                · next hbd =>
                  simp only [Option.some.injEq, Prod.mk.injEq] at h
                  obtain ⟨rfl, rfl⟩ := h
                  obtain ⟨fr0, hb, hgo⟩ := hM _ _ _ _ _ _ hcl g1 w (a.eval f0) (args0.map a.eval) hFz.rel.ro hC.ro (hVf.mono hFz.ext.le) (by rw [hl1]; simpa using hlen) (fun j x hj => by simpa using hV1 j x hj)
                  obtain ⟨us, w', g2, fs, hs, hrv, hfs, hR2, hE2, hC2, hU2⟩ := hgo (b.atR a (.inRegion ops (i :: rest) :: k)) cs
                  obtain ⟨hR3, hE3⟩ := hFz.rel.backRo hE2 hR2
                  have hE4 := hFz.ext.trans hE3
                  have hun : ∀ j, j < H1.length → g.L j = .none → (cutG H1.length g2).L j = .none := by
                    intro j hj hjn
                    rw [cutG_L hj]
                    exact hU2 j (by simpa using hj) (by rw [hFz.L]; exact hjn)
                  obtain ⟨g3, hx, hxl, hc3, _⟩ := inVs_sound (n0 := n0) (own := own) (l := rs) hnd hE4 hR3 (hrv.cut hbd) (rest := []) (by simpa using (hfs.cut (N := H1.length)).weaken (fun β hβ => OkB.back hFz.ext (OkB.ofRo hβ))) (fun r hr => by
                    obtain ⟨q1, q2⟩ := hF r hr
                    exact ⟨q1, hun _ q1 q2⟩)
                  refine ⟨packV us, w', g3, ?_, V_packed hxl hx, hc3.rel, hc3.ext, inVs_sc hn hC, ?_⟩
                  · exact .head (step_begins ho hw hop hb) (by rw [← finish]; exact hs)
                  · intro j hj hjn hjg
                    rw [hc3.same j hjn]; exact hun j hj hjg
                · cases h
          · cases h
        · next hpure =>
          split at h
          · cases h
          · next as' H1 hfr =>
            obtain ⟨g1, hFz, hl1, hV1⟩ := frvAs_sound hR hlen hVas' hfr
            split at h
            · cases h
            · next rs H2 hcl =>
              simp only [Option.some.injEq, Prod.mk.injEq] at h
              obtain ⟨rfl, rfl⟩ := h
              obtain ⟨fr0, hb, hgo⟩ := hM _ _ _ _ _ _ hcl g1 w (a.eval f0) (args0.map a.eval) hFz.rel (frvAs_sc hC hfr) (hVf.mono hFz.ext.le) (by rw [hl1]; simpa using hlen) (fun j x hj => by simpa using hV1 j x hj)
              obtain ⟨us, w', g2, fs, hs, hrv, hfs, hR2, hE2, hC2, hU2⟩ := hgo (b.atR a (.inRegion ops (i :: rest) :: k)) cs
              have hE4 := hFz.ext.trans hE2
              have hun : ∀ j, j < H.length → g.L j = .none → g2.L j = .none := by
                intro j hj hjn
                exact hU2 j (by rw [hFz.len]; exact hj) (by rw [hFz.L]; exact hjn)
              obtain ⟨g3, hx, hxl, hc3, _⟩ := inVs_sound (n0 := n0) (own := own) (l := rs) hnd hE4 hR2 hrv (rest := []) (by simpa using hfs.weaken (fun β hβ => OkB.back hFz.ext hβ)) (fun r hr => by
                obtain ⟨q1, q2⟩ := hF r hr
                exact ⟨Nat.lt_of_lt_of_le q1 hE4.len, hun _ q1 q2⟩)
              refine ⟨packV us, w', g3, ?_, V_packed hxl hx, hc3.rel, hc3.ext, inVs_sc hn hC2, ?_⟩
              · exact .head (step_begins ho hw hop hb) (by rw [← finish]; exact hs)
              · intro j hj hjn hjg
                rw [hc3.same j hjn]; exact hun j hj hjg
      · cases h
    · cases hm
  · have hp : prim c n0 s H op = some (v, H') := by
      cases op with
      | call f args own pure => exact absurd ⟨_, _, _, _, rfl⟩ hcall
      | _ => exact h
    obtain ⟨x, w', g', h1, h2, h3, h4, h5, h6⟩ := prim_sound (a := a) hok hm hR hS hF hnd hp
    exact ⟨x, w', g', .one (step_gives ho hw (not_defer hm) h1), h2, h3, h4, prim_sc hC hn hp, fun i _ hi hn => h6 i hi hn⟩

/-- How things stand in a region. 'rem': the ranks of the operations that are still to come. -/
structure RInv (MC : Nat → Code → ACode → Prop) (P : Program) (B0 nt : Nat) (c : Sc) (n0 lo : Nat) (fn : Bool) (rem : List Nat) (s : Slots) (H : AHeap) (g : Ghost) (a : Act) (w : World) : Prop where
  rel : Rel MC P B0 H g w
  slots : SlotsOk g s a.tmps
  size : a.tmps.size = nt
  sc : ScOk c H
  cn : c.cur ≤ n0
  free : Free H g n0 rem
  dl : fn = true → DefOk lo a.defers g w

theorem oper_sound (hM : CallOK MC P B0 M) {lo : Nat} {fn : Bool} {a : Act} {s s' : Slots} {H H' : AHeap} {hc hc' : List (Option (List Nat))} {g : Ghost} {w : World} {rest : List Nat} {ao : AOper} {rem : List Nat} (hm : matchOper P ops nt ao = true)
    (hI : RInv MC P B0 nt c n0 lo fn (ranksOf ao.op ++ rem) s H g a w) (hnd : (ranksOf ao.op ++ rem).Nodup) (h : oper M c n0 s H hc ao = some (s', H', hc')) :
    ∃ a' g' w', Steps P (lone (b.atR a (.inRegion ops (ao.src :: rest) :: k)) cs w) (lone (b.atR a' (.inRegion ops rest :: k)) cs w') ∧ RInv MC P B0 nt c n0 lo fn rem s' H' g' a' w' ∧ Ext H g w H' g' w' ∧
      ∀ i, i < n0 → i < H.length → g.L i = .none → g'.L i = .none := by
  unfold matchOper at hm
  split at hm
  · cases hm
  · next o ho =>
    simp only [Bool.and_eq_true] at hm
    obtain ⟨⟨⟨⟨m1, m2⟩, m3⟩, m4⟩, m5⟩ := hm
    have hdst : o.dst = ao.dst := by simpa using m3
    have hd : ∀ d, ao.dst = some d → d < a.tmps.size := by
      intro d he; rw [he] at m4; rw [hI.size]; simpa using m4
    obtain ⟨n1, n2, n3⟩ := List.nodup_append.1 hnd
    have hF1 : Free H g n0 (ranksOf ao.op) := fun r hr => hI.free r (List.mem_append_left _ hr)
    unfold oper at h
    split at h
    · cases h
    · next hwt =>
      have hw := wanted_eq m5 hI.slots hwt
      simp only [Option.some.injEq, Prod.mk.injEq] at h
      obtain ⟨rfl, rfl, rfl⟩ := h
      refine ⟨a.put o.dst undef, g, w, .one (step_unwanted ho hw), ⟨hI.rel, ?_, by rw [put_size]; exact hI.size, hI.sc, hI.cn, fun r hr => hI.free r (List.mem_append_right _ hr), by rw [put_defers]; exact hI.dl⟩, Ext.refl _ _ _, fun _ _ _ h => h⟩
      rw [hdst]; exact hI.slots.put (V_skip g) hd
    · next hwt =>
      have hw := wanted_eq m5 hI.slots hwt
      split at h
      · next hs heq1 heq2 =>
        split at h
        · next r hr =>
          split at h
          case isFalse => cases h
          simp only [Option.some.injEq, Prod.mk.injEq] at h
          obtain ⟨rfl, rfl, rfl⟩ := h
          obtain ⟨v, H2⟩ := r
          obtain ⟨x, w', g', q1, q2, q3, q4, q5, q6⟩ := core_sound (b := b) (k := k) (cs := cs) (rest := rest) hM ho hw m2 m1 (hI.rel.hide hs) hI.slots (hI.sc.hide hs) hI.cn (fun r hr => by rw [hide_len]; exact hF1 r hr) n1 hr
          obtain ⟨e1, e2⟩ := hI.rel.unhide hs q4 q3
          have hlen : H.length ≤ H2.length := by have := q4.len; rwa [hide_len] at this
          have q6' : ∀ i, i < H.length → i ∉ (ranksOf ao.op).map (n0 + ·) → g.L i = .none → g'.L i = .none := fun i hi => q6 i (by rw [hide_len]; exact hi)
          refine ⟨a.put o.dst x, g', w', q1, ⟨e1, ?_, by rw [put_size]; exact hI.size, hI.sc.unhide q5 hlen hs, hI.cn, ?_, ?_⟩, e2, ?_⟩
          · rw [hdst]; exact (hI.slots.mono e2.le).put q2 hd
          · intro r hr
            obtain ⟨p1, p2⟩ := hI.free r (List.mem_append_right _ hr)
            refine ⟨by rw [unhide_len]; exact Nat.lt_of_lt_of_le p1 hlen, q6' _ p1 ?_ p2⟩
            intro hmem
            obtain ⟨r', hr', he⟩ := List.mem_map.1 hmem
            have : r' = r := by omega
            subst this
            exact n3 r' hr' r' hr rfl
          · intro hfn; rw [put_defers]; exact (hI.dl hfn).ext e2
          · intro i hi hil hn
            refine q6' i hil ?_ hn
            intro hmem
            obtain ⟨r', _, he⟩ := List.mem_map.1 hmem
            omega
        · cases h
      · cases h

theorem opers_sound (hM : CallOK MC P B0 M) {lo : Nat} {fn : Bool} : ∀ {l : List AOper} {a : Act} {s s' : Slots} {H H' : AHeap} {hc : List (Option (List Nat))} {g : Ghost} {w : World}, (l.all fun o => matchOper P ops nt o) = true →
    RInv MC P B0 nt c n0 lo fn (l.flatMap fun o => ranksOf o.op) s H g a w → (l.flatMap fun o => ranksOf o.op).Nodup → opers M c n0 l s H hc = some (s', H') →
    ∃ a' g' w', Steps P (lone (b.atR a (.inRegion ops (l.map (·.src)) :: k)) cs w) (lone (b.atR a' (.inRegion ops [] :: k)) cs w') ∧ RInv MC P B0 nt c n0 lo fn [] s' H' g' a' w' ∧ Ext H g w H' g' w' ∧
      ∀ i, i < n0 → i < H.length → g.L i = .none → g'.L i = .none
  | [], a, s, s', H, H', hc, g, w, hm, hI, hnd, h => by
    simp only [opers, Option.some.injEq, Prod.mk.injEq] at h
    obtain ⟨rfl, rfl⟩ := h
    exact ⟨a, g, w, .refl _ _, hI, Ext.refl _ _ _, fun _ _ _ h => h⟩
  | o :: l, a, s, s', H, H', hc, g, w, hm, hI, hnd, h => by
    simp only [List.all_cons, Bool.and_eq_true] at hm
    simp only [opers] at h
    split at h
    · cases h
    · next s1 H1 hc1 h1 =>
      simp only [List.flatMap_cons] at hI hnd
      obtain ⟨a1, g1, w1, q1, q2, q3, q4⟩ := oper_sound (b := b) (k := k) (cs := cs) (rest := l.map (·.src)) hM hm.1 hI hnd h1
      obtain ⟨a2, g2, w2, p1, p2, p3, p4⟩ := opers_sound hM hm.2 q2 (List.nodup_append.1 hnd).2.1 h
      exact ⟨a2, g2, w2, q1.trans p1, p2, q3.trans p3, fun i hi hl hn => p4 i hi (Nat.lt_of_lt_of_le hl q3.len) (q4 i hi hl hn)⟩
end
end Am
