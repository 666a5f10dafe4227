/- A slice that is shortened in place; and every operation that calls nothing. -/
import Derived.Test.YtjjmechghfjbmaaAmOut
set_option linter.unusedVariables false
set_option linter.unusedSimpArgs false
set_option linter.unnecessarySimpa false
namespace Am
open Go
section
variable {MC : Nat → Code → ACode → Prop} {P : Program} {B0 : Nat} {c : Sc} {n0 : Nat} {H H' : AHeap} {g : Ghost} {w : World} {s : Slots} {a : Act} {o : Oper} {v : AV}

theorem m_cut {k r : Nat} {x : Opd} {hi : Option Opd} (hm : matchOp P o.op (.cut k x hi r) = true) (hR : Rel MC P B0 H g w) (hS : SlotsOk g s a.tmps) (hF : Free H g n0 [r]) (h : prim c n0 s H (.cut k x hi r) = some (v, H')) : Does MC P B0 a o [n0 + r] H g w v H' := by
  simp only [matchOp] at hm
  split at hm
  · next t x' hi' hop =>
    simp only [Bool.and_eq_true] at hm
    obtain ⟨⟨h1, h2⟩, h4⟩ := hm
    split at h1
    · next e hsl =>
      have hu := sliceOf_spec hsl
      simp at h1
      obtain ⟨⟨hk, hkn⟩, hpos⟩ := h1
      simp only [prim] at h
      split at h
      · next b n hp =>
        split at h
        · next k2 rows hh hw hr =>
          split at h
          · next hb =>
            simp only [Option.some.injEq, Prod.mk.injEq] at h
            obtain ⟨rfl, rfl⟩ := h
            simp only [Bool.and_eq_true, decide_eq_true_eq] at hb
            obtain ⟨hn, b2, b3⟩ := hb
            have hn := Nat.eq_of_beq_eq_true hn
            subst hn
            obtain ⟨v0, hL, hbox⟩ := hR.arrW hw
            have hg := harrW_get hw
            have hVx := ev_V hS h2 hp
            have hsl2 := arr_slen hbox
            have e0 := arr_alias hVx hL (by rw [hsl2])
            obtain ⟨hi0, hn0⟩ := hF r (by simp)
            have q2 : ((hi'.map a.eval) = none ∧ hh = rows.length) ∨ ∃ k, (hi'.map a.eval) = some (.int k hh) := by
              rcases bnd_run h4 hS hr with ⟨e1, e2⟩ | ⟨x2, k, e1, e2⟩
              · exact .inl ⟨by simp [e1], e2⟩
              · exact .inr ⟨k, by simp [e1, e2]⟩
            have hrun : ∀ ad cp, rows.length ≤ cp → a.eval x' = .slice ad rows.length cp →
                (execOp a.eval o).run P w = .ok (.value (.slice (if cp = 0 then ad else ad.map (·.add (0 * k2))) (hh.toNat - 0) (cp - 0))) w := by
              intro ad cp hcp he
              have := run_sliceBounds (P := P) (isSlice := true) (l := 0) (by omega) b2 b3 hcp (.inl ⟨rfl, rfl⟩) q2 w
              obtain ⟨k0, _⟩ := hbox
              simp [execOp, hop, Instr.sliceAt, run_underlying hu, he, Instr.slice, this, run_sizeOf (known_info hkn)]
            obtain ⟨g1, q1, q3, q4, q5⟩ := hR.letgo hg hL (lo := OkB B0 H g w) (fun β hβ => ⟨(hR.base b β hβ).1, .inr ⟨b, _, hg, rfl, hβ⟩⟩)
            have hne : n0 + r ≠ b := by rintro e; rw [← e, hn0] at hL; cases hL
            -- what the new slice is
            have new : ∃ v1, (execOp a.eval o).run P w = .ok (.value v1) w ∧ v1.oneCell' = true ∧ FOk MC P g1 w (OkB B0 H g w) (k2, rows.take hh.toNat, v1) := by
              obtain ⟨k0, hk2, hlen, h5⟩ := q3.box
              rcases h5 with ⟨hr0, hu0⟩ | ⟨β, cp, e', cur, hu0, c1, c2, c3, c4, c5, c6, c7⟩
              · simp only at hr0 hu0
                subst hr0
                rw [hu0] at e0
                simp only [List.length_nil] at b3
                have e1 : hh = 0 := by omega
                subst e1
                have := hrun none 0 (by simp) (by simpa using e0)
                refine ⟨.slice none 0 0, by simpa using this, rfl, ⟨rfl, hk2, by simp, .inl ⟨rfl, rfl⟩⟩, fun β hβ => by simp [FE.blk, GB.blk] at hβ⟩
              · simp only at hu0 c1 c5 hlen
                subst hu0
                have := hrun (some ⟨β, 0, none⟩) cp c1 e0
                have e1 : (if cp = 0 then (some ⟨β, 0, none⟩ : Option Addr) else (some ⟨β, 0, none⟩ : Option Addr).map (·.add (0 * k2))) = some ⟨β, 0, none⟩ := by
                  split
                  · rfl
                  · simp [Addr.add]
                rw [e1] at this
                have hlt : (rows.take hh.toNat).length = hh.toNat := by simp; omega
                refine ⟨.slice (some ⟨β, 0, none⟩) hh.toNat cp, by simpa using this, rfl, ⟨rfl, hk2, fun r hr => hlen r (List.mem_of_mem_take hr), .inr ⟨β, cp, e', cur, by rw [hlt], by rw [hlt]; omega, c2, c3, c4, fun i r j x hi hj => ?_, c6, by simp⟩⟩, fun β' hβ => q3.own β' hβ⟩
                rw [List.getElem?_take] at hi
                split at hi
                · exact c5 i r j x hi hj
                · cases hi
            obtain ⟨v1, r1, r2, r3⟩ := new
            obtain ⟨t1, t2⟩ := Rel.take_over (i := n0 + r) q1.ext q1.rel (by rw [q1.len]; exact hi0) (by rw [q5 _ hne]; exact hn0) r3
            refine ⟨v1, w, _, .inl r1, ?_, t1, t2, by simp [hset], ?_⟩
            · have hsl3 := arr_slen r3.box
              have hlt : (rows.take hh.toNat).length = hh.toNat := by simp; omega
              exact .asl _ _ k2 v1 _ (by simp [updL]) (by rw [hsl3, hlt]; exact Nat.le_refl _) r2 (fun _ => rfl)
            · intro i hi hn
              simp only [List.mem_singleton] at hi
              simp only [updL, if_neg hi]
              exact q1.unb i hn
          · cases h
        · cases h
      · cases h
    · cases h1
  · cases hm

theorem prim_sound {op : AOp} (hok : opOk op = true) (hm : matchOp P o.op op = true) (hR : Rel MC P B0 H g w) (hS : SlotsOk g s a.tmps) (hF : Free H g n0 (ranksOf op)) (hnd : (ranksOf op).Nodup)
    (h : prim c n0 s H op = some (v, H')) : Does MC P B0 a o ((ranksOf op).map (n0 + ·)) H g w v H' := by
  cases op with
  | mv x => exact (p_mv hm hS h).does hR _
  | pick x y z => exact (p_pick hm hS h).does hR _
  | nil k r => exact m_nil hm hR hF h
  | alloc zs owns r => exact m_alloc hm hR hF hnd h
  | box n x r => exact m_box hm hR hS hF h
  | build z parts => exact (p_build hm hS h).does hR _
  | lits k z n parts own => exact m_lits hm hR hS hF h
  | xlits k z n parts => exact (m_xlits hm hR hS h).mono (by simp)
  | load k x => exact (p_load hm hR hS (by rintro rfl; simp [opOk] at hok) h).does hR _
  | store k x y => exact (m_store hm hR hS h).mono (by simp)
  | nilck x => exact (p_nilck hm hS h).does hR _
  | bin op x y => exact (p_bin hm hS h).does hR _
  | beq neg x y => exact (p_beq hm hS h).does hR _
  | cmp neg ks x y => exact (p_cmp hm hS h).does hR _
  | un op x => exact (p_un hm hS h).does hR _
  | conv k x => exact (p_conv hm hS h).does hR _
  | idc x => exact (p_idc hm hS h).does hR _
  | mkfn f x y => exact (p_mkfn hm hS h).does hR _
  | mkmap r => exact m_mkmap hm hR hF h
  | mkslice k b z l cp r => exact m_mkslice hm hR hS hF h
  | sliceS x lo hi => exact (p_sliceS hm hS h).does hR _
  | sliceL k x lo hi => exact (m_sliceL hm hR hS h).mono (by simp)
  | sliceQ k x lo hi => exact (m_sliceQ hm hR hS h).mono (by simp)
  | sliceA k n x => exact (p_sliceA hm hR hS h).does hR _
  | fieldAddr off x => exact (p_fieldAddr hm hS h).does hR _
  | field k off x => exact (p_field hm hS h).does hR _
  | idxS k x i => exact (p_idxS hm hR hS h).does hR _
  | idxA k n x i => exact (p_idxA hm hS h).does hR _
  | idxStr x i => exact (p_idxStr hm hS h).does hR _
  | idxAgg k sz n x i => exact (p_idxAgg hm hS h).does hR _
  | lookup z ag ks x i ok => exact (p_lookup hm hR hS h).does hR _
  | mupd ag ks x y z => exact (m_mupd hm hR hS h).mono (by simp)
  | range x r => exact m_range hm hR hS hF h
  | next x => exact (m_next hm hR hS h).mono (by simp)
  | extract x i => exact (p_extract hm hS h).does hR _
  | lenS x => exact (p_lenS hm hS h).does hR _
  | lenL x => exact (p_lenL hm hR hS h).does hR _
  | lenM x => exact (p_lenM hm hR hS h).does hR _
  | mm mx xs => exact (p_mm hm hS h).does hR _
  | append k b d x r fz => exact m_append hm hR hS hF h
  | copy k d x => exact (m_copy hm hR hS h).mono (by simp)
  | cut k x hi r => exact m_cut hm hR hS hF h
  | call f as own p => simp [prim] at h
end
end Am
