/-
  WordsHeaders, WordsRound: the law's function answers true. No condition beyond the kinds of the numbers.
-/
import Derived.Test.YtaanmpphkbbllaaW04
namespace Go.Proofs.Ytaanmpphkbbllaa
open Go.Sh Go.RowKit
set_option maxRecDepth 100000
theorem headers_spec (h : Hd) (a b : Int) (ha : 0 ≤ a ∧ a < 18446744073709551616) (hb : 0 ≤ b ∧ b < 18446744073709551616) (w : World) : Ok (f3_palaverlaw01_WordsHeaders h a b) w fun r w' => r = true ∧ Below w.heap.size w w' := by
  unfold f3_palaverlaw01_WordsHeaders
  refine ok_bnd.2 (ok_new (h := h) fun w1 h1 B1 s1 => ?_)
  refine ok_bnd.2 (ok_mono (works_spec w1) ?_)
  rintro r w2 ⟨rfl, B2⟩
  have h2 := has_below h1 B2 (has_lt h1)
  have B2 := B1.trans (B2.mono (by omega))
  refine ok_bnd.2 (ok_lh h2 (ok_bnd.2 (ok_mono (pack_spec h w2) ?_)))
  rintro r w3 ⟨rfl, B3⟩
  have h3 := has_below h2 B3 (has_lt h2)
  have B3 := B2.trans (B3.mono B2.size)
  refine ok_bnd.2 (ok_lh h3 (ok_bnd.2 (ok_mono (packR_spec h w3) ?_)))
  rintro r w4 ⟨rfl, B4⟩
  have B4 := B3.trans (B4.mono B3.size)
  refine ok_bnd.2 (ok_mono (unpack_spec a b ha hb w4) ?_)
  rintro r w5 ⟨rfl, B5⟩
  have B5 := B4.trans (B5.mono B4.size)
  refine ok_bnd.2 (ok_new (h := zh) fun w6 h6 B6 s6 => ?_)
  have B6 := B5.trans (B6.mono B5.size)
  refine ok_bnd.2 (ok_wr (h := (unpackS a b).1) h6 fun w7 h7 B7 s7 _ => ?_)
  have B7 := B6.trans (B7.mono B5.size)
  refine ok_bnd.2 (ok_mono (unpackR_spec a b ha hb w7) ?_)
  rintro r w8 ⟨rfl, B8⟩
  have h8 := has_below h7 B8 (has_lt h7)
  have z8 := B8.size
  have B8 := B7.trans (B8.mono B7.size)
  refine ok_bnd.2 (ok_new (h := zh) fun w9 h9 B9 s9 => ?_)
  have k9 := has_below h8 B9 (has_lt h8)
  have B9 := B8.trans (B9.mono B8.size)
  refine ok_bnd.2 (ok_wr (h := (unpackS a b).1) h9 fun w10 h10 B10 s10 hk => ?_)
  have k10 := hk _ _ (by have := has_lt h8; omega) k9
  have B10 := B9.trans (B10.mono B8.size)
  refine ok_bnd.2 (ok_true (by simp) (ok_bnd.2 (ok_lh k10 (ok_bnd.2 (ok_lh h10 (ok_ret.2 (ok_ret.2 ⟨?_, B10⟩)))))))
  simp
theorem packS_in {h : Hd} (hm : May h) : packS h = (h.1 + h.2.1 * 4096 + h.2.2.1 * 32768 + h.2.2.2.1 * 262144 + h.2.2.2.2.1 * 1099511627776 + (cond h.2.2.2.2.2.2.1 1 0) * 17592186044416 + (cond h.2.2.2.2.2.2.2 1 0) * 35184372088832, h.2.2.2.2.2.1, 0) := if_pos hm
theorem packS_out {h : Hd} (hm : ¬May h) : packS h = (0, 0, 10) := if_neg hm
theorem c01 (b : Bool) : b = decide ((cond b 1 0 : Int) = 1) := by cases b <;> rfl
theorem unpack_pack {h : Hd} (hm : May h) : unpackS (packS h).1 (packS h).2.1 = (h, 0) := by
  rw [packS_in hm]
  dsimp only
  have m := b01 h.2.2.2.2.2.2.1
  have t := b01 h.2.2.2.2.2.2.2
  have e : flds (h.1 + h.2.1 * 4096 + h.2.2.1 * 32768 + h.2.2.2.1 * 262144 + h.2.2.2.2.1 * 1099511627776 + (cond h.2.2.2.2.2.2.1 1 0) * 17592186044416 + (cond h.2.2.2.2.2.2.2 1 0) * 35184372088832) h.2.2.2.2.2.1 = h := by
    have hm' := hm
    unfold May at hm'
    refine Prod.ext ?_ (Prod.ext ?_ (Prod.ext ?_ (Prod.ext ?_ (Prod.ext ?_ (Prod.ext ?_ (Prod.ext ?_ ?_))))))
    · simp only [flds]; omega
    · simp only [flds]; omega
    · simp only [flds]; omega
    · simp only [flds]; omega
    · simp only [flds]; omega
    · simp only [flds]
    · simp only [flds]; refine Eq.trans ?_ (c01 _).symm; exact eq_dec (by rw [decide_eq_true_iff]; omega)
    · simp only [flds]; refine Eq.trans ?_ (c01 _).symm; exact eq_dec (by rw [decide_eq_true_iff]; omega)
  have hr : (h.1 + h.2.1 * 4096 + h.2.2.1 * 32768 + h.2.2.2.1 * 262144 + h.2.2.2.2.1 * 1099511627776 + (cond h.2.2.2.2.2.2.1 1 0) * 17592186044416 + (cond h.2.2.2.2.2.2.2 1 0) * 35184372088832) < 70368744177664 ∧ h.2.2.2.2.2.1 ≤ 65536 := by
    unfold May at hm
    omega
  unfold unpackS
  rw [if_pos ⟨hr.1, hr.2, by rw [e]; exact hm⟩, e]
theorem dc01 (p : Prop) [Decidable p] : (cond (decide p) 1 0 : Int) = if p then 1 else 0 := by by_cases h : p <;> simp [h]
theorem pack_unpack {a b : Int} (ha : 0 ≤ a ∧ a < 70368744177664) (hm : May (flds a b)) : packS (flds a b) = (a, b, 0) := by
  rw [packS_in hm]
  refine Prod.ext ?_ rfl
  simp only [flds, dc01]
  split <;> split <;> omega
theorem round_spec (h : Hd) (a b : Int) (ha : 0 ≤ a ∧ a < 18446744073709551616) (hb : 0 ≤ b ∧ b < 18446744073709551616) (w : World) : Ok (f4_palaverlaw01_WordsRound h a b) w fun r w' => r = true ∧ Below w.heap.size w w' := by
  unfold f4_palaverlaw01_WordsRound
  refine ok_bnd.2 (ok_new (h := h) fun w1 h1 B1 s1 => ?_)
  refine ok_bnd.2 (ok_mono (works_spec w1) ?_)
  rintro r w2 ⟨rfl, B2⟩
  have h2 := has_below h1 B2 (has_lt h1)
  have B2 := B1.trans (B2.mono (by omega))
  refine ok_bnd.2 (ok_lh h2 (ok_bnd.2 (ok_mono (pack_spec h w2) ?_)))
  rintro r w3 ⟨rfl, B3⟩
  have h3 := has_below h2 B3 (has_lt h2)
  have B3 := B2.trans (B3.mono B2.size)
  refine ok_bnd.2 (ok_mono (Q := fun r w' => r = Sum.inl () ∧ Below w.heap.size w w') ?_ ?_)
  · by_cases hm : May h
    · refine ok_true (by rw [packS_in hm]; rfl) ?_
      have hr : (0 ≤ (packS h).1 ∧ (packS h).1 < 18446744073709551616) ∧ 0 ≤ (packS h).2.1 ∧ (packS h).2.1 < 18446744073709551616 := by
        rw [packS_in hm]
        dsimp only
        have m := b01 h.2.2.2.2.2.2.1
        have t := b01 h.2.2.2.2.2.2.2
        unfold May at hm
        omega
      refine ok_bnd.2 (ok_mono (unpack_spec _ _ hr.1 hr.2 w3) ?_)
      rintro r w4 ⟨rfl, B4⟩
      have h4 := has_below h3 B4 (has_lt h3)
      have B4 := B3.trans (B4.mono B3.size)
      rw [unpack_pack hm]
      refine ok_bnd.2 (ok_new (h := zh) fun w5 h5 B5 s5 => ?_)
      have k5 := has_below h4 B5 (has_lt h4)
      have B5 := B4.trans (B5.mono B4.size)
      refine ok_bnd.2 (ok_wr (h := h) h5 fun w6 h6 B6 s6 hk => ?_)
      have k6 := hk _ _ (by have := has_lt h4; omega) k5
      have B6 := B5.trans (B6.mono B4.size)
      refine ok_bnd.2 (ok_false rfl (ok_bnd.2 (ok_lh h6 (ok_bnd.2 (ok_lh k6 (ok_ret.2 (ok_false ?_ (ok_ret.2 ⟨rfl, B6⟩))))))))
      simp
    · refine ok_false (by rw [packS_out hm]; rfl) (ok_ret.2 ⟨rfl, B3⟩)
  rintro r w4 ⟨rfl, B4⟩
  dsimp only
  refine ok_bnd.2 (ok_mono (unpack_spec a b ha hb w4) ?_)
  rintro r w5 ⟨rfl, B5⟩
  have B5 := B4.trans (B5.mono B4.size)
  refine ok_bnd.2 (ok_new (h := zh) fun w6 h6 B6 s6 => ?_)
  have B6 := B5.trans (B6.mono B5.size)
  refine ok_bnd.2 (ok_wr (h := (unpackS a b).1) h6 fun w7 h7 B7 s7 _ => ?_)
  have B7 := B6.trans (B7.mono B5.size)
  refine ok_bnd.2 (ok_mono (Q := fun r w' => r = Sum.inl () ∧ Below w.heap.size w w') ?_ ?_)
  · by_cases hc : a < 70368744177664 ∧ b ≤ 65536 ∧ May (flds a b)
    · have e : unpackS a b = (flds a b, 0) := if_pos hc
      rw [e] at h7 ⊢
      refine ok_true rfl (ok_bnd.2 (ok_lh h7 (ok_bnd.2 (ok_mono (pack_spec _ w7) ?_))))
      rintro r w8 ⟨rfl, B8⟩
      rw [pack_unpack ⟨ha.1, hc.1⟩ hc.2.2]
      exact ok_false (by simp) (ok_ret.2 ⟨rfl, B7.trans (B8.mono B7.size)⟩)
    · have e : unpackS a b = (zh, 10) := if_neg hc
      rw [e]
      exact ok_false rfl (ok_ret.2 ⟨rfl, B7⟩)
  rintro r w8 ⟨rfl, B8⟩
  exact ok_ret.2 ⟨rfl, B8⟩
end Go.Proofs.Ytaanmpphkbbllaa
