/-
  Part of the proof: B12
-/
import Derived.Test.YtpgalllceejpnaaB11
set_option linter.unusedSimpArgs false
set_option linter.unusedVariables false
namespace Go.Proofs.Ytpgalllceejpnaa
set_option linter.unusedVariables false
open Go.Sh Go.RowKit
set_option maxRecDepth 100000
theorem new_spec (W H D : Int) (w : World) : Ok (f10_bitblt_New W H D) w fun r w' => Below w.heap.size w w' ∧ (if Sized (W, H, D, ⟨none, 0, 0⟩) then r.2 = 0 ∧ r.1.1 = W ∧ r.1.2.1 = H ∧ r.1.2.2.1 = D ∧ Own w.heap.size w' r.1.2.2.2 (wds (List.replicate (st (W, H, D, ⟨none, 0, 0⟩) * H).toNat 0)) else r = (zf, 110)) := by
  unfold f10_bitblt_New
  refine ok_bnd.2 (ok_newForm (h := zf) fun w1 h1 B1 s1 => ?_)
  refine ok_bnd.2 (ok_newForm (h := zf) fun w2 h2 B2 s2 => ?_)
  have h1 := hasForm_size h1 B2
  have B2 := B1.trans (B2.mono (by omega))
  refine ok_bnd.2 (ok_wrForm (h := (W, H, D, ⟨none, 0, 0⟩)) h2 fun w3 h2 B3 s3 k3 => ?_)
  have h1 := form_off h1 k3 (by omega)
  have B3 := B2.trans (B3.mono (by omega))
  refine ok_bnd.2 (ok_Form h2 (ok_bnd.2 (ok_mono (sized_spec _ w3) ?_)))
  rintro r w4 ⟨rfl, B4⟩
  have h1 := hasForm_size h1 B4
  have h2 := hasForm_size h2 B4
  have z4 := B4.size
  have B4 := B3.trans (B4.mono (by omega))
  by_cases hs : Sized (W, H, D, ⟨none, 0, 0⟩)
  · simp only [if_pos hs]
    refine ok_false (by simp [hs]) (ok_bnd.2 (ok_Form h2 (ok_bnd.2 (ok_mono (stride_spec _ w4) ?_))))
    rintro r w5 ⟨rfl, B5⟩
    have h1 := hasForm_size h1 B5
    have h2 := hasForm_size h2 B5
    have z5 := B5.size
    have B5 := B4.trans (B5.mono (by omega))
    rw [strd_eq hs.1 hs.2.1]
    have hst := st_rng hs.1 hs.2.1
    have hm := mul_bnd hst hs.2.2.1
    have hm' : 0 ≤ st (W, H, D, ⟨none, 0, 0⟩) * H ∧ st (W, H, D, ⟨none, 0, 0⟩) * H ≤ 1048576 := ⟨hm.1, hs.2.2.2⟩
    rw [wrapI_in (by omega)]
    refine ok_bnd.2 (ok_make slt hm'.1 (Int.le_refl _) (by omega) (by omega) ?_)
    obtain ⟨n, hn⟩ : ∃ n, n = (st (W, H, D, ⟨none, 0, 0⟩) * H).toNat := ⟨_, rfl⟩
    rw [← hn]
    have hn2 : n ≤ 1048576 := by omega
    have B6 : Below w5.heap.size w5 (w5.alloc (.cells (List.replicate n (Value.int .u32 0)).toArray 25)) := (Below.refl _ _).alloc (Nat.le_refl _) _
    have O6 : Own w5.heap.size (w5.alloc (.cells (List.replicate n (Value.int .u32 0)).toArray 25)) ⟨some ⟨w5.heap.size, 0, none⟩, n, n⟩ (wds (List.replicate n 0)) := by
      refine ⟨by simp, Nat.le_refl _, by simp only [maxLen]; omega, .inr ⟨_, _, rfl, Nat.le_refl _, by rw [blk_alloc, if_pos rfl], by rw [fre_alloc, if_pos rfl], by simp, fun i hi => by rw [List.getElem?_toArray]; simp [wds]⟩⟩
    have h1 := hasForm_size h1 B6
    have h2 := hasForm_size h2 B6
    have z6 := B6.size
    have B6 := B5.trans (B6.mono (by omega))
    have s6 : (w5.alloc (.cells (List.replicate n (Value.int .u32 0)).toArray 25)).heap.size = w5.heap.size + 1 := by simp
    generalize w5.alloc (.cells (List.replicate n (Value.int .u32 0)).toArray 25) = w6 at h1 h2 O6 B6 z6 s6 ⊢
    refine ok_bnd.2 (ok_wrForm3 (x := ⟨some ⟨w5.heap.size, 0, none⟩, n, n⟩) h2 fun w7 h2 B7 s7 k7 => ?_)
    have h1 := form_off h1 k7 (by omega)
    have O7 := own_off O6 k7 (by omega)
    have B7 := B6.trans (B7.mono (by omega))
    refine ok_bnd.2 (ok_Form h2 (ok_bnd.2 (ok_wrForm (h := (W, H, D, ⟨some ⟨w5.heap.size, 0, none⟩, n, n⟩)) h1 fun w8 h1 B8 s8 k8 => ?_)))
    have O8 := own_off O7 k8 (by omega)
    exact ok_bnd.2 (ok_Form h1 (ok_ret.2 ⟨B7.trans (B8.mono (by omega)), rfl, rfl, rfl, rfl, own_mono O8 (by omega)⟩))
  · simp only [if_neg hs]
    refine ok_true (by simp [hs]) (ok_bnd.2 (ok_wrForm (h := zf) h1 fun w5 h1 B5 s5 k5 => ?_))
    exact ok_bnd.2 (ok_Form h1 (ok_ret.2 ⟨B4.trans (B5.mono (by omega)), rfl⟩))
theorem rule_spec (r s d : Int) (w : World) : Ok (f20_bitblt_Rule r s d) w fun q w' => q = (if 0 ≤ r ∧ r ≤ 15 then (ruleF r s d, 0) else (0, 111)) ∧ w' = w := by
  unfold f20_bitblt_Rule
  by_cases h : 0 ≤ r ∧ r ≤ 15
  · rw [if_pos h]
    refine ok_false (by simp [Gf36_bitblt_within, h]) (ok_bnd.2 (ok_mono (ruled_spec r h w) ?_))
    rintro v w1 ⟨rfl, _, hd⟩
    exact ok_bnd.2 (ok_of (hd s d _) (ok_ret.2 ⟨rfl, rfl⟩))
  · rw [if_neg h]
    exact ok_true (by simp [Gf36_bitblt_within]; omega) (ok_ret.2 ⟨rfl, rfl⟩)
/-- Where a pixel stands. -/
def plc (f : Form) (x y : Int) : Int × Int := (y * st f + x * f.2.2.1 / 32, 32 - x * f.2.2.1 % 32 - f.2.2.1)
theorem place_rng {f : Form} {x : Int} (hd : Dep f.2.2.1) (hw : 0 ≤ f.1 ∧ f.1 ≤ 4096) (hx : 0 ≤ x ∧ x < f.1) : 0 ≤ x * f.2.2.1 ∧ x * f.2.2.1 ≤ 131072 ∧ x * f.2.2.1 / 32 < st f ∧ 0 ≤ 32 - x * f.2.2.1 % 32 - f.2.2.1 ∧ 32 - x * f.2.2.1 % 32 - f.2.2.1 ≤ 31 := by
  unfold st Dep at *
  rcases hd with h | h | h | h | h | h <;> rw [h] <;> omega
theorem place_spec (f : Form) (x y : Int) (w : World) (hs : Sized f) (hx : 0 ≤ x ∧ x < f.1) (hy : 0 ≤ y ∧ y < f.2.1) : Ok (f37_bitblt_place f x y) w fun r w' => r = plc f x y ∧ Below w.heap.size w w' := by
  have hp := place_rng hs.1 hs.2.1 hx
  have hst := st_rng hs.1 hs.2.1
  have hg := hs.2.2.1
  have hyy := mul_bnd (show 0 ≤ y ∧ y ≤ 4096 by omega) hst
  have hdr := dep_rng hs.1
  unfold f37_bitblt_place
  refine ok_bnd.2 (ok_newForm (h := f) fun w1 h1 B1 s1 => ?_)
  refine ok_bnd.2 (ok_Form2 h1 (ok_bnd.2 (ok_drawM.2 ?_)))
  have h1 := hasForm_drew h1
  have B1 := B1.drew
  refine ok_bnd.2 (ok_Form h1 (ok_bnd.2 (ok_Form2 h1 (ok_bnd.2 (ok_mono (stride_spec f _) ?_)))))
  rintro r w2 ⟨rfl, B2⟩
  have h1 := hasForm_size h1 B2
  have B2 := B1.trans (B2.mono B1.size)
  refine ok_bnd.2 (ok_bnd.2 (okc_Form2 h1 (ok_ret.2 (ok_ret.2 ⟨?_, B2⟩))))
  rw [strd_eq hs.1 hs.2.1]
  refine Prod.ext ?_ ?_
  · simp only [plc]
    rw [wrapI_in (n := x * f.2.2.1) (by omega), Int.tdiv_eq_ediv_of_nonneg hp.1, wrapI_in (n := x * f.2.2.1 / 32) (by omega), wrapI_in (n := y * st f) (by omega), wrapI_in (by omega)]
  · simp only [plc]
    rw [wrapI_in (n := x * f.2.2.1) (by omega), Int.tmod_eq_emod_of_nonneg hp.1, wrapI_in (n := 32 - x * f.2.2.1 % 32) (by omega), wrapI_in (by omega)]
noncomputable def onesF (d : Int) : Int := IntKind.wrap .u32 (shlI .u32 1 d.toNat - 1)
theorem ones_of (d : Int) (h : 0 ≤ d) (w : World) : Ok (f38_bitblt_ones d) w fun r w' => r = onesF d ∧ w' = w := by
  unfold f38_bitblt_ones
  exact ok_bnd.2 (ok_cnt.2 ⟨h, ok_ret.2 ⟨rfl, rfl⟩⟩)
/-- A pixel. -/
noncomputable def pixF (f : Form) (l : List Int) (x y : Int) : Int := bAnd .u32 (shrI .u32 (at0 l (plc f x y).1) (plc f x y).2.toNat) (onesF f.2.2.1)
def Inside (f : Form) (x y : Int) : Prop := (0 ≤ x ∧ x < f.1) ∧ 0 ≤ y ∧ y < f.2.1
instance (f : Form) (x y : Int) : Decidable (Inside f x y) := by unfold Inside; infer_instance
noncomputable def pixS (f : Form) (l : List Int) (x y : Int) : Int × Int := if Good f then (if Inside f x y then (pixF f l x y, 0) else (0, 1)) else (0, 110)
theorem plc_in {f : Form} {x y : Int} (hs : Sized f) (hi : Inside f x y) : 0 ≤ (plc f x y).1 ∧ (plc f x y).1 < st f * f.2.1 ∧ 0 ≤ (plc f x y).2 := by
  have hp := place_rng hs.1 hs.2.1 hi.1
  have hst := st_rng hs.1 hs.2.1
  have h1 : 0 ≤ y * st f := Int.mul_nonneg hi.2.1 hst.1
  have h2 := mul_step hi.2.2 hst.1
  have h3 : st f * f.2.1 = f.2.1 * st f := Int.mul_comm _ _
  simp only [plc]
  omega
theorem pixel_spec (f : Form) (l : List Int) (x y : Int) (w : World) (hx : -9223372036854775808 ≤ x ∧ x ≤ 9223372036854775807) (hy : -9223372036854775808 ≤ y ∧ y ≤ 9223372036854775807) (H : Arr w.heap.size w f.2.2.2 (wds l)) :
    Ok (f16_bitblt_Pixel f x y) w fun r w' => r = pixS f l x y ∧ Below w.heap.size w w' := by
  unfold f16_bitblt_Pixel pixS
  refine ok_bnd.2 (ok_newForm (h := f) fun w1 h1 B1 s1 => ?_)
  refine ok_bnd.2 (ok_Form h1 (ok_bnd.2 (ok_mono (check_spec f w1) ?_)))
  rintro r w2 ⟨rfl, B2⟩
  have h1 := hasForm_size h1 B2
  have B2 := B1.trans (B2.mono (by omega))
  unfold errS
  by_cases hg : Good f
  · simp only [if_pos hg]
    have hw := hg.1.2.1
    have hh := hg.1.2.2.1
    refine ok_false (by simp) (ok_bnd.2 (ok_Form0 h1 (ok_bnd.2 ?_)))
    refine ok_mono (Q := fun r w' => r = decide (¬ Inside f x y) ∧ w2 = w') ?_ ?_
    · rw [wrapI_in (n := f.1 - 1) (by omega)]
      refine ok_cnd.2 ⟨fun h => ok_ret.2 ⟨?_, rfl⟩, fun h => ok_bnd.2 (ok_Form1 h1 (ok_ret.2 ⟨?_, rfl⟩))⟩
      · refine eq_dec ?_
        simp only [Gf36_bitblt_within, Bool.cond_false_right, Bool.not_eq_true', Bool.and_eq_false_iff, decide_eq_false_iff_not] at h
        unfold Inside
        simp only [true_iff]
        omega
      · refine eq_dec ?_
        simp only [Gf36_bitblt_within, Bool.cond_false_right, Bool.not_eq_false', Bool.and_eq_true, decide_eq_true_eq] at h
        rw [wrapI_in (n := f.2.1 - 1) (by omega)]
        simp only [Gf36_bitblt_within, Bool.cond_false_right, Bool.not_eq_true', Bool.and_eq_false_iff, decide_eq_false_iff_not]
        unfold Inside
        omega
    rintro r w3 ⟨rfl, rfl⟩
    by_cases hi : Inside f x y
    · simp only [if_pos hi]
      refine ok_false (by simp [hi]) (ok_bnd.2 (ok_Form h1 (ok_bnd.2 (ok_mono (place_spec f x y w2 hg.1 hi.1 hi.2) ?_))))
      rintro r w3 ⟨rfl, B3⟩
      have h1 := hasForm_size h1 B3
      have z3 := B3.size
      have z2 := B2.size
      have B3 := B2.trans (B3.mono z2)
      refine ok_bnd.2 (ok_drawM.2 ?_)
      have h1 := hasForm_drew h1
      have B3 := B3.drew
      have hp := plc_in hg.1 hi
      have hl := good_len hg H
      have Hl := arr_below H B3
      obtain ⟨b, o, c, ha, hb, hc, hval⟩ := arr_words Hl (by intro h; rw [h] at hl; simp at hl; omega)
      have hlen := H.1
      simp only [List.length_map] at hlen
      refine ok_bnd.2 (ok_Form3 h1 (ok_bnd.2 (ok_ix ha hp.1 (by omega) (ok_bnd.2 (ok_ldA hc (rdv_int (by rw [Nat.mul_one]; exact hval _ hp.1 (by omega))) ?_)))))
      refine ok_bnd.2 (ok_cnt.2 ⟨hp.2.2, ok_bnd.2 (ok_Form2 h1 (ok_bnd.2 (ok_mono (ones_of _ (by have := dep_rng hg.1.1; omega) _) ?_)))⟩)
      rintro r w4 ⟨rfl, rfl⟩
      exact ok_bnd.2 (ok_bnd.2 (ok_chkA hc (rdv_int (by rw [Nat.mul_one]; exact hval _ hp.1 (by omega))) (ok_bnd.2 (okc_Form3 h1 (ok_ret.2 (ok_ret.2 ⟨rfl, B3⟩))))))
    · simp only [if_neg hi]
      exact ok_true (by simp [hi]) (ok_ret.2 ⟨rfl, B2⟩)
  · simp only [if_neg hg]
    exact ok_true (by simp) (ok_ret.2 ⟨rfl, B2⟩)
end Go.Proofs.Ytpgalllceejpnaa
