/-
  Part of the proof: B13
-/
import Derived.Test.YtpgalllceejpnaaB12
set_option linter.unusedSimpArgs false
set_option linter.unusedVariables false
namespace Go.Proofs.Ytpgalllceejpnaa
set_option linter.unusedVariables false
open Go.Sh Go.RowKit
set_option maxRecDepth 100000
noncomputable def putL (f : Form) (l : List Int) (x y p : Int) : List Int := l.set (plc f x y).1.toNat (bXor .u32 (at0 l (plc f x y).1) (shlI .u32 (bXor .u32 (pixF f l x y) p) (plc f x y).2.toNat))
theorem put_spec (f : Form) (l : List Int) (x y p : Int) (w : World) (hx : -9223372036854775808 ≤ x ∧ x ≤ 9223372036854775807) (hy : -9223372036854775808 ≤ y ∧ y ≤ 9223372036854775807) (H : Arr w.heap.size w f.2.2.2 (wds l)) :
    Ok (f18_bitblt_Put f x y p) w fun r w' => Below w.heap.size w w' ∧
      (if Good f ∧ Inside f x y ∧ bAndNot .u32 p (onesF f.2.2.1) = 0 then r.2 = 0 ∧ r.1.1 = f.1 ∧ r.1.2.1 = f.2.1 ∧ r.1.2.2.1 = f.2.2.1 ∧ Own w.heap.size w' r.1.2.2.2 (wds (putL f l x y p))
       else r = (zf, if Good f then 1 else 110)) := by
  unfold f18_bitblt_Put
  refine ok_bnd.2 (ok_newForm (h := f) fun w1 h1 B1 s1 => ?_)
  refine ok_bnd.2 (ok_newForm (h := zf) fun w2 h2 B2 s2 => ?_)
  have h1 := hasForm_size h1 B2
  have B2 := B1.trans (B2.mono (by omega))
  have H2 := arr_size (arr_below H B2)
  refine ok_bnd.2 (ok_Form h1 (ok_bnd.2 (ok_mono (pixel_spec f l x y w2 hx hy H2) ?_)))
  rintro r w3 ⟨rfl, B3⟩
  have h1 := hasForm_size h1 B3
  have h2 := hasForm_size h2 B3
  have z3 := B3.size
  have B3 := B2.trans (B3.mono (by omega))
  unfold pixS
  by_cases hg : Good f
  · by_cases hi : Inside f x y
    · simp only [if_pos hg, if_pos hi]
      refine ok_false (by simp) (ok_bnd.2 (ok_Form2 h1 (ok_bnd.2 (ok_mono (ones_of _ (by have := dep_rng hg.1.1; omega) _) ?_))))
      rintro r w4 ⟨rfl, rfl⟩
      by_cases hp : bAndNot .u32 p (onesF f.2.2.1) = 0
      · simp only [if_pos (show Good f ∧ Inside f x y ∧ bAndNot .u32 p (onesF f.2.2.1) = 0 from ⟨hg, hi, hp⟩)]
        refine ok_false (by simp [hp]) (ok_bnd.2 (ok_Form h1 (ok_bnd.2 (ok_mono (place_spec f x y _ hg.1 hi.1 hi.2) ?_))))
        rintro r w5 ⟨rfl, B5⟩
        have h1 := hasForm_size h1 B5
        have h2 := hasForm_size h2 B5
        have z5 := B5.size
        have B5 := B3.trans (B5.mono (by omega))
        have hl := good_len hg H
        refine ok_bnd.2 (ok_Form3 h1 (ok_bnd.2 (ok_mono (clone_spec (arr_below H B5) hl.2) ?_)))
        rintro r12 w6 ⟨O6, B6, _⟩
        have h1 := hasForm_size h1 B6
        have h2 := hasForm_size h2 B6
        have z6 := B6.size
        have B6 := B5.trans (B6.mono (by omega))
        refine ok_bnd.2 (ok_wrForm3 (x := r12) h1 fun w7 h1 B7 s7 k7 => ?_)
        have h2 := form_off h2 k7 (by omega)
        have O7 := own_off O6 k7 (by omega)
        have B7 := B6.trans (B7.mono (by omega))
        refine ok_bnd.2 (ok_drawM.2 ?_)
        have h1 := hasForm_drew h1
        have h2 := hasForm_drew h2
        have B7 := B7.drew
        have hpl := plc_in hg.1 hi
        obtain ⟨e1, e2, e3, e4⟩ := O7
        have el : r12.len = l.length := by simpa using e1
        rcases e4 with ⟨ha, hcap⟩ | ⟨b, c, ha, hB, hc, hf, hcs, hcc⟩
        · omega
        have hcd : blk w7.drew b = some c := hc
        have hfd : fre w7.drew b = true := hf
        have hget : c[0 + (plc f x y).1.toNat]? = some (.int .u32 (at0 l (plc f x y).1)) := by
          rw [Nat.zero_add, hcc _ (by simp; omega), wds_get (by omega), show (((plc f x y).1.toNat : Nat) : Int) = (plc f x y).1 by omega]
        refine ok_bnd.2 (ok_Form3 h1 (ok_bnd.2 (ok_ix ha hpl.1 (by simp only; omega) (ok_bnd.2 (ok_ldA hcd (rdv_int (by rw [Nat.mul_one]; exact hget)) ?_)))))
        refine ok_bnd.2 (ok_cnt.2 ⟨hpl.2.2, ok_bnd.2 (ok_ix ha hpl.1 (by simp only; omega) (ok_bnd.2 (ok_wrA hcd hfd (by rw [Nat.mul_one]; omega) rfl ?_)))⟩)
        rw [Nat.mul_one, Nat.zero_add]
        have hbz := blk_lt hc
        have kk : ∀ k, k ≠ b → blk (World.setBlk w7.drew b (c.setIfInBounds (plc f x y).1.toNat (.int .u32 (bXor .u32 (at0 l (plc f x y).1) (shlI .u32 (bXor .u32 (pixF f l x y) p) (plc f x y).2.toNat))))) k = blk w7.drew k ∧
            fre (World.setBlk w7.drew b (c.setIfInBounds (plc f x y).1.toNat (.int .u32 (bXor .u32 (at0 l (plc f x y).1) (shlI .u32 (bXor .u32 (pixF f l x y) p) (plc f x y).2.toNat))))) k = fre w7.drew k :=
          fun k hk => ⟨by rw [blk_setBlk _ _ _ _ hcd, if_neg hk], by rw [fre_setBlk _ _ _ _ hcd (by simp)]⟩
        have h1 := form_off h1 kk (by omega)
        have h2 := form_off h2 kk (by omega)
        have B8 := below_setBlk B7 (show w.heap.size ≤ b by omega) (c.setIfInBounds (plc f x y).1.toNat (.int .u32 (bXor .u32 (at0 l (plc f x y).1) (shlI .u32 (bXor .u32 (pixF f l x y) p) (plc f x y).2.toNat))))
        have O8 : Own w5.heap.size (World.setBlk w7.drew b (c.setIfInBounds (plc f x y).1.toNat (.int .u32 (bXor .u32 (at0 l (plc f x y).1) (shlI .u32 (bXor .u32 (pixF f l x y) p) (plc f x y).2.toNat))))) r12 (wds (putL f l x y p)) := by
          refine ⟨by simp [putL, el], e2, e3, .inr ⟨b, _, ha, hB, by rw [blk_setBlk _ _ _ _ hcd, if_pos rfl], by rw [fre_setBlk _ _ _ _ hcd (by simp)]; exact hfd, by simp [hcs], fun i hii => ?_⟩⟩
          simp only [putL, List.length_map, List.length_set] at hii
          rw [Array.getElem?_setIfInBounds]
          by_cases hj : (plc f x y).1.toNat = i
          · rw [if_pos hj, if_pos (by omega)]
            simp [putL, wds, ← hj, show (plc f x y).1.toNat < l.length by omega]
          · rw [if_neg hj, hcc i (by simpa using hii)]
            simp [putL, wds, List.getElem?_set, hj]
        have s8 := size_setBlk w7.drew b (c.setIfInBounds (plc f x y).1.toNat (.int .u32 (bXor .u32 (at0 l (plc f x y).1) (shlI .u32 (bXor .u32 (pixF f l x y) p) (plc f x y).2.toNat))))
        have s7d : w7.drew.heap.size = w7.heap.size := rfl
        generalize (World.setBlk w7.drew b (c.setIfInBounds (plc f x y).1.toNat (.int .u32 (bXor .u32 (at0 l (plc f x y).1) (shlI .u32 (bXor .u32 (pixF f l x y) p) (plc f x y).2.toNat))))) = w8 at h1 h2 B8 O8 s8 ⊢
        refine ok_bnd.2 (ok_ret.2 (ok_bnd.2 (ok_Form h1 (ok_bnd.2 (ok_wrForm (h := (f.1, f.2.1, f.2.2.1, r12)) h2 fun w9 h2 B9 s9 k9 => ?_)))))
        have O9 := own_off O8 k9 (by omega)
        exact ok_bnd.2 (ok_Form h2 (ok_ret.2 ⟨B8.trans (B9.mono (by omega)), rfl, rfl, rfl, rfl, own_mono O9 (by omega)⟩))
      · simp only [if_neg (fun h : Good f ∧ Inside f x y ∧ bAndNot .u32 p (onesF f.2.2.1) = 0 => hp h.2.2)]
        refine ok_true (by simp [hp]) (ok_bnd.2 (ok_wrForm (h := zf) h2 fun w5 h2 B5 s5 k5 => ?_))
        exact ok_bnd.2 (ok_Form h2 (ok_ret.2 ⟨B3.trans (B5.mono (by omega)), rfl⟩))
    · simp only [if_pos hg, if_neg hi, if_neg (fun h : Good f ∧ Inside f x y ∧ bAndNot .u32 p (onesF f.2.2.1) = 0 => hi h.2.1)]
      refine ok_true (by simp) (ok_bnd.2 (ok_wrForm (h := zf) h2 fun w5 h2 B5 s5 k5 => ?_))
      exact ok_bnd.2 (ok_Form h2 (ok_ret.2 ⟨B3.trans (B5.mono (by omega)), rfl⟩))
  · simp only [if_neg hg, if_neg (fun h : Good f ∧ Inside f x y ∧ bAndNot .u32 p (onesF f.2.2.1) = 0 => hg h.1)]
    refine ok_true (by simp) (ok_bnd.2 (ok_wrForm (h := zf) h2 fun w5 h2 B5 s5 k5 => ?_))
    exact ok_bnd.2 (ok_Form h2 (ok_ret.2 ⟨B3.trans (B5.mono (by omega)), rfl⟩))
end Go.Proofs.Ytpgalllceejpnaa
