/-
  Part of the proof: B14
-/
import Derived.Test.YtpgalllceejpnaaB13
set_option linter.unusedSimpArgs false
set_option linter.unusedVariables false
namespace Go.Proofs.Ytpgalllceejpnaa
set_option linter.unusedVariables false
open Go.Sh Go.RowKit
set_option maxRecDepth 100000
/-- A blit with its source set. -/
def srcAt (b : Blit) (x y : Int) : Blit := (b.1, b.2.1, b.2.2.1, b.2.2.2.1, b.2.2.2.2.1, x, y, b.2.2.2.2.2.2.2.1, b.2.2.2.2.2.2.2.2.1, b.2.2.2.2.2.2.2.2.2.1, b.2.2.2.2.2.2.2.2.2.2.1, b.2.2.2.2.2.2.2.2.2.2.2)
theorem errB_src {b : Blit} (h : errB (srcAt b 0 0) = 0) : errB (srcAt b b.2.1 b.2.2.1) = 0 := by
  obtain ⟨h1, h2, h3⟩ := errB_ok h
  unfold errB
  rw [if_pos (show 0 ≤ (srcAt b b.2.1 b.2.2.1).1 ∧ (srcAt b b.2.1 b.2.2.1).1 ≤ 15 from h1), if_pos]
  refine ⟨?_, h3⟩
  simp only [nums, srcAt, List.mem_cons, List.not_mem_nil, or_false, forall_eq_or_imp, forall_eq] at h2 ⊢
  obtain ⟨f1, f2, f3, f4, f5, f6, f7⟩ := h2
  exact ⟨f1, f2, f3, f4, f1, f2, f7⟩
theorem in_fill {d : Form} {c : Blit} (I : In d d c true) : In d zf c false := ⟨I.dep, I.w, I.h, I.x, I.y, I.sx, I.sy, I.rule, by simp, fun h => by cases h⟩
theorem fill_spec (d : Form) (b : Blit) (dl tl : List Int) (w : World) (Hd : Arr w.heap.size w d.2.2.2 (wds dl)) (Ht : Arr w.heap.size w (tone b) (wds tl)) :
    Ok (f31_bitblt_Fill d b) w fun r w' => Below w.heap.size w w' ∧
      (if Good d ∧ errB (srcAt b 0 0) = 0 then r.2 = 0 ∧ r.1.1 = d.1 ∧ r.1.2.1 = d.2.1 ∧ r.1.2.2.1 = d.2.2.1 ∧ Own w.heap.size w' r.1.2.2.2 (wds (outL d zf (clipN d d (srcAt b b.2.1 b.2.2.1)) false tl dl []))
       else r = (zf, if Good d then errB (srcAt b 0 0) else 110)) := by
  unfold f31_bitblt_Fill
  refine ok_bnd.2 (ok_newForm (h := d) fun w1 h1 B1 s1 => ?_)
  refine ok_bnd.2 (ok_newBlit (h := b) fun w2 h2 B2 s2 => ?_)
  have h1 := hasForm_size h1 B2
  have B2 := B1.trans (B2.mono (by omega))
  refine ok_bnd.2 (ok_newForm (h := zf) fun w3 h3 B3 s3 => ?_)
  have h1 := hasForm_size h1 B3
  have h2 := hasBlit_size h2 B3
  have B3 := B2.trans (B3.mono (by omega))
  refine ok_bnd.2 (ok_wrBlit5 h2 fun w4 h2 B4 s4 k4 => ?_)
  have h1 := form_off h1 k4 (by omega)
  have h3 := form_off h3 k4 (by omega)
  have B4 := B3.trans (B4.mono (by omega))
  refine ok_bnd.2 (ok_wrBlit6 h2 fun w5 h2 B5 s5 k5 => ?_)
  have h1 := form_off h1 k5 (by omega)
  have h3 := form_off h3 k5 (by omega)
  have B5 := B4.trans (B5.mono (by omega))
  refine ok_bnd.2 (ok_Form h1 (ok_bnd.2 (ok_mono (check_spec d w5) ?_)))
  rintro r w6 ⟨rfl, B6⟩
  have h1 := hasForm_size h1 B6
  have h2 := hasBlit_size h2 B6
  have h3 := hasForm_size h3 B6
  have z6 := B6.size
  have B6 := B5.trans (B6.mono (by omega))
  unfold errS
  by_cases hg : Good d
  · simp only [if_pos hg]
    refine ok_false (by simp) (ok_bnd.2 (ok_Blit h2 (ok_bnd.2 (ok_mono (bounded_spec (srcAt b 0 0) w6) ?_))))
    rintro r w7 ⟨rfl, B7⟩
    have h1 := hasForm_size h1 B7
    have h2 := hasBlit_size h2 B7
    have h3 := hasForm_size h3 B7
    have z7 := B7.size
    have B7 := B6.trans (B7.mono (by omega))
    by_cases he : errB (srcAt b 0 0) = 0
    · simp only [if_pos (show Good d ∧ errB (srcAt b 0 0) = 0 from ⟨hg, he⟩)]
      refine ok_false (by simp [he]) ?_
      refine ok_bnd.2 (ok_Blit1 h2 (ok_bnd.2 (ok_Blit2 h2 (ok_bnd.2 (ok_wrBlit5 h2 fun w8 h2 B8 s8 k8 => ?_)))))
      have h1 := form_off h1 k8 (by omega)
      have h3 := form_off h3 k8 (by omega)
      have B8 := B7.trans (B8.mono (by omega))
      refine ok_bnd.2 (ok_wrBlit6 h2 fun w9 h2 B9 s9 k9 => ?_)
      have h1 := form_off h1 k9 (by omega)
      have h3 := form_off h3 k9 (by omega)
      have B9 := B8.trans (B9.mono (by omega))
      have h2 : HasBlit w9 w1.heap.size (srcAt b b.2.1 b.2.2.1) := h2
      refine ok_bnd.2 (ok_Form h1 (ok_bnd.2 (ok_Form h1 (ok_bnd.2 (ok_Blit h2 (ok_bnd.2 (ok_mono (clip_spec d d (srcAt b b.2.1 b.2.2.1) tl w9 (arr_below Ht B9)) ?_)))))))
      rintro ⟨r15, e15⟩ w10 ⟨B10, hec, _, heq⟩
      simp only at hec heq ⊢
      have hb1 := errB_src he
      have h00 : e15 = 0 := by rw [hec]; unfold errC; rw [if_pos ⟨hg, hg, rfl⟩]; exact hb1
      obtain ⟨hh, rfl, Oh0, _⟩ := heq h00
      have h1 := hasForm_size h1 B10
      have h3 := hasForm_size h3 B10
      have z10 := B10.size
      have B10 := B9.trans (B10.mono (by omega))
      have hge := own_ge Oh0
      refine ok_bnd.2 (ok_newBlit (h := zb) fun w11 h11 B11 s11 => ?_)
      have h1 := hasForm_size h1 B11
      have h3 := hasForm_size h3 B11
      have A11 := arr_below (own_arr Oh0) B11
      have B11 := B10.trans (B11.mono (by omega))
      refine ok_bnd.2 (ok_wrBlit (h := clipS d d (srcAt b b.2.1 b.2.2.1) hh) h11 fun w12 h12 B12 s12 k12 => ?_)
      have h1 := form_off h1 k12 (by omega)
      have h3 := form_off h3 k12 (by omega)
      have A12 := arr_below A11 B12
      have B12 := B11.trans (B12.mono (by omega))
      have hlen := good_len hg Hd
      refine ok_bnd.2 (ok_Form3 h1 (ok_bnd.2 (ok_mono (clone_spec (arr_below Hd B12) hlen.2) ?_)))
      rintro r18 w13 ⟨O13, B13, _⟩
      have h1 := hasForm_size h1 B13
      have h3 := hasForm_size h3 B13
      have h12 := hasBlit_size h12 B13
      have z13 := B13.size
      have A13 := arr_below A12 (B13.mono (by omega))
      have B13 := B12.trans (B13.mono (by omega))
      refine ok_bnd.2 (ok_wrForm3 (x := r18) h1 fun w14 h1 B14 s14 k14 => ?_)
      have h3 := form_off h3 k14 (by omega)
      have h12 := blit_off h12 k14 (by omega)
      have O14 := own_off O13 k14 (by omega)
      have A14 := arr_off A13 k14 (fun a ha => by have := hge a ha; omega)
      have B14 := B13.trans (B14.mono (by omega))
      refine ok_bnd.2 (ok_Form h1 (ok_bnd.2 (ok_Blit h12 (ok_bnd.2 ?_))))
      refine ok_mono (run_own (d.1, d.2.1, d.2.2.1, r18) zf d d (srcAt b b.2.1 b.2.2.1) hh w14 false tl dl [] (B := w12.heap.size) (by omega)
        (fun hne => in_fill (in_other2 (in_other (in_clip ⟨hg.1, hg.1, rfl, hb1⟩ hne) r18) r18)) O14 hlen.1 (fun h => by cases h) (arr_mono A14 (by omega)) (own_ne O14 (arr_mono A14 (by omega)))) ?_
      rintro _ w15 ⟨B15, O15, _, _, hle⟩
      have h1 := hasForm_below h1 B15 (by omega)
      have h3 := hasForm_below h3 B15 (by omega)
      have B15 := B14.trans (B15.mono (by omega))
      refine ok_bnd.2 (ok_Form h1 (ok_bnd.2 (ok_wrForm (h := (d.1, d.2.1, d.2.2.1, r18)) h3 fun w16 h3 B16 s16 k16 => ?_)))
      have O16 := own_off O15 k16 (by omega)
      exact ok_bnd.2 (ok_Form h3 (ok_ret.2 ⟨B15.trans (B16.mono (by omega)), rfl, rfl, rfl, rfl, own_mono O16 (by omega)⟩))
    · simp only [if_neg (fun h : Good d ∧ errB (srcAt b 0 0) = 0 => he h.2)]
      refine ok_true (by simpa using he) (ok_bnd.2 (ok_wrForm (h := zf) h3 fun w8 h3 B8 s8 k8 => ?_))
      exact ok_bnd.2 (ok_Form h3 (ok_ret.2 ⟨B7.trans (B8.mono (by omega)), rfl⟩))
  · simp only [if_neg hg, if_neg (fun h : Good d ∧ errB (srcAt b 0 0) = 0 => hg h.1)]
    refine ok_true (by simp) (ok_bnd.2 (ok_wrForm (h := zf) h3 fun w8 h3 B8 s8 k8 => ?_))
    exact ok_bnd.2 (ok_Form h3 (ok_ret.2 ⟨B6.trans (B8.mono (by omega)), rfl⟩))
end Go.Proofs.Ytpgalllceejpnaa
