/-
  Part of the proof: B16
-/
import Derived.Test.YtpgalllceejpnaaB15
set_option linter.unusedSimpArgs false
set_option linter.unusedVariables false
namespace Go.Proofs.Ytpgalllceejpnaa
set_option linter.unusedVariables false
open Go.Sh Go.RowKit
set_option maxRecDepth 100000
theorem moves_spec (f : Form) (b : Blit) (l tl : List Int) (w : World) (Hf : Arr w.heap.size w f.2.2.2 (wds l)) (Ht : Arr w.heap.size w (tone b) (wds tl)) : Ok (f7_palaverlaw11_BitMoves f b) w fun r w' => r = true ∧ Below w.heap.size w w' := by
  unfold f7_palaverlaw11_BitMoves
  refine ok_bnd.2 (ok_newForm (h := f) fun w1 f1 B1 s1 => ?_)
  refine ok_bnd.2 (ok_newBlit (h := b) fun w2 f2 B2 s2 => ?_)
  have f1 := hasForm_size f1 B2
  have B2 := B1.trans (B2.mono (by omega))
  refine ok_bnd.2 (ok_mono (works_spec w2) ?_)
  rintro r w3 ⟨rfl, B3⟩
  have f1 := hasForm_size f1 B3
  have f2 := hasBlit_size f2 B3
  have z3 := B3.size
  have B3 := B2.trans (B3.mono (by omega))
  refine ok_bnd.2 (ok_Form f1 (ok_bnd.2 (ok_Form f1 (ok_bnd.2 (ok_mono (far_spec f f w3) ?_)))))
  rintro r w4 ⟨rfl, B4⟩
  have f1 := hasForm_size f1 B4
  have f2 := hasBlit_size f2 B4
  have z4 := B4.size
  have B4 := B3.trans (B4.mono (by omega))
  by_cases hfar : 2097152 < f.2.2.2.len ∨ 2097152 < f.2.2.2.len
  · exact ok_true (by simpa using hfar) (ok_ret.2 ⟨rfl, B4⟩)
  refine ok_false (by simpa using hfar) (ok_bnd.2 (ok_Form f1 (ok_bnd.2 (ok_newForm (h := zf) fun w5 f5 B5 s5 => ?_))))
  have f1 := hasForm_size f1 B5
  have f2 := hasBlit_size f2 B5
  have B5 := B4.trans (B5.mono (by omega))
  refine ok_bnd.2 (ok_wrForm (h := f) f5 fun w6 f5 B6 s6 k6 => ?_)
  have f1 := form_off f1 k6 (by omega)
  have f2 := blit_off f2 k6 (by omega)
  have B6 := B5.trans (B6.mono (by omega))
  refine ok_bnd.2 (ok_Form3 f1 (ok_bnd.2 (ok_mono (lent_spec f.2.2.2 l w6 (arr_size (arr_below Hf B6)) (by omega)) ?_)))
  rintro r w7 ⟨B7, rfl, hb7, hf7⟩
  have el : f.2.2.2.len = l.length := by have := Hf.1; simpa using this
  have A7 : Arr w7.heap.size w7 ⟨some ⟨w6.heap.size, 0, none⟩, l.length, l.length + 2⟩ (wds l) := by
    refine ⟨by simp, by simp, by simp only [maxLen]; omega, .inr ⟨_, 0, _, rfl, blk_lt hb7, hb7, fun i hi => ?_⟩⟩
    rw [Nat.zero_add, List.getElem?_toArray, List.getElem?_append_left hi]
  have hlt7 := blk_lt hb7
  have f1 := hasForm_size f1 B7
  have f2 := hasBlit_size f2 B7
  have f5 := hasForm_size f5 B7
  have B7 := B6.trans (B7.mono (by omega))
  refine ok_bnd.2 (ok_wrForm3 (x := ⟨some ⟨w6.heap.size, 0, none⟩, l.length, l.length + 2⟩) f5 fun w8 f5 B8 s8 k8 => ?_)
  have f1 := form_off f1 k8 (by omega)
  have f2 := blit_off f2 k8 (by omega)
  have A7 := arr_off A7 k8 (fun a ha => by cases ha; show w6.heap.size ≠ w4.heap.size; omega)
  have B8 := B7.trans (B8.mono (by omega))
  refine ok_bnd.2 (ok_Form f1 (ok_bnd.2 (ok_Blit f2 (ok_bnd.2 (ok_mono (move_spec f b l tl w8 (arr_size (arr_below Hf B8)) (arr_size (arr_below Ht B8))) ?_)))))
  rintro ⟨r13, e13⟩ w9 ⟨B9, he, hne, heq⟩
  simp only at he hne heq ⊢
  have f1 := hasForm_size f1 B9
  have f2 := hasBlit_size f2 B9
  have f5 := hasForm_size f5 B9
  have A7 := arr_below A7 (B9.mono (by omega))
  have z9 := B9.size
  have B9 := B8.trans (B9.mono (by omega))
  have M : Arr w9.heap.size w9 r13.2.2.2 (wds (if e13 = 0 then outL f f (clipN f f b) true tl l l else [])) ∧ (r13.1, r13.2.1, r13.2.2.1) = (if e13 = 0 then (f.1, f.2.1, f.2.2.1) else (0, 0, 0)) := by
    by_cases h0 : e13 = 0
    · obtain ⟨h1, h2, h3, O⟩ := heq h0
      rw [if_pos h0, if_pos h0]
      exact ⟨own_arr O, by rw [h1, h2, h3]⟩
    · rw [if_neg h0, if_neg h0, hne h0]; exact ⟨arr_nil _ _, rfl⟩
  obtain ⟨M1, M2⟩ := M
  refine ok_bnd.2 (ok_newForm (h := zf) fun w10 f10 B10 s10 => ?_)
  have f1 := hasForm_size f1 B10
  have f2 := hasBlit_size f2 B10
  have f5 := hasForm_size f5 B10
  have A7 := arr_below A7 (B10.mono (by omega))
  have M1 := arr_below M1 B10
  have B10 := B9.trans (B10.mono (by omega))
  refine ok_bnd.2 (ok_wrForm (h := r13) f10 fun w11 f10 B11 s11 k11 => ?_)
  have f1 := form_off f1 k11 (by omega)
  have f2 := blit_off f2 k11 (by omega)
  have f5 := form_off f5 k11 (by omega)
  have A7 := arr_below A7 (B11.mono (by omega))
  have M1 := arr_below M1 B11
  have B11 := B10.trans (B11.mono (by omega))
  refine ok_bnd.2 (ok_Form f1 (ok_bnd.2 (ok_Form f5 (ok_bnd.2 (ok_Blit f2 (ok_bnd.2 (ok_mono (copy_spec f (f.1, f.2.1, f.2.2.1, ⟨some ⟨w6.heap.size, 0, none⟩, l.length, l.length + 2⟩) b l l tl w11 (arr_size (arr_below Hf B11)) (arr_size A7) (arr_size (arr_below Ht B11))) ?_)))))))
  rintro ⟨r18, e18⟩ w12 ⟨B12, he', hne', heq'⟩
  simp only at he' hne' heq' ⊢
  have hgg : Good (f.1, f.2.1, f.2.2.1, ⟨some ⟨w6.heap.size, 0, none⟩, l.length, l.length + 2⟩) ↔ Good f := by
    unfold Good
    rw [el]
    exact Iff.rfl
  have hee : e13 = e18 := by
    rw [he, he']
    unfold errC
    simp only [hgg]
  subst hee
  have f10 := hasForm_size f10 B12
  have M1 := arr_below M1 (B12.mono (by omega))
  have z12 := B12.size
  have B12 := B11.trans (B12.mono (by omega))
  have N : Arr w12.heap.size w12 r18.2.2.2 (wds (if e13 = 0 then outL f f (clipN f f b) true tl l l else [])) ∧ (r18.1, r18.2.1, r18.2.2.1) = (if e13 = 0 then (f.1, f.2.1, f.2.2.1) else (0, 0, 0)) := by
    by_cases h0 : e13 = 0
    · obtain ⟨h1, h2, h3, O⟩ := heq' h0
      rw [if_pos h0, if_pos h0]
      exact ⟨own_arr O, by rw [h1, h2, h3]⟩
    · rw [if_neg h0, if_neg h0, hne' h0]; exact ⟨arr_nil _ _, rfl⟩
  obtain ⟨N1, N2⟩ := N
  refine ok_bnd.2 (ok_newForm (h := zf) fun w13 f13 B13 s13 => ?_)
  have f10 := hasForm_size f10 B13
  have M1 := arr_below M1 (B13.mono (by omega))
  have N1 := arr_below N1 B13
  have B13 := B12.trans (B13.mono (by omega))
  refine ok_bnd.2 (ok_wrForm (h := r18) f13 fun w14 f13 B14 s14 k14 => ?_)
  have f10 := form_off f10 k14 (by omega)
  have M1 := arr_below M1 (B14.mono (by omega))
  have N1 := arr_below N1 B14
  have B14 := B13.trans (B14.mono (by omega))
  refine ok_bnd.2 (ok_Form f10 (ok_bnd.2 (ok_Form f13 (ok_bnd.2 (ok_mono (same_spec r13 r18 _ _ w14 (arr_size M1) (arr_size N1)) ?_)))))
  rintro r w15 ⟨rfl, B15⟩
  have h3 := M2.trans N2.symm
  simp only [Prod.mk.injEq] at h3
  exact ok_ret.2 ⟨by simp [h3], B14.trans (B15.mono (by omega))⟩
end Go.Proofs.Ytpgalllceejpnaa
