/-
  Part of the proof: B10
-/
import Derived.Test.YtpgalllceejpnaaB09
set_option linter.unusedSimpArgs false
set_option linter.unusedVariables false
namespace Go.Proofs.Ytpgalllceejpnaa
set_option linter.unusedVariables false
open Go.Sh Go.RowKit
set_option maxRecDepth 100000
theorem good_len {d : Form} {B : Nat} {w : World} {dl : List Int} (hg : Good d) (H : Arr B w d.2.2.2 (wds dl)) : (dl.length : Int) = st d * d.2.1 ∧ d.2.2.2.len ≤ 4194304 := by
  have h1 := H.1
  simp only [List.length_map] at h1
  have h2 := hg.2
  have h3 := hg.1.2.2.2
  omega
theorem own_ne {B : Nat} {w : World} {s s' : Sl} {xs ys : List Value} (h : Own B w s xs) (h' : Arr B w s' ys) : ∀ a bd, s'.a = some a → s.a = some bd → ys ≠ [] → a.block ≠ bd.block := by
  intro a bd h1 h2 h3
  rcases h'.2.2.2 with h4 | ⟨b, o, c, h5, h6, _⟩
  · exact absurd h4 h3
  · rcases h.2.2.2 with ⟨h7, _⟩ | ⟨b', c', h7, h8, _⟩
    · rw [h7] at h2; cases h2
    · rw [h5] at h1; rw [h7] at h2
      cases h1; cases h2
      show b ≠ b'
      omega
theorem own_ge {B : Nat} {w : World} {s : Sl} {xs : List Value} (h : Own B w s xs) : ∀ a, s.a = some a → B ≤ a.block := by
  intro a ha
  rcases h.2.2.2 with ⟨h7, _⟩ | ⟨b', c', h7, h8, _⟩
  · rw [h7] at ha; cases ha
  · rw [h7] at ha; cases ha; exact h8
theorem arr_off {Z b' : Nat} {w w' : World} {s : Sl} {xs : List Value} (h : Arr Z w s xs) (k : ∀ k, k ≠ b' → blk w' k = blk w k ∧ fre w' k = fre w k) (hb : ∀ a, s.a = some a → a.block ≠ b') : Arr Z w' s xs := by
  obtain ⟨h1, h2, h3, h4⟩ := h
  refine ⟨h1, h2, h3, h4.imp id ?_⟩
  rintro ⟨b, o, c, h5, h6, h7, h8⟩
  exact ⟨b, o, c, h5, h6, (k b (hb _ h5)).1.trans h7, h8⟩
theorem in_other {d s : Form} {c : Blit} {has : Bool} (I : In d s c has) (S : Sl) : In (d.1, d.2.1, d.2.2.1, S) s c has := ⟨I.dep, I.w, I.h, I.x, I.y, I.sx, I.sy, I.rule, I.has_, I.src⟩
theorem in_other2 {d s : Form} {c : Blit} {has : Bool} (I : In d s c has) (S : Sl) : In d (s.1, s.2.1, s.2.2.1, S) c has := ⟨I.dep, I.w, I.h, I.x, I.y, I.sx, I.sy, I.rule, I.has_, I.src⟩
theorem copy_spec (d s : Form) (b : Blit) (dl sl tl : List Int) (w : World) (Hd : Arr w.heap.size w d.2.2.2 (wds dl)) (Hs : Arr w.heap.size w s.2.2.2 (wds sl)) (Ht : Arr w.heap.size w (tone b) (wds tl)) :
    Ok (f28_bitblt_Copy d s b) w fun r w' => Below w.heap.size w w' ∧ r.2 = errC d s b ∧ (r.2 ≠ 0 → r.1 = zf) ∧
      (r.2 = 0 → r.1.1 = d.1 ∧ r.1.2.1 = d.2.1 ∧ r.1.2.2.1 = d.2.2.1 ∧ Own w.heap.size w' r.1.2.2.2 (wds (outL d s (clipN d s b) true tl dl sl))) := by
  unfold f28_bitblt_Copy
  refine ok_bnd.2 (ok_newForm (h := d) fun w1 h1 B1 s1 => ?_)
  refine ok_bnd.2 (ok_newForm (h := s) fun w2 h2 B2 s2 => ?_)
  have h1 := hasForm_size h1 B2
  have B2 := B1.trans (B2.mono (by omega))
  refine ok_bnd.2 (ok_newBlit (h := b) fun w3 h3 B3 s3 => ?_)
  have h1 := hasForm_size h1 B3
  have h2 := hasForm_size h2 B3
  have B3 := B2.trans (B3.mono (by omega))
  refine ok_bnd.2 (ok_newForm (h := zf) fun w4 h4 B4 s4 => ?_)
  have h1 := hasForm_size h1 B4
  have h2 := hasForm_size h2 B4
  have h3 := hasBlit_size h3 B4
  have B4 := B3.trans (B4.mono (by omega))
  refine ok_bnd.2 (ok_Form h1 (ok_bnd.2 (ok_Form h2 (ok_bnd.2 (ok_Blit h3 (ok_bnd.2 (ok_mono (clip_spec d s b tl w4 (arr_below Ht B4)) ?_)))))))
  rintro ⟨r8, e8⟩ w5 ⟨B5, he, hne, heq⟩
  simp only at he hne heq ⊢
  have h1 := hasForm_size h1 B5
  have h2 := hasForm_size h2 B5
  have h4 := hasForm_size h4 B5
  have z5 := B5.size
  have B5' := B5
  have B5 := B4.trans (B5.mono (by omega))
  refine ok_bnd.2 (ok_newBlit (h := zb) fun w6 h6 B6 s6 => ?_)
  have h1 := hasForm_size h1 B6
  have h2 := hasForm_size h2 B6
  have h4 := hasForm_size h4 B6
  have B6' := B6
  have B6 := B5.trans (B6.mono (by omega))
  refine ok_bnd.2 (ok_wrBlit (h := r8) h6 fun w7 h7 B7 s7 k7 => ?_)
  have h1 := form_off h1 k7 (by omega)
  have h2 := form_off h2 k7 (by omega)
  have h4 := form_off h4 k7 (by omega)
  have B7' := B6'.trans B7
  have B7 := B6.trans (B7.mono (by omega))
  by_cases h0 : e8 = 0
  · refine ok_false (by simp [h0]) ?_
    have herr := errC_ok (he.symm.trans h0)
    obtain ⟨hh, rfl, Oh0, _⟩ := heq h0
    have Oh := own_size Oh0 B7'
    have A7 := arr_below (own_arr Oh0) B7'
    have hge := own_ge Oh0
    have hlen := good_len herr.1 Hd
    refine ok_bnd.2 (ok_Form3 h1 (ok_bnd.2 (ok_mono (clone_spec (arr_below Hd B7) hlen.2) ?_)))
    rintro r12 w8 ⟨O8, B8, _⟩
    have h1 := hasForm_size h1 B8
    have h2 := hasForm_size h2 B8
    have h4 := hasForm_size h4 B8
    have h7 := hasBlit_size h7 B8
    have Oh := own_size Oh B8
    have z8 := B8.size
    have z7 := B7'.size
    have A8 := arr_below A7 (B8.mono z7)
    have B8 := B7.trans (B8.mono (by omega))
    refine ok_bnd.2 (ok_wrForm3 (x := r12) h1 fun w9 h1 B9 s9 k9 => ?_)
    have h2 := form_off h2 k9 (by omega)
    have h4 := form_off h4 k9 (by omega)
    have h7 := blit_off h7 k9 (by omega)
    have Oh := own_off Oh k9 (by omega)
    have O9 := own_off O8 k9 (by omega)
    have B9 := B8.trans (B9.mono (by omega))
    refine ok_bnd.2 (ok_Form h1 (ok_bnd.2 (ok_Form h2 (ok_bnd.2 (ok_Blit h7 (ok_bnd.2 ?_))))))
    have Ah : Arr w5.heap.size w9 hh (wds tl) := arr_off A8 k9 (fun a ha => by have := hge a ha; omega)
    have As : Arr w7.heap.size w9 s.2.2.2 (wds sl) := arr_mono (arr_below Hs B9) (by omega)
    have hls := good_len herr.2.1 Hs
    refine ok_mono (run_own (d.1, d.2.1, d.2.2.1, r12) s d s b hh w9 true tl dl sl (B := w7.heap.size) (by omega)
      (fun hne => in_other (in_clip ⟨herr.1.1, herr.2.1.1, herr.2.2.1, herr.2.2.2⟩ hne) r12) O9 hlen.1 (fun _ => ⟨hls.1, .inl As⟩) (arr_mono Ah (by omega)) (own_ne O9 (arr_mono Ah (by omega)))) ?_
    rintro _ w10 ⟨B10, O10, _, _, hle⟩
    have h1 := hasForm_below h1 B10 (by omega)
    have h4 := hasForm_below h4 B10 (by omega)
    have B10 := B9.trans (B10.mono (by omega))
    refine ok_bnd.2 (ok_Form h1 (ok_bnd.2 (ok_wrForm (h := (d.1, d.2.1, d.2.2.1, r12)) h4 fun w11 h4 B11 s11 k11 => ?_)))
    have O11 := own_off O10 k11 (by omega)
    refine ok_bnd.2 (ok_Form h4 (ok_ret.2 ⟨B10.trans (B11.mono (by omega)), h0.symm.trans he, fun h => absurd rfl h, fun _ => ⟨rfl, rfl, rfl, own_mono O11 (by omega)⟩⟩))
  · refine ok_true (by simpa using h0) (ok_bnd.2 (ok_wrForm (h := zf) h4 fun w8 h8 B8 s8 _ => ?_))
    refine ok_bnd.2 (ok_Form h8 (ok_ret.2 ⟨B7.trans (B8.mono (by omega)), he, fun _ => rfl, fun h => absurd h h0⟩))
theorem move_spec (d : Form) (b : Blit) (dl tl : List Int) (w : World) (Hd : Arr w.heap.size w d.2.2.2 (wds dl)) (Ht : Arr w.heap.size w (tone b) (wds tl)) :
    Ok (f30_bitblt_Move d b) w fun r w' => Below w.heap.size w w' ∧ r.2 = errC d d b ∧ (r.2 ≠ 0 → r.1 = zf) ∧
      (r.2 = 0 → r.1.1 = d.1 ∧ r.1.2.1 = d.2.1 ∧ r.1.2.2.1 = d.2.2.1 ∧ Own w.heap.size w' r.1.2.2.2 (wds (outL d d (clipN d d b) true tl dl dl))) := by
  unfold f30_bitblt_Move
  refine ok_bnd.2 (ok_newForm (h := d) fun w1 h1 B1 s1 => ?_)
  refine ok_bnd.2 (ok_newBlit (h := b) fun w3 h3 B3 s3 => ?_)
  have h1 := hasForm_size h1 B3
  have B3 := B1.trans (B3.mono (by omega))
  refine ok_bnd.2 (ok_newForm (h := zf) fun w4 h4 B4 s4 => ?_)
  have h1 := hasForm_size h1 B4
  have h3 := hasBlit_size h3 B4
  have B4 := B3.trans (B4.mono (by omega))
  refine ok_bnd.2 (ok_Form h1 (ok_bnd.2 (ok_Form h1 (ok_bnd.2 (ok_Blit h3 (ok_bnd.2 (ok_mono (clip_spec d d b tl w4 (arr_below Ht B4)) ?_)))))))
  rintro ⟨r8, e8⟩ w5 ⟨B5, he, hne, heq⟩
  simp only at he hne heq ⊢
  have h1 := hasForm_size h1 B5
  have h4 := hasForm_size h4 B5
  have z5 := B5.size
  have B5 := B4.trans (B5.mono (by omega))
  refine ok_bnd.2 (ok_newBlit (h := zb) fun w6 h6 B6 s6 => ?_)
  have h1 := hasForm_size h1 B6
  have h4 := hasForm_size h4 B6
  have B6' := B6
  have B6 := B5.trans (B6.mono (by omega))
  refine ok_bnd.2 (ok_wrBlit (h := r8) h6 fun w7 h7 B7 s7 k7 => ?_)
  have h1 := form_off h1 k7 (by omega)
  have h4 := form_off h4 k7 (by omega)
  have B7' := B6'.trans B7
  have B7 := B6.trans (B7.mono (by omega))
  by_cases h0 : e8 = 0
  · refine ok_false (by simp [h0]) ?_
    have herr := errC_ok (he.symm.trans h0)
    obtain ⟨hh, rfl, Oh0, _⟩ := heq h0
    have A7 := arr_below (own_arr Oh0) B7'
    have hge := own_ge Oh0
    have hlen := good_len herr.1 Hd
    refine ok_bnd.2 (ok_Form3 h1 (ok_bnd.2 (ok_mono (clone_spec (arr_below Hd B7) hlen.2) ?_)))
    rintro r12 w8 ⟨O8, B8, _⟩
    have h1 := hasForm_size h1 B8
    have h4 := hasForm_size h4 B8
    have h7 := hasBlit_size h7 B8
    have z8 := B8.size
    have z7 := B7'.size
    have A8 := arr_below A7 (B8.mono z7)
    have B8 := B7.trans (B8.mono (by omega))
    refine ok_bnd.2 (ok_wrForm3 (x := r12) h1 fun w9 h1 B9 s9 k9 => ?_)
    have h4 := form_off h4 k9 (by omega)
    have h7 := blit_off h7 k9 (by omega)
    have O9 := own_off O8 k9 (by omega)
    have B9 := B8.trans (B9.mono (by omega))
    refine ok_bnd.2 (ok_Form h1 (ok_bnd.2 (ok_Form h1 (ok_bnd.2 (ok_Blit h7 (ok_bnd.2 ?_))))))
    have Ah : Arr w5.heap.size w9 hh (wds tl) := arr_off A8 k9 (fun a ha => by have := hge a ha; omega)
    refine ok_mono (run_own (d.1, d.2.1, d.2.2.1, r12) (d.1, d.2.1, d.2.2.1, r12) d d b hh w9 true tl dl dl (B := w7.heap.size) (by omega)
      (fun hne => in_other2 (in_other (in_clip ⟨herr.1.1, herr.2.1.1, herr.2.2.1, herr.2.2.2⟩ hne) r12) r12) O9 hlen.1 (fun _ => ⟨hlen.1, .inr ⟨rfl, rfl, rfl, rfl⟩⟩) (arr_mono Ah (by omega)) (own_ne O9 (arr_mono Ah (by omega)))) ?_
    rintro _ w10 ⟨B10, O10, _, _, hle⟩
    have h1 := hasForm_below h1 B10 (by omega)
    have h4 := hasForm_below h4 B10 (by omega)
    have B10 := B9.trans (B10.mono (by omega))
    refine ok_bnd.2 (ok_Form h1 (ok_bnd.2 (ok_wrForm (h := (d.1, d.2.1, d.2.2.1, r12)) h4 fun w11 h4 B11 s11 k11 => ?_)))
    have O11 := own_off O10 k11 (by omega)
    refine ok_bnd.2 (ok_Form h4 (ok_ret.2 ⟨B10.trans (B11.mono (by omega)), h0.symm.trans he, fun h => absurd rfl h, fun _ => ⟨rfl, rfl, rfl, own_mono O11 (by omega)⟩⟩))
  · refine ok_true (by simpa using h0) (ok_bnd.2 (ok_wrForm (h := zf) h4 fun w8 h8 B8 s8 _ => ?_))
    refine ok_bnd.2 (ok_Form h8 (ok_ret.2 ⟨B7.trans (B8.mono (by omega)), he, fun _ => rfl, fun h => absurd h h0⟩))
end Go.Proofs.Ytpgalllceejpnaa
