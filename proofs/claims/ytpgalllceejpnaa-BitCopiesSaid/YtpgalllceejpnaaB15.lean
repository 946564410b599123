/-
  Part of the proof: B15
-/
import Derived.Test.YtpgalllceejpnaaB14
set_option linter.unusedSimpArgs false
set_option linter.unusedVariables false
namespace Go.Proofs.Ytpgalllceejpnaa
set_option linter.unusedVariables false
open Go.Sh Go.RowKit
set_option maxRecDepth 100000
abbrev nf (f : Form) : Form := (f.1, f.2.1, f.2.2.1, ⟨none, 0, 0⟩)
theorem putL_num (f : Form) (l : List Int) (x y p : Int) : putL f l x y p = putL (nf f) l x y p := rfl
theorem c1 : putL (33, 2, 1, ⟨none, 0, 0⟩) [0, 0, 0, 0] 32 0 1 = [0, 2147483648, 0, 0] := by decide +kernel
theorem c2 : outL (8, 1, 1, ⟨none, 0, 0⟩) (8, 1, 1, ⟨none, 0, 0⟩) (clipN (8, 1, 1, ⟨none, 0, 0⟩) (8, 1, 1, ⟨none, 0, 0⟩) (3, 2, 0, 8, 1, 0, 0, 0, 0, 8, 1, ⟨none, 0, 0⟩)) true [] [4026531840] [4026531840] = [4227858432] := by decide +kernel
theorem c3 : outL (8, 1, 1, ⟨none, 0, 0⟩) zf (clipN (8, 1, 1, ⟨none, 0, 0⟩) (8, 1, 1, ⟨none, 0, 0⟩) (3, 0, 0, 8, 1, 0, 0, 0, 0, 8, 1, ⟨none, 0, 0⟩)) false [2863311530] [4026531840] [] = [2852126720] := by decide +kernel
theorem c4 : (ruleF 6 12 10 == 6 && ruleF 8 12 10 == 4294967281) = true := by decide +kernel
theorem c5 : bAndNot .u32 1 (onesF 1) = 0 := by decide +kernel
theorem own_len {B : Nat} {w : World} {s : Sl} {l : List Int} (h : Own B w s (wds l)) : s.len = l.length := by have := h.1; simpa using this
theorem one_own (w : World) (x : Int) : Own w.heap.size (w.alloc (.cells #[.int .u32 x] 25)) ⟨some ⟨w.heap.size, 0, none⟩, 1, 1⟩ (wds [x]) :=
  ⟨rfl, Nat.le_refl _, (by decide : 1 ≤ maxLen), .inr ⟨_, _, rfl, Nat.le_refl _, by rw [blk_alloc, if_pos rfl], by rw [fre_alloc, if_pos rfl], rfl, fun i hi => by
    simp at hi; subst hi; rfl⟩⟩
theorem works_spec (w : World) : Ok f8_palaverlaw11_works w fun r w' => r = true ∧ Below w.heap.size w w' := by
  unfold f8_palaverlaw11_works
  refine ok_bnd.2 (ok_mono (new_spec 33 2 1 w) ?_)
  rintro ⟨⟨W1, H1, D1, S1⟩, e1⟩ w1 ⟨B1, h⟩
  rw [if_pos (by decide +kernel)] at h
  obtain ⟨h1, h2, h3, h4, O1⟩ := h
  simp only at h1 h2 h3 h4 O1
  subst h1 h2 h3 h4
  have O1 : Own w.heap.size w1 S1 (wds [0, 0, 0, 0]) := O1
  have l1 := own_len O1
  have A1 := own_arr O1
  have z1 := B1.size
  refine ok_bnd.2 (ok_newForm (h := zf) fun w2 f2 B2 s2 => ?_)
  have A1 := arr_below A1 B2
  have B2 := B1.trans (B2.mono z1)
  refine ok_bnd.2 (ok_wrForm (h := (33, 2, 1, S1)) f2 fun w3 f2 B3 s3 k3 => ?_)
  have A1 := arr_below A1 B3
  have B3 := B2.trans (B3.mono z1)
  have gd1 : Good (33, 2, 1, S1) := ⟨(by decide +kernel : Sized (33, 2, 1, ⟨none, 0, 0⟩)), by show (S1.len : Int) = st (33, 2, 1, S1) * 2; rw [l1]; rfl⟩
  refine ok_bnd.2 (ok_Form f2 (ok_bnd.2 (ok_mono (put_spec (33, 2, 1, S1) [0, 0, 0, 0] 32 0 1 w3 (by decide) (by decide) (arr_size A1)) ?_)))
  rintro ⟨⟨W4, H4, D4, S4⟩, e4⟩ w4 ⟨B4, h⟩
  rw [if_pos ⟨gd1, (by decide +kernel : Inside (33, 2, 1, ⟨none, 0, 0⟩) 32 0), c5⟩] at h
  obtain ⟨h1, h2, h3, h4, O4⟩ := h
  simp only at h1 h2 h3 h4 O4
  subst h1 h2 h3 h4
  rw [putL_num] at O4
  have O4 : Own w3.heap.size w4 S4 (wds [0, 2147483648, 0, 0]) := by have := O4; rw [show nf (33, 2, 1, S1) = (33, 2, 1, ⟨none, 0, 0⟩) from rfl, c1] at this; exact this
  have f2 := hasForm_size f2 B4
  have z4 := B4.size
  have A4 := own_arr O4
  have l4 := own_len O4
  have B4 := B3.trans (B4.mono (by omega))
  refine ok_bnd.2 (ok_newForm (h := zf) fun w5 f5 B5 s5 => ?_)
  have f2 := hasForm_size f2 B5
  have A4 := arr_below A4 B5
  have B5 := B4.trans (B5.mono (by omega))
  refine ok_bnd.2 (ok_wrForm (h := (33, 2, 1, S4)) f5 fun w6 f5 B6 s6 k6 => ?_)
  have f2 := form_off f2 k6 (by omega)
  have A4 := arr_below A4 B6
  have B6 := B5.trans (B6.mono (by omega))
  refine ok_bnd.2 (ok_mono (rule_spec 6 12 10 w6) ?_)
  rintro r6 w6a ⟨rfl, rfl⟩
  refine ok_bnd.2 (ok_mono (rule_spec 8 12 10 w6a) ?_)
  rintro r7 w6b ⟨rfl, rfl⟩
  refine ok_bnd.2 (ok_mono (rule_spec 16 0 0 w6b) ?_)
  rintro r8 w6c ⟨rfl, rfl⟩
  refine ok_bnd.2 (ok_build1 _ ?_)
  have O7 := one_own w6c 4026531840
  have B7 : Below w6c.heap.size w6c (w6c.alloc (.cells #[.int .u32 4026531840] 25)) := (Below.refl _ _).alloc (Nat.le_refl _) _
  have s7 : (w6c.alloc (.cells #[.int .u32 4026531840] 25)).heap.size = w6c.heap.size + 1 := by simp
  generalize w6c.alloc (.cells #[.int .u32 4026531840] 25) = w7 at O7 B7 s7 ⊢
  have A7 := own_arr O7
  have f2 := hasForm_size f2 B7
  have f5 := hasForm_size f5 B7
  have A4 := arr_below A4 (B7.mono (by omega))
  have B7 := B6.trans (B7.mono (by omega))
  refine ok_bnd.2 (ok_newForm (h := zf) fun w8 f8 B8 s8 => ?_)
  have f2 := hasForm_size f2 B8
  have f5 := hasForm_size f5 B8
  have A4 := arr_below A4 (B8.mono (by omega))
  have A7 := arr_below A7 B8
  have B8 := B7.trans (B8.mono (by omega))
  refine ok_bnd.2 (ok_wrForm (h := (8, 1, 1, ⟨some ⟨w6c.heap.size, 0, none⟩, 1, 1⟩)) f8 fun w9 f8 B9 s9 k9 => ?_)
  have f2 := form_off f2 k9 (by omega)
  have f5 := form_off f5 k9 (by omega)
  have A4 := arr_below A4 (B9.mono (by omega))
  have A7 := arr_below A7 B9
  have B9 := B8.trans (B9.mono (by omega))
  have gd8 : Good (8, 1, 1, ⟨some ⟨w6c.heap.size, 0, none⟩, 1, 1⟩) := ⟨(by decide +kernel : Sized (8, 1, 1, ⟨none, 0, 0⟩)), rfl⟩
  refine ok_bnd.2 (ok_Form f8 (ok_bnd.2 (ok_mono (move_spec (8, 1, 1, ⟨some ⟨w6c.heap.size, 0, none⟩, 1, 1⟩) (3, 2, 0, 8, 1, 0, 0, 0, 0, 8, 1, ⟨none, 0, 0⟩) [4026531840] [] w9 (arr_size A7) (arr_nil _ _)) ?_)))
  rintro ⟨⟨W12, H12, D12, S12⟩, e12⟩ w10 ⟨B10, he, _, h⟩
  have he0 : e12 = 0 := by
    have he' : e12 = errC (8, 1, 1, ⟨some ⟨w6c.heap.size, 0, none⟩, 1, 1⟩) (8, 1, 1, ⟨some ⟨w6c.heap.size, 0, none⟩, 1, 1⟩) (3, 2, 0, 8, 1, 0, 0, 0, 0, 8, 1, ⟨none, 0, 0⟩) := he
    rw [he']; unfold errC; rw [if_pos ⟨gd8, gd8, rfl⟩]; decide +kernel
  subst he0
  obtain ⟨h2, h3, h4, O10⟩ := h rfl
  simp only at h2 h3 h4 O10
  subst h2 h3 h4
  have O10 : Own w9.heap.size w10 S12 (wds [4227858432]) := by rw [← c2]; exact O10
  have l12 := own_len O10
  have A12 := own_arr O10
  have f2 := hasForm_size f2 B10
  have f5 := hasForm_size f5 B10
  have f8 := hasForm_size f8 B10
  have A4 := arr_below A4 (B10.mono (by omega))
  have A7 := arr_below A7 (B10.mono (by omega))
  have z10 := B10.size
  have B10 := B9.trans (B10.mono (by omega))
  refine ok_bnd.2 (ok_newForm (h := zf) fun w11 f11 B11 s11 => ?_)
  have f2 := hasForm_size f2 B11
  have f5 := hasForm_size f5 B11
  have f8 := hasForm_size f8 B11
  have A4 := arr_below A4 (B11.mono (by omega))
  have A7 := arr_below A7 (B11.mono (by omega))
  have A12 := arr_below A12 B11
  have B11 := B10.trans (B11.mono (by omega))
  refine ok_bnd.2 (ok_wrForm (h := (8, 1, 1, S12)) f11 fun w12 f11 B12 s12 k12 => ?_)
  have f2 := form_off f2 k12 (by omega)
  have f5 := form_off f5 k12 (by omega)
  have f8 := form_off f8 k12 (by omega)
  have A4 := arr_below A4 (B12.mono (by omega))
  have A7 := arr_below A7 (B12.mono (by omega))
  have A12 := arr_below A12 B12
  have B12 := B11.trans (B12.mono (by omega))
  refine ok_bnd.2 (ok_Form f8 (ok_bnd.2 (ok_build1 _ ?_)))
  have O13 := one_own w12 2863311530
  have B13 : Below w12.heap.size w12 (w12.alloc (.cells #[.int .u32 2863311530] 25)) := (Below.refl _ _).alloc (Nat.le_refl _) _
  have s13 : (w12.alloc (.cells #[.int .u32 2863311530] 25)).heap.size = w12.heap.size + 1 := by simp
  generalize w12.alloc (.cells #[.int .u32 2863311530] 25) = w13 at O13 B13 s13 ⊢
  have A13 := own_arr O13
  have f2 := hasForm_size f2 B13
  have f5 := hasForm_size f5 B13
  have f11 := hasForm_size f11 B13
  have A4 := arr_below A4 (B13.mono (by omega))
  have A7 := arr_below A7 (B13.mono (by omega))
  have A12 := arr_below A12 (B13.mono (by omega))
  have B13 := B12.trans (B13.mono (by omega))
  refine ok_bnd.2 (ok_mono (fill_spec (8, 1, 1, ⟨some ⟨w6c.heap.size, 0, none⟩, 1, 1⟩) (3, 0, 0, 8, 1, 0, 0, 0, 0, 8, 1, ⟨some ⟨w12.heap.size, 0, none⟩, 1, 1⟩) [4026531840] [2863311530] w13 (arr_size A7) (arr_size A13)) ?_)
  rintro ⟨⟨W16, H16, D16, S16⟩, e16⟩ w14 ⟨B14, h⟩
  rw [if_pos ⟨gd8, (by decide +kernel : errB (3, 0, 0, 8, 1, 0, 0, 0, 0, 8, 1, ⟨none, 1, 1⟩) = 0)⟩] at h
  obtain ⟨h1, h2, h3, h4, O14⟩ := h
  simp only at h1 h2 h3 h4 O14
  subst h1 h2 h3 h4
  have O14 : Own w13.heap.size w14 S16 (wds [2852126720]) := by rw [← c3]; exact O14
  have l16 := own_len O14
  have A16 := own_arr O14
  have f2 := hasForm_size f2 B14
  have f5 := hasForm_size f5 B14
  have f11 := hasForm_size f11 B14
  have A4 := arr_below A4 (B14.mono (by omega))
  have A12 := arr_below A12 (B14.mono (by omega))
  have z14 := B14.size
  have B14 := B13.trans (B14.mono (by omega))
  refine ok_bnd.2 (ok_newForm (h := zf) fun w15 f15 B15 s15 => ?_)
  have f2 := hasForm_size f2 B15
  have f5 := hasForm_size f5 B15
  have f11 := hasForm_size f11 B15
  have A4 := arr_below A4 (B15.mono (by omega))
  have A12 := arr_below A12 (B15.mono (by omega))
  have A16 := arr_below A16 B15
  have B15 := B14.trans (B15.mono (by omega))
  refine ok_bnd.2 (ok_wrForm (h := (8, 1, 1, S16)) f15 fun w16 f15 B16 s16 k16 => ?_)
  have f2 := form_off f2 k16 (by omega)
  have f5 := form_off f5 k16 (by omega)
  have f11 := form_off f11 k16 (by omega)
  have A4 := arr_below A4 (B16.mono (by omega))
  have A12 := arr_below A12 (B16.mono (by omega))
  have A16 := arr_below A16 B16
  have B16 := B15.trans (B16.mono (by omega))
  refine ok_bnd.2 (ok_mono (new_spec 4097 1 1 w16) ?_)
  rintro ⟨r18, e18⟩ w17 ⟨B17, h⟩
  rw [if_neg (by decide +kernel)] at h
  cases h
  have f2 := hasForm_size f2 B17
  have f5 := hasForm_size f5 B17
  have f11 := hasForm_size f11 B17
  have f15 := hasForm_size f15 B17
  have A4 := arr_below A4 (B17.mono (by omega))
  have A12 := arr_below A12 (B17.mono (by omega))
  have A16 := arr_below A16 (B17.mono (by omega))
  have z17 := B17.size
  have B17 := B16.trans (B17.mono (by omega))
  refine ok_bnd.2 (ok_newForm (h := zf) fun w18 f18 B18 s18 => ?_)
  have f2 := hasForm_size f2 B18
  have f5 := hasForm_size f5 B18
  have f11 := hasForm_size f11 B18
  have f15 := hasForm_size f15 B18
  have A4 := arr_below A4 (B18.mono (by omega))
  have A12 := arr_below A12 (B18.mono (by omega))
  have A16 := arr_below A16 (B18.mono (by omega))
  have B18 := B17.trans (B18.mono (by omega))
  refine ok_bnd.2 (ok_wrForm (h := zf) f18 fun w19 f18 B19 s19 k19 => ?_)
  have f2 := form_off f2 k19 (by omega)
  have f5 := form_off f5 k19 (by omega)
  have f11 := form_off f11 k19 (by omega)
  have f15 := form_off f15 k19 (by omega)
  have A4 := arr_below A4 (B19.mono (by omega))
  have A12 := arr_below A12 (B19.mono (by omega))
  have A16 := arr_below A16 (B19.mono (by omega))
  have B19 := B18.trans (B19.mono (by omega))
  refine ok_bnd.2 (ok_Form3 f2 (ok_bnd.2 (ok_true (by simp [l1]) (ok_bnd.2 (ok_Form3 f5 (ok_ret.2 ?_))))))
  refine ok_bnd.2 (ok_true (by simp [l4]) (ok_bnd.2 (ok_Form3 f5 (ok_get A4 (by decide) rfl (ok_ret.2 ?_)))))
  refine ok_bnd.2 (ok_true rfl (ok_bnd.2 (ok_Form3 f11 (ok_ret.2 ?_))))
  refine ok_bnd.2 (ok_true (by simp [l12]) (ok_bnd.2 (ok_Form3 f11 (ok_get A12 (by decide) rfl (ok_ret.2 ?_)))))
  refine ok_bnd.2 (ok_true rfl (ok_bnd.2 (ok_Form3 f15 (ok_ret.2 ?_))))
  refine ok_bnd.2 (ok_true (by simp [l16]) (ok_bnd.2 (ok_Form3 f15 (ok_get A16 (by decide) rfl (ok_ret.2 ?_)))))
  exact ok_ret.2 ⟨by decide +kernel, B19⟩
end Go.Proofs.Ytpgalllceejpnaa
