/-
  Part of the proof: B22
-/
import Derived.Test.YtpgalllceejpnaaB21
set_option linter.unusedSimpArgs false
set_option linter.unusedVariables false
namespace Go.Proofs.Ytpgalllceejpnaa
set_option linter.unusedVariables false
open Go.Sh Go.RowKit
set_option maxRecDepth 100000
/-- A blit that was clipped is clipped again: it stays. -/
theorem span_clip (x0 x1 x2 x3 x4 x5 x6 : Int) (h0 : Far x0) (h1 : Far x1) (h2 : Far x2) (h3 : Far x3) (h4 : Far x4) (h5 : 0 ≤ x5 ∧ x5 ≤ 4096) (h6 : 0 ≤ x6 ∧ x6 ≤ 4096) (hn : 1 ≤ (Gf54_bitblt_span x0 x1 x2 x3 x4 x5 x6).2.2) :
    x3 ≤ (Gf54_bitblt_span x0 x1 x2 x3 x4 x5 x6).1 ∧ (Gf54_bitblt_span x0 x1 x2 x3 x4 x5 x6).1 + (Gf54_bitblt_span x0 x1 x2 x3 x4 x5 x6).2.2 ≤ x3 + x4 := by
  unfold Far at *
  simp only [Gf54_bitblt_span, wrapI, maxI, minI] at *
  omega
theorem span_of {a n s x3 x4 x5 x6 : Int} (h3 : Far x3) (h4 : Far x4) (h5 : 0 ≤ x5 ∧ x5 ≤ 4096) (h6 : 0 ≤ x6 ∧ x6 ≤ 4096) (ha : 0 ≤ a) (hn : 1 ≤ n) (h : a + n ≤ x5) (hs : 0 ≤ s) (hs2 : s + n ≤ x6) (hc : x3 ≤ a) (hc2 : a + n ≤ x3 + x4) :
    Gf54_bitblt_span a n s x3 x4 x5 x6 = (a, s, n) := by
  unfold Far at *
  simp only [Gf54_bitblt_span]
  rw [wrapI_in (n := a - s) (by omega), wrapI_in (n := a + n) (by omega), wrapI_in (n := x3 + x4) (by omega), wrapI_in (n := a - s + x6) (by omega)]
  have e1 : maxI (maxI (maxI a x3) 0) (a - s) = a := by unfold maxI; repeat' split <;> omega
  have e2 : minI (minI (minI (a + n) (x3 + x4)) x5) (a - s + x6) = a + n := by unfold minI; repeat' split <;> omega
  rw [e1, e2, wrapI_in (n := s + a) (by omega), wrapI_in (n := s + a - a) (by omega), wrapI_in (n := a + n - a) (by omega)]
  simp only [Prod.mk.injEq, true_and]
  omega
theorem span_again (x0 x1 x2 x3 x4 x5 x6 : Int) (h0 : Far x0) (h1 : Far x1) (h2 : Far x2) (h3 : Far x3) (h4 : Far x4) (h5 : 0 ≤ x5 ∧ x5 ≤ 4096) (h6 : 0 ≤ x6 ∧ x6 ≤ 4096) (a n s : Int)
    (e : Gf54_bitblt_span x0 x1 x2 x3 x4 x5 x6 = (a, s, n)) (hn : 1 ≤ n) : Gf54_bitblt_span a n s x3 x4 x5 x6 = (a, s, n) := by
  have i1 := span_in x0 x1 x2 x3 x4 x5 x6 h0 h1 h2 h3 h4 h5 h6 (by rw [e]; exact hn)
  have i2 := span_clip x0 x1 x2 x3 x4 x5 x6 h0 h1 h2 h3 h4 h5 h6 (by rw [e]; exact hn)
  rw [e] at i1 i2
  exact span_of h3 h4 h5 h6 i1.1 hn i1.2.1 i1.2.2.1 i1.2.2.2.1 i2.1 i2.2
theorem span_none (x3 x4 x5 x6 : Int) (h3 : Far x3) (h4 : Far x4) (h5 : 0 ≤ x5 ∧ x5 ≤ 4096) (h6 : 0 ≤ x6 ∧ x6 ≤ 4096) : (Gf54_bitblt_span 0 0 0 x3 x4 x5 x6).2.2 < 1 := by
  unfold Far at *
  simp only [Gf54_bitblt_span, wrapI, maxI, minI] at *
  omega
theorem clip_again {f g : Form} {b : Blit} (h h' : Sl) (he : errC f g b = 0) (hh : h.len = (tone b).len) : errC f g (clipS f g b h) = 0 ∧
    (clipS f g (clipS f g b h) h').2.1 = (clipS f g b h).2.1 ∧ (clipS f g (clipS f g b h) h').2.2.1 = (clipS f g b h).2.2.1 ∧ (clipS f g (clipS f g b h) h').2.2.2.1 = (clipS f g b h).2.2.2.1 ∧
    (clipS f g (clipS f g b h) h').2.2.2.2.1 = (clipS f g b h).2.2.2.2.1 ∧ (clipS f g (clipS f g b h) h').2.2.2.2.2.1 = (clipS f g b h).2.2.2.2.2.1 ∧ (clipS f g (clipS f g b h) h').2.2.2.2.2.2.1 = (clipS f g b h).2.2.2.2.2.2.1 := by
  obtain ⟨gf, gg, hdep, hb⟩ := errC_ok he
  obtain ⟨hr, hf, htl⟩ := errB_ok hb
  simp only [nums, List.mem_cons, List.not_mem_nil, or_false, forall_eq_or_imp, forall_eq] at hf
  obtain ⟨f1, f2, f3, f4, f5, f6, f7, f8, f9, f10⟩ := hf
  have g1 := gf.1.2.1; have g2 := gg.1.2.1; have g3 := gf.1.2.2.1; have g4 := gg.1.2.2.1
  obtain ⟨X, hX⟩ : ∃ X, X = spanX f g b := ⟨_, rfl⟩
  obtain ⟨Y, hY⟩ : ∃ Y, Y = spanY f g b := ⟨_, rfl⟩
  by_cases hz : X.2.2 < 1 ∨ Y.2.2 < 1
  · have e : clipS f g b h = (b.1, 0, 0, 0, 0, 0, 0, b.2.2.2.2.2.2.2.1, b.2.2.2.2.2.2.2.2.1, b.2.2.2.2.2.2.2.2.2.1, b.2.2.2.2.2.2.2.2.2.2.1, h) := by
      unfold clipS; rw [← hX, ← hY, if_pos hz]
    rw [e]
    refine ⟨?_, ?_⟩
    · unfold errC; rw [if_pos ⟨gf, gg, hdep⟩]; unfold errB; rw [if_pos hr, if_pos]
      refine ⟨?_, by show h.len ≤ 4096; omega⟩
      simp only [nums, List.mem_cons, List.not_mem_nil, or_false, forall_eq_or_imp, forall_eq]
      exact ⟨by decide, by decide, by decide, by decide, by decide, by decide, f7, f8, f9, f10⟩
    · have hz2 : (spanX f g (b.1, 0, 0, 0, 0, 0, 0, b.2.2.2.2.2.2.2.1, b.2.2.2.2.2.2.2.2.1, b.2.2.2.2.2.2.2.2.2.1, b.2.2.2.2.2.2.2.2.2.2.1, h)).2.2 < 1 := span_none _ _ _ _ f7 f9 g1 g2
      unfold clipS
      rw [if_pos (Or.inl hz2)]
      exact ⟨rfl, rfl, rfl, rfl, rfl, rfl⟩
  · have e : clipS f g b h = (b.1, X.1, Y.1, X.2.2, Y.2.2, X.2.1, Y.2.1, b.2.2.2.2.2.2.2.1, b.2.2.2.2.2.2.2.2.1, b.2.2.2.2.2.2.2.2.2.1, b.2.2.2.2.2.2.2.2.2.2.1, h) := by
      unfold clipS; rw [← hX, ← hY, if_neg hz]
    have x1 : 1 ≤ X.2.2 := by omega
    have y1 : 1 ≤ Y.2.2 := by omega
    have hXi := span_in _ _ _ _ _ f.1 g.1 f1 f3 f5 f7 f9 g1 g2 (show 1 ≤ (spanX f g b).2.2 by rw [← hX]; exact x1)
    have hYi := span_in _ _ _ _ _ f.2.1 g.2.1 f2 f4 f6 f8 f10 g3 g4 (show 1 ≤ (spanY f g b).2.2 by rw [← hY]; exact y1)
    have hXi' : 0 ≤ X.1 ∧ X.1 + X.2.2 ≤ f.1 ∧ 0 ≤ X.2.1 ∧ X.2.1 + X.2.2 ≤ g.1 := by rw [hX]; exact ⟨hXi.1, hXi.2.1, hXi.2.2.1, hXi.2.2.2.1⟩
    have hYi' : 0 ≤ Y.1 ∧ Y.1 + Y.2.2 ≤ f.2.1 ∧ 0 ≤ Y.2.1 ∧ Y.2.1 + Y.2.2 ≤ g.2.1 := by rw [hY]; exact ⟨hYi.1, hYi.2.1, hYi.2.2.1, hYi.2.2.2.1⟩
    rw [e]
    refine ⟨?_, ?_⟩
    · unfold errC; rw [if_pos ⟨gf, gg, hdep⟩]; unfold errB; rw [if_pos hr, if_pos]
      refine ⟨?_, by show h.len ≤ 4096; omega⟩
      simp only [nums, List.mem_cons, List.not_mem_nil, or_false, forall_eq_or_imp, forall_eq]
      unfold Far
      unfold Far at f7 f8 f9 f10
      exact ⟨by omega, by omega, by omega, by omega, by omega, by omega, f7, f8, f9, f10⟩
    · have eX : spanX f g (b.1, X.1, Y.1, X.2.2, Y.2.2, X.2.1, Y.2.1, b.2.2.2.2.2.2.2.1, b.2.2.2.2.2.2.2.2.1, b.2.2.2.2.2.2.2.2.2.1, b.2.2.2.2.2.2.2.2.2.2.1, h) = X :=
        span_again _ _ _ _ _ f.1 g.1 f1 f3 f5 f7 f9 g1 g2 X.1 X.2.2 X.2.1 hX.symm x1
      have eY : spanY f g (b.1, X.1, Y.1, X.2.2, Y.2.2, X.2.1, Y.2.1, b.2.2.2.2.2.2.2.1, b.2.2.2.2.2.2.2.2.1, b.2.2.2.2.2.2.2.2.2.1, b.2.2.2.2.2.2.2.2.2.2.1, h) = Y :=
        span_again _ _ _ _ _ f.2.1 g.2.1 f2 f4 f6 f8 f10 g3 g4 Y.1 Y.2.2 Y.2.1 hY.symm y1
      unfold clipS
      rw [eX, eY, if_neg hz]
      exact ⟨rfl, rfl, rfl, rfl, rfl, rfl⟩
theorem ok_and {α : Type} {b : Bool} {w : World} {m : M Bool} {f : Bool → M α} {Q : α → World → Prop} (p : Bool) (h : b = true → Ok m w fun r w' => r = p ∧ w' = w) (hq : Ok (f (b && p)) w Q) : Ok (bnd (cnd b m (ret false)) f) w Q := by
  refine ok_bnd.2 ?_
  cases b with
  | true => refine ok_true rfl (ok_mono (h rfl) ?_); rintro r _ ⟨rfl, rfl⟩; exact hq
  | false => exact ok_false rfl (ok_ret.2 hq)
theorem ok_or {α : Type} {b : Bool} {w : World} {m : M Bool} {f : Bool → M α} {Q : α → World → Prop} (p : Bool) (h : b = false → Ok m w fun r w' => r = p ∧ w' = w) (hq : Ok (f (b || p)) w Q) : Ok (bnd (cnd b (ret true) m) f) w Q := by
  refine ok_bnd.2 ?_
  cases b with
  | true => exact ok_true rfl (ok_ret.2 hq)
  | false => refine ok_false rfl (ok_mono (h rfl) ?_); rintro r _ ⟨rfl, rfl⟩; exact hq
end Go.Proofs.Ytpgalllceejpnaa
