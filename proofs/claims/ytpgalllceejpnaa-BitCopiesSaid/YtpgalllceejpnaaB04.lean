/-
  Part of the proof: B04
-/
import Derived.Test.YtpgalllceejpnaaB03
set_option linter.unusedSimpArgs false
set_option linter.unusedVariables false
namespace Go.Proofs.Ytpgalllceejpnaa
set_option linter.unusedVariables false
open Go.Sh Go.RowKit
set_option maxRecDepth 100000
theorem slt : SlT Try.prog 22 25 (.int .u32 0) 4 := ⟨Try.underlying22, ⟨_, (by kernel_rfl : Try.prog.info? 25 = some Try.t25), rfl, rfl, rfl⟩, rfl⟩
/-- Words as values. -/
abbrev wds (l : List Int) : List Value := l.map (.int .u32)
theorem wds_one (l : List Int) : ∀ u ∈ wds l, u.oneCell' = true := by
  intro u hu
  obtain ⟨n, _, rfl⟩ := List.mem_map.1 hu
  rfl
theorem clone_spec {B : Nat} {w : World} {s : Sl} {l : List Int} (H : Arr B w s (wds l)) (hl : s.len ≤ 4194304) : Ok (f40_slices_Cloneuint32_uint32 s) w fun r w' => Own w.heap.size w' r (wds l) ∧ Below w.heap.size w w' ∧ (r.a.isNone = s.a.isNone) := by
  unfold f40_slices_Cloneuint32_uint32
  by_cases hn : s.a = none
  · refine ok_true (by simp [hn]) (ok_ret.2 ⟨?_, Below.refl _ _, by simp [hn]⟩)
    have : wds l = [] := by
      rcases H.2.2.2 with h | ⟨b, o, c, h, _⟩
      · exact h
      · rw [hn] at h; cases h
    rw [this]
    exact ⟨rfl, Nat.le_refl _, Nat.zero_le _, .inl ⟨rfl, rfl⟩⟩
  · refine ok_false (by simpa [Option.isSome_iff_ne_none] using hn) ?_
    have := ok_clone slt (Q := fun r w' => Own w.heap.size w' r (wds l) ∧ Below w.heap.size w w' ∧ (r.a.isNone = s.a.isNone)) H (wds_one l) (by omega) (fun r w' h1 h2 h3 h4 => ⟨h1, h3, by
      cases hr : r.a with
      | none => exact absurd hr h2
      | some x => cases hs : s.a with
        | none => exact absurd hs hn
        | some y => rfl⟩)
    refine ok_bnd.2 (ok_mono (ok_bnd.1 this) fun v1 w1 h => ok_bnd.2 (ok_mono h fun r w2 h => ok_ret.2 h))
def Far (n : Int) : Prop := -1000000 ≤ n ∧ n ≤ 1000000
instance (n : Int) : Decidable (Far n) := by unfold Far; infer_instance
def nums (b : Blit) : List Int := [b.2.1, b.2.2.1, b.2.2.2.1, b.2.2.2.2.1, b.2.2.2.2.2.1, b.2.2.2.2.2.2.1, b.2.2.2.2.2.2.2.1, b.2.2.2.2.2.2.2.2.1, b.2.2.2.2.2.2.2.2.2.1, b.2.2.2.2.2.2.2.2.2.2.1]
def tone (b : Blit) : Sl := b.2.2.2.2.2.2.2.2.2.2.2
/-- What forbids a blit's numbers. -/
def errB (b : Blit) : Int := if 0 ≤ b.1 ∧ b.1 ≤ 15 then (if (∀ n ∈ nums b, Far n) ∧ (tone b).len ≤ 4096 then 0 else 1) else 111
theorem ok_ixG_int {k : IntKind} {l : List Int} {len : Nat} {n v : Int} {w : World} {Q : Int → World → Prop} (h0 : 0 ≤ n) (h1 : n < len) (hv : l[n.toNat]? = some v) (hq : Q v w) : Ok (ixG (.int k) (l.map (.int k)) len n) w Q := by
  unfold ixG
  rw [show (decide (0 ≤ n) && decide (n < (len : Int))) = true by simp [h0, h1], cond_true]
  simp only [List.getElem?_map, hv, Option.map_some]
  exact ok_optM.2 ⟨v, by simp [dec1, dec, dInt], hq⟩
theorem bounded_spec (b : Blit) (w : World) : Ok (f53_bitblt_bounded b) w fun r w' => r = errB b ∧ Below w.heap.size w w' := by
  unfold f53_bitblt_bounded
  refine ok_bnd.2 (ok_newBlit (h := b) fun w1 hb hB hs => ?_)
  refine ok_bnd.2 (ok_Blit0 hb ?_)
  unfold errB
  by_cases hr : 0 ≤ b.1 ∧ b.1 ≤ 15
  · rw [if_pos hr]
    refine ok_false (by simp [Gf36_bitblt_within, hr]) ?_
    refine ok_bnd.2 (ok_Blit1 hb (ok_bnd.2 (ok_Blit2 hb (ok_bnd.2 (ok_Blit3 hb (ok_bnd.2 (ok_Blit4 hb (ok_bnd.2 (ok_Blit5 hb (ok_bnd.2 (ok_Blit6 hb (ok_bnd.2 (ok_Blit7 hb (ok_bnd.2 (ok_Blit8 hb (ok_bnd.2 (ok_Blit9 hb (ok_bnd.2 (ok_Blit10 hb ?_)))))))))))))))))))
    refine ok_loop (fun s w' => w' = w1 ∧ 0 ≤ s ∧ s ≤ 10 ∧ ∀ j, j < s.toNat → ∀ n, (nums b)[j]? = some n → Far n) (fun s _ => (10 - s).toNat) ?_ _ _ ⟨rfl, by decide, by decide, fun j hj => by simp at hj⟩
    rintro s w' ⟨rfl, h0, h1, h2⟩
    by_cases hlt : s < 10
    · refine ok_true (by simp [hlt]) ?_
      obtain ⟨v, hv⟩ : ∃ v, (nums b)[s.toNat]? = some v := ⟨_, List.getElem?_eq_getElem (by simp [nums]; omega)⟩
      refine ok_bnd.2 (ok_ixG_int (l := nums b) h0 (by omega) hv ?_)
      by_cases hf : Far v
      · have hf' := hf
        unfold Far at hf'
        refine ok_false (by simp [Gf36_bitblt_within, hf']) (ok_ret.2 ?_)
        rw [wrapI_in (by omega)]
        refine ⟨⟨rfl, by omega, by omega, fun j hj n hn => ?_⟩, by omega⟩
        by_cases hjs : j = s.toNat
        · subst hjs; rw [hv] at hn; cases hn; exact hf
        · exact h2 j (by omega) n hn
      · have hf' := hf
        unfold Far at hf'
        refine ok_true (by simp [Gf36_bitblt_within]; omega) (ok_ret.2 ⟨?_, hB⟩)
        rw [if_neg]
        rintro ⟨hh, _⟩
        exact hf (hh v (List.mem_of_getElem? hv))
    · refine ok_false (by simp [hlt]) ?_
      have hall : ∀ n ∈ nums b, Far n := by
        intro n hn
        obtain ⟨j, hj, rfl⟩ := List.getElem_of_mem hn
        exact h2 j (by simp [nums] at hj; omega) _ (List.getElem?_eq_getElem hj)
      refine ok_bnd.2 (ok_bnd.2 (ok_Blit11 hb ?_))
      by_cases ht : (tone b).len ≤ 4096
      · refine ok_false (by simp only [decide_eq_false_iff_not]; show ¬ ((tone b).len : Int) > 4096; omega) (ok_ret.2 (ok_ret.2 ⟨?_, hB⟩))
        rw [if_pos ⟨hall, ht⟩]
      · refine ok_true (by simp only [decide_eq_true_eq]; show ((tone b).len : Int) > 4096; omega) (ok_ret.2 (ok_ret.2 ⟨?_, hB⟩))
        rw [if_neg (fun h => ht h.2)]
  · rw [if_neg hr]
    exact ok_true (by simp [Gf36_bitblt_within]; omega) (ok_ret.2 ⟨rfl, hB⟩)
abbrev zb : Blit := (0, 0, 0, 0, 0, 0, 0, 0, 0, 0, 0, ⟨none, 0, 0⟩)
abbrev zf : Form := (0, 0, 0, ⟨none, 0, 0⟩)
/-- What is left of a blit. -/
noncomputable def spanX (d s : Form) (b : Blit) : Int × Int × Int := Gf54_bitblt_span b.2.1 b.2.2.2.1 b.2.2.2.2.2.1 b.2.2.2.2.2.2.2.1 b.2.2.2.2.2.2.2.2.2.1 d.1 s.1
noncomputable def spanY (d s : Form) (b : Blit) : Int × Int × Int := Gf54_bitblt_span b.2.2.1 b.2.2.2.2.1 b.2.2.2.2.2.2.1 b.2.2.2.2.2.2.2.2.1 b.2.2.2.2.2.2.2.2.2.2.1 d.2.1 s.2.1
noncomputable def clipS (d s : Form) (b : Blit) (h : Sl) : Blit :=
  if (spanX d s b).2.2 < 1 ∨ (spanY d s b).2.2 < 1 then (b.1, 0, 0, 0, 0, 0, 0, b.2.2.2.2.2.2.2.1, b.2.2.2.2.2.2.2.2.1, b.2.2.2.2.2.2.2.2.2.1, b.2.2.2.2.2.2.2.2.2.2.1, h)
  else (b.1, (spanX d s b).1, (spanY d s b).1, (spanX d s b).2.2, (spanY d s b).2.2, (spanX d s b).2.1, (spanY d s b).2.1, b.2.2.2.2.2.2.2.1, b.2.2.2.2.2.2.2.2.1, b.2.2.2.2.2.2.2.2.2.1, b.2.2.2.2.2.2.2.2.2.2.1, h)
def errC (d s : Form) (b : Blit) : Int := if Good d ∧ Good s ∧ d.2.2.1 = s.2.2.1 then errB b else 110
theorem errS_ne (f : Form) : (errS f == 0) = decide (Good f) := by unfold errS; by_cases h : Good f <;> simp [h]
theorem own_mono {B B' : Nat} {w : World} {s : Sl} {xs : List Value} (h : Own B w s xs) (hB : B' ≤ B) : Own B' w s xs := by
  obtain ⟨h1, h2, h3, h4⟩ := h
  refine ⟨h1, h2, h3, h4.imp id ?_⟩
  rintro ⟨b, c, h5, h6, h7⟩
  exact ⟨b, c, h5, by omega, h7⟩
theorem own_off {B b' : Nat} {w w' : World} {s : Sl} {xs : List Value} (h : Own B w s xs) (k : ∀ k, k ≠ b' → blk w' k = blk w k ∧ fre w' k = fre w k) (hb : b' < B) : Own B w' s xs := by
  obtain ⟨h1, h2, h3, h4⟩ := h
  refine ⟨h1, h2, h3, h4.imp id ?_⟩
  rintro ⟨b, c, h5, h6, h7, h8⟩
  have := k b (by omega)
  exact ⟨b, c, h5, h6, this.1.trans h7, this.2.trans h8.1, h8.2⟩
theorem form_off {b b' : Nat} {w w' : World} {h : Form} (H : HasForm w b h) (k : ∀ k, k ≠ b' → blk w' k = blk w k ∧ fre w' k = fre w k) (hb : b ≠ b') : HasForm w' b h := ⟨(k b hb).1.trans H.1, (k b hb).2.trans H.2⟩
theorem blit_off {b b' : Nat} {w w' : World} {h : Blit} (H : HasBlit w b h) (k : ∀ k, k ≠ b' → blk w' k = blk w k ∧ fre w' k = fre w k) (hb : b ≠ b') : HasBlit w' b h := ⟨(k b hb).1.trans H.1, (k b hb).2.trans H.2⟩
theorem clip_spec {B : Nat} (d s : Form) (b : Blit) (l : List Int) (w : World) (H : Arr B w (tone b) (wds l)) : Ok (f25_bitblt_Clip d s b) w fun r w' =>
    Below w.heap.size w w' ∧ r.2 = errC d s b ∧ (r.2 ≠ 0 → r.1 = zb) ∧ (r.2 = 0 → ∃ h, r.1 = clipS d s b h ∧ Own w.heap.size w' h (wds l) ∧ (h.a.isNone = (tone b).a.isNone)) := by
  unfold f25_bitblt_Clip
  refine ok_bnd.2 (ok_newForm (h := d) fun w1 h1 B1 s1 => ?_)
  refine ok_bnd.2 (ok_newForm (h := s) fun w2 h2 B2 s2 => ?_)
  have h1 := hasForm_size h1 B2
  have B2 := B1.trans (B2.mono (by omega))
  refine ok_bnd.2 (ok_newBlit (h := b) fun w3 h3 B3 s3 => ?_)
  have h1 := hasForm_size h1 B3
  have h2 := hasForm_size h2 B3
  have B3 := B2.trans (B3.mono (by omega))
  refine ok_bnd.2 (ok_newBlit (h := zb) fun w4 h4 B4 s4 => ?_)
  have h1 := hasForm_size h1 B4
  have h2 := hasForm_size h2 B4
  have h3 := hasBlit_size h3 B4
  have B4 := B3.trans (B4.mono (by omega))
  refine ok_bnd.2 (ok_Form h1 (ok_bnd.2 (ok_mono (check_spec d w4) ?_)))
  rintro r w5 ⟨rfl, B5⟩
  have h1 := hasForm_size h1 B5
  have h2 := hasForm_size h2 B5
  have h3 := hasBlit_size h3 B5
  have h4 := hasBlit_size h4 B5
  have z5 := B5.size
  have B5 := B4.trans (B5.mono (by omega))
  refine ok_bnd.2 (ok_mono (Q := fun r w' => (r == 0) = decide (Good d ∧ Good s) ∧ (r ≠ 0 → r = 110) ∧ Below w5.heap.size w5 w') ?_ ?_)
  · rw [errS_ne]
    by_cases hg : Good d
    · refine ok_true (by simp [hg]) (ok_bnd.2 (ok_Form h2 (ok_bnd.2 (ok_mono (check_spec s w5) ?_))))
      rintro r w6 ⟨rfl, B6⟩
      refine ok_ret.2 ⟨?_, ?_, B6⟩
      · rw [errS_ne]; simp [hg]
      · unfold errS; split <;> simp
    · refine ok_false (by simp [hg]) (ok_ret.2 ⟨?_, ?_, Below.refl _ _⟩)
      · rw [errS_ne]; simp [hg]
      · unfold errS; rw [if_neg hg]; simp
  rintro e1 w6 ⟨he1, hn1, B6⟩
  have h1 := hasForm_size h1 B6
  have h2 := hasForm_size h2 B6
  have h3 := hasBlit_size h3 B6
  have h4 := hasBlit_size h4 B6
  have z6 := B6.size
  have B6 := B5.trans (B6.mono (by omega))
  refine ok_bnd.2 (ok_mono (Q := fun r w' => r = decide (e1 = 0 ∧ d.2.2.1 ≠ s.2.2.1) ∧ w' = w6) ?_ ?_)
  · by_cases he : e1 = 0
    · refine ok_true (by simp [he]) (ok_bnd.2 (ok_Form2 h1 (ok_bnd.2 (ok_Form2 h2 (ok_ret.2 ⟨?_, rfl⟩)))))
      exact eq_dec (by simp [he])
    · exact ok_false (by simp [he]) (ok_ret.2 ⟨by simp [he], rfl⟩)
  rintro r w7 ⟨rfl, rfl⟩
  refine ok_bnd.2 (ok_mono (Q := fun r w' => (r == 0) = decide (Good d ∧ Good s ∧ d.2.2.1 = s.2.2.1) ∧ (r ≠ 0 → r = 110) ∧ w' = w7) ?_ ?_)
  · by_cases hc : e1 = 0 ∧ d.2.2.1 ≠ s.2.2.1
    · refine ok_true (by simp [hc]) (ok_ret.2 ⟨?_, fun _ => rfl, rfl⟩)
      exact eq_dec (by simp; exact fun _ _ h => hc.2 h)
    · refine ok_false (by simpa using hc) (ok_ret.2 ⟨?_, hn1, rfl⟩)
      rw [he1]
      by_cases he : e1 = 0
      · have hgg : Good d ∧ Good s := by simpa [he] using he1
        have : d.2.2.1 = s.2.2.1 := by
          by_cases hd : d.2.2.1 = s.2.2.1
          · exact hd
          · exact absurd ⟨he, hd⟩ hc
        simp [hgg, this]
      · have hgg : ¬ (Good d ∧ Good s) := by
          intro hh
          rw [decide_eq_true hh] at he1
          exact he (by simpa using he1)
        exact eq_dec (by simp only [decide_eq_true_eq]; exact ⟨fun h => absurd h hgg, fun h => ⟨h.1, h.2.1⟩⟩)
  rintro e2 w8 ⟨he2, hn2, rfl⟩
  refine ok_bnd.2 (ok_mono (Q := fun r w' => r = errC d s b ∧ Below w8.heap.size w8 w') ?_ ?_)
  · by_cases hg : Good d ∧ Good s ∧ d.2.2.1 = s.2.2.1
    · have he : e2 = 0 := by rw [decide_eq_true hg] at he2; simpa using he2
      refine ok_true (by simp [he]) (ok_bnd.2 (ok_Blit h3 (ok_bnd.2 (ok_mono (bounded_spec b w8) ?_))))
      rintro r w9 ⟨rfl, B9⟩
      exact ok_ret.2 ⟨by unfold errC; rw [if_pos hg], B9⟩
    · have he : e2 ≠ 0 := by
        intro h0
        rw [decide_eq_false hg, h0] at he2
        simp at he2
      refine ok_false (by simp [he]) (ok_ret.2 ⟨by unfold errC; rw [if_neg hg]; exact hn2 he, Below.refl _ _⟩)
  rintro e3 w9 ⟨rfl, B9⟩
  have h1 := hasForm_size h1 B9
  have h2 := hasForm_size h2 B9
  have h3 := hasBlit_size h3 B9
  have h4 := hasBlit_size h4 B9
  have z9 := B9.size
  have B9 := B6.trans (B9.mono (by omega))
  by_cases he : errC d s b = 0
  · refine ok_false (by simp [he]) ?_
    have hlen : (tone b).len ≤ 4096 := by
      unfold errC at he
      split at he
      · unfold errB at he
        split at he
        · split at he
          · rename_i hh; exact hh.2
          · cases he
        · cases he
      · cases he
    refine ok_bnd.2 (ok_Blit11 h3 (ok_bnd.2 (ok_mono (clone_spec (arr_below (arr_size H) B9) (show (tone b).len ≤ 4194304 by omega)) ?_)))
    rintro r w10 ⟨O10, B10, hnn⟩
    have h1 := hasForm_size h1 B10
    have h2 := hasForm_size h2 B10
    have h3 := hasBlit_size h3 B10
    have h4 := hasBlit_size h4 B10
    have z10 := B10.size
    have B10 := B9.trans (B10.mono (by omega))
    refine ok_bnd.2 (ok_wrBlit11 (x := r) h3 fun w11 h3 B11 s11 k11 => ?_)
    have h1 := form_off h1 k11 (by omega)
    have h2 := form_off h2 k11 (by omega)
    have h4 := blit_off h4 k11 (by omega)
    have O := own_off O10 k11 (by omega)
    have B11 := B10.trans (B11.mono (by omega))
    refine ok_bnd.2 (ok_Blit1 h3 (ok_bnd.2 (ok_Blit3 h3 (ok_bnd.2 (ok_Blit5 h3 (ok_bnd.2 (ok_Blit7 h3 (ok_bnd.2 (ok_Blit9 h3 (ok_bnd.2 (ok_Form0 h1 (ok_bnd.2 (ok_Form0 h2 ?_)))))))))))))
    refine ok_bnd.2 (ok_wrBlit1 h3 fun w12 h3 B12 s12 k12 => ?_)
    have h1 := form_off h1 k12 (by omega)
    have h2 := form_off h2 k12 (by omega)
    have h4 := blit_off h4 k12 (by omega)
    have O := own_off O k12 (by omega)
    have B12 := B11.trans (B12.mono (by omega))
    refine ok_bnd.2 (ok_wrBlit5 h3 fun w13 h3 B13 s13 k13 => ?_)
    have h1 := form_off h1 k13 (by omega)
    have h2 := form_off h2 k13 (by omega)
    have h4 := blit_off h4 k13 (by omega)
    have O := own_off O k13 (by omega)
    have B13 := B12.trans (B13.mono (by omega))
    refine ok_bnd.2 (ok_wrBlit3 h3 fun w14 h3 B14 s14 k14 => ?_)
    have h1 := form_off h1 k14 (by omega)
    have h2 := form_off h2 k14 (by omega)
    have h4 := blit_off h4 k14 (by omega)
    have O := own_off O k14 (by omega)
    have B14 := B13.trans (B14.mono (by omega))
    refine ok_bnd.2 (ok_Blit2 h3 (ok_bnd.2 (ok_Blit4 h3 (ok_bnd.2 (ok_Blit6 h3 (ok_bnd.2 (ok_Blit8 h3 (ok_bnd.2 (ok_Blit10 h3 (ok_bnd.2 (ok_Form1 h1 (ok_bnd.2 (ok_Form1 h2 ?_)))))))))))))
    refine ok_bnd.2 (ok_wrBlit2 h3 fun w15 h3 B15 s15 k15 => ?_)
    have h4 := blit_off h4 k15 (by omega)
    have O := own_off O k15 (by omega)
    have B15 := B14.trans (B15.mono (by omega))
    refine ok_bnd.2 (ok_wrBlit6 h3 fun w16 h3 B16 s16 k16 => ?_)
    have h4 := blit_off h4 k16 (by omega)
    have O := own_off O k16 (by omega)
    have B16 := B15.trans (B16.mono (by omega))
    refine ok_bnd.2 (ok_wrBlit4 h3 fun w17 h3 B17 s17 k17 => ?_)
    have h4 := blit_off h4 k17 (by omega)
    have O := own_off O k17 (by omega)
    have B17 := B16.trans (B17.mono (by omega))
    refine ok_bnd.2 (ok_Blit3 h3 (ok_bnd.2 ?_))
    refine ok_mono (Q := fun r w' => r = decide ((spanX d s b).2.2 < 1 ∨ (spanY d s b).2.2 < 1) ∧ w' = w17) ?_ ?_
    · refine ok_cnd.2 ⟨fun h => ok_ret.2 ⟨?_, rfl⟩, fun h => ok_bnd.2 (ok_Blit4 h3 (ok_ret.2 ⟨?_, rfl⟩))⟩
      · have h := of_decide_eq_true h
        exact eq_dec (by simp only [true_iff]; exact Or.inl h)
      · have h := of_decide_eq_false h
        exact eq_dec (by rw [decide_eq_true_iff]; exact ⟨fun h' => Or.inr h', fun h' => h'.resolve_left h⟩)
    rintro q w18 ⟨rfl, rfl⟩
    refine ok_bnd.2 (ok_mono (Q := fun _ w' => HasBlit w' w2.heap.size (clipS d s b r) ∧ (∀ k, k ≠ w2.heap.size → blk w' k = blk w18 k ∧ fre w' k = fre w18 k) ∧ Below w.heap.size w w' ∧ w'.heap.size = w18.heap.size) ?_ ?_)
    · by_cases hz : (spanX d s b).2.2 < 1 ∨ (spanY d s b).2.2 < 1
      · refine ok_true (by simp [hz]) ?_
        refine ok_bnd.2 (ok_wrBlit1 h3 fun v1 h3 C1 t1 m1 => ?_)
        refine ok_bnd.2 (ok_wrBlit2 h3 fun v2 h3 C2 t2 m2 => ?_)
        refine ok_bnd.2 (ok_wrBlit5 h3 fun v3 h3 C3 t3 m3 => ?_)
        refine ok_bnd.2 (ok_wrBlit6 h3 fun v4 h3 C4 t4 m4 => ?_)
        refine ok_bnd.2 (ok_wrBlit3 h3 fun v5 h3 C5 t5 m5 => ?_)
        refine ok_bnd.2 (ok_wrBlit4 h3 fun v6 h3 C6 t6 m6 => ?_)
        refine ok_ret.2 ⟨?_, fun k hk => ?_, ?_, by omega⟩
        · unfold clipS; rw [if_pos hz]; exact h3
        · have a1 := m1 k hk; have a2 := m2 k hk; have a3 := m3 k hk; have a4 := m4 k hk; have a5 := m5 k hk; have a6 := m6 k hk
          exact ⟨by rw [a6.1, a5.1, a4.1, a3.1, a2.1, a1.1], by rw [a6.2, a5.2, a4.2, a3.2, a2.2, a1.2]⟩
        · exact B17.trans ((C1.trans (C2.trans (C3.trans (C4.trans (C5.trans C6))))).mono (by omega))
      · refine ok_false (by simpa using hz) (ok_ret.2 ⟨?_, fun k hk => ⟨rfl, rfl⟩, B17, rfl⟩)
        unfold clipS; rw [if_neg hz]; exact h3
    rintro _ w19 ⟨h3, k19, B19, z19⟩
    have h4 := blit_off h4 k19 (by omega)
    have O := own_off O k19 (by omega)
    refine ok_bnd.2 (ok_Blit h3 (ok_bnd.2 (ok_wrBlit (h := clipS d s b r) h4 fun w20 h4 B20 s20 k20 => ?_)))
    have O := own_off O k20 (by omega)
    refine ok_bnd.2 (ok_Blit h4 (ok_ret.2 ⟨B19.trans (B20.mono (by omega)), he.symm, fun h => absurd rfl h, fun _ => ⟨r, rfl, own_mono O (by omega), hnn⟩⟩))
  · refine ok_true (by simpa using he) (ok_bnd.2 (ok_wrBlit (h := zb) h4 fun w10 h10 B10 s10 _ => ?_))
    refine ok_bnd.2 (ok_Blit h10 (ok_ret.2 ⟨B9.trans (B10.mono (by omega)), rfl, fun _ => rfl, fun h => absurd h he⟩))
end Go.Proofs.Ytpgalllceejpnaa
