/-
  Part of the proof: B09
-/
import Derived.Test.YtpgalllceejpnaaB08
set_option linter.unusedSimpArgs false
set_option linter.unusedVariables false
namespace Go.Proofs.Ytpgalllceejpnaa
set_option linter.unusedVariables false
open Go.Sh Go.RowKit
set_option maxRecDepth 100000
/-- What is left, without its halftone. -/
noncomputable def clipN (d s : Form) (b : Blit) : Blit := clipS d s b ⟨none, 0, 0⟩
theorem outW_clip (d sf d' s' : Form) (b : Blit) (h : Sl) (has : Bool) (tl : List Int) (dw sw : Int → Int) (j : Int) : outW d sf (clipS d' s' b h) has tl dw sw j = outW d sf (clipN d' s' b) has tl dw sw j := by
  unfold clipN clipS
  by_cases hz : (spanX d' s' b).2.2 < 1 ∨ (spanY d' s' b).2.2 < 1
  · simp only [if_pos hz]; rfl
  · simp only [if_neg hz]; rfl
theorem touched_clip (d d' s' : Form) (b : Blit) (h : Sl) (j : Int) : Touched d (clipS d' s' b h) j ↔ Touched d (clipN d' s' b) j := by
  unfold clipN clipS
  by_cases hz : (spanX d' s' b).2.2 < 1 ∨ (spanY d' s' b).2.2 < 1
  · simp only [if_pos hz]; exact Iff.rfl
  · simp only [if_neg hz]; exact Iff.rfl
theorem tone_clip (d' s' : Form) (b : Blit) (h : Sl) : tone (clipS d' s' b h) = h := by
  unfold clipS; split <;> rfl
theorem errB_ok {b : Blit} (h : errB b = 0) : (0 ≤ b.1 ∧ b.1 ≤ 15) ∧ (∀ n ∈ nums b, Far n) ∧ (tone b).len ≤ 4096 := by
  unfold errB at h
  split at h
  · rename_i h1
    split at h
    · rename_i h2; exact ⟨h1, h2⟩
    · cases h
  · cases h
theorem errC_ok {d s : Form} {b : Blit} (h : errC d s b = 0) : Good d ∧ Good s ∧ d.2.2.1 = s.2.2.1 ∧ errB b = 0 := by
  unfold errC at h
  split at h
  · rename_i h1; exact ⟨h1.1, h1.2.1, h1.2.2, h⟩
  · cases h
theorem in_clip {d s : Form} {b : Blit} {h : Sl} (hg : Sized d ∧ Sized s ∧ d.2.2.1 = s.2.2.1 ∧ errB b = 0) (hht : (clipS d s b h).2.2.2.2.1 ≠ 0) : In d s (clipS d s b h) true := by
  obtain ⟨gd, gs, hdep, hb⟩ := hg
  obtain ⟨hr, hf, _⟩ := errB_ok hb
  simp only [nums, List.mem_cons, List.not_mem_nil, or_false, forall_eq_or_imp, forall_eq] at hf
  obtain ⟨f1, f2, f3, f4, f5, f6, f7, f8, f9, f10⟩ := hf
  unfold clipS at hht ⊢
  by_cases hz : (spanX d s b).2.2 < 1 ∨ (spanY d s b).2.2 < 1
  · rw [if_pos hz] at hht; exact absurd rfl hht
  · rw [if_neg hz] at hht ⊢
    have hX := span_in _ _ _ _ _ d.1 s.1 f1 f3 f5 f7 f9 gd.2.1 gs.2.1 (show 1 ≤ (spanX d s b).2.2 by omega)
    have hY := span_in _ _ _ _ _ d.2.1 s.2.1 f2 f4 f6 f8 f10 gd.2.2.1 gs.2.2.1 (show 1 ≤ (spanY d s b).2.2 by omega)
    have g1 := gd.2.1; have g2 := gs.2.1; have g3 := gd.2.2.1; have g4 := gs.2.2.1
    have x1 : 1 ≤ (spanX d s b).2.2 := by omega
    have y1 : 1 ≤ (spanY d s b).2.2 := by omega
    have hX' : 0 ≤ (spanX d s b).1 ∧ (spanX d s b).1 + (spanX d s b).2.2 ≤ d.1 ∧ 0 ≤ (spanX d s b).2.1 ∧ (spanX d s b).2.1 + (spanX d s b).2.2 ≤ s.1 := ⟨hX.1, hX.2.1, hX.2.2.1, hX.2.2.2.1⟩
    have hY' : 0 ≤ (spanY d s b).1 ∧ (spanY d s b).1 + (spanY d s b).2.2 ≤ d.2.1 ∧ 0 ≤ (spanY d s b).2.1 ∧ (spanY d s b).2.1 + (spanY d s b).2.2 ≤ s.2.1 := ⟨hY.1, hY.2.1, hY.2.2.1, hY.2.2.2.1⟩
    refine ⟨gd.1, gd.2.1, gd.2.2.1, ⟨hX'.1, x1, hX'.2.1⟩, ⟨hY'.1, hY'.2.1⟩, ⟨hX'.2.2.1, ?_⟩, ⟨hY'.2.2.1, ?_⟩, hr, ?_, fun _ => ⟨hdep.symm, gs.2.1, hX'.2.2.2, gs.2.2.1, hY'.2.2.2⟩⟩
    · show (spanX d s b).2.1 ≤ 4096; omega
    · show (spanY d s b).2.1 ≤ 4096; omega
    · have := dep_rng gs.1
      exact (decide_eq_true (show s.2.2.1 > 0 by omega)).symm
theorem ht_nonneg (d s : Form) (b : Blit) (h : Sl) : 0 ≤ (clipS d s b h).2.2.2.2.1 := by
  unfold clipS
  split
  · exact Int.le_refl 0
  · rename_i hz; show 0 ≤ (spanY d s b).2.2; omega
def at0 (l : List Int) (j : Int) : Int := (l[j.toNat]?).getD 0
/-- A form's words behind a blit. -/
noncomputable def outL (d sf : Form) (c : Blit) (has : Bool) (tl dl sl : List Int) : List Int :=
  (List.range dl.length).map fun (j : Nat) => if c.2.2.2.2.1 ≠ 0 ∧ Touched d c (j : Int) then outW d sf c has tl (at0 dl) (at0 sl) (j : Int) else at0 dl (j : Int)
theorem ht_clip (d s : Form) (b : Blit) (h : Sl) : (clipS d s b h).2.2.2.2.1 = (clipN d s b).2.2.2.2.1 := by
  unfold clipN clipS
  by_cases hz : (spanX d s b).2.2 < 1 ∨ (spanY d s b).2.2 < 1
  · simp only [if_pos hz]
  · simp only [if_neg hz]
theorem arr_words {B : Nat} {w : World} {s : Sl} {l : List Int} (H : Arr B w s (wds l)) (hl : l ≠ []) : ∃ b o c, s.a = some ⟨b, o, none⟩ ∧ b < B ∧ blk w b = some c ∧ ∀ j : Int, 0 ≤ j → j < l.length → c[o + j.toNat]? = some (.int .u32 (at0 l j)) := by
  rcases H.2.2.2 with h | ⟨b, o, c, h5, h6, h7, h8⟩
  · simp at h; exact absurd h hl
  · refine ⟨b, o, c, h5, h6, h7, fun j h0 h1 => ?_⟩
    have := h8 j.toNat (by simp; omega)
    rw [this]
    simp only [wds, List.getElem?_map, at0]
    rw [List.getElem?_eq_getElem (by omega)]
    rfl
theorem wds_get {l : List Int} {j : Nat} (h : j < l.length) : (wds l)[j]? = some (.int .u32 (at0 l j)) := by
  simp [wds, at0, h]
theorem outL_len (d sf : Form) (c : Blit) (has : Bool) (tl dl sl : List Int) : (outL d sf c has tl dl sl).length = dl.length := by simp [outL]
theorem outL_get (d sf : Form) (c : Blit) (has : Bool) (tl dl sl : List Int) (j : Nat) (h : j < dl.length) : at0 (outL d sf c has tl dl sl) j = if c.2.2.2.2.1 ≠ 0 ∧ Touched d c (j : Int) then outW d sf c has tl (at0 dl) (at0 sl) (j : Int) else at0 dl (j : Int) := by
  simp [outL, at0, h]
/-- run, in a slice of its own. -/
theorem run_own (d sf d' s' : Form) (b : Blit) (h : Sl) (w : World) (has : Bool) (tl dl sl : List Int) {B : Nat} (hBw : B ≤ w.heap.size)
    (I : (clipS d' s' b h).2.2.2.2.1 ≠ 0 → In d sf (clipS d' s' b h) has)
    (hd : Own B w d.2.2.2 (wds dl)) (hdl : (dl.length : Int) = st d * d.2.1)
    (hsrc : has = true → (sl.length : Int) = st sf * sf.2.1 ∧ ((Arr B w sf.2.2.2 (wds sl)) ∨ (sf.2.2.2 = d.2.2.2 ∧ sl = dl ∧ st sf = st d ∧ sf.2.1 = d.2.1)))
    (ht : Arr w.heap.size w h (wds tl)) (htb : ∀ a bd, h.a = some a → d.2.2.2.a = some bd → wds tl ≠ [] → a.block ≠ bd.block) :
    Ok (f57_bitblt_run d sf (clipS d' s' b h)) w fun _ w' => Below B w w' ∧ Own B w' d.2.2.2 (wds (outL d sf (clipN d' s' b) has tl dl sl)) ∧
      (∀ bd, d.2.2.2.a = some bd → But bd.block w.heap.size w w') ∧ (d.2.2.2.a = none → Below w.heap.size w w') ∧ w.heap.size ≤ w'.heap.size := by
  obtain ⟨e1, e2, e3, e4⟩ := hd
  have el : d.2.2.2.len = dl.length := by simpa using e1
  rcases e4 with ⟨ha, hcap⟩ | ⟨bb, cc, ha, hB, hc, hf, hcs, hcc⟩
  · -- no words at all
    have hl0 : dl = [] := List.eq_nil_of_length_eq_zero (by omega)
    have hI : (clipS d' s' b h).2.2.2.2.1 = 0 := by
      by_cases hz : (clipS d' s' b h).2.2.2.2.1 = 0
      · exact hz
      · have I := I hz
        have hy := I.y
        have G := I.geo
        have hpos := ht_nonneg d' s' b h
        have : 0 < st d * d.2.1 := Int.mul_pos (by omega) (by omega)
        rw [hl0] at hdl
        simp at hdl
        omega
    unfold f57_bitblt_run
    refine ok_bnd.2 (ok_newForm (h := d) fun w1 h1 B1 s1 => ?_)
    refine ok_bnd.2 (ok_newForm (h := sf) fun w2 h2 B2 s2 => ?_)
    have B2 := B1.trans (B2.mono (by omega))
    refine ok_bnd.2 (ok_newBlit (h := clipS d' s' b h) fun w3 h3 B3 s3 => ?_)
    have B3 := B2.trans (B3.mono (by omega))
    refine ok_bnd.2 (ok_Blit6 h3 (ok_bnd.2 (ok_Blit2 h3 (ok_bnd.2 (ok_Blit4 h3 ?_)))))
    rw [hI, loopM_eq]
    refine ok_bnd.2 (ok_false (by simp) (ok_ret.2 (ok_ret.2 ?_)))
    subst hl0
    exact ⟨B3.mono hBw, ⟨e1, e2, e3, .inl ⟨ha, hcap⟩⟩, fun bd hbd => (by rw [ha] at hbd; cases hbd), fun _ => B3, by omega⟩
  · refine ok_mono (run_spec d sf (clipS d' s' b h) w bb cc (at0 dl) (at0 sl) has tl I (ht_nonneg _ _ _ _) ⟨ha, by rw [el]; exact hdl, e2⟩ hc hf (by omega) (fun j h0 h1 => ?_) (fun hne hh => ?_) (by rw [tone_clip]; exact ht) (fun a h1 h2 => ?_)) ?_
    · rw [hcc j.toNat (by simp; omega), wds_get (by omega), show ((j.toNat : Nat) : Int) = j by omega]
    · have I := I hne
      subst hh
      obtain ⟨hsl, hcase⟩ := hsrc rfl
      have hsg := I.sgeo
      have hss := I.src rfl
      have hsy := I.sy
      have hpos := ht_nonneg d' s' b h
      have hpos2 : 0 < st sf * sf.2.1 := Int.mul_pos (by omega) (by omega)
      rcases hcase with hA | ⟨q1, q2, q3, q4⟩
      · obtain ⟨bs, os, cs, h1, h2, h3, h4⟩ := arr_words hA (by intro h; rw [h] at hsl; simp at hsl; omega)
        have hl := hA.1
        simp only [List.length_map] at hl
        exact ⟨bs, os, cs, h1, by rw [hl]; exact hsl, hA.2.1, h3, fun j h0 h1 => h4 j h0 (by omega), fun hbb => by omega⟩
      · subst q2
        refine ⟨bb, 0, cc, by rw [q1]; exact ha, by rw [q1, el]; exact hsl, by rw [q1]; exact e2, hc, fun j h0 h1 => ?_, fun _ => ⟨rfl, q3, q4⟩⟩
        rw [Nat.zero_add, hcc j.toNat (by simp; omega), wds_get (by omega), show ((j.toNat : Nat) : Int) = j by omega]
    · rw [tone_clip] at h1
      exact htb a _ h1 ha h2
    · rintro _ w' ⟨c', h1, h2, h3, h4, h5, h6⟩
      refine ⟨h6.mono hB, ⟨by simp [outL_len, el], e2, e3, .inr ⟨bb, c', ha, hB, h1, h2, by omega, fun i hi => ?_⟩⟩, fun bd hbd => ?_, fun hn => (by rw [ha] at hn; cases hn), h6.size⟩
      · simp only [List.length_map, outL_len] at hi
        rw [wds_get (by rw [outL_len]; exact hi), outL_get _ _ _ _ _ _ _ _ hi, h4 i]
        simp only [ht_clip, touched_clip, outW_clip]
        split
        · rfl
        · rw [hcc i (by simpa using hi), wds_get hi]
      · rw [ha] at hbd; cases hbd; exact h5
end Go.Proofs.Ytpgalllceejpnaa
