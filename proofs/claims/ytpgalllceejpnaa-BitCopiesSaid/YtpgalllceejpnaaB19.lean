/-
  Part of the proof: B19
-/
import Derived.Test.YtpgalllceejpnaaB18
set_option linter.unusedSimpArgs false
set_option linter.unusedVariables false
namespace Go.Proofs.Ytpgalllceejpnaa
set_option linter.unusedVariables false
open Go.Sh Go.RowKit
set_option maxRecDepth 100000
/-- A copy, in a call that holds things. -/
theorem copyL {α : Type} {S : Nat → Prop} {w0 w : World} {L : List It} {Q : α → World → Prop} {f : Form × Int → M α} (C : Cx S w0 w L) (d s : Form) (b : Blit) (dl sl tl : List Int)
    (Hd : Arr w.heap.size w d.2.2.2 (wds dl)) (Hs : Arr w.heap.size w s.2.2.2 (wds sl)) (Ht : Arr w.heap.size w (tone b) (wds tl)) (he : errC d s b = 0)
    (hq : ∀ R w', Cx S w0 w' (.own R (wds (cpy b.1 d s (clipN d s b) true tl (at0 sl) dl)) :: L) → Ok (f ((d.1, d.2.1, d.2.2.1, R), 0)) w' Q) : Ok (bnd (f28_bitblt_Copy d s b) f) w Q := by
  refine ok_bnd.2 (ok_mono (copy_spec d s b dl sl tl w Hd Hs Ht) ?_)
  rintro ⟨⟨r1, r2, r3, R⟩, e⟩ w' ⟨hB, h1, h2, h3⟩
  have h0 : e = 0 := h1.trans he
  subst h0
  obtain ⟨h4, h5, h6, O⟩ := h3 rfl
  simp only at h4 h5 h6 O
  subst h4 h5 h6
  rw [outL_cpy, show (clipN d s b).1 = b.1 from by unfold clipN clipS; split <;> rfl] at O
  exact hq R w' (C.addOwn hB O)
/-- A comparison of forms. -/
theorem sameL {α : Type} {S : Nat → Prop} {w0 w : World} {L : List It} {Q : α → World → Prop} {f : Bool → M α} (C : Cx S w0 w L) (a b : Form) (la lb : List Int)
    (Ha : Arr w.heap.size w a.2.2.2 (wds la)) (Hb : Arr w.heap.size w b.2.2.2 (wds lb))
    (hq : ∀ w', Cx S w0 w' L → Ok (f (decide (la = lb ∧ a.1 = b.1 ∧ a.2.1 = b.2.1 ∧ a.2.2.1 = b.2.2.1))) w' Q) : Ok (bnd (f12_palaverlaw11_same a b) f) w Q := by
  refine ok_bnd.2 (ok_mono (same_spec a b la lb w Ha Hb) ?_)
  rintro r w' ⟨rfl, hB⟩
  exact hq w' (C.call hB)
theorem good_dims {d : Form} {R : Sl} {l : List Int} (h : Good d) (hl : (l.length : Int) = st d * d.2.1) (hR : R.len = l.length) : Good (d.1, d.2.1, d.2.2.1, R) := by
  refine ⟨h.1, ?_⟩
  show (R.len : Int) = st d * d.2.1
  rw [hR, hl]
theorem errC_rule {d s : Form} {b : Blit} (h : errC d s b = 0) (r : Int) (hr : 0 ≤ r ∧ r ≤ 15) : errC d s (r, b.2) = 0 := by
  obtain ⟨h1, h2, h3, h4⟩ := errC_ok h
  obtain ⟨h5, h6, h7⟩ := errB_ok h4
  unfold errC
  rw [if_pos ⟨h1, h2, h3⟩]
  unfold errB
  rw [if_pos hr, if_pos ⟨h6, h7⟩]
theorem errC_dims {d s d' s' : Form} {b : Blit} (h : errC d s b = 0) (hd : Good d') (hs : Good s') (e : d'.2.2.1 = s'.2.2.1) : errC d' s' b = 0 := by
  obtain ⟨h1, h2, h3, h4⟩ := errC_ok h
  unfold errC
  rw [if_pos ⟨hd, hs, e⟩, h4]
/-- What the rule does not touch. -/
theorem cpy_geo (q : Int) (d s d' s' : Form) (x : Int × Int × Int × Int × Int × Int × Int × Int × Int × Int × Sl) (R R' : Int) (has : Bool) (tl : List Int) (sw : Int → Int) (dl : List Int)
    (hd : d'.1 = d.1 ∧ d'.2.1 = d.2.1 ∧ d'.2.2.1 = d.2.2.1) (hs : s'.1 = s.1 ∧ s'.2.1 = s.2.1 ∧ s'.2.2.1 = s.2.2.1) :
    cpy q d' s' (clipN d' s' (R', x)) has tl sw dl = cpy q d s (clipN d s (R, x)) has tl sw dl := by
  obtain ⟨a1, a2, a3, a4⟩ := d
  obtain ⟨b1, b2, b3, b4⟩ := d'
  obtain ⟨c1, c2, c3, c4⟩ := s
  obtain ⟨e1, e2, e3, e4⟩ := s'
  simp only at hd hs
  obtain ⟨rfl, rfl, rfl⟩ := hd
  obtain ⟨rfl, rfl, rfl⟩ := hs
  unfold clipN clipS
  by_cases hz : (spanX (b1, b2, b3, b4) (e1, e2, e3, e4) (R', x)).2.2 < 1 ∨ (spanY (b1, b2, b3, b4) (e1, e2, e3, e4) (R', x)).2.2 < 1
  · rw [if_pos hz, if_pos (show (spanX (b1, b2, b3, a4) (e1, e2, e3, c4) (R, x)).2.2 < 1 ∨ (spanY (b1, b2, b3, a4) (e1, e2, e3, c4) (R, x)).2.2 < 1 from hz)]
    rfl
  · rw [if_neg hz, if_neg (show ¬ ((spanX (b1, b2, b3, a4) (e1, e2, e3, c4) (R, x)).2.2 < 1 ∨ (spanY (b1, b2, b3, a4) (e1, e2, e3, c4) (R, x)).2.2 < 1) from hz)]
    rfl
set_option maxHeartbeats 4000000 in
theorem rules_spec (f g : Form) (b : Blit) (l gl : List Int) (w : World) (Hf : Arr w.heap.size w f.2.2.2 (wds l)) (Hg : Arr w.heap.size w g.2.2.2 (wds gl)) (hl : Wds l) : Ok (f6_palaverlaw11_BitRules f g b) w fun r w' => r = true ∧ Below w.heap.size w w' := by
  obtain ⟨br, bx, by1, bw, bh, sx, sy, cx, cy, cw, ch, tn⟩ := b
  unfold f6_palaverlaw11_BitRules
  have C := Cx.nil No w
  refine ok_newL C fun p1 w1 C => ok_newL C fun p2 w2 C => ok_newL C fun p3 w3 C => ok_callL C (works_spec w3) (fun _ _ h => h.2) fun r w4 hr C => ?_
  obtain ⟨rfl, _⟩ := hr
  refine ok_rdL0 C 2 rfl rfl (ok_rdL0 C 1 rfl rfl (ok_callL C (far_spec f g w4) (fun _ _ h => h.2) fun r w5 hr C => ?_))
  obtain ⟨rfl, _⟩ := hr
  by_cases hfar : 2097152 < f.2.2.2.len ∨ 2097152 < g.2.2.2.len
  · exact ok_true (by simpa using hfar) (ok_ret.2 ⟨rfl, C.below⟩)
  refine ok_false (by simpa using hfar) ?_
  obtain ⟨x, hx⟩ : ∃ x, x = (bx, by1, bw, bh, sx, sy, cx, cy, cw, ch, (⟨none, 0, 0⟩ : Sl)) := ⟨_, rfl⟩
  refine ok_wrC C 0 (cellsBlit (br, x)) rfl (by simp) rfl (by rw [hx]; rfl) fun w6 C => ?_
  dsimp only [List.set] at C
  refine ok_wrC C 0 (cellsBlit (5, x)) rfl (by simp [cellsBlit]) rfl rfl fun w7 C => ?_
  dsimp only [List.set] at C
  have Ht : ∀ w, Arr w.heap.size w (tone (5, x)) (wds []) := fun w => by rw [hx]; exact arr_nil _ _
  refine ok_rdL0 C 2 rfl rfl (ok_rdL0 C 1 rfl rfl (ok_rdL0 C 0 rfl (x := (5, x)) rfl ?_))
  by_cases he : errC f g (5, x) = 0
  rotate_left
  · refine ok_bnd.2 (ok_mono (copy_spec f g (5, x) l gl [] w7 (C.old Hf) (C.old Hg) (Ht w7)) ?_)
    rintro ⟨r11, e⟩ w8 ⟨hB, h1, h2, h3⟩
    simp only at h1 h2 h3 ⊢
    have hne : e ≠ 0 := fun h => he (h1.symm.trans h)
    have hr := h2 hne
    subst hr
    have C := C.call hB
    refine ok_newWrL C rfl rfl fun p12 w10 C => ok_true (by simpa using hne) ?_
    refine ok_bnd.2 (ok_true rfl (ok_rdL C 0 rfl (x := (⟨none, 0, 0⟩ : Sl)) rfl (ok_ret.2 (ok_ret.2 ⟨rfl, C.below⟩))))
  have hgd := errC_ok he
  have hfl := good_len hgd.1 Hf
  have hgl := good_len hgd.2.1 Hg
  have E : ∀ r, 0 ≤ r ∧ r ≤ 15 → errC f g (r, x) = 0 := fun r hr => errC_rule he r hr
  obtain ⟨c0, hc0⟩ : ∃ c0, c0 = clipN f g (0, x) := ⟨_, rfl⟩
  have gd : ∀ {R : Sl} {l' : List Int} {B : Nat} {w' : World}, Arr B w' R (wds l') → l'.length = l.length → Good (f.1, f.2.1, f.2.2.1, R) := fun H hl' =>
    good_dims (l := l) hgd.1 hfl.1 (by have := H.1; simp only [List.length_map] at this; rw [this, hl'])
  have cpyN : ∀ {w' : World} {L : List It} (r : Int) (R0 : Sl) (dl : List Int) {k : Form × Int → M Bool}, Cx No w w' L → (0 ≤ r ∧ r ≤ 15) → Arr w'.heap.size w' R0 (wds dl) → dl.length = l.length →
      (∀ R w'', Cx No w w'' (.own R (wds (cpy r f g c0 true [] (at0 gl) dl)) :: L) → Ok (k ((f.1, f.2.1, f.2.2.1, R), 0)) w'' (fun r w' => r = true ∧ Below w.heap.size w w')) →
      Ok (bnd (f28_bitblt_Copy (f.1, f.2.1, f.2.2.1, R0) g (r, x)) k) w' (fun r w' => r = true ∧ Below w.heap.size w w') := by
    intro w' L r R0 dl k C hr H hdl hq
    refine copyL C _ g (r, x) dl gl [] H (C.old Hg) (Ht w') (errC_dims (E r hr) (gd H hdl) hgd.2.1 hgd.2.2.1) fun R w'' C => hq R w'' ?_
    rw [show cpy (r, x).1 (f.1, f.2.1, f.2.2.1, R0) g (clipN (f.1, f.2.1, f.2.2.1, R0) g (r, x)) true [] (at0 gl) dl = cpy r f g c0 true [] (at0 gl) dl from by
      rw [hc0]; exact cpy_geo r f g (f.1, f.2.1, f.2.2.1, R0) g x 0 r true [] (at0 gl) dl ⟨rfl, rfl, rfl⟩ ⟨rfl, rfl, rfl⟩] at C
    exact C
  refine cpyN 5 f.2.2.2 l C (by decide) (C.old Hf) rfl fun R1 w8 C => ?_
  refine ok_newWrL C rfl rfl fun q1 w9 C => ?_
  refine ok_false rfl ?_
  refine ok_wrC C 2 (cellsBlit (6, x)) rfl (by simp [cellsBlit]) rfl rfl fun w10 C => ?_
  dsimp only [List.set] at C
  refine ok_rdL0 C 4 rfl (x := f) rfl (ok_rdL0 C 3 rfl rfl (ok_rdL0 C 2 rfl (x := (6, x)) rfl ?_))
  refine cpyN 6 f.2.2.2 l C (by decide) (C.old Hf) rfl fun R2 w11 C => ?_
  refine ok_newWrL C rfl rfl fun q2 w12 C => ?_
  refine ok_rdL0 C 0 rfl (x := (f.1, f.2.1, f.2.2.1, R2)) rfl (ok_rdL0 C 5 rfl rfl (ok_rdL0 C 4 rfl (x := (6, x)) rfl ?_))
  refine cpyN 6 R2 (cpy 6 f g c0 true [] (at0 gl) l) C (by decide) (C.arr (i := 1) rfl) (by simp only [cpy_len]) fun R3 w13 C => ?_
  refine ok_newWrL C rfl rfl fun q3 w14 C => ?_
  refine ok_wrC C 6 (cellsBlit (3, x)) rfl (by simp [cellsBlit]) rfl rfl fun w15 C => ?_
  dsimp only [List.set] at C
  refine ok_rdL0 C 8 rfl (x := f) rfl (ok_rdL0 C 7 rfl rfl (ok_rdL0 C 6 rfl (x := (3, x)) rfl ?_))
  refine cpyN 3 f.2.2.2 l C (by decide) (C.old Hf) rfl fun R4 w16 C => ?_
  refine ok_newWrL C rfl rfl fun q4 w17 C => ?_
  refine ok_rdL0 C 0 rfl (x := (f.1, f.2.1, f.2.2.1, R4)) rfl (ok_rdL0 C 9 rfl rfl (ok_rdL0 C 8 rfl (x := (3, x)) rfl ?_))
  refine cpyN 3 R4 (cpy 3 f g c0 true [] (at0 gl) l) C (by decide) (C.arr (i := 1) rfl) (by simp only [cpy_len]) fun R5 w18 C => ?_
  refine ok_newWrL C rfl rfl fun q5 w19 C => ?_
  refine ok_wrC C 10 (cellsBlit (12, x)) rfl (by simp [cellsBlit]) rfl rfl fun w20 C => ?_
  dsimp only [List.set] at C
  refine ok_rdL0 C 12 rfl (x := f) rfl (ok_rdL0 C 11 rfl rfl (ok_rdL0 C 10 rfl (x := (12, x)) rfl ?_))
  refine cpyN 12 f.2.2.2 l C (by decide) (C.old Hf) rfl fun R6 w21 C => ?_
  refine ok_newWrL C rfl rfl fun q6 w22 C => ?_
  refine ok_wrC C 12 (cellsBlit (10, x)) rfl (by simp [cellsBlit]) rfl rfl fun w23 C => ?_
  dsimp only [List.set] at C
  refine ok_rdL0 C 4 rfl (x := (f.1, f.2.1, f.2.2.1, R4)) rfl (ok_rdL0 C 13 rfl rfl (ok_rdL0 C 12 rfl (x := (10, x)) rfl ?_))
  refine cpyN 10 R4 (cpy 3 f g c0 true [] (at0 gl) l) C (by decide) (C.arr (i := 5) rfl) (by simp only [cpy_len]) fun R7 w24 C => ?_
  refine ok_newWrL C rfl rfl fun q7 w25 C => ?_
  refine ok_wrC C 14 (cellsBlit (0, x)) rfl (by simp [cellsBlit]) rfl rfl fun w26 C => ?_
  dsimp only [List.set] at C
  refine ok_rdL0 C 16 rfl (x := f) rfl (ok_rdL0 C 15 rfl rfl (ok_rdL0 C 14 rfl (x := (0, x)) rfl ?_))
  refine cpyN 0 f.2.2.2 l C (by decide) (C.old Hf) rfl fun R8 w27 C => ?_
  refine ok_newWrL C rfl rfl fun q8 w28 C => ?_
  refine ok_rdL0 C 8 rfl (x := (f.1, f.2.1, f.2.2.1, R4)) rfl (ok_rdL0 C 18 rfl rfl (ok_rdL0 C 16 rfl (x := (0, x)) rfl ?_))
  refine copyL C (f.1, f.2.1, f.2.2.1, R4) f (0, x) (cpy 3 f g c0 true [] (at0 gl) l) l [] (C.arr (i := 9) rfl) (C.old Hf) (Ht _) (errC_dims (E 0 (by decide)) (gd (C.arr (i := 9) rfl) (by simp only [cpy_len])) hgd.1 rfl) fun R9 w29 C => ?_
  obtain ⟨Z, hZ⟩ : ∃ Z, Z = cpy (0, x).1 (f.1, f.2.1, f.2.2.1, R4) f (clipN (f.1, f.2.1, f.2.2.1, R4) f (0, x)) true [] (at0 l) (cpy 3 f g c0 true [] (at0 gl) l) := ⟨_, rfl⟩
  rw [← hZ] at C
  refine ok_newWrL C rfl rfl fun q9 w30 C => ?_
  refine ok_wrC C 18 (cellsBlit (15, x)) rfl (by simp [cellsBlit]) rfl rfl fun w31 C => ?_
  dsimp only [List.set] at C
  refine ok_rdL0 C 2 rfl (x := (f.1, f.2.1, f.2.2.1, R8)) rfl (ok_rdL0 C 19 rfl rfl (ok_rdL0 C 18 rfl (x := (15, x)) rfl ?_))
  refine cpyN 15 R8 (cpy 0 f g c0 true [] (at0 gl) l) C (by decide) (C.arr (i := 3) rfl) (by simp only [cpy_len]) fun R10 w32 C => ?_
  refine ok_newWrL C rfl rfl fun q10 w33 C => ?_
  refine ok_rdL0 C 22 rfl (x := f) rfl (ok_rdL0 C 21 rfl rfl (ok_rdL0 C 20 rfl (x := (15, x)) rfl ?_))
  refine cpyN 15 f.2.2.2 l C (by decide) (C.old Hf) rfl fun R11 w34 C => ?_
  refine ok_newWrL C rfl rfl fun q11 w35 C => ?_
  refine ok_rdL0 C 20 rfl (x := (f.1, f.2.1, f.2.2.1, R1)) rfl (ok_rdL0 C 24 rfl (x := f) rfl ?_)
  refine sameL C (f.1, f.2.1, f.2.2.1, R1) f _ _ (C.arr (i := 21) rfl) (C.old Hf) fun w36 C => ?_
  refine ok_rdL0 C 16 rfl (x := (f.1, f.2.1, f.2.2.1, R3)) rfl (ok_rdL0 C 24 rfl (x := f) rfl ?_)
  refine sameL C (f.1, f.2.1, f.2.2.1, R3) f _ _ (C.arr (i := 17) rfl) (C.old Hf) fun w37 C => ?_
  refine ok_rdL0 C 12 rfl (x := (f.1, f.2.1, f.2.2.1, R5)) rfl (ok_rdL0 C 14 rfl (x := (f.1, f.2.1, f.2.2.1, R4)) rfl ?_)
  refine sameL C (f.1, f.2.1, f.2.2.1, R5) (f.1, f.2.1, f.2.2.1, R4) _ _ (C.arr (i := 13) rfl) (C.arr (i := 15) rfl) fun w38 C => ?_
  refine ok_rdL0 C 8 rfl (x := (f.1, f.2.1, f.2.2.1, R7)) rfl (ok_rdL0 C 10 rfl (x := (f.1, f.2.1, f.2.2.1, R6)) rfl ?_)
  refine sameL C (f.1, f.2.1, f.2.2.1, R7) (f.1, f.2.1, f.2.2.1, R6) _ _ (C.arr (i := 9) rfl) (C.arr (i := 11) rfl) fun w39 C => ?_
  refine ok_rdL0 C 2 rfl (x := (f.1, f.2.1, f.2.2.1, R10)) rfl (ok_rdL0 C 0 rfl (x := (f.1, f.2.1, f.2.2.1, R11)) rfl ?_)
  refine sameL C (f.1, f.2.1, f.2.2.1, R10) (f.1, f.2.1, f.2.2.1, R11) _ _ (C.arr (i := 3) rfl) (C.arr (i := 1) rfl) fun w40 C => ?_
  refine ok_rdL0 C 6 rfl (x := (f.1, f.2.1, f.2.2.1, R8)) rfl (ok_rdL0 C 4 rfl (x := (f.1, f.2.1, f.2.2.1, R9)) rfl ?_)
  refine sameL C (f.1, f.2.1, f.2.2.1, R8) (f.1, f.2.1, f.2.2.1, R9) _ _ (C.arr (i := 7) rfl) (C.arr (i := 5) rfl) fun w41 C => ?_
  rw [cpy_5 f g c0 true [] (at0 gl) l hl, cpy_66 f g c0 true [] (at0 gl) l hl, cpy_33, cpy_103, cpy_150]
  simp only [and_self, decide_true, and_true]
  obtain ⟨J, hJ⟩ : ∃ J : Bool, J = decide (cpy 0 f g c0 true [] (at0 gl) l = Z) := ⟨_, rfl⟩
  rw [← hJ]
  have hend : J = true ∨ f.1 ≠ g.1 ∨ f.2.1 ≠ g.2.1 := by
    by_cases h1 : f.1 = g.1
    · by_cases h2 : f.2.1 = g.2.1
      · left
        rw [hJ, hZ, hc0]
        refine decide_eq_true ?_
        rw [show cpy (0, x).1 (f.1, f.2.1, f.2.2.1, R4) f (clipN (f.1, f.2.1, f.2.2.1, R4) f (0, x)) true [] (at0 l) (cpy 3 f g (clipN f g (0, x)) true [] (at0 gl) l) = cpy 0 f g (clipN f g (0, x)) true [] (at0 l) (cpy 3 f g (clipN f g (0, x)) true [] (at0 gl) l) from
          cpy_geo 0 f g _ f x 0 0 true [] (at0 l) _ ⟨rfl, rfl, rfl⟩ ⟨h1, h2, hgd.2.2.1⟩]
        exact (cpy_03 f g _ true [] (at0 gl) (at0 l) l g).symm
      · exact .inr (.inr h2)
    · exact .inr (.inl h1)
  refine ok_bnd.2 (ok_mono (Q := fun r w' => r = decide (J = true ∨ f.1 ≠ g.1) ∧ w41 = w') ?_ ?_)
  · cases hh : J with
    | true => exact ok_true rfl (ok_ret.2 ⟨by simp, rfl⟩)
    | false => exact ok_false rfl (ok_rdL C 24 rfl (x := f.1) rfl (ok_rdL C 23 rfl (x := g.1) rfl (ok_ret.2 ⟨eq_dec (by simp), rfl⟩)))
  rintro r _ ⟨rfl, rfl⟩
  refine ok_bnd.2 (ok_mono (Q := fun r w' => r = true ∧ w41 = w') ?_ ?_)
  · by_cases hh : J = true ∨ f.1 ≠ g.1
    · exact ok_true (decide_eq_true hh) (ok_ret.2 ⟨rfl, rfl⟩)
    · refine ok_false (decide_eq_false hh) (ok_rdL C 24 rfl (x := f.2.1) rfl (ok_rdL C 23 rfl (x := g.2.1) rfl (ok_ret.2 ⟨?_, rfl⟩)))
      have : f.2.1 ≠ g.2.1 := by
        rcases hend with h | h | h
        · exact absurd (Or.inl h) hh
        · exact absurd (Or.inr h) hh
        · exact h
      simpa using this
  rintro r _ ⟨rfl, rfl⟩
  exact ok_ret.2 ⟨by simp, C.below⟩
end Go.Proofs.Ytpgalllceejpnaa
