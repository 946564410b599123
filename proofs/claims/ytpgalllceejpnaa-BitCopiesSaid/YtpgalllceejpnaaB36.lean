/-
  Part of the proof: B36
-/
import Derived.Test.YtpgalllceejpnaaB35
set_option linter.unusedSimpArgs false
set_option linter.unusedVariables false
namespace Go.Proofs.Ytpgalllceejpnaa
set_option linter.unusedVariables false
open Go.Sh Go.RowKit
set_option maxRecDepth 100000
theorem any_form {m : M (Form × Int)} {D : Form} {E : Int} {X : List Int} {w : World} (h : Ok m w fun r w' => Below w.heap.size w w' ∧ r.2 = E ∧ (r.2 ≠ 0 → r.1 = zf) ∧ (r.2 = 0 → r.1.1 = D.1 ∧ r.1.2.1 = D.2.1 ∧ r.1.2.2.1 = D.2.2.1 ∧ Own w.heap.size w' r.1.2.2.2 (wds X))) :
    Ok m w fun r w' => Below w.heap.size w w' ∧ ∃ R, r = ((if E = 0 then D.1 else 0, if E = 0 then D.2.1 else 0, if E = 0 then D.2.2.1 else 0, R), E) ∧ Own w.heap.size w' R (wds (if E = 0 then X else [])) := by
  refine ok_mono h ?_
  rintro ⟨⟨r1, r2, r3, R⟩, e⟩ w' ⟨hB, h1, h2, h3⟩
  simp only at h1 h2 h3
  subst h1
  refine ⟨hB, R, ?_⟩
  by_cases he : e = 0
  · obtain ⟨rfl, rfl, rfl, O⟩ := h3 he
    simp only [if_pos he]
    exact ⟨by trivial, O⟩
  · have := h2 he
    cases this
    simp only [if_neg he]
    exact ⟨by trivial, own_nil _ _⟩
theorem any_fill {m : M (Form × Int)} {D : Form} {p : Prop} [Decidable p] {E : Int} {X : List Int} {w : World} (hE : ¬ p → E ≠ 0) (h : Ok m w fun r w' => Below w.heap.size w w' ∧ (if p then r.2 = 0 ∧ r.1.1 = D.1 ∧ r.1.2.1 = D.2.1 ∧ r.1.2.2.1 = D.2.2.1 ∧ Own w.heap.size w' r.1.2.2.2 (wds X) else r = (zf, E))) :
    Ok m w fun r w' => Below w.heap.size w w' ∧ ∃ R, r = ((if p then D.1 else 0, if p then D.2.1 else 0, if p then D.2.2.1 else 0, R), if p then 0 else E) ∧ Own w.heap.size w' R (wds (if p then X else [])) := by
  refine ok_mono h ?_
  rintro ⟨⟨r1, r2, r3, R⟩, e⟩ w' ⟨hB, h1⟩
  by_cases hp : p
  · simp only [if_pos hp] at h1 ⊢
    obtain ⟨rfl, rfl, rfl, rfl, O⟩ := h1
    exact ⟨hB, R, rfl, O⟩
  · simp only [if_neg hp] at h1 ⊢
    cases h1
    exact ⟨hB, nilS, rfl, own_nil _ _⟩
theorem any_clip {m : M (Blit × Int)} {D : Sl → Blit} {E : Int} {X : List Int} {w : World} (hD : ∀ h, tone (D h) = h) (h : Ok m w fun r w' => Below w.heap.size w w' ∧ r.2 = E ∧ (r.2 ≠ 0 → r.1 = zb) ∧ (r.2 = 0 → ∃ h, r.1 = D h ∧ Own w.heap.size w' h (wds X))) :
    Ok m w fun r w' => Below w.heap.size w w' ∧ ∃ B, r = (B, E) ∧ (E = 0 → B = D (tone B)) ∧ (E ≠ 0 → B = zb) ∧ Own w.heap.size w' (tone B) (wds (if E = 0 then X else [])) := by
  refine ok_mono h ?_
  rintro ⟨B, e⟩ w' ⟨hB, h1, h2, h3⟩
  simp only at h1 h2 h3
  subst h1
  refine ⟨hB, B, rfl, ?_⟩
  by_cases he : e = 0
  · obtain ⟨h, rfl, O⟩ := h3 he
    rw [hD]
    simp only [if_pos he]
    exact ⟨fun _ => by trivial, fun h => absurd he h, O⟩
  · have := h2 he
    subst this
    simp only [if_neg he]
    exact ⟨fun h => absurd h he, fun _ => by trivial, own_nil _ _⟩
theorem own_lent {w : World} {b : Nat} {l : List Int} (h : It.In w (.cells b (lentC l))) (hmx : l.length + 2 ≤ maxLen) : It.In w (.own (lentS b l) (wds l)) :=
  ⟨by simp, by simp, by simpa using hmx, .inr ⟨b, _, rfl, Nat.zero_le _, h.1, h.2, by simp, fun i hi => by rw [List.getElem?_toArray, List.getElem?_append_left hi]⟩⟩
set_option maxHeartbeats 4000000 in
theorem copies_spec (f g : Form) (b : Blit) (l gl tl : List Int) (w : World) (Hf : Arr w.heap.size w f.2.2.2 (wds l)) (Hg : Arr w.heap.size w g.2.2.2 (wds gl)) (Ht : Arr w.heap.size w (tone b) (wds tl)) (hl : Wds l) (hgl : Wds gl) (htl : Wds tl) :
    Ok (f4_palaverlaw11_BitCopies f g b) w fun r w' => r = true ∧ Below w.heap.size w w' := by
  unfold f4_palaverlaw11_BitCopies
  have C := Cx.nil No w
  refine ok_newL C fun p1 w1 C => ok_newL C fun p2 w2 C => ok_newL C fun p3 w3 C => ok_callL C (works_spec w3) (fun _ _ h => h.2) fun r w4 hr C => ?_
  obtain ⟨rfl, _⟩ := hr
  refine ok_rdL0 C 2 rfl (x := f) rfl ?_
  refine ok_rdL0 C 1 rfl (x := g) rfl ?_
  refine ok_callL C (far_spec f g w4) (fun _ _ h => h.2) fun r w5 hr C => ?_
  obtain ⟨rfl, _⟩ := hr
  refine ok_or (decide (((tone b).len : Int) > 1048576)) (fun _ => ok_rdL C 0 rfl rfl (ok_ret.2 ⟨rfl, rfl⟩)) ?_
  by_cases hfar : (2097152 < f.2.2.2.len ∨ 2097152 < g.2.2.2.len) ∨ ((tone b).len : Int) > 1048576
  · exact ok_true (by simpa using hfar) (ok_ret.2 ⟨rfl, C.below⟩)
  refine ok_false (by simpa using hfar) ?_
  have lf : f.2.2.2.len = l.length := by have := Hf.1; simpa using this
  have lg : g.2.2.2.len = gl.length := by have := Hg.1; simpa using this
  have lt : (tone b).len = tl.length := by have := Ht.1; simpa using this
  have mf : l.length + 2 ≤ maxLen := by simp only [maxLen]; omega
  have mg : gl.length + 2 ≤ maxLen := by simp only [maxLen]; omega
  have mt : tl.length + 2 ≤ maxLen := by simp only [maxLen]; omega
  have lent : ∀ {w' : World} {L : List It} {s : Sl} {xs : List Int} {k : Sl → M Bool}, Cx No w w' L → Arr w.heap.size w s (wds xs) → s.len ≤ 2097152 →
      (∀ b' w'', Cx No w w'' (.cells b' (lentC xs) :: L) → Ok (k (lentS b' xs)) w'' (fun r w' => r = true ∧ Below w.heap.size w w')) → Ok (bnd (f13_palaverref00_LentBits s) k) w' (fun r w' => r = true ∧ Below w.heap.size w w') := by
    intro w' L s xs k C H hle hq
    refine ok_bnd.2 (ok_mono (lent_spec s xs w' (C.old H) hle) ?_)
    rintro r w'' ⟨hB, rfl, hblk, hfre⟩
    exact hq _ w'' (C.add hB (it := .cells w'.heap.size (lentC xs)) ⟨hblk, hfre⟩ (by intro b hb; simp only [It.at_, Option.some.injEq] at hb; omega))

  refine ok_rdL0 C 2 rfl (x := f) rfl ?_
  refine ok_newWrL C rfl rfl fun p11 w6 C => ?_
  refine ok_rdL C 3 rfl (x := f.2.2.2) rfl ?_
  refine lent C Hf (by omega) fun lb1 w7 C => ?_
  refine ok_wrC C 1 [.int .i64 f.1, .int .i64 f.2.1, .int .i64 f.2.2.1, .slice (lentS lb1 l).a (lentS lb1 l).len (lentS lb1 l).cap] rfl (by simp) rfl rfl fun w8 C => ?_
  dsimp only [List.set] at C
  refine ok_rdL0 C 3 rfl (x := g) rfl ?_
  refine ok_newWrL C rfl rfl fun p15 w9 C => ?_
  refine ok_rdL C 4 rfl (x := g.2.2.2) rfl ?_
  refine lent C Hg (by omega) fun lb2 w10 C => ?_
  refine ok_wrC C 1 [.int .i64 g.1, .int .i64 g.2.1, .int .i64 g.2.2.1, .slice (lentS lb2 gl).a (lentS lb2 gl).len (lentS lb2 gl).cap] rfl (by simp) rfl rfl fun w11 C => ?_
  dsimp only [List.set] at C
  refine ok_rdL0 C 4 rfl (x := b) rfl ?_
  refine ok_newWrL C rfl rfl fun p19 w12 C => ?_
  refine ok_rdL C 5 rfl (x := tone b) rfl ?_
  refine lent C Ht (by omega) fun lb3 w13 C => ?_
  refine ok_wrC C 1 (cellsBlit (b.1, b.2.1, b.2.2.1, b.2.2.2.1, b.2.2.2.2.1, b.2.2.2.2.2.1, b.2.2.2.2.2.2.1, b.2.2.2.2.2.2.2.1, b.2.2.2.2.2.2.2.2.1, b.2.2.2.2.2.2.2.2.2.1, b.2.2.2.2.2.2.2.2.2.2.1, lentS lb3 tl)) rfl (by simp) rfl rfl fun w14 C => ?_
  dsimp only [List.set] at C
  obtain ⟨p, hp⟩ : ∃ p : Form, p = (f.1, f.2.1, f.2.2.1, lentS lb1 l) := ⟨_, rfl⟩
  obtain ⟨q, hq⟩ : ∃ q : Form, q = (g.1, g.2.1, g.2.2.1, lentS lb2 gl) := ⟨_, rfl⟩
  obtain ⟨c, hc⟩ : ∃ c : Blit, c = (b.1, b.2.1, b.2.2.1, b.2.2.2.1, b.2.2.2.2.1, b.2.2.2.2.2.1, b.2.2.2.2.2.2.1, b.2.2.2.2.2.2.2.1, b.2.2.2.2.2.2.2.2.1, b.2.2.2.2.2.2.2.2.2.1, b.2.2.2.2.2.2.2.2.2.2.1, lentS lb3 tl) := ⟨_, rfl⟩
  have gp : Good p ↔ Good f := by rw [hp]; unfold Good; rw [lf]; exact Iff.rfl
  have gq : Good q ↔ Good g := by rw [hq]; unfold Good; rw [lg]; exact Iff.rfl
  have ec : errB c = errB b := by rw [hc]; unfold errB; rw [lt]; rfl
  have ecs : errB (srcAt c 0 0) = errB (srcAt b 0 0) := by rw [hc]; unfold errB; rw [show (tone (srcAt b 0 0)).len = tl.length from lt]; rfl
  have eE : errC p q c = errC f g b := by unfold errC; simp only [gp, gq, ec]; rw [hp, hq]
  have eM : errC p p c = errC f f b := by unfold errC; simp only [gp, ec]
  have ap : ∀ {w' : World} {L : List It} {i : Nat}, Cx No w w' L → L[i]? = some (.cells lb1 (lentC l)) → Arr w'.heap.size w' p.2.2.2 (wds l) := fun C hi => by rw [hp]; exact arr_lent (C.get hi).1 mf
  have aq : ∀ {w' : World} {L : List It} {i : Nat}, Cx No w w' L → L[i]? = some (.cells lb2 (lentC gl)) → Arr w'.heap.size w' q.2.2.2 (wds gl) := fun C hi => by rw [hq]; exact arr_lent (C.get hi).1 mg
  have ac : ∀ {w' : World} {L : List It} {i : Nat}, Cx No w w' L → L[i]? = some (.cells lb3 (lentC tl)) → Arr w'.heap.size w' (tone c) (wds tl) := fun C hi => by rw [hc]; exact arr_lent (C.get hi).1 mt
  have bD : ∀ h, clipS p q c h = clipS f g b h := fun h => by rw [hp, hq, hc]; rfl
  obtain ⟨E, hE⟩ : ∃ E, E = errC f g b := ⟨_, rfl⟩
  obtain ⟨E2, hE2⟩ : ∃ E2, E2 = errC f f b := ⟨_, rfl⟩
  refine ok_rdL0 C 5 rfl (x := p) (by rw [hp]; rfl) ?_
  refine ok_rdL0 C 3 rfl (x := q) (by rw [hq]; rfl) ?_
  refine ok_rdL0 C 1 rfl (x := c) (by rw [hc]; rfl) ?_
  refine ok_bnd.2 (ok_mono (any_clip (D := fun h => clipS f g b h) (E := E) (X := tl) (tone_clip f g b) (ok_mono (clip_spec p q c tl _ (ac C (i := 0) rfl)) fun r w' h => ⟨h.1, by rw [hE, ← eE]; exact h.2.1, h.2.2.1, fun h0 => by obtain ⟨t, ht, O, _⟩ := h.2.2.2 h0; exact ⟨t, by rw [ht, bD], O⟩⟩)) ?_)
  rintro _ w15 ⟨hB, BX, rfl, hX0, hX1, O⟩
  have C := C.addOwn hB O
  refine ok_newWrL C rfl rfl fun p26 w16 C => ?_
  refine ok_rdL0 C 10 rfl (x := f) rfl ?_
  refine ok_rdL0 C 9 rfl (x := g) rfl ?_
  refine ok_rdL0 C 8 rfl (x := b) rfl ?_
  refine ok_callL C (refclip_spec f g b _) (fun _ _ h => h.1) fun r w17 hr C => ?_
  obtain ⟨BY, eY⟩ := r
  obtain ⟨_, hY1, hY2, hY3⟩ := hr
  simp only at hY1 hY2 hY3
  rw [← hE] at hY1
  subst hY1
  refine ok_newWrL C rfl rfl fun p31 w18 C => ?_
  have hnum : BX.1 = BY.1 ∧ BX.2.1 = BY.2.1 ∧ BX.2.2.1 = BY.2.2.1 ∧ BX.2.2.2.1 = BY.2.2.2.1 ∧ BX.2.2.2.2.1 = BY.2.2.2.2.1 ∧ BX.2.2.2.2.2.1 = BY.2.2.2.2.2.1 ∧ BX.2.2.2.2.2.2.1 = BY.2.2.2.2.2.2.1 ∧ BX.2.2.2.2.2.2.2.1 = BY.2.2.2.2.2.2.2.1 ∧ BX.2.2.2.2.2.2.2.2.1 = BY.2.2.2.2.2.2.2.2.1 ∧ BX.2.2.2.2.2.2.2.2.2.1 = BY.2.2.2.2.2.2.2.2.2.1 ∧ BX.2.2.2.2.2.2.2.2.2.2.1 = BY.2.2.2.2.2.2.2.2.2.2.1 := by
    by_cases h0 : eY = 0
    · rw [hX0 h0, hY3 h0]
      unfold clipS
      split <;> exact ⟨rfl, rfl, rfl, rfl, rfl, rfl, rfl, rfl, rfl, rfl, rfl⟩
    · rw [hX1 h0, hY2 h0]; exact ⟨rfl, rfl, rfl, rfl, rfl, rfl, rfl, rfl, rfl, rfl, rfl⟩
  have hton : ∀ {w' : World} {L : List It}, Cx No w w' L → Arr w'.heap.size w' (tone BY) (wds (if eY = 0 then tl else [])) := fun C => by
    by_cases h0 : eY = 0
    · rw [if_pos h0, hY3 h0, tone_clip]; exact C.old Ht
    · rw [if_neg h0, hY2 h0]; exact arr_nil _ _
  obtain ⟨n0, n1, n2, n3, n4, n5, n6, n7, n8, n9, n10⟩ := hnum
  refine ok_rdL C 1 rfl (x := tone BX) rfl ?_
  refine ok_rdL C 0 rfl (x := tone BY) rfl ?_
  refine ok_callL C (same_bits (tone BX) (tone BY) _ _ _ (C.arr (i := 2) rfl) (hton C)) (fun _ _ h => h.2) fun r w19 hr C => ?_
  obtain ⟨rfl, _⟩ := hr
  rw [decide_eq_true (rfl : (if eY = 0 then tl else []) = (if eY = 0 then tl else []))]
  refine ok_and true (fun _ => ok_rdL C 1 rfl rfl (ok_rdL C 0 rfl rfl (ok_ret.2 ⟨by rw [beq_iff_eq]; exact n0, rfl⟩))) ?_
  refine ok_and true (fun _ => ok_rdL C 1 rfl rfl (ok_rdL C 0 rfl rfl (ok_ret.2 ⟨by rw [beq_iff_eq]; exact n1, rfl⟩))) ?_
  refine ok_and true (fun _ => ok_rdL C 1 rfl rfl (ok_rdL C 0 rfl rfl (ok_ret.2 ⟨by rw [beq_iff_eq]; exact n2, rfl⟩))) ?_
  refine ok_and true (fun _ => ok_rdL C 1 rfl rfl (ok_rdL C 0 rfl rfl (ok_ret.2 ⟨by rw [beq_iff_eq]; exact n3, rfl⟩))) ?_
  refine ok_and true (fun _ => ok_rdL C 1 rfl rfl (ok_rdL C 0 rfl rfl (ok_ret.2 ⟨by rw [beq_iff_eq]; exact n4, rfl⟩))) ?_
  refine ok_and true (fun _ => ok_rdL C 1 rfl rfl (ok_rdL C 0 rfl rfl (ok_ret.2 ⟨by rw [beq_iff_eq]; exact n5, rfl⟩))) ?_
  refine ok_and true (fun _ => ok_rdL C 1 rfl rfl (ok_rdL C 0 rfl rfl (ok_ret.2 ⟨by rw [beq_iff_eq]; exact n6, rfl⟩))) ?_
  refine ok_and true (fun _ => ok_rdL C 1 rfl rfl (ok_rdL C 0 rfl rfl (ok_ret.2 ⟨by rw [beq_iff_eq]; exact n7, rfl⟩))) ?_
  refine ok_and true (fun _ => ok_rdL C 1 rfl rfl (ok_rdL C 0 rfl rfl (ok_ret.2 ⟨by rw [beq_iff_eq]; exact n8, rfl⟩))) ?_
  refine ok_and true (fun _ => ok_rdL C 1 rfl rfl (ok_rdL C 0 rfl rfl (ok_ret.2 ⟨by rw [beq_iff_eq]; exact n9, rfl⟩))) ?_
  refine ok_and true (fun _ => ok_rdL C 1 rfl rfl (ok_rdL C 0 rfl rfl (ok_ret.2 ⟨by rw [beq_iff_eq]; exact n10, rfl⟩))) ?_
  refine ok_rdL0 C 8 rfl (x := p) (by rw [hp]; rfl) ?_
  refine ok_rdL0 C 6 rfl (x := q) (by rw [hq]; rfl) ?_
  refine ok_rdL0 C 4 rfl (x := c) (by rw [hc]; rfl) ?_
  refine ok_bnd.2 (ok_mono (any_form (D := f) (E := eY) (X := cpy b.1 f g (clipN f g b) true tl (at0 gl) l) (ok_mono (copy_spec p q c l gl tl _ (ap C (i := 7) rfl) (aq C (i := 5) rfl) (ac C (i := 3) rfl)) fun r w' h => ⟨h.1, by rw [hE, ← eE]; exact h.2.1, h.2.2.1, fun h0 => by obtain ⟨q1, q2, q3, O⟩ := h.2.2.2 h0; rw [outL_cpy, show (clipN p q c).1 = b.1 from by rw [hc]; unfold clipN clipS; split <;> rfl] at O; rw [q1, q2, q3, hp]; refine ⟨rfl, rfl, rfl, ?_⟩; rw [hp, hq, hc] at O; exact O⟩)) ?_)
  rintro _ w20 ⟨hB, Ru, rfl, O⟩
  have C := C.addOwn hB O
  refine ok_newWrL C rfl rfl fun p72 w21 C => ?_
  refine ok_rdL0 C 13 rfl (x := f) rfl ?_
  refine ok_rdL0 C 12 rfl (x := g) rfl ?_
  refine ok_rdL0 C 11 rfl (x := b) rfl ?_
  refine ok_bnd.2 (ok_mono (any_form (D := f) (E := eY) (X := cpy b.1 f g (clipN f g b) true tl (at0 gl) l) (ok_mono (refcopy_spec f g b l gl tl _ (C.old Hf) (C.old Hg) (C.old Ht) hl hgl htl) fun r w' h => ⟨h.1, by rw [hE]; exact h.2.1, h.2.2.1, h.2.2.2⟩)) ?_)
  rintro _ w22 ⟨hB, Rv, rfl, O⟩
  have C := C.addOwn hB O
  refine ok_newWrL C rfl rfl fun p77 w23 C => ?_
  refine ok_rdL0 C 2 rfl rfl ?_
  refine ok_rdL0 C 0 rfl rfl ?_
  refine sameL C _ _ _ _ (C.arr (i := 3) rfl) (C.arr (i := 1) rfl) fun w24 C => ?_
  refine ok_rdL0 C 12 rfl (x := p) (by rw [hp]; rfl) ?_
  refine ok_rdL0 C 8 rfl (x := c) (by rw [hc]; rfl) ?_
  refine ok_bnd.2 (ok_mono (any_form (D := f) (E := E2) (X := cpy b.1 f f (clipN f f b) true tl (at0 l) l) (ok_mono (move_spec p c l tl _ (ap C (i := 11) rfl) (ac C (i := 7) rfl)) fun r w' h => ⟨h.1, by rw [hE2, ← eM]; exact h.2.1, h.2.2.1, fun h0 => by obtain ⟨q1, q2, q3, O⟩ := h.2.2.2 h0; rw [outL_cpy, show (clipN p p c).1 = b.1 from by rw [hc]; unfold clipN clipS; split <;> rfl] at O; rw [q1, q2, q3, hp]; refine ⟨rfl, rfl, rfl, ?_⟩; rw [hp, hc] at O; exact O⟩)) ?_)
  rintro _ w25 ⟨hB, Rm, rfl, O⟩
  have C := C.addOwn hB O
  refine ok_newWrL C rfl rfl fun p84 w26 C => ?_
  refine ok_rdL0 C 17 rfl (x := f) rfl ?_
  refine ok_rdL0 C 17 rfl (x := f) rfl ?_
  refine ok_rdL0 C 15 rfl (x := b) rfl ?_
  refine ok_bnd.2 (ok_mono (any_form (D := f) (E := E2) (X := cpy b.1 f f (clipN f f b) true tl (at0 l) l) (ok_mono (refcopy_spec f f b l l tl _ (C.old Hf) (C.old Hf) (C.old Ht) hl hl htl) fun r w' h => ⟨h.1, by rw [hE2]; exact h.2.1, h.2.2.1, h.2.2.2⟩)) ?_)
  rintro _ w27 ⟨hB, Rn, rfl, O⟩
  have C := C.addOwn hB O
  refine ok_newWrL C rfl rfl fun p89 w28 C => ?_
  refine ok_rdL0 C 2 rfl rfl ?_
  refine ok_rdL0 C 0 rfl rfl ?_
  refine sameL C _ _ _ _ (C.arr (i := 3) rfl) (C.arr (i := 1) rfl) fun w29 C => ?_
  have hFE : ¬ (Good f ∧ errB (srcAt b 0 0) = 0) → (if Good f then errB (srcAt b 0 0) else 110) ≠ 0 := fun h => by
    by_cases hg : Good f
    · rw [if_pos hg]; exact fun h0 => h ⟨hg, h0⟩
    · rw [if_neg hg]; decide
  refine ok_rdL0 C 16 rfl (x := p) (by rw [hp]; rfl) ?_
  refine ok_rdL0 C 12 rfl (x := c) (by rw [hc]; rfl) ?_
  refine ok_bnd.2 (ok_mono (any_fill (D := f) (p := Good f ∧ errB (srcAt b 0 0) = 0) (E := if Good f then errB (srcAt b 0 0) else 110) (X := (outL f zf (clipN f f (srcAt b b.2.1 b.2.2.1)) false tl l [])) hFE (ok_mono (fill_spec p c l tl _ (ap C (i := 15) rfl) (ac C (i := 11) rfl)) fun r w' h => ⟨h.1, by have h2 := h.2; simp only [gp, ecs] at h2; rw [hp, hc] at h2; exact h2⟩)) ?_)
  rintro _ w30 ⟨hB, Rk, rfl, O⟩
  have C := C.addOwn hB O
  refine ok_newWrL C rfl rfl fun p96 w31 C => ?_
  refine ok_rdL0 C 21 rfl (x := f) rfl ?_
  refine ok_rdL0 C 19 rfl (x := b) rfl ?_
  refine ok_bnd.2 (ok_mono (any_fill (D := f) (p := Good f ∧ errB (srcAt b 0 0) = 0) (E := if Good f then errB (srcAt b 0 0) else 110) (X := (outL f zf (clipN f f (srcAt b b.2.1 b.2.2.1)) false tl l [])) hFE (reffill_spec f b l tl _ (C.old Hf) (C.old Ht) hl htl)) ?_)
  rintro _ w32 ⟨hB, Rl, rfl, O⟩
  have C := C.addOwn hB O
  refine ok_newWrL C rfl rfl fun p100 w33 C => ?_
  refine ok_rdL0 C 2 rfl rfl ?_
  refine ok_rdL0 C 0 rfl rfl ?_
  refine sameL C _ _ _ _ (C.arr (i := 3) rfl) (C.arr (i := 1) rfl) fun w34 C => ?_
  refine ok_rdL C 20 rfl (x := lentS lb1 l) rfl ?_
  refine ok_rdL C 23 rfl (x := f.2.2.2) rfl ?_
  refine ok_callL C (whole_spec lb1 l f.2.2.2 _ (C.get (i := 19) rfl).1 (by omega) (C.old Hf)) (fun _ _ h => h.2) fun r w35 hr C => ?_
  obtain ⟨rfl, _⟩ := hr
  refine ok_bnd.2 (ok_true rfl ?_)
  refine ok_rdL C 18 rfl (x := lentS lb2 gl) rfl ?_
  refine ok_rdL C 22 rfl (x := g.2.2.2) rfl ?_
  refine ok_callL C (whole_spec lb2 gl g.2.2.2 _ (C.get (i := 17) rfl).1 (by omega) (C.old Hg)) (fun _ _ h => h.2) fun r w36 hr C => ?_
  obtain ⟨rfl, _⟩ := hr
  refine ok_ret.2 ?_
  refine ok_bnd.2 (ok_true rfl ?_)
  refine ok_rdL C 16 rfl (x := lentS lb3 tl) rfl ?_
  refine ok_rdL C 21 rfl (x := tone b) rfl ?_
  refine ok_callL C (whole_spec lb3 tl (tone b) _ (C.get (i := 15) rfl).1 (by omega) (C.old Ht)) (fun _ _ h => h.2) fun r w37 hr C => ?_
  obtain ⟨rfl, _⟩ := hr
  refine ok_ret.2 ?_
  refine ok_newL C fun p115 w38 C => ?_
  have C := C.addNil
  have C : Cx No w _ (.own nilS (([] : List Sl).map slV) :: .cells p115 (bookC nilS) :: _) := C
  refine ok_rdL C 12 rfl (x := Ru) rfl ?_
  refine bookBitsL C (i := 1) (j := 0) rfl rfl (by decide) (by simp) (Ru) fun vp72 w39 C => ?_
  dsimp only [List.set] at C
  refine ok_rdL C 8 rfl (x := Rm) rfl ?_
  refine bookBitsL C (i := 1) (j := 0) rfl rfl (by decide) (by simp) (Rm) fun vp84 w40 C => ?_
  dsimp only [List.set] at C
  refine ok_rdL C 4 rfl (x := Rk) rfl ?_
  refine bookBitsL C (i := 1) (j := 0) rfl rfl (by decide) (by simp) (Rk) fun vp96 w41 C => ?_
  dsimp only [List.set] at C
  refine ok_rdL C 15 rfl (x := tone BX) rfl ?_
  refine bookBitsL C (i := 1) (j := 0) rfl rfl (by decide) (by simp) (tone BX) fun vp26 w42 C => ?_
  dsimp only [List.set] at C
  refine ok_rdL C 22 rfl (x := lentS lb1 l) rfl ?_
  refine bookBitsL C (i := 1) (j := 0) rfl rfl (by decide) (by simp) (lentS lb1 l) fun vp11 w43 C => ?_
  dsimp only [List.set] at C
  refine ok_rdL C 20 rfl (x := lentS lb2 gl) rfl ?_
  refine bookBitsL C (i := 1) (j := 0) rfl rfl (by decide) (by simp) (lentS lb2 gl) fun vp15 w44 C => ?_
  dsimp only [List.set] at C
  refine ok_rdL C 18 rfl (x := lentS lb3 tl) rfl ?_
  refine bookBitsL C (i := 1) (j := 0) rfl rfl (by decide) (by simp) (lentS lb3 tl) fun vp19 w45 C => ?_
  dsimp only [List.set] at C
  have C' := C.recast (i := 21) rfl (own_lent (C.get (i := 21) rfl) mf) (by simp [It.at_])
  dsimp only [List.set] at C'
  have C' := C'.recast (i := 19) rfl (own_lent (C'.get (i := 19) rfl) mg) (by simp [It.at_])
  dsimp only [List.set] at C'
  have C' := C'.recast (i := 17) rfl (own_lent (C'.get (i := 17) rfl) mt) (by simp [It.at_])
  dsimp only [List.set] at C'
  have C' := C'.pick [0, 13, 9, 5, 16, 21, 19, 17] (by decide)
  have q1 : (if eY = 0 then cpy b.1 f g (clipN f g b) true tl (at0 gl) l else []).length ≤ 4194304 := by
    split
    · rw [cpy_len]; omega
    · exact Nat.zero_le _
  have q2 : (if E2 = 0 then cpy b.1 f f (clipN f f b) true tl (at0 l) l else []).length ≤ 4194304 := by
    split
    · rw [cpy_len]; omega
    · exact Nat.zero_le _
  have q3 : (if Good f ∧ errB (srcAt b 0 0) = 0 then (outL f zf (clipN f f (srcAt b b.2.1 b.2.2.1)) false tl l []) else []).length ≤ 4194304 := by
    split
    · rw [outL_len]; omega
    · exact Nat.zero_le _
  have q4 : (if eY = 0 then tl else []).length ≤ 4194304 := by
    split
    · omega
    · exact Nat.zero_le _
  refine ok_bnd.2 (ok_mono (bookOwn_spec C (i := 1) rfl (R := []) (ss := [Ru, Rm, Rk, tone BX, lentS lb1 l, lentS lb2 gl, lentS lb3 tl])
    (ls := [if eY = 0 then cpy b.1 f g (clipN f g b) true tl (at0 gl) l else [], if E2 = 0 then cpy b.1 f f (clipN f f b) true tl (at0 l) l else [], if Good f ∧ errB (srcAt b 0 0) = 0 then (outL f zf (clipN f f (srcAt b b.2.1 b.2.2.1)) false tl l []) else [], if eY = 0 then tl else [], l, gl, tl]) C' rfl (by simp) ?_) ?_)
  · intro j x hx
    rcases j with _ | _ | _ | _ | _ | _ | _ | j
    · cases hx; exact q1
    · cases hx; exact q2
    · cases hx; exact q3
    · cases hx; exact q4
    · cases hx; omega
    · cases hx; omega
    · cases hx; omega
    · cases hx
  rintro r wz ⟨rfl, hk⟩
  refine ok_ret.2 ⟨?_, hk.all⟩
  simp
theorem copies_law (f g : Form) (b : Blit) (w : World) (hf : Held w shF f) (hg : Held w shF g) (hb : Held w shB b) : Ok (f4_palaverlaw11_BitCopies f g b) w fun r w' => r = true ∧ Below w.heap.size w w' := by
  obtain ⟨l, H, hl⟩ := held_words hf
  obtain ⟨gl, G, hgl⟩ := held_words hg
  obtain ⟨tl, T, ht⟩ := held_arr (k := .u32) (s := tone b) hb.2.2.2.2.2.2.2.2.2.2.2
  exact copies_spec f g b l gl tl w H G T hl hgl fun n hn => wf_u32 (ht n hn)
end Go.Proofs.Ytpgalllceejpnaa
