/-
  Part of the proof: B23
-/
import Derived.Test.YtpgalllceejpnaaB22
set_option linter.unusedSimpArgs false
set_option linter.unusedVariables false
namespace Go.Proofs.Ytpgalllceejpnaa
set_option linter.unusedVariables false
open Go.Sh Go.RowKit
set_option maxRecDepth 100000
theorem pixelL {α : Type} {S : Nat → Prop} {w0 w : World} {L : List It} {Q : α → World → Prop} {k : Int × Int → M α} (C : Cx S w0 w L) (f : Form) (l : List Int) (x y : Int) (hx : -9223372036854775808 ≤ x ∧ x ≤ 9223372036854775807) (hy : -9223372036854775808 ≤ y ∧ y ≤ 9223372036854775807)
    (H : Arr w.heap.size w f.2.2.2 (wds l)) (hq : ∀ w', Cx S w0 w' L → Ok (k (pixS f l x y)) w' Q) : Ok (bnd (f16_bitblt_Pixel f x y) k) w Q := by
  refine ok_bnd.2 (ok_mono (pixel_spec f l x y w hx hy H) ?_)
  rintro r w' ⟨rfl, hB⟩
  exact hq w' (C.call hB)
/-- A pixel's bits, cut. -/
theorem shlr_eq {d : Int} (hd : Dep d) (p : Int) (hp : 0 ≤ p ∧ p < 4294967296) (q : Int) (hq : 0 ≤ q ∧ q < 4294967296) (h : ∀ k, k < 32 → (ib q).getLsbD k = (decide (k < d.toNat) && (ib p).getLsbD k)) :
    q = shrI .u32 (shlI .u32 p (IntKind.wrap .u64 (IntKind.wrap .i64 (32 - d))).toNat) (IntKind.wrap .u64 (IntKind.wrap .i64 (32 - d))).toNat := by
  have hdr := dep_rng hd
  have e : (IntKind.wrap .u64 (IntKind.wrap .i64 (32 - d))).toNat = 32 - d.toNat := by rw [wrapI_in (by omega), wrapU]; omega
  rw [e]
  have hr := shl_rng p (32 - d.toNat)
  refine int_ext hq (shr_rng hr _ (by omega)) fun k hk => ?_
  rw [h k hk, shr_lsb hr _ _ (by omega)]
  by_cases hkd : k < d.toNat
  · rw [shl_lsb hp.1 _ _ (by omega) (by omega), decide_eq_true hkd, decide_eq_true (show 32 - d.toNat ≤ 32 - d.toNat + k by omega)]
    congr 2
    omega
  · rw [decide_eq_false hkd, Bool.false_and, BitVec.getLsbD_of_ge (ib (shlI .u32 p (32 - d.toNat))) _ (by omega)]
theorem ht_nn (d s : Form) (b : Blit) (h : Sl) : 0 ≤ (clipS d s b h).2.2.2.1 ∧ 0 ≤ (clipS d s b h).2.2.2.2.1 := by
  refine ⟨?_, ht_nonneg d s b h⟩
  unfold clipS
  split
  · exact Int.le_refl 0
  · rename_i hz; show 0 ≤ (spanX d s b).2.2; omega
theorem clipN_eq (d s : Form) (b : Blit) (h : Sl) : (clipN d s b).1 = (clipS d s b h).1 ∧ (clipN d s b).2.1 = (clipS d s b h).2.1 ∧ (clipN d s b).2.2.1 = (clipS d s b h).2.2.1 ∧ (clipN d s b).2.2.2.1 = (clipS d s b h).2.2.2.1 ∧
    (clipN d s b).2.2.2.2.1 = (clipS d s b h).2.2.2.2.1 ∧ (clipN d s b).2.2.2.2.2.1 = (clipS d s b h).2.2.2.2.2.1 ∧ (clipN d s b).2.2.2.2.2.2.1 = (clipS d s b h).2.2.2.2.2.2.1 := by
  unfold clipN clipS
  by_cases hz : (spanX d s b).2.2 < 1 ∨ (spanY d s b).2.2 < 1
  · rw [if_pos hz, if_pos hz]; exact ⟨rfl, rfl, rfl, rfl, rfl, rfl, rfl⟩
  · rw [if_neg hz, if_neg hz]; exact ⟨rfl, rfl, rfl, rfl, rfl, rfl, rfl⟩
theorem rule_rng {r : Int} (hr : 0 ≤ r ∧ r ≤ 15) {s d : Int} (hs : 0 ≤ s ∧ s < 4294967296) (hd : 0 ≤ d ∧ d < 4294967296) : 0 ≤ ruleF r s d ∧ ruleF r s d < 4294967296 := by
  have hr : r = 0 ∨ r = 1 ∨ r = 2 ∨ r = 3 ∨ r = 4 ∨ r = 5 ∨ r = 6 ∨ r = 7 ∨ r = 8 ∨ r = 9 ∨ r = 10 ∨ r = 11 ∨ r = 12 ∨ r = 13 ∨ r = 14 ∨ r = 15 := by omega
  rcases hr with h | h | h | h | h | h | h | h | h | h | h | h | h | h | h | h <;> subst h <;>
    simp only [ruleF, Gf61_bitblt_ruled_1, Gf62_bitblt_ruled_2, Gf63_bitblt_ruled_3, Gf64_bitblt_ruled_4, Gf65_bitblt_ruled_5, Gf66_bitblt_ruled_6, Gf67_bitblt_ruled_7, Gf68_bitblt_ruled_8, Gf69_bitblt_ruled_9, Gf70_bitblt_ruled_10, Gf71_bitblt_ruled_11, Gf72_bitblt_ruled_12, Gf73_bitblt_ruled_13, Gf74_bitblt_ruled_14, Gf75_bitblt_ruled_15, Gf76_bitblt_ruled_16, if_true, if_false, bAnd_bi, bOr_bi, bXor_bi, bAndNot_bi, Int.reduceEq] <;>
    first | exact bi_rng _ | exact hs | exact hd | omega
/-- What BitOutside asks of one pixel. -/
theorem out_in {f g : Form} {b : Blit} {l gl : List Int} (he : errC f g b = 0) (hfl : (l.length : Int) = st f * f.2.1) (hl : Wds l) (hgl : Wds gl) (tl : List Int) {x y : Int} (hi : Inside f x y) (h : Sl)
    (hin : (clipS f g b h).2.1 ≤ x ∧ x < (clipS f g b h).2.1 + (clipS f g b h).2.2.2.1 ∧ (clipS f g b h).2.2.1 ≤ y ∧ y < (clipS f g b h).2.2.1 + (clipS f g b h).2.2.2.2.1) :
    Inside g ((clipS f g b h).2.2.2.2.2.1 + x - (clipS f g b h).2.1) ((clipS f g b h).2.2.2.2.2.2.1 + y - (clipS f g b h).2.2.1) ∧
    (tl = [] → pixF f (cpy b.1 f g (clipN f g b) true tl (at0 gl) l) x y = shrI .u32 (shlI .u32 (ruleF b.1 (pixF g gl ((clipS f g b h).2.2.2.2.2.1 + x - (clipS f g b h).2.1) ((clipS f g b h).2.2.2.2.2.2.1 + y - (clipS f g b h).2.2.1)) (pixF f l x y)) (IntKind.wrap .u64 (IntKind.wrap .i64 (32 - f.2.2.1))).toNat) (IntKind.wrap .u64 (IntKind.wrap .i64 (32 - f.2.2.1))).toNat) := by
  obtain ⟨gf, gg, hdep, hb⟩ := errC_ok he
  have hr := (errB_ok hb).1
  have hne : (clipS f g b h).2.2.2.2.1 ≠ 0 := by omega
  have I := in_clip (h := h) ⟨gf.1, gg.1, hdep, hb⟩ hne
  obtain ⟨hsd, hsw, hsx, hsh, hsy⟩ := I.src rfl
  have i1 := I.x; have i2 := I.y; have i3 := I.sx; have i4 := I.sy
  refine ⟨⟨⟨by omega, by omega⟩, by omega, by omega⟩, fun htl => ?_⟩
  subst htl
  obtain ⟨e1, e2, e3, e4, e5, e6, e7⟩ := clipN_eq f g b h
  have hpp := pix_rng f (cpy b.1 f g (clipN f g b) true [] (at0 gl) l) x y
  refine shlr_eq gf.1.1 _ (rule_rng hr (pix_rng ..) (pix_rng ..)) _ hpp fun k hk => ?_
  by_cases hkd : k < f.2.2.1.toNat
  · have hn : 0 ≤ (clipN f g b).2.2.2.1 ∧ 0 ≤ (clipN f g b).2.2.2.2.1 := ht_nn f g b ⟨none, 0, 0⟩
    have hI : (clipN f g b).2.2.2.2.1 ≠ 0 → In f g (clipN f g b) true := fun hne => in_clip (h := ⟨none, 0, 0⟩) ⟨gf.1, gg.1, hdep, hb⟩ hne
    rw [cpy_pix hr [] l gl gf hfl hl hgl hI hn hi k hkd]
    rw [e2, e3, e4, e5, e6, e7, if_pos ⟨hne, ⟨hin.2.2.1, hin.2.2.2⟩, hin.1, hin.2.1⟩, decide_eq_true hkd, Bool.true_and, ib_rule hr, rule_lsb hr _ _ k hk]
    have hpl := plc_pos (y := y) gf.1.1 gf.1.2.1 hi.1 k hkd
    rw [show toneF [] y = 4294967295 from if_pos rfl, ib_ones, BitVec.getLsbD_allOnes, decide_eq_true hpl.2, Bool.and_true]
  · rw [pix_lsb gf.1.1 gf.1.2.1 hi.1 (at0_rng (wds_cpy hr f g _ true [] _ l hl) _) k hk, decide_eq_false hkd, Bool.false_and, Bool.false_and]
theorem out_off {f g : Form} {b : Blit} {l gl : List Int} (he : errC f g b = 0) (hfl : (l.length : Int) = st f * f.2.1) (hl : Wds l) (hgl : Wds gl) (tl : List Int) {x y : Int} (hi : Inside f x y) (h : Sl)
    (hin : ¬ ((clipS f g b h).2.1 ≤ x ∧ x < (clipS f g b h).2.1 + (clipS f g b h).2.2.2.1 ∧ (clipS f g b h).2.2.1 ≤ y ∧ y < (clipS f g b h).2.2.1 + (clipS f g b h).2.2.2.2.1)) :
    pixF f (cpy b.1 f g (clipN f g b) true tl (at0 gl) l) x y = pixF f l x y := by
  obtain ⟨gf, gg, hdep, hb⟩ := errC_ok he
  have hr := (errB_ok hb).1
  obtain ⟨e1, e2, e3, e4, e5, e6, e7⟩ := clipN_eq f g b h
  refine int_ext (pix_rng ..) (pix_rng ..) fun k hk => ?_
  by_cases hkd : k < f.2.2.1.toNat
  · have hn : 0 ≤ (clipN f g b).2.2.2.1 ∧ 0 ≤ (clipN f g b).2.2.2.2.1 := ht_nn f g b ⟨none, 0, 0⟩
    have hI : (clipN f g b).2.2.2.2.1 ≠ 0 → In f g (clipN f g b) true := fun hne => in_clip (h := ⟨none, 0, 0⟩) ⟨gf.1, gg.1, hdep, hb⟩ hne
    rw [cpy_pix hr tl l gl gf hfl hl hgl hI hn hi k hkd]
    rw [e2, e3, e4, e5, e6, e7, if_neg]
    rintro ⟨_, h1, h2⟩
    exact hin ⟨h2.1, h2.2, h1.1, h1.2⟩
  · rw [pix_lsb gf.1.1 gf.1.2.1 hi.1 (at0_rng (wds_cpy hr f g _ true tl _ l hl) _) k hk, pix_lsb gf.1.1 gf.1.2.1 hi.1 (at0_rng hl _) k hk, decide_eq_false hkd, Bool.false_and, Bool.false_and]
set_option maxHeartbeats 2000000 in
theorem outside_spec (f g : Form) (b : Blit) (l gl tl : List Int) (w : World) (Hf : Arr w.heap.size w f.2.2.2 (wds l)) (Hg : Arr w.heap.size w g.2.2.2 (wds gl)) (Ht : Arr w.heap.size w (tone b) (wds tl)) (hl : Wds l) (hgl : Wds gl) :
    Ok (f5_palaverlaw11_BitOutside f g b) w fun r w' => r = true ∧ Below w.heap.size w w' := by
  unfold f5_palaverlaw11_BitOutside
  have C := Cx.nil No w
  refine ok_newL C fun p1 w1 C => ok_newL C fun p2 w2 C => ok_newL C fun p3 w3 C => ok_callL C (works_spec w3) (fun _ _ h => h.2) fun r w4 hr C => ?_
  obtain ⟨rfl, _⟩ := hr
  refine ok_rdL0 C 2 rfl rfl (ok_rdL0 C 1 rfl rfl (ok_callL C (far_spec f g w4) (fun _ _ h => h.2) fun r w5 hr C => ?_))
  obtain ⟨rfl, _⟩ := hr
  refine ok_or (decide (IntKind.wrap .i64 (f.1 * f.2.1) > 65536)) (fun _ => ok_rdL C 2 rfl rfl (ok_rdL C 2 rfl rfl (ok_ret.2 ⟨rfl, rfl⟩))) ?_
  refine ok_cnd.2 ⟨fun _ => ok_ret.2 ⟨rfl, C.below⟩, fun hfar => ?_⟩
  clear hfar
  refine ok_rdL0 C 2 rfl (x := f) rfl (ok_rdL0 C 1 rfl (x := g) rfl (ok_rdL0 C 0 rfl (x := b) rfl ?_))
  refine ok_bnd.2 (ok_mono (clip_spec f g b tl w5 (C.old Ht)) ?_)
  rintro ⟨r14, e14⟩ w6 ⟨hB, h1, h2, h3⟩
  simp only at h1 h2 h3 ⊢
  by_cases he : errC f g b = 0
  rotate_left
  · have hne : e14 ≠ 0 := fun h => he (h1.symm.trans h)
    have hr := h2 hne
    subst hr
    have C := C.call hB
    refine ok_newL C fun p15 w7 C => ok_wrL0 C 0 rfl (by simp) rfl fun w8 C => ?_
    refine ok_rdL0 C 3 rfl (x := f) rfl (ok_rdL0 C 2 rfl (x := g) rfl (ok_rdL0 C 1 rfl (x := b) rfl ?_))
    refine ok_bnd.2 (ok_mono (copy_spec f g b l gl tl w8 (C.old Hf) (C.old Hg) (C.old Ht)) ?_)
    rintro ⟨r19, e19⟩ w9 ⟨hB, h4, h5, h6⟩
    simp only at h4 h5 h6 ⊢
    have e : e19 = e14 := h4.trans h1.symm
    subst e
    have hr := h5 hne
    subst hr
    have C := C.call hB
    refine ok_newL C fun p20 w10 C => ok_wrL0 C 0 rfl (by simp) rfl fun w11 C => ok_true (by simpa using hne) ?_
    refine ok_bnd.2 (ok_true (by simp) (ok_rdL C 0 rfl (x := (⟨none, 0, 0⟩ : Sl)) rfl (ok_ret.2 (ok_ret.2 ⟨rfl, C.below⟩))))
  have h0 : e14 = 0 := h1.trans he
  subst h0
  obtain ⟨h, rfl, Oh, _⟩ := h3 rfl
  obtain ⟨gf, gg, hdep, hb⟩ := errC_ok he
  have hr := (errB_ok hb).1
  have hfl := good_len gf Hf
  have hlen : h.len = (tone b).len := by have a := Oh.1; have b := Ht.1; rw [a, b]
  obtain ⟨ha, hag⟩ := clip_again (f := f) (g := g) (b := b) h ⟨none, 0, 0⟩ he hlen
  have hnn := ht_nn f g b h
  have hout := fun {x y} hi hin => out_in (x := x) (y := y) he hfl.1 hl hgl tl hi h hin
  have hoff := fun {x y} hi hin => out_off (x := x) (y := y) he hfl.1 hl hgl tl hi h hin
  have hcl : (clipS f g b h).2.1 ≤ 4096 ∧ 0 ≤ (clipS f g b h).2.1 ∧ (clipS f g b h).2.2.1 ≤ 4096 ∧ 0 ≤ (clipS f g b h).2.2.1 ∧ (clipS f g b h).2.2.2.1 ≤ 4096 ∧ (clipS f g b h).2.2.2.2.1 ≤ 4096 ∧ 0 ≤ (clipS f g b h).2.2.2.2.2.1 ∧ (clipS f g b h).2.2.2.2.2.1 ≤ 4096 ∧ 0 ≤ (clipS f g b h).2.2.2.2.2.2.1 ∧ (clipS f g b h).2.2.2.2.2.2.1 ≤ 4096 := by
    by_cases hne : (clipS f g b h).2.2.2.2.1 ≠ 0
    · have I := in_clip (h := h) ⟨gf.1, gg.1, hdep, hb⟩ hne
      have i1 := I.x; have i2 := I.y; have i3 := I.sx; have i4 := I.sy; have i5 := I.w; have i6 := I.h
      omega
    · have hz : (spanX f g b).2.2 < 1 ∨ (spanY f g b).2.2 < 1 := by
        by_cases hz : (spanX f g b).2.2 < 1 ∨ (spanY f g b).2.2 < 1
        · exact hz
        · exfalso; apply hne; unfold clipS; rw [if_neg hz]; show (spanY f g b).2.2 ≠ 0; omega
      unfold clipS; rw [if_pos hz]; simp
  obtain ⟨c, hc⟩ : ∃ c, c = clipS f g b h := ⟨_, rfl⟩
  have hct : tone c = h := by rw [hc]; exact tone_clip f g b h
  have hcr : ∀ h', clipS f g c h' = clipS f g (clipS f g b h) h' := fun h' => by rw [hc]
  rw [← hc] at ha hag hnn hcl ⊢
  simp only [← hc] at hout hoff
  have C := C.addOwn hB Oh
  refine ok_newL C fun p15 w7 C => ok_wrL0 C 0 rfl (by simp) rfl fun w8 C => ?_
  refine ok_rdL0 C 4 rfl (x := f) rfl (ok_rdL0 C 3 rfl (x := g) rfl (ok_rdL0 C 2 rfl (x := b) rfl ?_))
  refine copyL C f g b l gl tl (C.old Hf) (C.old Hg) (C.old Ht) he fun R w9 C => ?_
  refine ok_newL C fun p20 w10 C => ok_wrL0 C 0 rfl (by simp) rfl fun w11 C => ok_false rfl ?_
  refine ok_rdL C 2 rfl (x := c.2.2.2.1) rfl ?_
  refine ok_or (decide (c.2.2.2.2.1 < 0)) (fun _ => ok_rdL C 2 rfl (x := c.2.2.2.2.1) rfl (ok_ret.2 ⟨rfl, rfl⟩)) ?_
  refine ok_false (by simp; omega) ?_
  obtain ⟨o, ho⟩ : ∃ o, o = cpy b.1 f g (clipN f g b) true tl (at0 gl) l := ⟨_, rfl⟩
  have hol : o.length = l.length := by rw [ho, cpy_len]
  simp only [← ho] at hout hoff
  rw [← ho] at C
  obtain ⟨q, hq⟩ : ∃ q : Form, q = (f.1, f.2.1, f.2.2.1, R) := ⟨_, rfl⟩
  have hqg : Good q := by
    rw [hq]; exact good_dims (l := l) gf hfl.1 (by have := (C.arr (i := 1) rfl).1; simp only [List.length_map] at this; rw [this, hol])
  have hqi : ∀ x y, Inside q x y ↔ Inside f x y := fun x y => by rw [hq]; exact Iff.rfl
  have hqp : ∀ x y, pixF q o x y = pixF f o x y := fun x y => by rw [hq]; rfl
  obtain ⟨L, C, e20, e15, e3, e2, e1, eR, eh⟩ : ∃ L, Cx No w w11 L ∧ L[0]? = some (.cells p20 [.int .i64 q.1, .int .i64 q.2.1, .int .i64 q.2.2.1, .slice R.a R.len R.cap]) ∧
    L[2]? = some (.cells p15 (cellsBlit c)) ∧ L[4]? = some (.cells p3 (cellsBlit b)) ∧ L[5]? = some (.cells p2 (cellsForm g)) ∧ L[6]? = some (.cells p1 (cellsForm f)) ∧ L[1]? = some (.own R (wds o)) ∧ L[3]? = some (.own h (wds tl)) :=
    ⟨_, C, by rw [hq]; rfl, rfl, rfl, rfl, rfl, rfl, rfl⟩
  have hfw := gf.1.2.1
  have hfh := gf.1.2.2.1
  refine ok_loop (fun (y : Int) w' => Cx No w w' L ∧ 0 ≤ y ∧ y ≤ f.2.1) (fun y _ => (f.2.1 - y).toNat) ?_ _ _ ⟨C, Int.le_refl _, by omega⟩
  clear C
  rintro y w12 ⟨C, hy0, hy1⟩
  refine ok_rdL C _ e1 (x := f.2.1) rfl ?_
  by_cases hyl : y < f.2.1
  rotate_left
  · refine ok_false (by simp [hyl]) (ok_bnd.2 ?_)
    refine ok_rdL0 C _ e1 (x := f) rfl (ok_rdL0 C _ e2 (x := g) rfl (ok_rdL0 C _ e15 (x := c) rfl ?_))
    refine ok_bnd.2 (ok_mono (clip_spec f g c tl w12 (by rw [hct]; exact C.arr eh)) ?_)
    rintro ⟨r69, e69⟩ w13 ⟨hB, h1, h2, h3⟩
    simp only at h1 h2 h3 ⊢
    have h0 : e69 = 0 := h1.trans ha
    subst h0
    obtain ⟨h', rfl, Oh', _⟩ := h3 rfl
    obtain ⟨-, hag'⟩ := clip_again (f := f) (g := g) (b := b) h h' he hlen
    rw [← hcr h', ← hc] at hag'
    obtain ⟨q1, q2, q3, q4, q5, q6⟩ := hag'
    have C := C.call hB
    refine ok_newL C fun p70 w14 C => ok_wrL0 C 0 rfl (by simp) rfl fun w15 C => ?_
    have e15' : ∀ {x y}, (x :: y :: L)[4]? = some (.cells p15 (cellsBlit c)) := e15
    have e15' : ∀ {x : It}, (x :: L)[3]? = some (.cells p15 (cellsBlit c)) := e15
    refine ok_and true (fun _ => ok_rdL C 0 rfl (x := c.2.1) (by rw [← q1]; rfl) (ok_rdL C _ e15' rfl (ok_ret.2 ⟨by simp, rfl⟩))) ?_
    refine ok_and true (fun _ => ok_rdL C 0 rfl (x := c.2.2.1) (by rw [← q2]; rfl) (ok_rdL C _ e15' rfl (ok_ret.2 ⟨by simp, rfl⟩))) ?_
    refine ok_and true (fun _ => ok_rdL C 0 rfl (x := c.2.2.2.2.2.1) (by rw [← q5]; rfl) (ok_rdL C _ e15' rfl (ok_ret.2 ⟨by simp, rfl⟩))) ?_
    refine ok_and true (fun _ => ok_rdL C 0 rfl (x := c.2.2.2.2.2.2.1) (by rw [← q6]; rfl) (ok_rdL C _ e15' rfl (ok_ret.2 ⟨by simp, rfl⟩))) ?_
    refine ok_and true (fun _ => ok_rdL C 0 rfl (x := c.2.2.2.1) (by rw [← q3]; rfl) (ok_rdL C _ e15' rfl (ok_ret.2 ⟨by simp, rfl⟩))) ?_
    refine ok_and true (fun _ => ok_rdL C 0 rfl (x := c.2.2.2.2.1) (by rw [← q4]; rfl) (ok_rdL C _ e15' rfl (ok_ret.2 ⟨by simp, rfl⟩))) ?_
    exact ok_ret.2 (ok_ret.2 ⟨rfl, C.below⟩)
  refine ok_true (by simp [hyl]) ?_
  refine ok_loop (fun (x : Int) w' => Cx No w w' L ∧ 0 ≤ x ∧ x ≤ f.1) (fun x _ => (f.1 - x).toNat) ?_ _ _ ⟨C, Int.le_refl _, by omega⟩
  clear C
  rintro x w13 ⟨C, hx0, hx1⟩
  refine ok_rdL C _ e1 (x := f.1) rfl ?_
  by_cases hxl : x < f.1
  rotate_left
  · refine ok_false (by simp [hxl]) (ok_ret.2 ⟨?_, ?_⟩)
    · rw [wrapI_in (by omega)]; exact ⟨C, by omega, by omega⟩
    · rw [wrapI_in (by omega)]; omega
  have hi : Inside f x y := ⟨⟨hx0, hxl⟩, hy0, hyl⟩
  refine ok_true (by simp [hxl]) (ok_bnd.2 ?_)
  refine ok_rdL0 C _ e1 (x := f) rfl ?_
  refine pixelL C f l x y (by omega) (by omega) (C.old Hf) fun w14 C => ?_
  refine ok_rdL0 C _ e20 (x := q) (by rw [hq]; rfl) ?_
  refine (pixelL C q o x y (by omega) (by omega) (by have := C.arr eR; rw [hq]; exact this) fun w15 C => ?_)
  rw [show pixS f l x y = (pixF f l x y, 0) by unfold pixS; rw [if_pos gf, if_pos hi], show pixS q o x y = (pixF f o x y, 0) by unfold pixS; rw [if_pos hqg, if_pos ((hqi x y).2 hi), hqp]]
  refine ok_rdL C _ e15 (x := c.2.1) rfl ?_
  refine ok_and (decide (x < c.2.1 + c.2.2.2.1)) (fun _ => ok_rdL C _ e15 rfl (ok_rdL C _ e15 (x := c.2.2.2.1) rfl (ok_ret.2 ⟨by rw [wrapI_in (by omega)], rfl⟩))) ?_
  refine ok_and (decide (c.2.2.1 ≤ y)) (fun _ => ok_rdL C _ e15 rfl (ok_ret.2 ⟨rfl, rfl⟩)) ?_
  refine ok_and (decide (y < c.2.2.1 + c.2.2.2.2.1)) (fun _ => ok_rdL C _ e15 rfl (ok_rdL C _ e15 (x := c.2.2.2.2.1) rfl (ok_ret.2 ⟨by rw [wrapI_in (by omega)], rfl⟩))) ?_
  have next : ∀ w', Cx No w w' L → Cx No w w' L ∧ (0 ≤ IntKind.wrap .i64 (x + 1) ∧ IntKind.wrap .i64 (x + 1) ≤ f.1) ∧ (f.1 - IntKind.wrap .i64 (x + 1)).toNat < (f.1 - x).toNat := fun w' C => by
    rw [wrapI_in (by omega)]; exact ⟨C, by omega, by omega⟩
  by_cases hin : c.2.1 ≤ x ∧ x < c.2.1 + c.2.2.2.1 ∧ c.2.2.1 ≤ y ∧ y < c.2.2.1 + c.2.2.2.2.1
  rotate_left
  · refine ok_true (by simp only [ge_iff_le, Bool.not_eq_true', Bool.and_eq_false_iff, decide_eq_false_iff_not]; omega) ?_
    refine ok_false (by simp [hoff hi hin]) (ok_ret.2 (ok_ret.2 ?_))
    have := next w15 C
    exact ⟨⟨this.1, this.2.1⟩, this.2.2⟩
  refine ok_false (by simp only [ge_iff_le, Bool.not_eq_false', Bool.and_eq_true, decide_eq_true_eq]; omega) ?_
  obtain ⟨hig, hval⟩ := hout hi hin
  refine ok_rdL0 C _ e2 (x := g) rfl (ok_rdL C _ e15 rfl (ok_rdL C _ e15 (x := c.2.1) rfl (ok_rdL C _ e15 rfl (ok_rdL C _ e15 (x := c.2.2.1) rfl ?_))))
  rw [wrapI_in (n := c.2.2.2.2.2.1 + x) (by omega), wrapI_in (n := c.2.2.2.2.2.1 + x - c.2.1) (by omega), wrapI_in (n := c.2.2.2.2.2.2.1 + y) (by omega), wrapI_in (n := c.2.2.2.2.2.2.1 + y - c.2.2.1) (by omega)]
  refine pixelL C g gl _ _ (by omega) (by omega) (C.old Hg) fun w16 C => ?_
  rw [show pixS g gl (c.2.2.2.2.2.1 + x - c.2.1) (c.2.2.2.2.2.2.1 + y - c.2.2.1) = (pixF g gl (c.2.2.2.2.2.1 + x - c.2.1) (c.2.2.2.2.2.2.1 + y - c.2.2.1), 0) by unfold pixS; rw [if_pos gg, if_pos hig]]
  refine ok_false rfl (ok_rdL C _ e3 (x := tone b) rfl (ok_bnd.2 ?_))
  have htl : ((tone b).len == 0) = decide (tl = []) := by
    have := Ht.1; simp only [List.length_map] at this; rw [this]; cases tl <;> simp
  by_cases ht0 : tl = []
  · refine ok_true (by rw [show ((((tone b).len : Nat) : Int) == 0) = ((tone b).len == 0) by cases (tone b).len <;> rfl, htl]; simp [ht0]) ?_
    have hv := hval ht0
    refine ok_rdL C _ e3 (x := b.1) rfl (ok_bnd.2 (ok_mono (rule_spec b.1 _ _ w16) ?_))
    rintro r w17 ⟨rfl, rfl⟩
    rw [if_pos hr]
    have hdr := dep_rng gf.1.1
    have hnw : (0 : Int) ≤ IntKind.wrap .u64 (IntKind.wrap .i64 (32 - f.2.2.1)) := by rw [wrapU]; omega
    refine ok_rdL C _ e1 (x := f.2.2.1) rfl ?_
    refine ok_bnd.2 (ok_cnt.2 ⟨hnw, ?_⟩)
    refine ok_rdL C _ e1 (x := f.2.2.1) rfl ?_
    refine ok_bnd.2 (ok_cnt.2 ⟨hnw, ?_⟩)
    refine ok_false (by simp [hv]) (ok_ret.2 (ok_ret.2 (ok_ret.2 ?_)))
    have := next _ C
    exact ⟨⟨this.1, this.2.1⟩, this.2.2⟩
  · refine ok_false (by rw [show ((((tone b).len : Nat) : Int) == 0) = ((tone b).len == 0) by cases (tone b).len <;> rfl, htl]; simp [ht0]) (ok_ret.2 (ok_ret.2 (ok_ret.2 ?_)))
    have := next _ C
    exact ⟨⟨this.1, this.2.1⟩, this.2.2⟩
end Go.Proofs.Ytpgalllceejpnaa
