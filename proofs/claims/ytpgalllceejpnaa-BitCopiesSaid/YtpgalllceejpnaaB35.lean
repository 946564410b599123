/-
  Part of the proof: B35
-/
import Derived.Test.YtpgalllceejpnaaB34
set_option linter.unusedSimpArgs false
set_option linter.unusedVariables false
namespace Go.Proofs.Ytpgalllceejpnaa
set_option linter.unusedVariables false
open Go.Sh Go.RowKit
set_option maxRecDepth 100000
/-! ### The reference: a fill -/
theorem cpy_lsb_f {r : Int} (hr : 0 ≤ r ∧ r ≤ 15) {d s s2 : Form} {c : Blit} (tl dl : List Int) (sw : Int → Int) (I : c.2.2.2.2.1 ≠ 0 → In d s c true) (n k : Nat) (hn : n < dl.length) (hk : k < 32) :
    (ib (at0 (cpy r d s2 c false tl sw dl) n)).getLsbD k =
      if c.2.2.2.2.1 ≠ 0 ∧ (c.2.2.1 ≤ (n : Int) / st d ∧ (n : Int) / st d < c.2.2.1 + c.2.2.2.2.1) ∧ (fst_ d c ≤ 32 * ((n : Int) % st d) + 31 - k ∧ 32 * ((n : Int) % st d) + 31 - k ≤ lst_ d c) then
        ruleB r ((ib (toneF tl ((n : Int) / st d))).getLsbD k) ((ib (at0 dl n)).getLsbD k)
      else (ib (at0 dl n)).getLsbD k := by
  rw [cpy_at _ _ _ _ _ _ _ _ _ hn]
  by_cases h0 : c.2.2.2.2.1 ≠ 0
  rotate_left
  · rw [if_neg (fun h => h0 h.1), if_neg (fun h => h0 h.1)]
  have I := I h0
  have G := I.geo
  by_cases ht : Touched d c (n : Int)
  · rw [if_pos ⟨h0, ht⟩, mix_bi hr, ib_bi, mix_lsb hr _ _ _ _ _ hk]
    unfold mskW srcW
    rw [mask_lsb G.1 G.2.1 ⟨ht.2.2.1, ht.2.2.2⟩ k hk, show srcF false (st s2) (fun q => sw ((c.2.2.2.2.2.2.1 + ((n : Int) / st d - c.2.2.1)) * st s2 + q)) (32 * ((n : Int) % st d) + by_ d c) = 4294967295 from rfl, ib_ones, BitVec.getLsbD_allOnes, decide_eq_true hk, Bool.true_and]
    by_cases hm : fst_ d c ≤ 32 * ((n : Int) % st d) + 31 - k ∧ 32 * ((n : Int) % st d) + 31 - k ≤ lst_ d c
    · rw [if_pos (by simpa using hm), if_pos ⟨h0, ⟨ht.1, ht.2.1⟩, hm⟩]
    · rw [if_neg (by simpa using hm), if_neg (fun h => hm h.2.2)]
  · rw [if_neg (fun h => ht h.2), if_neg]
    rintro ⟨_, h1, h2⟩
    exact ht ⟨h1.1, h1.2, by omega, by omega⟩
/-- Out of ones, as out of nothing. -/
theorem fill_eq {d : Form} {b : Blit} {tl dl : List Int} (gd : Good d) (hb : errB (srcAt b b.2.1 b.2.2.1) = 0) (hl : (dl.length : Int) = st d * d.2.1) (hdl : Wds dl) :
    cpy b.1 d d (clipN d d (srcAt b b.2.1 b.2.2.1)) true tl (at0 (List.replicate dl.length 4294967295)) dl = outL d zf (clipN d d (srcAt b b.2.1 b.2.2.1)) false tl dl [] := by
  obtain ⟨c, hc⟩ : ∃ c, c = clipN d d (srcAt b b.2.1 b.2.2.1) := ⟨_, rfl⟩
  have hr : 0 ≤ b.1 ∧ b.1 ≤ 15 := (errB_ok hb).1
  obtain ⟨_, hf, _⟩ := errB_ok hb
  simp only [nums, List.mem_cons, List.not_mem_nil, or_false, forall_eq_or_imp, forall_eq] at hf
  obtain ⟨f1, f2, f3, f4, f5, f6, f7, f8, f9, f10⟩ := hf
  have hI : c.2.2.2.2.1 ≠ 0 → In d d c true := fun hne => by
    rw [hc] at hne ⊢; exact in_clip (h := ⟨none, 0, 0⟩) ⟨gd.1, gd.1, rfl, hb⟩ hne
  have hcr : c.1 = b.1 := by rw [hc]; unfold clipN clipS; split <;> rfl
  have hsame : c.2.2.2.2.1 ≠ 0 → c.2.2.2.2.2.1 = c.2.1 ∧ c.2.2.2.2.2.2.1 = c.2.2.1 := fun hne => by
    have hz : ¬ ((spanX d d (srcAt b b.2.1 b.2.2.1)).2.2 < 1 ∨ (spanY d d (srcAt b b.2.1 b.2.2.1)).2.2 < 1) := fun hz => hne (by rw [hc]; unfold clipN clipS; rw [if_pos hz])
    have hX := span_in _ _ _ _ _ d.1 d.1 f1 f3 f5 f7 f9 gd.1.2.1 gd.1.2.1 (show 1 ≤ (spanX d d (srcAt b b.2.1 b.2.2.1)).2.2 by omega)
    have hY := span_in _ _ _ _ _ d.2.1 d.2.1 f2 f4 f6 f8 f10 gd.1.2.2.1 gd.1.2.2.1 (show 1 ≤ (spanY d d (srcAt b b.2.1 b.2.2.1)).2.2 by omega)
    have hX' : (spanX d d (srcAt b b.2.1 b.2.2.1)).2.1 - (spanX d d (srcAt b b.2.1 b.2.2.1)).1 = b.2.1 - b.2.1 := hX.2.2.2.2
    have hY' : (spanY d d (srcAt b b.2.1 b.2.2.1)).2.1 - (spanY d d (srcAt b b.2.1 b.2.2.1)).1 = b.2.2.1 - b.2.2.1 := hY.2.2.2.2
    rw [hc]; unfold clipN clipS; rw [if_neg hz]
    exact ⟨by show (spanX d d (srcAt b b.2.1 b.2.2.1)).2.1 = (spanX d d (srcAt b b.2.1 b.2.2.1)).1; omega, by show (spanY d d (srcAt b b.2.1 b.2.2.1)).2.1 = (spanY d d (srcAt b b.2.1 b.2.2.1)).1; omega⟩
  rw [outL_cpy, ← hc, hcr]
  have hon : Wds (List.replicate dl.length 4294967295) := fun m hm => by rw [(List.mem_replicate.1 hm).2]; omega
  refine at0_ext (by rw [cpy_len, cpy_len]) fun n hn => ?_
  rw [cpy_len] at hn
  refine int_ext (at0_rng (wds_cpy hr _ _ _ _ _ _ _ hdl) _) (at0_rng (wds_cpy hr _ _ _ _ _ _ _ hdl) _) fun k hk => ?_
  rw [cpy_lsb hr tl dl _ hon hI n k hn hk, cpy_lsb_f hr tl dl _ hI n k hn hk]
  by_cases h : c.2.2.2.2.1 ≠ 0 ∧ (c.2.2.1 ≤ (n : Int) / st d ∧ (n : Int) / st d < c.2.2.1 + c.2.2.2.2.1) ∧ (fst_ d c ≤ 32 * ((n : Int) % st d) + 31 - k ∧ 32 * ((n : Int) % st d) + 31 - k ≤ lst_ d c)
  · rw [if_pos h, if_pos h]
    have I := hI h.1
    have G := I.geo
    obtain ⟨s1, s2⟩ := hsame h.1
    have hm := emod_nn n (st d)
    have hm2 := Int.emod_lt_of_pos (n : Int) (show (0 : Int) < st d by omega)
    have hby : by_ d c = 0 := by unfold by_; rw [s1, Int.sub_self, Int.zero_mul]
    have hrb : rowBit (st d) (fun q => at0 (List.replicate dl.length 4294967295) ((c.2.2.2.2.2.2.1 + ((n : Int) / st d - c.2.2.1)) * st d + q)) (32 * ((n : Int) % st d) + 31 - k + by_ d c) = true := by
      unfold rowBit rowAt
      rw [hby, Int.add_zero, show (32 * ((n : Int) % st d) + 31 - k) / 32 = (n : Int) % st d by omega, if_pos ⟨hm, hm2⟩]
      simp only
      rw [s2, show c.2.2.1 + ((n : Int) / st d - c.2.2.1) = (n : Int) / st d by omega, ← row_div]
      have : at0 (List.replicate dl.length 4294967295) (n : Int) = 4294967295 := by simp [at0, hn]
      rw [this, ib_ones, BitVec.getLsbD_allOnes]
      exact decide_eq_true (by omega)
    rw [hrb, Bool.true_and]
  · rw [if_neg h, if_neg h]
set_option maxHeartbeats 1000000 in
theorem reffill_spec (d : Form) (b : Blit) (dl tl : List Int) (w : World) (Hd : Arr w.heap.size w d.2.2.2 (wds dl)) (Ht : Arr w.heap.size w (tone b) (wds tl)) (hdl : Wds dl) (htl : Wds tl) :
    Ok (f32_palaverref11_Fill d b) w fun r w' => Below w.heap.size w w' ∧
      (if Good d ∧ errB (srcAt b 0 0) = 0 then r.2 = 0 ∧ r.1.1 = d.1 ∧ r.1.2.1 = d.2.1 ∧ r.1.2.2.1 = d.2.2.1 ∧ Own w.heap.size w' r.1.2.2.2 (wds (outL d zf (clipN d d (srcAt b b.2.1 b.2.2.1)) false tl dl []))
       else r = (zf, if Good d then errB (srcAt b 0 0) else 110)) := by
  unfold f32_palaverref11_Fill
  have C := Cx.nil No w
  refine ok_newL C fun p1 w1 C => ok_newL C fun p2 w2 C => ok_newL C fun p3 w3 C => ?_
  refine ok_rdL0 C 2 rfl (x := d) rfl ?_
  refine ok_callL C (refcheck_spec d w3) (fun _ _ h => h.2) fun r w4 hr C => ?_
  obtain ⟨rfl, _⟩ := hr
  have hout : ∀ {w' : World} (e : Int), Cx No w w' [.cells p3 (cellsForm zf), .cells p2 (cellsBlit b), .cells p1 (cellsForm d)] → Ok (bnd (wrs ⟨p3, 0, none⟩ 0 [.int .i64 (0 : Int), .int .i64 (0 : Int), .int .i64 (0 : Int), .slice none 0 0]) fun _ => bnd (ld (.agg (.pair (.int .i64) (.pair (.int .i64) (.pair (.int .i64) .sl)))) ⟨p3, 0, none⟩) fun (v : Form) => ret (v, e)) w' fun r w'' => Below w.heap.size w w'' ∧ r = (zf, e) :=
    fun e C => ok_wrC0 C 0 rfl rfl rfl fun w4 C => ok_rdL0 C 0 rfl rfl (ok_ret.2 ⟨C.below, rfl⟩)
  by_cases gd : Good d
  rotate_left
  · simp only [if_neg (fun h : Good d ∧ errB (srcAt b 0 0) = 0 => gd h.1), if_neg gd]
    refine ok_true (by unfold errS; rw [if_neg gd]; rfl) ?_
    have := hout (errS d) C
    unfold errS at this
    rw [if_neg gd] at this
    unfold errS
    rw [if_neg gd]
    exact this
  refine ok_false (by unfold errS; rw [if_pos gd]; rfl) ?_
  refine ok_rdL C 1 rfl (x := b.1) rfl ?_
  refine ok_or (decide (b.1 > 15)) (fun _ => ok_rdL C 1 rfl rfl (ok_ret.2 ⟨rfl, rfl⟩)) ?_
  by_cases hr : 0 ≤ b.1 ∧ b.1 ≤ 15
  rotate_left
  · have hne : errB (srcAt b 0 0) = 111 := by unfold errB; exact if_neg hr
    have hcn : ¬ (Good d ∧ errB (srcAt b 0 0) = 0) := fun h => by rw [hne] at h; exact absurd h.2 (by decide)
    simp only [if_neg hcn]
    simp only [if_pos gd, hne]
    exact ok_true (by simp only [Bool.or_eq_true, decide_eq_true_eq]; omega) (hout 111 C)
  refine ok_false (by simp only [Bool.or_eq_false_iff, decide_eq_false_iff_not]; omega) ?_
  refine ok_rdL0 C 1 rfl (x := b) rfl ?_
  refine ok_callL C (bounds_spec b false w4) (fun _ _ h => h.2) fun r w5 hr5 C => ?_
  obtain ⟨rfl, _⟩ := hr5
  have hfar : (∀ n ∈ refNums b false, Far n) ↔ ∀ n ∈ nums (srcAt b 0 0), Far n := by
    simp only [refNums, nums, srcAt, Bool.false_eq_true, if_false, List.append_nil, List.mem_cons, List.not_mem_nil, or_false, forall_eq_or_imp, forall_eq]
    have h0 : Far 0 := by decide
    constructor
    · rintro ⟨h1, h2, h3, h4, h5, h6, h7, h8⟩; exact ⟨h1, h2, h3, h4, h0, h0, h5, h6, h7, h8⟩
    · rintro ⟨h1, h2, h3, h4, _, _, h5, h6, h7, h8⟩; exact ⟨h1, h2, h3, h4, h5, h6, h7, h8⟩
  simp only [hfar]
  by_cases hbd : (∀ n ∈ nums (srcAt b 0 0), Far n) ∧ (tone b).len ≤ 4096
  rotate_left
  · have hne : errB (srcAt b 0 0) = 1 := by unfold errB; rw [if_pos (show 0 ≤ (srcAt b 0 0).1 ∧ (srcAt b 0 0).1 ≤ 15 from hr)]; exact if_neg hbd
    have hcn : ¬ (Good d ∧ errB (srcAt b 0 0) = 0) := fun h => by rw [hne] at h; exact absurd h.2 (by decide)
    simp only [if_neg hcn]
    simp only [if_pos gd, hne]
    exact ok_true (by rw [decide_eq_false hbd]; rfl) (hout 1 C)
  have hbe : errB (srcAt b 0 0) = 0 := by unfold errB; rw [if_pos (show 0 ≤ (srcAt b 0 0).1 ∧ (srcAt b 0 0).1 ≤ 15 from hr)]; exact if_pos hbd
  simp only [if_pos (show Good d ∧ errB (srcAt b 0 0) = 0 from ⟨gd, hbe⟩)]
  refine ok_false (by rw [decide_eq_true hbd]; rfl) ?_
  have hb2 := errB_src hbe
  have hgl := good_len gd Hd
  refine ok_rdL0 C 2 rfl (x := d) rfl ?_
  refine ok_bnd.2 (ok_mono (like_spec d dl w5 (C.old Hd) hgl.2) ?_)
  rintro ⟨r1, r2, r3, R⟩ w6 ⟨e1, e2, e3, O, B⟩
  simp only at e1 e2 e3 O
  subst e1 e2 e3
  have C := C.addOwn B O
  refine ok_newWrL C rfl rfl fun p16 w7 C => ?_
  obtain ⟨q, hq⟩ : ∃ q : Form, q = (d.1, d.2.1, d.2.2.1, R) := ⟨_, rfl⟩
  have hdlen : d.2.2.2.len = dl.length := by have := Hd.1; simpa using this
  have hRl : R.len = dl.length := by have := (C.get (i := 1) rfl).1; simpa using this
  have C : Cx No w w7 [.cells p16 (cellsForm q), .own R (wds dl), .cells p3 (cellsForm zf), .cells p2 (cellsBlit b), .cells p1 (cellsForm d)] := by rw [hq]; exact C
  refine ok_loop (fun (i : Int) w' => 0 ≤ i ∧ i ≤ dl.length ∧ ∃ lo : List Int, lo.length = dl.length ∧ (∀ j : Nat, (j : Int) < i → lo[j]? = some 4294967295) ∧ Cx No w w' [.cells p16 (cellsForm q), .own R (wds lo), .cells p3 (cellsForm zf), .cells p2 (cellsBlit b), .cells p1 (cellsForm d)]) (fun i _ => (dl.length - i).toNat) ?_ _ _ ⟨Int.le_refl _, by omega, dl, rfl, fun j h => by omega, C⟩
  clear C
  rintro i w8 ⟨hi0, hi1, lo, hlo, hall, C⟩
  obtain ⟨n, rfl⟩ := Int.eq_ofNat_of_zero_le hi0
  refine ok_rdL C 0 rfl (x := R) (by rw [hq]; rfl) ?_
  by_cases hn : n < dl.length
  · refine ok_true (by rw [hRl]; simpa using hn) ?_
    refine ok_rdL C 0 rfl (x := R) (by rw [hq]; rfl) ?_
    obtain ⟨bb, hbb⟩ := own_block (k := .u32) (C.get (i := 1) rfl) (n := n) (by omega)
    refine ok_ixO hbb hi0 (by omega) ?_
    rw [Int.toNat_natCast]
    refine ok_wrO C (i := 1) (l := lo) rfl hbb (by omega) fun w9 C => ok_ret.2 ?_
    dsimp only [List.set] at C
    rw [wrapI_in (n := (n : Int) + 1) (by omega)]
    refine ⟨⟨by omega, by omega, lo.set n 4294967295, by simp [hlo], fun j hj => ?_, C⟩, by omega⟩
    rw [List.getElem?_set]
    by_cases hjn : n = j
    · subst hjn; rw [if_pos rfl, if_pos (by omega)]
    · rw [if_neg hjn]; exact hall j (by omega)
  have hnl : n = dl.length := by omega
  refine ok_false (by rw [hRl]; simpa using hn) (ok_bnd.2 ?_)
  have hrep : lo = List.replicate dl.length 4294967295 := by
    refine List.ext_getElem? fun j => ?_
    by_cases hj : j < dl.length
    · rw [hall j (by omega), List.getElem?_replicate, if_pos hj]
    · rw [List.getElem?_eq_none (by omega), List.getElem?_eq_none (by simp; omega)]
  subst hrep
  obtain ⟨b2, hb2e⟩ : ∃ b2, b2 = srcAt b b.2.1 b.2.2.1 := ⟨_, rfl⟩
  refine ok_rdL C 3 rfl (x := b.2.1) rfl ?_
  refine ok_wrC C 3 (cellsBlit (srcAt b b.2.1 b.2.2.2.2.2.2.1)) rfl (by simp [cellsBlit]) rfl rfl fun w9 C => ?_
  dsimp only [List.set] at C
  refine ok_rdL C 3 rfl (x := b.2.2.1) rfl ?_
  refine ok_wrC C 3 (cellsBlit b2) rfl (by simp [cellsBlit]) rfl (by rw [hb2e]; rfl) fun w10 C => ?_
  dsimp only [List.set] at C
  refine ok_rdL0 C 4 rfl (x := d) rfl ?_
  refine ok_rdL0 C 0 rfl (x := q) rfl ?_
  refine ok_rdL0 C 3 rfl (x := b2) rfl ?_
  have gq : Good q := by rw [hq]; exact good_dims gd hgl.1 hRl
  have he : errC d q b2 = 0 := by
    unfold errC; rw [if_pos ⟨gd, gq, by rw [hq]⟩, hb2e]; exact hb2
  have hon : Wds (List.replicate dl.length 4294967295) := fun m hm => by rw [(List.mem_replicate.1 hm).2]; omega
  refine ok_bnd.2 (ok_mono (refcopy_spec d q b2 dl (List.replicate dl.length 4294967295) tl w10 (C.old Hd) (by rw [hq]; exact C.arr (i := 1) rfl) (by rw [hb2e]; exact C.old Ht) hdl hon htl) ?_)
  rintro ⟨⟨r1, r2, r3, R2⟩, e⟩ w11 ⟨hB, h1, h2, h3⟩
  have h0 : e = 0 := h1.trans he
  subst h0
  obtain ⟨h4, h5, h6, O2⟩ := h3 rfl
  simp only at h4 h5 h6 O2
  subst h4 h5 h6
  have C := C.addOwn hB O2
  refine ok_wrC0 C 3 rfl rfl rfl fun w12 C => ?_
  dsimp only [List.set] at C
  refine ok_rdL0 C 3 rfl (x := (d.1, d.2.1, d.2.2.1, R2)) rfl (ok_ret.2 (ok_ret.2 ⟨C.below, rfl, rfl, rfl, rfl, ?_⟩))
  have hO := C.ret (i := 0) rfl
  rw [← fill_eq gd hb2 hgl.1 hdl]
  have hgeo : cpy b2.1 d q (clipN d q b2) true tl (at0 (List.replicate dl.length 4294967295)) dl = cpy b.1 d d (clipN d d (srcAt b b.2.1 b.2.2.1)) true tl (at0 (List.replicate dl.length 4294967295)) dl := by
    rw [hb2e]
    exact cpy_geo b.1 d d d q (srcAt b b.2.1 b.2.2.1).2 b.1 b.1 true tl _ dl ⟨rfl, rfl, rfl⟩ ⟨by rw [hq], by rw [hq], by rw [hq]⟩
  rw [← hgeo]
  exact hO
end Go.Proofs.Ytpgalllceejpnaa
