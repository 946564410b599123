/-
  Part of the proof: B26
-/
import Derived.Test.YtpgalllceejpnaaB25
set_option linter.unusedSimpArgs false
set_option linter.unusedVariables false
namespace Go.Proofs.Ytpgalllceejpnaa
set_option linter.unusedVariables false
open Go.Sh Go.RowKit
set_option maxRecDepth 100000
theorem at0_get {l : List Int} {j : Int} (h0 : 0 ≤ j) (h1 : j < l.length) : l[j.toNat]? = some (at0 l j) := by
  unfold at0
  rw [List.getElem?_eq_getElem (by omega)]
  rfl
theorem plc_ref {f : Form} {x y : Int} (hs : Sized f) (hi : Inside f x y) :
    IntKind.wrap .i64 (IntKind.wrap .i64 (y * strd2 f) + IntKind.wrap .i64 (Int.tdiv (IntKind.wrap .i64 (x * f.2.2.1)) 32)) = (plc f x y).1 ∧
    IntKind.wrap .u64 (IntKind.wrap .i64 (IntKind.wrap .i64 (32 - Int.tmod (IntKind.wrap .i64 (x * f.2.2.1)) 32) - f.2.2.1)) = (plc f x y).2 ∧ 0 ≤ (plc f x y).2 ∧ (plc f x y).2 ≤ 31 := by
  have hp := place_rng hs.1 hs.2.1 hi.1
  have hst := st_rng hs.1 hs.2.1
  have hh := hs.2.2.1
  have hyy := mul_bnd (show 0 ≤ y ∧ y ≤ 4096 by have := hi.2; omega) hst
  have hdr := dep_rng hs.1
  rw [strd2_eq hs.1 hs.2.1]
  simp only [plc]
  rw [wrapI_in (n := x * f.2.2.1) (by omega), Int.tdiv_eq_ediv_of_nonneg hp.1, wrapI_in (n := x * f.2.2.1 / 32) (by omega), wrapI_in (n := y * st f) (by omega), wrapI_in (n := y * st f + x * f.2.2.1 / 32) (by omega),
    Int.tmod_eq_emod_of_nonneg hp.1, wrapI_in (n := 32 - x * f.2.2.1 % 32) (by omega), wrapI_in (n := 32 - x * f.2.2.1 % 32 - f.2.2.1) (by omega), wrapU]
  omega
theorem get_spec (f : Form) (l : List Int) (x y : Int) (w : World) (hs : Sized f) (hi : Inside f x y) (hl : (l.length : Int) = st f * f.2.1) (H : Arr w.heap.size w f.2.2.2 (wds l)) :
    Ok (f39_palaverref11_get f x y) w fun r w' => r = pixF f l x y ∧ Below w.heap.size w w' := by
  unfold f39_palaverref11_get
  obtain ⟨e1, e2, hu0, hu1⟩ := plc_ref hs hi
  have hp := plc_in hs hi
  have hlen := H.1
  simp only [List.length_map] at hlen
  have C := Cx.nil No w
  refine ok_newL C fun p1 w1 C => ok_rdL C 0 rfl (x := f.2.2.1) rfl ?_
  refine ok_drawL C fun w2 C => ?_
  refine ok_rdL C 0 rfl (x := f.2.2.2) rfl ?_
  refine ok_rdL0 C 0 rfl (x := f) rfl ?_
  refine ok_callL C (stride2_spec f w2) (fun _ _ h => h.2) fun r w3 hr C => ?_
  obtain ⟨rfl, _⟩ := hr
  refine ok_bnd.2 (ok_chkL C 0 rfl rfl (ok_ret.2 ?_))
  rw [e1]
  obtain ⟨b, o, c, ha, hb, hc, hval⟩ := arr_words (C.old H) (by intro h; rw [h] at hl; simp at hl; omega)
  refine ok_bnd.2 (ok_ix ha hp.1 (by omega) (ok_bnd.2 (ok_ldA hc (rdv_int (by rw [Nat.mul_one]; exact hval _ hp.1 (by omega))) ?_)))
  refine ok_drawL C fun w4 C => ?_
  refine ok_rdL C 0 rfl (x := f.2.2.1) rfl ?_
  rw [e2]
  refine ok_bnd.2 (ok_cnt.2 ⟨hu0, ?_⟩)
  refine ok_rdL C 0 rfl (x := f.2.2.1) rfl ?_
  refine ok_bnd.2 (ok_mono (all_spec _ hs.1 w4) ?_)
  rintro r _ ⟨rfl, rfl⟩
  exact ok_bnd.2 (ok_chkL C 0 rfl rfl (ok_ret.2 (ok_ret.2 ⟨rfl, C.below⟩)))
theorem refpixel_spec (f : Form) (l : List Int) (x y : Int) (w : World) (H : Arr w.heap.size w f.2.2.2 (wds l)) : Ok (f17_palaverref11_Pixel f x y) w fun r w' => r = pixS f l x y ∧ Below w.heap.size w w' := by
  unfold f17_palaverref11_Pixel pixS
  have C := Cx.nil No w
  refine ok_newL C fun p1 w1 C => ?_
  refine ok_rdL0 C 0 rfl (x := f) rfl ?_
  refine ok_callL C (refcheck_spec f w1) (fun _ _ h => h.2) fun r w2 hr C => ?_
  obtain ⟨rfl, _⟩ := hr
  unfold errS
  by_cases hg : Good f
  rotate_left
  · simp only [if_neg hg]
    exact ok_true (by simp) (ok_ret.2 ⟨rfl, C.below⟩)
  simp only [if_pos hg]
  refine ok_false (by simp) ?_
  refine ok_or (decide (x ≥ f.1)) (fun _ => ok_rdL C 0 rfl rfl (ok_ret.2 ⟨rfl, rfl⟩)) ?_
  refine ok_bnd.2 (ok_mono (Q := fun r w' => r = decide (¬ Inside f x y) ∧ w2 = w') ?_ ?_)
  · refine ok_cnd.2 ⟨fun hb => ok_ret.2 ⟨?_, rfl⟩, fun hb => ok_rdL C 0 rfl (x := f.2.1) rfl (ok_ret.2 ⟨?_, rfl⟩)⟩
    · simp only [Bool.cond_true_left, Bool.or_eq_true, decide_eq_true_eq] at hb
      refine eq_dec ?_
      unfold Inside; simp only [true_iff]; omega
    · simp only [Bool.cond_true_left, Bool.or_eq_false_iff, decide_eq_false_iff_not] at hb
      refine eq_dec ?_
      unfold Inside; rw [decide_eq_true_iff]; omega
  rintro r _ ⟨rfl, rfl⟩
  by_cases hi : Inside f x y
  rotate_left
  · simp only [if_neg hi]
    exact ok_true (by simp [hi]) (ok_ret.2 ⟨rfl, C.below⟩)
  simp only [if_pos hi]
  refine ok_false (by simp [hi]) ?_
  refine ok_rdL0 C 0 rfl (x := f) rfl ?_
  refine ok_callL C (get_spec f l x y w2 hg.1 hi (good_len hg H).1 (C.old H)) (fun _ _ h => h.2) fun r w3 hr C => ?_
  obtain ⟨rfl, _⟩ := hr
  exact ok_ret.2 ⟨rfl, C.below⟩
theorem like_spec (f : Form) (l : List Int) (w : World) (H : Arr w.heap.size w f.2.2.2 (wds l)) (hl : f.2.2.2.len ≤ 4194304) :
    Ok (f42_palaverref11_like f) w fun r w' => r.1 = f.1 ∧ r.2.1 = f.2.1 ∧ r.2.2.1 = f.2.2.1 ∧ Own w.heap.size w' r.2.2.2 (wds l) ∧ Below w.heap.size w w' := by
  unfold f42_palaverref11_like
  have C := Cx.nil No w
  refine ok_newL C fun p1 w1 C => ok_newL C fun p2 w2 C => ?_
  refine ok_rdL C 1 rfl (x := f.2.2.2) rfl ?_
  have Hl := C.old H
  have C := C.addNil
  refine ok_appendO (s := ⟨none, 0, 0⟩) (xs := []) slt C (i := 0) rfl (by simp) (arr_src slt.under Hl (wds_one l)) (by simp; omega) (by have := H.2.1; have := H.2.2.1; simp; omega) fun r w3 C hr => ?_
  dsimp only [List.set, List.nil_append] at C
  refine ok_wrC C 2 [.int .i64 f.1, .int .i64 f.2.1, .int .i64 f.2.2.1, .slice r.a r.len r.cap] rfl (by simp) rfl rfl fun w4 C => ?_
  dsimp only [List.set] at C
  refine ok_rdL0 C 2 rfl (x := (f.1, f.2.1, f.2.2.1, r)) rfl ?_
  refine ok_wrC0 C 1 rfl rfl rfl fun w5 C => ?_
  dsimp only [List.set] at C
  refine ok_rdL0 C 1 rfl (x := (f.1, f.2.1, f.2.2.1, r)) rfl (ok_ret.2 ⟨rfl, rfl, rfl, C.ret (i := 0) rfl, C.below⟩)
/-- A form's words with another pixel, reckoned. -/
noncomputable def putR (f : Form) (l : List Int) (x y p : Int) : List Int :=
  l.set (plc f x y).1.toNat (IntKind.wrap .u32 (IntKind.wrap .u32 (at0 l (plc f x y).1 - shlI .u32 (pixF f l x y) (plc f x y).2.toNat) + shlI .u32 p (plc f x y).2.toNat))
theorem refput_in (f : Form) (l : List Int) (x y p : Int) (w : World) (hs : Sized f) (hi : Inside f x y) (hl : (l.length : Int) = st f * f.2.1) {B : Nat} (H : Own B w f.2.2.2 (wds l)) :
    Ok (f43_palaverref11_put f x y p) w fun _ w' => Own 0 w' f.2.2.2 (wds (putR f l x y p)) ∧ Keep (blkOf f.2.2.2) w w' := by
  unfold f43_palaverref11_put
  obtain ⟨e1, e2, hu0, hu1⟩ := plc_ref hs hi
  have hp := plc_in hs hi
  have hlen := H.1
  simp only [List.length_map] at hlen
  have hidx : (plc f x y).1.toNat < l.length := by omega
  obtain ⟨b, hb⟩ := own_block (k := .u32) H hidx
  have hget : l[(plc f x y).1.toNat]? = some (at0 l (plc f x y).1) := at0_get hp.1 (by omega)
  have C := Cx.one H
  refine ok_newL C fun p1 w1 C => ?_
  refine ok_rdL C 0 rfl (x := f.2.2.1) rfl ?_
  refine ok_rdL C 0 rfl (x := f.2.2.1) rfl ?_
  refine ok_rdL0 C 0 rfl (x := f) rfl ?_
  refine ok_callL C (stride2_spec f w1) (fun _ _ h => h.2) fun r w2 hr C => ?_
  obtain ⟨rfl, _⟩ := hr
  rw [e1, e2]
  refine ok_drawL C fun w3 C => ?_
  refine ok_rdL C 0 rfl (x := f.2.2.2) rfl ?_
  refine ok_rdL C 0 rfl (x := f.2.2.2) rfl ?_
  refine ok_ixO hb hp.1 (by omega) ?_
  refine ok_ldO C (i := 1) rfl hb hget ?_
  refine ok_rdL0 C 0 rfl (x := f) rfl ?_
  refine ok_bnd.2 (ok_cnt.2 ⟨hu0, ?_⟩)
  refine ok_callL C (get_spec f l x y w3 hs hi hl (C.arr (i := 1) rfl)) (fun _ _ h => h.2) fun r w4 hr C => ?_
  obtain ⟨rfl, _⟩ := hr
  refine ok_bnd.2 (ok_chkO C (i := 1) rfl hb hget ?_)
  refine ok_chkL C 0 rfl rfl (ok_chkL C 0 rfl rfl (ok_ret.2 ?_))
  refine ok_bnd.2 (ok_cnt.2 ⟨hu0, ?_⟩)
  refine ok_ixO hb hp.1 (by omega) ?_
  refine ok_wrO C (i := 1) rfl hb hidx fun w5 C => ?_
  dsimp only [List.set] at C
  exact ok_bnd.2 (ok_ret.2 (ok_ret.2 ⟨C.get (i := 1) rfl, C.keep⟩))
theorem ones_val {d : Int} (h : Dep d) : onesF d = ((2 ^ d.toNat : Nat) : Int) - 1 := by
  unfold Dep at h
  rcases h with h | h | h | h | h | h <;> subst h <;> decide
theorem andnot_ones {d : Int} (h : Dep d) {p : Int} (hp : 0 ≤ p ∧ p < 4294967296) : bAndNot .u32 p (onesF d) = 0 ↔ p ≤ onesF d := by
  have hdr := dep_rng h
  obtain ⟨n, rfl⟩ := Int.eq_ofNat_of_zero_le hp.1
  rw [bAndNot_bi, ones_val h]
  constructor
  · intro h0
    have : n < 2 ^ d.toNat := by
      refine Nat.lt_pow_two_of_testBit n fun k hk => ?_
      by_cases hk32 : k < 32
      · have hz : (ib (n : Int) &&& ~~~ib (onesF d)) = 0 := by
          apply BitVec.eq_of_toNat_eq
          have h1 : bi (ib (n : Int) &&& ~~~ib (onesF d)) = 0 := by rw [ones_val h]; exact h0
          unfold bi at h1
          simpa using h1
        have h2 : (ib (n : Int) &&& ~~~ib (onesF d)).getLsbD k = false := by rw [hz]; simp
        rw [BitVec.getLsbD_and, BitVec.getLsbD_not, ones_lsb h k hk32, decide_eq_false (show ¬ k < d.toNat by omega), decide_eq_true hk32, Bool.not_false, Bool.and_true, Bool.and_true, ib_lsb (Int.natCast_nonneg _) k hk32, Int.toNat_natCast] at h2
        exact h2
      · refine Nat.testBit_lt_two_pow ?_
        have h3 : 2 ^ 32 ≤ 2 ^ k := Nat.pow_le_pow_right (by decide) (by omega)
        omega
    omega
  · intro h0
    have hn : n < 2 ^ d.toNat := by omega
    have hz : (ib (n : Int) &&& ~~~ib (((2 ^ d.toNat : Nat) : Int) - 1)) = 0 := by
      refine bi_inj fun k hk => ?_
      rw [← ones_val h, BitVec.getLsbD_and, BitVec.getLsbD_not, ones_lsb h k hk, ib_lsb (Int.natCast_nonneg _) k hk, Int.toNat_natCast]
      by_cases hkd : k < d.toNat
      · simp [hkd]
      · have : n.testBit k = false := Nat.testBit_lt_two_pow (Nat.lt_of_lt_of_le hn (Nat.pow_le_pow_right (by decide) (by omega)))
        simp [this]
    rw [hz]; rfl
theorem put_eq {f : Form} {l : List Int} {x y p : Int} (hs : Sized f) (hi : Inside f x y) (hl : Wds l) (hp : 0 ≤ p ∧ p ≤ onesF f.2.2.1) : putR f l x y p = putL f l x y p := by
  unfold putR putL
  congr 1
  have hpl := place_rng hs.1 hs.2.1 hi.1
  have hdr := dep_rng hs.1
  have hov := ones_val hs.1
  obtain ⟨U, hU⟩ : ∃ U : Nat, (plc f x y).2.toNat = U := ⟨_, rfl⟩
  obtain ⟨D, hD⟩ : ∃ D : Nat, f.2.2.1.toNat = D := ⟨_, rfl⟩
  have hUD : U + D ≤ 32 := by have := hpl.2.2.2.1; simp only [plc] at hU; omega
  have hwr := at0_rng hl (plc f x y).1
  obtain ⟨W, hW⟩ := Int.eq_ofNat_of_zero_le hwr.1
  obtain ⟨P, rfl⟩ := Int.eq_ofNat_of_zero_le hp.1
  rw [hD] at hov
  have hP : P < 2 ^ D := by omega
  have hgr := pix_rng f l x y
  obtain ⟨G, hG⟩ := Int.eq_ofNat_of_zero_le hgr.1
  have hGb : ∀ k, G.testBit k = (decide (k < D) && W.testBit (U + k)) := fun k => by
    by_cases hk : k < 32
    · have h1 := pix_lsb (y := y) hs.1 hs.2.1 hi.1 hwr k hk
      rw [hG, ib_lsb (Int.natCast_nonneg _) k hk, Int.toNat_natCast, hD, hU] at h1
      rw [h1]
      by_cases hkD : k < D
      · rw [hW, ib_lsb (Int.natCast_nonneg _) _ (by omega), Int.toNat_natCast]
      · simp [hkD]
    · rw [decide_eq_false (show ¬ k < D by omega), Bool.false_and]
      refine Nat.testBit_lt_two_pow ?_
      have h3 : 2 ^ 32 ≤ 2 ^ k := Nat.pow_le_pow_right (by decide) (by omega)
      omega
  rw [hU, hW, hG]
  have hGD : G < 2 ^ D := Nat.lt_pow_two_of_testBit G fun k hk => by rw [hGb, decide_eq_false (show ¬ k < D by omega)]; rfl
  have hpow : 2 ^ U * 2 ^ D ≤ 2 ^ 32 := by rw [← Nat.pow_add]; exact Nat.pow_le_pow_right (by decide) hUD
  have hGU : G * 2 ^ U < 2 ^ 32 := by
    have := Nat.mul_lt_mul_of_pos_right hGD (Nat.two_pow_pos U)
    rw [Nat.mul_comm (2 ^ D)] at this
    omega
  have hPU : P * 2 ^ U < 2 ^ 32 := by
    have := Nat.mul_lt_mul_of_pos_right hP (Nat.two_pow_pos U)
    rw [Nat.mul_comm (2 ^ D)] at this
    omega
  have s1 : shlI .u32 (G : Int) U = ((G * 2 ^ U : Nat) : Int) := by
    unfold shlI
    rw [Nat.min_eq_left (show U ≤ IntKind.u32.bits by show U ≤ 32; omega), wrapU32]
    have : ((G : Int) * 2 ^ U) = ((G * 2 ^ U : Nat) : Int) := by simp
    rw [this]; omega
  have s2 : shlI .u32 (P : Int) U = ((P * 2 ^ U : Nat) : Int) := by
    unfold shlI
    rw [Nat.min_eq_left (show U ≤ IntKind.u32.bits by show U ≤ 32; omega), wrapU32]
    have : ((P : Int) * 2 ^ U) = ((P * 2 ^ U : Nat) : Int) := by simp
    rw [this]; omega
  -- the word's three parts
  have hsplit : W = 2 ^ U * (2 ^ D * (W / 2 ^ (U + D)) + G) + W % 2 ^ U := by
    refine Nat.eq_of_testBit_eq fun k => ?_
    rw [Nat.testBit_two_pow_mul_add _ (Nat.mod_lt _ (Nat.two_pow_pos U))]
    by_cases h1 : k < U
    · rw [if_pos h1, Nat.testBit_mod_two_pow, decide_eq_true h1, Bool.true_and]
    · rw [if_neg h1, Nat.testBit_two_pow_mul_add _ hGD]
      by_cases h2 : k - U < D
      · rw [if_pos h2, hGb, decide_eq_true h2, Bool.true_and]; congr 1; omega
      · rw [if_neg h2, Nat.testBit_div_two_pow]; congr 1; omega
  obtain ⟨A, hA⟩ : ∃ A, A = W % 2 ^ U := ⟨_, rfl⟩
  obtain ⟨Bq, hBq⟩ : ∃ Bq, Bq = W / 2 ^ (U + D) := ⟨_, rfl⟩
  have hAlt : A < 2 ^ U := by rw [hA]; exact Nat.mod_lt _ (Nat.two_pow_pos U)
  rw [← hA, ← hBq] at hsplit
  obtain ⟨N, hN⟩ : ∃ N, N = 2 ^ U * (2 ^ D * Bq + P) + A := ⟨_, rfl⟩
  have hBb : 2 ^ U * 2 ^ D * Bq + 2 ^ U * 2 ^ D ≤ 2 ^ 32 := by
    have hq : Bq < 2 ^ (32 - (U + D)) := by
      rw [hBq]
      refine (Nat.div_lt_iff_lt_mul (Nat.two_pow_pos _)).2 ?_
      rw [← Nat.pow_add, show 32 - (U + D) + (U + D) = 32 by omega]
      omega
    have h1 : 2 ^ U * 2 ^ D * (Bq + 1) ≤ 2 ^ U * 2 ^ D * 2 ^ (32 - (U + D)) := Nat.mul_le_mul_left _ hq
    rw [← Nat.pow_add, ← Nat.pow_add, show U + D + (32 - (U + D)) = 32 by omega, Nat.mul_add, Nat.mul_one] at h1
    rw [← Nat.pow_add]; omega
  have hNlt : N < 2 ^ 32 := by
    have h1 : 2 ^ U * (2 ^ D * Bq + P) + 2 ^ U ≤ 2 ^ U * (2 ^ D * Bq + 2 ^ D) := by
      rw [← Nat.mul_succ]; exact Nat.mul_le_mul_left _ (by omega)
    have h2 : 2 ^ U * (2 ^ D * Bq + 2 ^ D) = 2 ^ U * 2 ^ D * Bq + 2 ^ U * 2 ^ D := by rw [Nat.mul_add, Nat.mul_assoc]
    rw [h2] at h1
    generalize 2 ^ U * 2 ^ D * Bq + 2 ^ U * 2 ^ D = Z at h1 hBb
    generalize 2 ^ U * (2 ^ D * Bq + P) = Y at h1 hN
    omega
  have hsum : (W : Int) - ((G * 2 ^ U : Nat) : Int) + ((P * 2 ^ U : Nat) : Int) = (N : Int) := by
    have e1 : W = 2 ^ U * (2 ^ D * Bq) + G * 2 ^ U + A := by rw [hsplit, Nat.mul_add (2 ^ U), Nat.mul_comm G]
    have e2 : N = 2 ^ U * (2 ^ D * Bq) + P * 2 ^ U + A := by rw [hN, Nat.mul_add (2 ^ U), Nat.mul_comm P]
    omega
  rw [s1, s2]
  have hlhs : IntKind.wrap .u32 (IntKind.wrap .u32 ((W : Int) - ((G * 2 ^ U : Nat) : Int)) + ((P * 2 ^ U : Nat) : Int)) = (N : Int) := by
    rw [wrapU32, wrapU32]; omega
  rw [hlhs]
  refine int_ext (by omega) (by rw [bXor_bi]; exact bi_rng _) fun k hk => ?_
  rw [bXor_bi (W : Int), ib_bi, BitVec.getLsbD_xor, ib_lsb (Int.natCast_nonneg _) k hk, Int.toNat_natCast, ib_lsb (Int.natCast_nonneg _) k hk, Int.toNat_natCast, shl_lsb (by rw [bXor_bi]; exact (bi_rng _).1) U k (by omega) hk, bXor_bi, ib_bi, BitVec.getLsbD_xor]
  rw [hN, Nat.testBit_two_pow_mul_add _ hAlt]
  by_cases h1 : k < U
  · rw [if_pos h1, decide_eq_false (by omega), Bool.false_and, Bool.xor_false, hA, Nat.testBit_mod_two_pow, decide_eq_true h1, Bool.true_and]
  · rw [if_neg h1, decide_eq_true (by omega), Bool.true_and, Nat.testBit_two_pow_mul_add _ hP, ib_lsb (Int.natCast_nonneg _) _ (by omega), ib_lsb (Int.natCast_nonneg _) _ (by omega), Int.toNat_natCast, Int.toNat_natCast, hGb]
    by_cases h2 : k - U < D
    · rw [if_pos h2, decide_eq_true h2, Bool.true_and, show U + (k - U) = k by omega]
      cases W.testBit k <;> cases P.testBit (k - U) <;> rfl
    · have hPk : P.testBit (k - U) = false := Nat.testBit_lt_two_pow (Nat.lt_of_lt_of_le hP (Nat.pow_le_pow_right (by decide) (by omega)))
      rw [if_neg h2, decide_eq_false h2, Bool.false_and, hPk, Bool.xor_false, Bool.xor_false, hBq, Nat.testBit_div_two_pow]
      congr 1; omega
theorem refput_spec (f : Form) (l : List Int) (x y p : Int) (w : World) (hp : 0 ≤ p ∧ p < 4294967296) (H : Arr w.heap.size w f.2.2.2 (wds l)) (hl : Wds l) :
    Ok (f19_palaverref11_Put f x y p) w fun r w' => Below w.heap.size w w' ∧
      (if Good f ∧ Inside f x y ∧ bAndNot .u32 p (onesF f.2.2.1) = 0 then r.2 = 0 ∧ r.1.1 = f.1 ∧ r.1.2.1 = f.2.1 ∧ r.1.2.2.1 = f.2.2.1 ∧ Own w.heap.size w' r.1.2.2.2 (wds (putL f l x y p))
       else r = (zf, if Good f then 1 else 110)) := by
  unfold f19_palaverref11_Put
  have C := Cx.nil No w
  refine ok_newL C fun p1 w1 C => ok_newL C fun p2 w2 C => ?_
  refine ok_rdL0 C 1 rfl (x := f) rfl ?_
  refine ok_callL C (refpixel_spec f l x y w2 (C.old H)) (fun _ _ h => h.2) fun r w3 hr C => ?_
  obtain ⟨rfl, _⟩ := hr
  unfold pixS
  by_cases hg : Good f
  rotate_left
  · simp only [if_neg hg, if_neg (fun h : Good f ∧ Inside f x y ∧ bAndNot .u32 p (onesF f.2.2.1) = 0 => hg h.1)]
    refine ok_true (by simp) (ok_wrC0 C 0 rfl rfl rfl fun w4 C => ?_)
    dsimp only [List.set] at C
    exact ok_rdL0 C 0 rfl (x := zf) rfl (ok_ret.2 ⟨C.below, rfl⟩)
  by_cases hi : Inside f x y
  rotate_left
  · simp only [if_pos hg, if_neg hi, if_neg (fun h : Good f ∧ Inside f x y ∧ bAndNot .u32 p (onesF f.2.2.1) = 0 => hi h.2.1)]
    refine ok_true (by simp) (ok_wrC0 C 0 rfl rfl rfl fun w4 C => ?_)
    dsimp only [List.set] at C
    exact ok_rdL0 C 0 rfl (x := zf) rfl (ok_ret.2 ⟨C.below, rfl⟩)
  simp only [if_pos hg, if_pos hi]
  refine ok_false (by simp) ?_
  refine ok_rdL C 1 rfl (x := f.2.2.1) rfl ?_
  refine ok_bnd.2 (ok_mono (all_spec _ hg.1.1 w3) ?_)
  rintro r w3 ⟨rfl, rfl⟩
  have hao := andnot_ones hg.1.1 hp
  by_cases hpo : p ≤ onesF f.2.2.1
  rotate_left
  · simp only [if_neg (fun h : Good f ∧ Inside f x y ∧ bAndNot .u32 p (onesF f.2.2.1) = 0 => hpo (hao.1 h.2.2))]
    refine ok_true (by simp; omega) (ok_wrC0 C 0 rfl rfl rfl fun w4 C => ?_)
    dsimp only [List.set] at C
    exact ok_rdL0 C 0 rfl (x := zf) rfl (ok_ret.2 ⟨C.below, rfl⟩)
  simp only [if_pos (show Good f ∧ Inside f x y ∧ bAndNot .u32 p (onesF f.2.2.1) = 0 from ⟨hg, hi, hao.2 hpo⟩)]
  refine ok_false (by simp; omega) ?_
  refine ok_rdL0 C 1 rfl (x := f) rfl ?_
  have hgl := good_len hg H
  refine ok_bnd.2 (ok_mono (like_spec f l w3 (C.old H) hgl.2) ?_)
  rintro ⟨r1, r2, r3, R⟩ w4 ⟨e1, e2, e3, O, B⟩
  simp only at e1 e2 e3 O
  subst e1 e2 e3
  have C := C.addOwn B O
  refine ok_newWrL C rfl rfl fun p11 w5 C => ?_
  refine ok_rdL0 C 0 rfl (x := (f.1, f.2.1, f.2.2.1, R)) rfl ?_
  refine ok_callO C (i := 1) rfl (refput_in (f.1, f.2.1, f.2.2.1, R) l x y p w5 hg.1 hi hgl.1 (C.get (i := 1) rfl)) (fun _ _ h => h) fun _ w6 _ C => ?_
  dsimp only [List.set] at C
  refine ok_rdL0 C 0 rfl (x := (f.1, f.2.1, f.2.2.1, R)) rfl ?_
  refine ok_wrC0 C 2 rfl rfl rfl fun w7 C => ?_
  dsimp only [List.set] at C
  refine ok_rdL0 C 2 rfl (x := (f.1, f.2.1, f.2.2.1, R)) rfl (ok_ret.2 ⟨C.below, rfl, rfl, rfl, rfl, ?_⟩)
  have := C.ret (i := 1) rfl
  rw [← put_eq hg.1 hi hl ⟨hp.1, hpo⟩]
  exact this
end Go.Proofs.Ytpgalllceejpnaa
