/-
  A number's digits one by one. No program in sight.
-/
import Derived.Test.YtoekfjgikicclaaL14
import Derived.Test.YtoekfjgikicclaaShR
set_option linter.unusedVariables false
set_option linter.unusedSimpArgs false
namespace Go.Sh
set_option linter.unusedVariables false
theorem dgs_at {b : Nat} (hb : 2 ≤ b) (n : Nat) : ∀ (i : Nat), ((dgs b n)[i]?).getD 0 = ((n / b ^ i % b : Nat) : Int) := by
  induction n using Nat.strongRecOn with
  | ind n ih =>
    intro i
    by_cases hn : n = 0
    · subst hn; rw [dgs_zero]; simp
    · rw [dgs_pos hb hn]
      cases i with
      | zero => simp
      | succ i =>
        rw [List.getElem?_cons_succ, ih _ (Nat.div_lt_self (by omega) (by omega)), Nat.div_div_eq_div_mul, Nat.pow_succ, Nat.mul_comm b]
theorem dgs_get {b : Nat} (hb : 2 ≤ b) {n i : Nat} (h : i < (dgs b n).length) : (dgs b n)[i]? = some ((n / b ^ i % b : Nat) : Int) := by
  have := dgs_at hb n i
  rw [List.getElem?_eq_getElem h] at this ⊢
  simp only [Option.getD_some] at this
  rw [this]
theorem pow_len {b : Nat} (hb : 2 ≤ b) {n i : Nat} (h : (dgs b n).length ≤ i) : n / b ^ i = 0 := by
  have h1 := lt_dgs hb n
  have h2 : b ^ (dgs b n).length ≤ b ^ i := Nat.pow_le_pow_right (by omega) h
  exact Nat.div_eq_of_lt (by omega)
/-- Digits that are a number's, so many that it has no more. -/
theorem vl_digits {b : Nat} (hb : 2 ≤ b) {l : List Int} {N : Nat} (h : ∀ i, i < l.length → l[i]? = some ((N / b ^ i % b : Nat) : Int)) : ∀ i, i ≤ l.length → vl (b : Int) (l.take i) = ((N % b ^ i : Nat) : Int)
  | 0, _ => by simp [vl, Nat.mod_one]
  | i + 1, hi => by
    rw [vl_take_succ (h i (by omega)), vl_digits hb h i (by omega), Nat.mod_pow_succ]
    simp
theorem vl_digits_all {b : Nat} (hb : 2 ≤ b) {l : List Int} {N : Nat} (h : ∀ i, i < l.length → l[i]? = some ((N / b ^ i % b : Nat) : Int)) (hN : N < b ^ l.length) : vl (b : Int) l = N := by
  have := vl_digits hb h l.length (Nat.le_refl _)
  rw [List.take_of_length_le (Nat.le_refl _), Nat.mod_eq_of_lt hN] at this
  exact this
theorem vl_take_dgs {b : Nat} (hb : 2 ≤ b) (n i : Nat) (hi : i ≤ (dgs b n).length) : vl (b : Int) ((dgs b n).take i) = ((n % b ^ i : Nat) : Int) :=
  vl_digits hb (fun i hi => dgs_get hb hi) i hi
/-- Two digits, shifted, as the number is. -/
theorem shift_digit {M p : Nat} (hp : p < 32) : (M % (4294967296 * 4294967296)) / 2 ^ p % 4294967296 = M / 2 ^ p % 4294967296 := by
  have e1 : 4294967296 * 4294967296 = 2 ^ p * 2 ^ (64 - p) := by rw [← Nat.pow_add, show p + (64 - p) = 64 by omega]
  rw [e1, Nat.mod_mul_right_div_self]
  refine Nat.mod_mod_of_dvd _ ?_
  exact ⟨2 ^ (32 - p), by rw [show (4294967296 : Nat) = 2 ^ 32 from rfl, ← Nat.pow_add]; congr 1; omega⟩
theorem nat_div_mod (A p : Nat) : (A : Int) / (2 : Int) ^ p % 4294967296 = ((A / 2 ^ p % 4294967296 : Nat) : Int) := by
  rw [Int.natCast_emod, Int.natCast_ediv, Int.natCast_pow]; rfl
theorem nat_mul_mod (A p : Nat) : (A : Int) * (2 : Int) ^ p % 4294967296 = ((A * 2 ^ p % 4294967296 : Nat) : Int) := by
  rw [Int.natCast_emod, Int.natCast_mul, Int.natCast_pow]; rfl
theorem two_digits (M b : Nat) : M % b + b * (M / b % b) = M % (b * b) := (Nat.mod_mul).symm
end Go.Sh
namespace Go.Proofs.Ytoekfjgikicclaa
set_option linter.unusedVariables false
open Go.Sh Go.RowKit
set_option maxRecDepth 100000
theorem bl_word {n len t k : Nat} (ht : n / BW ^ len = t) (h0 : t ≠ 0) (h : BL t k) : BL n (k + 32 * len) := by
  refine bl_shift (s := 32 * len) (q := t) ?_ h0 h
  rw [Nat.pow_mul, ← ht]
/-- The word that stands last. -/
theorem top_word {n : Nat} (hn : n ≠ 0) : ∃ m t, (dw n).length = m + 1 ∧ (dw n)[m]? = some ((t : Nat) : Int) ∧ t ≠ 0 ∧ t < 4294967296 ∧ n / BW ^ m = t := by
  have h1 : (dw n).length ≠ 0 := by
    intro h
    have := pow_len hBW (n := n) (i := 0) (by unfold dw at h; omega)
    rw [Nat.pow_zero, Nat.div_one] at this
    exact hn this
  obtain ⟨m, hm⟩ : ∃ m, (dw n).length = m + 1 := ⟨(dw n).length - 1, by omega⟩
  have h2 := dgs_get hBW (n := n) (i := m) (by unfold dw at hm; omega)
  have h3 : n / BW ^ m < BW := by
    have := lt_dgs hBW n
    rw [show (dgs BW n).length = m + 1 from hm, Nat.pow_succ, Nat.mul_comm] at this
    exact Nat.div_lt_of_lt_mul (by rw [Nat.mul_comm]; exact this)
  rw [Nat.mod_eq_of_lt h3] at h2
  refine ⟨m, n / BW ^ m, hm, h2, ?_, h3, rfl⟩
  intro h
  have hc : (dw n).getLast? ≠ some 0 := cn_dgs hBW n
  rw [List.getLast?_eq_getElem?, hm, Nat.add_sub_cancel, show (dw n)[m]? = _ from h2, h] at hc
  exact hc rfl
theorem long_spec {B : Nat} {w : World} {s : Sl} {n : Nat} (H : NN B w s n) (ls : s.len ≤ 1000000000) : Ok (f76_largeint_nat_long s) w fun r w' => w' = w ∧ ∃ k : Nat, r = k ∧ BL n k := by
  unfold f76_largeint_nat_long
  refine ok_bnd.2 (ok_mono (trim_spec H (dw_dg n)) ?_)
  rintro x w1 ⟨rfl, hx, hxl⟩
  rw [vw_dw, Int.toNat_natCast] at hx
  have ex := hx.len
  by_cases h0 : n = 0
  · subst h0
    have : (dw 0).length = 0 := by unfold dw; rw [dgs_zero]; rfl
    refine ok_true (by simp; omega) (ok_ret.2 ⟨rfl, 0, rfl, by decide, by simp, by simp⟩)
  · obtain ⟨m, t, hm, ht, ht0, htl, hq⟩ := top_word h0
    refine ok_false (by simp; omega) ?_
    have e1 : IntKind.wrap .i64 ((x.len : Int) - 1) = (m : Int) := by rw [wrapI_in (by omega)]; omega
    rw [e1]
    refine ok_get hx (by omega) (n := (t : Int)) (by rw [Int.toNat_natCast]; exact ht) ?_
    refine ok_bnd.2 (ok_mono (len32_spec (x := (t : Int)) ⟨by omega, by omega⟩) ?_)
    rintro _ w' ⟨rfl, k, rfl, hk, hb⟩
    rw [Int.toNat_natCast] at hb
    refine ok_ret.2 ⟨rfl, k + 32 * m, ?_, bl_word hq ht0 hb⟩
    rw [wrapI_in (n := 32 * (m : Int)) (by omega), wrapI_in (by omega)]; omega
theorem bl_pos {n k : Nat} (h : BL n k) : 0 < k ↔ n ≠ 0 := by
  constructor
  · intro hk hn; have := h.2.2 hn; omega
  · intro hn
    rcases Nat.eq_zero_or_pos k with rfl | h'
    · have := h.1; simp at this; omega
    · exact h'
theorem right_spec {B : Nat} {w : World} {x : Sl} {n : Nat} {by_ : Int} (hx : NN B w x n) (lx : x.len ≤ 1000000000) (h0 : 0 ≤ by_) (h1 : by_ ≤ 1000000000) :
    Ok (f71_largeint_nat_right x by_) w fun r w' => Below w.heap.size w w' ∧ NO w.heap.size w' r.1 (n / 2 ^ by_.toNat) ∧ r.2 = decide (n % 2 ^ by_.toNat ≠ 0) := by
  unfold f71_largeint_nat_right
  obtain ⟨W, hW⟩ : ∃ W : Nat, by_ / 32 = (W : Int) := ⟨(by_ / 32).toNat, by omega⟩
  obtain ⟨p, hp⟩ : ∃ p : Nat, by_ % 32 = (p : Int) := ⟨(by_ % 32).toNat, by omega⟩
  have hp32 : p < 32 := by omega
  have ew : IntKind.wrap .i64 (IntKind.wrap .u64 (Int.tdiv by_ (32 : Int))) = (W : Int) := by
    rw [Int.tdiv_eq_ediv_of_nonneg h0, hW, wrapU_in (by omega), wrapI_in (by omega)]
  have ep : Int.tmod by_ (32 : Int) = (p : Int) := by rw [Int.tmod_eq_emod_of_nonneg h0, hp]
  have hby : by_.toNat = 32 * W + p := by omega
  have ex := hx.len
  rw [ew, ep, hby]
  have hpw : 2 ^ (32 * W + p) = BW ^ W * 2 ^ p := by rw [Nat.pow_add, Nat.pow_mul]
  have hp0 : 0 < 2 ^ p := Nat.two_pow_pos p
  have hW0 : 0 < BW ^ W := Nat.pow_pos (by decide)
  have hnl := lt_dgs hBW n
  by_cases hge : (dw n).length ≤ W
  · refine ok_true (by simp only [ge_iff_le, decide_eq_true_eq]; omega) (ok_ret.2 ⟨Below.refl _ _, ?_, ?_⟩)
    · have : n / 2 ^ (32 * W + p) = 0 := by rw [hpw, ← Nat.div_div_eq_div_mul, pow_len hBW hge, Nat.zero_div]
      rw [this]
      unfold NO dw
      rw [dgs_zero]
      exact ⟨rfl, Nat.le_refl _, Nat.zero_le _, .inl ⟨rfl, rfl⟩⟩
    · have hlt : n < 2 ^ (32 * W + p) := by
        rw [hpw]
        have h2 : BW ^ (dw n).length ≤ BW ^ W := Nat.pow_le_pow_right (by decide) hge
        have h3 : BW ^ W * 1 ≤ BW ^ W * 2 ^ p := Nat.mul_le_mul_left _ hp0
        unfold dw at h2
        omega
      rw [Nat.mod_eq_of_lt hlt]
      show decide _ = decide _
      rw [decide_eq_decide]
      constructor
      · intro h hn; subst hn; unfold dw at ex; rw [dgs_zero] at ex; simp at ex; omega
      · intro hn
        obtain ⟨m, t, hm, _⟩ := top_word hn
        omega
  refine ok_false (by simp only [ge_iff_le, decide_eq_false_iff_not]; omega) ?_
  refine ok_bnd.2 (ok_slc (by simp) (by simp) (by simp; have := hx.2.1; omega) ?_)
  simp only [Option.getD_some, Option.getD_none, Int.toNat_zero, Int.toNat_natCast]
  have hc := arr_cut hx (lo := 0) (hi := W) (Nat.zero_le _) (by omega)
  rw [List.drop_zero, Nat.sub_zero, nums, ← List.map_take] at hc
  refine ok_bnd.2 (ok_mono (trim_spec hc ((dw_dg n).take W)) ?_)
  rintro r2 w2 ⟨rfl, hr2, hl2⟩
  have hlow : vw ((dw n).take W) = ((n % BW ^ W : Nat) : Int) := vl_take_dgs hBW n W (by unfold dw at hge; omega)
  rw [hlow, Int.toNat_natCast] at hr2
  refine ok_bnd.2 (ok_mono (long_spec hr2 (by simp only [cut] at hl2; omega)) ?_)
  rintro _ w3 ⟨rfl, k, rfl, hk⟩
  -- the word in which the shift ends
  have hxW : (dw n)[W]? = some ((n / BW ^ W % BW : Nat) : Int) := dgs_get hBW (by unfold dw at hge; omega)
  refine ok_bnd.2 (ok_mono (Q := fun t w' => w' = w3 ∧ t = decide (n % 2 ^ (32 * W + p) ≠ 0)) ?_ ?_)
  · have hmod : n % 2 ^ (32 * W + p) = n % BW ^ W + BW ^ W * (n / BW ^ W % 2 ^ p) := by rw [hpw]; exact Nat.mod_mul
    by_cases hk0 : 0 < k
    · refine ok_true (by simp only [gt_iff_lt, decide_eq_true_eq]; omega) (ok_ret.2 ⟨rfl, ?_⟩)
      have := (bl_pos hk).1 hk0
      symm; rw [decide_eq_true_eq, hmod]
      exact fun h => this (Nat.add_eq_zero_iff.1 h).1
    · refine ok_false (by simp only [gt_iff_lt, decide_eq_false_iff_not]; omega) ?_
      have hz : n % BW ^ W = 0 := by
        rcases Nat.eq_zero_or_pos (n % BW ^ W) with h | h
        · exact h
        · exact absurd ((bl_pos hk).2 (by omega)) hk0
      refine ok_get hx (by omega) (n := ((n / BW ^ W % BW : Nat) : Int)) (by rw [Int.toNat_natCast]; exact hxW) ?_
      rw [wrapU_in (n := 32 - (p : Int)) (by omega)]
      refine ok_bnd.2 (ok_cnt.2 ⟨by omega, ok_ret.2 ⟨rfl, ?_⟩⟩)
      rw [hmod, hz, Nat.zero_add]
      have hmm : n / BW ^ W % BW % 2 ^ p = n / BW ^ W % 2 ^ p := Nat.mod_mod_of_dvd _ ⟨2 ^ (32 - p), by rw [← Nat.pow_add, show p + (32 - p) = 32 by omega]⟩
      generalize n / BW ^ W % BW = v at *
      rw [← hmm]
      have hsh : shlI .u32 (v : Int) (32 - (p : Int)).toNat = ((v % 2 ^ p * 2 ^ (32 - p) : Nat) : Int) := by
        have e1 : (32 - (p : Int)).toNat = 32 - p := by omega
        rw [e1]
        unfold shlI
        have e2 : v * 2 ^ (32 - p) % 4294967296 = v % 2 ^ p * 2 ^ (32 - p) := by
          have : 4294967296 = 2 ^ p * 2 ^ (32 - p) := by rw [← Nat.pow_add, show p + (32 - p) = 32 by omega]
          rw [this, Nat.mul_mod_mul_right]
        rw [← e2]
        have hs : IntKind.bits .u32 = 32 := rfl
        simp only [hs, Nat.min_eq_left (show 32 - p ≤ 32 by omega), wrapU32]
        exact nat_mul_mod _ _
      rw [hsh]
      have h2p : 0 < 2 ^ (32 - p) := Nat.two_pow_pos _
      by_cases hv : v % 2 ^ p = 0
      · rw [hv]; simp
      · have h3 : v % 2 ^ p * 2 ^ (32 - p) ≠ 0 := Nat.mul_ne_zero hv (by omega)
        have h4 : BW ^ W * (v % 2 ^ p) ≠ 0 := Nat.mul_ne_zero (by omega) hv
        have h5 : 0 < p := by
          rcases Nat.eq_zero_or_pos p with h | h
          · subst h; simp [Nat.mod_one] at hv
          · exact h
        have h6 : ((((v % 2 ^ p * 2 ^ (32 - p) : Nat) : Int)) != 0) = true := by simp only [bne_iff_ne, ne_eq]; omega
        rw [h6]
        simp only [cond_true]
        rw [decide_eq_decide]
        constructor
        · intro _; exact h4
        · intro _; omega
  rintro b7 w4 ⟨rfl, rfl⟩
  have e0 : IntKind.wrap .i64 ((x.len : Int) - (W : Int)) = (x.len : Int) - (W : Int) := wrapI_in (by omega)
  rw [e0]
  refine ok_makeN slt50 (Cx.nil No w4) (by omega) (by omega) (by omega) fun v w5 hv ⟨bl, hb⟩ C => ?_
  have hz : ((x.len : Int) - (W : Int)).toNat = (dw n).length - W := by omega
  rw [hz] at C hv
  refine ok_loop (fun (q : Int) w' => ∃ out, Cx No w4 w' [.own v (nums .u32 out)] ∧ out.length = (dw n).length - W ∧ DW out ∧ ∃ i : Nat, q = i ∧ i ≤ out.length ∧ ∀ j, j < i → out[j]? = some ((n / 2 ^ (32 * W + p) / BW ^ j % BW : Nat) : Int))
    (fun q _ => ((dw n).length - W - q).toNat) ?_ _ _ ⟨_, C, by simp, Dg.zeros (by decide) _, 0, rfl, Nat.zero_le _, fun j hj => by omega⟩
  rintro q w6 ⟨out, C, hl, hd, i, rfl, hi, hv1⟩
  by_cases hlt : i < out.length
  · refine ok_true (by simp only [decide_eq_true_eq]; omega) ?_
    have e1 : IntKind.wrap .i64 ((W : Int) + (i : Int)) = ((W + i : Nat) : Int) := by rw [wrapI_in (by omega)]; omega
    have e2 : IntKind.wrap .i64 (((W + i : Nat) : Int) + 1) = ((W + i + 1 : Nat) : Int) := by rw [wrapI_in (by omega)]; omega
    rw [e1, e2]
    have hx1 : (dw n)[W + i]? = some ((n / BW ^ (W + i) % BW : Nat) : Int) := dgs_get hBW (by unfold dw at hl; omega)
    have hd1 : n / BW ^ (W + i) % BW < 4294967296 := Nat.mod_lt _ (by decide)
    refine ok_get (C.old hx.size) (by omega) (n := ((n / BW ^ (W + i) % BW : Nat) : Int)) (by rw [Int.toNat_natCast]; exact hx1) ?_
    -- the two words as one number
    refine ok_bnd.2 (ok_mono (Q := fun t w' => w' = w6 ∧ t = ((n / BW ^ (W + i) % (4294967296 * 4294967296) : Nat) : Int)) ?_ ?_)
    · have htd := two_digits (n / BW ^ (W + i)) 4294967296
      rw [Nat.div_div_eq_div_mul] at htd
      by_cases hin : W + i + 1 < (dw n).length
      · refine ok_true (by simp only [decide_eq_true_eq]; omega) ?_
        have hx2 : (dw n)[W + i + 1]? = some ((n / BW ^ (W + i + 1) % BW : Nat) : Int) := dgs_get hBW (by unfold dw at hin; omega)
        have hd2 : n / BW ^ (W + i + 1) % BW < 4294967296 := Nat.mod_lt _ (by decide)
        refine ok_get (C.old hx.size) (by omega) (n := ((n / BW ^ (W + i + 1) % BW : Nat) : Int)) (by rw [Int.toNat_natCast]; exact hx2) (ok_ret.2 ⟨rfl, ?_⟩)
        rw [wrapU_in (n := ((n / BW ^ (W + i) % BW : Nat) : Int)) (by omega), wrapU_in (n := ((n / BW ^ (W + i + 1) % BW : Nat) : Int)) (by omega)]
        rw [bOr_comm, word_up ⟨by omega, by omega⟩ ⟨by omega, by omega⟩, ← htd]
        rw [Nat.pow_succ]
        show 4294967296 * ((n / (BW ^ (W + i) * 4294967296) % 4294967296 : Nat) : Int) + ((n / BW ^ (W + i) % 4294967296 : Nat) : Int) = _
        omega
      · refine ok_false (by simp only [decide_eq_false_iff_not]; omega) (ok_ret.2 ⟨rfl, ?_⟩)
        rw [wrapU_in (n := ((n / BW ^ (W + i) % BW : Nat) : Int)) (by omega), ← htd]
        have : n / (BW ^ (W + i) * 4294967296) = 0 := by
          have := pow_len hBW (n := n) (i := W + i + 1) (by unfold dw at hin; omega)
          rw [Nat.pow_succ] at this; exact this
        rw [this]
        simp
    rintro _ w7 ⟨rfl, rfl⟩
    refine ok_bnd.2 (ok_cnt.2 ⟨by omega, ?_⟩)
    rw [Int.toNat_natCast]
    refine ok_ixO hb (by omega) (by omega) ?_
    rw [Int.toNat_natCast]
    have hval : IntKind.wrap .u32 (shrI .u64 ((n / BW ^ (W + i) % (4294967296 * 4294967296) : Nat) : Int) p) = ((n / 2 ^ (32 * W + p) / BW ^ i % BW : Nat) : Int) := by
      have := shift_digit (M := n / BW ^ (W + i)) hp32
      rw [shr_eq .u64 _ p (by show p ≤ 64; omega), wrapU32]
      have e3 : n / 2 ^ (32 * W + p) / BW ^ i = n / BW ^ (W + i) / 2 ^ p := by
        rw [hpw, Nat.div_div_eq_div_mul, Nat.div_div_eq_div_mul, Nat.pow_add]
        congr 1
        grind
      rw [e3]
      show _ = ((n / BW ^ (W + i) / 2 ^ p % 4294967296 : Nat) : Int)
      rw [← this]
      exact nat_div_mod _ _
    rw [hval]
    refine ok_wrO C (i := 0) rfl hb (by omega) fun w8 C8 => ok_ret.2 ⟨⟨_, C8, by simp [hl], hd.set _ (by omega) (by have := Nat.mod_lt (n / 2 ^ (32 * W + p) / BW ^ i) (show BW > 0 by decide); omega), i + 1, ?_, by simp; omega, ?_⟩, ?_⟩
    · rw [wrapI_in (by omega)]; simp
    · intro j hj
      by_cases hji : j = i
      · subst hji
        rw [List.getElem?_set_self (by omega)]
      · rw [List.getElem?_set_ne (by omega)]
        exact hv1 j (by omega)
    · rw [wrapI_in (by omega)]; omega
  · have hie : i = out.length := by omega
    subst hie
    refine ok_false (by simp only [decide_eq_false_iff_not]; omega) ?_
    refine ok_bnd.2 (ok_bnd.2 (ok_mono (trim_own (C.ret (i := 0) rfl) hd) ?_))
    rintro r w5 ⟨rfl, hr, _⟩
    have hvv : vl (BW : Int) out = ((n / 2 ^ (32 * W + p) : Nat) : Int) := by
      refine vl_digits_all hBW (fun j hj => hv1 j hj) ?_
      have : n / BW ^ W < BW ^ out.length := by
        refine Nat.div_lt_of_lt_mul ?_
        rw [← Nat.pow_add, hl, show W + ((dw n).length - W) = (dw n).length by omega]
        exact hnl
      rw [hpw, ← Nat.div_div_eq_div_mul]
      exact Nat.lt_of_le_of_lt (Nat.div_le_self _ _) this
    rw [vw, hvv, Int.toNat_natCast] at hr
    exact ok_ret.2 (ok_ret.2 ⟨C.below, hr, rfl⟩)
end Go.Proofs.Ytoekfjgikicclaa
