/-
  Part of the proof: L16. It states what the functions do; no further condition.
-/
import Derived.Test.YtoekfjgikicclaaL15
import Derived.Test.YtoekfjgikicclaaShS
set_option linter.unusedVariables false
set_option linter.unusedSimpArgs false
namespace Go.Proofs.Ytoekfjgikicclaa
set_option linter.unusedVariables false
open Go.Sh Go.RowKit
set_option maxRecDepth 100000
/-! ### Numbers without a sign: quotient, and what is left -/
theorem below_chain {w w1 w2 : World} (h1 : Below w.heap.size w w1) (h2 : Below w1.heap.size w1 w2) : Below w.heap.size w w2 :=
  ((Keep.of_size h1).trans (Keep.of_size h2) (fun _ h => h.elim)).all
theorem NO.zero (B : Nat) (w : World) : NO B w ⟨none, 0, 0⟩ 0 := by
  unfold NO dw; rw [dgs_zero]; exact ⟨rfl, Nat.le_refl _, Nat.zero_le _, .inl ⟨rfl, rfl⟩⟩
theorem NO.lower {B B' : Nat} {w : World} {s : Sl} {n : Nat} (h : NO B w s n) (hB : B' ≤ B) : NO B' w s n := own_lower (show Own B w s (nums .u32 (dw n)) from h) hB
theorem dw_len_mono {n m : Nat} (h : m ≤ n) : (dw m).length ≤ (dw n).length :=
  dgs_length hBW (Nat.lt_of_le_of_lt h (lt_dgs hBW n))
theorem lg_one {m k t len : Nat} (ht : m / BW ^ len = t) (hm : m < BW ^ (len + 1)) (ht0 : t ≠ 0) (hk : k ≤ 32) (hb : BL t k) : (dw (m * 2 ^ (32 - k))).length = len + 1 ∧ ∃ v : Nat, (dw (m * 2 ^ (32 - k)))[len]? = some ((v : Nat) : Int) ∧ 2147483648 ≤ v ∧ 2147483648 * BW ^ len ≤ m * 2 ^ (32 - k) ∧ 32 - k ≤ 31 := by
  have hk1 : 1 ≤ k := by
    rcases Nat.eq_zero_or_pos k with rfl | h
    · have := hb.1; simp at this; omega
    · exact h
  have hp : 0 < 2 ^ (32 - k) := Nat.two_pow_pos _
  have hP : 0 < BW ^ len := Nat.pow_pos (by decide)
  have hdm := Nat.div_add_mod m (BW ^ len)
  rw [ht] at hdm
  have hml := Nat.mod_lt m hP
  generalize m % BW ^ len = rr at hdm hml
  have h1 : 2 ^ (k - 1) ≤ t := hb.2.1 ht0
  have h2 : t + 1 ≤ 2 ^ k := hb.1
  have e31 : 2 ^ (k - 1) * 2 ^ (32 - k) = 2147483648 := by rw [← Nat.pow_add, show k - 1 + (32 - k) = 31 by omega]
  have e32 : 2 ^ k * 2 ^ (32 - k) = 4294967296 := by rw [← Nat.pow_add, show k + (32 - k) = 32 by omega]
  have lo : 2147483648 * BW ^ len ≤ m * 2 ^ (32 - k) := by
    have a1 : BW ^ len * 2 ^ (k - 1) ≤ m := Nat.le_trans (Nat.mul_le_mul_left _ h1) (by omega)
    have a2 := Nat.mul_le_mul_right (2 ^ (32 - k)) a1
    rw [Nat.mul_assoc, e31, Nat.mul_comm] at a2
    exact a2
  have hi : m * 2 ^ (32 - k) < BW ^ (len + 1) := by
    have a1 : m < BW ^ len * 2 ^ k := Nat.lt_of_lt_of_le (show m < BW ^ len * (t + 1) by rw [Nat.mul_add, Nat.mul_one]; omega) (Nat.mul_le_mul_left _ h2)
    have a2 := Nat.mul_lt_mul_of_pos_right a1 hp
    rw [Nat.mul_assoc, e32] at a2
    rw [Nat.pow_succ]; exact a2
  have hl1 : (dw (m * 2 ^ (32 - k))).length ≤ len + 1 := dgs_length hBW hi
  have hl2 : len < (dw (m * 2 ^ (32 - k))).length := by
    rcases Nat.lt_or_ge len (dw (m * 2 ^ (32 - k))).length with h | h
    · exact h
    · have := pow_len hBW (n := m * 2 ^ (32 - k)) (i := len) h
      have h5 := Nat.lt_of_div_eq_zero hP this
      omega
  have hlen : (dw (m * 2 ^ (32 - k))).length = len + 1 := by omega
  refine ⟨hlen, m * 2 ^ (32 - k) / BW ^ len % BW, dgs_get hBW (by unfold dw at hl2; exact hl2), ?_, lo, by omega⟩
  have h6 : 2147483648 ≤ m * 2 ^ (32 - k) / BW ^ len := (Nat.le_div_iff_mul_le hP).2 lo
  have h7 : m * 2 ^ (32 - k) / BW ^ len < BW := Nat.div_lt_of_lt_mul (by rw [← Nat.pow_succ]; exact hi)
  rw [Nat.mod_eq_of_lt h7]; exact h6
theorem vl_drop_zero {b : Int} (hb : 0 < b) {l : List Int} {k : Nat} (hd : Dg b l) (h : vl b l < b ^ k) (hk : k ≤ l.length) : vl b (l.drop k) = 0 ∧ vl b (l.take k) = vl b l := by
  have e := vl_drop_take (b := b) k hk
  have h1 := vl_nonneg (b := b) (by omega) (hd.take k)
  have h2 := vl_nonneg (b := b) (by omega) (hd.drop k)
  have hp : 0 < b ^ k := Int.pow_pos hb
  have h3 : vl b (l.drop k) = 0 := by
    rcases Int.lt_or_le 0 (vl b (l.drop k)) with h0 | h0
    · have : b ^ k * 1 ≤ b ^ k * vl b (l.drop k) := Int.mul_le_mul_of_nonneg_left (by omega) (by omega)
      omega
    · omega
  rw [h3, Int.mul_zero] at e
  exact ⟨h3, by omega⟩
theorem Cx.base {w w1 w' : World} {M : List It} (D : Cx No w1 w' M) (hB : Below w.heap.size w w1) : Cx No w w' M := by
  have := Cx.join ((Cx.nil No w).call hB) D
  rwa [List.append_nil] at this
theorem div_spec {B B' : Nat} {w : World} {x y : Sl} {n m : Nat} (hx : NN B w x n) (hy : NN B' w y m) (lx : x.len ≤ 1000000) (ly : y.len ≤ 1000000) (hm0 : m ≠ 0) :
    Ok (f53_largeint_nat_div x y) w fun r w' => Below w.heap.size w w' ∧ Cx No w w' [.own r.1 (nums .u32 (dw (n / m)))] ∧ ((r.2 = x ∧ n % m = n) ∨ Cx No w w' [.own r.2 (nums .u32 (dw (n % m))), .own r.1 (nums .u32 (dw (n / m)))]) := by
  unfold f53_largeint_nat_div
  have ex := hx.len
  have ey := hy.len
  refine ok_bnd.2 (ok_mono (cmp_spec hx hy (by omega) (by omega)) ?_)
  rintro _ w1 ⟨hB1, rfl⟩
  by_cases hlt : n < m
  · refine ok_true (by simp [cmpN, hlt]) (ok_ret.2 ⟨hB1, ?_, .inl ⟨rfl, Nat.mod_eq_of_lt hlt⟩⟩)
    rw [Nat.div_eq_of_lt hlt]
    unfold dw
    rw [dgs_zero]
    exact ((Cx.nil No w).call hB1).addNil
  have hcmp : decide (cmpN n m < 0) = false := by unfold cmpN; rw [if_neg hlt]; split <;> rfl
  refine ok_false hcmp ?_
  -- all relative to the world behind the comparison
  refine ok_mono (Q := fun r w' => Below w1.heap.size w1 w' ∧ Cx No w1 w' [.own r.1 (nums .u32 (dw (n / m)))] ∧ ((r.2 = x ∧ n % m = n) ∨ Cx No w1 w' [.own r.2 (nums .u32 (dw (n % m))), .own r.1 (nums .u32 (dw (n / m)))])) ?_ (fun r w' h => ⟨below_chain hB1 h.1, Cx.base h.2.1 hB1, h.2.2.imp id (fun h => Cx.base h hB1)⟩)
  replace hx := hx.size.below hB1
  replace hy := hy.size.below hB1
  clear hB1
  obtain ⟨len, t, hlen, ht, ht0, htl, hq⟩ := top_word hm0
  by_cases h1 : (y.len : Int) = 1
  · refine ok_true (by simp; omega) ?_
    have hl0 : len = 0 := by omega
    subst hl0
    rw [Nat.pow_zero, Nat.div_one] at hq
    subst hq
    refine ok_get hy (by omega) (n := (m : Int)) ht ?_
    refine ok_callL (Cx.nil No w1) (short_spec hx (by omega) (d := (m : Int)) ⟨by omega, by omega⟩ (by omega)) (fun r w' h => h.1) ?_
    rintro r4 w2 ⟨hB2, hr1, hr2⟩ _
    rw [Int.toNat_natCast] at hr1 hr2
    have C := (Cx.nil No w1).addOwn hB2 hr1
    rw [hr2]
    have hrl : n % m < m := Nat.mod_lt _ (by omega)
    refine ok_bnd.2 (ok_buildL1 slt50 _ rfl ?_)
    have C1 := C.build1 (T := 50) (e := 67) (v := .int .u32 ((n % m : Nat) : Int))
    have hO := C1.ret (i := 0) (xs := nums .u32 [((n % m : Nat) : Int)]) rfl
    refine ok_bnd.2 (ok_mono (trim_own hO (fun d hd => by rw [List.mem_singleton] at hd; subst hd; exact ⟨by omega, by show _ < (4294967296 : Int); omega⟩)) ?_)
    rintro r6 w3 ⟨rfl, hr6, _, hra⟩
    have e5 : (vw [((n % m : Nat) : Int)]).toNat = n % m := by simp [vw, vl]; omega
    rw [e5] at hr6
    have C2 := C1.recast (i := 0) (new := .own r6 (nums .u32 (dw (n % m)))) rfl (NO.lower hr6 (Nat.zero_le _)) (by simp [It.at_, hra])
    exact ok_ret.2 ⟨C2.below, C2.tail, .inr C2⟩
  refine ok_false (by simp; omega) ?_
  have e1 : IntKind.wrap .i64 ((y.len : Int) - 1) = (len : Int) := by rw [wrapI_in (by omega)]; omega
  rw [e1]
  refine ok_get hy (by omega) (n := (t : Int)) (by rw [Int.toNat_natCast]; exact ht) ?_
  refine ok_bnd.2 (ok_mono (lead_spec (x := (t : Int)) ⟨by omega, by omega⟩) ?_)
  rintro _ w2 ⟨rfl, k, rfl, hk, hb⟩
  rw [Int.toNat_natCast] at hb
  have hmlt : m < BW ^ (len + 1) := by have := lt_dgs hBW m; rw [show (dgs BW m).length = len + 1 from hlen] at this; exact this
  obtain ⟨hvl, vt, hvt, hvt1, hvlo, hk31⟩ := lg_one hq hmlt ht0 hk hb
  rw [wrapU_in (n := ((32 - k : Nat) : Int)) (by omega)]
  generalize 32 - k = up at *
  refine ok_bnd.2 (ok_mono (left_spec hy (by omega) (by_ := (up : Int)) (by omega) (by omega)) ?_)
  rintro v w3 ⟨hB3, hv⟩
  rw [Int.toNat_natCast] at hv
  -- all relative to the world behind the shift
  refine ok_mono (Q := fun r w' => Cx No w3 w' [.own r.2 (nums .u32 (dw (n % m))), .own r.1 (nums .u32 (dw (n / m)))]) ?_ (fun r w' h => ⟨below_chain hB3 h.below, Cx.base h.tail hB3, .inr (Cx.base h hB3)⟩)
  replace hx := hx.size.below hB3
  replace hv := hv.nn
  clear hB3 hy
  have ev := hv.len
  rw [hvl] at ev
  have hxl : len + 1 ≤ (dw n).length := by rw [← hlen]; exact dw_len_mono (by omega)
  have e2 : IntKind.wrap .i64 ((x.len : Int) + 1) = (x.len : Int) + 1 := wrapI_in (by omega)
  rw [e2]
  refine ok_makeN slt50 (Cx.nil No w3) (by omega) (by omega) (by omega) fun u w4 hu ⟨bu, hbu⟩ C => ?_
  have hz : ((x.len : Int) + 1).toNat = (dw n).length + 1 := by omega
  rw [hz] at C hu
  refine ok_bnd.2 (ok_mono (left_spec (C.old hx.size) (by omega) (by_ := (up : Int)) (by omega) (by omega)) ?_)
  rintro r12 w5 ⟨hB5, hr12⟩
  rw [Int.toNat_natCast] at hr12
  replace C := C.addOwn hB5 hr12
  have hpu : 2 ^ up ≤ 2147483648 := Nat.pow_le_pow_right (n := 2) (by decide) hk31
  have hpu0 : 0 < 2 ^ up := Nat.two_pow_pos _
  have hnlt := lt_dgs hBW n
  have hP : 0 < BW ^ (dgs BW n).length := Nat.pow_pos (by decide)
  have hNlt : n * 2 ^ up < 2147483648 * BW ^ (dgs BW n).length := by
    have a1 := Nat.mul_lt_mul_of_pos_right hnlt hpu0
    have a2 := Nat.mul_le_mul_left (BW ^ (dgs BW n).length) hpu
    rw [Nat.mul_comm 2147483648]
    omega
  have hNl : (dw (n * 2 ^ up)).length ≤ (dw n).length + 1 := by
    refine dgs_length hBW ?_
    have e9 : BW ^ ((dw n).length + 1) = 4294967296 * BW ^ (dgs BW n).length := by rw [Nat.pow_succ, Nat.mul_comm]
    rw [e9]
    omega
  refine ok_copyO slt50 C (i := 1) rfl (C.arr (i := 0) rfl) (by simpa using hNl) fun w6 C => ?_
  simp only [List.set_cons_succ, List.set_cons_zero, List.length_replicate, List.drop_replicate] at C
  have e3 : IntKind.wrap .i64 ((u.len : Int) - (v.len : Int)) = (((dw n).length - len : Nat) : Int) := by rw [wrapI_in (by omega)]; omega
  rw [e3]
  refine ok_makeN slt50 C (by omega) (by omega) (by omega) fun q w7 hql ⟨bq, hbq⟩ C => ?_
  rw [Int.toNat_natCast] at C hql
  have e4 : IntKind.wrap .i64 ((q.len : Int) - 1) = (((dw n).length - len : Nat) : Int) - 1 := by rw [wrapI_in (by omega)]; omega
  rw [e4]
  -- values
  have hV0 := vw_dw (m * 2 ^ up)
  have hN0 := vw_dw (n * 2 ^ up)
  unfold vw at hV0 hN0
  have dV := dw_dg (m * 2 ^ up)
  have dN := dw_dg (n * 2 ^ up)
  have hVlt := vl_lt (b := (BW : Int)) (by decide) dV
  rw [hvl, hV0] at hVlt
  have hvA : Arr w3.heap.size w3 v (nums .u32 (dw (m * 2 ^ up))) := hv.size
  generalize hvs : dw (m * 2 ^ up) = vs at *
  have eU0 : vl (BW : Int) (dw (n * 2 ^ up) ++ List.replicate ((dw n).length + 1 - (dw (n * 2 ^ up)).length) 0) = ((n * 2 ^ up : Nat) : Int) := by
    rw [vl_append, vl_zeros, Int.mul_zero, Int.add_zero, hN0]
  have dU0 : DW (dw (n * 2 ^ up) ++ List.replicate ((dw n).length + 1 - (dw (n * 2 ^ up)).length) 0) := dN.append (Dg.zeros (by decide) _)
  have lU0 : (dw (n * 2 ^ up) ++ List.replicate ((dw n).length + 1 - (dw (n * 2 ^ up)).length) 0).length = (dw n).length + 1 := by simp; omega
  generalize dw (n * 2 ^ up) ++ List.replicate ((dw n).length + 1 - (dw (n * 2 ^ up)).length) 0 = us0 at *
  have hVc : ((m * 2 ^ up : Nat) : Int) = (m * 2 ^ up : Nat) := rfl
  generalize hVn : m * 2 ^ up = Vn at *
  generalize hNn : n * 2 ^ up = Nn at *
  refine ok_loop (fun (s : Int) w' => ∃ qs us, Cx No w3 w' [.own q (nums .u32 qs), .own r12 (nums .u32 (dw Nn)), .own u (nums .u32 us)] ∧ qs.length = (dw n).length - len ∧ DW qs ∧ us.length = (dw n).length + 1 ∧ DW us ∧ ∃ i : Nat, s = (i : Int) - 1 ∧ i ≤ qs.length
      ∧ vl (BW : Int) us + (BW : Int) ^ i * ((Vn : Int) * vl (BW : Int) (qs.drop i)) = Nn ∧ vl (BW : Int) (us.drop i) < Vn)
    (fun s _ => (s + 1).toNat) ?_ _ _ ⟨_, us0, C, by simp, Dg.zeros (by decide) _, lU0, dU0, (dw n).length - len, rfl, by simp, by rw [List.drop_of_length_le (by simp), vl_nil, Int.mul_zero, Int.mul_zero, Int.add_zero, eU0], ?_⟩
  rotate_left
  · -- the words on top are less than the divisor
    have a1 := vl_drop_take (b := (BW : Int)) (l := us0) ((dw n).length - len) (by omega)
    have a2 := vl_nonneg (b := (BW : Int)) (by decide) (dU0.take ((dw n).length - len))
    have a3 : (BW : Int) ^ ((dw n).length - len) * vl (BW : Int) (us0.drop ((dw n).length - len)) < (BW : Int) ^ ((dw n).length - len) * (Vn : Int) := by
      have a4 : Nn < BW ^ ((dw n).length - len) * Vn := by
        have a5 : 2147483648 * BW ^ len * BW ^ ((dw n).length - len) ≤ Vn * BW ^ ((dw n).length - len) := Nat.mul_le_mul_right _ hvlo
        rw [Nat.mul_assoc, ← Nat.pow_add, show len + ((dw n).length - len) = (dw n).length by omega] at a5
        rw [Nat.mul_comm]
        unfold dw at a5 ⊢
        omega
      have a6 : ((Nn : Nat) : Int) < ((BW ^ ((dw n).length - len) * Vn : Nat) : Int) := by exact_mod_cast a4
      rw [Int.natCast_mul, Int.natCast_pow] at a6
      omega
    exact Int.lt_of_mul_lt_mul_left a3 (Int.pow_nonneg (by decide))
  clear C
  rintro s w8 ⟨qs, us, C, hlq, hdq, hlu, hdu, i, rfl, hi, hv1, hv2⟩
  by_cases hi0 : i = 0
  · subst hi0
    refine ok_false (by simp) ?_
    rw [List.drop_zero] at hv1 hv2
    rw [Int.pow_zero, Int.one_mul] at hv1
    have hnu := vl_nonneg (b := (BW : Int)) (by decide) hdu
    have hnq := vl_nonneg (b := (BW : Int)) (by decide) hdq
    obtain ⟨R, hR⟩ := Int.eq_ofNat_of_zero_le hnu
    obtain ⟨K, hK⟩ := Int.eq_ofNat_of_zero_le hnq
    rw [hR] at hv1 hv2
    rw [hK] at hv1
    have hN : R + Vn * K = Nn := by exact_mod_cast hv1
    have hRV : R < Vn := by exact_mod_cast hv2
    have hmp : 0 < m := by omega
    have hKn : K = n / m := by
      have : Nn / Vn = K := by rw [← hN, Nat.add_mul_div_left _ _ (by omega), Nat.div_eq_of_lt hRV, Nat.zero_add]
      rw [← this, ← hNn, ← hVn, Nat.mul_div_mul_right _ _ hpu0]
    have hRn : R = (n % m) * 2 ^ up := by
      have : Nn % Vn = R := by rw [← hN, Nat.add_mul_mod_self_left, Nat.mod_eq_of_lt hRV]
      rw [← this, ← hNn, ← hVn, Nat.mul_mod_mul_right]
    have hRw : vl (BW : Int) us < (BW : Int) ^ (len + 1) := by rw [hR]; omega
    obtain ⟨_, htk⟩ := vl_drop_zero (by decide) hdu hRw (by omega)
    refine ok_bnd.2 (ok_bnd.2 (ok_slc (by simp) (by simp) (by simp; have := (C.arr (i := 2) rfl).2.1; omega) ?_))
    simp only [Option.getD_some, Option.getD_none, Int.toNat_zero, Int.toNat_natCast]
    have hc := arr_cut (C.arr (i := 2) (xs := nums .u32 us) rfl) (lo := 0) (hi := v.len) (Nat.zero_le _) (by omega)
    rw [List.drop_zero, Nat.sub_zero, nums, ← List.map_take, ev] at hc
    rw [ev]
    refine ok_bnd.2 (ok_mono (trim_spec hc (hdu.take _)) ?_)
    rintro r19 w9 ⟨rfl, hr19, hl19⟩
    rw [vw, htk, hR, Int.toNat_natCast] at hr19
    simp only [cut] at hl19
    refine ok_callL C (right_spec hr19 (by omega) (by_ := (up : Int)) (by omega) (by omega)) (fun r w' h => h.1) ?_
    rintro r20 w10 ⟨hB10, hr20, _⟩ _
    rw [Int.toNat_natCast, hRn, Nat.mul_div_cancel _ hpu0] at hr20
    replace C := C.addOwn hB10 hr20
    refine ok_bnd.2 (ok_mono (trim_own (C.ret (i := 1) rfl) hdq) ?_)
    rintro r21 w11 ⟨rfl, hr21, _, hra⟩
    rw [vw, hK, Int.toNat_natCast, hKn] at hr21
    have C2 := C.recast (i := 1) (new := .own r21 (nums .u32 (dw (n / m)))) rfl (NO.lower hr21 (Nat.zero_le _)) (by simp [It.at_, hra])
    exact ok_ret.2 (ok_ret.2 (C2.pick [0, 1] (by simp)))
  · obtain ⟨j, rfl⟩ : ∃ j, i = j + 1 := ⟨i - 1, by omega⟩
    have e5 : ((j + 1 : Nat) : Int) - 1 = (j : Int) := by omega
    rw [e5]
    refine ok_true (by simp) ?_
    obtain ⟨d, hd⟩ := get_some (l := us) (i := j) (by omega)
    have wd := hdu.get hd
    have hdj : us.drop j = d :: us.drop (j + 1) := by
      rw [List.drop_eq_getElem_cons (by omega)]
      rw [List.getElem?_eq_getElem (by omega), Option.some.injEq] at hd
      rw [hd]
    have hj1 : vl (BW : Int) (us.drop j) = d + (BW : Int) * vl (BW : Int) (us.drop (j + 1)) := by rw [hdj, vl_cons]
    have hdd := hdu.drop (j + 1)
    obtain ⟨hz0, _⟩ := vl_drop_zero (b := (BW : Int)) (k := len + 1) (by decide) hdd (by omega) (by rw [List.length_drop]; omega)
    rw [List.drop_drop] at hz0
    have hsj : vl (BW : Int) (us.drop j) = seg (BW : Int) us j (len + 1 + 1) := by
      have a1 := vl_append (b := (BW : Int)) ((us.drop j).take (len + 1 + 1)) ((us.drop j).drop (len + 1 + 1))
      rw [List.take_append_drop, List.drop_drop, show j + (len + 1 + 1) = j + 1 + (len + 1) by omega, hz0, Int.mul_zero, Int.add_zero] at a1
      exact a1
    have hlt' : seg (BW : Int) us j (vs.length + 1) < 4294967296 * vl (BW : Int) vs := by
      rw [hvl, ← hsj, hj1, hV0]
      have := wd.2
      rw [show ((BW : Nat) : Int) = 4294967296 from rfl] at this hv2 ⊢
      omega
    refine ok_bnd.2 (ok_mono (take_spec (B := w3.heap.size) C.size (C.ret (i := 2) rfl) (arr_below hvA C.below) hdu dV (by omega) (by omega) (by omega) (vt := (vt : Int)) (by rw [hvl, Nat.add_sub_cancel]; exact hvt) (by omega) hlt') ?_)
    rintro r w9 ⟨hk9, os, hos, hdo, hlo, hso, hr, hvo, hs0, hs1⟩
    have C9 := C.turnOwn (i := 2) rfl hk9 (own_lower hos (Nat.zero_le _))
    simp only [List.set_cons_succ, List.set_cons_zero] at C9
    refine ok_ixO hbq (by omega) (by omega) ?_
    rw [Int.toNat_natCast]
    have hr1 := hr.1; have hr2 := hr.2
    refine ok_wrO C9 (i := 0) rfl hbq (by omega) fun w10 C10 => ok_ret.2 ⟨⟨_, os, C10, by simp [hlq], hdq.set _ hr1 hr2, by omega, hdo, j, ?_, by simp; omega, ?_, ?_⟩, ?_⟩
    · rw [wrapI_in (by omega)]
    · have edo : (qs.set j r).drop j = r :: qs.drop (j + 1) := by
        rw [List.drop_eq_getElem_cons (by rw [List.length_set]; omega), List.getElem_set_self, List.drop_set_of_lt (by omega)]
      rw [edo, vl_cons, hvo, hV0]
      rw [Int.pow_succ] at hv1
      grind
    · have hsd := seg_diff (b := (BW : Int)) (l := us) (m := os) (j := j) (k := len + 1 + 1) hlo (by omega) (fun k hk => hso k (by omega))
      have hpj : (0 : Int) < (BW : Int) ^ j := Int.pow_pos (by decide)
      rw [hvo] at hsd
      have hse : seg (BW : Int) os j (len + 1 + 1) = seg (BW : Int) us j (len + 1 + 1) - r * (Vn : Int) := by
        rw [hV0] at hsd
        have : (BW : Int) ^ j * seg (BW : Int) os j (len + 1 + 1) = (BW : Int) ^ j * (seg (BW : Int) us j (len + 1 + 1) - r * (Vn : Int)) := by grind
        exact Int.eq_of_mul_eq_mul_left (by omega) this
      have hdeq : os.drop (j + 1 + (len + 1)) = us.drop (j + 1 + (len + 1)) := by
        apply List.ext_getElem?
        intro i
        rw [List.getElem?_drop, List.getElem?_drop]
        exact hso _ (.inr (by omega))
      have a1 := vl_append (b := (BW : Int)) ((os.drop j).take (len + 1 + 1)) ((os.drop j).drop (len + 1 + 1))
      rw [List.take_append_drop, List.drop_drop, show j + (len + 1 + 1) = j + 1 + (len + 1) by omega, hdeq, hz0, Int.mul_zero, Int.add_zero] at a1
      rw [a1]
      rw [hvl, hV0] at hs1
      show seg (BW : Int) os j (len + 1 + 1) < _
      rw [hse]
      exact hs1
    · rw [wrapI_in (by omega)]; omega
end Go.Proofs.Ytoekfjgikicclaa
