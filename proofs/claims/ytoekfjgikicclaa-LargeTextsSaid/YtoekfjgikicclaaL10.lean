/-
  Parts of the proof: L08, L09, L10. It states what the functions do; no further condition.
-/
import Derived.Test.YtoekfjgikicclaaL07
set_option linter.unusedVariables false
set_option linter.unusedSimpArgs false
namespace Go.Proofs.Ytoekfjgikicclaa
set_option linter.unusedVariables false
open Go.Sh Go.RowKit
set_option maxRecDepth 100000
/-! ### Numbers without a sign: product -/
theorem pow_mul_div (P s : Int) : P * (s % 4294967296) + P * (4294967296 * (s / 4294967296)) = P * s := by
  rw [← Int.mul_add, Int.emod_add_mul_ediv]
theorem mul_spec {B B' : Nat} {w : World} {x y : Sl} {n m : Nat} (hx : NN B w x n) (hy : NN B' w y m) (lx : x.len ≤ 1000000000) (ly : y.len ≤ 1000000000) :
    Ok (f77_largeint_nat_mul x y) w fun r w' => Below w.heap.size w w' ∧ NO w.heap.size w' r (n * m) := by
  unfold f77_largeint_nat_mul
  have ex := hx.len
  have ey := hy.len
  have e0 : IntKind.wrap .i64 ((x.len : Int) + (y.len : Int)) = (x.len : Int) + (y.len : Int) := wrapI_in (by omega)
  rw [e0]
  refine ok_makeN slt50 (Cx.nil No w) (by omega) (by omega) (by omega) fun v w2 hv ⟨bl, hb⟩ C => ?_
  have hz : ((x.len : Int) + (y.len : Int)).toNat = (dw n).length + (dw m).length := by omega
  rw [hz] at C hv
  have vn := vw_dw n
  have vm := vw_dw m
  unfold vw at vn vm
  refine ok_loop (fun (q : Int) w' => ∃ out, Cx No w w' [.own v (nums .u32 out)] ∧ out.length = (dw n).length + (dw m).length ∧ DW out ∧ ∃ i : Nat, q = i ∧ i ≤ (dw n).length ∧ vl (BW : Int) out = vl (BW : Int) ((dw n).take i) * m ∧ ∀ j, i + (dw m).length ≤ j → j < out.length → out[j]? = some 0)
    (fun q _ => ((dw n).length - q).toNat) ?_ _ _ ⟨_, C, by simp, Dg.zeros (by decide) _, 0, rfl, Nat.zero_le _, by rw [vl_zeros, List.take_zero, vl_nil, Int.zero_mul], fun j _ hj => by rw [List.length_replicate] at hj; rw [List.getElem?_replicate, if_pos hj]⟩
  rintro q w3 ⟨out, C, hl, hd, i, rfl, hi, hv1, hzs⟩
  by_cases hlt : i < (dw n).length
  · refine ok_true (by simp only [decide_eq_true_eq]; omega) ?_
    have hxi : (dw n)[i]? = some ((dw n)[i]) := List.getElem?_eq_getElem hlt
    have wx : W32 ((dw n)[i]) := (dw_dg n).get hxi
    refine ok_get (C.old hx.size) (by omega) (n := (dw n)[i]) (by simp) ?_
    generalize (dw n)[i] = a at hxi wx
    refine ok_loop (fun (q : Int × Int) w' => ∃ out, Cx No w w' [.own v (nums .u32 out)] ∧ out.length = (dw n).length + (dw m).length ∧ DW out ∧ W32 q.1 ∧ ∃ k : Nat, q.2 = k ∧ k ≤ (dw m).length ∧ vl (BW : Int) out + (BW : Int) ^ (i + k) * q.1 = vl (BW : Int) ((dw n).take i) * m + (BW : Int) ^ i * (a * vl (BW : Int) ((dw m).take k)) ∧ ∀ j, i + (dw m).length ≤ j → j < out.length → out[j]? = some 0)
      (fun q _ => ((dw m).length - q.2).toNat) ?_ _ _ ⟨out, C, hl, hd, ⟨by decide, by decide⟩, 0, rfl, Nat.zero_le _, by rw [List.take_zero, vl_nil, Int.mul_zero, Int.mul_zero, Int.mul_zero, hv1], hzs⟩
    clear hzs hv1 hd hl C
    rintro ⟨c, q⟩ w4 ⟨out, C, hl, hd, hc, k, rfl, hk, hv1, hzs⟩
    simp only at hc hv1 ⊢
    have hc1 := hc.1; have hc2 := hc.2; have hx1 := wx.1; have hx2 := wx.2
    by_cases hkt : k < (dw m).length
    · refine ok_true (by simp only [decide_eq_true_eq]; omega) ?_
      have hyk : (dw m)[k]? = some ((dw m)[k]) := List.getElem?_eq_getElem hkt
      have wy : W32 ((dw m)[k]) := (dw_dg m).get hyk
      refine ok_get (C.old hy.size) (by omega) (n := (dw m)[k]) (by simp) ?_
      generalize (dw m)[k] = d at hyk wy
      have hy1 := wy.1; have hy2 := wy.2
      have e1 : IntKind.wrap .i64 ((i : Int) + (k : Int)) = ((i + k : Nat) : Int) := by rw [wrapI_in (by omega)]; omega
      rw [e1]
      have hok : out[i + k]? = some (out[i + k]'(by omega)) := List.getElem?_eq_getElem (by omega)
      have wo : W32 (out[i + k]'(by omega)) := hd.get hok
      refine ok_ixO hb (by omega) (by omega) ?_
      rw [Int.toNat_natCast]
      refine ok_ldO C (i := 0) rfl hb hok ?_
      generalize (out[i + k]'(by omega)) = o at hok wo
      have ho1 := wo.1; have ho2 := wo.2
      refine ok_ixO hb (by omega) (by omega) ?_
      rw [Int.toNat_natCast]
      have hmul : a * d ≤ 4294967295 * 4294967295 := Int.mul_le_mul (by omega) (by omega) (by omega) (by decide)
      have hmul0 : 0 ≤ a * d := Int.mul_nonneg hx1 hy1
      have es : IntKind.wrap .u64 ((IntKind.wrap .u64 ((IntKind.wrap .u64 ((IntKind.wrap .u64 a) * (IntKind.wrap .u64 d))) + (IntKind.wrap .u64 o))) + c) = a * d + o + c := by
        rw [wrapU_in (n := a) (by omega), wrapU_in (n := d) (by omega), wrapU_in (n := o) (by omega), wrapU_in (n := a * d) (by omega), wrapU_in (n := a * d + o) (by omega), wrapU_in (by omega)]
      rw [es, shr_eq .u64 _ 32 (by decide), wrapU32, show (2 : Int) ^ 32 = 4294967296 from rfl]
      have hdiv := pow_mul_div ((BW : Int) ^ (i + k)) (a * d + o + c)
      refine ok_wrO C (i := 0) rfl hb (by omega) fun w5 C5 => ok_ret.2 ⟨⟨_, C5, by simp [hl], hd.set _ (Int.emod_nonneg _ (by decide)) (Int.emod_lt_of_pos _ (by decide)), ⟨?_, ?_⟩, k + 1, ?_, hkt, ?_, ?_⟩, ?_⟩
      · show 0 ≤ (a * d + o + c) / 4294967296
        omega
      · show (a * d + o + c) / 4294967296 < 4294967296
        omega
      · show IntKind.wrap .i64 ((k : Int) + 1) = _
        rw [wrapI_in (by omega)]; simp
      · show _ + _ * ((a * d + o + c) / 4294967296) = _
        rw [vl_set hok, vl_take_succ hyk, ← Nat.add_assoc, Int.pow_succ, Int.mul_assoc, show ((BW : Nat) : Int) * ((a * d + o + c) / 4294967296) = 4294967296 * ((a * d + o + c) / 4294967296) from rfl]
        rw [Int.mul_add a, Int.mul_add ((BW : Int) ^ i)]
        have e5 : (BW : Int) ^ i * (a * ((BW : Int) ^ k * d)) = (BW : Int) ^ (i + k) * (a * d) := by
          rw [Int.pow_add, Int.mul_left_comm a, Int.mul_assoc]
        rw [e5, Int.mul_sub]
        rw [Int.mul_add ((BW : Int) ^ (i + k)), Int.mul_add ((BW : Int) ^ (i + k)) (a * d) o] at hdiv
        omega
      · intro j hj hjl
        rw [List.length_set] at hjl
        rw [List.getElem?_set_ne (by omega)]
        exact hzs j hj hjl
      · show (_ - IntKind.wrap .i64 ((k : Int) + 1)).toNat < _
        rw [wrapI_in (by omega)]; omega
    · have hke : k = (dw m).length := by omega
      subst hke
      refine ok_false (by simp only [decide_eq_false_iff_not]; omega) ?_
      have e1 : IntKind.wrap .i64 ((i : Int) + (y.len : Int)) = ((i + (dw m).length : Nat) : Int) := by rw [wrapI_in (by omega)]; omega
      rw [e1, wrapU32_in hc]
      refine ok_bnd.2 (ok_ixO hb (by omega) (by omega) ?_)
      rw [Int.toNat_natCast]
      refine ok_wrO C (i := 0) rfl hb (by omega) fun w5 C5 => ok_ret.2 (ok_ret.2 ⟨⟨_, C5, by simp [hl], hd.set _ hc1 hc2, i + 1, ?_, hlt, ?_, ?_⟩, ?_⟩)
      · rw [wrapI_in (by omega)]; simp
      · rw [vl_set (hzs _ (Nat.le_refl _) (by omega)), vl_take_succ hxi, Int.sub_zero, hv1, List.take_of_length_le (Nat.le_refl _), vm, Int.add_mul, Int.mul_assoc]
      · intro j hj hjl
        rw [List.length_set] at hjl
        rw [List.getElem?_set_ne (by omega)]
        exact hzs j (by omega) hjl
      · rw [wrapI_in (by omega)]; omega
  · have hie : i = (dw n).length := by omega
    subst hie
    refine ok_false (by simp only [decide_eq_false_iff_not]; omega) ?_
    rw [List.take_of_length_le (Nat.le_refl _), vn] at hv1
    refine ok_bnd.2 (ok_bnd.2 (ok_mono (trim_own (C.ret (i := 0) rfl) hd) ?_))
    rintro r w5 ⟨rfl, hr, _⟩
    refine ok_ret.2 (ok_ret.2 ⟨C.below, ?_⟩)
    rw [vw, hv1, ← Int.natCast_mul, Int.toNat_natCast] at hr
    exact hr
end Go.Proofs.Ytoekfjgikicclaa

namespace Go.Proofs.Ytoekfjgikicclaa
set_option linter.unusedVariables false
open Go.Sh Go.RowKit
set_option maxRecDepth 100000
/-! ### Numbers without a sign: quotient by a word -/
theorem div32_spec {h l d : Int} {w : World} (hh : W32 h) (hl : W32 l) (hd : W32 d) (hlt : h < d) :
    Ok (f87_bits_Div32 h l d) w fun r w' => Below w.heap.size w w' ∧ r = ((h * 4294967296 + l) / d, (h * 4294967296 + l) % d) := by
  unfold f87_bits_Div32
  have h1 := hh.1; have h2 := hh.2; have h3 := hl.1; have h4 := hl.2; have h5 := hd.1; have h6 := hd.2
  refine ok_bnd.2 (ok_false ?_ (ok_ret.2 (ok_bnd.2 (ok_drawM.2 ?_))))
  · rw [show decide (d ≤ h) = false by simp only [decide_eq_false_iff_not]; omega]
    cases (d != 0) <;> rfl
  rw [wrapU_in (n := d) (by omega), wrapU_in (n := h) (by omega), wrapU_in (n := l) (by omega)]
  refine ok_bnd.2 (ok_nz.2 ⟨by omega, ok_bnd.2 (ok_nz.2 ⟨by omega, ok_ret.2 ⟨(Below.refl _ _).drew, ?_⟩⟩)⟩)
  have e1 : shlI .u64 h 32 = h * 2 ^ 32 := by rw [shl_u64 _ _ (by decide)]; rw [show (2 : Int) ^ 32 = 4294967296 from rfl]; omega
  have e2 : bOr .u64 (h * 2 ^ 32) l = l + h * 2 ^ 32 := add_bOr l h 32 ⟨h3, by rw [show (2 : Int) ^ 32 = 4294967296 from rfl]; omega⟩ h1 (by rw [show (2 : Int) ^ 32 = 4294967296 from rfl]; omega)
  rw [e1, e2, show (2 : Int) ^ 32 = 4294967296 from rfl, Int.add_comm l]
  have hN : 0 ≤ h * 4294967296 + l := by omega
  rw [Int.tdiv_eq_ediv_of_nonneg hN, Int.tmod_eq_emod_of_nonneg hN]
  have hq0 : 0 ≤ (h * 4294967296 + l) / d := Int.ediv_nonneg hN h5
  have hq1 : (h * 4294967296 + l) / d < 4294967296 := by
    refine Int.ediv_lt_of_lt_mul (by omega) ?_
    have : (h + 1) * 4294967296 ≤ d * 4294967296 := Int.mul_le_mul_of_nonneg_right (by omega) (by decide)
    rw [Int.mul_comm]
    omega
  have hr0 : 0 ≤ (h * 4294967296 + l) % d := Int.emod_nonneg _ (by omega)
  have hr1 : (h * 4294967296 + l) % d < d := Int.emod_lt_of_pos _ (by omega)
  rw [wrapU_in (by omega), wrapU32_in ⟨hq0, hq1⟩, wrapU32_in ⟨hr0, by omega⟩]
theorem short_spec {B : Nat} {w : World} {x : Sl} {n : Nat} {d : Int} (hx : NN B w x n) (lx : x.len ≤ 1000000000) (hd : W32 d) (hd0 : d ≠ 0) :
    Ok (f62_largeint_nat_short x d) w fun r w' => Below w.heap.size w w' ∧ NO w.heap.size w' r.1 (n / d.toNat) ∧ r.2 = ((n % d.toNat : Nat) : Int) := by
  unfold f62_largeint_nat_short
  have ex := hx.len
  have h5 := hd.1; have h6 := hd.2
  refine ok_makeN slt50 (Cx.nil No w) (by omega) (by omega) (by omega) fun v w2 hv ⟨bl, hb⟩ C => ?_
  have hz : ((x.len : Int)).toNat = (dw n).length := by omega
  rw [hz] at C hv
  have e0 : IntKind.wrap .i64 ((x.len : Int) - 1) = (x.len : Int) - 1 := wrapI_in (by omega)
  rw [e0]
  have vn := vw_dw n
  unfold vw at vn
  refine ok_loop (fun (q : Int × Int) w' => ∃ out, Cx No w w' [.own v (nums .u32 out)] ∧ out.length = (dw n).length ∧ DW out ∧ 0 ≤ q.1 ∧ q.1 < d ∧ ∃ i : Nat, q.2 = (i : Int) - 1 ∧ i ≤ (dw n).length ∧ vl (BW : Int) ((dw n).drop i) = d * vl (BW : Int) (out.drop i) + q.1)
    (fun q _ => (q.2 + 1).toNat) ?_ _ _ ⟨_, C, by simp, Dg.zeros (by decide) _, Int.le_refl _, by simp only; omega, (dw n).length, by simp only; omega, Nat.le_refl _, by rw [List.drop_of_length_le (Nat.le_refl _), List.drop_of_length_le (by simp), vl_nil]; simp⟩
  rintro ⟨c, q⟩ w3 ⟨out, C, hl, hdg, hc0, hc1, i, rfl, hi, hv1⟩
  simp only at hc0 hc1 hv1 ⊢
  by_cases hi0 : i = 0
  · subst hi0
    refine ok_false (by simp) ?_
    rw [List.drop_zero, List.drop_zero, vn] at hv1
    refine ok_bnd.2 (ok_bnd.2 (ok_mono (trim_own (C.ret (i := 0) rfl) hdg) ?_))
    rintro r w5 ⟨rfl, hr, _⟩
    refine ok_ret.2 (ok_ret.2 ⟨C.below, ?_, ?_⟩)
    · obtain ⟨D, rfl⟩ := Int.eq_ofNat_of_zero_le h5
      have hq : vl (BW : Int) out = ((n / D : Nat) : Int) := by
        rw [Int.natCast_ediv]
        rw [hv1, Int.add_comm, Int.add_mul_ediv_left _ _ hd0, Int.ediv_eq_zero_of_lt hc0 hc1, Int.zero_add]
      rw [vw, hq, Int.toNat_natCast] at hr
      exact hr
    · obtain ⟨D, rfl⟩ := Int.eq_ofNat_of_zero_le h5
      show c = _
      rw [Int.natCast_emod, Int.toNat_natCast, hv1, Int.add_comm, Int.add_mul_emod_self_left, Int.emod_eq_of_lt hc0 hc1]
  · obtain ⟨j, rfl⟩ : ∃ j, i = j + 1 := ⟨i - 1, by omega⟩
    have hxj : (dw n)[j]? = some ((dw n)[j]'(by omega)) := List.getElem?_eq_getElem (by omega)
    have wx : W32 ((dw n)[j]'(by omega)) := (dw_dg n).get hxj
    have edr : (dw n).drop j = (dw n)[j]'(by omega) :: (dw n).drop (j + 1) := List.drop_eq_getElem_cons (by omega)
    have e1 : ((j + 1 : Nat) : Int) - 1 = (j : Int) := by omega
    rw [e1]
    refine ok_true (by simp) ?_
    refine ok_get (C.old hx.size) (by omega) (n := (dw n)[j]'(by omega)) (by rw [Int.toNat_natCast]; exact hxj) ?_
    generalize (dw n)[j]'(by omega) = a at hxj wx edr
    refine ok_callL C (div32_spec (h := c) (l := a) (d := d) ⟨hc0, by omega⟩ wx hd hc1) (fun r w' h => h.1) ?_
    rintro r w4 ⟨hB4, rfl⟩ C4
    have hx1 := wx.1; have hx2 := wx.2
    have hN : 0 ≤ c * 4294967296 + a := by omega
    have hq0 : 0 ≤ (c * 4294967296 + a) / d := Int.ediv_nonneg hN h5
    have hq1 : (c * 4294967296 + a) / d < 4294967296 := by
      refine Int.ediv_lt_of_lt_mul (by omega) ?_
      have : (c + 1) * 4294967296 ≤ d * 4294967296 := Int.mul_le_mul_of_nonneg_right (by omega) (by decide)
      rw [Int.mul_comm]
      omega
    refine ok_ixO hb (by omega) (by omega) ?_
    rw [Int.toNat_natCast]
    refine ok_wrO C4 (i := 0) rfl hb (by omega) fun w5 C5 => ok_ret.2 ⟨⟨_, C5, by simp [hl], hdg.set _ hq0 hq1, Int.emod_nonneg _ hd0, Int.emod_lt_of_pos _ (by omega), j, ?_, by omega, ?_⟩, ?_⟩
    · show IntKind.wrap .i64 ((j : Int) - 1) = _
      rw [wrapI_in (by omega)]
    · show _ = _ + (c * 4294967296 + a) % d
      have edo : (out.set j ((c * 4294967296 + a) / d)).drop j = (c * 4294967296 + a) / d :: out.drop (j + 1) := by
        rw [List.drop_eq_getElem_cons (by rw [List.length_set]; omega), List.getElem_set_self, List.drop_set_of_lt (by omega)]
      rw [edr, edo, vl_cons, vl_cons, hv1]
      have e2 := Int.emod_add_mul_ediv (c * 4294967296 + a) d
      rw [Int.mul_add, Int.mul_add, Int.mul_left_comm (BW : Int) d, show (BW : Int) * c = c * 4294967296 from Int.mul_comm _ _]
      omega
    · show (IntKind.wrap .i64 ((j : Int) - 1) + 1).toNat < _
      rw [wrapI_in (by omega)]; omega
end Go.Proofs.Ytoekfjgikicclaa

namespace Go.Proofs.Ytoekfjgikicclaa
set_option linter.unusedVariables false
open Go.Sh Go.RowKit
set_option maxRecDepth 100000
/-! ### Two's complement in place -/
theorem not32 {a : Int} (h : W32 a) : bXor .u32 4294967295 a = 4294967295 - a := by
  have h1 := h.1; have h2 := h.2
  obtain ⟨n, rfl⟩ := Int.eq_ofNat_of_zero_le h1
  rw [bXor_bi, ib_ones, BitVec.allOnes_xor]
  unfold bi ib
  rw [BitVec.toNat_not, BitVec.toNat_ofInt]
  omega
theorem turn_spec {B : Nat} {w : World} {s : Sl} {l : List Int} (H : Own B w s (nums .u32 l)) (hd : DW l) (ls : s.len ≤ 1000000000) :
    Ok (f89_largeint_nat_turn s) w fun _ w' => Keep (blkOf s) w w' ∧ ∃ o, Own B w' s (nums .u32 o) ∧ DW o ∧ o.length = l.length ∧ vl (BW : Int) o = ((BW : Int) ^ l.length - vl (BW : Int) l) % (BW : Int) ^ l.length := by
  unfold f89_largeint_nat_turn
  have el : s.len = l.length := by have := H.1; simpa using this
  refine ok_loop (fun (q : Int × Int) w' => ∃ out, Cx (blkOf s) w w' [.own s (nums .u32 out)] ∧ out.length = l.length ∧ DW out ∧ 0 ≤ q.1 ∧ q.1 ≤ 1 ∧ ∃ i : Nat, q.2 = i ∧ i ≤ l.length ∧ vl (BW : Int) (out.take i) + (BW : Int) ^ i * q.1 = (BW : Int) ^ i - vl (BW : Int) (l.take i) ∧ ∀ j, i ≤ j → out[j]? = l[j]?)
    (fun q _ => (l.length - q.2).toNat) ?_ _ _ ⟨l, Cx.one H, rfl, hd, by decide, by decide, 0, rfl, Nat.zero_le _, by simp [vl], fun _ _ => rfl⟩
  rintro ⟨c, q⟩ w3 ⟨out, C, hl, hdo, hc0, hc1, i, rfl, hi, hv1, hsame⟩
  simp only at hc0 hc1 hv1 ⊢
  by_cases hlt : i < l.length
  · refine ok_true (by simp only [decide_eq_true_eq]; omega) ?_
    have hli : l[i]? = some (l[i]) := List.getElem?_eq_getElem hlt
    have hoi : out[i]? = some (l[i]) := (hsame i (Nat.le_refl _)).trans hli
    have wl : W32 (l[i]) := hd.get hli
    generalize l[i] = a at hli hoi wl
    have h1 := wl.1; have h2 := wl.2
    obtain ⟨bl, hb⟩ := own_block (C.get (i := 0) rfl) (n := i) (by omega)
    refine ok_ixO hb (by omega) (by omega) ?_
    rw [Int.toNat_natCast]
    refine ok_ldO C (i := 0) rfl hb hoi ?_
    refine ok_ixO hb (by omega) (by omega) ?_
    rw [Int.toNat_natCast, not32 wl, wrapU_in (n := 4294967295 - a) (by omega), wrapU_in (by omega), wrapU32, shr_eq .u64 _ 32 (by decide), show (2 : Int) ^ 32 = 4294967296 from rfl]
    refine ok_wrO C (i := 0) rfl hb (by omega) fun w5 C5 => ok_ret.2 ⟨⟨_, C5, by simp [hl], hdo.set _ (Int.emod_nonneg _ (by decide)) (Int.emod_lt_of_pos _ (by decide)), ?_, ?_, i + 1, ?_, hlt, ?_, ?_⟩, ?_⟩
    · show 0 ≤ (4294967295 - a + c) / 4294967296
      omega
    · show (4294967295 - a + c) / 4294967296 ≤ 1
      omega
    · show IntKind.wrap .i64 ((i : Int) + 1) = _
      rw [wrapI_in (by omega)]; simp
    · show _ + _ * ((4294967295 - a + c) / 4294967296) = _
      rw [vl_take_set (by omega), vl_take_succ hli, Int.pow_succ, Int.mul_assoc, show ((BW : Nat) : Int) * ((4294967295 - a + c) / 4294967296) = 4294967296 * ((4294967295 - a + c) / 4294967296) from rfl]
      have hdiv := pow_mul_div ((BW : Int) ^ i) (4294967295 - a + c)
      rw [Int.mul_add _ _ c, Int.mul_sub] at hdiv
      rw [show (BW : Int) = 4294967296 from rfl] at *
      omega
    · intro j hj
      rw [List.getElem?_set_ne (by omega)]
      exact hsame j (by omega)
    · show (_ - IntKind.wrap .i64 ((i : Int) + 1)).toNat < _
      rw [wrapI_in (by omega)]; omega
  · have hie : i = l.length := by omega
    subst hie
    refine ok_false (by simp only [decide_eq_false_iff_not]; omega) (ok_ret.2 ⟨C.keep, out, own_raise (C.get (i := 0) rfl) (own_least H), hdo, hl, ?_⟩)
    rw [List.take_of_length_le (show out.length ≤ _ by omega), List.take_of_length_le (Nat.le_refl _)] at hv1
    have h1 := vl_nonneg (b := (BW : Int)) (by decide) hdo
    have h2 := vl_lt (b := (BW : Int)) (by decide) hdo
    rw [hl] at h2
    rw [← hv1, Int.add_mul_emod_self_left, Int.emod_eq_of_lt h1 h2]
end Go.Proofs.Ytoekfjgikicclaa
