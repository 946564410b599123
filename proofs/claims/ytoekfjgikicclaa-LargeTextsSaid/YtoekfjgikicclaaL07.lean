/-
  Parts of the proof: L06, L07. It states what the functions do; no further condition.
-/
import Derived.Test.YtoekfjgikicclaaL05
import Derived.Test.YtoekfjgikicclaaL01
set_option linter.unusedVariables false
set_option linter.unusedSimpArgs false
namespace Go.Proofs.Ytoekfjgikicclaa
set_option linter.unusedVariables false
open Go.Sh Go.RowKit
set_option maxRecDepth 100000
/-! ### Numbers without a sign: trim, sum, difference -/
theorem slt50 : SlT Try.prog 50 67 (.int .u32 0) 4 := ⟨Try.underlying50, ⟨_, (by kernel_rfl : Try.prog.info? 67 = some Try.t67), rfl, rfl, rfl⟩, rfl⟩
theorem slt61 : SlT Try.prog 61 5 (.int .u8 0) 1 := ⟨Try.underlying61, ⟨_, (by kernel_rfl : Try.prog.info? 5 = some Try.t5), rfl, rfl, rfl⟩, rfl⟩
abbrev BW : Nat := 4294967296
abbrev vw (l : List Int) : Int := vl (BW : Int) l
abbrev DW (l : List Int) : Prop := Dg (BW : Int) l
abbrev dw (n : Nat) : List Int := dgs BW n
/-- A slice is a number's words, the shortest. -/
def NN (B : Nat) (w : World) (s : Sl) (n : Nat) : Prop := Arr B w s (nums .u32 (dw n))
theorem hBW : 2 ≤ BW := by decide
theorem NN.len {B : Nat} {w : World} {s : Sl} {n : Nat} (h : NN B w s n) : s.len = (dw n).length := by have := h.1; simpa using this
theorem NN.below {B : Nat} {w w' : World} {s : Sl} {n : Nat} (h : NN B w s n) (k : Below B w w') : NN B w' s n := arr_below h k
theorem NN.size {B : Nat} {w : World} {s : Sl} {n : Nat} (h : NN B w s n) : NN w.heap.size w s n := arr_size h
theorem NN.zero (B : Nat) (w : World) : NN B w ⟨none, 0, 0⟩ 0 := by unfold NN dw; rw [dgs_zero]; exact arr_nil B w
theorem dw_dg (n : Nat) : DW (dw n) := dg_dgs hBW n
theorem vw_dw (n : Nat) : vw (dw n) = n := vl_dgs hBW n
theorem trim_spec {B : Nat} {w : World} {s : Sl} {l : List Int} (H : Arr B w s (nums .u32 l)) (hd : DW l) : Ok (f84_largeint_nat_trim s) w fun r w' => w' = w ∧ NN B w r (vw l).toNat ∧ r.len ≤ s.len := by
  unfold f84_largeint_nat_trim
  refine ok_trimB (K := fun s1 => ret (Sum.inr s1)) H fun t ht hl _ _ => ok_ret.2 ⟨t, rfl, rfl, ?_, hl⟩
  unfold NN dw
  rw [← dgs_trim hBW hd]; exact ht
/-- A slice of the call's own is a number's words, the shortest. -/
def NO (B : Nat) (w : World) (s : Sl) (n : Nat) : Prop := Own B w s (nums .u32 (dw n))
theorem NO.nn {B : Nat} {w : World} {s : Sl} {n : Nat} (h : NO B w s n) : NN w.heap.size w s n := own_arr h
theorem NO.len {B : Nat} {w : World} {s : Sl} {n : Nat} (h : NO B w s n) : s.len = (dw n).length := h.nn.len
theorem trim_own {B : Nat} {w : World} {s : Sl} {l : List Int} (H : Own B w s (nums .u32 l)) (hd : DW l) : Ok (f84_largeint_nat_trim s) w fun r w' => w' = w ∧ NO B w r (vw l).toNat ∧ r.len ≤ s.len ∧ r.a = s.a := by
  unfold f84_largeint_nat_trim
  refine ok_trimB (K := fun s1 => ret (Sum.inr s1)) (own_arr H) fun t ht hl ha hc => ok_ret.2 ⟨t, rfl, rfl, ?_, hl, ha⟩
  unfold NO dw
  rw [← dgs_trim hBW hd]
  refine own_view (m := nums .u32 (l.drop (trimL l).length)) H ?_ ha.symm hc.symm ht.1 ht.2.1
  rw [← List.map_append]
  conv => lhs; rw [← List.take_append_drop (trimL l).length l, ← trimL_take]
/-- A number that lies among what the call holds. -/
theorem add_spec {B : Nat} {w : World} {x y : Sl} {n m : Nat} (hx : NN B w x n) (hy : NN B w y m) (lx : x.len ≤ 1000000000) (ly : y.len ≤ 1000000000) :
    Ok (f72_largeint_nat_add x y) w fun r w' => Below w.heap.size w w' ∧ NO w.heap.size w' r (n + m) := by
  unfold f72_largeint_nat_add
  have key : ∀ {x y : Sl} {n m : Nat}, NN B w x n → NN B w y m → x.len ≤ 1000000000 → y.len ≤ x.len → ∀ w1 : World, w1 = w →
      Ok (bnd (runV Try.prog .sl (Instr.makeSlice 50 (.int .i64 (IntKind.wrap .i64 ((x.len : Int) + (1 : Int)))) (.int .i64 (IntKind.wrap .i64 ((x.len : Int) + (1 : Int)))))) fun (v2 : Sl) =>
  loopM (fun (s3 : (Int × Int)) =>
  cnd (decide (s3.2 < (x.len : Int))) (
  bnd (
  cnd (decide (s3.2 < (y.len : Int))) (
  bnd (ix 1 y s3.2) fun (p5 : Addr) =>
  bnd (ld (.int .u32) p5) fun (v6 : Int) =>
  ret v6) (
  ret (0 : Int))) fun (s4 : Int) =>
  bnd (ix 1 x s3.2) fun (p7 : Addr) =>
  bnd (ld (.int .u32) p7) fun (v8 : Int) =>
  bnd (ix 1 v2 s3.2) fun (p9 : Addr) =>
  bnd (wrs p9 0 [.int .u32 ((Gf91_bits_Add32 v8 s4 s3.1).1)]) fun _ =>
  ret (Sum.inl ((Gf91_bits_Add32 v8 s4 s3.1).2, (IntKind.wrap .i64 (s3.2 + (1 : Int)))))) (
  bnd (
  bnd (ix 1 v2 (x.len : Int)) fun (p10 : Addr) =>
  bnd (wrs p10 0 [.int .u32 s3.1]) fun _ =>
  bnd (f84_largeint_nat_trim v2) fun (r11 : Sl) =>
  ret r11) fun r12 =>
  ret (Sum.inr r12))) ((0 : Int), (0 : Int))) w1 fun r w' => Below w.heap.size w w' ∧ NO w.heap.size w' r (n + m) := by
    rintro x y n m hx hy lx hxy w1 rfl
    have ex := hx.len
    have ey := hy.len
    have e1 : IntKind.wrap .i64 ((x.len : Int) + 1) = (x.len : Int) + 1 := wrapI_in (by omega)
    rw [e1]
    refine ok_makeN slt50 (Cx.nil No w1) (by omega) (by omega) (by omega) fun v w2 hv ⟨bl, hb⟩ C => ?_
    have hz : ((x.len : Int) + 1).toNat = (dw n).length + 1 := by omega
    rw [hz] at C hv
    refine ok_loop (fun (q : Int × Int) w' => ∃ out, Cx No w1 w' [.own v (nums .u32 out)] ∧ out.length = (dw n).length + 1 ∧ DW out ∧ 0 ≤ q.1 ∧ q.1 ≤ 1 ∧ ∃ i : Nat, q.2 = i ∧ i ≤ (dw n).length ∧ vw (out.take i) + (BW : Int) ^ i * q.1 = vw ((dw n).take i) + vw ((dw m).take i))
      (fun q _ => ((dw n).length - q.2).toNat) ?_ _ _ ⟨_, C, by simp, Dg.zeros (by decide) _, Int.le_refl _, by decide, 0, rfl, Nat.zero_le _, by simp [vl]⟩
    rintro ⟨c, q⟩ w3 ⟨out, C, hl, hd, hc0, hc1, i, rfl, hi, hv1⟩
    simp only at hc0 hc1 hv1 ⊢
    by_cases hlt : i < (dw n).length
    · refine ok_true (by simp only [decide_eq_true_eq]; omega) ?_
      have hxi : (dw n)[i]? = some ((dw n)[i]) := List.getElem?_eq_getElem hlt
      have wx : W32 ((dw n)[i]) := (dw_dg n).get hxi
      -- the other one's word
      have stepy : ∀ {K : Int → M ((Int × Int) ⊕ Sl)} {Q : (Int × Int) ⊕ Sl → World → Prop}, (∀ d, W32 d → vw ((dw m).take (i + 1)) = vw ((dw m).take i) + (BW : Int) ^ i * d → Ok (K d) w3 Q) →
          Ok (bnd (cnd (decide ((i : Int) < (y.len : Int))) (bnd (ix 1 y (i : Int)) fun (p5 : Addr) => bnd (ld (.int .u32) p5) fun (v6 : Int) => ret v6) (ret (0 : Int))) K) w3 Q := by
        intro K Q hK
        refine ok_bnd.2 ?_
        by_cases hym : i < (dw m).length
        · have hyi : (dw m)[i]? = some ((dw m)[i]) := List.getElem?_eq_getElem hym
          refine ok_true (by simp only [decide_eq_true_eq]; omega) ?_
          refine ok_get (C.old hy.size) (by omega) (n := (dw m)[i]) (by simp) (ok_ret.2 (hK _ ((dw_dg m).get hyi) (vl_take_succ hyi)))
        · refine ok_false (by simp only [decide_eq_false_iff_not]; omega) (ok_ret.2 (hK 0 ⟨by decide, by decide⟩ ?_))
          rw [vw, vl_take_past (by omega), Int.mul_zero, Int.add_zero]
      refine stepy fun d wd hyd => ?_
      refine ok_get (C.old hx.size) (by omega) (n := (dw n)[i]) (by simp) ?_
      have hadd := add32 wx wd ⟨hc0, hc1⟩
      refine ok_ixO hb (by omega) (by omega) ?_
      rw [Int.toNat_natCast]
      have hs := wx.1; have hs2 := wx.2; have hs3 := wd.1; have hs4 := wd.2
      refine ok_wrO C (i := 0) rfl hb (by omega) fun w4 C4 => ok_ret.2 ⟨⟨out.set i ((Gf91_bits_Add32 ((dw n)[i]) d c).1), C4, by simp [hl], hd.set _ ?_ ?_, ?_, ?_, i + 1, ?_, hlt, ?_⟩, ?_⟩
      · show 0 ≤ (Gf91_bits_Add32 ((dw n)[i]) d c).1
        rw [show (Gf91_bits_Add32 ((dw n)[i]) d c).1 = _ from hadd.1]; exact Int.emod_nonneg _ (by decide)
      · show (Gf91_bits_Add32 ((dw n)[i]) d c).1 < _
        rw [show (Gf91_bits_Add32 ((dw n)[i]) d c).1 = _ from hadd.1]; exact Int.emod_lt_of_pos _ (by decide)
      · show 0 ≤ (Gf91_bits_Add32 ((dw n)[i]) d c).2
        rw [show (Gf91_bits_Add32 ((dw n)[i]) d c).2 = _ from hadd.2]; omega
      · show (Gf91_bits_Add32 ((dw n)[i]) d c).2 ≤ 1
        rw [show (Gf91_bits_Add32 ((dw n)[i]) d c).2 = _ from hadd.2]; omega
      · show IntKind.wrap .i64 ((i : Int) + 1) = _
        rw [wrapI_in (by omega)]; simp
      · show vw _ + _ * (Gf91_bits_Add32 ((dw n)[i]) d c).2 = _
        rw [show (Gf91_bits_Add32 ((dw n)[i]) d c).2 = _ from hadd.2, show (Gf91_bits_Add32 ((dw n)[i]) d c).1 = _ from hadd.1]
        unfold vw at hv1 hyd ⊢
        rw [vl_take_set (by omega), hyd, vl_take_succ hxi]
        have e2 := Int.emod_add_mul_ediv (((dw n)[i]) + d + c) 4294967296
        rw [Int.pow_succ, Int.mul_assoc, show (BW : Int) = 4294967296 from rfl]
        rw [show (BW : Int) = 4294967296 from rfl] at hv1
        have e3 : (4294967296 : Int) ^ i * ((((dw n)[i]) + d + c) % 4294967296) + (4294967296 : Int) ^ i * (4294967296 * ((((dw n)[i]) + d + c) / 4294967296)) = (4294967296 : Int) ^ i * (((dw n)[i]) + d + c) := by rw [← Int.mul_add, e2]
        rw [Int.mul_add, Int.mul_add] at e3
        omega
      · show (_ - IntKind.wrap .i64 ((i : Int) + 1)).toNat < _
        rw [wrapI_in (by omega)]; omega
    · have hie : i = (dw n).length := by omega
      subst hie
      refine ok_false (by simp only [decide_eq_false_iff_not]; omega) ?_
      refine ok_bnd.2 (ok_ixO hb (by omega) (by omega) ?_)
      rw [Int.toNat_natCast, ex]
      refine ok_wrO C (i := 0) rfl hb (by omega) fun w4 C4 => ?_
      have hd4 : DW (out.set (dw n).length c) := hd.set _ hc0 (by show c < 4294967296; omega)
      refine ok_bnd.2 (ok_mono (trim_own (C4.ret (i := 0) rfl) hd4) ?_)
      rintro r w5 ⟨rfl, hr, _⟩
      refine ok_ret.2 (ok_ret.2 ⟨C4.below, ?_⟩)
      have hval : vw (out.set (dw n).length c) = (n : Int) + m := by
        have h1 := vl_take_set (b := (BW : Int)) (l := out) (i := (dw n).length) (d := c) (by omega)
        rw [List.take_of_length_le (by simp; omega)] at h1
        rw [vw, h1]
        unfold vw at hv1
        rw [hv1, List.take_of_length_le (Nat.le_refl _), List.take_of_length_le (by omega)]
        have := vw_dw n; have := vw_dw m; unfold vw at *; omega
      rw [hval] at hr
      rw [show ((n : Int) + m).toNat = n + m by omega] at hr
      exact hr
  refine ok_bnd.2 ?_
  by_cases hc : x.len < y.len
  · refine ok_true (by simp only [decide_eq_true_eq]; omega) (ok_ret.2 ?_)
    have := key hy hx ly (by omega) w rfl
    rw [Nat.add_comm m n] at this
    exact this
  · exact ok_false (by simp only [decide_eq_false_iff_not]; omega) (ok_ret.2 (key hx hy lx (by omega) w rfl))
end Go.Proofs.Ytoekfjgikicclaa

namespace Go.Proofs.Ytoekfjgikicclaa
set_option linter.unusedVariables false
open Go.Sh Go.RowKit
set_option maxRecDepth 100000
/-! ### Numbers without a sign: difference, comparison -/
theorem sub_spec {B : Nat} {w : World} {x y : Sl} {n m : Nat} (hx : NN B w x n) (hy : NN B w y m) (lx : x.len ≤ 1000000000) (ly : y.len ≤ x.len) (hmn : m ≤ n) :
    Ok (f82_largeint_nat_sub x y) w fun r w' => Below w.heap.size w w' ∧ NO w.heap.size w' r (n - m) := by
  unfold f82_largeint_nat_sub
  have ex := hx.len
  have ey := hy.len
  refine ok_makeN slt50 (Cx.nil No w) (by omega) (by omega) (by omega) fun v w2 hv ⟨bl, hb⟩ C => ?_
  have hz : ((x.len : Int)).toNat = (dw n).length := by omega
  rw [hz] at C hv
  refine ok_loop (fun (q : Int × Int) w' => ∃ out, Cx No w w' [.own v (nums .u32 out)] ∧ out.length = (dw n).length ∧ DW out ∧ 0 ≤ q.1 ∧ q.1 ≤ 1 ∧ ∃ i : Nat, q.2 = i ∧ i ≤ (dw n).length ∧ vw (out.take i) - (BW : Int) ^ i * q.1 = vw ((dw n).take i) - vw ((dw m).take i))
    (fun q _ => ((dw n).length - q.2).toNat) ?_ _ _ ⟨_, C, by simp, Dg.zeros (by decide) _, Int.le_refl _, by decide, 0, rfl, Nat.zero_le _, by simp [vl]⟩
  rintro ⟨c, q⟩ w3 ⟨out, C, hl, hd, hc0, hc1, i, rfl, hi, hv1⟩
  simp only at hc0 hc1 hv1 ⊢
  by_cases hlt : i < (dw n).length
  · refine ok_true (by simp only [decide_eq_true_eq]; omega) ?_
    have hxi : (dw n)[i]? = some ((dw n)[i]) := List.getElem?_eq_getElem hlt
    have wx : W32 ((dw n)[i]) := (dw_dg n).get hxi
    have stepy : ∀ {K : Int → M ((Int × Int) ⊕ Sl)} {Q : (Int × Int) ⊕ Sl → World → Prop}, (∀ d, W32 d → vw ((dw m).take (i + 1)) = vw ((dw m).take i) + (BW : Int) ^ i * d → Ok (K d) w3 Q) →
        Ok (bnd (cnd (decide ((i : Int) < (y.len : Int))) (bnd (ix 1 y (i : Int)) fun (p5 : Addr) => bnd (ld (.int .u32) p5) fun (v6 : Int) => ret v6) (ret (0 : Int))) K) w3 Q := by
      intro K Q hK
      refine ok_bnd.2 ?_
      by_cases hym : i < (dw m).length
      · have hyi : (dw m)[i]? = some ((dw m)[i]) := List.getElem?_eq_getElem hym
        refine ok_true (by simp only [decide_eq_true_eq]; omega) ?_
        refine ok_get (C.old hy.size) (by omega) (n := (dw m)[i]) (by simp) (ok_ret.2 (hK _ ((dw_dg m).get hyi) (vl_take_succ hyi)))
      · refine ok_false (by simp only [decide_eq_false_iff_not]; omega) (ok_ret.2 (hK 0 ⟨by decide, by decide⟩ ?_))
        rw [vw, vl_take_past (by omega), Int.mul_zero, Int.add_zero]
    refine stepy fun d wd hyd => ?_
    refine ok_get (C.old hx.size) (by omega) (n := (dw n)[i]) (by simp) ?_
    have hsub := sub32 wx wd ⟨hc0, hc1⟩
    refine ok_ixO hb (by omega) (by omega) ?_
    rw [Int.toNat_natCast]
    have hs := wx.1; have hs2 := wx.2; have hs3 := wd.1; have hs4 := wd.2
    refine ok_wrO C (i := 0) rfl hb (by omega) fun w4 C4 => ok_ret.2 ⟨⟨out.set i ((Gf94_bits_Sub32 ((dw n)[i]) d c).1), C4, by simp [hl], hd.set _ ?_ ?_, ?_, ?_, i + 1, ?_, hlt, ?_⟩, ?_⟩
    · show 0 ≤ (Gf94_bits_Sub32 ((dw n)[i]) d c).1
      rw [show (Gf94_bits_Sub32 ((dw n)[i]) d c).1 = _ from hsub.1]; exact Int.emod_nonneg _ (by decide)
    · show (Gf94_bits_Sub32 ((dw n)[i]) d c).1 < _
      rw [show (Gf94_bits_Sub32 ((dw n)[i]) d c).1 = _ from hsub.1]; exact Int.emod_lt_of_pos _ (by decide)
    · show 0 ≤ (Gf94_bits_Sub32 ((dw n)[i]) d c).2
      rw [show (Gf94_bits_Sub32 ((dw n)[i]) d c).2 = _ from hsub.2]; omega
    · show (Gf94_bits_Sub32 ((dw n)[i]) d c).2 ≤ 1
      rw [show (Gf94_bits_Sub32 ((dw n)[i]) d c).2 = _ from hsub.2]; omega
    · show IntKind.wrap .i64 ((i : Int) + 1) = _
      rw [wrapI_in (by omega)]; simp
    · show vw _ - _ * (Gf94_bits_Sub32 ((dw n)[i]) d c).2 = _
      rw [show (Gf94_bits_Sub32 ((dw n)[i]) d c).2 = _ from hsub.2, show (Gf94_bits_Sub32 ((dw n)[i]) d c).1 = _ from hsub.1]
      unfold vw at hv1 hyd ⊢
      rw [vl_take_set (by omega), hyd, vl_take_succ hxi]
      have e2 := Int.emod_add_mul_ediv (((dw n)[i]) - d - c) 4294967296
      rw [Int.pow_succ, Int.mul_assoc, show (BW : Int) = 4294967296 from rfl]
      rw [show (BW : Int) = 4294967296 from rfl] at hv1
      have e3 : (4294967296 : Int) ^ i * ((((dw n)[i]) - d - c) % 4294967296) + (4294967296 : Int) ^ i * (4294967296 * ((((dw n)[i]) - d - c) / 4294967296)) = (4294967296 : Int) ^ i * (((dw n)[i]) - d - c) := by rw [← Int.mul_add, e2]
      rw [Int.mul_sub, Int.mul_sub] at e3
      rw [Int.mul_neg, Int.mul_neg]
      omega
    · show (_ - IntKind.wrap .i64 ((i : Int) + 1)).toNat < _
      rw [wrapI_in (by omega)]; omega
  · have hie : i = (dw n).length := by omega
    subst hie
    refine ok_false (by simp only [decide_eq_false_iff_not]; omega) ?_
    have hval : vw out = ((n - m : Nat) : Int) := by
      unfold vw at hv1 ⊢
      rw [List.take_of_length_le (show out.length ≤ _ by omega), List.take_of_length_le (Nat.le_refl _), List.take_of_length_le (by omega)] at hv1
      have h1 := vw_dw n; have h2 := vw_dw m
      unfold vw at h1 h2
      have h3 := vl_nonneg (b := (BW : Int)) (by decide) hd
      have h4 := vl_lt (b := (BW : Int)) (by decide) hd
      rw [hl] at h4
      have hc : c = 0 := by
        rcases (show c = 0 ∨ c = 1 by omega) with h | h
        · exact h
        · subst h; omega
      subst hc
      omega
    refine ok_bnd.2 (ok_bnd.2 (ok_mono (trim_own (C.ret (i := 0) rfl) hd) ?_))
    rintro r w5 ⟨rfl, hr, _⟩
    refine ok_ret.2 (ok_ret.2 ⟨C.below, ?_⟩)
    rw [hval, Int.toNat_natCast] at hr
    exact hr
def cmpN (n m : Nat) : Int := if n < m then -1 else if n = m then 0 else 1
theorem dw_lt {n m : Nat} (h : (dw n).length < (dw m).length) : n < m := by
  rcases Nat.lt_or_ge n m with h' | h'
  · exact h'
  · exfalso
    have h1 : n < BW ^ (dw n).length := lt_dgs hBW n
    have h2 : (dw m).length ≤ (dw n).length := dgs_length hBW (show m < BW ^ (dw n).length by omega)
    omega
theorem trim_id {B : Nat} {w : World} {s : Sl} {n : Nat} (H : NN B w s n) : Ok (f84_largeint_nat_trim s) w fun r w' => w' = w ∧ NN B w r n := by
  refine ok_mono (trim_spec H (dw_dg n)) ?_
  rintro r w' ⟨h1, h2, _⟩
  rw [vw_dw, Int.toNat_natCast] at h2
  exact ⟨h1, h2⟩
theorem vl_drop_take {b : Int} {l : List Int} (i : Nat) (hi : i ≤ l.length) : vl b l = vl b (l.take i) + b ^ i * vl b (l.drop i) := by
  have := vl_append (b := b) (l.take i) (l.drop i)
  rw [List.take_append_drop, List.length_take, Nat.min_eq_left hi] at this
  exact this
theorem cmp_spec {B B' : Nat} {w : World} {x y : Sl} {n m : Nat} (hx : NN B w x n) (hy : NN B' w y m) (lx : x.len ≤ 1000000000) (ly : y.len ≤ 1000000000) :
    Ok (f81_largeint_nat_cmp x y) w fun r w' => Below w.heap.size w w' ∧ r = cmpN n m := by
  unfold f81_largeint_nat_cmp
  refine ok_bnd.2 (ok_mono (trim_id hx) ?_)
  rintro x w1 ⟨rfl, hx⟩
  refine ok_bnd.2 (ok_mono (trim_id hy) ?_)
  rintro y w2 ⟨rfl, hy⟩
  have ex := hx.len
  have ey := hy.len
  by_cases hne : (dw n).length = (dw m).length
  rotate_left
  · refine ok_true (by simp; omega) ?_
    by_cases hlt : (dw n).length < (dw m).length
    · refine ok_true (by simp only [decide_eq_true_eq]; omega) (ok_ret.2 ⟨Below.refl _ _, ?_⟩)
      have := dw_lt hlt; unfold cmpN; rw [if_pos this]
    · refine ok_false (by simp only [decide_eq_false_iff_not]; omega) (ok_ret.2 ⟨Below.refl _ _, ?_⟩)
      have := dw_lt (show (dw m).length < (dw n).length by omega); unfold cmpN; rw [if_neg (by omega), if_neg (by omega)]
  refine ok_false (by simp; omega) ?_
  have hbd : (dw n).length ≤ maxLen := by have := hx.2.1; have := hx.2.2.1; omega
  have hml : maxLen = 9223372036854775807 := by decide
  have e0 : IntKind.wrap .i64 ((x.len : Int) - 1) = (x.len : Int) - 1 := wrapI_in (by omega)
  rw [e0]
  have vn := vw_dw n
  have vm := vw_dw m
  unfold vw at vn vm
  refine ok_loop (fun (q : Int) w' => Below w2.heap.size w2 w' ∧ ∃ i : Nat, q = (i : Int) - 1 ∧ i ≤ (dw n).length ∧ (dw n).drop i = (dw m).drop i) (fun q _ => (q + 1).toNat) ?_ _ _
    ⟨Below.refl _ _, (dw n).length, by omega, Nat.le_refl _, by rw [List.drop_of_length_le (Nat.le_refl _), List.drop_of_length_le (by omega)]⟩
  rintro q w3 ⟨hB, i, rfl, hi, hdr⟩
  by_cases hi0 : i = 0
  · subst hi0
    refine ok_false (by simp) (ok_ret.2 ⟨hB, ?_⟩)
    rw [List.drop_zero, List.drop_zero] at hdr
    rw [hdr, vm] at vn
    unfold cmpN; rw [if_neg (by omega), if_pos (by omega)]
  · obtain ⟨j, rfl⟩ : ∃ j, i = j + 1 := ⟨i - 1, by omega⟩
    have hxj : (dw n)[j]? = some ((dw n)[j]'(by omega)) := List.getElem?_eq_getElem (by omega)
    have hyj : (dw m)[j]? = some ((dw m)[j]'(by omega)) := List.getElem?_eq_getElem (by omega)
    have e1 : ((j + 1 : Nat) : Int) - 1 = (j : Int) := by omega
    rw [e1]
    refine ok_true (by simp) (ok_bnd.2 (ok_drawM.2 ?_))
    have hB1 := hB.drew
    refine ok_get (arr_below hx.size hB1) (by omega) (n := (dw n)[j]'(by omega)) (by rw [Int.toNat_natCast]; exact hxj) ?_
    refine ok_get (arr_below hy.size hB1) (by omega) (n := (dw m)[j]'(by omega)) (by rw [Int.toNat_natCast]; exact hyj) ?_
    -- the numbers by their words
    have hn1 := vl_drop_take (b := (BW : Int)) (l := dw n) (j + 1) (by omega)
    have hm1 := vl_drop_take (b := (BW : Int)) (l := dw m) (j + 1) (by omega)
    rw [vl_take_succ hxj] at hn1
    rw [vl_take_succ hyj] at hm1
    rw [hdr] at hn1
    have ln := vl_lt (b := (BW : Int)) (by decide) ((dw_dg n).take j)
    have lm := vl_lt (b := (BW : Int)) (by decide) ((dw_dg m).take j)
    have gn := vl_nonneg (b := (BW : Int)) (by decide) ((dw_dg n).take j)
    have gm := vl_nonneg (b := (BW : Int)) (by decide) ((dw_dg m).take j)
    rw [List.length_take, Nat.min_eq_left (by omega)] at ln lm
    have hp : (0 : Int) < (BW : Int) ^ j := Int.pow_pos (by decide)
    by_cases hlt : (dw n)[j]'(by omega) < (dw m)[j]'(by omega)
    · refine ok_true (by simpa using hlt) (ok_ret.2 ⟨hB1, ?_⟩)
      have h5 : (BW : Int) ^ j * ((dw n)[j]'(by omega) + 1) ≤ (BW : Int) ^ j * (dw m)[j]'(by omega) := Int.mul_le_mul_of_nonneg_left (by omega) (by omega)
      rw [Int.mul_add, Int.mul_one] at h5
      unfold cmpN; rw [if_pos (by omega)]
    · refine ok_false (by simpa using hlt) (ok_bnd.2 (ok_drawM.2 ?_))
      have hB2 := hB1.drew
      refine ok_get (arr_below hx.size hB2) (by omega) (n := (dw n)[j]'(by omega)) (by rw [Int.toNat_natCast]; exact hxj) ?_
      refine ok_get (arr_below hy.size hB2) (by omega) (n := (dw m)[j]'(by omega)) (by rw [Int.toNat_natCast]; exact hyj) ?_
      by_cases hgt : (dw m)[j]'(by omega) < (dw n)[j]'(by omega)
      · refine ok_true (by simpa using hgt) (ok_ret.2 ⟨hB2, ?_⟩)
        have h5 : (BW : Int) ^ j * ((dw m)[j]'(by omega) + 1) ≤ (BW : Int) ^ j * (dw n)[j]'(by omega) := Int.mul_le_mul_of_nonneg_left (by omega) (by omega)
        rw [Int.mul_add, Int.mul_one] at h5
        unfold cmpN; rw [if_neg (by omega), if_neg (by omega)]
      · refine ok_false (by simpa using hgt) (ok_ret.2 ⟨⟨hB2, j, ?_, by omega, ?_⟩, ?_⟩)
        · rw [wrapI_in (by omega)]
        · rw [List.drop_eq_getElem_cons (show j < (dw n).length by omega), List.drop_eq_getElem_cons (show j < (dw m).length by omega), hdr, show (dw n)[j]'(by omega) = (dw m)[j]'(by omega) by omega]
        · rw [wrapI_in (by omega)]; omega
end Go.Proofs.Ytoekfjgikicclaa
