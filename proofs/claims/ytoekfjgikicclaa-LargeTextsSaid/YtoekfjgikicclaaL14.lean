/-
  Parts of the proof: L11, L12, L13, L14. It states what the functions do; no further condition.
-/
import Derived.Test.YtoekfjgikicclaaL10
set_option linter.unusedVariables false
set_option linter.unusedSimpArgs false
namespace Go.Proofs.Ytoekfjgikicclaa
set_option linter.unusedVariables false
open Go.Sh Go.RowKit
set_option maxRecDepth 100000
/-! ### Shifts to the left -/
theorem bOr32_nat (a b : Nat) (ha : a < 4294967296) (hb : b < 4294967296) : bOr .u32 a b = ((a ||| b : Nat) : Int) := by
  rw [bOr_bi]
  unfold bi ib
  rw [BitVec.toNat_or, BitVec.toNat_ofInt, BitVec.toNat_ofInt]
  rw [show ((a : Int) % ((2 ^ 32 : Nat) : Int)).toNat = a by omega, show ((b : Int) % ((2 ^ 32 : Nat) : Int)).toNat = b by omega]
theorem bOr32_add {a b : Int} {p : Nat} (ha : 0 ≤ a ∧ a < 2 ^ p) (hb : 0 ≤ b) (h : a + b * 2 ^ p < 4294967296) : bOr .u32 a (b * 2 ^ p) = a + b * 2 ^ p := by
  obtain ⟨a, rfl⟩ := Int.eq_ofNat_of_zero_le ha.1
  obtain ⟨b, rfl⟩ := Int.eq_ofNat_of_zero_le hb
  have e : ((b : Int) * 2 ^ p) = (((b * 2 ^ p : Nat)) : Int) := by simp
  have ha2 : a < 2 ^ p := by
    have := ha.2
    have e2 : ((2 : Int) ^ p) = (((2 ^ p : Nat)) : Int) := by simp
    rw [e2] at this; omega
  rw [e] at h ⊢
  have h3 : (0 : Int) ≤ ((b * 2 ^ p : Nat) : Int) := Int.natCast_nonneg _
  rw [bOr32_nat _ _ (by omega) (by omega), Nat.or_comm, ← Nat.shiftLeft_eq, ← Nat.shiftLeft_add_eq_or_of_lt ha2]
  omega
theorem left_spec {B : Nat} {w : World} {x : Sl} {n : Nat} {by_ : Int} (hx : NN B w x n) (lx : x.len ≤ 1000000000) (h0 : 0 ≤ by_) (h1 : by_ ≤ 1000000000) :
    Ok (f70_largeint_nat_left x by_) w fun r w' => Below w.heap.size w w' ∧ NO w.heap.size w' r (n * 2 ^ by_.toNat) := by
  unfold f70_largeint_nat_left
  obtain ⟨W, hW⟩ : ∃ W : Nat, by_ / 32 = (W : Int) := ⟨(by_ / 32).toNat, by omega⟩
  obtain ⟨p, hp⟩ : ∃ p : Nat, by_ % 32 = (p : Int) := ⟨(by_ % 32).toNat, by omega⟩
  have hp32 : p < 32 := by omega
  have ew : IntKind.wrap .i64 (IntKind.wrap .u64 (Int.tdiv by_ (32 : Int))) = (W : Int) := by
    rw [Int.tdiv_eq_ediv_of_nonneg h0, hW, wrapU_in (by omega), wrapI_in (by omega)]
  have ep : Int.tmod by_ (32 : Int) = (p : Int) := by rw [Int.tmod_eq_emod_of_nonneg h0, hp]
  have ex := hx.len
  rw [ew, ep]
  have e0 : IntKind.wrap .i64 ((IntKind.wrap .i64 ((W : Int) + (x.len : Int))) + (1 : Int)) = (W : Int) + (x.len : Int) + 1 := by rw [wrapI_in (n := (W : Int) + (x.len : Int)) (by omega), wrapI_in (by omega)]
  rw [e0]
  refine ok_makeN slt50 (Cx.nil No w) (by omega) (by omega) (by omega) fun v w2 hv ⟨bl, hb⟩ C => ?_
  have hz : ((W : Int) + (x.len : Int) + 1).toNat = W + (dw n).length + 1 := by omega
  rw [hz] at C hv
  have vn := vw_dw n
  unfold vw at vn
  have hpp : (0 : Int) < 2 ^ p := Int.pow_pos (by decide)
  have hpk : (2 : Int) ^ p * 2 ^ (32 - p) = 4294967296 := by rw [← Int.pow_add, show p + (32 - p) = 32 by omega]; rfl
  have hpl : (2 : Int) ^ p ≤ 2147483648 := by
    have h : 2 ^ p ≤ 2 ^ 31 := Nat.pow_le_pow_right (by decide) (by omega)
    have e : ((2 : Int) ^ p) = ((2 ^ p : Nat) : Int) := by simp
    rw [e]; omega
  refine ok_loop (fun (q : Int) w' => ∃ out, Cx No w w' [.own v (nums .u32 out)] ∧ out.length = W + (dw n).length + 1 ∧ DW out ∧ ∃ i : Nat, q = i ∧ i ≤ (dw n).length ∧ vl (BW : Int) out = (BW : Int) ^ W * 2 ^ p * vl (BW : Int) ((dw n).take i) ∧ (∃ t, out[W + i]? = some t ∧ 0 ≤ t ∧ t < 2 ^ p) ∧ ∀ j, W + i < j → j < out.length → out[j]? = some 0)
    (fun q _ => ((dw n).length - q).toNat) ?_ _ _ ⟨_, C, by simp, Dg.zeros (by decide) _, 0, rfl, Nat.zero_le _, by rw [vl_zeros, List.take_zero, vl_nil, Int.mul_zero], ⟨0, by rw [List.getElem?_replicate, if_pos (by omega)], Int.le_refl _, hpp⟩, fun j _ hj => by rw [List.length_replicate] at hj; rw [List.getElem?_replicate, if_pos hj]⟩
  rintro q w3 ⟨out, C, hl, hd, i, rfl, hi, hv1, ⟨t, ht, ht0, ht1⟩, hzs⟩
  by_cases hlt : i < (dw n).length
  · refine ok_true (by simp only [decide_eq_true_eq]; omega) ?_
    have hxi : (dw n)[i]? = some ((dw n)[i]) := List.getElem?_eq_getElem hlt
    have wx : W32 ((dw n)[i]) := (dw_dg n).get hxi
    refine ok_get (C.old hx.size) (by omega) (n := (dw n)[i]) (by simp) ?_
    generalize (dw n)[i] = a at hxi wx
    have hx1 := wx.1; have hx2 := wx.2
    refine ok_bnd.2 (ok_cnt.2 ⟨by omega, ?_⟩)
    have e1 : IntKind.wrap .i64 ((W : Int) + (i : Int)) = ((W + i : Nat) : Int) := by rw [wrapI_in (by omega)]; omega
    have e2 : IntKind.wrap .i64 ((IntKind.wrap .i64 ((W : Int) + (i : Int))) + (1 : Int)) = ((W + i + 1 : Nat) : Int) := by rw [e1, wrapI_in (by omega)]; omega
    rw [e2, e1, Int.toNat_natCast]
    have hs : shlI .u64 (IntKind.wrap .u64 a) p = a * 2 ^ p := by
      have h5 : a * 2 ^ p ≤ 4294967296 * 2147483648 := Int.mul_le_mul (by omega) hpl (by omega) (by decide)
      have h6 : 0 ≤ a * 2 ^ p := Int.mul_nonneg hx1 (by omega)
      rw [wrapU_in (by omega), shl_u64 _ _ (by omega)]; omega
    rw [hs]
    have hS0 : 0 ≤ a * 2 ^ p := Int.mul_nonneg hx1 (by omega)
    -- the low word is a multiple of the power
    have hlow : a * 2 ^ p % 4294967296 = (a % 2 ^ (32 - p)) * 2 ^ p := by
      rw [← hpk, Int.mul_comm a, Int.mul_emod_mul_of_pos _ _ hpp, Int.mul_comm]
    have hk0 : (0 : Int) < 2 ^ (32 - p) := Int.pow_pos (by decide)
    have hm0 := Int.emod_nonneg a (show (2 : Int) ^ (32 - p) ≠ 0 by omega)
    have hm1 := Int.emod_lt_of_pos a hk0
    have hsum : t + (a % 2 ^ (32 - p)) * 2 ^ p < 4294967296 := by
      have h7 : (a % 2 ^ (32 - p) + 1) * 2 ^ p ≤ 2 ^ (32 - p) * 2 ^ p := Int.mul_le_mul_of_nonneg_right (by omega) (by omega)
      rw [Int.mul_comm (2 ^ (32 - p)), hpk, Int.add_mul] at h7
      omega
    have hprod0 : 0 ≤ (a % 2 ^ (32 - p)) * 2 ^ p := Int.mul_nonneg hm0 (by omega)
    refine ok_ixO hb (by omega) (by omega) ?_
    rw [Int.toNat_natCast]
    refine ok_ldO C (i := 0) rfl hb ht ?_
    refine ok_ixO hb (by omega) (by omega) ?_
    rw [Int.toNat_natCast, wrapU32, hlow, bOr32_add ⟨ht0, ht1⟩ hm0 hsum]
    refine ok_wrO C (i := 0) rfl hb (by omega) fun w5 C5 => ?_
    simp only [List.set_cons_zero] at C5
    refine ok_ixO hb (by omega) (by omega) ?_
    rw [Int.toNat_natCast]
    have hhi : IntKind.wrap .u32 (shrI .u64 (a * 2 ^ p) 32) = a * 2 ^ p / 4294967296 := by
      rw [shr_eq .u64 _ 32 (by decide), show (2 : Int) ^ 32 = 4294967296 from rfl]
      have h5 : a * 2 ^ p ≤ 4294967296 * 2147483648 := Int.mul_le_mul (by omega) hpl (by omega) (by decide)
      rw [wrapU32_in ⟨by omega, by omega⟩]
    rw [hhi]
    have hh1 : a * 2 ^ p / 4294967296 < 2 ^ p := by
      refine Int.ediv_lt_of_lt_mul (by decide) ?_
      rw [Int.mul_comm]
      exact Int.mul_lt_mul_of_pos_left hx2 hpp
    have hh0 : 0 ≤ a * 2 ^ p / 4294967296 := by omega
    refine ok_wrO C5 (i := 0) rfl hb (by simp; omega) fun w6 C6 => ok_ret.2 ⟨⟨_, C6, by simp [hl], (hd.set _ (by omega) (by show t + _ < 4294967296; omega)).set _ hh0 (by show _ < (4294967296 : Int); omega), i + 1, ?_, hlt, ?_, ⟨_, by rw [← Nat.add_assoc, List.getElem?_set]; simp; omega, hh0, hh1⟩, ?_⟩, ?_⟩
    · rw [wrapI_in (by omega)]; simp
    · have hz1 : (out.set (W + i) (t + a % 2 ^ (32 - p) * 2 ^ p))[W + i + 1]? = some 0 := by
        rw [List.getElem?_set_ne (by omega)]; exact hzs _ (by omega) (by omega)
      rw [vl_set hz1, vl_set ht, vl_take_succ hxi, hv1, Int.sub_zero]
      have hdm := Int.emod_add_mul_ediv (a * 2 ^ p) 4294967296
      rw [hlow] at hdm
      have e5 : (BW : Int) ^ (W + i) * (t + a % 2 ^ (32 - p) * 2 ^ p - t) + (BW : Int) ^ (W + i + 1) * (a * 2 ^ p / 4294967296) = (BW : Int) ^ (W + i) * (a * 2 ^ p) := by
        rw [Int.pow_succ, Int.mul_assoc, show ((BW : Nat) : Int) * (a * 2 ^ p / 4294967296) = 4294967296 * (a * 2 ^ p / 4294967296) from rfl, ← Int.mul_add]
        congr 1; omega
      rw [Int.mul_add, Int.add_assoc, e5]
      congr 1
      rw [Int.pow_add, Int.mul_assoc, Int.mul_assoc, Int.mul_left_comm (2 ^ p), Int.mul_comm a]
    · intro j hj hjl
      simp only [List.length_set] at hjl
      rw [List.getElem?_set_ne (by omega), List.getElem?_set_ne (by omega)]
      exact hzs j (by omega) hjl
    · rw [wrapI_in (by omega)]; omega
  · have hie : i = (dw n).length := by omega
    subst hie
    refine ok_false (by simp only [decide_eq_false_iff_not]; omega) ?_
    rw [List.take_of_length_le (Nat.le_refl _), vn] at hv1
    refine ok_bnd.2 (ok_bnd.2 (ok_mono (trim_own (C.ret (i := 0) rfl) hd) ?_))
    rintro r w5 ⟨rfl, hr, _⟩
    refine ok_ret.2 (ok_ret.2 ⟨C.below, ?_⟩)
    have e9 : vl (BW : Int) out = ((n * 2 ^ by_.toNat : Nat) : Int) := by
      rw [hv1, show by_.toNat = 32 * W + p by omega, Nat.pow_add, Nat.pow_mul]
      rw [Int.natCast_mul, Int.natCast_mul, Int.mul_comm (n : Int)]
      congr 1
    rw [vw, e9, Int.toNat_natCast] at hr
    exact hr
end Go.Proofs.Ytoekfjgikicclaa

namespace Go.Proofs.Ytoekfjgikicclaa
set_option linter.unusedVariables false
open Go.Sh Go.RowKit
set_option maxRecDepth 100000
/-! ### How many bits -/
/-- The length in bits. -/
def BL (n : Nat) (k : Nat) : Prop := n < 2 ^ k ∧ (n ≠ 0 → 2 ^ (k - 1) ≤ n) ∧ (n = 0 → k = 0)
theorem ok_ixS {α : Type} {s : ByteArray} {i : Int} {t : UInt8} {w : World} {f : Int → M α} {Q : α → World → Prop} (h0 : 0 ≤ i) (h : s[i.toNat]? = some t) (hq : Ok (f t.toNat) w Q) : Ok (bnd (ixS s i) f) w Q := by
  refine ok_bnd.2 ?_
  unfold ixS
  rw [if_pos h0, h]
  exact ok_ret.2 hq
theorem ba_get (s : ByteArray) (i : Nat) : s[i]? = s.data.toList[i]? := by
  rw [Array.getElem?_toList]
  by_cases h : i < s.size
  · rw [getElem?_pos s i h, Array.getElem?_eq_getElem h]; rfl
  · rw [getElem?_neg s i h, Array.getElem?_eq_none (Nat.le_of_not_lt h)]
def lenT : ByteArray := ByteArray.mk #[0, 1, 2, 2, 3, 3, 3, 3, 4, 4, 4, 4, 4, 4, 4, 4, 5, 5, 5, 5, 5, 5, 5, 5, 5, 5, 5, 5, 5, 5, 5, 5, 6, 6, 6, 6, 6, 6, 6, 6, 6, 6, 6, 6, 6, 6, 6, 6, 6, 6, 6, 6, 6, 6, 6, 6, 6, 6, 6, 6, 6, 6, 6, 6, 7, 7, 7, 7, 7, 7, 7, 7, 7, 7, 7, 7, 7, 7, 7, 7, 7, 7, 7, 7, 7, 7, 7, 7, 7, 7, 7, 7, 7, 7, 7, 7, 7, 7, 7, 7, 7, 7, 7, 7, 7, 7, 7, 7, 7, 7, 7, 7, 7, 7, 7, 7, 7, 7, 7, 7, 7, 7, 7, 7, 7, 7, 7, 7, 8, 8, 8, 8, 8, 8, 8, 8, 8, 8, 8, 8, 8, 8, 8, 8, 8, 8, 8, 8, 8, 8, 8, 8, 8, 8, 8, 8, 8, 8, 8, 8, 8, 8, 8, 8, 8, 8, 8, 8, 8, 8, 8, 8, 8, 8, 8, 8, 8, 8, 8, 8, 8, 8, 8, 8, 8, 8, 8, 8, 8, 8, 8, 8, 8, 8, 8, 8, 8, 8, 8, 8, 8, 8, 8, 8, 8, 8, 8, 8, 8, 8, 8, 8, 8, 8, 8, 8, 8, 8, 8, 8, 8, 8, 8, 8, 8, 8, 8, 8, 8, 8, 8, 8, 8, 8, 8, 8, 8, 8, 8, 8, 8, 8, 8, 8, 8, 8, 8, 8, 8, 8, 8, 8, 8, 8, 8, 8]
def lenL : List UInt8 := lenT.data.toList
theorem len_tab : ∀ i : Fin 256, (match lenL[i.val]? with | some t => decide (t.toNat ≤ 8 ∧ i.val < 2 ^ t.toNat ∧ (i.val ≠ 0 → 2 ^ (t.toNat - 1) ≤ i.val) ∧ (i.val = 0 → t.toNat = 0)) | none => false) = true := by decide
theorem len_at (i : Nat) (h : i < 256) : ∃ t : UInt8, (ByteArray.mk #[0, 1, 2, 2, 3, 3, 3, 3, 4, 4, 4, 4, 4, 4, 4, 4, 5, 5, 5, 5, 5, 5, 5, 5, 5, 5, 5, 5, 5, 5, 5, 5, 6, 6, 6, 6, 6, 6, 6, 6, 6, 6, 6, 6, 6, 6, 6, 6, 6, 6, 6, 6, 6, 6, 6, 6, 6, 6, 6, 6, 6, 6, 6, 6, 7, 7, 7, 7, 7, 7, 7, 7, 7, 7, 7, 7, 7, 7, 7, 7, 7, 7, 7, 7, 7, 7, 7, 7, 7, 7, 7, 7, 7, 7, 7, 7, 7, 7, 7, 7, 7, 7, 7, 7, 7, 7, 7, 7, 7, 7, 7, 7, 7, 7, 7, 7, 7, 7, 7, 7, 7, 7, 7, 7, 7, 7, 7, 7, 8, 8, 8, 8, 8, 8, 8, 8, 8, 8, 8, 8, 8, 8, 8, 8, 8, 8, 8, 8, 8, 8, 8, 8, 8, 8, 8, 8, 8, 8, 8, 8, 8, 8, 8, 8, 8, 8, 8, 8, 8, 8, 8, 8, 8, 8, 8, 8, 8, 8, 8, 8, 8, 8, 8, 8, 8, 8, 8, 8, 8, 8, 8, 8, 8, 8, 8, 8, 8, 8, 8, 8, 8, 8, 8, 8, 8, 8, 8, 8, 8, 8, 8, 8, 8, 8, 8, 8, 8, 8, 8, 8, 8, 8, 8, 8, 8, 8, 8, 8, 8, 8, 8, 8, 8, 8, 8, 8, 8, 8, 8, 8, 8, 8, 8, 8, 8, 8, 8, 8, 8, 8, 8, 8, 8, 8, 8, 8])[i]? = some t ∧ t.toNat ≤ 8 ∧ BL i t.toNat := by
  have h1 := len_tab ⟨i, h⟩
  simp only at h1
  split at h1
  · rename_i t ht
    simp only [decide_eq_true_eq] at h1
    refine ⟨t, ?_, h1.1, h1.2⟩
    rw [← ht]
    exact ba_get lenT i
  · cases h1
theorem bl_shift {n q k s : Nat} (hq : q = n / 2 ^ s) (hs : q ≠ 0) (h : BL q k) : BL n (k + s) := by
  have hp : 0 < 2 ^ s := Nat.two_pow_pos s
  have hk : k ≠ 0 := by rintro rfl; have := h.1; simp at this; omega
  have e := Nat.div_add_mod n (2 ^ s)
  have hm := Nat.mod_lt n hp
  rw [← hq] at e
  refine ⟨?_, fun _ => ?_, fun hn => ?_⟩
  · rw [Nat.pow_add]
    have h1 : (q + 1) * 2 ^ s ≤ 2 ^ k * 2 ^ s := Nat.mul_le_mul_right _ h.1
    rw [Nat.add_mul, Nat.one_mul, Nat.mul_comm q] at h1
    omega
  · have h1 := Nat.mul_le_mul_right (2 ^ s) (h.2.1 hs)
    rw [← Nat.pow_add, Nat.mul_comm q] at h1
    rw [show k + s - 1 = k - 1 + s by omega]
    omega
  · subst hn; simp at hq; exact absurd hq hs
theorem len_fin {x z : Int} {u : Nat} {w : World} (h0 : 0 ≤ x) (hz0 : 0 ≤ z) (hz1 : z < 256) (hu : u ≤ 24) (hz : z.toNat = x.toNat / 2 ^ u) (hne : u ≠ 0 → z ≠ 0) {f : Int → M Int} (hf : ∀ t : Int, f t = ret (IntKind.wrap .i64 ((u : Int) + (IntKind.wrap .i64 t)))) {T : ByteArray} (hT : T = lenT) :
    Ok (bnd (ixS T (IntKind.wrap .u8 z)) f) w fun r w' => w' = w ∧ ∃ k : Nat, r = k ∧ k ≤ 32 ∧ BL x.toNat k := by
  subst hT
  have e : IntKind.wrap .u8 z = z := by simp [IntKind.wrap, IntKind.bits, IntKind.signed]; omega
  rw [e]
  obtain ⟨t, ht, ht8, hbl⟩ := len_at z.toNat (by omega)
  refine ok_ixS hz0 ht ?_
  rw [hf]
  refine ok_ret.2 ⟨rfl, t.toNat + u, ?_, by omega, ?_⟩
  · rw [wrapI_in (n := (t.toNat : Int)) (by omega), wrapI_in (by omega)]; omega
  · by_cases hu0 : u = 0
    · subst hu0
      rw [Nat.pow_zero, Nat.div_one] at hz
      rw [← hz]; exact hbl
    · exact bl_shift hz (by have := hne hu0; omega) hbl
theorem len32_spec {x : Int} {w : World} (hx : W32 x) : Ok (f93_bits_Len32 x) w fun r w' => w' = w ∧ ∃ k : Nat, r = k ∧ k ≤ 32 ∧ BL x.toNat k := by
  unfold f93_bits_Len32
  have h0 := hx.1; have h1 := hx.2
  have e16 : shrI .u32 x 16 = x / 65536 := by rw [shr_eq .u32 _ 16 (by decide)]; rfl
  have e8 : ∀ y, shrI .u32 y 8 = y / 256 := fun y => by rw [shr_eq .u32 _ 8 (by decide)]; rfl
  by_cases h : 65536 ≤ x
  · refine ok_bnd.2 (ok_true (by simp only [ge_iff_le, decide_eq_true_eq]; exact h) (ok_ret.2 ?_))
    dsimp only
    rw [e16]
    by_cases h' : 256 ≤ x / 65536
    · refine ok_bnd.2 (ok_true (by simp only [ge_iff_le, decide_eq_true_eq]; exact h') (ok_ret.2 ?_))
      dsimp only
      rw [e8]
      exact len_fin (u := 24) h0 (by omega) (by omega) (by decide) (by omega) (by omega) (fun t => by rw [wrapI_in (n := 16 + 8) (by omega)]; rfl) rfl
    · refine ok_bnd.2 (ok_false (by simp only [ge_iff_le, decide_eq_false_iff_not]; exact h') (ok_ret.2 ?_))
      dsimp only
      exact len_fin (u := 16) h0 (by omega) (by omega) (by decide) (by omega) (by omega) (fun t => rfl) rfl
  · refine ok_bnd.2 (ok_false (by simp only [ge_iff_le, decide_eq_false_iff_not]; exact h) (ok_ret.2 ?_))
    dsimp only
    by_cases h' : 256 ≤ x
    · refine ok_bnd.2 (ok_true (by simp only [ge_iff_le, decide_eq_true_eq]; exact h') (ok_ret.2 ?_))
      dsimp only
      rw [e8]
      exact len_fin (u := 8) h0 (by omega) (by omega) (by decide) (by omega) (by omega) (fun t => by rw [wrapI_in (n := 0 + 8) (by omega)]; rfl) rfl
    · refine ok_bnd.2 (ok_false (by simp only [ge_iff_le, decide_eq_false_iff_not]; exact h') (ok_ret.2 ?_))
      dsimp only
      exact len_fin (u := 0) h0 (by omega) (by omega) (by decide) (by omega) (by omega) (fun t => rfl) rfl
/-- How many noughts stand ahead of a word. -/
theorem lead_spec {x : Int} {w : World} (hx : W32 x) : Ok (f85_bits_LeadingZeros32 x) w fun r w' => w' = w ∧ ∃ k : Nat, r = ((32 - k : Nat) : Int) ∧ k ≤ 32 ∧ BL x.toNat k := by
  unfold f85_bits_LeadingZeros32
  refine ok_bnd.2 (ok_mono (len32_spec hx) ?_)
  rintro _ w' ⟨rfl, k, rfl, hk, hb⟩
  exact ok_ret.2 ⟨rfl, k, by rw [wrapI_in (by omega)]; omega, hk, hb⟩
end Go.Proofs.Ytoekfjgikicclaa

/-
  A guess at a quotient's next word, and how it is mended: the numbers alone. No program in sight.
-/
namespace Go.Sh
set_option linter.unusedVariables false
/-- What a guess says: the words on top and below. -/
structure Top (B U V u0 u1 u2 v1 v2 : Int) : Prop where
  hB : 0 < B
  u0n : 0 ≤ u0
  u1n : 0 ≤ u1
  u1l : u1 < 4294967296
  u2n : 0 ≤ u2
  u2l : u2 < 4294967296
  v1l : 2147483648 ≤ v1
  v1u : v1 < 4294967296
  v2n : 0 ≤ v2
  v2u : v2 < 4294967296
  U0 : B * (u2 + 4294967296 * (u1 + 4294967296 * u0)) ≤ U
  U1 : U < B * (u2 + 4294967296 * (u1 + 4294967296 * u0)) + B
  V0 : B * (v2 + 4294967296 * v1) ≤ V
  V1 : V < B * (v2 + 4294967296 * v1) + B
  lt : U < 4294967296 * V
variable {B U V u0 u1 u2 v1 v2 g r : Int}
theorem lt_of_mul (hB : 0 < B) {x y : Int} (h : B * x < B * y) : x < y := Int.lt_of_mul_lt_mul_left h (by omega)
theorem Top.Vpos (h : Top B U V u0 u1 u2 v1 v2) : 0 < V := by
  have h1 := h.V0; have h2 := h.hB; have h3 := h.v2n; have h4 := h.v1l
  have : 0 < B * (v2 + 4294967296 * v1) := Int.mul_pos h2 (by omega)
  omega
/-- The first word is not above the divisor's. -/
theorem Top.u0le (h : Top B U V u0 u1 u2 v1 v2) : u0 ≤ v1 := by
  have h1 := h.U0; have h2 := h.V1; have h3 := h.lt; have hB := h.hB
  have h4 : B * (u2 + 4294967296 * (u1 + 4294967296 * u0)) < B * (4294967296 * (v2 + 4294967296 * v1 + 1)) := by grind
  have h5 := lt_of_mul hB h4
  have := h.u1n; have := h.u2n; have := h.v2u
  omega
/-- A guess is not below the quotient. -/
def Gs (U V u0 u1 v1 g r : Int) : Prop := g * v1 + r = 4294967296 * u0 + u1 ∧ 0 ≤ g ∧ 0 ≤ r ∧ U < (g + 1) * V
theorem Top.first (h : Top B U V u0 u1 u2 v1 v2) : Gs U V u0 u1 v1 ((4294967296 * u0 + u1) / v1) ((4294967296 * u0 + u1) % v1) := by
  have a1 := h.u0n; have a2 := h.u1n; have a3 := h.v1l; have hB := h.hB
  have e := Int.emod_add_mul_ediv (4294967296 * u0 + u1) v1
  have hr := Int.emod_nonneg (4294967296 * u0 + u1) (show v1 ≠ 0 by omega)
  have hr1 := Int.emod_lt_of_pos (4294967296 * u0 + u1) (show 0 < v1 by omega)
  have hg : 0 ≤ (4294967296 * u0 + u1) / v1 := Int.ediv_nonneg (by omega) (by omega)
  refine ⟨by rw [Int.mul_comm]; omega, hg, hr, ?_⟩
  generalize (4294967296 * u0 + u1) / v1 = g at *
  generalize (4294967296 * u0 + u1) % v1 = r at *
  -- U < B * (b * (top + 1)), top + 1 ≤ (g + 1) * v1
  have t1 : 4294967296 * u0 + u1 + 1 ≤ (g + 1) * v1 := by grind
  have t2 : u2 + 4294967296 * (u1 + 4294967296 * u0) + 1 ≤ (g + 1) * (v2 + 4294967296 * v1) := by
    have t3 : 0 ≤ (g + 1) * v2 := Int.mul_nonneg (by omega) h.v2n
    have := h.u2l
    have t0 : (g + 1) * (v2 + 4294967296 * v1) = (g + 1) * v2 + 4294967296 * ((g + 1) * v1) := by grind
    omega
  have t4 := Int.mul_le_mul_of_nonneg_left t2 (Int.le_of_lt hB)
  have t5 := Int.mul_le_mul_of_nonneg_left h.V0 (show 0 ≤ g + 1 by omega)
  have t6 := h.U1
  have t7 : B * ((g + 1) * (v2 + 4294967296 * v1)) = (g + 1) * (B * (v2 + 4294967296 * v1)) := Int.mul_left_comm _ _ _
  rw [Int.mul_add, Int.mul_one] at t4
  omega
theorem Top.mend (h : Top B U V u0 u1 u2 v1 v2) (k : Gs U V u0 u1 v1 g r) (hc : 4294967296 ≤ g ∨ r * 4294967296 + u2 < g * v2) : 1 ≤ g ∧ Gs U V u0 u1 v1 (g - 1) (r + v1) := by
  obtain ⟨k1, k2, k3, k4⟩ := k
  have hV := h.Vpos
  have hUg : U < g * V := by
    rcases hc with hc | hc
    · have := Int.mul_le_mul_of_nonneg_right hc (Int.le_of_lt hV)
      have := h.lt
      omega
    · have t1 : u2 + 4294967296 * (u1 + 4294967296 * u0) + 1 ≤ g * (v2 + 4294967296 * v1) := by
        have t0 : g * (v2 + 4294967296 * v1) = g * v2 + 4294967296 * (g * v1) := by grind
        omega
      have t4 := Int.mul_le_mul_of_nonneg_left t1 (Int.le_of_lt h.hB)
      have t5 := Int.mul_le_mul_of_nonneg_left h.V0 k2
      have t6 := h.U1
      have t7 : B * (g * (v2 + 4294967296 * v1)) = g * (B * (v2 + 4294967296 * v1)) := Int.mul_left_comm _ _ _
      rw [Int.mul_add, Int.mul_one] at t4
      omega
  have hg1 : 1 ≤ g := by
    rcases Int.lt_or_le g 1 with hlt | hge
    · have : g = 0 := by omega
      subst this
      have h1 := h.U0
      have h2 : 0 ≤ B * (u2 + 4294967296 * (u1 + 4294967296 * u0)) := Int.mul_nonneg (Int.le_of_lt h.hB) (by have := h.u0n; have := h.u1n; have := h.u2n; omega)
      omega
    · exact hge
  refine ⟨hg1, ?_, by omega, by have := h.v1l; omega, by rw [Int.sub_add_cancel]; exact hUg⟩
  rw [Int.sub_mul, Int.one_mul]; omega
/-- A guess that needs no more mending is at most one too great. -/
theorem Top.last (h : Top B U V u0 u1 u2 v1 v2) (k : Gs U V u0 u1 v1 g r) (hc : 4294967296 ≤ r ∨ g < 4294967296 ∧ g * v2 ≤ r * 4294967296 + u2) : g < 4294967296 ∧ (g - 1) * V ≤ U := by
  obtain ⟨k1, k2, k3, k4⟩ := k
  have hu0 := h.u0le
  have hv1 := h.v1l
  have hgb : g < 4294967296 := by
    rcases hc with hc | hc
    · have : g * v1 < 4294967296 * v1 := by have := h.u1l; omega
      exact Int.lt_of_mul_lt_mul_right this (by omega)
    · exact hc.1
  refine ⟨hgb, ?_⟩
  have t1 : g * (v2 + 4294967296 * v1) ≤ u2 + 4294967296 * (u1 + 4294967296 * u0) := by
    have t0 : g * (v2 + 4294967296 * v1) = g * v2 + 4294967296 * (g * v1) := by grind
    rcases hc with hc | hc
    · have t2 : g * v2 ≤ 4294967296 * 4294967296 := Int.mul_le_mul (by omega) (by have := h.v2u; omega) h.v2n (by decide)
      have := h.u2n
      omega
    · omega
  have t2 := Int.mul_le_mul_of_nonneg_left t1 (Int.le_of_lt h.hB)
  have t3 := h.U0
  have t4 : g * V ≤ g * (B * (v2 + 4294967296 * v1) + B) := Int.mul_le_mul_of_nonneg_left (by have := h.V1; omega) k2
  have t5 : B * g ≤ B * 4294967296 := Int.mul_le_mul_of_nonneg_left (by omega) (Int.le_of_lt h.hB)
  have t6 : B * 4294967296 ≤ V := by
    have := h.V0
    have t7 : B * 4294967296 ≤ B * (v2 + 4294967296 * v1) := Int.mul_le_mul_of_nonneg_left (by have := h.v2n; omega) (Int.le_of_lt h.hB)
    omega
  grind
theorem Top.small (h : Top B U V u0 u1 u2 v1 v2) (k : Gs U V u0 u1 v1 g r) : g < 8589934592 := by
  obtain ⟨k1, k2, k3, k4⟩ := k
  have h1 := h.u0le
  have h2 := h.v1l
  have h3 := h.v1u
  have h4 : g * 2147483648 ≤ g * v1 := Int.mul_le_mul_of_nonneg_left h2 k2
  have := h.u1l
  omega
/-- A row of digits within digits. -/
abbrev seg (b : Int) (l : List Int) (j k : Nat) : Int := vl b ((l.drop j).take k)
theorem vl_seg {b : Int} {l : List Int} {j k : Nat} (h : j + k ≤ l.length) : vl b l = vl b (l.take j) + b ^ j * seg b l j k + b ^ (j + k) * vl b (l.drop (j + k)) := by
  have e1 := vl_append (b := b) (l.take j) (l.drop j)
  rw [List.take_append_drop, List.length_take, Nat.min_eq_left (by omega)] at e1
  have e2 := vl_append (b := b) ((l.drop j).take k) ((l.drop j).drop k)
  rw [List.take_append_drop, List.length_take, List.length_drop, Nat.min_eq_left (by omega), List.drop_drop] at e2
  rw [e1, e2, Int.mul_add, ← Int.mul_assoc, ← Int.pow_add, Int.add_assoc]
theorem seg_diff {b : Int} {l m : List Int} {j k : Nat} (hm : m.length = l.length) (h : j + k ≤ l.length) (hs : ∀ i, i < j ∨ j + k ≤ i → m[i]? = l[i]?) : vl b m - vl b l = b ^ j * (seg b m j k - seg b l j k) := by
  have e1 := vl_seg (b := b) h
  have e2 := vl_seg (b := b) (l := m) (j := j) (k := k) (by omega)
  have t : m.take j = l.take j := by
    apply List.ext_getElem?
    intro i
    rw [List.getElem?_take, List.getElem?_take]
    split
    · exact hs i (.inl (by assumption))
    · rfl
  have d : m.drop (j + k) = l.drop (j + k) := by
    apply List.ext_getElem?
    intro i
    rw [List.getElem?_drop, List.getElem?_drop]
    exact hs _ (.inr (by omega))
  rw [t, d] at e2
  rw [Int.mul_sub]
  omega
theorem seg_bd {b : Int} (hb : 0 ≤ b) {l : List Int} {j k : Nat} (hd : Dg b l) (h : j + k ≤ l.length) : 0 ≤ seg b l j k ∧ seg b l j k < b ^ k := by
  have d : Dg b ((l.drop j).take k) := (hd.drop j).take k
  refine ⟨vl_nonneg hb d, ?_⟩
  have := vl_lt hb d
  rw [List.length_take, List.length_drop, Nat.min_eq_left (by omega)] at this
  exact this
theorem seg_succ {b : Int} {l : List Int} {j k : Nat} {d : Int} (h : l[j + k]? = some d) : seg b l j (k + 1) = seg b l j k + b ^ k * d :=
  vl_take_succ (by rw [List.getElem?_drop]; exact h)
end Go.Sh

namespace Go.Proofs.Ytoekfjgikicclaa
set_option linter.unusedVariables false
open Go.Sh Go.RowKit
set_option maxRecDepth 100000
/-! ### A multiple of the divisor taken away -/
theorem get_some {α : Type} {l : List α} {i : Nat} (h : i < l.length) : ∃ d, l[i]? = some d := ⟨l[i], List.getElem?_eq_getElem h⟩
theorem word_up {a b : Int} (ha : W32 a) (hb : W32 b) : bOr .u64 (shlI .u64 a 32) b = 4294967296 * a + b := by
  have h1 := ha.1; have h2 := ha.2; have h3 := hb.1; have h4 := hb.2
  have e1 : shlI .u64 a 32 = a * 2 ^ 32 := by rw [shl_u64 _ _ (by decide)]; rw [show (2 : Int) ^ 32 = 4294967296 from rfl]; omega
  have e2 : bOr .u64 (a * 2 ^ 32) b = b + a * 2 ^ 32 := add_bOr b a 32 ⟨h3, by rw [show (2 : Int) ^ 32 = 4294967296 from rfl]; omega⟩ h1 (by rw [show (2 : Int) ^ 32 = 4294967296 from rfl]; omega)
  rw [e1, e2, show (2 : Int) ^ 32 = 4294967296 from rfl]
  omega
theorem take_spec {B : Nat} {w : World} {u v : Sl} {us vs : List Int} {j : Nat} (hB : B ≤ w.heap.size) (hu : Own B w u (nums .u32 us)) (hv : Arr B w v (nums .u32 vs)) (du : DW us) (dv : DW vs) (lu : u.len ≤ 1000000000)
    (hn : 2 ≤ vs.length) (hj : j + vs.length < us.length) {vt : Int} (htop : vs[vs.length - 1]? = some vt) (hvt : 2147483648 ≤ vt) (hlt : seg (BW : Int) us j (vs.length + 1) < 4294967296 * vl (BW : Int) vs) :
    Ok (f86_largeint_nat_take u v (j : Int)) w fun r w' => Keep (blkOf u) w w' ∧ ∃ os, Own B w' u (nums .u32 os) ∧ DW os ∧ os.length = us.length ∧ (∀ k, k < j ∨ j + vs.length < k → os[k]? = us[k]?) ∧ W32 r
      ∧ vl (BW : Int) os = vl (BW : Int) us - (BW : Int) ^ j * (r * vl (BW : Int) vs) ∧ 0 ≤ seg (BW : Int) us j (vs.length + 1) - r * vl (BW : Int) vs ∧ seg (BW : Int) us j (vs.length + 1) - r * vl (BW : Int) vs < vl (BW : Int) vs := by
  unfold f86_largeint_nat_take
  obtain ⟨m, hm⟩ : ∃ m, vs.length = m + 2 := ⟨vs.length - 2, by omega⟩
  have eu : u.len = us.length := by have := hu.1; simpa using this
  have ev : v.len = vs.length := by have := hv.1; simpa using this
  have hS : ∀ k, k < B → ¬ blkOf u k := fun k hk ⟨a, ha, hab⟩ => by have := own_least hu a ha; omega
  have C : Cx (blkOf u) w w [.own u (nums .u32 us)] := Cx.one hu
  have hV : ∀ {w' : World} {L : List It}, Cx (blkOf u) w w' L → Arr B w' v (nums .u32 vs) := fun C => arr_below hv (C.keep.below hB hS)
  obtain ⟨bl, hb⟩ := own_block hu (n := j) (by omega)
  -- the words on top
  obtain ⟨u0, hu0⟩ := get_some (l := us) (i := j + (m + 2)) (by omega)
  obtain ⟨u1, hu1⟩ := get_some (l := us) (i := j + (m + 1)) (by omega)
  obtain ⟨u2, hu2⟩ := get_some (l := us) (i := j + m) (by omega)
  obtain ⟨v2, hv2⟩ := get_some (l := vs) (i := m) (by omega)
  have hv1 : vs[m + 1]? = some vt := by rw [← htop]; congr 1; omega
  have w0 : W32 u0 := du.get hu0
  have w1 : W32 u1 := du.get hu1
  have w2 : W32 u2 := du.get hu2
  have x1 : W32 vt := dv.get hv1
  have x2 : W32 v2 := dv.get hv2
  have a01 := w0.1; have a02 := w0.2; have a11 := w1.1; have a12 := w1.2; have a21 := w2.1; have a22 := w2.2
  have b11 := x1.1; have b12 := x1.2; have b21 := x2.1; have b22 := x2.2
  generalize hU : seg (BW : Int) us j (vs.length + 1) = U at *
  generalize hVV : vl (BW : Int) vs = V at *
  have hp : (0 : Int) < (BW : Int) ^ m := Int.pow_pos (by decide)
  have T : Top ((BW : Int) ^ m) U V u0 u1 u2 vt v2 := by
    have e1 : U = seg (BW : Int) us j m + (BW : Int) ^ m * (u2 + 4294967296 * (u1 + 4294967296 * u0)) := by
      rw [← hU, hm, seg_succ hu0, show m + 2 = m + 1 + 1 from rfl, seg_succ hu1, seg_succ hu2, Int.pow_succ, Int.pow_succ, show ((BW : Nat) : Int) = 4294967296 from rfl]
      grind
    have e2 : V = vl (BW : Int) (vs.take m) + (BW : Int) ^ m * (v2 + 4294967296 * vt) := by
      have : vs.take (m + 1 + 1) = vs := List.take_of_length_le (by omega)
      rw [← hVV]
      conv => lhs; rw [← this]
      rw [vl_take_succ hv1, vl_take_succ hv2, Int.pow_succ, show ((BW : Nat) : Int) = 4294967296 from rfl]
      grind
    have s1 := seg_bd (b := (BW : Int)) (by decide) (j := j) (k := m) du (by omega)
    have s2 := vl_nonneg (b := (BW : Int)) (by decide) (dv.take m)
    have s3 := vl_lt (b := (BW : Int)) (by decide) (dv.take m)
    rw [List.length_take, Nat.min_eq_left (by omega)] at s3
    exact ⟨hp, a01, a11, a12, a21, a22, hvt, b12, b21, b22, by omega, by omega, by omega, by omega, hlt⟩
  have u0le := T.u0le
  refine ok_drawL C fun w1' C => ?_
  have i0 : IntKind.wrap .i64 ((j : Int) + (v.len : Int)) = ((j + (m + 2) : Nat) : Int) := by rw [wrapI_in (by omega)]; omega
  have i1 : IntKind.wrap .i64 (((j + (m + 2) : Nat) : Int) - 1) = ((j + (m + 1) : Nat) : Int) := by rw [wrapI_in (by omega)]; omega
  have i2 : IntKind.wrap .i64 (((j + (m + 2) : Nat) : Int) - 2) = ((j + m : Nat) : Int) := by rw [wrapI_in (by omega)]; omega
  have k1 : IntKind.wrap .i64 ((v.len : Int) - 1) = ((m + 1 : Nat) : Int) := by rw [wrapI_in (by omega)]; omega
  have k2 : IntKind.wrap .i64 ((v.len : Int) - 2) = ((m : Nat) : Int) := by rw [wrapI_in (by omega)]; omega
  rw [i0, i1, k1, k2, i2]
  refine ok_ixO hb (by omega) (by omega) ?_
  rw [Int.toNat_natCast]
  refine ok_ldO C (i := 0) rfl hb hu0 ?_
  refine ok_ixO hb (by omega) (by omega) ?_
  rw [Int.toNat_natCast]
  refine ok_ldO C (i := 0) rfl hb hu1 ?_
  refine ok_drawL C fun w2' C => ?_
  refine ok_get (hV C) (by omega) (n := vt) (by rw [Int.toNat_natCast]; exact hv1) ?_
  rw [wrapU_in (n := vt) (by omega)]
  refine ok_bnd.2 (ok_nz.2 ⟨by omega, ?_⟩)
  refine ok_get (hV C) (by omega) (n := vt) (by rw [Int.toNat_natCast]; exact hv1) ?_
  rw [wrapU_in (n := vt) (by omega)]
  refine ok_bnd.2 (ok_nz.2 ⟨by omega, ?_⟩)
  rw [wrapU_in (n := u0) (by omega), wrapU_in (n := u1) (by omega), word_up w0 w1, Int.tdiv_eq_ediv_of_nonneg (by omega), Int.tmod_eq_emod_of_nonneg (by omega)]
  have hF := T.first
  have hr0 := Int.emod_lt_of_pos (4294967296 * u0 + u1) (show 0 < vt by omega)
  rw [wrapU_in (n := (4294967296 * u0 + u1) / vt) (by have := T.small hF; have := hF.2.1; omega)]
  -- the guess is mended
  refine ok_bnd.2 (ok_mono (Q := fun g w' => Cx (blkOf u) w w' [.own u (nums .u32 us)] ∧ 0 ≤ g ∧ g < 4294967296 ∧ (g - 1) * V ≤ U ∧ U < (g + 1) * V) ?_ ?_)
  · refine ok_loop (fun (q : Int × Int) w' => Cx (blkOf u) w w' [.own u (nums .u32 us)] ∧ Gs U V u0 u1 vt q.1 q.2 ∧ q.2 < 4294967296) (fun q _ => q.1.toNat) ?_ _ _ ⟨C, hF, by simp only; omega⟩
    clear C hF hr0
    rintro ⟨g, r⟩ w3 ⟨C, hG, hr⟩
    simp only at hG hr ⊢
    have hg0 := hG.2.1
    have hr0 := hG.2.2.1
    have hgs := T.small hG
    refine ok_drawL C fun w4 C => ?_
    have esh : shrI .u64 g 32 = g / 4294967296 := by rw [shr_eq .u64 _ 32 (by decide)]; rfl
    rw [esh]
    -- what the question says
    refine ok_bnd.2 (ok_mono (Q := fun t w' => w' = w4 ∧ t = decide (4294967296 ≤ g ∨ r * 4294967296 + u2 < g * v2)) ?_ ?_)
    · by_cases hg : 4294967296 ≤ g
      · refine ok_true (by simp only [gt_iff_lt, decide_eq_true_eq]; omega) (ok_ret.2 ⟨rfl, by simp [hg]⟩)
      · refine ok_false (by simp only [gt_iff_lt, decide_eq_false_iff_not]; omega) ?_
        refine ok_get (hV C) (by omega) (n := v2) (by rw [Int.toNat_natCast]; exact hv2) ?_
        refine ok_ixO hb (by omega) (by omega) ?_
        rw [Int.toNat_natCast]
        refine ok_ldO C (i := 0) rfl hb hu2 (ok_ret.2 ⟨rfl, ?_⟩)
        have hm0 : 0 ≤ g * v2 := Int.mul_nonneg hg0 b21
        have hm1 : g * v2 ≤ 4294967295 * 4294967295 := Int.mul_le_mul (by omega) (by omega) b21 (by decide)
        rw [wrapU_in (n := v2) (by omega), wrapU_in (n := u2) (by omega), wrapU_in (n := g * v2) (by omega), word_up ⟨hr0, hr⟩ w2]
        rw [decide_eq_decide]
        omega
    rintro _ _ ⟨rfl, rfl⟩
    by_cases hc : 4294967296 ≤ g ∨ r * 4294967296 + u2 < g * v2
    · refine ok_true (by simpa using hc) ?_
      obtain ⟨hg1, hG1⟩ := T.mend hG hc
      refine ok_get (hV C) (by omega) (n := vt) (by rw [Int.toNat_natCast]; exact hv1) ?_
      rw [wrapU_in (n := vt) (by omega), wrapU_in (n := r + vt) (by omega), wrapU_in (n := g - 1) (by omega), shr_eq .u64 _ 32 (by decide), show (2 : Int) ^ 32 = 4294967296 from rfl]
      by_cases hr2 : 4294967296 ≤ r + vt
      · refine ok_true (by simp only [gt_iff_lt, decide_eq_true_eq]; omega) (ok_ret.2 ?_)
        have := T.last hG1 (.inl hr2)
        exact ⟨C, hG1.2.1, this.1, this.2, hG1.2.2.2⟩
      · refine ok_false (by simp only [gt_iff_lt, decide_eq_false_iff_not]; omega) (ok_ret.2 ⟨⟨C, hG1, by simp only; omega⟩, by simp only; omega⟩)
    · refine ok_false (by simpa using hc) (ok_ret.2 ?_)
      have := T.last hG (.inr ⟨by omega, by omega⟩)
      exact ⟨C, hg0, this.1, this.2, hG.2.2.2⟩
  clear C hF hr0
  rintro g w3 ⟨C, hg0, hg1, hgl, hgu⟩
  -- the multiple is taken away
  refine ok_loop (fun (q : Int × (Int × Int)) w' => ∃ out, Cx (blkOf u) w w' [.own u (nums .u32 out)] ∧ out.length = us.length ∧ DW out ∧ W32 q.1 ∧ 0 ≤ q.2.1 ∧ q.2.1 ≤ 1 ∧ ∃ i : Nat, q.2.2 = i ∧ i ≤ vs.length
      ∧ vl (BW : Int) out = vl (BW : Int) us - (BW : Int) ^ j * (g * vl (BW : Int) (vs.take i)) + (BW : Int) ^ (j + i) * (q.1 + q.2.1) ∧ ∀ k, k < j ∨ j + i ≤ k → out[k]? = us[k]?)
    (fun q _ => (vs.length - q.2.2).toNat) ?_ _ _ ⟨us, C, rfl, du, ⟨by decide, by decide⟩, by decide, by decide, 0, rfl, Nat.zero_le _, by simp [vl], fun _ _ => rfl⟩
  clear C
  rintro ⟨c, bo, q⟩ w4 ⟨out, C, hl, hd, hc, hbo0, hbo1, i, rfl, hi, hv3, hsame⟩
  simp only at hc hbo0 hbo1 hv3 ⊢
  have hc1 := hc.1; have hc2 := hc.2
  by_cases hit : i < vs.length
  · refine ok_true (by simp only [decide_eq_true_eq]; omega) ?_
    obtain ⟨d, hd1⟩ := get_some hit
    have wd : W32 d := dv.get hd1
    have d1 := wd.1; have d2 := wd.2
    obtain ⟨o, ho⟩ := get_some (l := out) (i := j + i) (by omega)
    have wo : W32 o := hd.get ho
    have o1 := wo.1; have o2 := wo.2
    refine ok_get (hV C) (by omega) (n := d) (by rw [Int.toNat_natCast]; exact hd1) ?_
    have e1 : IntKind.wrap .i64 ((j : Int) + (i : Int)) = ((j + i : Nat) : Int) := by rw [wrapI_in (by omega)]; omega
    rw [e1]
    refine ok_ixO hb (by omega) (by omega) ?_
    rw [Int.toNat_natCast]
    refine ok_ldO C (i := 0) rfl hb ho ?_
    refine ok_ixO hb (by omega) (by omega) ?_
    rw [Int.toNat_natCast]
    have hm0 : 0 ≤ g * d := Int.mul_nonneg hg0 d1
    have hm1 : g * d ≤ 4294967295 * 4294967295 := Int.mul_le_mul (by omega) (by omega) d1 (by decide)
    rw [wrapU_in (n := d) (by omega), wrapU_in (n := g * d) (by omega), wrapU_in (n := g * d + c) (by omega), wrapU32, shr_eq .u64 _ 32 (by decide), show (2 : Int) ^ 32 = 4294967296 from rfl]
    have ws : W32 ((g * d + c) % 4294967296) := ⟨Int.emod_nonneg _ (by decide), Int.emod_lt_of_pos _ (by decide)⟩
    have hs := sub32 wo ws ⟨hbo0, hbo1⟩
    have hs1 : (Gf94_bits_Sub32 o ((g * d + c) % 4294967296) bo).1 = _ := hs.1
    have hs2 : (Gf94_bits_Sub32 o ((g * d + c) % 4294967296) bo).2 = _ := hs.2
    rw [hs1, hs2]
    have ws1 := ws.1; have ws2 := ws.2
    refine ok_wrO C (i := 0) rfl hb (by omega) fun w5 C5 => ok_ret.2 ⟨⟨_, C5, by simp [hl], hd.set _ (Int.emod_nonneg _ (by decide)) (Int.emod_lt_of_pos _ (by decide)), ⟨?_, ?_⟩, ?_, ?_, i + 1, ?_, hit, ?_, ?_⟩, ?_⟩
    · show 0 ≤ (g * d + c) / 4294967296
      omega
    · show (g * d + c) / 4294967296 < 4294967296
      omega
    · show 0 ≤ -((o - (g * d + c) % 4294967296 - bo) / 4294967296)
      omega
    · show -((o - (g * d + c) % 4294967296 - bo) / 4294967296) ≤ 1
      omega
    · show IntKind.wrap .i64 ((i : Int) + 1) = _
      rw [wrapI_in (by omega)]; simp
    · show _ = _ + (BW : Int) ^ (j + (i + 1)) * ((g * d + c) / 4294967296 + -((o - (g * d + c) % 4294967296 - bo) / 4294967296))
      rw [vl_set ho, hv3, vl_take_succ hd1, ← Nat.add_assoc, Int.pow_succ, show ((BW : Nat) : Int) = 4294967296 from rfl]
      have q1 := Int.emod_add_mul_ediv (g * d + c) 4294967296
      have q2 := Int.emod_add_mul_ediv (o - (g * d + c) % 4294967296 - bo) 4294967296
      have q3 : (4294967296 : Int) ^ (j + i) = 4294967296 ^ j * 4294967296 ^ i := Int.pow_add _ _ _
      generalize (g * d + c) % 4294967296 = A1 at *
      generalize (g * d + c) / 4294967296 = A2 at *
      generalize (o - A1 - bo) % 4294967296 = A3 at *
      generalize (o - A1 - bo) / 4294967296 = A4 at *
      rw [q3]
      grind
    · intro k hk
      rw [List.getElem?_set_ne (by omega)]
      exact hsame k (by omega)
    · show (_ - IntKind.wrap .i64 ((i : Int) + 1)).toNat < _
      rw [wrapI_in (by omega)]; omega
  have hie : i = vs.length := by omega
  subst hie
  refine ok_false (by simp only [decide_eq_false_iff_not]; omega) ?_
  rw [List.take_of_length_le (Nat.le_refl _), hVV] at hv3
  obtain ⟨o, ho⟩ := get_some (l := out) (i := j + (m + 2)) (by omega)
  have wo : W32 o := hd.get ho
  have o1 := wo.1; have o2 := wo.2
  refine ok_bnd.2 ?_
  refine ok_ixO hb (by omega) (by omega) ?_
  rw [Int.toNat_natCast]
  refine ok_ldO C (i := 0) rfl hb ho ?_
  refine ok_ixO hb (by omega) (by omega) ?_
  rw [Int.toNat_natCast, wrapU32_in hc]
  have hs := sub32 wo hc ⟨hbo0, hbo1⟩
  have hs1 : (Gf94_bits_Sub32 o c bo).1 = _ := hs.1
  have hs2 : (Gf94_bits_Sub32 o c bo).2 = _ := hs.2
  rw [hs1, hs2]
  refine ok_wrO C (i := 0) rfl hb (by omega) fun w5 C5 => ?_
  have hd5 : DW (out.set (j + (m + 2)) ((o - c - bo) % 4294967296)) := hd.set _ (Int.emod_nonneg _ (by decide)) (Int.emod_lt_of_pos _ (by decide))
  have hl5 : (out.set (j + (m + 2)) ((o - c - bo) % 4294967296)).length = us.length := by simp [hl]
  have hv5 : vl (BW : Int) (out.set (j + (m + 2)) ((o - c - bo) % 4294967296)) = vl (BW : Int) us - (BW : Int) ^ j * (g * V) + (BW : Int) ^ (j + (vs.length + 1)) * -((o - c - bo) / 4294967296) := by
    rw [vl_set ho, hv3, hm, show j + (m + 2 + 1) = j + (m + 2) + 1 from rfl, Int.pow_succ, show ((BW : Nat) : Int) = 4294967296 from rfl]
    have q2 := Int.emod_add_mul_ediv (o - c - bo) 4294967296
    generalize (o - c - bo) % 4294967296 = A3 at *
    generalize (o - c - bo) / 4294967296 = A4 at *
    grind
  have hs5 : ∀ k, k < j ∨ j + vs.length < k → (out.set (j + (m + 2)) ((o - c - bo) % 4294967296))[k]? = us[k]? := by
    intro k hk
    rw [List.getElem?_set_ne (by omega)]
    exact hsame k (by omega)
  simp only [List.set_cons_zero] at C5
  generalize out.set (j + (m + 2)) ((o - c - bo) % 4294967296) = o5 at *
  have hbr : -((o - c - bo) / 4294967296) = 0 ∨ -((o - c - bo) / 4294967296) = 1 := by omega
  generalize -((o - c - bo) / 4294967296) = bb at *
  have hsd := seg_diff (b := (BW : Int)) (l := us) (m := o5) (j := j) (k := vs.length + 1) hl5 (by omega) (fun k hk => hs5 k (by omega))
  have hsb := seg_bd (b := (BW : Int)) (by decide) (j := j) (k := vs.length + 1) hd5 (by omega)
  have hpj : (0 : Int) < (BW : Int) ^ j := Int.pow_pos (by decide)
  have hse : seg (BW : Int) o5 j (vs.length + 1) = U - g * V + (BW : Int) ^ (vs.length + 1) * bb := by
    rw [hU, hv5, Int.pow_add] at hsd
    have : (BW : Int) ^ j * seg (BW : Int) o5 j (vs.length + 1) = (BW : Int) ^ j * (U - g * V + (BW : Int) ^ (vs.length + 1) * bb) := by grind
    exact Int.eq_of_mul_eq_mul_left (by omega) this
  have hVp := T.Vpos
  rcases hbr with rfl | rfl
  · refine ok_true (by simp) (ok_ret.2 (ok_ret.2 ⟨C5.keep, o5, own_raise (C5.get (i := 0) rfl) (own_least hu), hd5, hl5, hs5, ?_, ?_, ?_, ?_⟩))
    · rw [wrapU32_in ⟨hg0, hg1⟩]; exact ⟨hg0, hg1⟩
    · rw [wrapU32_in ⟨hg0, hg1⟩, hv5]; simp
    · rw [wrapU32_in ⟨hg0, hg1⟩]; rw [Int.mul_zero] at hse; omega
    · rw [wrapU32_in ⟨hg0, hg1⟩]
      rw [Int.add_mul] at hgu; omega
  -- one too many
  refine ok_false (by simp) ?_
  have hPn : (0 : Int) < (BW : Int) ^ (vs.length + 1) := Int.pow_pos (by decide)
  have hUg : U < g * V := by omega
  have hU0 : 0 ≤ U := by
    rw [← hU]; exact (seg_bd (b := (BW : Int)) (by decide) du (by omega)).1
  have hg2 : 1 ≤ g := by
    rcases Int.lt_or_le g 1 with h | h
    · have : g = 0 := by omega
      subst this; omega
    · exact h
  refine ok_mono (Q := fun r w' => Keep (blkOf u) w w' ∧ ∃ os, Own B w' u (nums .u32 os) ∧ DW os ∧ os.length = us.length ∧ (∀ k, k < j ∨ j + vs.length < k → os[k]? = us[k]?) ∧ W32 r
      ∧ vl (BW : Int) os = vl (BW : Int) us - (BW : Int) ^ j * (r * V) ∧ 0 ≤ U - r * V ∧ U - r * V < V) ?_ (fun r w' h => ok_ret.2 h)
  clear hsame hd hl ho wo hs hs1 hs2 hv3 hc hc1 hc2 hbo0 hbo1 o1 o2 C
  refine ok_loop (fun (q : Int × Int) w' => ∃ out, Cx (blkOf u) w w' [.own u (nums .u32 out)] ∧ out.length = us.length ∧ DW out ∧ 0 ≤ q.1 ∧ q.1 ≤ 1 ∧ ∃ i : Nat, q.2 = i ∧ i ≤ vs.length
      ∧ vl (BW : Int) out = vl (BW : Int) o5 + (BW : Int) ^ j * vl (BW : Int) (vs.take i) - (BW : Int) ^ (j + i) * q.1 ∧ ∀ k, k < j ∨ j + i ≤ k → out[k]? = o5[k]?)
    (fun q _ => (vs.length - q.2).toNat) ?_ _ _ ⟨o5, C5, hl5, hd5, by decide, by decide, 0, rfl, Nat.zero_le _, by simp [vl], fun _ _ => rfl⟩
  clear C5
  rintro ⟨bk, q⟩ w6 ⟨out, C, hl, hd, hbo0, hbo1, i, rfl, hi, hv3, hsame⟩
  simp only at hbo0 hbo1 hv3 ⊢
  by_cases hit : i < vs.length
  · refine ok_true (by simp only [decide_eq_true_eq]; omega) ?_
    obtain ⟨d, hd1⟩ := get_some hit
    have wd : W32 d := dv.get hd1
    have d1 := wd.1; have d2 := wd.2
    obtain ⟨o, ho⟩ := get_some (l := out) (i := j + i) (by omega)
    have wo : W32 o := hd.get ho
    have o1 := wo.1; have o2 := wo.2
    refine ok_get (hV C) (by omega) (n := d) (by rw [Int.toNat_natCast]; exact hd1) ?_
    have e1 : IntKind.wrap .i64 ((j : Int) + (i : Int)) = ((j + i : Nat) : Int) := by rw [wrapI_in (by omega)]; omega
    rw [e1]
    refine ok_ixO hb (by omega) (by omega) ?_
    rw [Int.toNat_natCast]
    refine ok_ldO C (i := 0) rfl hb ho ?_
    refine ok_ixO hb (by omega) (by omega) ?_
    rw [Int.toNat_natCast]
    have hs := add32 wo wd ⟨hbo0, hbo1⟩
    have hs1 : (Gf91_bits_Add32 o d bk).1 = _ := hs.1
    have hs2 : (Gf91_bits_Add32 o d bk).2 = _ := hs.2
    rw [hs1, hs2]
    refine ok_wrO C (i := 0) rfl hb (by omega) fun w5 C5 => ok_ret.2 ⟨⟨_, C5, by simp [hl], hd.set _ (Int.emod_nonneg _ (by decide)) (Int.emod_lt_of_pos _ (by decide)), ?_, ?_, i + 1, ?_, hit, ?_, ?_⟩, ?_⟩
    · show 0 ≤ (o + d + bk) / 4294967296
      omega
    · show (o + d + bk) / 4294967296 ≤ 1
      omega
    · show IntKind.wrap .i64 ((i : Int) + 1) = _
      rw [wrapI_in (by omega)]; simp
    · show _ = _ - (BW : Int) ^ (j + (i + 1)) * ((o + d + bk) / 4294967296)
      rw [vl_set ho, hv3, vl_take_succ hd1, ← Nat.add_assoc, Int.pow_succ, show ((BW : Nat) : Int) = 4294967296 from rfl]
      have q1 := Int.emod_add_mul_ediv (o + d + bk) 4294967296
      have q3 : (4294967296 : Int) ^ (j + i) = 4294967296 ^ j * 4294967296 ^ i := Int.pow_add _ _ _
      generalize (o + d + bk) % 4294967296 = A1 at *
      generalize (o + d + bk) / 4294967296 = A2 at *
      rw [q3]
      grind
    · intro k hk
      rw [List.getElem?_set_ne (by omega)]
      exact hsame k (by omega)
    · show (_ - IntKind.wrap .i64 ((i : Int) + 1)).toNat < _
      rw [wrapI_in (by omega)]; omega
  have hie : i = vs.length := by omega
  subst hie
  refine ok_false (by simp only [decide_eq_false_iff_not]; omega) ?_
  rw [List.take_of_length_le (Nat.le_refl _), hVV] at hv3
  obtain ⟨o, ho⟩ := get_some (l := out) (i := j + (m + 2)) (by omega)
  have wo : W32 o := hd.get ho
  have o1 := wo.1; have o2 := wo.2
  refine ok_bnd.2 ?_
  refine ok_ixO hb (by omega) (by omega) ?_
  rw [Int.toNat_natCast]
  refine ok_ldO C (i := 0) rfl hb ho ?_
  refine ok_ixO hb (by omega) (by omega) ?_
  rw [Int.toNat_natCast, wrapU32]
  refine ok_wrO C (i := 0) rfl hb (by omega) fun w7 C7 => ?_
  have hd7 : DW (out.set (j + (m + 2)) ((o + bk) % 4294967296)) := hd.set _ (Int.emod_nonneg _ (by decide)) (Int.emod_lt_of_pos _ (by decide))
  have hl7 : (out.set (j + (m + 2)) ((o + bk) % 4294967296)).length = us.length := by simp [hl]
  have hv7 : vl (BW : Int) (out.set (j + (m + 2)) ((o + bk) % 4294967296)) = vl (BW : Int) o5 + (BW : Int) ^ j * V - (BW : Int) ^ (j + (vs.length + 1)) * ((o + bk) / 4294967296) := by
    rw [vl_set ho, hv3, hm, show j + (m + 2 + 1) = j + (m + 2) + 1 from rfl, Int.pow_succ, show ((BW : Nat) : Int) = 4294967296 from rfl]
    have q2 := Int.emod_add_mul_ediv (o + bk) 4294967296
    generalize (o + bk) % 4294967296 = A3 at *
    generalize (o + bk) / 4294967296 = A4 at *
    grind
  have hs7 : ∀ k, k < j ∨ j + vs.length < k → (out.set (j + (m + 2)) ((o + bk) % 4294967296))[k]? = us[k]? := by
    intro k hk
    rw [List.getElem?_set_ne (by omega), hsame k (by omega)]
    exact hs5 k hk
  simp only [List.set_cons_zero] at C7
  generalize out.set (j + (m + 2)) ((o + bk) % 4294967296) = o7 at *
  have hkr : (o + bk) / 4294967296 = 0 ∨ (o + bk) / 4294967296 = 1 := by omega
  generalize (o + bk) / 4294967296 = kk at *
  have hsd7 := seg_diff (b := (BW : Int)) (l := us) (m := o7) (j := j) (k := vs.length + 1) hl7 (by omega) (fun k hk => hs7 k (by omega))
  have hsb7 := seg_bd (b := (BW : Int)) (by decide) (j := j) (k := vs.length + 1) hd7 (by omega)
  have hse7 : seg (BW : Int) o7 j (vs.length + 1) = U - (g - 1) * V + (BW : Int) ^ (vs.length + 1) * (1 - kk) := by
    rw [hU, hv7, hv5, Int.pow_add] at hsd7
    have : (BW : Int) ^ j * seg (BW : Int) o7 j (vs.length + 1) = (BW : Int) ^ j * (U - (g - 1) * V + (BW : Int) ^ (vs.length + 1) * (1 - kk)) := by grind
    exact Int.eq_of_mul_eq_mul_left (by omega) this
  have hkk : kk = 1 := by
    rcases hkr with rfl | h
    · simp only [Int.sub_zero, Int.mul_one] at hse7
      omega
    · exact h
  subst hkk
  have eg : IntKind.wrap .u32 (IntKind.wrap .u64 (g - 1)) = g - 1 := by rw [wrapU_in (by omega), wrapU32_in ⟨by omega, by omega⟩]
  rw [eg]
  refine ok_ret.2 (ok_ret.2 ⟨C7.keep, o7, own_raise (C7.get (i := 0) rfl) (own_least hu), hd7, hl7, hs7, ⟨by omega, by omega⟩, ?_, by omega, ?_⟩)
  · rw [hv7, hv5]; grind
  · rw [Int.sub_mul]; omega
end Go.Proofs.Ytoekfjgikicclaa
