/-
  Part of the proof: B20
-/
import Derived.Test.YtpgalllceejpnaaB19
set_option linter.unusedSimpArgs false
set_option linter.unusedVariables false
namespace Go.Proofs.Ytpgalllceejpnaa
set_option linter.unusedVariables false
open Go.Sh Go.RowKit
set_option maxRecDepth 100000
/-! ### Pixels as bits -/
theorem bi_inj {u v : BitVec 32} (h : ∀ k, k < 32 → u.getLsbD k = v.getLsbD k) : u = v := BitVec.eq_of_getLsbD_eq h
theorem int_ext {a b : Int} (ha : 0 ≤ a ∧ a < 4294967296) (hb : 0 ≤ b ∧ b < 4294967296) (h : ∀ k, k < 32 → (ib a).getLsbD k = (ib b).getLsbD k) : a = b := by
  rw [← bi_ib ha, ← bi_ib hb, bi_inj h]
theorem ib_lsb {a : Int} (h : 0 ≤ a) (k : Nat) (hk : k < 32) : (ib a).getLsbD k = a.toNat.testBit k := by
  obtain ⟨n, rfl⟩ := Int.eq_ofNat_of_zero_le h
  unfold ib
  rw [show BitVec.ofInt 32 (n : Int) = BitVec.ofNat 32 n from BitVec.ofInt_natCast 32 n, BitVec.getLsbD_ofNat]
  simp [hk]
theorem shr_lsb {a : Int} (h : 0 ≤ a ∧ a < 4294967296) (n k : Nat) (hn : n ≤ 32) : (ib (shrI .u32 a n)).getLsbD k = (ib a).getLsbD (n + k) := by
  by_cases hk : k < 32
  · rw [shr_eq .u32 a n hn]
    obtain ⟨m, rfl⟩ := Int.eq_ofNat_of_zero_le h.1
    have e : ((m : Int) / 2 ^ n) = ((m / 2 ^ n : Nat) : Int) := by simp
    rw [e, ib_lsb (Int.natCast_nonneg _) k hk, Int.toNat_natCast, Nat.testBit_div_two_pow]
    by_cases h2 : n + k < 32
    · rw [ib_lsb (Int.natCast_nonneg _) _ h2, Int.toNat_natCast, Nat.add_comm]
    · rw [BitVec.getLsbD_of_ge _ _ (by omega)]
      refine Nat.testBit_lt_two_pow ?_
      have h3 : 2 ^ 32 ≤ 2 ^ (k + n) := Nat.pow_le_pow_right (by decide) (by omega)
      omega
  · rw [BitVec.getLsbD_of_ge _ _ (by omega), BitVec.getLsbD_of_ge _ _ (by omega)]
theorem shl_lsb {a : Int} (h : 0 ≤ a) (n k : Nat) (hn : n ≤ 32) (hk : k < 32) : (ib (shlI .u32 a n)).getLsbD k = (decide (n ≤ k) && (ib a).getLsbD (k - n)) := by
  obtain ⟨m, rfl⟩ := Int.eq_ofNat_of_zero_le h
  unfold shlI
  rw [Nat.min_eq_left (show n ≤ IntKind.u32.bits from hn), wrapU32]
  have e : ((m : Int) * 2 ^ n % 4294967296) = ((m * 2 ^ n % 2 ^ 32 : Nat) : Int) := by simp
  rw [e, ib_lsb (Int.natCast_nonneg _) k hk, Int.toNat_natCast, Nat.testBit_mod_two_pow, ← Nat.shiftLeft_eq, Nat.testBit_shiftLeft, ib_lsb (Int.natCast_nonneg _) _ (by omega), Int.toNat_natCast]
  simp [hk]
theorem shl_rng (a : Int) (n : Nat) : 0 ≤ shlI .u32 a n ∧ shlI .u32 a n < 4294967296 := by unfold shlI; rw [wrapU32]; omega
theorem shr_rng {a : Int} (h : 0 ≤ a ∧ a < 4294967296) (n : Nat) (hn : n ≤ 32) : 0 ≤ shrI .u32 a n ∧ shrI .u32 a n < 4294967296 := by
  rw [shr_eq .u32 a n hn]
  have hp : (0 : Int) < 2 ^ n := Int.pow_pos (by decide)
  refine ⟨Int.ediv_nonneg h.1 (by omega), ?_⟩
  have := Int.ediv_le_self (2 ^ n) h.1
  omega
theorem ones_lsb {d : Int} (h : Dep d) (k : Nat) (hk : k < 32) : (ib (onesF d)).getLsbD k = decide (k < d.toNat) := by
  unfold Dep at h
  rcases h with h | h | h | h | h | h <;> subst h
  · rw [show onesF 1 = 1 by decide]; revert k; decide
  · rw [show onesF 2 = 3 by decide]; revert k; decide
  · rw [show onesF 4 = 15 by decide]; revert k; decide
  · rw [show onesF 8 = 255 by decide]; revert k; decide
  · rw [show onesF 16 = 65535 by decide]; revert k; decide
  · rw [show onesF 32 = 4294967295 by decide]; revert k; decide
/-- A bit of a pixel. -/
theorem pix_lsb {f : Form} {l : List Int} {x y : Int} (hd : Dep f.2.2.1) (hw : 0 ≤ f.1 ∧ f.1 ≤ 4096) (hx : 0 ≤ x ∧ x < f.1) (h : 0 ≤ at0 l (plc f x y).1 ∧ at0 l (plc f x y).1 < 4294967296) (k : Nat) (hk : k < 32) :
    (ib (pixF f l x y)).getLsbD k = (decide (k < f.2.2.1.toNat) && (ib (at0 l (plc f x y).1)).getLsbD ((plc f x y).2.toNat + k)) := by
  have hp := place_rng hd hw hx
  unfold pixF
  rw [bAnd_bi, ib_bi, BitVec.getLsbD_and, shr_lsb h _ _ (by simp only [plc]; omega), ones_lsb hd k hk, Bool.and_comm]
theorem pix_rng (f : Form) (l : List Int) (x y : Int) : 0 ≤ pixF f l x y ∧ pixF f l x y < 4294967296 := by unfold pixF; rw [bAnd_bi]; exact bi_rng _
/-- The mask's bits. -/
theorem mask_lsb {first last i : Int} (h0 : 0 ≤ first) (h1 : first ≤ last) (hi : first / 32 ≤ i ∧ i ≤ last / 32) (k : Nat) (hk : k < 32) :
    (ib (maskF first last i)).getLsbD k = decide (first ≤ 32 * i + 31 - k ∧ 32 * i + 31 - k ≤ last) := by
  have hA : (ib (if i = first / 32 then shrI .u32 4294967295 (first % 32).toNat else 4294967295)).getLsbD k = decide (first ≤ 32 * i + 31 - k) := by
    by_cases h : i = first / 32
    · rw [if_pos h, shr_lsb (by decide) _ _ (by omega), ib_ones, BitVec.getLsbD_allOnes]
      exact decide_eq_decide.2 (by omega)
    · rw [if_neg h, ib_ones, BitVec.getLsbD_allOnes]
      exact decide_eq_decide.2 (by omega)
  unfold maskF
  by_cases h : i = last / 32
  · rw [if_pos h, bAnd_bi, ib_bi, BitVec.getLsbD_and, hA, shl_lsb (by decide) _ _ (by omega) hk, ib_ones, BitVec.getLsbD_allOnes]
    have e : (decide ((31 - last % 32).toNat ≤ k) && decide (k - (31 - last % 32).toNat < 32)) = decide (32 * i + 31 - k ≤ last) := by
      rw [← Bool.decide_and]
      exact decide_eq_decide.2 (by omega)
    rw [e, ← Bool.decide_and]
  · rw [if_neg h, hA]
    exact decide_eq_decide.2 (by omega)
/-- A bit of a row. -/
def rowBit (m : Int) (sr : Int → Int) (p : Int) : Bool := (ib (rowAt m sr (p / 32))).getLsbD (31 - p % 32).toNat
theorem bits_lsb {v0 v1 bit : Int} (h0 : 0 ≤ v0 ∧ v0 < 4294967296) (h1 : 0 ≤ v1 ∧ v1 < 4294967296) (k : Nat) (hk : k < 32) :
    (ib (bitsF v0 v1 bit)).getLsbD k = if (bit % 32 + 31 - k) < 32 then (ib v0).getLsbD (31 - (bit % 32 + 31 - k)).toNat else (ib v1).getLsbD (31 - (bit % 32 + 31 - k - 32)).toNat := by
  obtain ⟨a, rfl⟩ := Int.eq_ofNat_of_zero_le h0.1
  obtain ⟨b, rfl⟩ := Int.eq_ofNat_of_zero_le h1.1
  have hm := Int.emod_nonneg bit (show (32 : Int) ≠ 0 by decide)
  have hm2 := Int.emod_lt_of_pos bit (show (0 : Int) < 32 by decide)
  obtain ⟨s, hs⟩ : ∃ s : Nat, bit % 32 = s := Int.eq_ofNat_of_zero_le hm
  rw [hs] at hm hm2 ⊢
  unfold bitsF
  rw [hs]
  have ew0 : IntKind.wrap .u64 (a : Int) = a := by rw [wrapU]; omega
  have ew1 : IntKind.wrap .u64 (b : Int) = b := by rw [wrapU]; omega
  rw [ew0, ew1, shl_u64 _ _ (by decide), show ((a : Int) * 2 ^ 32 % 18446744073709551616) = (a : Int) * 2 ^ 32 by omega, add_bOr (b : Int) (a : Int) 32 (by omega) (by omega) (by omega), shr_eq _ _ _ (by show (32 - (s : Int)).toNat ≤ 64; omega)]
  have e2 : ((b : Int) + (a : Int) * 2 ^ 32) / 2 ^ (32 - (s : Int)).toNat = (((a * 2 ^ 32 + b) / 2 ^ (32 - s) : Nat) : Int) := by
    rw [show (32 - (s : Int)).toNat = 32 - s by omega]
    simp only [Int.natCast_ediv, Int.natCast_add, Int.natCast_mul, Int.natCast_pow, Int.cast_ofNat_Int]
    rw [Int.add_comm]
  rw [e2, wrapU32]
  have e3 : (((((a * 2 ^ 32 + b) / 2 ^ (32 - s) : Nat)) : Int) % 4294967296) = ((((a * 2 ^ 32 + b) / 2 ^ (32 - s)) % 2 ^ 32 : Nat) : Int) := by
    generalize (a * 2 ^ 32 + b) / 2 ^ (32 - s) = X
    omega
  rw [e3, ib_lsb (Int.natCast_nonneg _) k hk, Int.toNat_natCast, Nat.testBit_mod_two_pow, Nat.testBit_div_two_pow]
  have hb2 : b < 2 ^ 32 := by omega
  rw [Nat.mul_comm a, Nat.testBit_two_pow_mul_add a hb2]
  simp only [hk, decide_true, Bool.true_and]
  by_cases h : k + (32 - s) < 32
  · rw [if_pos h, if_neg (by omega), ib_lsb (Int.natCast_nonneg _) _ (by omega), Int.toNat_natCast]
    congr 1; omega
  · rw [if_neg h, if_pos (by omega), ib_lsb (Int.natCast_nonneg _) _ (by omega), Int.toNat_natCast]
    congr 1; omega
theorem src_lsb {m : Int} {sr : Int → Int} (hs : ∀ q, 0 ≤ rowAt m sr q ∧ rowAt m sr q < 4294967296) (bit : Int) (k : Nat) (hk : k < 32) : (ib (srcF true m sr bit)).getLsbD k = rowBit m sr (bit + 31 - k) := by
  show (ib (bitsF (rowAt m sr (bit / 32)) (rowAt m sr (bit / 32 + 1)) bit)).getLsbD k = _
  rw [bits_lsb (hs _) (hs _) k hk]
  unfold rowBit
  by_cases h : bit % 32 + 31 - k < 32
  · rw [if_pos h]
    have e1 : (bit + 31 - k) / 32 = bit / 32 := by omega
    have e2 : (bit + 31 - k) % 32 = bit % 32 + 31 - k := by omega
    rw [e1, e2]
  · rw [if_neg h]
    have e1 : (bit + 31 - k) / 32 = bit / 32 + 1 := by omega
    have e2 : (bit + 31 - k) % 32 = bit % 32 + 31 - k - 32 := by omega
    rw [e1, e2]
/-- A rule, bit by bit. -/
def ruleB (r : Int) (s d : Bool) : Bool :=
  if r = 0 then false else if r = 1 then s && d else if r = 2 then s && !d else if r = 3 then s
  else if r = 4 then d && !s else if r = 5 then d else if r = 6 then s ^^ d else if r = 7 then s || d
  else if r = 8 then !(s || d) else if r = 9 then !(s ^^ d) else if r = 10 then !d else if r = 11 then s || !d
  else if r = 12 then !s else if r = 13 then !s || d else if r = 14 then !(s && d) else true
theorem rule_lsb {r : Int} (h : 0 ≤ r ∧ r ≤ 15) (s d : BitVec 32) (k : Nat) (hk : k < 32) : (ruleV r s d).getLsbD k = ruleB r (s.getLsbD k) (d.getLsbD k) := by
  have hr : r = 0 ∨ r = 1 ∨ r = 2 ∨ r = 3 ∨ r = 4 ∨ r = 5 ∨ r = 6 ∨ r = 7 ∨ r = 8 ∨ r = 9 ∨ r = 10 ∨ r = 11 ∨ r = 12 ∨ r = 13 ∨ r = 14 ∨ r = 15 := by omega
  rcases hr with h | h | h | h | h | h | h | h | h | h | h | h | h | h | h | h <;> subst h <;>
    simp [ruleV, ruleB, hk, -BitVec.reduceAllOnes, BitVec.getLsbD_allOnes]
theorem mix_lsb {r : Int} (h : 0 ≤ r ∧ r ≤ 15) (t m s d : BitVec 32) (k : Nat) (hk : k < 32) : (mixV r t m s d).getLsbD k = if m.getLsbD k then ruleB r (s.getLsbD k && t.getLsbD k) (d.getLsbD k) else d.getLsbD k := by
  unfold mixV
  simp only [BitVec.getLsbD_or, BitVec.getLsbD_and, BitVec.getLsbD_not, hk, decide_true, Bool.true_and, rule_lsb h _ _ k hk]
  cases m.getLsbD k <;> simp
end Go.Proofs.Ytpgalllceejpnaa
