/-
  Integer laws for the operations of ShB at 64 bits, and loads at a named offset.
-/
import Derived.Test.YtckfidopkajpaaaShJ
set_option linter.unusedVariables false
set_option linter.unusedSimpArgs false
namespace Go.Sh
set_option linter.unusedVariables false
open Go.RowKit
theorem wrapU (n : Int) : IntKind.u64.wrap n = n % 18446744073709551616 := by simp [IntKind.wrap, IntKind.bits, IntKind.signed]
theorem wrapI (n : Int) : IntKind.i64.wrap n = (n + 9223372036854775808) % 18446744073709551616 - 9223372036854775808 := by
  simp [IntKind.wrap, IntKind.bits, IntKind.signed]; omega
theorem wrapU8 (n : Int) : IntKind.u8.wrap n = n % 256 := by simp [IntKind.wrap, IntKind.bits, IntKind.signed]
theorem eq_dec {b : Bool} {p : Prop} [Decidable p] (h : b = true ↔ p) : b = decide p := Bool.eq_iff_iff.2 (h.trans decide_eq_true_iff.symm)
theorem ok_ldA {t : Ty} {w : World} {b o k : Nat} {c : Array Value} {x : t.den} {Q : t.den → World → Prop} (h : blk w b = some c) (hx : rdv t c (o + k) = some x) (hq : Q x w) : Ok (ld t (Addr.add ⟨b, o, none⟩ k)) w Q := by
  have ha : (Addr.add ⟨b, o, none⟩ k) = ⟨b, o + k, none⟩ := by
    unfold Addr.add; split
    · rename_i h0; subst h0; rfl
    · rfl
  rw [ha]
  exact ok_ld h hx hq
theorem ok_chkA {t : Ty} {w : World} {b o k : Nat} {c : Array Value} {x : t.den} {Q : Unit → World → Prop} (h : blk w b = some c) (hx : rdv t c (o + k) = some x) (hq : Q () w) : Ok (chk t (Addr.add ⟨b, o, none⟩ k) x) w Q := by
  have ha : (Addr.add ⟨b, o, none⟩ k) = ⟨b, o + k, none⟩ := by
    unfold Addr.add; split
    · rename_i h0; subst h0; rfl
    · rfl
  rw [ha]
  exact ok_chk h hx hq
theorem shr_eq (k : IntKind) (a : Int) (n : Nat) (h : n ≤ k.bits) : shrI k a n = a / (2 ^ n : Int) := by
  unfold shrI
  rw [Nat.min_eq_left h]
  exact Int.fdiv_eq_ediv_of_nonneg _ (Int.le_of_lt (Int.pow_pos (by decide)))
theorem shl_u64 (a : Int) (n : Nat) (h : n ≤ 64) : shlI .u64 a n = (a * 2 ^ n) % 18446744073709551616 := by
  unfold shlI
  rw [Nat.min_eq_left (show n ≤ IntKind.u64.bits from h), wrapU]
theorem ofInt_toNat (a : Nat) (h : a < 18446744073709551616) : (BitVec.ofInt 64 (a : Int)).toNat = a := by
  rw [BitVec.toNat_ofInt]
  omega
theorem bOr_nat (a b : Nat) (ha : a < 18446744073709551616) (hb : b < 18446744073709551616) : bOr .u64 a b = ((a ||| b : Nat) : Int) := by
  show IntKind.u64.wrap (((BitVec.ofInt 64 (a : Int)) ||| (BitVec.ofInt 64 (b : Int))).toNat : Int) = _
  rw [BitVec.toNat_or, ofInt_toNat a ha, ofInt_toNat b hb, wrapU]
  have : a ||| b < 2 ^ 64 := Nat.or_lt_two_pow (by omega) (by omega)
  omega
theorem bXor_nat (a b : Nat) (ha : a < 18446744073709551616) (hb : b < 18446744073709551616) : bXor .u64 a b = ((a ^^^ b : Nat) : Int) := by
  show IntKind.u64.wrap (((BitVec.ofInt 64 (a : Int)) ^^^ (BitVec.ofInt 64 (b : Int))).toNat : Int) = _
  rw [BitVec.toNat_xor, ofInt_toNat a ha, ofInt_toNat b hb, wrapU]
  have : a ^^^ b < 2 ^ 64 := Nat.xor_lt_two_pow (by omega) (by omega)
  omega
theorem bAnd_nat (a b : Nat) (ha : a < 18446744073709551616) (hb : b < 18446744073709551616) : bAnd .u64 a b = ((a &&& b : Nat) : Int) := by
  show IntKind.u64.wrap (((BitVec.ofInt 64 (a : Int)) &&& (BitVec.ofInt 64 (b : Int))).toNat : Int) = _
  rw [BitVec.toNat_and, ofInt_toNat a ha, ofInt_toNat b hb, wrapU]
  have : a &&& b < 2 ^ 64 := Nat.and_lt_two_pow _ (by omega)
  omega
theorem bAnd_mask (a : Int) (n : Nat) (ha : 0 ≤ a ∧ a < 18446744073709551616) (hn : n ≤ 64) : bAnd .u64 a (2 ^ n - 1) = a % 2 ^ n := by
  obtain ⟨a, rfl⟩ := Int.eq_ofNat_of_zero_le ha.1
  have hp : 2 ^ n ≤ 2 ^ 64 := Nat.pow_le_pow_right (by decide) hn
  have h0 : 0 < 2 ^ n := Nat.two_pow_pos n
  have : ((2 : Int) ^ n - 1) = (((2 ^ n - 1 : Nat)) : Int) := by
    rw [Int.natCast_sub (by omega)]; simp
  rw [this, bAnd_nat _ _ (by omega) (by omega), Nat.and_two_pow_sub_one_eq_mod]
  simp
theorem bOr_add (a b : Int) (n : Nat) (ha : 0 ≤ a ∧ a < 2 ^ n) (hb : 0 ≤ b) (h : a + b * 2 ^ n < 18446744073709551616) : bOr .u64 a (b * 2 ^ n) = a + b * 2 ^ n := by
  obtain ⟨a, rfl⟩ := Int.eq_ofNat_of_zero_le ha.1
  obtain ⟨b, rfl⟩ := Int.eq_ofNat_of_zero_le hb
  have e : ((b : Int) * 2 ^ n) = (((b * 2 ^ n : Nat)) : Int) := by simp
  have ha2 : a < 2 ^ n := by have := ha.2; have e2 : ((2 : Int) ^ n) = (((2 ^ n : Nat)) : Int) := by simp
                             rw [e2] at this; omega
  rw [e] at h ⊢
  have h3 : (0 : Int) ≤ ((b * 2 ^ n : Nat) : Int) := Int.natCast_nonneg _
  rw [bOr_nat _ _ (by omega) (by omega), Nat.or_comm, ← Nat.shiftLeft_eq, ← Nat.shiftLeft_add_eq_or_of_lt ha2]
  omega
theorem bOr_comm (a b : Int) : bOr .u64 a b = bOr .u64 b a := by
  unfold bOr; rw [BitVec.or_comm]
theorem add_bOr (a b : Int) (n : Nat) (ha : 0 ≤ a ∧ a < 2 ^ n) (hb : 0 ≤ b) (h : a + b * 2 ^ n < 18446744073709551616) : bOr .u64 (b * 2 ^ n) a = a + b * 2 ^ n := by
  rw [bOr_comm, bOr_add a b n ha hb h]
theorem splice_get : ∀ (l : List Value) (o : Nat) (c : Array Value), o + l.length ≤ c.size → ∀ i, (splice c o l)[i]? = if o ≤ i ∧ i < o + l.length then l[i - o]? else c[i]?
  | [], o, c, _, i => by simp only [splice, List.length_nil, Nat.add_zero]; rw [if_neg (by omega)]
  | v :: l, o, c, h, i => by
    simp only [List.length_cons] at h ⊢
    simp only [splice]
    rw [splice_get l (o + 1) (c.setIfInBounds o v) (by simp; omega) i]
    by_cases h1 : i = o
    · subst h1
      rw [if_neg (by omega), if_pos (by omega), Array.getElem?_setIfInBounds_self_of_lt (by omega)]
      simp
    · by_cases h2 : o + 1 ≤ i ∧ i < o + 1 + l.length
      · rw [if_pos h2, if_pos (by omega)]
        obtain ⟨j, rfl⟩ : ∃ j, i = o + 1 + j := ⟨i - (o + 1), by omega⟩
        rw [show o + 1 + j - (o + 1) = j by omega, show o + 1 + j - o = j + 1 by omega]
        rfl
      · rw [if_neg h2, if_neg (by omega), Array.getElem?_setIfInBounds_ne (by omega)]
theorem splice_all (c : Array Value) (l : List Value) (h : c.size = l.length) : splice c 0 l = l.toArray := by
  apply Array.ext_getElem?
  intro i
  rw [splice_get l 0 c (by omega)]
  by_cases hi : i < l.length
  · rw [if_pos (by omega)]; simp
  · rw [if_neg (by omega), Array.getElem?_eq_none (by omega), Array.getElem?_eq_none (by simp; omega)]
end Go.Sh
