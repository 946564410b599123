/-
  Integer laws for the operations of ShB at 64 bits, and loads at a named offset.
-/
import Derived.Test.YtkkdeljladihpaaGreatShJ
set_option linter.unusedVariables false
set_option linter.unusedSimpArgs false
namespace Go.Sh
open Go.RowKit
theorem wrapU (n : Int) : IntKind.u64.wrap n = n % 18446744073709551616 := by simp [IntKind.wrap, IntKind.bits, IntKind.signed]
theorem wrapI (n : Int) : IntKind.i64.wrap n = (n + 9223372036854775808) % 18446744073709551616 - 9223372036854775808 := by
  simp [IntKind.wrap, IntKind.bits, IntKind.signed]; omega
theorem wrapU8 (n : Int) : IntKind.u8.wrap n = n % 256 := by simp [IntKind.wrap, IntKind.bits, IntKind.signed]
theorem ok_ldA {t : Ty} {w : World} {b o k : Nat} {c : Array Value} {x : t.den} {Q : t.den → World → Prop} (h : blk w b = some c) (hx : rdv t c (o + k) = some x) (hq : Q x w) : Ok (ld t (Addr.add ⟨b, o, none⟩ k)) w Q := by
  have ha : (Addr.add ⟨b, o, none⟩ k) = ⟨b, o + k, none⟩ := by
    unfold Addr.add; split
    · rename_i h0; subst h0; rfl
    · rfl
  rw [ha]
  exact ok_ld h hx hq
theorem ok_chkA {t : Ty} {w : World} {b o k : Nat} {c : Array Value} {x : t.den} {Q : Unit → World → Prop} (h : blk w b = some c) (hx : rdv t c (o + k) = some x) (hq : Q () w) : Ok (chk t (Addr.add ⟨b, o, none⟩ k) x) w Q := by
  have ha : (Addr.add ⟨b, o, none⟩ k) = ⟨b, o + k, none⟩ := by
    unfold Addr.add; split
    · rename_i h0; subst h0; rfl
    · rfl
  rw [ha]
  exact ok_chk h hx hq
theorem shr_eq (k : IntKind) (a : Int) (n : Nat) (h : n ≤ k.bits) : shrI k a n = a / (2 ^ n : Int) := by
  unfold shrI
  rw [Nat.min_eq_left h]
  exact Int.fdiv_eq_ediv_of_nonneg _ (Int.le_of_lt (Int.pow_pos (by decide)))
theorem shl_u64 (a : Int) (n : Nat) (h : n ≤ 64) : shlI .u64 a n = (a * 2 ^ n) % 18446744073709551616 := by
  unfold shlI
  rw [Nat.min_eq_left (show n ≤ IntKind.u64.bits from h), wrapU]
theorem ofInt_toNat (a : Nat) (h : a < 18446744073709551616) : (BitVec.ofInt 64 (a : Int)).toNat = a := by
  rw [BitVec.toNat_ofInt]
  omega
theorem splice_get : ∀ (l : List Value) (o : Nat) (c : Array Value), o + l.length ≤ c.size → ∀ i, (splice c o l)[i]? = if o ≤ i ∧ i < o + l.length then l[i - o]? else c[i]?
  | [], o, c, _, i => by simp only [splice, List.length_nil, Nat.add_zero]; rw [if_neg (by omega)]
  | v :: l, o, c, h, i => by
    simp only [List.length_cons] at h ⊢
    simp only [splice]
    rw [splice_get l (o + 1) (c.setIfInBounds o v) (by simp; omega) i]
    by_cases h1 : i = o
    · subst h1
      rw [if_neg (by omega), if_pos (by omega), Array.getElem?_setIfInBounds_self_of_lt (by omega)]
      simp
    · by_cases h2 : o + 1 ≤ i ∧ i < o + 1 + l.length
      · rw [if_pos h2, if_pos (by omega)]
        obtain ⟨j, rfl⟩ : ∃ j, i = o + 1 + j := ⟨i - (o + 1), by omega⟩
        rw [show o + 1 + j - (o + 1) = j by omega, show o + 1 + j - o = j + 1 by omega]
        rfl
      · rw [if_neg h2, if_neg (by omega), Array.getElem?_setIfInBounds_ne (by omega)]
end Go.Sh
