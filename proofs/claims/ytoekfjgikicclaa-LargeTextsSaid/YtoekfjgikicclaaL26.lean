/-
  Integers' bits in two's complement, without bounds. No program in sight.
-/
import Derived.Test.YtoekfjgikicclaaL25
set_option linter.unusedVariables false
set_option linter.unusedSimpArgs false
namespace Go.Sh
set_option linter.unusedVariables false
/-- A bit of an integer. -/
def zb (z : Int) : Nat → Bool
  | 0 => decide (z % 2 = 1)
  | i + 1 => zb (z / 2) i
theorem zb_nat (n : Nat) : ∀ i, zb (n : Int) i = n.testBit i
  | 0 => by
    rw [Nat.testBit_zero]; unfold zb
    rw [decide_eq_decide]; omega
  | i + 1 => by
    rw [Nat.testBit_succ, ← zb_nat (n / 2) i]
    show zb ((n : Int) / 2) i = _
    congr 1
theorem zb_neg_one : ∀ i, zb (-1) i = true
  | 0 => by decide
  | i + 1 => zb_neg_one i
theorem zb_zero : ∀ i, zb 0 i = false
  | 0 => by decide
  | i + 1 => zb_zero i
theorem zb_ext_aux : ∀ (n : Nat) (x y : Int), x.natAbs + y.natAbs ≤ n → (∀ i, zb x i = zb y i) → x = y := by
  intro n
  induction n using Nat.strongRecOn with
  | _ n ih =>
    intro x y hn h
    have h0 : decide (x % 2 = 1) = decide (y % 2 = 1) := h 0
    rw [decide_eq_decide] at h0
    have h1 : ∀ i, zb (x / 2) i = zb (y / 2) i := fun i => h (i + 1)
    by_cases hs : (x / 2).natAbs + (y / 2).natAbs < n
    · have := ih _ hs _ _ (Nat.le_refl _) h1
      omega
    · -- both are 0 or -1
      have hx : x = 0 ∨ x = -1 := by omega
      have hy : y = 0 ∨ y = -1 := by omega
      rcases hx with rfl | rfl <;> rcases hy with rfl | rfl <;> first | rfl | (exfalso; omega)
theorem zb_ext {x y : Int} (h : ∀ i, zb x i = zb y i) : x = y := zb_ext_aux _ x y (Nat.le_refl _) h
/-- Put together bit by bit. -/
def Bitw (f : Bool → Bool → Bool) (a b z : Int) : Prop := ∀ i, zb z i = f (zb a i) (zb b i)
theorem Bitw.uniq {f : Bool → Bool → Bool} {a b x y : Int} (h : Bitw f a b x) (k : Bitw f a b y) : x = y := zb_ext fun i => (h i).trans (k i).symm
theorem zb_half (z : Int) (i : Nat) : zb z (i + 1) = zb (z / 2) i := rfl
theorem Bitw.half {f : Bool → Bool → Bool} {a b z : Int} (h : Bitw f a b z) : Bitw f (a / 2) (b / 2) (z / 2) := fun i => h (i + 1)
theorem Bitw.low {f : Bool → Bool → Bool} {a b z : Int} (h : Bitw f a b z) : decide (z % 2 = 1) = f (decide (a % 2 = 1)) (decide (b % 2 = 1)) := h 0
/-- Both are there. -/
theorem bitw_ex (f : Bool → Bool → Bool) : ∀ (n : Nat) (a b : Int), a.natAbs + b.natAbs ≤ n → ∃ z, Bitw f a b z := by
  intro n
  induction n using Nat.strongRecOn with
  | _ n ih =>
    intro a b hn
    by_cases hs : (a / 2).natAbs + (b / 2).natAbs < n
    · obtain ⟨z, hz⟩ := ih _ hs _ _ (Nat.le_refl _)
      refine ⟨2 * z + (if f (decide (a % 2 = 1)) (decide (b % 2 = 1)) then 1 else 0), fun i => ?_⟩
      cases i with
      | zero =>
        show decide ((2 * z + _) % 2 = 1) = f (decide (a % 2 = 1)) (decide (b % 2 = 1))
        cases f (decide (a % 2 = 1)) (decide (b % 2 = 1)) <;> simp <;> omega
      | succ i =>
        rw [zb_half, zb_half, zb_half, ← hz i]
        congr 1
        split <;> omega
    · have hx : a = 0 ∨ a = -1 := by omega
      have hy : b = 0 ∨ b = -1 := by omega
      have key : ∀ s t : Bool, (∀ i, zb a i = s) → (∀ i, zb b i = t) → ∃ z, Bitw f a b z := by
        intro s t h1 h2
        by_cases hf : f s t = true
        · exact ⟨-1, fun i => by rw [zb_neg_one, h1, h2, hf]⟩
        · exact ⟨0, fun i => by rw [zb_zero, h1, h2]; simpa using hf⟩
      rcases hx with rfl | rfl <;> rcases hy with rfl | rfl
      · exact key _ _ zb_zero zb_zero
      · exact key _ _ zb_zero zb_neg_one
      · exact key _ _ zb_neg_one zb_zero
      · exact key _ _ zb_neg_one zb_neg_one
noncomputable def logZ (f : Bool → Bool → Bool) (a b : Int) : Int := (bitw_ex f _ a b (Nat.le_refl _)).choose
theorem logZ_bitw (f : Bool → Bool → Bool) (a b : Int) : Bitw f a b (logZ f a b) := (bitw_ex f _ a b (Nat.le_refl _)).choose_spec
theorem logZ_eq {f : Bool → Bool → Bool} {a b z : Int} (h : Bitw f a b z) : logZ f a b = z := (logZ_bitw f a b).uniq h
/-- And, and Or, together. -/
theorem and_or_add : ∀ (n : Nat) (a b x y : Int), a.natAbs + b.natAbs ≤ n → Bitw and a b x → Bitw or a b y → x + y = a + b := by
  intro n
  induction n using Nat.strongRecOn with
  | _ n ih =>
    intro a b x y hn hx hy
    have h1 := hx.low; have h2 := hy.low
    by_cases hs : (a / 2).natAbs + (b / 2).natAbs < n
    · have := ih _ hs _ _ _ _ (Nat.le_refl _) hx.half hy.half
      by_cases ha : a % 2 = 1 <;> by_cases hb : b % 2 = 1 <;> simp [ha, hb] at h1 h2 <;> omega
    · have hxa : a = 0 ∨ a = -1 := by omega
      have hyb : b = 0 ∨ b = -1 := by omega
      rcases hxa with rfl | rfl <;> rcases hyb with rfl | rfl
      · rw [hx.uniq (y := 0) (fun i => by simp [zb_zero]), hy.uniq (y := 0) (fun i => by simp [zb_zero])]
      · rw [hx.uniq (y := 0) (fun i => by simp [zb_zero]), hy.uniq (y := -1) (fun i => by simp [zb_zero, zb_neg_one])]
      · rw [hx.uniq (y := 0) (fun i => by simp [zb_zero]), hy.uniq (y := -1) (fun i => by simp [zb_zero, zb_neg_one])]; rfl
      · rw [hx.uniq (y := -1) (fun i => by simp [zb_neg_one]), hy.uniq (y := -1) (fun i => by simp [zb_neg_one])]
/-- Xor is Or less And. -/
theorem or_sub_and : ∀ (n : Nat) (a b x y z : Int), a.natAbs + b.natAbs ≤ n → Bitw and a b x → Bitw or a b y → Bitw xor a b z → y - x = z := by
  intro n
  induction n using Nat.strongRecOn with
  | _ n ih =>
    intro a b x y z hn hx hy hz
    have h1 := hx.low; have h2 := hy.low; have h3 := hz.low
    by_cases hs : (a / 2).natAbs + (b / 2).natAbs < n
    · have := ih _ hs _ _ _ _ _ (Nat.le_refl _) hx.half hy.half hz.half
      by_cases ha : a % 2 = 1 <;> by_cases hb : b % 2 = 1 <;> simp [ha, hb] at h1 h2 h3 <;> omega
    · have hxa : a = 0 ∨ a = -1 := by omega
      have hyb : b = 0 ∨ b = -1 := by omega
      rcases hxa with rfl | rfl <;> rcases hyb with rfl | rfl
      · rw [hx.uniq (y := 0) (fun i => by simp [zb_zero]), hy.uniq (y := 0) (fun i => by simp [zb_zero]), hz.uniq (y := 0) (fun i => by simp [zb_zero])]; rfl
      · rw [hx.uniq (y := 0) (fun i => by simp [zb_zero]), hy.uniq (y := -1) (fun i => by simp [zb_zero, zb_neg_one]), hz.uniq (y := -1) (fun i => by simp [zb_zero, zb_neg_one])]; rfl
      · rw [hx.uniq (y := 0) (fun i => by simp [zb_zero]), hy.uniq (y := -1) (fun i => by simp [zb_zero, zb_neg_one]), hz.uniq (y := -1) (fun i => by simp [zb_zero, zb_neg_one])]; rfl
      · rw [hx.uniq (y := -1) (fun i => by simp [zb_neg_one]), hy.uniq (y := -1) (fun i => by simp [zb_neg_one]), hz.uniq (y := 0) (fun i => by simp [zb_neg_one, zb_zero])]; rfl
theorem and_neg_one (a : Int) : logZ and a (-1) = a := logZ_eq fun i => by rw [zb_neg_one, Bool.and_true]
theorem zb_not : ∀ (z : Int) (i : Nat), zb (-1 - z) i = !zb z i
  | z, 0 => by
    show decide ((-1 - z) % 2 = 1) = !decide (z % 2 = 1)
    rw [← decide_not, decide_eq_decide]; omega
  | z, i + 1 => by
    rw [zb_half, zb_half, ← zb_not (z / 2) i]
    congr 1; omega
theorem xor_neg_one (a : Int) : logZ xor a (-1) = -1 - a := logZ_eq fun i => by rw [zb_neg_one, zb_not, Bool.xor_true]
/-- Bits of what is left by a power of two. -/
theorem zb_mod : ∀ (M : Nat) (z : Int) (i : Nat), i < M → zb (z % 2 ^ M) i = zb z i
  | 0, _, _, h => by omega
  | M + 1, z, 0, _ => by
    show decide (z % 2 ^ (M + 1) % 2 = 1) = decide (z % 2 = 1)
    have : z % 2 ^ (M + 1) % 2 = z % 2 := Int.emod_emod_of_dvd _ ⟨2 ^ M, by rw [Int.pow_succ, Int.mul_comm]⟩
    rw [this]
  | M + 1, z, i + 1, h => by
    rw [zb_half, zb_half, ← zb_mod M (z / 2) i (by omega)]
    congr 1
    have hp : (0 : Int) < 2 ^ M := Int.pow_pos (by decide)
    have e := Int.emod_add_mul_ediv z (2 ^ (M + 1))
    rw [Int.pow_succ] at e
    have h1 := Int.emod_nonneg z (show (2 : Int) ^ M * 2 ≠ 0 by omega)
    have h2 := Int.emod_lt_of_pos z (show (0 : Int) < 2 ^ M * 2 by omega)
    rw [Int.pow_succ]
    generalize z % (2 ^ M * 2) = r at *
    generalize z / (2 ^ M * 2) = q at *
    have hz2 : z / 2 = r / 2 + 2 ^ M * q := by
      have : z = r + 2 * (2 ^ M * q) := by rw [← e]; grind
      omega
    rw [hz2, Int.add_mul_emod_self_left]
    exact (Int.emod_eq_of_lt (by omega) (by omega)).symm
/-- Bits behind a number's own are its sign. -/
theorem zb_sign : ∀ (M : Nat) (z : Int), -(2 ^ M) ≤ z → z < 2 ^ M → ∀ i, M ≤ i → zb z i = decide (z < 0)
  | 0, z, h1, h2, i, _ => by
    simp at h1 h2
    rcases (show z = 0 ∨ z = -1 by omega) with rfl | rfl
    · rw [zb_zero]; rfl
    · rw [zb_neg_one]; rfl
  | M + 1, z, h1, h2, 0, h => by omega
  | M + 1, z, h1, h2, i + 1, h => by
    rw [Int.pow_succ] at h1 h2
    rw [zb_half, zb_sign M (z / 2) (by omega) (by omega) i (by omega), decide_eq_decide]
    omega
/-- What the words say, the sign with it, is what the bits say. -/
theorem bitw_of {f : Bool → Bool → Bool} (hf : f false false = false) {a b : Int} {M : Nat} (ha : -(2 ^ M) ≤ a ∧ a < 2 ^ M) (hb : -(2 ^ M) ≤ b ∧ b < 2 ^ M) {R : Nat} (hR : R < 2 ^ (M + 1)) (hbits : ∀ i, i ≤ M → R.testBit i = f (zb a i) (zb b i)) :
    Bitw f a b (if R.testBit M then (R : Int) - 2 ^ (M + 1) else R) := by
  have hp : (2 : Nat) ^ (M + 1) = 2 ^ M * 2 := Nat.pow_succ ..
  have hpi : (2 : Int) ^ (M + 1) = 2 ^ M * 2 := Int.pow_succ ..
  have ec : ((2 ^ M : Nat) : Int) = 2 ^ M := by simp
  have htop : R.testBit M = decide (2 ^ M ≤ R) := by
    rw [Nat.testBit_eq_decide_div_mod_eq, decide_eq_decide]
    have hP : 0 < 2 ^ M := Nat.two_pow_pos M
    have e := Nat.div_add_mod R (2 ^ M)
    have hm := Nat.mod_lt R hP
    have hq : R / 2 ^ M < 2 := Nat.div_lt_of_lt_mul (by rw [← hp]; exact hR)
    generalize R / 2 ^ M = q at *
    generalize R % 2 ^ M = m at *
    constructor
    · intro h
      have : q = 1 := by omega
      rw [this, Nat.mul_one] at e; omega
    · intro h
      have : q ≠ 0 := by
        intro h0
        rw [h0, Nat.mul_zero] at e; omega
      omega
  have hz : -(2 ^ M) ≤ (if R.testBit M then (R : Int) - 2 ^ (M + 1) else R) ∧ (if R.testBit M then (R : Int) - 2 ^ (M + 1) else R) < 2 ^ M ∧ (decide ((if R.testBit M then (R : Int) - 2 ^ (M + 1) else R) < 0)) = R.testBit M := by
    rw [htop]
    by_cases h : 2 ^ M ≤ R
    · simp only [h, decide_true, if_true, decide_eq_true_eq]
      omega
    · simp only [h, decide_false, Bool.false_eq_true, if_false, decide_eq_false_iff_not]
      omega
  intro i
  by_cases hi : i ≤ M
  · rw [← hbits i hi]
    split
    · rw [← zb_mod (M + 1) _ i (by omega), Int.sub_emod_right, zb_mod (M + 1) _ i (by omega), zb_nat]
    · rw [zb_nat]
  · rw [zb_sign M _ hz.1 hz.2.1 i (by omega), hz.2.2, hbits M (Nat.le_refl _), zb_sign M a ha.1 ha.2 M (Nat.le_refl _), zb_sign M b hb.1 hb.2 M (Nat.le_refl _), zb_sign M a ha.1 ha.2 i (by omega), zb_sign M b hb.1 hb.2 i (by omega)]
end Go.Sh
