/-
  Part of the proof: B18
-/
import Derived.Test.YtpgalllceejpnaaB15
import Derived.Test.YtpgalllceejpnaaShO
set_option linter.unusedSimpArgs false
set_option linter.unusedVariables false
namespace Go.Proofs.Ytpgalllceejpnaa
set_option linter.unusedVariables false
open Go.Sh Go.RowKit
set_option maxRecDepth 100000
/-! ### Words as bits -/
abbrev ib (a : Int) : BitVec 32 := BitVec.ofInt 32 a
def bi (v : BitVec 32) : Int := (v.toNat : Int)
theorem wrapU32 (n : Int) : IntKind.u32.wrap n = n % 4294967296 := by simp [IntKind.wrap, IntKind.bits, IntKind.signed]
theorem bi_rng (v : BitVec 32) : 0 ≤ bi v ∧ bi v < 4294967296 := by have := v.isLt; unfold bi; omega
theorem wrap_bi (v : BitVec 32) : IntKind.u32.wrap (v.toNat : Int) = bi v := by have := bi_rng v; unfold bi at *; rw [wrapU32]; omega
theorem ib_bi (v : BitVec 32) : ib (bi v) = v := by
  apply BitVec.eq_of_toNat_eq
  unfold bi ib
  rw [BitVec.toNat_ofInt]
  have := v.isLt
  omega
theorem bi_ib {a : Int} (h : 0 ≤ a ∧ a < 4294967296) : bi (ib a) = a := by
  unfold bi ib
  rw [BitVec.toNat_ofInt]
  omega
theorem bAnd_bi (a b : Int) : bAnd .u32 a b = bi (ib a &&& ib b) := wrap_bi _
theorem bOr_bi (a b : Int) : bOr .u32 a b = bi (ib a ||| ib b) := wrap_bi _
theorem bXor_bi (a b : Int) : bXor .u32 a b = bi (ib a ^^^ ib b) := wrap_bi _
theorem bAndNot_bi (a b : Int) : bAndNot .u32 a b = bi (ib a &&& ~~~ ib b) := wrap_bi _
theorem ib_ones : ib 4294967295 = BitVec.allOnes 32 := by decide
def ruleV (r : Int) (s d : BitVec 32) : BitVec 32 :=
  if r = 0 then 0 else if r = 1 then s &&& d else if r = 2 then s &&& ~~~d else if r = 3 then s
  else if r = 4 then d &&& ~~~s else if r = 5 then d else if r = 6 then s ^^^ d else if r = 7 then s ||| d
  else if r = 8 then ~~~(s ||| d) else if r = 9 then ~~~(s ^^^ d) else if r = 10 then ~~~d else if r = 11 then s ||| ~~~d
  else if r = 12 then ~~~s else if r = 13 then ~~~s ||| d else if r = 14 then ~~~(s &&& d) else BitVec.allOnes 32
theorem ones_xor (v : BitVec 32) : BitVec.allOnes 32 ^^^ v = ~~~v := BitVec.allOnes_xor
theorem ib_rule {r : Int} (h : 0 ≤ r ∧ r ≤ 15) (s d : Int) : ib (ruleF r s d) = ruleV r (ib s) (ib d) := by
  have hr : r = 0 ∨ r = 1 ∨ r = 2 ∨ r = 3 ∨ r = 4 ∨ r = 5 ∨ r = 6 ∨ r = 7 ∨ r = 8 ∨ r = 9 ∨ r = 10 ∨ r = 11 ∨ r = 12 ∨ r = 13 ∨ r = 14 ∨ r = 15 := by omega
  rcases hr with h | h | h | h | h | h | h | h | h | h | h | h | h | h | h | h <;> subst h <;>
    simp only [ruleF, ruleV, Gf61_bitblt_ruled_1, Gf62_bitblt_ruled_2, Gf63_bitblt_ruled_3, Gf64_bitblt_ruled_4, Gf65_bitblt_ruled_5, Gf66_bitblt_ruled_6, Gf67_bitblt_ruled_7, Gf68_bitblt_ruled_8, Gf69_bitblt_ruled_9, Gf70_bitblt_ruled_10, Gf71_bitblt_ruled_11, Gf72_bitblt_ruled_12, Gf73_bitblt_ruled_13, Gf74_bitblt_ruled_14, Gf75_bitblt_ruled_15, Gf76_bitblt_ruled_16, if_true, if_false, bAnd_bi, bOr_bi, bXor_bi, bAndNot_bi, ib_bi, ib_ones, ones_xor, Int.reduceEq] <;> rfl
def mixV (r : Int) (t m s d : BitVec 32) : BitVec 32 := (d &&& ~~~m) ||| (ruleV r (s &&& t) d &&& m)
theorem mix_bi {r : Int} (h : 0 ≤ r ∧ r ≤ 15) (t m s d : Int) : mixF r t m s d = bi (mixV r (ib t) (ib m) (ib s) (ib d)) := by
  unfold mixF mixV
  rw [bOr_bi, bAndNot_bi, bAnd_bi (ruleF _ _ _), ib_bi, ib_bi, ib_rule h, bAnd_bi s t, ib_bi]
/-! ### What a copy makes of each word -/
def Wds (l : List Int) : Prop := ∀ n ∈ l, 0 ≤ n ∧ n < 4294967296
noncomputable def mskW (d : Form) (c : Blit) (j : Int) : Int := maskF (fst_ d c) (lst_ d c) (j % st d)
noncomputable def srcW (d sf : Form) (c : Blit) (has : Bool) (sw : Int → Int) (j : Int) : Int := srcF has (st sf) (fun q => sw ((c.2.2.2.2.2.2.1 + (j / st d - c.2.2.1)) * st sf + q)) (32 * (j % st d) + by_ d c)
theorem outW_eq (d sf : Form) (c : Blit) (has : Bool) (tl : List Int) (dw sw : Int → Int) (j : Int) : outW d sf c has tl dw sw j = mixF c.1 (toneF tl (j / st d)) (mskW d c j) (srcW d sf c has sw j) (dw j) := by
  unfold outW newW mskW srcW
  simp only
  rw [show j / st d * st d + j % st d = j from row_div.symm]
noncomputable def cpy (r : Int) (d sf : Form) (c : Blit) (has : Bool) (tl : List Int) (sw : Int → Int) (dl : List Int) : List Int :=
  (List.range dl.length).map fun (j : Nat) => if c.2.2.2.2.1 ≠ 0 ∧ Touched d c (j : Int) then mixF r (toneF tl ((j : Int) / st d)) (mskW d c j) (srcW d sf c has sw j) (at0 dl (j : Int)) else at0 dl (j : Int)
theorem outL_cpy (d sf : Form) (c : Blit) (has : Bool) (tl dl sl : List Int) : outL d sf c has tl dl sl = cpy c.1 d sf c has tl (at0 sl) dl := by
  unfold outL cpy
  simp only [outW_eq]
theorem cpy_len (r : Int) (d sf : Form) (c : Blit) (has : Bool) (tl : List Int) (sw : Int → Int) (dl : List Int) : (cpy r d sf c has tl sw dl).length = dl.length := by simp [cpy]
theorem cpy_at (r : Int) (d sf : Form) (c : Blit) (has : Bool) (tl : List Int) (sw : Int → Int) (dl : List Int) (j : Nat) (h : j < dl.length) :
    at0 (cpy r d sf c has tl sw dl) j = if c.2.2.2.2.1 ≠ 0 ∧ Touched d c (j : Int) then mixF r (toneF tl ((j : Int) / st d)) (mskW d c j) (srcW d sf c has sw j) (at0 dl (j : Int)) else at0 dl (j : Int) := by
  simp [cpy, at0, h]
theorem at0_ext {a b : List Int} (hl : a.length = b.length) (h : ∀ j : Nat, j < a.length → at0 a j = at0 b j) : a = b := by
  refine List.ext_getElem hl fun j h1 h2 => ?_
  have := h j h1
  simpa [at0, h1, h2] using this
theorem at0_wds {l : List Int} (h : Wds l) (j : Nat) (hj : j < l.length) : 0 ≤ at0 l j ∧ at0 l j < 4294967296 := by
  have : at0 l j = l[j] := by simp [at0, hj]
  rw [this]; exact h _ (List.getElem_mem hj)
theorem mix_two {q r k : Int} (hq : 0 ≤ q ∧ q ≤ 15) (hr : 0 ≤ r ∧ r ≤ 15) (hk : 0 ≤ k ∧ k ≤ 15) (t m s s' d : Int)
    (h : ∀ t m s s' d : BitVec 32, mixV q t m s' (mixV r t m s d) = mixV k t m s d) : mixF q t m s' (mixF r t m s d) = mixF k t m s d := by
  rw [mix_bi hq, mix_bi hr, mix_bi hk, ib_bi, h]
theorem v_66 (t m s d : BitVec 32) : mixV 6 t m s (mixV 6 t m s d) = d := by
  unfold mixV ruleV; simp only [Int.reduceEq, if_true, if_false]
  ext i hi; simp only [BitVec.getElem_or, BitVec.getElem_and, BitVec.getElem_not, BitVec.getElem_xor]
  cases t[i] <;> cases m[i] <;> cases s[i] <;> cases d[i] <;> rfl
theorem v_5 (t m s d : BitVec 32) : mixV 5 t m s d = d := by
  unfold mixV ruleV; simp only [Int.reduceEq, if_true, if_false]
  ext i hi; simp only [BitVec.getElem_or, BitVec.getElem_and, BitVec.getElem_not]
  cases m[i] <;> cases d[i] <;> rfl
theorem v_33 (t m s d : BitVec 32) : mixV 3 t m s (mixV 3 t m s d) = mixV 3 t m s d := by
  unfold mixV ruleV; simp only [Int.reduceEq, if_true, if_false]
  ext i hi; simp only [BitVec.getElem_or, BitVec.getElem_and, BitVec.getElem_not]
  cases t[i] <;> cases m[i] <;> cases s[i] <;> cases d[i] <;> rfl
theorem v_103 (m s d : BitVec 32) : mixV 10 (BitVec.allOnes 32) m s (mixV 3 (BitVec.allOnes 32) m s d) = mixV 12 (BitVec.allOnes 32) m s d := by
  unfold mixV ruleV; simp only [Int.reduceEq, if_true, if_false]
  ext i hi; simp only [BitVec.getElem_or, BitVec.getElem_and, BitVec.getElem_not, BitVec.getElem_allOnes]
  cases m[i] <;> cases s[i] <;> cases d[i] <;> rfl
theorem v_03 (t m s s' s2 d : BitVec 32) : mixV 0 t m s' (mixV 3 t m s d) = mixV 0 t m s2 d := by
  unfold mixV ruleV; simp only [Int.reduceEq, if_true, if_false]
  ext i hi; simp only [BitVec.getElem_or, BitVec.getElem_and, BitVec.getElem_not, BitVec.getElem_zero]
  cases t[i] <;> cases m[i] <;> cases s[i] <;> cases d[i] <;> simp
theorem v_150 (t m s d : BitVec 32) : mixV 15 t m s (mixV 0 t m s d) = mixV 15 t m s d := by
  unfold mixV ruleV; simp only [Int.reduceEq, if_true, if_false]
  ext i hi; simp only [BitVec.getElem_or, BitVec.getElem_and, BitVec.getElem_not, BitVec.getElem_zero, BitVec.getElem_allOnes]
  cases t[i] <;> cases m[i] <;> cases s[i] <;> cases d[i] <;> simp
section
variable (d sf : Form) (c : Blit) (has : Bool) (tl : List Int) (sw sw' : Int → Int) (dl : List Int)
theorem cpy_5 (h : Wds dl) : cpy 5 d sf c has tl sw dl = dl := by
  refine at0_ext (cpy_len ..) fun j hj => ?_
  rw [cpy_len] at hj
  rw [cpy_at _ _ _ _ _ _ _ _ _ hj]
  split
  · rw [mix_bi (by decide), v_5, bi_ib (at0_wds h j hj)]
  · rfl
theorem cpy_66 (h : Wds dl) : cpy 6 d sf c has tl sw (cpy 6 d sf c has tl sw dl) = dl := by
  refine at0_ext (by rw [cpy_len, cpy_len]) fun j hj => ?_
  rw [cpy_len, cpy_len] at hj
  rw [cpy_at _ _ _ _ _ _ _ _ _ (by rw [cpy_len]; exact hj), cpy_at _ _ _ _ _ _ _ _ _ hj]
  split
  · rw [mix_bi (by decide), mix_bi (by decide), ib_bi, v_66, bi_ib (at0_wds h j hj)]
  · rfl
theorem cpy_33 : cpy 3 d sf c has tl sw (cpy 3 d sf c has tl sw dl) = cpy 3 d sf c has tl sw dl := by
  refine at0_ext (by rw [cpy_len]) fun j hj => ?_
  rw [cpy_len, cpy_len] at hj
  rw [cpy_at _ _ _ _ _ _ _ _ _ (by rw [cpy_len]; exact hj), cpy_at _ _ _ _ _ _ _ _ _ hj]
  split
  · rw [mix_bi (by decide), mix_bi (by decide), ib_bi, v_33]
  · rfl
theorem cpy_103 : cpy 10 d sf c has [] sw (cpy 3 d sf c has [] sw dl) = cpy 12 d sf c has [] sw dl := by
  refine at0_ext (by rw [cpy_len, cpy_len, cpy_len]) fun j hj => ?_
  rw [cpy_len, cpy_len] at hj
  rw [cpy_at _ _ _ _ _ _ _ _ _ (by rw [cpy_len]; exact hj), cpy_at _ _ _ _ _ _ _ _ _ hj, cpy_at _ _ _ _ _ _ _ _ _ hj]
  split
  · rw [mix_bi (by decide), mix_bi (by decide), mix_bi (by decide), ib_bi, show toneF [] ((j : Int) / st d) = 4294967295 from if_pos rfl, ib_ones, v_103]
  · rfl
theorem cpy_03 (sf' : Form) : cpy 0 d sf' c has tl sw' (cpy 3 d sf c has tl sw dl) = cpy 0 d sf c has tl sw dl := by
  refine at0_ext (by rw [cpy_len, cpy_len, cpy_len]) fun j hj => ?_
  rw [cpy_len, cpy_len] at hj
  rw [cpy_at _ _ _ _ _ _ _ _ _ (by rw [cpy_len]; exact hj), cpy_at _ _ _ _ _ _ _ _ _ hj, cpy_at _ _ _ _ _ _ _ _ _ hj]
  split
  · rw [mix_bi (by decide), mix_bi (by decide), mix_bi (by decide), ib_bi]
    exact congrArg bi (v_03 _ _ _ _ _ _)
  · rfl
theorem cpy_150 : cpy 15 d sf c has tl sw (cpy 0 d sf c has tl sw dl) = cpy 15 d sf c has tl sw dl := by
  refine at0_ext (by rw [cpy_len, cpy_len, cpy_len]) fun j hj => ?_
  rw [cpy_len, cpy_len] at hj
  rw [cpy_at _ _ _ _ _ _ _ _ _ (by rw [cpy_len]; exact hj), cpy_at _ _ _ _ _ _ _ _ _ hj, cpy_at _ _ _ _ _ _ _ _ _ hj]
  split
  · rw [mix_bi (by decide), mix_bi (by decide), mix_bi (by decide), ib_bi, v_150]
  · rfl
end
end Go.Proofs.Ytpgalllceejpnaa
