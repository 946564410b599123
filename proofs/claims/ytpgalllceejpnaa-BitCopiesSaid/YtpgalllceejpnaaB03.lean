/-
  Part of the proof: B03
-/
import Derived.Test.YtpgalllceejpnaaB02
set_option linter.unusedSimpArgs false
set_option linter.unusedVariables false
namespace Go.Proofs.Ytpgalllceejpnaa
set_option linter.unusedVariables false
open Go.Sh Go.RowKit
set_option maxRecDepth 100000
theorem mul_bnd {a b m n : Int} (ha : 0 ≤ a ∧ a ≤ m) (hb : 0 ≤ b ∧ b ≤ n) : 0 ≤ a * b ∧ a * b ≤ m * n :=
  ⟨Int.mul_nonneg ha.1 hb.1, Int.mul_le_mul ha.2 hb.2 hb.1 (Int.le_trans ha.1 ha.2)⟩
def Dep (d : Int) : Prop := d = 1 ∨ d = 2 ∨ d = 4 ∨ d = 8 ∨ d = 16 ∨ d = 32
instance (d : Int) : Decidable (Dep d) := by unfold Dep; infer_instance
/-- How many words a row has. -/
def st (f : Form) : Int := (f.1 * f.2.2.1 + 31) / 32
def Sized (f : Form) : Prop := Dep f.2.2.1 ∧ (0 ≤ f.1 ∧ f.1 ≤ 4096) ∧ (0 ≤ f.2.1 ∧ f.2.1 ≤ 4096) ∧ st f * f.2.1 ≤ 1048576
instance (f : Form) : Decidable (Sized f) := by unfold Sized; infer_instance
def Good (f : Form) : Prop := Sized f ∧ (f.2.2.2.len : Int) = st f * f.2.1
instance (f : Form) : Decidable (Good f) := by unfold Good; infer_instance
theorem dep_rng {d : Int} (h : Dep d) : 1 ≤ d ∧ d ≤ 32 := by unfold Dep at h; omega
theorem st_rng {f : Form} (h : Dep f.2.2.1) (hw : 0 ≤ f.1 ∧ f.1 ≤ 4096) : 0 ≤ st f ∧ st f ≤ 4096 := by
  unfold st Dep at *
  rcases h with h | h | h | h | h | h <;> rw [h] <;> omega
theorem wd_rng {f : Form} (h : Dep f.2.2.1) (hw : 0 ≤ f.1 ∧ f.1 ≤ 4096) : 0 ≤ f.1 * f.2.2.1 ∧ f.1 * f.2.2.1 ≤ 131072 := by
  unfold Dep at *
  rcases h with h | h | h | h | h | h <;> rw [h] <;> omega
theorem wrapI_in {n : Int} (h : -9223372036854775808 ≤ n ∧ n ≤ 9223372036854775807) : IntKind.wrap .i64 n = n := by rw [wrapI]; omega
def strd (f : Form) : Int := IntKind.wrap .i64 (Int.tdiv (IntKind.wrap .i64 ((IntKind.wrap .i64 ((IntKind.wrap .i64 (f.1 * f.2.2.1)) + (32 : Int))) - (1 : Int))) (32 : Int))
def strd2 (f : Form) : Int := IntKind.wrap .i64 (Int.tdiv (IntKind.wrap .i64 ((IntKind.wrap .i64 (f.1 * f.2.2.1)) + (31 : Int))) (32 : Int))
theorem strd_eq {f : Form} (h : Dep f.2.2.1) (hw : 0 ≤ f.1 ∧ f.1 ≤ 4096) : strd f = st f := by
  have := wd_rng h hw
  unfold strd st
  rw [wrapI_in (n := f.1 * f.2.2.1) (by omega), wrapI_in (n := _ + 32) (by omega), wrapI_in (n := _ - 1) (by omega), Int.tdiv_eq_ediv_of_nonneg (by omega), wrapI_in (by omega)]
  congr 1
  omega
theorem strd2_eq {f : Form} (h : Dep f.2.2.1) (hw : 0 ≤ f.1 ∧ f.1 ≤ 4096) : strd2 f = st f := by
  have := wd_rng h hw
  unfold strd2 st
  rw [wrapI_in (n := f.1 * f.2.2.1) (by omega), wrapI_in (n := _ + 31) (by omega), Int.tdiv_eq_ediv_of_nonneg (by omega), wrapI_in (by omega)]
theorem stride_spec (f : Form) (w : World) : Ok (f34_bitblt_stride f) w fun r w' => r = strd f ∧ Below w.heap.size w w' := by
  unfold f34_bitblt_stride
  refine ok_bnd.2 (ok_newForm (h := f) fun w1 hb hB hs => ?_)
  exact ok_bnd.2 (ok_Form0 hb (ok_bnd.2 (ok_Form2 hb (ok_ret.2 ⟨rfl, hB⟩))))
theorem stride2_spec (f : Form) (w : World) : Ok (f35_palaverref11_Stride f) w fun r w' => r = strd2 f ∧ Below w.heap.size w w' := by
  unfold f35_palaverref11_Stride
  refine ok_bnd.2 (ok_newForm (h := f) fun w1 hb hB hs => ?_)
  exact ok_bnd.2 (ok_Form0 hb (ok_bnd.2 (ok_Form2 hb (ok_ret.2 ⟨rfl, hB⟩))))
theorem ones32 : ∀ n : Fin 33, (Gf80_bits_OnesCount64 ((n.val : Nat) : Int) == 1) = decide (Dep ((n.val : Nat) : Int)) := by decide +kernel
theorem ones_spec (d : Int) (h : 1 ≤ d ∧ d ≤ 32) (w : World) : Ok (f60_bits_OnesCount (IntKind.wrap .u64 d)) w fun r w' => (r == 1) = decide (Dep d) ∧ w' = w := by
  unfold f60_bits_OnesCount
  refine ok_false rfl (ok_ret.2 ⟨?_, rfl⟩)
  have e : IntKind.wrap .u64 d = d := by rw [wrapU]; omega
  rw [e]
  have := ones32 ⟨d.toNat, by omega⟩
  have e2 : ((d.toNat : Nat) : Int) = d := by omega
  rw [e2] at this
  exact this
theorem sized_spec (f : Form) (w : World) : Ok (f33_bitblt_sized f) w fun r w' => r = decide (Sized f) ∧ Below w.heap.size w w' := by
  unfold f33_bitblt_sized
  refine ok_bnd.2 (ok_newForm (h := f) fun w1 hb hB hs => ?_)
  refine ok_bnd.2 (ok_Form2 hb (ok_bnd.2 ?_))
  refine ok_mono (Q := fun r w' => r = decide (1 ≤ f.2.2.1 ∧ f.2.2.1 ≤ 32) ∧ w' = w1) ?_ ?_
  · refine ok_cnd.2 ⟨fun h => ok_bnd.2 (ok_Form2 hb (ok_ret.2 ⟨?_, rfl⟩)), fun h => ok_ret.2 ⟨?_, rfl⟩⟩
    · have h := of_decide_eq_true h
      exact eq_dec (by rw [decide_eq_true_iff]; omega)
    · have h := of_decide_eq_false h
      exact eq_dec (by simp; omega)
  rintro r w2 ⟨rfl, rfl⟩
  refine ok_bnd.2 (ok_mono (Q := fun r w' => r = decide (Dep f.2.2.1) ∧ w' = w2) ?_ ?_)
  · by_cases hd : 1 ≤ f.2.2.1 ∧ f.2.2.1 ≤ 32
    · refine ok_true (by simp [hd]) (ok_bnd.2 (ok_Form2 hb (ok_bnd.2 (ok_mono (ones_spec _ hd w2) ?_))))
      rintro r w3 ⟨h1, rfl⟩
      exact ok_ret.2 ⟨h1, rfl⟩
    · refine ok_false (by simpa using hd) (ok_ret.2 ⟨?_, rfl⟩)
      exact eq_dec (by simp only [Bool.false_eq_true, false_iff]; intro h; exact hd (dep_rng h))
  rintro r w3 ⟨rfl, rfl⟩
  refine ok_bnd.2 (ok_bnd.2 (ok_drawM.2 ?_))
  have hb := hasForm_drew hb
  have hB := hB.drew
  refine ok_mono (Q := fun r w' => r = decide (Sized f) ∧ Below w.heap.size w w') ?_ ?_
  · by_cases hd : Dep f.2.2.1
    · refine ok_true (by simp [hd]) (ok_bnd.2 (ok_Form0 hb (ok_bnd.2 (ok_ret.2 ?_))))
      by_cases hw : 0 ≤ f.1 ∧ f.1 ≤ 4096
      · refine ok_true (by simp [Gf36_bitblt_within, hw]) (ok_bnd.2 (ok_Form1 hb (ok_bnd.2 (ok_ret.2 ?_))))
        by_cases hh : 0 ≤ f.2.1 ∧ f.2.1 ≤ 4096
        · refine ok_true (by simp [Gf36_bitblt_within, hh]) (ok_bnd.2 (ok_Form hb (ok_bnd.2 (ok_Form1 hb (ok_bnd.2 (ok_mono (stride_spec f _) ?_))))))
          rintro r w4 ⟨rfl, hB4⟩
          have hb4 := hasForm_size hb hB4
          refine ok_bnd.2 (ok_bnd.2 (okc_Form1 hb4 (ok_ret.2 (ok_ret.2 ⟨?_, hB.trans (hB4.mono hB.size)⟩))))
          have hst := st_rng hd hw
          have hm := mul_bnd hst hh
          rw [strd_eq hd hw, wrapI_in (by omega)]
          exact eq_dec (by rw [decide_eq_true_iff]; exact ⟨fun h => ⟨hd, hw, hh, h⟩, fun h => h.2.2.2⟩)
        · refine ok_false (by simp [Gf36_bitblt_within]; omega) (ok_bnd.2 (ok_ret.2 (ok_ret.2 ⟨?_, hB⟩)))
          exact eq_dec (by simp only [Bool.false_eq_true, false_iff]; intro h; exact hh h.2.2.1)
      · refine ok_false (by simp [Gf36_bitblt_within]; omega) (ok_bnd.2 (ok_ret.2 (ok_bnd.2 (ok_ret.2 (ok_ret.2 ⟨?_, hB⟩)))))
        exact eq_dec (by simp only [Bool.false_eq_true, false_iff]; intro h; exact hw h.2.1)
    · refine ok_false (by simp [hd]) (ok_bnd.2 (ok_ret.2 (ok_bnd.2 (ok_ret.2 (ok_bnd.2 (ok_ret.2 (ok_ret.2 ⟨?_, hB⟩)))))))
      exact eq_dec (by simp only [Bool.false_eq_true, false_iff]; intro h; exact hd h.1)
  rintro r w4 ⟨rfl, hB4⟩
  exact ok_ret.2 ⟨rfl, hB4⟩
def errS (f : Form) : Int := if Good f then 0 else 110
theorem check_spec (f : Form) (w : World) : Ok (f14_bitblt_Check f) w fun r w' => r = errS f ∧ Below w.heap.size w w' := by
  unfold f14_bitblt_Check
  refine ok_bnd.2 (ok_newForm (h := f) fun w1 hb hB hs => ?_)
  refine ok_bnd.2 (ok_bnd.2 (ok_drawM.2 ?_))
  have hb := hasForm_drew hb
  have hB := hB.drew
  refine ok_mono (Q := fun r w' => r = decide (¬ Good f) ∧ Below w.heap.size w w') ?_ ?_
  · refine ok_bnd.2 (ok_Form hb (ok_bnd.2 (ok_mono (sized_spec f _) ?_)))
    rintro r w2 ⟨rfl, hB2⟩
    have hb := hasForm_size hb hB2
    have hB := hB.trans (hB2.mono hB.size)
    refine ok_bnd.2 (ok_ret.2 ?_)
    by_cases hz : Sized f
    · refine ok_false (by simp [hz]) (ok_bnd.2 (ok_Form3 hb (ok_bnd.2 (ok_Form hb (ok_bnd.2 (ok_Form1 hb (ok_bnd.2 (ok_mono (stride_spec f _) ?_))))))))
      rintro r w3 ⟨rfl, hB3⟩
      have hb := hasForm_size hb hB3
      have hB := hB.trans (hB3.mono hB.size)
      refine ok_bnd.2 (ok_bnd.2 (okc_Form1 hb (ok_bnd.2 (okc_Form3 hb (ok_ret.2 (ok_ret.2 ⟨?_, hB⟩))))))
      have hm := mul_bnd (st_rng hz.1 hz.2.1) hz.2.2.1
      rw [strd_eq hz.1 hz.2.1, wrapI_in (by omega)]
      exact eq_dec (by rw [bne_iff_ne]; exact ⟨fun h hg => h hg.2, fun h e => h ⟨hz, e⟩⟩)
    · refine ok_true (by simp [hz]) (ok_bnd.2 (ok_ret.2 (ok_ret.2 ⟨?_, hB⟩)))
      exact eq_dec (by simp only [true_iff]; intro h; exact hz h.1)
  rintro r w2 ⟨rfl, hB2⟩
  unfold errS
  by_cases hg : Good f
  · rw [if_pos hg]; exact ok_false (by simp [hg]) (ok_ret.2 ⟨rfl, hB2⟩)
  · rw [if_neg hg]; exact ok_true (by simp [hg]) (ok_ret.2 ⟨rfl, hB2⟩)
end Go.Proofs.Ytpgalllceejpnaa
