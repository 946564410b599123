/-
  Part of the proof: B05
-/
import Derived.Test.YtpgalllceejpnaaB04
set_option linter.unusedSimpArgs false
set_option linter.unusedVariables false
namespace Go.Proofs.Ytpgalllceejpnaa
set_option linter.unusedVariables false
open Go.Sh Go.RowKit
set_option maxRecDepth 100000
/-! ### Rules -/
noncomputable def ruleF (r s d : Int) : Int :=
  if r = 0 then Gf61_bitblt_ruled_1 s d else if r = 1 then Gf62_bitblt_ruled_2 s d else if r = 2 then Gf63_bitblt_ruled_3 s d else if r = 3 then Gf64_bitblt_ruled_4 s d
  else if r = 4 then Gf65_bitblt_ruled_5 s d else if r = 5 then Gf66_bitblt_ruled_6 s d else if r = 6 then Gf67_bitblt_ruled_7 s d else if r = 7 then Gf68_bitblt_ruled_8 s d
  else if r = 8 then Gf69_bitblt_ruled_9 s d else if r = 9 then Gf70_bitblt_ruled_10 s d else if r = 10 then Gf71_bitblt_ruled_11 s d else if r = 11 then Gf72_bitblt_ruled_12 s d
  else if r = 12 then Gf73_bitblt_ruled_13 s d else if r = 13 then Gf74_bitblt_ruled_14 s d else if r = 14 then Gf75_bitblt_ruled_15 s d else Gf76_bitblt_ruled_16 s d
/-- What a function value does. -/
def Does (C : Ctx) (v : Value) (F : Int → Int → Int) : Prop := ∀ (s d : Int) (w : World), callV C (.int .u32) v [⟨.int .u32, s⟩, ⟨.int .u32, d⟩] w = some (F s d, w)
theorem ok_ixG_val {l : List Value} {len : Nat} {n : Int} {v : Value} {w : World} {Q : Value → World → Prop} (h0 : 0 ≤ n) (h1 : n < len) (hv : l[n.toNat]? = some v) (hq : Q v w) : Ok (ixG .val l len n) w Q := by
  unfold ixG
  rw [show (decide (0 ≤ n) && decide (n < (len : Int))) = true by simp [h0, h1], cond_true]
  simp only [hv]
  exact ok_optM.2 ⟨v, by simp [dec1, dec, dVal], hq⟩
theorem ruled_spec (r : Int) (h : 0 ≤ r ∧ r ≤ 15) (w : World) : Ok (f44_bitblt_ruled r) w fun v w' => w' = w ∧ Does Cf78_bitblt_row v (ruleF r) ∧ Does Cf20_bitblt_Rule v (ruleF r) := by
  have hr : r = 0 ∨ r = 1 ∨ r = 2 ∨ r = 3 ∨ r = 4 ∨ r = 5 ∨ r = 6 ∨ r = 7 ∨ r = 8 ∨ r = 9 ∨ r = 10 ∨ r = 11 ∨ r = 12 ∨ r = 13 ∨ r = 14 ∨ r = 15 := by omega
  unfold f44_bitblt_ruled
  rcases hr with h | h | h | h | h | h | h | h | h | h | h | h | h | h | h | h <;> subst h <;>
    exact ok_bnd.2 (ok_ixG_val (by decide) (by decide) rfl (ok_ret.2 ⟨rfl, fun s d w => rfl, fun s d w => rfl⟩))
/-! ### Bits -/
theorem and31 (x : Int) (h : -9223372036854775808 ≤ x ∧ x ≤ 9223372036854775807) : bAnd .i64 x 31 = x % 32 := by
  show IntKind.i64.wrap (((BitVec.ofInt 64 x) &&& (BitVec.ofInt 64 31)).toNat : Int) = _
  rw [BitVec.toNat_and, BitVec.toNat_ofInt, show (BitVec.ofInt 64 31).toNat = 2 ^ 5 - 1 from rfl, Nat.and_two_pow_sub_one_eq_mod, wrapI]
  omega
/-- A word of a row, nought outside it. -/
def RdAt (w : World) (s : Sl) (q v : Int) : Prop := (q < 0 ∨ (s.len : Int) ≤ q → v = 0) ∧ (0 ≤ q → q < s.len → ∃ b o c, s.a = some ⟨b, o, none⟩ ∧ blk w b = some c ∧ c[o + q.toNat]? = some (.int .u32 v))
theorem rdAt_size {w w' : World} {s : Sl} {q v : Int} (h : RdAt w s q v) (k : Below w.heap.size w w') : RdAt w' s q v :=
  ⟨h.1, fun h0 h1 => by
    obtain ⟨b, o, c, h2, h3, h4⟩ := h.2 h0 h1
    exact ⟨b, o, c, h2, (Go.Sh.Below.blk k (blk_lt h3)).trans h3, h4⟩⟩
def HasSl (w : World) (b : Nat) (s : Sl) : Prop := blk w b = some #[.slice s.a s.len s.cap]
theorem ok_Sl {w : World} {b : Nat} {s : Sl} {Q : Sl → World → Prop} (H : HasSl w b s) (hq : Q s w) : Ok (ld .sl ⟨b, 0, none⟩) w Q := ok_ld H rfl hq
theorem at_spec {w : World} {p : Nat} {s : Sl} (hp : HasSl w p s) (q v : Int) (h : RdAt w s q v) : Ok (f82_bitblt_bits32_1 q ⟨p, 0, none⟩) w fun r w' => r = IntKind.wrap .u64 v ∧ w' = w := by
  unfold f82_bitblt_bits32_1
  refine ok_bnd.2 (ok_mono (Q := fun r w' => r = decide (q < 0 ∨ (s.len : Int) ≤ q) ∧ w' = w) ?_ ?_)
  · refine ok_cnd.2 ⟨fun h => ok_ret.2 ⟨?_, rfl⟩, fun h => ok_bnd.2 (ok_Sl hp (ok_ret.2 ⟨?_, rfl⟩))⟩
    · have h := of_decide_eq_true h
      exact eq_dec (by simp only [true_iff]; exact Or.inl h)
    · have h := of_decide_eq_false h
      exact eq_dec (by rw [decide_eq_true_iff]; exact ⟨fun h' => Or.inr h', fun h' => h'.resolve_left h⟩)
  rintro r w1 ⟨rfl, rfl⟩
  by_cases hq : q < 0 ∨ (s.len : Int) ≤ q
  · refine ok_true (by simp [hq]) (ok_ret.2 ⟨?_, rfl⟩)
    rw [h.1 hq, wrapU]; rfl
  · refine ok_false (by simpa using hq) (ok_bnd.2 (ok_Sl hp ?_))
    obtain ⟨b, o, c, h2, h3, h4⟩ := h.2 (by omega) (by omega)
    refine ok_bnd.2 (ok_ix h2 (by omega) (by omega) (ok_bnd.2 (ok_ldA h3 (rdv_int (by rw [Nat.mul_one]; exact h4)) (ok_ret.2 ⟨rfl, rfl⟩))))
noncomputable def bitsF (v0 v1 bit : Int) : Int := IntKind.wrap .u32 (shrI .u64 (bOr .u64 (shlI .u64 (IntKind.wrap .u64 v0) 32) (IntKind.wrap .u64 v1)) (32 - bit % 32).toNat)
theorem bits_spec (s : Sl) (bit v0 v1 : Int) (hb : -9223372036854775808 ≤ bit ∧ bit ≤ 9223372036854775807) (w : World) (h0 : RdAt w s (bit / 32) v0) (h1 : RdAt w s (bit / 32 + 1) v1) :
    Ok (f81_bitblt_bits32 s bit) w fun r w' => r = bitsF v0 v1 bit ∧ Below w.heap.size w w' := by
  unfold f81_bitblt_bits32
  have e : shrI .i64 bit 5 = bit / 32 := by rw [shr_eq _ _ _ (by decide)]; rfl
  rw [e, wrapI_in (n := bit / 32 + 1) (by omega), and31 bit hb, wrapI_in (n := 32 - bit % 32) (by omega)]
  refine ok_bnd.2 (ok_newC.2 ?_)
  have hB : Below w.heap.size w (w.alloc (.cells #[.slice s.a s.len s.cap] 22)) := (Below.refl _ _).alloc (Nat.le_refl _) _
  have hp : HasSl (w.alloc (.cells #[.slice s.a s.len s.cap] 22)) w.heap.size s := by unfold HasSl; rw [blk_alloc, if_pos rfl]
  refine ok_bnd.2 (ok_mono (at_spec hp _ _ (rdAt_size h0 hB)) ?_)
  rintro r w1 ⟨rfl, rfl⟩
  refine ok_bnd.2 (ok_mono (at_spec hp _ _ (rdAt_size h1 hB)) ?_)
  rintro r w1 ⟨rfl, rfl⟩
  exact ok_bnd.2 (ok_cnt.2 ⟨by omega, ok_ret.2 ⟨rfl, hB⟩⟩)
theorem span_in (x0 x1 x2 x3 x4 x5 x6 : Int) (h0 : Far x0) (h1 : Far x1) (h2 : Far x2) (h3 : Far x3) (h4 : Far x4) (h5 : 0 ≤ x5 ∧ x5 ≤ 4096) (h6 : 0 ≤ x6 ∧ x6 ≤ 4096) (hn : 1 ≤ (Gf54_bitblt_span x0 x1 x2 x3 x4 x5 x6).2.2) :
    0 ≤ (Gf54_bitblt_span x0 x1 x2 x3 x4 x5 x6).1 ∧ (Gf54_bitblt_span x0 x1 x2 x3 x4 x5 x6).1 + (Gf54_bitblt_span x0 x1 x2 x3 x4 x5 x6).2.2 ≤ x5 ∧
    0 ≤ (Gf54_bitblt_span x0 x1 x2 x3 x4 x5 x6).2.1 ∧ (Gf54_bitblt_span x0 x1 x2 x3 x4 x5 x6).2.1 + (Gf54_bitblt_span x0 x1 x2 x3 x4 x5 x6).2.2 ≤ x6 ∧
    (Gf54_bitblt_span x0 x1 x2 x3 x4 x5 x6).2.1 - (Gf54_bitblt_span x0 x1 x2 x3 x4 x5 x6).1 = x2 - x0 := by
  unfold Far at *
  simp only [Gf54_bitblt_span, wrapI, maxI, minI] at *
  omega
end Go.Proofs.Ytpgalllceejpnaa
