/-
  Part of the proof: B25
-/
import Derived.Test.YtpgalllceejpnaaB24
import Derived.Test.YtpgalllceejpnaaShP
set_option linter.unusedSimpArgs false
set_option linter.unusedVariables false
namespace Go.Proofs.Ytpgalllceejpnaa
set_option linter.unusedVariables false
open Go.Sh Go.RowKit
set_option maxRecDepth 100000
/-! ### The reference: forms -/
theorem all_spec (d : Int) (h : Dep d) (w : World) : Ok (f41_palaverref11_all d) w fun r w' => r = onesF d ∧ w' = w := by
  unfold f41_palaverref11_all
  have hr := dep_rng h
  refine ok_loop (fun (s : Int × Int) w' => w' = w ∧ 0 ≤ s.2 ∧ s.2 ≤ d ∧ s.1 = ((2 ^ s.2.toNat : Nat) : Int)) (fun s _ => (d - s.2).toNat) ?_ _ _ ⟨rfl, Int.le_refl _, by show (0 : Int) ≤ d; omega, rfl⟩
  rintro ⟨n, i⟩ w1 ⟨rfl, h0, h1, h2⟩
  simp only at h0 h1 h2 ⊢
  by_cases hi : i < d
  · refine ok_true (by simp [hi]) (ok_ret.2 ?_)
    have hp : 2 ^ i.toNat ≤ 2 ^ 32 := Nat.pow_le_pow_right (by decide) (by omega)
    rw [wrapI_in (by omega), wrapU]
    refine ⟨⟨rfl, by show 0 ≤ i + 1; omega, by show i + 1 ≤ d; omega, ?_⟩, by show (d - (i + 1)).toNat < _; omega⟩
    show n * 2 % 18446744073709551616 = ((2 ^ (i + 1).toNat : Nat) : Int)
    have e : (i + 1).toNat = i.toNat + 1 := by omega
    rw [e, Nat.pow_succ, h2]
    omega
  · have hid : i = d := by omega
    subst hid
    refine ok_false (by simp) (ok_ret.2 ⟨?_, rfl⟩)
    rw [h2]
    unfold Dep at h
    rcases h with h | h | h | h | h | h <;> subst h <;> decide
theorem refcheck_spec (f : Form) (w : World) : Ok (f15_palaverref11_Check f) w fun r w' => r = errS f ∧ Below w.heap.size w w' := by
  unfold f15_palaverref11_Check
  have C := Cx.nil No w
  refine ok_newL C fun p1 w1 C => ok_rdL C 0 rfl rfl ?_
  refine ok_or (decide (f.1 > 4096)) (fun _ => ok_rdL C 0 rfl rfl (ok_ret.2 ⟨rfl, rfl⟩)) ?_
  refine ok_or (decide (f.2.1 < 0)) (fun _ => ok_rdL C 0 rfl rfl (ok_ret.2 ⟨rfl, rfl⟩)) ?_
  refine ok_or (decide (f.2.1 > 4096)) (fun _ => ok_rdL C 0 rfl rfl (ok_ret.2 ⟨rfl, rfl⟩)) ?_
  by_cases hwh : (0 ≤ f.1 ∧ f.1 ≤ 4096) ∧ (0 ≤ f.2.1 ∧ f.2.1 ≤ 4096)
  rotate_left
  · refine ok_true (by simp only [Bool.or_eq_true, decide_eq_true_eq]; omega) (ok_ret.2 ⟨?_, C.below⟩)
    unfold errS; rw [if_neg (fun h => hwh ⟨h.1.2.1, h.1.2.2.1⟩)]
  refine ok_false (by simp only [Bool.or_eq_false_iff, decide_eq_false_iff_not]; omega) ?_
  refine ok_rdL C 0 rfl rfl ?_
  refine ok_and (f.2.2.1 != 2) (fun _ => ok_rdL C 0 rfl rfl (ok_ret.2 ⟨rfl, rfl⟩)) ?_
  refine ok_and (f.2.2.1 != 4) (fun _ => ok_rdL C 0 rfl rfl (ok_ret.2 ⟨rfl, rfl⟩)) ?_
  refine ok_and (f.2.2.1 != 8) (fun _ => ok_rdL C 0 rfl rfl (ok_ret.2 ⟨rfl, rfl⟩)) ?_
  refine ok_and (f.2.2.1 != 16) (fun _ => ok_rdL C 0 rfl rfl (ok_ret.2 ⟨rfl, rfl⟩)) ?_
  refine ok_and (f.2.2.1 != 32) (fun _ => ok_rdL C 0 rfl rfl (ok_ret.2 ⟨rfl, rfl⟩)) ?_
  by_cases hd : Dep f.2.2.1
  rotate_left
  · refine ok_true (by unfold Dep at hd; simp only [Bool.and_eq_true, bne_iff_ne]; omega) (ok_ret.2 ⟨?_, C.below⟩)
    unfold errS; rw [if_neg (fun h => hd h.1.1)]
  refine ok_false (by unfold Dep at hd; simp only [Bool.and_eq_false_iff, bne_eq_false_iff_eq]; omega) ?_
  have hm := mul_bnd (st_rng hd hwh.1) hwh.2
  refine ok_bnd.2 (ok_drawL C fun w2 C => ?_)
  refine ok_rdL0 C 0 rfl rfl (ok_rdL C 0 rfl rfl (ok_callL C (stride2_spec f w2) (fun _ _ h => h.2) fun r w3 hr C => ?_))
  obtain ⟨rfl, _⟩ := hr
  rw [strd2_eq hd hwh.1, wrapI_in (by omega)]
  refine ok_bnd.2 (ok_chkL C 0 rfl rfl (ok_ret.2 ?_))
  by_cases hmm : st f * f.2.1 ≤ 1048576
  rotate_left
  · refine ok_true (by simp; omega) (ok_bnd.2 (ok_ret.2 (ok_ret.2 (ok_true rfl (ok_ret.2 ⟨?_, C.below⟩)))))
    unfold errS; rw [if_neg (fun h => hmm h.1.2.2.2)]
  refine ok_false (by simp; omega) ?_
  refine ok_rdL C 0 rfl (x := f.2.2.2) rfl ?_
  refine ok_rdL0 C 0 rfl rfl (ok_rdL C 0 rfl rfl (ok_callL C (stride2_spec f w3) (fun _ _ h => h.2) fun r w4 hr C => ?_))
  obtain ⟨rfl, _⟩ := hr
  refine ok_bnd.2 (ok_chkL C 0 rfl rfl (ok_chkL C 0 rfl rfl (ok_ret.2 (ok_ret.2 ?_))))
  rw [strd2_eq hd hwh.1, wrapI_in (by omega)]
  by_cases hg : Good f
  · refine ok_false (by simp [hg.2]) (ok_ret.2 ⟨?_, C.below⟩)
    unfold errS; rw [if_pos hg]
  · refine ok_true (by rw [bne_iff_ne]; exact fun h => hg ⟨⟨hd, hwh.1, hwh.2, hmm⟩, h⟩) (ok_ret.2 ⟨?_, C.below⟩)
    unfold errS; rw [if_neg hg]
theorem refnew_spec (W H D : Int) (w : World) : Ok (f11_palaverref11_New W H D) w fun r w' => Below w.heap.size w w' ∧ (if Sized (W, H, D, ⟨none, 0, 0⟩) then r.2 = 0 ∧ r.1.1 = W ∧ r.1.2.1 = H ∧ r.1.2.2.1 = D ∧ Own w.heap.size w' r.1.2.2.2 (wds (List.replicate (st (W, H, D, ⟨none, 0, 0⟩) * H).toNat 0)) else r = (zf, 110)) := by
  unfold f11_palaverref11_New
  have C := Cx.nil No w
  refine ok_newL C fun p1 w1 C => ok_newWrL C rfl rfl fun p2 w2 C => ?_
  obtain ⟨f, hf⟩ : ∃ f : Form, f = (W, H, D, ⟨none, 0, 0⟩) := ⟨_, rfl⟩
  rw [← hf]
  have hout : ∀ {w3} (e : Int), Cx No w w3 [It.cells p2 [.int .i64 W, .int .i64 H, .int .i64 D, .slice none 0 0], It.cells p1 [.int .i64 0, .int .i64 0, .int .i64 0, .slice none 0 0]] → Ok (bnd (wrs ⟨p1, 0, none⟩ 0 [.int .i64 (0 : Int), .int .i64 (0 : Int), .int .i64 (0 : Int), .slice none 0 0]) fun _ => bnd (ld (.agg (.pair (.int .i64) (.pair (.int .i64) (.pair (.int .i64) .sl)))) ⟨p1, 0, none⟩) fun (v6 : Form) => ret (v6, e)) w3 fun r w' => Below w.heap.size w w' ∧ r = (zf, e) :=
    fun {w3} e C =>
      ok_wrC0 C 1 rfl rfl rfl fun w4 C => ok_rdL0 C 1 rfl rfl (ok_ret.2 ⟨C.below, rfl⟩)
  refine ok_bnd.2 (ok_mono (Q := fun r w' => (r = false ↔ ((0 ≤ W ∧ W ≤ 4096) ∧ (0 ≤ H ∧ H ≤ 4096) ∧ (1 ≤ D ∧ D ≤ 32) ∧ strd2 f * H ≤ 1048576)) ∧ Cx No w w' [It.cells p2 [.int .i64 W, .int .i64 H, .int .i64 D, .slice none 0 0], It.cells p1 [.int .i64 0, .int .i64 0, .int .i64 0, .slice none 0 0]]) ?_ ?_)
  · refine ok_cnd.2 ⟨fun hb => ok_ret.2 ⟨?_, C⟩, fun hb => ?_⟩
    · simp only [Bool.cond_true_left, Bool.or_eq_true, decide_eq_true_eq] at hb
      constructor
      · intro h; cases h
      · rintro ⟨h1, h2, h3, _⟩; omega
    · refine ok_rdL0 C 0 rfl (x := f) (by rw [hf]; rfl) ?_
      refine ok_callL C (stride2_spec f w2) (fun _ _ h => h.2) fun r w3 hr C => ?_
      obtain ⟨rfl, _⟩ := hr
      refine ok_ret.2 ⟨?_, C⟩
      simp only [Bool.cond_true_left, Bool.or_eq_false_iff, decide_eq_false_iff_not] at hb
      have hs : 0 ≤ strd2 f ∧ strd2 f ≤ 8000 := by
        rw [hf]
        have hm := mul_bnd (show 0 ≤ W ∧ W ≤ 4096 by omega) (show 0 ≤ D ∧ D ≤ 32 by omega)
        unfold strd2
        simp only
        rw [wrapI_in (n := W * D) (by omega), wrapI_in (n := _ + 31) (by omega), Int.tdiv_eq_ediv_of_nonneg (by omega), wrapI_in (by omega)]
        omega
      have hm := mul_bnd hs (show 0 ≤ H ∧ H ≤ 4096 by omega)
      rw [wrapI_in (by omega), decide_eq_false_iff_not]
      constructor
      · intro h; exact ⟨by omega, by omega, by omega, by omega⟩
      · rintro ⟨_, _, _, h⟩; omega
  rintro r w3 ⟨hr, C⟩
  cases r with
  | true =>
    have hs : ¬ Sized f := fun h => by
      have hh := h
      rw [hf] at h
      have hd := dep_rng h.1
      have := hr.2 ⟨h.2.1, h.2.2.1, hd, by rw [strd2_eq hh.1 hh.2.1]; have := hh.2.2.2; rw [hf] at this ⊢; exact this⟩
      cases this
    refine ok_true rfl (ok_mono (hout 110 C) ?_)
    rintro r w' ⟨h1, rfl⟩
    rw [if_neg hs]
    exact ⟨h1, rfl⟩
  | false =>
    obtain ⟨hW, hH, hD, hm⟩ := hr.1 rfl
    have hs0 : 0 ≤ strd2 f ∧ strd2 f ≤ 8000 := by
      rw [hf]
      have hm := mul_bnd (show 0 ≤ W ∧ W ≤ 4096 by omega) (show 0 ≤ D ∧ D ≤ 32 by omega)
      unfold strd2
      simp only
      rw [wrapI_in (n := W * D) (by omega), wrapI_in (n := _ + 31) (by omega), Int.tdiv_eq_ediv_of_nonneg (by omega), wrapI_in (by omega)]
      omega
    have hmm := mul_bnd hs0 hH
    refine ok_false rfl ?_
    refine ok_rdL0 C 0 rfl (x := f) (by rw [hf]; rfl) ?_
    refine ok_callL C (stride2_spec f w3) (fun _ _ h => h.2) fun r w4 hr C => ?_
    obtain ⟨rfl, _⟩ := hr
    rw [wrapI_in (by omega)]
    obtain ⟨n, hn⟩ : ∃ n, n = (strd2 f * H).toNat := ⟨_, rfl⟩
    refine ok_bnd.2 (ok_make slt hmm.1 (Int.le_refl _) (by omega) (by omega) ?_)
    rw [← hn]
    have O : Own w4.heap.size (w4.alloc (.cells (List.replicate n (Value.int .u32 0)).toArray 25)) ⟨some ⟨w4.heap.size, 0, none⟩, n, n⟩ (wds (List.replicate n 0)) := by
      refine ⟨by simp, Nat.le_refl _, by simp only [maxLen]; omega, .inr ⟨_, _, rfl, Nat.le_refl _, by rw [blk_alloc, if_pos rfl], by rw [fre_alloc, if_pos rfl], by simp, fun i hi => by rw [List.getElem?_toArray]; simp [wds]⟩⟩
    have C := C.addOwn ((Below.refl _ _).alloc (Nat.le_refl _) _) O
    generalize (⟨some ⟨w4.heap.size, 0, none⟩, n, n⟩ : Sl) = R at C O ⊢
    generalize w4.alloc (.cells (List.replicate n (Value.int .u32 0)).toArray 25) = w5 at C O ⊢
    have hRl : R.len = n := by have := O.1; simpa using this
    refine ok_wrC C 1 [.int .i64 W, .int .i64 H, .int .i64 D, .slice R.a R.len R.cap] rfl (by simp) rfl rfl fun w6 C => ?_
    dsimp only [List.set] at C
    refine ok_rdL0 C 1 rfl (x := (W, H, D, R)) rfl ?_
    refine ok_callL C (refcheck_spec (W, H, D, R) w6) (fun _ _ h => h.2) fun r w7 hr C => ?_
    obtain ⟨rfl, _⟩ := hr
    by_cases hs : Sized f
    · have hg : Good (W, H, D, R) := ⟨by rw [hf] at hs; exact hs, by
        show (R.len : Int) = st (W, H, D, R) * H
        rw [hRl, hn, strd2_eq hs.1 hs.2.1]
        have : 0 ≤ st f * H := by rw [← strd2_eq hs.1 hs.2.1]; exact hmm.1
        rw [show st (W, H, D, R) = st f by rw [hf]; rfl]
        omega⟩
      simp only [if_pos hs]
      refine ok_false (by unfold errS; rw [if_pos hg]; rfl) ?_
      refine ok_rdL0 C 1 rfl (x := (W, H, D, R)) rfl ?_
      refine ok_wrC0 C 2 rfl rfl rfl fun w8 C => ?_
      dsimp only [List.set] at C
      refine ok_rdL0 C 2 rfl (x := (W, H, D, R)) rfl (ok_ret.2 ⟨C.below, rfl, rfl, rfl, rfl, ?_⟩)
      have := C.ret (i := 0) rfl
      rw [hn, strd2_eq hs.1 hs.2.1] at this
      exact this
    · have hg : ¬ Good (W, H, D, R) := fun h => hs (by rw [hf]; exact h.1)
      simp only [if_neg hs]
      refine ok_true (by unfold errS; rw [if_neg hg]; rfl) ?_
      refine ok_wrC0 C 2 rfl rfl rfl fun w8 C => ?_
      dsimp only [List.set] at C
      refine ok_rdL0 C 2 rfl (x := zf) rfl (ok_ret.2 ⟨C.below, ?_⟩)
      unfold errS; rw [if_neg hg]
end Go.Proofs.Ytpgalllceejpnaa
