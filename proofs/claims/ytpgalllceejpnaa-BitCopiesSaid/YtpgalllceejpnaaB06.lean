/-
  Part of the proof: B06
-/
import Derived.Test.YtpgalllceejpnaaB05
set_option linter.unusedSimpArgs false
set_option linter.unusedVariables false
namespace Go.Proofs.Ytpgalllceejpnaa
set_option linter.unusedVariables false
open Go.Sh Go.RowKit
set_option maxRecDepth 100000
noncomputable def maskF (first last i : Int) : Int :=
  if i = last / 32 then bAnd .u32 (if i = first / 32 then shrI .u32 4294967295 (first % 32).toNat else 4294967295) (shlI .u32 4294967295 (31 - last % 32).toNat)
  else (if i = first / 32 then shrI .u32 4294967295 (first % 32).toNat else 4294967295)
def rowAt (m : Int) (sr : Int → Int) (q : Int) : Int := if 0 ≤ q ∧ q < m then sr q else 0
noncomputable def srcF (has : Bool) (m : Int) (sr : Int → Int) (bit : Int) : Int := cond has (bitsF (rowAt m sr (bit / 32)) (rowAt m sr (bit / 32 + 1)) bit) 4294967295
noncomputable def mixF (rule tone mask s d : Int) : Int := bOr .u32 (bAndNot .u32 d mask) (bAnd .u32 (ruleF rule (bAnd .u32 s tone) d) mask)
/-- A word of a row behind a blit. -/
noncomputable def newW (rule tone first last by_ : Int) (has : Bool) (m : Int) (sr dr : Int → Int) (i : Int) : Int := mixF rule tone (maskF first last i) (srcF has m sr (32 * i + by_)) (dr i)
def proc (by_ lo hi t i : Int) : Prop := if by_ < 0 then lo + hi - t < i ∧ i ≤ hi else lo ≤ i ∧ i < t
instance (by_ lo hi t i : Int) : Decidable (proc by_ lo hi t i) := by unfold proc; infer_instance
/-- All but block b is as it was, below Z. -/
def But (b Z : Nat) (w w' : World) : Prop := ∀ k, k < Z → k ≠ b → blk w' k = blk w k ∧ fre w' k = fre w k
theorem but_trans {b Z : Nat} {w w' w'' : World} (h : But b Z w w') (k : But b Z w' w'') : But b Z w w'' := fun j h1 h2 => ⟨(k j h1 h2).1.trans (h j h1 h2).1, (k j h1 h2).2.trans (h j h1 h2).2⟩
theorem but_below {b Z : Nat} {w w' : World} (k : Below Z w w') : But b Z w w' := fun j h1 _ => ⟨Go.Sh.Below.blk k h1, Go.Sh.Below.fre k h1⟩
/-- What a row's loop does. -/
theorem loop_spec (v9 s11 : Sl) (b R : Nat) (n first last by_ rule tone : Int) (r33 : Value) (has : Bool) (m : Int) (sr dr : Int → Int) (w : World) (c : Array Value)
    (hv9 : v9.a = some ⟨b, R, none⟩ ∧ (v9.len : Int) = n) (hc : blk w b = some c) (hf : fre w b = true) (hsz : (R : Int) + n ≤ c.size)
    (hdr : ∀ i : Int, 0 ≤ i → i < n → c[R + i.toNat]? = some (.int .u32 (dr i)))
    (hfl : 0 ≤ first ∧ first ≤ last ∧ last < 32 * n ∧ last ≤ 131072) (hby : -131072 ≤ by_ ∧ by_ ≤ 131072)
    (hhas : (!(Option.isNone s11.a)) = has)
    (hsrc : has = true → ∃ bs os cs, s11.a = some ⟨bs, os, none⟩ ∧ (s11.len : Int) = m ∧ blk w bs = some cs ∧ (∀ i : Int, 0 ≤ i → i < m → cs[os + i.toNat]? = some (.int .u32 (sr i))) ∧
      (bs = b → (m = n ∧ (os = R ∨ (os : Int) + m ≤ R ∨ (R : Int) + n ≤ os))))
    (hrule : Does Cf78_bitblt_row r33 (ruleF rule)) :
    Ok (loopM (fun (s34 : Int) =>
  cnd (decide (s34 ≤ last / 32)) (
  bnd (
  cnd (decide (by_ < (0 : Int))) (
  ret (IntKind.wrap .i64 ((IntKind.wrap .i64 (first / 32 + last / 32)) - s34))) (
  ret s34)) fun (s35 : Int) =>
  bnd (
  cnd (!(Option.isNone s11.a)) (
  bnd (f81_bitblt_bits32 s11 (IntKind.wrap .i64 ((IntKind.wrap .i64 (s35 * (32 : Int))) + by_))) fun (r37 : Int) =>
  ret r37) (
  ret (4294967295 : Int))) fun (s36 : Int) =>
  bnd (
  cnd (s35 == first / 32) (
  bnd (cnt (first % 32)) fun (c39 : Nat) =>
  ret (shrI .u32 (4294967295 : Int) c39)) (
  ret (4294967295 : Int))) fun (s38 : Int) =>
  bnd (
  cnd (s35 == last / 32) (
  bnd (cnt (IntKind.wrap .i64 ((31 : Int) - last % 32))) fun (c41 : Nat) =>
  ret (bAnd .u32 s38 (shlI .u32 (4294967295 : Int) c41))) (
  ret s38)) fun (s40 : Int) =>
  bnd drawM fun _ =>
  bnd (ix 1 v9 s35) fun (p42 : Addr) =>
  bnd (ld (.int .u32) p42) fun (v43 : Int) =>
  bnd (ix 1 v9 s35) fun (p44 : Addr) =>
  bnd (ld (.int .u32) p44) fun (v45 : Int) =>
  bnd (callV Cf78_bitblt_row (.int .u32) r33 [⟨(.int .u32), (bAnd .u32 s36 tone)⟩, ⟨(.int .u32), v45⟩]) fun (r46 : Int) =>
  bnd (
  bnd (chk (.int .u32) p42 v43) fun _ =>
  ret ()) fun _ =>
  bnd (ix 1 v9 s35) fun (p47 : Addr) =>
  bnd (wrs p47 0 [.int .u32 (bOr .u32 (bAndNot .u32 v43 s40) (bAnd .u32 r46 s40))]) fun _ =>
  bnd (ret ()) fun _ =>
  ret (Sum.inl (IntKind.wrap .i64 (s34 + (1 : Int))))) (
  ret (Sum.inr ()))) (first / 32)) w fun _ w' => ∃ c', blk w' b = some c' ∧ fre w' b = true ∧ c'.size = c.size ∧
      (∀ j : Nat, c'[j]? = if (R : Int) + first / 32 ≤ j ∧ (j : Int) ≤ R + last / 32 then some (.int .u32 (newW rule tone first last by_ has m sr dr ((j : Int) - R))) else c[j]?) ∧
      But b w.heap.size w w' ∧ Below b w w' := by
  have hbZ := blk_lt hc
  refine ok_loop (fun t w' => first / 32 ≤ t ∧ t ≤ last / 32 + 1 ∧ ∃ c', blk w' b = some c' ∧ fre w' b = true ∧ c'.size = c.size ∧
      (∀ j : Nat, c'[j]? = if (R : Int) ≤ j ∧ proc by_ (first / 32) (last / 32) t ((j : Int) - R) then some (.int .u32 (newW rule tone first last by_ has m sr dr ((j : Int) - R))) else c[j]?) ∧
      But b w.heap.size w w' ∧ Below b w w' ∧ w.heap.size ≤ w'.heap.size) (fun t _ => (last / 32 + 1 - t).toNat) ?_ _ _ ?_
  · rintro t w1 ⟨ht0, ht1, c1, hc1, hf1, hz1, hj1, hbut1, hB1, hle1⟩
    by_cases htl : t ≤ last / 32
    · refine ok_true (by simp [htl]) ?_
      obtain ⟨i, hi⟩ : ∃ i : Int, i = if by_ < 0 then first / 32 + last / 32 - t else t := ⟨_, rfl⟩
      have hilo : first / 32 ≤ i ∧ i ≤ last / 32 := by rw [hi]; split <;> omega
      have hinp : ¬ proc by_ (first / 32) (last / 32) t i := by unfold proc; split <;> (rename_i hb; simp only [hb, if_true, if_false] at hi; omega)
      have hin : 0 ≤ i ∧ i < n := by omega
      refine ok_bnd.2 (ok_mono (Q := fun r w' => i = r ∧ w1 = w') ?_ ?_)
      · by_cases hb : by_ < 0
        · refine ok_true (by simp [hb]) (ok_ret.2 ⟨?_, rfl⟩)
          rw [wrapI_in (n := first / 32 + last / 32) (by omega), wrapI_in (by omega), hi, if_pos hb]
        · exact ok_false (by simp [hb]) (ok_ret.2 ⟨by rw [hi, if_neg hb], rfl⟩)
      rintro _ _ ⟨rfl, rfl⟩
      refine ok_bnd.2 (ok_mono (Q := fun r w' => r = srcF has m sr (32 * i + by_) ∧ Below w1.heap.size w1 w') ?_ ?_)
      · rw [hhas]
        cases hh : has with
        | false => exact ok_false rfl (ok_ret.2 ⟨rfl, Below.refl _ _⟩)
        | true =>
          refine ok_true rfl ?_
          obtain ⟨bs, os, cs, h1, h2, h3, h4, h5⟩ := hsrc hh
          rw [wrapI_in (n := i * 32) (by omega), wrapI_in (n := i * 32 + by_) (by omega), show i * 32 + by_ = 32 * i + by_ by omega]
          have hrd : ∀ q : Int, (by_ < 0 → q ≤ i) → (¬ by_ < 0 → i ≤ q) → RdAt w1 s11 q (rowAt m sr q) := by
            intro q hq1 hq2
            refine ⟨fun hq => ?_, fun hq0 hqm => ?_⟩
            · unfold rowAt; rw [if_neg (by omega)]
            · have hqm' : q < m := by omega
              have hval : rowAt m sr q = sr q := if_pos ⟨hq0, hqm'⟩
              rw [hval]
              by_cases hbs : bs = b
              · subst hbs
                rw [h3] at hc
                cases hc
                refine ⟨bs, os, c1, h1, hc1, ?_⟩
                rw [hj1, if_neg, h4 q hq0 hqm']
                rintro ⟨ha, hp⟩
                obtain ⟨hmn, hos⟩ := h5 rfl
                unfold proc at hp
                rcases hos with hos | hos | hos
                · subst hos
                  split at hp
                  · rename_i hb; have := hq1 hb; simp only [hb, if_true] at hi; omega
                  · rename_i hb; have := hq2 hb; simp only [hb, if_false] at hi; omega
                · split at hp <;> omega
                · split at hp <;> omega
              · exact ⟨bs, os, cs, h1, (hbut1 bs (blk_lt h3) hbs).1.trans h3, h4 q hq0 hqm'⟩
          refine ok_bnd.2 (ok_mono (bits_spec s11 (32 * i + by_) _ _ (by omega) w1 (hrd ((32 * i + by_) / 32) (by omega) (by omega)) (hrd ((32 * i + by_) / 32 + 1) (by omega) (by omega))) ?_)
          rintro r w2 ⟨rfl, B2⟩
          exact ok_ret.2 ⟨rfl, B2⟩
      rintro s36 w2 ⟨rfl, B2⟩
      have hc2 : blk w2 b = some c1 := (Go.Sh.Below.blk B2 (blk_lt hc1)).trans hc1
      have hf2 : fre w2 b = true := (Go.Sh.Below.fre B2 (blk_lt hc1)).trans hf1
      refine ok_bnd.2 (ok_mono (Q := fun r w' => r = (if i = first / 32 then shrI .u32 4294967295 (first % 32).toNat else 4294967295) ∧ w2 = w') ?_ ?_)
      · by_cases hb : i = first / 32
        · exact ok_true (by simp [hb]) (ok_bnd.2 (ok_cnt.2 ⟨by omega, ok_ret.2 ⟨by rw [if_pos hb], rfl⟩⟩))
        · exact ok_false (by simp [hb]) (ok_ret.2 ⟨by rw [if_neg hb], rfl⟩)
      rintro _ _ ⟨rfl, rfl⟩
      refine ok_bnd.2 (ok_mono (Q := fun r w' => r = maskF first last i ∧ w2 = w') ?_ ?_)
      · by_cases hb : i = last / 32
        · refine ok_true (by simp [hb]) (ok_bnd.2 ?_)
          rw [wrapI_in (n := 31 - last % 32) (by omega)]
          exact ok_cnt.2 ⟨by omega, ok_ret.2 ⟨by unfold maskF; rw [if_pos hb], rfl⟩⟩
        · exact ok_false (by simp [hb]) (ok_ret.2 ⟨by unfold maskF; rw [if_neg hb], rfl⟩)
      rintro _ _ ⟨rfl, rfl⟩
      refine ok_bnd.2 (ok_drawM.2 ?_)
      have hci : c1[R + i.toNat]? = some (.int .u32 (dr i)) := by
        rw [hj1, if_neg, hdr i hin.1 hin.2]
        rintro ⟨_, hp⟩
        rw [show (((R + i.toNat : Nat) : Int) - R) = i by omega] at hp
        exact hinp hp
      have hcd : blk w2.drew b = some c1 := hc2
      have hfd : fre w2.drew b = true := hf2
      refine ok_bnd.2 (ok_ix hv9.1 (by omega) (by omega) (ok_bnd.2 (ok_ldA hcd (rdv_int (by rw [Nat.mul_one]; exact hci)) ?_)))
      refine ok_bnd.2 (ok_ix hv9.1 (by omega) (by omega) (ok_bnd.2 (ok_ldA hcd (rdv_int (by rw [Nat.mul_one]; exact hci)) ?_)))
      refine ok_bnd.2 (ok_of (hrule _ _ _) ?_)
      refine ok_bnd.2 (ok_bnd.2 (ok_chkA hcd (rdv_int (by rw [Nat.mul_one]; exact hci)) (ok_ret.2 ?_)))
      refine ok_bnd.2 (ok_ix hv9.1 (by omega) (by omega) (ok_bnd.2 (ok_wrA hcd hfd (by rw [Nat.mul_one]; omega) rfl (ok_bnd.2 (ok_ret.2 (ok_ret.2 ?_))))))
      rw [wrapI_in (n := t + 1) (by omega), Nat.mul_one]
      have hB2 : Below b w1 w2 := B2.mono (Nat.le_of_lt (blk_lt hc1))
      refine ⟨⟨by omega, by omega, _, by rw [blk_setBlk _ _ _ _ hcd, if_pos rfl], by rw [fre_setBlk _ _ _ _ hcd (by simp)]; exact hfd, by simp [hz1], fun j => ?_, ?_, below_setBlk ((hB1.trans hB2).drew) (Nat.le_refl _) _, by rw [size_setBlk]; exact Nat.le_trans hle1 B2.size⟩, by omega⟩
      · rw [Array.getElem?_setIfInBounds]
        by_cases hj : R + i.toNat = j
        · rw [if_pos hj, if_pos (by omega)]
          have hji : (j : Int) - R = i := by omega
          rw [hji, if_pos]
          · rfl
          · refine ⟨by omega, ?_⟩
            unfold proc
            split <;> (rename_i hb; simp only [hb, if_true, if_false] at hi; omega)
        · rw [if_neg hj, hj1]
          have : ((R : Int) ≤ j ∧ proc by_ (first / 32) (last / 32) t ((j : Int) - R)) ↔ ((R : Int) ≤ j ∧ proc by_ (first / 32) (last / 32) (t + 1) ((j : Int) - R)) := by
            unfold proc
            split <;> (rename_i hb; simp only [hb, if_true, if_false] at hi; omega)
          simp only [this]
      · intro k hk hkb
        have h2 := hbut1 k hk hkb
        have h3 : blk w2 k = blk w1 k ∧ fre w2 k = fre w1 k := ⟨Go.Sh.Below.blk B2 (by omega), Go.Sh.Below.fre B2 (by omega)⟩
        exact ⟨by rw [blk_setBlk _ _ _ _ hcd, if_neg hkb]; exact h3.1.trans h2.1, by rw [fre_setBlk _ _ _ _ hcd (by simp)]; exact h3.2.trans h2.2⟩
    · refine ok_false (by simp [htl]) (ok_ret.2 ⟨c1, hc1, hf1, hz1, fun j => ?_, hbut1, hB1⟩)
      rw [hj1]
      have : ((R : Int) ≤ j ∧ proc by_ (first / 32) (last / 32) t ((j : Int) - R)) ↔ ((R : Int) + first / 32 ≤ j ∧ (j : Int) ≤ R + last / 32) := by
        unfold proc; split <;> omega
      simp only [this]
  · refine ⟨Int.le_refl _, by omega, c, hc, hf, rfl, fun j => ?_, fun k _ _ => ⟨rfl, rfl⟩, Below.refl _ _, Nat.le_refl _⟩
    rw [if_neg]
    unfold proc
    split <;> omega
end Go.Proofs.Ytpgalllceejpnaa
