/-
  Part of the proof: B08
-/
import Derived.Test.YtpgalllceejpnaaB07
set_option linter.unusedSimpArgs false
set_option linter.unusedVariables false
namespace Go.Proofs.Ytpgalllceejpnaa
set_option linter.unusedVariables false
open Go.Sh Go.RowKit
set_option maxRecDepth 100000
theorem arr_but {b Z : Nat} {w w' : World} {s : Sl} {xs : List Value} (h : Arr Z w s xs) (k : But b Z w w') (hb : ∀ a, s.a = some a → xs ≠ [] → a.block ≠ b) : Arr Z w' s xs := by
  obtain ⟨h1, h2, h3, h4⟩ := h
  refine ⟨h1, h2, h3, ?_⟩
  rcases h4 with h4 | ⟨b', o, c, h5, h6, h7, h8⟩
  · exact .inl h4
  · by_cases hx : xs = []
    · exact .inl hx
    · exact .inr ⟨b', o, c, h5, h6, (k b' h6 (hb _ h5 hx)).1.trans h7, h8⟩
theorem div_row {y i n : Int} (hi : 0 ≤ i ∧ i < n) : (y * n + i) / n = y ∧ (y * n + i) % n = i := by
  have hn : n ≠ 0 := by omega
  constructor
  · rw [Int.add_comm, Int.add_mul_ediv_right _ _ hn, Int.ediv_eq_zero_of_lt hi.1 hi.2]; omega
  · rw [Int.add_comm, Int.add_mul_emod_self_right, Int.emod_eq_of_lt hi.1 hi.2]
theorem row_div {j n : Int} : j = (j / n) * n + j % n := by
  have := Int.mul_ediv_add_emod j n
  rw [Int.mul_comm] at this
  omega
/-- A word of a form behind a blit. -/
noncomputable def outW (d sf : Form) (c : Blit) (has : Bool) (tl : List Int) (dw sw : Int → Int) (j : Int) : Int :=
  newW c.1 (toneF tl (j / st d)) (fst_ d c) (lst_ d c) (by_ d c) has (st sf) (fun q => sw ((c.2.2.2.2.2.2.1 + (j / st d - c.2.2.1)) * st sf + q)) (fun q => dw (j / st d * st d + q)) (j % st d)
def Touched (d : Form) (c : Blit) (j : Int) : Prop := c.2.2.1 ≤ j / st d ∧ j / st d < c.2.2.1 + c.2.2.2.2.1 ∧ fst_ d c / 32 ≤ j % st d ∧ j % st d ≤ lst_ d c / 32
instance (d : Form) (c : Blit) (j : Int) : Decidable (Touched d c j) := by unfold Touched; infer_instance
def Done (c : Blit) (t k : Int) : Prop := if c.2.2.2.2.2.2.1 < c.2.2.1 then c.2.2.2.2.1 - t ≤ k else k < t
instance (c : Blit) (t k : Int) : Decidable (Done c t k) := by unfold Done; infer_instance
theorem run_spec (d sf : Form) (c : Blit) (w : World) (b : Nat) (cc : Array Value) (dw sw : Int → Int) (has : Bool) (tl : List Int) (I : c.2.2.2.2.1 ≠ 0 → In d sf c has) (hht : 0 ≤ c.2.2.2.2.1)
    (hda : d.2.2.2.a = some ⟨b, 0, none⟩ ∧ (d.2.2.2.len : Int) = st d * d.2.1 ∧ d.2.2.2.len ≤ d.2.2.2.cap) (hc : blk w b = some cc) (hf : fre w b = true) (hsz : d.2.2.2.cap ≤ cc.size)
    (hdw : ∀ j : Int, 0 ≤ j → j < st d * d.2.1 → cc[j.toNat]? = some (.int .u32 (dw j)))
    (hsrc : c.2.2.2.2.1 ≠ 0 → has = true → ∃ bs os cs, sf.2.2.2.a = some ⟨bs, os, none⟩ ∧ (sf.2.2.2.len : Int) = st sf * sf.2.1 ∧ sf.2.2.2.len ≤ sf.2.2.2.cap ∧ blk w bs = some cs ∧
      (∀ j : Int, 0 ≤ j → j < st sf * sf.2.1 → cs[os + j.toNat]? = some (.int .u32 (sw j))) ∧ (bs = b → os = 0 ∧ st sf = st d ∧ sf.2.1 = d.2.1))
    (ht : Arr w.heap.size w (tone c) (wds tl)) (htb : ∀ a, (tone c).a = some a → wds tl ≠ [] → a.block ≠ b) :
    Ok (f57_bitblt_run d sf c) w fun _ w' => ∃ c', blk w' b = some c' ∧ fre w' b = true ∧ c'.size = cc.size ∧
      (∀ j : Nat, c'[j]? = if c.2.2.2.2.1 ≠ 0 ∧ Touched d c j then some (.int .u32 (outW d sf c has tl dw sw j)) else cc[j]?) ∧ But b w.heap.size w w' ∧ Below b w w' := by
  have hbw := blk_lt hc
  unfold f57_bitblt_run
  refine ok_bnd.2 (ok_newForm (h := d) fun w1 h1 B1 s1 => ?_)
  refine ok_bnd.2 (ok_newForm (h := sf) fun w2 h2 B2 s2 => ?_)
  have h1 := hasForm_size h1 B2
  have B2 := B1.trans (B2.mono (by omega))
  refine ok_bnd.2 (ok_newBlit (h := c) fun w3 h3 B3 s3 => ?_)
  have h1 := hasForm_size h1 B3
  have h2 := hasForm_size h2 B3
  have B3 := B2.trans (B3.mono (by omega))
  refine ok_bnd.2 (ok_Blit6 h3 (ok_bnd.2 (ok_Blit2 h3 (ok_bnd.2 (ok_Blit4 h3 ?_)))))
  refine ok_loop (fun t w' => 0 ≤ t ∧ t ≤ c.2.2.2.2.1 ∧ ∃ c', blk w' b = some c' ∧ fre w' b = true ∧ c'.size = cc.size ∧
      (∀ j : Nat, c'[j]? = if c.2.2.2.2.1 ≠ 0 ∧ Touched d c j ∧ Done c t ((j : Int) / st d - c.2.2.1) then some (.int .u32 (outW d sf c has tl dw sw j)) else cc[j]?) ∧
      But b w3.heap.size w3 w' ∧ Below b w w' ∧ w3.heap.size ≤ w'.heap.size) (fun t _ => (c.2.2.2.2.1 - t).toNat) ?_ _ _ ?_
  · rintro t w4 ⟨ht0, ht1, c1, hc1, hf1, hz1, hj1, hbut, hB4, hle⟩
    by_cases htl : t < c.2.2.2.2.1
    · have hne : c.2.2.2.2.1 ≠ 0 := by omega
      have I := I hne
      have G := I.geo
      have hst := st_rng I.dep I.w
      have hy := I.y
      have hH := I.h
      refine ok_true (by simp [htl]) ?_
      obtain ⟨k, hk⟩ : ∃ k : Int, k = if c.2.2.2.2.2.2.1 < c.2.2.1 then c.2.2.2.2.1 - 1 - t else t := ⟨_, rfl⟩
      have hk0 : 0 ≤ k ∧ k < c.2.2.2.2.1 := by rw [hk]; split <;> omega
      have hnd : ¬ Done c t k := by unfold Done; split <;> (rename_i hb; simp only [hb, if_true, if_false] at hk; omega)
      have g1 : HasForm w4 w.heap.size d := ⟨(hbut _ (hasForm_lt h1) (by omega)).1.trans h1.1, (hbut _ (hasForm_lt h1) (by omega)).2.trans h1.2⟩
      have g2 : HasForm w4 w1.heap.size sf := ⟨(hbut _ (hasForm_lt h2) (by omega)).1.trans h2.1, (hbut _ (hasForm_lt h2) (by omega)).2.trans h2.2⟩
      have g3 : HasBlit w4 w2.heap.size c := ⟨(hbut _ (hasBlit_lt h3) (by omega)).1.trans h3.1, (hbut _ (hasBlit_lt h3) (by omega)).2.trans h3.2⟩
      refine ok_bnd.2 (ok_mono (Q := fun r w' => k = r ∧ w4 = w') ?_ ?_)
      · by_cases hb : c.2.2.2.2.2.2.1 < c.2.2.1
        · refine ok_true (by simp [hb]) (ok_bnd.2 (ok_Blit4 g3 (ok_ret.2 ⟨?_, rfl⟩)))
          rw [wrapI_in (n := c.2.2.2.2.1 - 1) (by omega), wrapI_in (by omega), hk, if_pos hb]
        · exact ok_false (by simp [hb]) (ok_ret.2 ⟨by rw [hk, if_neg hb], rfl⟩)
      rintro _ _ ⟨rfl, rfl⟩
      have hButW : But b w.heap.size w w4 := but_trans (but_below B3) (fun q hq hqb => hbut q (by omega) hqb)
      have ht4 : Arr w4.heap.size w4 (tone c) (wds tl) := arr_size (arr_but ht hButW htb)
      -- what the words are just now
      have hcur : ∀ j : Int, 0 ≤ j → j < st d * d.2.1 → c1[j.toNat]? = some (.int .u32 (if Touched d c j ∧ Done c t (j / st d - c.2.2.1) then outW d sf c has tl dw sw j else dw j)) := by
        intro j h0 hlt
        rw [hj1]
        have e : ((j.toNat : Nat) : Int) = j := by omega
        rw [e]
        by_cases hh : Touched d c j ∧ Done c t (j / st d - c.2.2.1)
        · rw [if_pos ⟨hne, hh⟩, if_pos hh]
        · rw [if_neg (fun h => hh h.2), if_neg hh]; exact hdw j h0 hlt
      have hclean : ∀ (r : Int) (q : Int), 0 ≤ q → q < st d → ¬ Done c t (r - c.2.2.1) → ∀ (x y : Int), (if Touched d c (r * st d + q) ∧ Done c t ((r * st d + q) / st d - c.2.2.1) then x else y) = y := by
        intro r q h0 h1 hn x y
        rw [if_neg]
        rintro ⟨_, h⟩
        rw [(div_row ⟨h0, h1⟩).1] at h
        exact hn h
      refine ok_bnd.2 (ok_Form g1 (ok_bnd.2 (ok_Form g2 (ok_bnd.2 (ok_Blit g3 (ok_bnd.2 (ok_mono (row_spec d sf c k w4 b c1 _ sw has tl I hk0 hda hc1 hf1 (by omega) hcur ?_ ht4) ?_)))))))
      · intro hh
        obtain ⟨bs, os, cs, ha, hsl, hscap, hcs, hsr, hcl⟩ := hsrc hne hh
        subst hh
        have hsg := I.sgeo
        have hss := I.src rfl
        have hsyy := I.sy
        obtain ⟨v, hv⟩ : ∃ v, v = c.2.2.2.2.2.2.1 + k := ⟨_, rfl⟩
        have hv0 : 0 ≤ v ∧ v + 1 ≤ sf.2.1 := by omega
        have q0 : 0 ≤ v * st sf := Int.mul_nonneg hv0.1 (by omega)
        have q1 := mul_step (show v < sf.2.1 by omega) (show 0 ≤ st sf by omega)
        have q3 : st sf * sf.2.1 = sf.2.1 * st sf := Int.mul_comm _ _
        by_cases hbs : bs = b
        · subst hbs
          obtain ⟨ho, hm, hhh⟩ := hcl rfl
          subst ho
          rw [hc] at hcs
          cases hcs
          refine ⟨bs, 0, c1, ha, hsl, hscap, hc1, fun j h0 h1 => ?_, fun _ => ⟨rfl, hm⟩⟩
          rw [← hv, Nat.zero_add, hj1]
          have e : (((v * st sf + j).toNat : Nat) : Int) = v * st sf + j := by omega
          rw [e, if_neg]
          · have := hsr (v * st sf + j) (by omega) (by omega)
            rwa [Nat.zero_add] at this
          · rintro ⟨_, ⟨t1, t2, _⟩, hdn⟩
            rw [hm] at t1 t2 hdn h1
            rw [(div_row ⟨h0, h1⟩).1] at t1 t2 hdn
            unfold Done at hdn
            split at hdn <;> (rename_i hb; simp only [hb, if_true, if_false] at hk; omega)
        · refine ⟨bs, os, cs, ha, hsl, hscap, (hButW bs (blk_lt hcs) hbs).1.trans hcs, fun j h0 h1 => ?_, fun h => absurd h hbs⟩
          rw [← hv]
          exact hsr (v * st sf + j) (by omega) (by omega)
      · rintro _ w5 ⟨c2, hc2, hf2, hz2, hj2, hbut2, hB5⟩
        refine ok_ret.2 ?_
        rw [wrapI_in (n := t + 1) (by omega)]
        have hz5 := hB5.size
        refine ⟨⟨by omega, by omega, c2, hc2, hf2, by omega, fun j => ?_, but_trans hbut (fun q hq hqb => hbut2 q (by omega) hqb), hB4.trans hB5, by omega⟩, by omega⟩
        rw [hj2 j]
        have hn : (0 : Int) < st d := by omega
        have hjd := @row_div (j : Int) (st d)
        have hm0 := Int.emod_nonneg (j : Int) (show st d ≠ 0 by omega)
        have hm1 := Int.emod_lt_of_pos (j : Int) hn
        by_cases hin : (c.2.2.1 + k) * st d + fst_ d c / 32 ≤ j ∧ (j : Int) ≤ (c.2.2.1 + k) * st d + lst_ d c / 32
        · have hrow : (j : Int) / st d = c.2.2.1 + k ∧ (j : Int) % st d = j - (c.2.2.1 + k) * st d := by
            have := @div_row (c.2.2.1 + k) ((j : Int) - (c.2.2.1 + k) * st d) (st d) ⟨by omega, by omega⟩
            rw [show (c.2.2.1 + k) * st d + ((j : Int) - (c.2.2.1 + k) * st d) = j by omega] at this
            exact this
          rw [if_pos hin, if_pos]
          · unfold outW
            rw [hrow.1, hrow.2]
            have e1 : c.2.2.2.2.2.2.1 + (c.2.2.1 + k - c.2.2.1) = c.2.2.2.2.2.2.1 + k := by omega
            rw [e1]
            congr 2
            unfold newW
            congr 1
            exact hclean (c.2.2.1 + k) ((j : Int) - (c.2.2.1 + k) * st d) (by omega) (by omega) (by rw [show c.2.2.1 + k - c.2.2.1 = k by omega]; exact hnd) _ _
          · refine ⟨hne, ⟨by omega, by omega, by omega, by omega⟩, ?_⟩
            rw [hrow.1, show c.2.2.1 + k - c.2.2.1 = k by omega]
            unfold Done
            split <;> (rename_i hb; simp only [hb, if_true, if_false] at hk; omega)
        · rw [if_neg hin, hj1]
          have hiff : (Touched d c j ∧ Done c t ((j : Int) / st d - c.2.2.1)) ↔ (Touched d c j ∧ Done c (t + 1) ((j : Int) / st d - c.2.2.1)) := by
            constructor
            · rintro ⟨h1, h2⟩
              refine ⟨h1, ?_⟩
              unfold Done at h2 ⊢
              split at h2 <;> (rename_i hb; simp only [hb, if_true, if_false]; omega)
            · rintro ⟨h1, h2⟩
              refine ⟨h1, ?_⟩
              have hnk : (j : Int) / st d - c.2.2.1 ≠ k := by
                intro hh
                apply hin
                have : (j : Int) / st d = c.2.2.1 + k := by omega
                rw [this] at hjd
                obtain ⟨_, _, h3, h4⟩ := h1
                omega
              unfold Done at h2 ⊢
              split at h2 <;> (rename_i hb; simp only [hb, if_true, if_false] at hk ⊢; omega)
          simp only [hiff]
    · refine ok_false (by simp [htl]) (ok_ret.2 ⟨c1, hc1, hf1, hz1, fun j => ?_, but_trans (but_below B3) (fun q hq hqb => hbut q (by omega) hqb), hB4⟩)
      rw [hj1]
      have hiff : (Touched d c j ∧ Done c t ((j : Int) / st d - c.2.2.1)) ↔ Touched d c j := by
        constructor
        · exact fun h => h.1
        · intro h
          refine ⟨h, ?_⟩
          obtain ⟨t1, t2, _⟩ := h
          unfold Done
          split <;> omega
      simp only [hiff]
  · refine ⟨Int.le_refl _, hht, cc, (Go.Sh.Below.blk B3 hbw).trans hc, (Go.Sh.Below.fre B3 hbw).trans hf, rfl, fun j => ?_, fun q _ _ => ⟨rfl, rfl⟩, B3.mono (by omega), Nat.le_refl _⟩
    rw [if_neg]
    rintro ⟨_, ⟨t1, t2, _⟩, hdn⟩
    unfold Done at hdn
    split at hdn <;> omega
end Go.Proofs.Ytpgalllceejpnaa
