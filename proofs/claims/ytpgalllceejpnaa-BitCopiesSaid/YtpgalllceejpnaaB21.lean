/-
  Part of the proof: B21
-/
import Derived.Test.YtpgalllceejpnaaB20
set_option linter.unusedSimpArgs false
set_option linter.unusedVariables false
namespace Go.Proofs.Ytpgalllceejpnaa
set_option linter.unusedVariables false
open Go.Sh Go.RowKit
set_option maxRecDepth 100000
theorem rowAt_rng {l : List Int} (h : Wds l) (m o q : Int) : 0 ≤ rowAt m (fun q => at0 l (o + q)) q ∧ rowAt m (fun q => at0 l (o + q)) q < 4294967296 := by
  unfold rowAt
  split
  · simp only
    unfold at0
    cases hh : l[(o + q).toNat]? with
    | none => simp
    | some v => exact h v (List.mem_of_getElem? hh)
  · omega
/-- A bit of a word behind a copy: which row, where in it. -/
theorem cpy_lsb {r : Int} (hr : 0 ≤ r ∧ r ≤ 15) {d s : Form} {c : Blit} (tl dl sl : List Int) (hsl : Wds sl) (I : c.2.2.2.2.1 ≠ 0 → In d s c true) (n k : Nat) (hn : n < dl.length) (hk : k < 32) :
    (ib (at0 (cpy r d s c true tl (at0 sl) dl) n)).getLsbD k =
      if c.2.2.2.2.1 ≠ 0 ∧ (c.2.2.1 ≤ (n : Int) / st d ∧ (n : Int) / st d < c.2.2.1 + c.2.2.2.2.1) ∧ (fst_ d c ≤ 32 * ((n : Int) % st d) + 31 - k ∧ 32 * ((n : Int) % st d) + 31 - k ≤ lst_ d c) then
        ruleB r (rowBit (st s) (fun q => at0 sl ((c.2.2.2.2.2.2.1 + ((n : Int) / st d - c.2.2.1)) * st s + q)) (32 * ((n : Int) % st d) + 31 - k + by_ d c) && (ib (toneF tl ((n : Int) / st d))).getLsbD k) ((ib (at0 dl n)).getLsbD k)
      else (ib (at0 dl n)).getLsbD k := by
  rw [cpy_at _ _ _ _ _ _ _ _ _ hn]
  by_cases h0 : c.2.2.2.2.1 ≠ 0
  rotate_left
  · rw [if_neg (fun h => h0 h.1), if_neg (fun h => h0 h.1)]
  have I := I h0
  have G := I.geo
  by_cases ht : Touched d c (n : Int)
  · rw [if_pos ⟨h0, ht⟩, mix_bi hr, ib_bi, mix_lsb hr _ _ _ _ _ hk]
    unfold mskW srcW
    rw [mask_lsb G.1 G.2.1 ⟨ht.2.2.1, ht.2.2.2⟩ k hk, src_lsb (rowAt_rng hsl _ _) _ k hk]
    rw [show (32 * ((n : Int) % st d) + by_ d c + 31 - k) = 32 * ((n : Int) % st d) + 31 - k + by_ d c by omega]
    by_cases hm : fst_ d c ≤ 32 * ((n : Int) % st d) + 31 - k ∧ 32 * ((n : Int) % st d) + 31 - k ≤ lst_ d c
    · rw [if_pos (by simpa using hm), if_pos ⟨h0, ⟨ht.1, ht.2.1⟩, hm⟩]
    · rw [if_neg (by simpa using hm), if_neg (fun h => hm h.2.2)]
  · rw [if_neg (fun h => ht h.2), if_neg]
    rintro ⟨_, h1, h2⟩
    exact ht ⟨h1.1, h1.2, by omega, by omega⟩
/-- Where a pixel's word lies. -/
theorem plc_row {f : Form} {x y : Int} (hd : Dep f.2.2.1) (hw : 0 ≤ f.1 ∧ f.1 ≤ 4096) (hx : 0 ≤ x ∧ x < f.1) : (plc f x y).1 / st f = y ∧ (plc f x y).1 % st f = x * f.2.2.1 / 32 := by
  have hp := place_rng hd hw hx
  simp only [plc]
  exact div_row ⟨by omega, by omega⟩
theorem plc_pos {f : Form} {x y : Int} (hd : Dep f.2.2.1) (hw : 0 ≤ f.1 ∧ f.1 ≤ 4096) (hx : 0 ≤ x ∧ x < f.1) (k : Nat) (hk : k < f.2.2.1.toNat) :
    32 * (x * f.2.2.1 / 32) + 31 - (((plc f x y).2.toNat + k : Nat) : Int) = x * f.2.2.1 + f.2.2.1 - 1 - k ∧ (plc f x y).2.toNat + k < 32 := by
  have hp := place_rng hd hw hx
  simp only [plc]
  omega
/-- A row's bit is a pixel's. -/
theorem row_pix {f : Form} {l : List Int} {x y : Int} (hd : Dep f.2.2.1) (hw : 0 ≤ f.1 ∧ f.1 ≤ 4096) (hx : 0 ≤ x ∧ x < f.1) (hl : Wds l) (k : Nat) (hk : k < f.2.2.1.toNat) :
    rowBit (st f) (fun q => at0 l (y * st f + q)) (x * f.2.2.1 + f.2.2.1 - 1 - k) = (ib (pixF f l x y)).getLsbD k := by
  have hp := place_rng hd hw hx
  have hdr := dep_rng hd
  have hpp := plc_pos (y := y) hd hw hx k hk
  rw [pix_lsb hd hw hx ?_ k (by omega), decide_eq_true hk, Bool.true_and]
  · unfold rowBit
    have e1 : (x * f.2.2.1 + f.2.2.1 - 1 - k) / 32 = x * f.2.2.1 / 32 := by omega
    have e2 : (31 - (x * f.2.2.1 + f.2.2.1 - 1 - k) % 32).toNat = (plc f x y).2.toNat + k := by omega
    rw [e1, e2]
    unfold rowAt
    rw [if_pos ⟨by omega, hp.2.2.1⟩]
    rfl
  · unfold at0
    cases hh : l[(plc f x y).1.toNat]? with
    | none => simp
    | some v => exact hl v (List.mem_of_getElem? hh)
theorem wds_cpy {r : Int} (hr : 0 ≤ r ∧ r ≤ 15) (d s : Form) (c : Blit) (has : Bool) (tl : List Int) (sw : Int → Int) (dl : List Int) (h : Wds dl) : Wds (cpy r d s c has tl sw dl) := by
  intro n hn
  unfold cpy at hn
  obtain ⟨j, hj, rfl⟩ := List.mem_map.1 hn
  rw [List.mem_range] at hj
  split
  · rw [mix_bi hr]; exact bi_rng _
  · exact at0_wds h j hj
theorem at0_rng {l : List Int} (h : Wds l) (j : Int) : 0 ≤ at0 l j ∧ at0 l j < 4294967296 := by
  unfold at0
  cases hh : l[j.toNat]? with
  | none => simp
  | some v => exact h v (List.mem_of_getElem? hh)
/-- A pixel behind a copy. -/
theorem cpy_pix {r : Int} (hr : 0 ≤ r ∧ r ≤ 15) {d s : Form} {c : Blit} (tl dl sl : List Int) (hg : Good d) (hl : (dl.length : Int) = st d * d.2.1) (hdl : Wds dl) (hsl : Wds sl) (I : c.2.2.2.2.1 ≠ 0 → In d s c true) (hc : 0 ≤ c.2.2.2.1 ∧ 0 ≤ c.2.2.2.2.1)
    {x y : Int} (hi : Inside d x y) (k : Nat) (hk : k < d.2.2.1.toNat) :
    (ib (pixF d (cpy r d s c true tl (at0 sl) dl) x y)).getLsbD k =
      if c.2.2.2.2.1 ≠ 0 ∧ (c.2.2.1 ≤ y ∧ y < c.2.2.1 + c.2.2.2.2.1) ∧ (c.2.1 ≤ x ∧ x < c.2.1 + c.2.2.2.1) then
        ruleB r ((ib (pixF s sl (c.2.2.2.2.2.1 + x - c.2.1) (c.2.2.2.2.2.2.1 + y - c.2.2.1))).getLsbD k && (ib (toneF tl y)).getLsbD ((plc d x y).2.toNat + k)) ((ib (pixF d dl x y)).getLsbD k)
      else (ib (pixF d dl x y)).getLsbD k := by
  have hd := hg.1.1
  have hw := hg.1.2.1
  have hdr := dep_rng hd
  have hp := plc_in hg.1 hi
  obtain ⟨hrow1, hrow2⟩ := plc_row (y := y) hd hw hi.1
  obtain ⟨hpos, hlt⟩ := plc_pos (y := y) hd hw hi.1 k hk
  obtain ⟨n, hn⟩ := Int.eq_ofNat_of_zero_le hp.1
  have hnl : n < dl.length := by omega
  rw [pix_lsb hd hw hi.1 (at0_rng (wds_cpy hr d s c true tl _ dl hdl) _) k (by omega), pix_lsb hd hw hi.1 (at0_rng hdl _) k (by omega), decide_eq_true hk, Bool.true_and, Bool.true_and]
  rw [hn] at hrow1 hrow2 ⊢
  rw [cpy_lsb hr tl dl sl hsl I n _ hnl hlt, hrow1, hrow2, hpos]
  have e : (fst_ d c ≤ x * d.2.2.1 + d.2.2.1 - 1 - k ∧ x * d.2.2.1 + d.2.2.1 - 1 - k ≤ lst_ d c) ↔ (c.2.1 ≤ x ∧ x < c.2.1 + c.2.2.2.1) := by
    unfold fst_ lst_
    unfold Dep at hd
    rcases hd with h | h | h | h | h | h <;> rw [h] at hk ⊢ <;> omega
  simp only [e]
  by_cases hin : c.2.2.2.2.1 ≠ 0 ∧ (c.2.2.1 ≤ y ∧ y < c.2.2.1 + c.2.2.2.2.1) ∧ (c.2.1 ≤ x ∧ x < c.2.1 + c.2.2.2.1)
  · rw [if_pos hin, if_pos hin]
    have I := I hin.1
    obtain ⟨hsd, hsw, hsx, hsh, hsy⟩ := I.src rfl
    have hsd' : Dep s.2.2.1 := by rw [hsd]; exact hd
    have := I.sx
    rw [← row_pix (f := s) (l := sl) (x := c.2.2.2.2.2.1 + x - c.2.1) (y := c.2.2.2.2.2.2.1 + y - c.2.2.1) hsd' hsw ⟨by omega, by omega⟩ hsl k (by rw [hsd]; exact hk)]
    have e1 : c.2.2.2.2.2.2.1 + (y - c.2.2.1) = c.2.2.2.2.2.2.1 + y - c.2.2.1 := by omega
    have e2 : x * d.2.2.1 + d.2.2.1 - 1 - k + by_ d c = (c.2.2.2.2.2.1 + x - c.2.1) * s.2.2.1 + s.2.2.1 - 1 - k := by
      rw [hsd]; unfold by_
      rw [Int.sub_mul, Int.sub_mul, Int.add_mul]; omega
    rw [e1, e2]
  · rw [if_neg hin, if_neg hin]
end Go.Proofs.Ytpgalllceejpnaa
