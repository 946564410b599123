/-
  Part of the proof: B07
-/
import Derived.Test.YtpgalllceejpnaaB06
set_option linter.unusedSimpArgs false
set_option linter.unusedVariables false
namespace Go.Proofs.Ytpgalllceejpnaa
set_option linter.unusedVariables false
open Go.Sh Go.RowKit
set_option maxRecDepth 100000
theorem mul_step {a b n : Int} (h : a < b) (hn : 0 ≤ n) : a * n + n ≤ b * n := by
  have : (a + 1) * n ≤ b * n := Int.mul_le_mul_of_nonneg_right (by omega) hn
  rw [Int.add_mul, Int.one_mul] at this
  exact this
noncomputable def toneF (tl : List Int) (y : Int) : Int := if tl = [] then 4294967295 else (tl[(y % tl.length).toNat]?).getD 0
def fst_ (d : Form) (c : Blit) : Int := c.2.1 * d.2.2.1
def lst_ (d : Form) (c : Blit) : Int := (c.2.1 + c.2.2.2.1) * d.2.2.1 - 1
def by_ (d : Form) (c : Blit) : Int := (c.2.2.2.2.2.1 - c.2.1) * d.2.2.1
/-- A blit within both forms. -/
structure In (d sf : Form) (c : Blit) (has : Bool) : Prop where
  dep : Dep d.2.2.1
  w : 0 ≤ d.1 ∧ d.1 ≤ 4096
  h : 0 ≤ d.2.1 ∧ d.2.1 ≤ 4096
  x : 0 ≤ c.2.1 ∧ 1 ≤ c.2.2.2.1 ∧ c.2.1 + c.2.2.2.1 ≤ d.1
  y : 0 ≤ c.2.2.1 ∧ c.2.2.1 + c.2.2.2.2.1 ≤ d.2.1
  sx : 0 ≤ c.2.2.2.2.2.1 ∧ c.2.2.2.2.2.1 ≤ 4096
  sy : 0 ≤ c.2.2.2.2.2.2.1 ∧ c.2.2.2.2.2.2.1 ≤ 4096
  rule : 0 ≤ c.1 ∧ c.1 ≤ 15
  has_ : has = decide (sf.2.2.1 > 0)
  src : has = true → sf.2.2.1 = d.2.2.1 ∧ (0 ≤ sf.1 ∧ sf.1 ≤ 4096) ∧ c.2.2.2.2.2.1 + c.2.2.2.1 ≤ sf.1 ∧ (0 ≤ sf.2.1 ∧ sf.2.1 ≤ 4096) ∧ c.2.2.2.2.2.2.1 + c.2.2.2.2.1 ≤ sf.2.1
theorem In.geo {d sf : Form} {c : Blit} {has : Bool} (I : In d sf c has) : 0 ≤ fst_ d c ∧ fst_ d c ≤ lst_ d c ∧ lst_ d c < 32 * st d ∧ lst_ d c ≤ 131072 ∧ -131072 ≤ by_ d c ∧ by_ d c ≤ 131072 ∧ 1 ≤ st d := by
  have hx := I.x
  have hw := I.w
  have hsx := I.sx
  have hd := I.dep
  unfold fst_ lst_ by_ st Dep at *
  rcases hd with h | h | h | h | h | h <;> rw [h] <;> omega
theorem In.sgeo {d sf : Form} {c : Blit} (I : In d sf c true) : 1 ≤ st sf ∧ st sf ≤ 4096 := by
  obtain ⟨h1, h2, h3, h4, h5⟩ := I.src rfl
  have hx := I.x
  have hsx := I.sx
  have hd := I.dep
  rw [← h1] at hd
  unfold st Dep at *
  rcases hd with h | h | h | h | h | h <;> rw [h] <;> omega
theorem row_spec (d sf : Form) (c : Blit) (k : Int) (w : World) (b : Nat) (cc : Array Value) (dw sw : Int → Int) (has : Bool) (tl : List Int) (I : In d sf c has) (hk : 0 ≤ k ∧ k < c.2.2.2.2.1)
    (hda : d.2.2.2.a = some ⟨b, 0, none⟩ ∧ (d.2.2.2.len : Int) = st d * d.2.1 ∧ d.2.2.2.len ≤ d.2.2.2.cap) (hc : blk w b = some cc) (hf : fre w b = true) (hsz : d.2.2.2.cap ≤ cc.size)
    (hdw : ∀ j : Int, 0 ≤ j → j < st d * d.2.1 → cc[j.toNat]? = some (.int .u32 (dw j)))
    (hsrc : has = true → ∃ bs os cs, sf.2.2.2.a = some ⟨bs, os, none⟩ ∧ (sf.2.2.2.len : Int) = st sf * sf.2.1 ∧ sf.2.2.2.len ≤ sf.2.2.2.cap ∧ blk w bs = some cs ∧
      (∀ j : Int, 0 ≤ j → j < st sf → cs[os + ((c.2.2.2.2.2.2.1 + k) * st sf + j).toNat]? = some (.int .u32 (sw ((c.2.2.2.2.2.2.1 + k) * st sf + j)))) ∧ (bs = b → os = 0 ∧ st sf = st d))
    (ht : Arr w.heap.size w (tone c) (wds tl)) :
    Ok (f78_bitblt_row d sf c k) w fun _ w' => ∃ c', blk w' b = some c' ∧ fre w' b = true ∧ c'.size = cc.size ∧
      (∀ j : Nat, c'[j]? = if (c.2.2.1 + k) * st d + fst_ d c / 32 ≤ j ∧ (j : Int) ≤ (c.2.2.1 + k) * st d + lst_ d c / 32 then
        some (.int .u32 (newW c.1 (toneF tl (c.2.2.1 + k)) (fst_ d c) (lst_ d c) (by_ d c) has (st sf) (fun q => sw ((c.2.2.2.2.2.2.1 + k) * st sf + q)) (fun q => dw ((c.2.2.1 + k) * st d + q)) ((j : Int) - (c.2.2.1 + k) * st d))) else cc[j]?) ∧
      But b w.heap.size w w' ∧ Below b w w' := by
  have hbw := blk_lt hc
  have G := I.geo
  have hy := I.y
  have hH := I.h
  have hst := st_rng I.dep I.w
  unfold f78_bitblt_row
  refine ok_bnd.2 (ok_newForm (h := d) fun w1 h1 B1 s1 => ?_)
  refine ok_bnd.2 (ok_newForm (h := sf) fun w2 h2 B2 s2 => ?_)
  have h1 := hasForm_size h1 B2
  have B2 := B1.trans (B2.mono (by omega))
  refine ok_bnd.2 (ok_newBlit (h := c) fun w3 h3 B3 s3 => ?_)
  have h1 := hasForm_size h1 B3
  have h2 := hasForm_size h2 B3
  have B3 := B2.trans (B3.mono (by omega))
  refine ok_bnd.2 (ok_Blit3 h3 (ok_false (by have := I.x; simp; omega) (ok_bnd.2 (ok_Blit2 h3 (ok_bnd.2 (ok_Form h1 (ok_bnd.2 (ok_mono (stride_spec d w3) ?_))))))))
  rintro r w4 ⟨rfl, B4⟩
  rw [strd_eq I.dep I.w]
  have h1 := hasForm_size h1 B4
  have h2 := hasForm_size h2 B4
  have h3 := hasBlit_size h3 B4
  have z4 := B4.size
  have B4 := B3.trans (B4.mono (by omega))
  obtain ⟨y, hyd⟩ : ∃ y, y = c.2.2.1 + k := ⟨_, rfl⟩
  have hy0 : 0 ≤ y ∧ y + 1 ≤ d.2.1 := by omega
  have hR0 : 0 ≤ y * st d := Int.mul_nonneg hy0.1 (by omega)
  have hR1 := mul_step (show y < d.2.1 by omega) (show 0 ≤ st d by omega)
  have hHm := (mul_bnd hH hst).2
  have hcm : st d * d.2.1 = d.2.1 * st d := Int.mul_comm _ _
  rw [← hyd]
  rw [wrapI_in (n := y) (by omega), wrapI_in (n := y * st d) (by omega), wrapI_in (n := y + 1) (by omega), Int.add_mul y 1, Int.one_mul, wrapI_in (n := y * st d + st d) (by omega)]
  refine ok_bnd.2 (ok_Form3 h1 (ok_bnd.2 (ok_slc (by simpa using hR0) (by simp; omega) (by simp; omega) ?_)))
  simp only [Option.getD_some]
  obtain ⟨R, hR⟩ : ∃ R : Nat, (R : Int) = y * st d := ⟨(y * st d).toNat, by omega⟩
  obtain ⟨v9, hv9⟩ : ∃ v9, v9 = cut d.2.2.2 (y * st d).toNat (y * st d + st d).toNat := ⟨_, rfl⟩
  rw [← hv9]
  have hv9a : v9.a = some ⟨b, R, none⟩ ∧ (v9.len : Int) = st d := by
    rw [hv9]
    refine ⟨?_, ?_⟩
    · simp only [cut]
      rw [if_neg (by omega), hda.1]
      simp only [Option.map_some, addr_add]
      congr 2
      omega
    · simp only [cut]; omega
  refine ok_bnd.2 (ok_Form2 h2 (ok_bnd.2 ?_))
  refine ok_mono (Q := fun r w' => Below w4.heap.size w4 w' ∧ (!(Option.isNone r.a)) = has ∧ (has = true → r = cut sf.2.2.2 ((c.2.2.2.2.2.2.1 + k) * st sf).toNat ((c.2.2.2.2.2.2.1 + k) * st sf + st sf).toNat ∧ ∀ bs os, sf.2.2.2.a = some ⟨bs, os, none⟩ → r.a = some ⟨bs, os + ((c.2.2.2.2.2.2.1 + k) * st sf).toNat, none⟩ ∧ (r.len : Int) = st sf)) ?_ ?_
  · cases hh : has with
    | false =>
      have e := I.has_
      rw [hh] at e
      refine ok_false e.symm (ok_ret.2 ⟨Below.refl _ _, rfl, fun h => by cases h⟩)
    | true =>
      subst hh
      have e := I.has_
      refine ok_true e.symm (ok_bnd.2 (ok_Form h2 (ok_bnd.2 (ok_mono (stride_spec sf w4) ?_))))
      rintro r w5 ⟨rfl, B5⟩
      have h2 := hasForm_size h2 B5
      have h3 := hasBlit_size h3 B5
      obtain ⟨hsd, hsw, hsx, hsh, hsy⟩ := I.src rfl
      obtain ⟨bs, os, cs, ha, hsl, hscap, hcs, hsr, hcl⟩ := hsrc rfl
      have hsg := I.sgeo
      have hsyy := I.sy
      have hdep : Dep sf.2.2.1 := by rw [hsd]; exact I.dep
      rw [strd_eq hdep hsw]
      obtain ⟨v, hv⟩ : ∃ v, v = c.2.2.2.2.2.2.1 + k := ⟨_, rfl⟩
      have hv0 : 0 ≤ v ∧ v + 1 ≤ sf.2.1 := by omega
      have q0 : 0 ≤ v * st sf := Int.mul_nonneg hv0.1 (by omega)
      have q1 := mul_step (show v < sf.2.1 by omega) (show 0 ≤ st sf by omega)
      have q2 := (mul_bnd hsh (show 0 ≤ st sf ∧ st sf ≤ 4096 by omega)).2
      have q3 : st sf * sf.2.1 = sf.2.1 * st sf := Int.mul_comm _ _
      refine ok_bnd.2 (ok_Form3 h2 (ok_bnd.2 (ok_Blit6 h3 (ok_bnd.2 (ok_Blit6 h3 ?_)))))
      rw [← hv]
      rw [wrapI_in (n := v) (by omega), wrapI_in (n := v * st sf) (by omega), wrapI_in (n := v + 1) (by omega), Int.add_mul v 1, Int.one_mul, wrapI_in (n := v * st sf + st sf) (by omega)]
      have key : ∀ bs os, sf.2.2.2.a = some ⟨bs, os, none⟩ → (cut sf.2.2.2 (v * st sf).toNat (v * st sf + st sf).toNat).a = some ⟨bs, os + (v * st sf).toNat, none⟩ ∧ ((cut sf.2.2.2 (v * st sf).toNat (v * st sf + st sf).toNat).len : Int) = st sf := by
        intro bs os ha
        refine ⟨?_, ?_⟩
        · simp only [cut]
          rw [if_neg (by omega), ha]
          simp only [Option.map_some, addr_add, Nat.mul_one]
        · simp only [cut]; omega
      refine ok_bnd.2 (ok_slc (by simpa using q0) (by simp; omega) (by simp; omega) (ok_ret.2 ⟨B5, ?_, fun _ => ⟨rfl, key⟩⟩))
      show (!(Option.isNone (cut sf.2.2.2 (v * st sf).toNat (v * st sf + st sf).toNat).a)) = true
      rw [(key bs os ha).1]; rfl
  rintro s11 w5 ⟨B5, hs11, hs11b⟩
  have h1 := hasForm_size h1 B5
  have h2 := hasForm_size h2 B5
  have h3 := hasBlit_size h3 B5
  have z5 := B5.size
  have B5 := B4.trans (B5.mono (by omega))
  refine ok_bnd.2 (ok_drawM.2 ?_)
  have h1 := hasForm_drew h1
  have h3 := hasBlit_drew h3
  have B5 := B5.drew
  have ht5 := arr_below ht B5
  refine ok_bnd.2 (ok_Blit1 h3 (ok_bnd.2 (ok_Form2 h1 (ok_bnd.2 (ok_Blit1 h3 (ok_bnd.2 (ok_Blit3 h3 (ok_bnd.2 (ok_Form2 h1 (ok_bnd.2 (ok_Blit5 h3 (ok_bnd.2 (ok_Blit1 h3 (ok_bnd.2 (ok_Form2 h1 (ok_bnd.2 (ok_Blit11 h3 (ok_bnd.2 ?_))))))))))))))))))
  refine ok_mono (Q := fun r w' => r = toneF tl y ∧ Below w.heap.size w w' ∧ HasBlit w' w2.heap.size c) ?_ ?_
  · have hlen : (tone c).len = tl.length := by have := ht.1; simpa using this
    by_cases htl : tl = []
    · refine ok_false (by simp only [decide_eq_false_iff_not]; show ¬ ((tone c).len : Int) > 0; rw [hlen, htl]; simp) (ok_ret.2 ⟨by unfold toneF; rw [if_pos htl], B5, h3⟩)
    · have hpos : 0 < tl.length := List.length_pos_iff.2 htl
      refine ok_true (by simp only [decide_eq_true_eq]; show ((tone c).len : Int) > 0; rw [hlen]; omega) (ok_bnd.2 (ok_drawM.2 ?_))
      have h3 := hasBlit_drew h3
      refine ok_bnd.2 (ok_Blit11 h3 (ok_bnd.2 (ok_Blit11 h3 (ok_bnd.2 (ok_nz.2 ⟨?_, ?_⟩)))))
      · show ((tone c).len : Int) ≠ 0; rw [hlen]; omega
      · have e : Int.tmod y ((tone c).len : Int) = y % tl.length := by rw [Int.tmod_eq_emod_of_nonneg hy0.1, hlen]
        have hm := Int.emod_nonneg y (show ((tl.length : Int)) ≠ 0 by omega)
        have hm2 := Int.emod_lt_of_pos y (show (0 : Int) < tl.length by omega)
        obtain ⟨v, hv⟩ : ∃ v, tl[(y % tl.length).toNat]? = some v := ⟨_, List.getElem?_eq_getElem (by omega)⟩
        have ht6 : Arr w.heap.size w5.drew.drew (tone c) (wds tl) := arr_below ht (B5.drew)
        have := ok_get (K := fun v => ret v) (Q := fun r w' => r = toneF tl y ∧ Below w.heap.size w w' ∧ HasBlit w' w2.heap.size c) ht6 (i := Int.tmod y ((tone c).len : Int)) (by rw [e]; exact hm) (by rw [e]; exact hv) (ok_ret.2 ⟨by unfold toneF; rw [if_neg htl, hv]; rfl, B5.drew, h3⟩)
        exact this
  rintro t w6 ⟨rfl, B6, h3⟩
  refine ok_bnd.2 (ok_Blit0 h3 (ok_bnd.2 (ok_mono (ruled_spec c.1 I.rule w6) ?_)))
  rintro r33 w7 ⟨rfl, hdo, _⟩
  have e1 : IntKind.wrap .i64 (c.2.1 * d.2.2.1) = fst_ d c := by show IntKind.wrap .i64 (fst_ d c) = _; rw [wrapI_in (by omega)]
  have e2 : IntKind.wrap .i64 (Int.tdiv (fst_ d c) 32) = fst_ d c / 32 := by rw [Int.tdiv_eq_ediv_of_nonneg G.1, wrapI_in (by omega)]
  have e3 : IntKind.wrap .i64 (IntKind.wrap .i64 (IntKind.wrap .i64 (c.2.1 + c.2.2.2.1) * d.2.2.1) - 1) = lst_ d c := by
    have hx := I.x; have hw := I.w
    have hl : (c.2.1 + c.2.2.2.1) * d.2.2.1 = lst_ d c + 1 := by unfold lst_; omega
    rw [wrapI_in (n := c.2.1 + c.2.2.2.1) (by omega), hl, wrapI_in (n := lst_ d c + 1) (by omega), wrapI_in (by omega)]; omega
  have e4 : IntKind.wrap .i64 (Int.tdiv (lst_ d c) 32) = lst_ d c / 32 := by rw [Int.tdiv_eq_ediv_of_nonneg (by omega), wrapI_in (by omega)]
  have e5 : IntKind.wrap .i64 (IntKind.wrap .i64 (c.2.2.2.2.2.1 - c.2.1) * d.2.2.1) = by_ d c := by
    have hx := I.x; have hw := I.w; have hsx := I.sx
    rw [wrapI_in (n := c.2.2.2.2.2.1 - c.2.1) (by omega)]; show IntKind.wrap .i64 (by_ d c) = _; rw [wrapI_in (by omega)]
  have e6 : Int.tmod (fst_ d c) 32 = fst_ d c % 32 := Int.tmod_eq_emod_of_nonneg G.1
  have e7 : Int.tmod (lst_ d c) 32 = lst_ d c % 32 := Int.tmod_eq_emod_of_nonneg (by omega)
  simp only [e1, e2, e3, e4, e5, e6, e7]
  have hc7 : blk w7 b = some cc := (Go.Sh.Below.blk B6 hbw).trans hc
  have hf7 : fre w7 b = true := (Go.Sh.Below.fre B6 hbw).trans hf
  refine ok_mono (loop_spec v9 s11 b R (st d) (fst_ d c) (lst_ d c) (by_ d c) c.1 (toneF tl y) r33 has (st sf) (fun q => sw ((c.2.2.2.2.2.2.1 + k) * st sf + q)) (fun q => dw (y * st d + q)) w7 cc hv9a hc7 hf7 (by omega)
    (fun i hi0 hi1 => ?_) ⟨G.1, G.2.1, G.2.2.1, G.2.2.2.1⟩ ⟨G.2.2.2.2.1, G.2.2.2.2.2.1⟩ hs11 (fun hh => ?_) hdo) ?_
  · rw [show R + i.toNat = (y * st d + i).toNat by omega]
    exact hdw _ (by omega) (by omega)
  · subst hh
    obtain ⟨bs, os, cs, ha, hsl, hscap, hcs, hsr, hcl⟩ := hsrc rfl
    obtain ⟨_, h5⟩ := hs11b rfl
    obtain ⟨h6, h7⟩ := h5 bs os ha
    have hsg := I.sgeo
    have hsyy := I.sy
    have q0 : 0 ≤ (c.2.2.2.2.2.2.1 + k) * st sf := Int.mul_nonneg (by omega) (by omega)
    refine ⟨bs, _, cs, h6, h7, (Go.Sh.Below.blk B6 (blk_lt hcs)).trans hcs, fun i hi0 hi1 => ?_, fun hbb => ?_⟩
    · rw [show os + ((c.2.2.2.2.2.2.1 + k) * st sf).toNat + i.toNat = os + ((c.2.2.2.2.2.2.1 + k) * st sf + i).toNat by omega]
      exact hsr i hi0 hi1
    · obtain ⟨ho, hm⟩ := hcl hbb
      refine ⟨hm, ?_⟩
      rw [hm] at q0 ⊢
      rcases Int.lt_trichotomy (c.2.2.2.2.2.2.1 + k) y with hlt | heq | hgt
      · have := mul_step hlt (show 0 ≤ st d by omega); right; left; omega
      · left; rw [heq]; omega
      · have := mul_step hgt (show 0 ≤ st d by omega); right; right; omega
  · rintro _ w8 ⟨c', h1', h2', h3', h4', h5', h6'⟩
    refine ⟨c', h1', h2', h3', fun j => ?_, fun q hq hqb => ?_, (B6.mono (by omega)).trans h6'⟩
    · rw [h4' j, hR]
    · have := h5' q (by have := B6.size; omega) hqb
      exact ⟨this.1.trans (Go.Sh.Below.blk B6 hq), this.2.trans (Go.Sh.Below.fre B6 hq)⟩
end Go.Proofs.Ytpgalllceejpnaa
