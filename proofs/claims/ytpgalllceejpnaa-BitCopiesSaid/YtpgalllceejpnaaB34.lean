/-
  Part of the proof: B34
-/
import Derived.Test.YtpgalllceejpnaaB33
set_option linter.unusedSimpArgs false
set_option linter.unusedVariables false
namespace Go.Proofs.Ytpgalllceejpnaa
set_option linter.unusedVariables false
open Go.Sh Go.RowKit
set_option maxRecDepth 100000
/-! ### The reference: a copy, pixel by pixel -/
theorem pos_iff {f : Form} {x y : Int} (hd : Dep f.2.2.1) (hw : 0 ≤ f.1 ∧ f.1 ≤ 4096) (hx : 0 ≤ x ∧ x < f.1) (n k : Nat) (hk : k < 32) :
    ((n : Int) = (plc f x y).1 ∧ (plc f x y).2.toNat ≤ k ∧ k < (plc f x y).2.toNat + f.2.2.1.toNat) ↔ ((n : Int) / st f = y ∧ (32 * ((n : Int) % st f) + 31 - k) / f.2.2.1 = x) := by
  have hp := place_rng hd hw hx
  have hst := st_rng hd hw
  have hm := Int.emod_nonneg (n : Int) (show st f ≠ 0 by omega)
  constructor
  · rintro ⟨h1, h2, h3⟩
    obtain ⟨r1, r2⟩ := plc_row (y := y) hd hw hx
    rw [← h1] at r1 r2
    refine ⟨r1, ?_⟩
    rw [r2]
    simp only [plc] at h2 h3
    unfold Dep at hd
    rcases hd with h | h | h | h | h | h <;> rw [h] at h2 h3 ⊢ <;> omega
  · rintro ⟨h1, h2⟩
    have hn := @row_div (n : Int) (st f)
    rw [h1] at hn
    have hi : (n : Int) % st f = x * f.2.2.1 / 32 ∧ (plc f x y).2.toNat ≤ k ∧ k < (plc f x y).2.toNat + f.2.2.1.toNat := by
      simp only [plc]
      generalize (n : Int) % st f = i at h2 hm
      unfold Dep at hd
      rcases hd with h | h | h | h | h | h <;> rw [h] at h2 ⊢ <;> omega
    refine ⟨?_, hi.2⟩
    simp only [plc]
    rw [hn, hi.1]
theorem putL_lsb {f : Form} {l : List Int} {x y p : Int} (hs : Sized f) (hi : Inside f x y) (hl : Wds l) (hp : 0 ≤ p ∧ p ≤ onesF f.2.2.1) (n k : Nat) (hn : n < l.length) (hk : k < 32) :
    (ib (at0 (putL f l x y p) n)).getLsbD k = if (n : Int) = (plc f x y).1 ∧ (plc f x y).2.toNat ≤ k ∧ k < (plc f x y).2.toNat + f.2.2.1.toNat then (ib p).getLsbD (k - (plc f x y).2.toNat) else (ib (at0 l n)).getLsbD k := by
  have hpl := plc_in hs hi
  have hpr := place_rng hs.1 hs.2.1 hi.1
  have hov := ones_val hs.1
  have hU : (plc f x y).2.toNat ≤ 31 := by simp only [plc]; omega
  by_cases hni : (n : Int) = (plc f x y).1
  · have e : at0 (putL f l x y p) n = bXor .u32 (at0 l (plc f x y).1) (shlI .u32 (bXor .u32 (pixF f l x y) p) (plc f x y).2.toNat) := by
      unfold putL at0
      rw [show (plc f x y).1.toNat = n by omega, Int.toNat_natCast, List.getElem?_set, if_pos rfl, if_pos hn]
      rfl
    rw [e, bXor_bi (at0 l _), ib_bi, BitVec.getLsbD_xor, shl_lsb (by rw [bXor_bi]; exact (bi_rng _).1) _ k (by omega) hk, bXor_bi, ib_bi, BitVec.getLsbD_xor, ← hni]
    by_cases h1 : (plc f x y).2.toNat ≤ k
    · rw [decide_eq_true h1, Bool.true_and, pix_lsb (y := y) hs.1 hs.2.1 hi.1 (at0_rng hl _) _ (by omega), ← hni, show (plc f x y).2.toNat + (k - (plc f x y).2.toNat) = k by omega]
      by_cases h2 : k - (plc f x y).2.toNat < f.2.2.1.toNat
      · rw [if_pos ⟨rfl, h1, by omega⟩, decide_eq_true h2, Bool.true_and]
        cases (ib (at0 l n)).getLsbD k <;> cases (ib p).getLsbD (k - (plc f x y).2.toNat) <;> rfl
      · have hz : (ib p).getLsbD (k - (plc f x y).2.toNat) = false := by
          rw [ib_lsb hp.1 _ (by omega)]
          have hplt : p.toNat < 2 ^ f.2.2.1.toNat := by omega
          exact Nat.testBit_lt_two_pow (Nat.lt_of_lt_of_le hplt (Nat.pow_le_pow_right (by decide) (by omega)))
        rw [if_neg (fun h => h2 (by omega)), decide_eq_false h2, hz]
        simp
    · rw [decide_eq_false h1, if_neg (fun h => h1 h.2.1)]
      simp
  · rw [if_neg (fun h => hni h.1)]
    have e : at0 (putL f l x y p) n = at0 l n := by
      unfold putL at0
      rw [Int.toNat_natCast, List.getElem?_set, if_neg (by omega)]
    rw [e]
/-- How far the reference's copy has come. -/
def Pr (f : Form) (y x : Int) (n k : Nat) : Prop := (n : Int) / st f < y ∨ ((n : Int) / st f = y ∧ (32 * ((n : Int) % st f) + 31 - k) / f.2.2.1 < x)
instance (f : Form) (y x : Int) (n k : Nat) : Decidable (Pr f y x n k) := by unfold Pr; infer_instance
structure Half (f : Form) (dl o lo : List Int) (y x : Int) : Prop where
  len : lo.length = dl.length
  wd : Wds lo
  bit : ∀ n k : Nat, n < dl.length → k < 32 → (ib (at0 lo n)).getLsbD k = if Pr f y x n k then (ib (at0 o n)).getLsbD k else (ib (at0 dl n)).getLsbD k
/-- A pixel's bits, out of a copy. -/
theorem cpy_off {r : Int} (hr : 0 ≤ r ∧ r ≤ 15) {d s : Form} {b : Blit} (tl dl sl : List Int) (he : errC d s b = 0) (hsl : Wds sl) (n k : Nat) (hn : n < dl.length) (hk : k < 32)
    (h : ¬ (Left d s b ((32 * ((n : Int) % st d) + 31 - k) / d.2.2.1) ((n : Int) / st d))) : (ib (at0 (cpy r d s (clipN d s b) true tl (at0 sl) dl) n)).getLsbD k = (ib (at0 dl n)).getLsbD k := by
  obtain ⟨gd, gs, hdep, hb⟩ := errC_ok he
  have hI : (clipN d s b).2.2.2.2.1 ≠ 0 → In d s (clipN d s b) true := fun hne => in_clip (h := ⟨none, 0, 0⟩) ⟨gd.1, gs.1, hdep, hb⟩ hne
  rw [cpy_lsb hr tl dl sl hsl hI n k hn hk, if_neg]
  rintro ⟨h0, hy, hx⟩
  apply h
  rw [left_iff he]
  have hc : clipN d s b = (b.1, (spanX d s b).1, (spanY d s b).1, (spanX d s b).2.2, (spanY d s b).2.2, (spanX d s b).2.1, (spanY d s b).2.1, b.2.2.2.2.2.2.2.1, b.2.2.2.2.2.2.2.2.1, b.2.2.2.2.2.2.2.2.2.1, b.2.2.2.2.2.2.2.2.2.2.1, ⟨none, 0, 0⟩) := by
    unfold clipN clipS
    by_cases hz : (spanX d s b).2.2 < 1 ∨ (spanY d s b).2.2 < 1
    · exfalso; apply h0; unfold clipN clipS; rw [if_pos hz]
    · rw [if_neg hz]
  rw [hc] at hy hx
  simp only [fst_, lst_] at hy hx
  refine ⟨?_, hy⟩
  generalize 32 * ((n : Int) % st d) + 31 - k = p at hx ⊢
  have hd := gd.1.1
  unfold Dep at hd
  rcases hd with h | h | h | h | h | h <;> rw [h] at hx ⊢ <;> omega
theorem half_skip {r : Int} (hr : 0 ≤ r ∧ r ≤ 15) {d s : Form} {b : Blit} {tl dl sl lo : List Int} (he : errC d s b = 0) (hsl : Wds sl) {x y : Int} (h : ¬ Left d s b x y) (H : Half d dl (cpy r d s (clipN d s b) true tl (at0 sl) dl) lo y x) :
    Half d dl (cpy r d s (clipN d s b) true tl (at0 sl) dl) lo y (x + 1) := by
  refine ⟨H.len, H.wd, fun n k hn hk => ?_⟩
  rw [H.bit n k hn hk]
  by_cases hp : Pr d y x n k
  · rw [if_pos hp, if_pos (by unfold Pr at hp ⊢; omega)]
  · rw [if_neg hp]
    by_cases hp2 : Pr d y (x + 1) n k
    · rw [if_pos hp2]
      have hxy : (n : Int) / st d = y ∧ (32 * ((n : Int) % st d) + 31 - k) / d.2.2.1 = x := by unfold Pr at hp hp2; omega
      exact (cpy_off hr tl dl sl he hsl n k hn hk (by rw [hxy.1, hxy.2]; exact h)).symm
    · rw [if_neg hp2]
theorem emod_nn (n : Nat) (m : Int) : 0 ≤ (n : Int) % m := by
  by_cases h : m = 0
  · rw [h, Int.emod_zero]; omega
  · exact Int.emod_nonneg _ h
theorem half_row {r : Int} (hr : 0 ≤ r ∧ r ≤ 15) {d s : Form} {b : Blit} {tl dl sl lo : List Int} (he : errC d s b = 0) (hsl : Wds sl) {y : Int} (H : Half d dl (cpy r d s (clipN d s b) true tl (at0 sl) dl) lo y d.1) :
    Half d dl (cpy r d s (clipN d s b) true tl (at0 sl) dl) lo (y + 1) 0 := by
  have hd := dep_rng (errC_ok he).1.1.1
  refine ⟨H.len, H.wd, fun n k hn hk => ?_⟩
  rw [H.bit n k hn hk]
  have hm := emod_nn n (st d)
  have hq : 0 ≤ (32 * ((n : Int) % st d) + 31 - k) / d.2.2.1 := Int.ediv_nonneg (by omega) (by omega)
  by_cases hp : Pr d y d.1 n k
  · rw [if_pos hp, if_pos (by unfold Pr at hp ⊢; omega)]
  · rw [if_neg hp]
    by_cases hp2 : Pr d (y + 1) 0 n k
    · rw [if_pos hp2]
      unfold Pr at hp hp2
      refine (cpy_off hr tl dl sl he hsl n k hn hk fun hL => ?_).symm
      have h3 := hL.2.2.1.1.2
      omega
    · rw [if_neg hp2]
theorem half_start (d : Form) (dl o : List Int) (h : Wds dl) (hd : 1 ≤ d.2.2.1) (hst : 0 ≤ st d) : Half d dl o dl 0 0 := by
  refine ⟨rfl, h, fun n k hn hk => ?_⟩
  have hm := emod_nn n (st d)
  have hq : 0 ≤ (32 * ((n : Int) % st d) + 31 - k) / d.2.2.1 := Int.ediv_nonneg (by omega) (by omega)
  have h1 : 0 ≤ (n : Int) / st d := Int.ediv_nonneg (by omega) hst
  rw [if_neg (by unfold Pr; omega)]
theorem half_done {d : Form} {dl o lo : List Int} (gd : Good d) (hl : (dl.length : Int) = st d * d.2.1) (ho : o.length = dl.length) (how : Wds o) (H : Half d dl o lo d.2.1 0) : lo = o := by
  have hst := st_rng gd.1.1 gd.1.2.1
  refine at0_ext (by rw [H.len, ho]) fun n hn => ?_
  rw [H.len] at hn
  refine int_ext (at0_rng H.wd n) (at0_rng how n) fun k hk => ?_
  rw [H.bit n k hn hk, if_pos]
  left
  have h1 : (n : Int) < d.2.1 * st d := by rw [Int.mul_comm]; omega
  exact Int.ediv_lt_of_lt_mul (by
    rcases Int.lt_or_eq_of_le hst.1 with h | h
    · exact h
    · rw [← h] at h1; simp at h1; omega) h1
theorem and_ones {d : Int} (h : Dep d) (a : Int) : 0 ≤ bAnd .u32 a (onesF d) ∧ bAnd .u32 a (onesF d) ≤ onesF d := by
  have hdr := dep_rng h
  have hr : 0 ≤ bAnd .u32 a (onesF d) ∧ bAnd .u32 a (onesF d) < 4294967296 := by rw [bAnd_bi]; exact bi_rng _
  refine ⟨hr.1, ?_⟩
  obtain ⟨n, hn⟩ := Int.eq_ofNat_of_zero_le hr.1
  have hlt : n < 2 ^ d.toNat := Nat.lt_pow_two_of_testBit n fun k hk => by
    by_cases hk32 : k < 32
    · have h1 : (ib (n : Int)).getLsbD k = ((ib a).getLsbD k && decide (k < d.toNat)) := by rw [← hn, bAnd_bi, ib_bi, BitVec.getLsbD_and, ones_lsb h k hk32]
      rw [ib_lsb (Int.natCast_nonneg _) k hk32, Int.toNat_natCast, decide_eq_false (show ¬ k < d.toNat by omega), Bool.and_false] at h1
      exact h1
    · refine Nat.testBit_lt_two_pow ?_
      have h3 : 2 ^ 32 ≤ 2 ^ k := Nat.pow_le_pow_right (by decide) (by omega)
      omega
  rw [hn, ones_val h]
  omega
theorem half_put {d : Form} {dl o lo : List Int} {x y v : Int} (hs : Sized d) (hi : Inside d x y) (how : Wds o) (hv : 0 ≤ v ∧ v ≤ onesF d.2.2.1) (hb : ∀ k, k < d.2.2.1.toNat → (ib v).getLsbD k = (ib (pixF d o x y)).getLsbD k) (H : Half d dl o lo y x) :
    Half d dl o (putL d lo x y v) y (x + 1) := by
  have hdr := dep_rng hs.1
  refine ⟨by rw [← H.len]; simp [putL], ?_, fun n k hn hk => ?_⟩
  · intro m hm
    unfold putL at hm
    rcases List.mem_or_eq_of_mem_set hm with h | h
    · exact H.wd m h
    · rw [h, bXor_bi]; exact bi_rng _
  rw [putL_lsb hs hi H.wd hv n k (by rw [H.len]; exact hn) hk]
  have hpos := pos_iff (y := y) hs.1 hs.2.1 hi.1 n k hk
  by_cases hp : (n : Int) = (plc d x y).1 ∧ (plc d x y).2.toNat ≤ k ∧ k < (plc d x y).2.toNat + d.2.2.1.toNat
  · obtain ⟨q1, q2⟩ := hpos.1 hp
    rw [if_pos hp, if_pos (by unfold Pr; omega), hb _ (by omega), pix_lsb (y := y) hs.1 hs.2.1 hi.1 (at0_rng how _) _ (by omega), decide_eq_true (show k - (plc d x y).2.toNat < d.2.2.1.toNat by omega), Bool.true_and, ← hp.1,
      show (plc d x y).2.toNat + (k - (plc d x y).2.toNat) = k by omega]
  · rw [if_neg hp, H.bit n k hn hk]
    have hne : ¬ ((n : Int) / st d = y ∧ (32 * ((n : Int) % st d) + 31 - k) / d.2.2.1 = x) := fun h => hp (hpos.2 h)
    have : Pr d y x n k ↔ Pr d y (x + 1) n k := by unfold Pr; omega
    simp only [this]
/-- What the reference puts. -/
theorem put_bits {d s : Form} {b : Blit} {tl dl sl : List Int} (he : errC d s b = 0) (hl : (dl.length : Int) = st d * d.2.1) (hdl : Wds dl) (hsl : Wds sl) (htl : Wds tl) {x y : Int} (hL : Left d s b x y) (k : Nat) (hk : k < d.2.2.1.toNat) :
    (ib (bAnd .u32 (ruleF b.1 (bAnd .u32 (pixF s sl (b.2.2.2.2.2.1 + x - b.2.1) (b.2.2.2.2.2.2.1 + y - b.2.2.1)) (toneP d tl x y)) (pixF d dl x y)) (onesF d.2.2.1))).getLsbD k = (ib (pixF d (cpy b.1 d s (clipN d s b) true tl (at0 sl) dl) x y)).getLsbD k := by
  obtain ⟨gd, gs, hdep, hb⟩ := errC_ok he
  obtain ⟨hr, hf, _⟩ := errB_ok hb
  simp only [nums, List.mem_cons, List.not_mem_nil, or_false, forall_eq_or_imp, forall_eq] at hf
  obtain ⟨f1, f2, f3, f4, f5, f6, f7, f8, f9, f10⟩ := hf
  have hdr := dep_rng gd.1.1
  have hi : Inside d x y := hL.2.2.1
  have hI : (clipN d s b).2.2.2.2.1 ≠ 0 → In d s (clipN d s b) true := fun hne => in_clip (h := ⟨none, 0, 0⟩) ⟨gd.1, gs.1, hdep, hb⟩ hne
  have hnn : 0 ≤ (clipN d s b).2.2.2.1 ∧ 0 ≤ (clipN d s b).2.2.2.2.1 := ht_nn d s b ⟨none, 0, 0⟩
  rw [cpy_pix hr tl dl sl gd hl hdl hsl hI hnn hi k hk]
  have hli := (left_iff he x y).1 hL
  have x1 : 1 ≤ (spanX d s b).2.2 := by omega
  have y1 : 1 ≤ (spanY d s b).2.2 := by omega
  have hX := span_in _ _ _ _ _ d.1 s.1 f1 f3 f5 f7 f9 gd.1.2.1 gs.1.2.1 (show 1 ≤ (spanX d s b).2.2 by omega)
  have hY := span_in _ _ _ _ _ d.2.1 s.2.1 f2 f4 f6 f8 f10 gd.1.2.2.1 gs.1.2.2.1 (show 1 ≤ (spanY d s b).2.2 by omega)
  have hX' : (spanX d s b).2.1 - (spanX d s b).1 = b.2.2.2.2.2.1 - b.2.1 := hX.2.2.2.2
  have hY' : (spanY d s b).2.1 - (spanY d s b).1 = b.2.2.2.2.2.2.1 - b.2.2.1 := hY.2.2.2.2
  have hc : clipN d s b = (b.1, (spanX d s b).1, (spanY d s b).1, (spanX d s b).2.2, (spanY d s b).2.2, (spanX d s b).2.1, (spanY d s b).2.1, b.2.2.2.2.2.2.2.1, b.2.2.2.2.2.2.2.2.1, b.2.2.2.2.2.2.2.2.2.1, b.2.2.2.2.2.2.2.2.2.2.1, ⟨none, 0, 0⟩) := by
    unfold clipN clipS; rw [if_neg (by omega)]
  rw [hc]
  simp only
  rw [if_pos ⟨by omega, hli.2, hli.1⟩]
  rw [show (spanX d s b).2.1 + x - (spanX d s b).1 = b.2.2.2.2.2.1 + x - b.2.1 by omega, show (spanY d s b).2.1 + y - (spanY d s b).1 = b.2.2.2.2.2.2.1 + y - b.2.2.1 by omega]
  rw [bAnd_bi (ruleF _ _ _), ib_bi, BitVec.getLsbD_and, ones_lsb gd.1.1 k (by omega), decide_eq_true hk, Bool.and_true, ib_rule hr, rule_lsb hr _ _ k (by omega), bAnd_bi (pixF s sl _ _), ib_bi, BitVec.getLsbD_and, tone_lsb gd.1 hi htl k hk]
set_option maxHeartbeats 1000000 in
theorem refcopy_spec (d s : Form) (b : Blit) (dl sl tl : List Int) (w : World) (Hd : Arr w.heap.size w d.2.2.2 (wds dl)) (Hs : Arr w.heap.size w s.2.2.2 (wds sl)) (Ht : Arr w.heap.size w (tone b) (wds tl)) (hdl : Wds dl) (hsl : Wds sl) (htl : Wds tl) :
    Ok (f29_palaverref11_Copy d s b) w fun r w' => Below w.heap.size w w' ∧ r.2 = errC d s b ∧ (r.2 ≠ 0 → r.1 = zf) ∧
      (r.2 = 0 → r.1.1 = d.1 ∧ r.1.2.1 = d.2.1 ∧ r.1.2.2.1 = d.2.2.1 ∧ Own w.heap.size w' r.1.2.2.2 (wds (cpy b.1 d s (clipN d s b) true tl (at0 sl) dl))) := by
  unfold f29_palaverref11_Copy
  have C := Cx.nil No w
  refine ok_newL C fun p1 w1 C => ok_newL C fun p2 w2 C => ok_newL C fun p3 w3 C => ok_newL C fun p4 w4 C => ?_
  refine ok_rdL0 C 3 rfl (x := d) rfl ?_
  refine ok_rdL0 C 2 rfl (x := s) rfl ?_
  refine ok_rdL0 C 1 rfl (x := b) rfl ?_
  refine ok_callL C (wrong_spec d s b w4) (fun _ _ h => h.2) fun r w5 hr C => ?_
  obtain ⟨rfl, _⟩ := hr
  by_cases he : errC d s b = 0
  rotate_left
  · refine ok_true (by simpa using he) (ok_wrC0 C 0 rfl rfl rfl fun w6 C => ?_)
    dsimp only [List.set] at C
    exact ok_rdL0 C 0 rfl (x := zf) rfl (ok_ret.2 ⟨C.below, rfl, fun _ => rfl, fun h => absurd h he⟩)
  refine ok_false (by simpa using he) ?_
  obtain ⟨gd, gs, hdep, hb⟩ := errC_ok he
  obtain ⟨hr, hf, _⟩ := errB_ok hb
  have hf' := hf
  simp only [nums, List.mem_cons, List.not_mem_nil, or_false, forall_eq_or_imp, forall_eq] at hf'
  unfold Far at hf'
  obtain ⟨f1, f2, f3, f4, f5, f6, f7, f8, f9, f10⟩ := hf'
  have gw := gd.1.2.1
  have gh := gd.1.2.2.1
  have hgl := good_len gd Hd
  have hgs := good_len gs Hs
  refine ok_rdL0 C 3 rfl (x := d) rfl ?_
  refine ok_bnd.2 (ok_mono (like_spec d dl w5 (C.old Hd) hgl.2) ?_)
  rintro ⟨r1, r2, r3, R⟩ w6 ⟨e1, e2, e3, O, B⟩
  simp only at e1 e2 e3 O
  subst e1 e2 e3
  have C := C.addOwn B O
  refine ok_newWrL C rfl rfl fun p12 w7 C => ?_
  obtain ⟨o, ho⟩ : ∃ o, o = cpy b.1 d s (clipN d s b) true tl (at0 sl) dl := ⟨_, rfl⟩
  have how : Wds o := by rw [ho]; exact wds_cpy hr d s _ true tl _ dl hdl
  have hol : o.length = dl.length := by rw [ho, cpy_len]
  rw [← ho]
  obtain ⟨q, hq⟩ : ∃ q : Form, q = (d.1, d.2.1, d.2.2.1, R) := ⟨_, rfl⟩
  obtain ⟨T, C, t0, t4, t3, t2, t1⟩ : ∃ T, Cx No w w7 (It.own R (wds dl) :: T) ∧ T[0]? = some (.cells p12 (cellsForm q)) ∧ T[1]? = some (.cells p4 (cellsForm zf)) ∧ T[2]? = some (.cells p3 (cellsBlit b)) ∧ T[3]? = some (.cells p2 (cellsForm s)) ∧ T[4]? = some (.cells p1 (cellsForm d)) :=
    ⟨[.cells p12 (cellsForm q), .cells p4 (cellsForm zf), .cells p3 (cellsBlit b), .cells p2 (cellsForm s), .cells p1 (cellsForm d)], Cx.perm (List.Perm.swap _ _ _) (by rw [hq]; exact C), rfl, rfl, rfl, rfl, rfl⟩
  have c12 : ∀ {x : It}, (x :: T)[1]? = some (.cells p12 (cellsForm q)) := t0
  have c4 : ∀ {x : It}, (x :: T)[2]? = some (.cells p4 (cellsForm zf)) := t4
  have c3 : ∀ {x : It}, (x :: T)[3]? = some (.cells p3 (cellsBlit b)) := t3
  have c2 : ∀ {x : It}, (x :: T)[4]? = some (.cells p2 (cellsForm s)) := t2
  have c1 : ∀ {x : It}, (x :: T)[5]? = some (.cells p1 (cellsForm d)) := t1
  refine ok_loop (fun (y : Int) w' => 0 ≤ y ∧ y ≤ d.2.1 ∧ ∃ lo, Half d dl o lo y 0 ∧ Cx No w w' (It.own R (wds lo) :: T)) (fun y _ => (d.2.1 - y).toNat) ?_ _ _ ⟨Int.le_refl _, gh.1, dl, half_start d dl o hdl (dep_rng gd.1.1).1 (st_rng gd.1.1 gd.1.2.1).1, C⟩
  clear C
  rintro y w8 ⟨hy0, hy1, lo, H, C⟩
  refine ok_rdL C _ c1 (x := d.2.1) rfl ?_
  by_cases hyl : y < d.2.1
  rotate_left
  · refine ok_false (by simpa using hyl) (ok_bnd.2 ?_)
    have hyd : y = d.2.1 := by omega
    subst hyd
    have hlo := half_done gd hgl.1 hol how H
    subst hlo
    refine ok_rdL0 C _ c12 (x := q) rfl ?_
    refine ok_wrC0 C 2 c4 rfl rfl fun w9 C => ?_
    have hO := C.ret (i := 0) (s := R) (xs := wds lo) rfl
    have c4' : ((It.own R (wds lo) :: T).set 2 (.cells p4 (cellsForm q)))[2]? = some (.cells p4 (cellsForm q)) := by
      rw [List.getElem?_set, if_pos rfl, if_pos (nth_lt (c4 (x := It.own R (wds lo))))]
    refine ok_rdL0 C 2 c4' (x := q) rfl (ok_ret.2 (ok_ret.2 ⟨C.below, he.symm, fun h => absurd rfl h, fun _ => ?_⟩))
    rw [hq]
    exact ⟨rfl, rfl, rfl, hO⟩
  refine ok_true (by simpa using hyl) ?_
  refine ok_loop (fun (x : Int) w' => 0 ≤ x ∧ x ≤ d.1 ∧ ∃ lo, Half d dl o lo y x ∧ Cx No w w' (It.own R (wds lo) :: T)) (fun x _ => (d.1 - x).toNat) ?_ _ _ ⟨Int.le_refl _, gw.1, lo, H, C⟩
  clear C H
  rintro x w9 ⟨hx0, hx1, lo, H, C⟩
  refine ok_rdL C _ c1 (x := d.1) rfl ?_
  by_cases hxl : x < d.1
  rotate_left
  · have hxd : x = d.1 := by omega
    refine ok_false (by simpa using hxl) (ok_ret.2 ?_)
    rw [wrapI_in (n := y + 1) (by omega)]
    refine ⟨⟨by omega, by omega, lo, ?_, C⟩, by omega⟩
    rw [hxd] at H
    rw [ho] at H ⊢
    exact half_row hr he hsl H
  refine ok_true (by simpa using hxl) ?_
  have next : ∀ lo' w', Half d dl o lo' y (x + 1) → Cx No w w' (It.own R (wds lo') :: T) → (0 ≤ IntKind.wrap .i64 (x + 1) ∧ IntKind.wrap .i64 (x + 1) ≤ d.1 ∧ ∃ lo, Half d dl o lo y (IntKind.wrap .i64 (x + 1)) ∧ Cx No w w' (It.own R (wds lo) :: T)) ∧ (d.1 - IntKind.wrap .i64 (x + 1)).toNat < (d.1 - x).toNat := fun lo' w' H C => by
    rw [wrapI_in (n := x + 1) (by omega)]; exact ⟨⟨by omega, by omega, lo', H, C⟩, by omega⟩
  refine ok_bnd.2 ?_
  refine ok_rdL0 C _ c1 (x := d) rfl ?_
  refine ok_rdL0 C _ c2 (x := s) rfl ?_
  refine ok_rdL0 C _ c3 (x := b) rfl ?_
  refine ok_callL C (left_spec d s b x y w9 hf ⟨hx0, by omega⟩ ⟨hy0, by omega⟩) (fun _ _ h => h.2) fun r w10 hr10 C => ?_
  obtain ⟨rfl, _⟩ := hr10
  by_cases hL : Left d s b x y
  rotate_left
  · refine ok_true (by simpa using hL) (ok_ret.2 (ok_ret.2 (next lo _ ?_ C)))
    rw [ho] at H ⊢
    exact half_skip hr he hsl hL H
  refine ok_false (by simpa using hL) ?_
  have hid : Inside d x y := hL.2.2.1
  have his : Inside s (b.2.2.2.2.2.1 + x - b.2.1) (b.2.2.2.2.2.2.1 + y - b.2.2.1) := hL.2.2.2
  refine ok_drawL C fun w11 C => ?_
  refine ok_rdL0 C _ c2 (x := s) rfl ?_
  refine ok_rdL C _ c3 (x := b.2.2.2.2.2.1) rfl ?_
  refine ok_rdL C _ c3 (x := b.2.1) rfl ?_
  refine ok_rdL C _ c3 (x := b.2.2.2.2.2.2.1) rfl ?_
  refine ok_rdL C _ c3 (x := b.2.2.1) rfl ?_
  refine ok_rdL0 C _ c3 (x := b) rfl ?_
  refine ok_rdL C _ c1 (x := d.2.2.1) rfl ?_
  rw [wrapI_in (n := b.2.2.2.2.2.1 + x) (by omega), wrapI_in (n := b.2.2.2.2.2.1 + x - b.2.1) (by omega), wrapI_in (n := b.2.2.2.2.2.2.1 + y) (by omega), wrapI_in (n := b.2.2.2.2.2.2.1 + y - b.2.2.1) (by omega)]
  refine ok_callL C (get_spec s sl _ _ w11 gs.1 his hgs.1 (C.old Hs)) (fun _ _ h => h.2) fun r w12 hr12 C => ?_
  obtain ⟨rfl, _⟩ := hr12
  refine ok_bnd.2 (ok_chkL C _ c1 rfl (ok_chkL0 C _ c3 rfl (ok_ret.2 ?_)))
  refine ok_callL C (tone_spec d b tl x y w12 gd.1 hid (C.old Ht)) (fun _ _ h => h.2) fun r w13 hr13 C => ?_
  obtain ⟨rfl, _⟩ := hr13
  refine ok_bnd.2 (ok_ret.2 (ok_drawL C fun w14 C => ?_))
  refine ok_rdL C _ c3 (x := b.1) rfl ?_
  refine ok_rdL0 C _ c1 (x := d) rfl ?_
  refine ok_callL C (get_spec d dl x y w14 gd.1 hid hgl.1 (C.old Hd)) (fun _ _ h => h.2) fun r w15 hr15 C => ?_
  obtain ⟨rfl, _⟩ := hr15
  refine ok_bnd.2 (ok_chkL C _ c3 rfl (ok_ret.2 ?_))
  refine ok_bnd.2 (ok_mono (refrule_spec b.1 _ _ w15 (by rw [bAnd_bi]; exact bi_rng _) (pix_rng ..)) ?_)
  rintro r34 w16 ⟨rfl, rfl⟩
  rw [if_pos hr]
  refine ok_bnd.2 (ok_ret.2 (ok_drawL C fun w17 C => ?_))
  refine ok_rdL0 C _ c12 (x := q) rfl ?_
  refine ok_rdL C _ c1 (x := d.2.2.1) rfl ?_
  refine ok_bnd.2 (ok_mono (all_spec _ gd.1.1 w17) ?_)
  rintro r37 w18 ⟨rfl, rfl⟩
  refine ok_bnd.2 (ok_chkL0 C _ c12 rfl (ok_ret.2 ?_))
  have hbits := fun k hk => put_bits he hgl.1 hdl hsl htl hL k hk
  rw [← ho] at hbits
  obtain ⟨v, hv⟩ : ∃ v, v = bAnd .u32 (ruleF b.1 (bAnd .u32 (pixF s sl (b.2.2.2.2.2.1 + x - b.2.1) (b.2.2.2.2.2.2.1 + y - b.2.2.1)) (toneP d tl x y)) (pixF d dl x y)) (onesF d.2.2.1) := ⟨_, rfl⟩
  have hvr : 0 ≤ v ∧ v ≤ onesF d.2.2.1 := by rw [hv]; exact and_ones gd.1.1 _
  simp only [← hv] at hbits ⊢
  have hpe : putR q lo x y v = putL d lo x y v := by
    rw [← put_eq gd.1 hid H.wd hvr, hq]; rfl
  refine ok_callO C (i := 0) (s := R) rfl (refput_in q lo x y v _ (by rw [hq]; exact gd.1) (by rw [hq]; exact hid) (by rw [hq, H.len]; exact hgl.1) (by rw [hq]; exact C.get (i := 0) rfl)) (fun _ _ h => by rw [hq] at h; exact h) fun _ w19 _ C => ?_
  dsimp only [List.set] at C
  refine ok_bnd.2 (ok_ret.2 (ok_ret.2 (ok_ret.2 (next (putL d lo x y v) _ (half_put gd.1 hid how hvr hbits H) ?_))))
  rw [← hpe, hq]; exact C
end Go.Proofs.Ytpgalllceejpnaa
