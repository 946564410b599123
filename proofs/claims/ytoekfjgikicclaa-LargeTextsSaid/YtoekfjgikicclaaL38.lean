/-
  Part of the proof: L38. It states what the functions do; no further condition.
-/
import Derived.Test.YtoekfjgikicclaaL37
set_option linter.unusedVariables false
set_option linter.unusedSimpArgs false
namespace Go.Sh
set_option linter.unusedVariables false
open Go.RowKit
theorem ok_loopS {σ ρ : Type} {body : σ → M (σ ⊕ ρ)} {Q : ρ → World → Prop} {s : σ} {w : World} (h : Ok (body s) w fun r w' => match r with | .inl s' => Ok (loopM body s') w' Q | .inr x => Q x w') : Ok (loopM body s) w Q := by
  rw [loopM_eq, ok_bnd]
  refine ok_mono h fun r w' h => ?_
  cases r with
  | inl s' => exact h
  | inr x => exact ok_ret.2 h
/-- A place in a slice, what lies there known. -/
theorem ok_ixP {α : Type} {B : Nat} {w : World} {s : Sl} {k : IntKind} {l : List Int} {i : Int} {n : Int} {f : Addr → M α} {Q : α → World → Prop} (H : Arr B w s (nums k l)) (h0 : 0 ≤ i) (hl : l[i.toNat]? = some n)
    (hq : ∀ p, ld (.int k) p w = some (n, w) → Ok (f p) w Q) : Ok (bnd (ix 1 s i) f) w Q := by
  obtain ⟨e1, e2, e3, e4⟩ := H
  have hil : i.toNat < l.length := by
    rcases Nat.lt_or_ge i.toNat l.length with h | h
    · exact h
    · rw [List.getElem?_eq_none h] at hl; cases hl
  rcases e4 with e4 | ⟨b, o, c, h5, h6, h7, h8⟩
  · simp only [nums, List.map_eq_nil_iff] at e4; subst e4; simp at hil
  refine ok_bnd.2 (ok_ix h5 h0 (by rw [e1]; simp; omega) (hq _ ?_))
  rw [Nat.mul_one, addr_add]
  refine ld_blk h7 (rdv_int ?_)
  rw [h8 _ (by simpa using hil)]
  simp [hl]
theorem ok_ldE {α : Type} {w : World} {t : Ty} {p : Addr} {x : t.den} {f : t.den → M α} {Q : α → World → Prop} (h : ld t p w = some (x, w)) (hq : Ok (f x) w Q) : Ok (bnd (ld t p) f) w Q := ok_bnd.2 (ok_of h hq)
theorem ok_chkE {α : Type} {w : World} {t : Ty} {p : Addr} {x : t.den} {f : Unit → M α} {Q : α → World → Prop} (h : ld t p w = some (x, w)) (hq : Ok (f ()) w Q) : Ok (bnd (chk t p x) f) w Q := by
  refine ok_bnd.2 (ok_of (w' := w) (x := ()) ?_ hq)
  unfold chk
  rw [if_pos h]
theorem ok_ixA {α : Type} {w : World} {n : Nat} {a : Addr} {i : Int} {k : Nat} {f : Addr → M α} {Q : α → World → Prop} (hk : i = k) (h : k < n) (hq : Ok (f (Addr.add a k)) w Q) : Ok (bnd (ixA n 1 a i) f) w Q := by
  refine ok_bnd.2 ?_
  unfold ixA
  rw [if_pos ⟨by omega, by omega⟩]
  refine ok_ret.2 ?_
  rw [show i.toNat * 1 = k by omega]
  exact hq
end Go.Sh
namespace Go.Proofs.Ytoekfjgikicclaa
set_option linter.unusedVariables false
open Go.Sh Go.RowKit
set_option maxRecDepth 100000
/-! ### The document's product -/
theorem slt98 : SlT Try.prog 98 3 (.int .i64 0) 8 := ⟨by kernel_rfl, ⟨_, (by kernel_rfl : Try.prog.info? 3 = some Try.t3), rfl, rfl, rfl⟩, rfl⟩
theorem times_spec {B B' : Nat} {w : World} {x y : Sl} {a c : List Int} (hx : A8 B w x a) (hy : A8 B' w y c) (da : D8 a) (dc : D8 c) (la : a.length ≤ 1000000) (lc : c.length ≤ 1000000) :
    Ok (f73_palaverref09_times x y) w fun r w' => Below w.heap.size w w' ∧ O8 w.heap.size w' r (v8 a * v8 c) := by
  unfold f73_palaverref09_times
  have hml : maxLen = 9223372036854775807 := by decide
  have ex : x.len = a.length := by have := hx.1; simpa using this
  have ey : y.len = c.length := by have := hy.1; simpa using this
  have e0 : IntKind.wrap .i64 (IntKind.wrap .i64 ((x.len : Int) + (y.len : Int)) + 1) = ((a.length + c.length + 1 : Nat) : Int) := by rw [wrapI_in (n := (x.len : Int) + (y.len : Int)) (by omega), wrapI_in (by omega)]; omega
  rw [e0]
  refine ok_makeN slt98 (Cx.nil No w) (by omega) (by omega) (by omega) fun v w1 hv ⟨bv, hb⟩ C => ?_
  rw [Int.toNat_natCast] at C hv
  have hY := v8_cast dc
  have hYlt := vl_lt (b := 256) (by decide) dc
  have hY0 := vl_nonneg (b := 256) (by decide) dc
  refine ok_loop (fun (q : Int) w' => ∃ out, Cx No w w' [.own v (nums .i64 out)] ∧ out.length = a.length + c.length + 1 ∧ D8 out ∧ ∃ i : Nat, q = i ∧ i ≤ a.length ∧ vl 256 out = vl 256 (a.take i) * vl 256 c)
    (fun q _ => (a.length - q).toNat) ?_ _ _ ⟨_, C, by simp, Dg.zeros (by decide) _, 0, rfl, Nat.zero_le _, by rw [vl_zeros, List.take_zero, vl_nil, Int.zero_mul]⟩
  clear C
  rintro q w3 ⟨out, C, hl, hd, i, rfl, hi, hv1⟩
  by_cases hlt : i < a.length
  · refine ok_true (by simp only [decide_eq_true_eq]; omega) ?_
    obtain ⟨d, hdx⟩ := get_some hlt
    have wd := da.get hdx
    have hd0 := wd.1; have hd1 := wd.2
    have htot : vl 256 (a.take i) * vl 256 c + 256 ^ i * (d * vl 256 c) < 256 ^ (i + 1 + c.length) := by
      have h1 := vl_take_succ (b := 256) hdx
      have h2 := vl_lt (b := 256) (by decide) (da.take (i + 1))
      rw [List.length_take, Nat.min_eq_left (by omega)] at h2
      have h3 := vl_nonneg (b := 256) (by decide) (da.take (i + 1))
      have e1 : vl 256 (a.take i) * vl 256 c + 256 ^ i * (d * vl 256 c) = vl 256 (a.take (i + 1)) * vl 256 c := by rw [h1]; grind
      rw [e1, Int.pow_add]
      have hp : (0 : Int) < 256 ^ (i + 1) := Int.pow_pos (by decide)
      have h4 : vl 256 (a.take (i + 1)) * vl 256 c ≤ vl 256 (a.take (i + 1)) * 256 ^ c.length := Int.mul_le_mul_of_nonneg_left (by omega) h3
      have hp2 : (0 : Int) < 256 ^ c.length := Int.pow_pos (by decide)
      have h5 : vl 256 (a.take (i + 1)) * 256 ^ c.length < 256 ^ (i + 1) * 256 ^ c.length := Int.mul_lt_mul_of_pos_right h2 hp2
      omega
    refine ok_loop (fun (q : Int × Int) w' => ∃ out, Cx No w w' [.own v (nums .i64 out)] ∧ out.length = a.length + c.length + 1 ∧ D8 out ∧ 0 ≤ q.1 ∧ q.1 < 256 ∧ ∃ k : Nat, q.2 = k ∧ k ≤ c.length + 1 ∧ (k = c.length + 1 → q.1 = 0) ∧ vl 256 out + 256 ^ (i + k) * q.1 = vl 256 (a.take i) * vl 256 c + 256 ^ i * (d * vl 256 (c.take k)))
      (fun q _ => ((c.length + 2 : Nat) - q.2).toNat) ?_ _ _ ⟨out, C, hl, hd, (show (0 : Int) ≤ 0 by decide), (show (0 : Int) < 256 by decide), 0, rfl, by omega, by omega, by simp [hv1, vl]⟩
    clear C hl hd hv1
    rintro ⟨cr, q⟩ w4 ⟨out, C, hl, hd, hc0, hc1, k, rfl, hk, hkz, hv1⟩
    simp only at hc0 hc1 hkz hv1 ⊢
    by_cases hgo : k < c.length ∨ 0 < cr
    · refine ok_true ?_ ?_
      · by_cases h : (k : Int) < (y.len : Int)
        · simp [h]
        · simp only [h, decide_false, cond_false, gt_iff_lt, decide_eq_true_eq]; omega
      have hk2 : k ≤ c.length := by
        rcases Nat.lt_or_ge c.length k with h | h
        · have := hkz (by omega); omega
        · exact h
      have e2 : IntKind.wrap .i64 ((i : Int) + (k : Int)) = ((i + k : Nat) : Int) := by rw [wrapI_in (by omega)]; omega
      rw [e2]
      obtain ⟨o, ho⟩ := get_some (l := out) (i := i + k) (by omega)
      have wo := hd.get ho
      have ho0 := wo.1; have ho1 := wo.2
      have wg := gd_rng dc k
      have hg := vl_take_gd 256 c k
      refine ok_bnd.2 ?_
      refine ok_ordL C fun oq w4 C => ?_
      refine ok_ixP (C.arr (i := 0) (xs := nums .i64 out) rfl) (by omega) (n := o) (by rw [Int.toNat_natCast]; exact ho) fun p6 hp6 => ?_
      refine ok_ldE hp6 ?_
      refine ok_ixP (C.old (arr_size hx)) (by omega) (n := d) (by rw [Int.toNat_natCast]; exact hdx) fun p8 hp8 => ?_
      refine ok_ldE hp8 ?_
      refine ok_bnd.2 (ok_mono (digit_spec (C.old (arr_size hy)) dc k) ?_)
      rintro _ w5 ⟨rfl, rfl⟩
      generalize gd c k = g at *
      have hm0 : 0 ≤ d * g := Int.mul_nonneg hd0 wg.1
      have hm1 : d * g ≤ 255 * 255 := Int.mul_le_mul (by omega) (by omega) wg.1 (by decide)
      refine ok_assoc (ok_chkE hp8 (ok_assoc (ok_chkE hp6 (ok_retB (ok_ret.2 ?_)))))
      have e3 : IntKind.wrap .i64 (IntKind.wrap .i64 (o + IntKind.wrap .i64 (IntKind.wrap .i64 d * g)) + cr) = o + d * g + cr := by
        rw [wrapI_in (n := d) (by omega), wrapI_in (n := d * g) (by omega), wrapI_in (n := o + d * g) (by omega), wrapI_in (by omega)]
      rw [e3, Int.tmod_eq_emod_of_nonneg (by omega), Int.tdiv_eq_ediv_of_nonneg (by omega)]
      refine ok_ixO hb (by omega) (by omega) ?_
      rw [Int.toNat_natCast]
      have hdg2 : D8 (out.set (i + k) ((o + d * g + cr) % 256)) := hd.set _ (by omega) (by omega)
      have hnew : vl 256 (out.set (i + k) ((o + d * g + cr) % 256)) + 256 ^ (i + (k + 1)) * ((o + d * g + cr) / 256) = vl 256 (a.take i) * vl 256 c + 256 ^ i * (d * vl 256 (c.take (k + 1))) := by
        rw [vl_set ho, hg, ← Nat.add_assoc, Int.pow_succ]
        have q2 := Int.emod_add_mul_ediv (o + d * g + cr) 256
        have q3 : (256 : Int) ^ (i + k) = 256 ^ i * 256 ^ k := Int.pow_add _ _ _
        generalize (o + d * g + cr) % 256 = A3 at *
        generalize (o + d * g + cr) / 256 = A4 at *
        rw [q3] at hv1 ⊢
        grind
      refine ok_wrO C (i := 0) rfl hb (by omega) fun w6 C6 => ok_ret.2 ⟨⟨_, C6, by simp [hl], hdg2, ?_, ?_, k + 1, ?_, by omega, ?_, ?_⟩, ?_⟩
      · show 0 ≤ IntKind.wrap .i64 ((o + d * g + cr) / 256)
        rw [wrapI_in (by omega)]; omega
      · show IntKind.wrap .i64 ((o + d * g + cr) / 256) < 256
        rw [wrapI_in (by omega)]; omega
      · show IntKind.wrap .i64 ((k : Int) + 1) = _
        rw [wrapI_in (by omega)]; simp
      · show k + 1 = c.length + 1 → IntKind.wrap .i64 ((o + d * g + cr) / 256) = 0
        intro hke
        rw [wrapI_in (by omega)]
        have hke2 : k = c.length := by omega
        subst hke2
        rw [List.take_of_length_le (show c.length ≤ c.length + 1 by omega)] at hnew
        have h1 := vl_nonneg (b := 256) (by decide) hdg2
        rw [show i + (c.length + 1) = i + 1 + c.length by omega] at hnew
        have hp : (0 : Int) < 256 ^ (i + 1 + c.length) := Int.pow_pos (by decide)
        rcases Int.lt_or_le 0 ((o + d * g + cr) / 256) with h | h
        · have h2 : (256 : Int) ^ (i + 1 + c.length) * 1 ≤ 256 ^ (i + 1 + c.length) * ((o + d * g + cr) / 256) := Int.mul_le_mul_of_nonneg_left (by omega) (by omega)
          omega
        · omega
      · show _ + _ * IntKind.wrap .i64 ((o + d * g + cr) / 256) = _
        rw [wrapI_in (by omega)]
        exact hnew
      · show (_ - IntKind.wrap .i64 ((k : Int) + 1)).toNat < _
        rw [wrapI_in (by omega)]; omega
    · have hcz : cr = 0 := by omega
      subst hcz
      refine ok_false ?_ (ok_ret.2 ⟨⟨out, C, hl, hd, i + 1, ?_, hlt, ?_⟩, ?_⟩)
      · have : ¬ (k : Int) < (y.len : Int) := by omega
        simp [this]
      · rw [wrapI_in (by omega)]; simp
      · rw [List.take_of_length_le (show c.length ≤ k by omega), Int.mul_zero, Int.add_zero] at hv1
        rw [hv1, vl_take_succ hdx]
        grind
      · rw [wrapI_in (by omega)]; omega
  have hie : i = a.length := by omega
  subst hie
  refine ok_false (by simp only [decide_eq_false_iff_not]; omega) ?_
  rw [List.take_of_length_le (Nat.le_refl _)] at hv1
  refine ok_bnd.2 ?_
  replace C : Cx No w w3 [.own ⟨none, 0, 0⟩ (nums .u8 (out.take 0)), .own v (nums .i64 out)] := C.addNil
  refine ok_mono (Q := fun r w' => Below w.heap.size w w' ∧ O8 w.heap.size w' r (v8 a * v8 c)) ?_ (fun _ _ h => ok_ret.2 h)
  refine ok_loop (fun (q : Sl × Int) w' => ∃ i : Nat, q.2 = i ∧ i ≤ out.length ∧ q.1.len = i ∧ Cx No w w' [.own q.1 (nums .u8 (out.take i)), .own v (nums .i64 out)])
    (fun q _ => (out.length - q.2).toNat) ?_ _ _ ⟨0, rfl, Nat.zero_le _, rfl, C⟩
  clear C
  rintro ⟨s, q⟩ w4 ⟨i, rfl, hi, hsl, C⟩
  simp only at hsl C ⊢
  by_cases hlt : i < out.length
  · refine ok_true (by simp only [decide_eq_true_eq]; omega) ?_
    obtain ⟨o, ho⟩ := get_some hlt
    have wo := hd.get ho
    refine ok_get (C.arr (i := 1) (xs := nums .i64 out) rfl) (by omega) (n := o) (by rw [Int.toNat_natCast]; exact ho) ?_
    rw [wrap8_in wo]
    refine ok_push1 slt61 C (i := 0) (s := s) rfl (nums_one _) _ rfl rfl (by omega) (by omega) fun r w' C2 hr => ok_ret.2 ⟨⟨i + 1, ?_, hlt, by simp only; omega, ?_⟩, ?_⟩
    · show IntKind.wrap .i64 ((i : Int) + 1) = _
      rw [wrapI_in (by omega)]; simp
    · rw [nums_snoc] at C2
      rw [List.take_add_one, ho]
      exact C2
    · show (_ - IntKind.wrap .i64 ((i : Int) + 1)).toNat < _
      rw [wrapI_in (by omega)]; omega
  · have hie : i = out.length := by omega
    subst hie
    rw [List.take_of_length_le (Nat.le_refl _)] at C
    refine ok_false (by simp only [decide_eq_false_iff_not]; omega) ?_
    refine ok_bnd.2 (ok_bnd.2 (ok_mono (rtrim_own (C.ret (i := 0) (xs := nums .u8 out) rfl) hd) ?_))
    rintro r w5 ⟨rfl, hr, _, _⟩
    refine ok_ret.2 (ok_ret.2 ⟨C.below, ?_⟩)
    rw [hv1, ← v8_cast da, ← v8_cast dc, ← Int.natCast_mul, Int.toNat_natCast] at hr
    exact hr
end Go.Proofs.Ytoekfjgikicclaa
