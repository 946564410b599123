/-
  Parts of the proof: QD, QE. It states what the functions do; no further condition.
-/
import Derived.Test.YtkkdeljladihpaaQC
import Derived.KernelRfl
import Derived.Shelf.SlSortCmp.WholeK
set_option linter.unusedVariables false
set_option linter.unusedSimpArgs false
/-
  slices.SortFunc at the timers: breaking patterns ends; the whole ends.
-/
namespace Go.Proofs.Ytkkdeljladihpaa
set_option linter.unusedVariables false
open Go.Sh Go.RowKit X
set_option maxRecDepth 100000
theorem bAnd_le (a m : Int) (h : 0 ≤ m ∧ m < 18446744073709551616) : 0 ≤ bAnd .u64 a m ∧ bAnd .u64 a m ≤ m := by
  unfold bAnd
  have e : IntKind.bits .u64 = 64 := rfl
  rw [e, wrapU]
  obtain ⟨k, rfl⟩ : ∃ k : Nat, m = k := ⟨m.toNat, by omega⟩
  have h1 : (BitVec.ofInt 64 a &&& BitVec.ofInt 64 (k : Int)).toNat ≤ k := by
    rw [BitVec.toNat_and]
    have := ofInt_toNat k (by omega)
    rw [this]
    exact Nat.and_le_right
  omega
/-- The table of lengths. -/
def tab8 : ByteArray := ByteArray.mk #[0, 1, 2, 2, 3, 3, 3, 3, 4, 4, 4, 4, 4, 4, 4, 4, 5, 5, 5, 5, 5, 5, 5, 5, 5, 5, 5, 5, 5, 5, 5, 5, 6, 6, 6, 6, 6, 6, 6, 6, 6, 6, 6, 6, 6, 6, 6, 6, 6, 6, 6, 6, 6, 6, 6, 6, 6, 6, 6, 6, 6, 6, 6, 6, 7, 7, 7, 7, 7, 7, 7, 7, 7, 7, 7, 7, 7, 7, 7, 7, 7, 7, 7, 7, 7, 7, 7, 7, 7, 7, 7, 7, 7, 7, 7, 7, 7, 7, 7, 7, 7, 7, 7, 7, 7, 7, 7, 7, 7, 7, 7, 7, 7, 7, 7, 7, 7, 7, 7, 7, 7, 7, 7, 7, 7, 7, 7, 7, 8, 8, 8, 8, 8, 8, 8, 8, 8, 8, 8, 8, 8, 8, 8, 8, 8, 8, 8, 8, 8, 8, 8, 8, 8, 8, 8, 8, 8, 8, 8, 8, 8, 8, 8, 8, 8, 8, 8, 8, 8, 8, 8, 8, 8, 8, 8, 8, 8, 8, 8, 8, 8, 8, 8, 8, 8, 8, 8, 8, 8, 8, 8, 8, 8, 8, 8, 8, 8, 8, 8, 8, 8, 8, 8, 8, 8, 8, 8, 8, 8, 8, 8, 8, 8, 8, 8, 8, 8, 8, 8, 8, 8, 8, 8, 8, 8, 8, 8, 8, 8, 8, 8, 8, 8, 8, 8, 8, 8, 8, 8, 8, 8, 8, 8, 8, 8, 8, 8, 8, 8, 8, 8, 8, 8, 8, 8, 8]
theorem tab8_ok : (List.range 256).all (fun i => match tab8.data[i]? with | some k => decide (k.toNat ≤ 8) && (decide (i = 0) || decide (2 ^ k.toNat ≤ 2 * i)) | none => false) = true := by kernel_rfl
theorem tab8_get {i : Nat} (h : i < 256) (h0 : 1 ≤ i) : ∃ k : UInt8, tab8.data[i]? = some k ∧ k.toNat ≤ 8 ∧ 2 ^ k.toNat ≤ 2 * i := by
  have := List.all_eq_true.1 tab8_ok i (List.mem_range.2 h)
  cases hk : tab8.data[i]? with
  | none => rw [hk] at this; simp at this
  | some k =>
    rw [hk] at this
    simp only [Bool.and_eq_true, Bool.or_eq_true, decide_eq_true_eq] at this
    exact ⟨k, rfl, this.1, by omega⟩
section
variable {w0 w : World} {s : Sl} {b L : Nat} {α β : Type} {Q : α → World → Prop}
theorem ok_tab8 {i : Int} (h : 1 ≤ i ∧ i < 256) {f : Int → M α} (hq : ∀ k : Int, 0 ≤ k → k ≤ 8 → ((2 ^ k.toNat : Nat) : Int) ≤ 2 * i → Ok (f k) w Q) : Ok (bnd (ixS tab8 i) f) w Q := by
  obtain ⟨k, h1, h2, h3⟩ := tab8_get (i := i.toNat) (by omega) (by omega)
  refine ok_bnd.2 ?_
  unfold ixS
  have e : (if 0 ≤ i then tab8[i.toNat]? else none) = some k := by
    rw [if_pos (by omega)]
    rw [← h1]
    rfl
  rw [e]
  exact ok_ret.2 (hq _ (by omega) (by omega) (by rw [Int.toNat_natCast]; omega))
theorem len64_spec {x : Int} (h : 1 ≤ x ∧ x < 65536) : Ok (f74_bits_Len64 x) w fun r w' => w' = w ∧ 0 ≤ r ∧ r ≤ 16 ∧ ((2 ^ r.toNat : Nat) : Int) ≤ 2 * x := by
  unfold f74_bits_Len64
  refine ok_bnd.2 (ok_false (by simp only [ge_iff_le, decide_eq_false_iff_not]; omega) (ok_ret.2 ?_))
  refine ok_bnd.2 (ok_false (by simp only [ge_iff_le, decide_eq_false_iff_not]; omega) (ok_ret.2 ?_))
  refine ok_bnd.2 ?_
  by_cases h8 : x ≥ 256
  · refine ok_true (by simpa using h8) (ok_ret.2 ?_)
    have e1 : shrI .u64 x 8 = x / 256 := by rw [shr_eq _ _ _ (by decide)]; rfl
    have e2 : IntKind.wrap .u8 (x / 256) = x / 256 := by rw [wrapU8]; omega
    dsimp only
    rw [e1, e2]
    refine ok_tab8 (by omega) fun k k0 k1 k2 => ok_ret.2 ⟨rfl, ?_⟩
    rw [wI (n := k) (by omega), wI (n := (0 : Int) + 8) (by omega), wI (by omega)]
    refine ⟨by omega, by omega, ?_⟩
    have e3 : ((0 : Int) + 8 + k).toNat = 8 + k.toNat := by omega
    rw [e3, Nat.pow_add]
    have : (2 : Nat) ^ 8 = 256 := by decide
    rw [this]
    generalize (2 : Nat) ^ k.toNat = z at k2 ⊢
    omega
  · refine ok_false (by simpa using h8) (ok_ret.2 ?_)
    have e2 : IntKind.wrap .u8 x = x := by rw [wrapU8]; omega
    dsimp only
    rw [e2]
    refine ok_tab8 (by omega) fun k k0 k1 k2 => ok_ret.2 ⟨rfl, ?_⟩
    rw [wI (n := k) (by omega), wI (by omega), Int.zero_add]
    exact ⟨k0, by omega, k2⟩
theorem len_spec {x : Int} (h : 1 ≤ x ∧ x < 65536) : Ok (f50_bits_Len x) w fun r w' => w' = w ∧ 0 ≤ r ∧ r ≤ 16 ∧ ((2 ^ r.toNat : Nat) : Int) ≤ 2 * x := by
  unfold f50_bits_Len
  exact ok_false rfl (ok_bnd.2 (ok_mono (len64_spec h) fun r w' h' => ok_ret.2 h'))
theorem npow_spec {x : Int} (h : 1 ≤ x ∧ x < 65536) : Ok (f78_slices_nextPowerOfTwo x) w fun r w' => w' = w ∧ 1 ≤ r ∧ r ≤ 2 * x := by
  unfold f78_slices_nextPowerOfTwo
  have e : IntKind.wrap .u64 x = x := by rw [wrapU]; omega
  rw [e]
  refine ok_bnd.2 (ok_mono (len_spec h) ?_)
  rintro r w' ⟨rfl, h1, h2, h3⟩
  refine ok_bnd.2 (ok_cnt.2 ⟨h1, ok_ret.2 ⟨rfl, ?_⟩⟩)
  rw [shl_u64 _ _ (by omega), Int.one_mul]
  have e2 : (2 : Int) ^ r.toNat = ((2 ^ r.toNat : Nat) : Int) := by rw [Int.natCast_pow]; rfl
  have e3 : 1 ≤ 2 ^ r.toNat := Nat.one_le_two_pow
  rw [e2]
  generalize 2 ^ r.toNat = z at h3 e3 ⊢
  omega
/-- The random number beside the row. -/
def Us (c : Nat) (w : World) : Prop := ∃ n : Int, blk w c = some #[Value.int .u64 n] ∧ cln w c = true
theorem ok_uld {c : Nat} (h : Us c w) {f : Int → M α} (hq : ∀ n, Ok (f n) w Q) : Ok (bnd (ld (.int .u64) ⟨c, 0, none⟩) f) w Q := by
  obtain ⟨n, h1, h2⟩ := h
  exact ok_bnd.2 (ok_ld (x := n) h1 (by rfl) (hq n))
theorem ok_uwr {c : Nat} (h : Us c w) (n : Int) {f : Unit → M α} (hq : ∀ w', Us c w' → Keep (fun k => k = c) w w' → Ok (f ()) w' Q) : Ok (bnd (wrs ⟨c, 0, none⟩ 0 [.int .u64 n]) f) w Q := by
  obtain ⟨n', h1, h2⟩ := h
  refine ok_bnd.2 (ok_wrs (l := [Value.int .u64 n]) h1 (cln_fre h2) (by simp) rfl (hq _ ⟨n, by rw [blk_setBlk _ _ _ _ h1, if_pos rfl]; rfl, by rw [cln_setBlk]; exact h2⟩ (keep_setBlk w c _)))
theorem us_drew {c : Nat} (h : Us c w) : Us c w.drew := h
theorem keep_drew {c : Nat} : Keep (fun k => k = c) w w.drew := ⟨rfl, rfl, rfl, Nat.le_refl _, fun _ _ _ => rfl⟩
theorem keep_tr {c : Nat} {w w1 w2 : World} (h : Keep (fun k => k = c) w w1) (k : Keep (fun k => k = c) w1 w2) : Keep (fun k => k = c) w w2 := h.trans k fun i hi => .inl hi
theorem next_spec {c : Nat} (h : Us c w) : Ok (f79_slices_xorshift_Next (some ⟨c, 0, none⟩)) w fun _ w' => Us c w' ∧ Keep (fun k => k = c) w w' := by
  unfold f79_slices_xorshift_Next
  simp only [bnd_as, bnd_ret]
  refine ok_bnd.2 ⟨_, _, rfl, ?_⟩
  refine ok_drfS (ok_uld (us_drew h) fun n1 => ok_drfS (ok_uld (us_drew h) fun n2 => ok_drfS (ok_uwr (us_drew h) _ fun w1 u1 k1 => ?_)))
  refine ok_bnd.2 ⟨_, _, rfl, ?_⟩
  refine ok_drfS (ok_uld (us_drew u1) fun n1 => ok_drfS (ok_uld (us_drew u1) fun n2 => ok_drfS (ok_uwr (us_drew u1) _ fun w2 u2 k2 => ?_)))
  refine ok_bnd.2 ⟨_, _, rfl, ?_⟩
  refine ok_drfS (ok_uld (us_drew u2) fun n1 => ok_drfS (ok_uld (us_drew u2) fun n2 => ok_drfS (ok_uwr (us_drew u2) _ fun w3 u3 k3 => ?_)))
  refine ok_drfS (ok_uld u3 fun n => ok_ret.2 ⟨u3, ?_⟩)
  exact keep_tr (keep_tr (keep_tr keep_drew k1) (keep_tr keep_drew k2)) (keep_tr keep_drew k3)
theorem breakPatterns_spec (R : Rg s b L) (hlen : s.len < 65536) (h : Rs b L w) {x1 x2 : Int} (h1 : 0 ≤ x1) (h2 : x1 ≤ x2) (h3 : x2 ≤ s.len) : Ok (f67_breakPatterns s x1 x2 ()) w fun _ w' => G b L w w' := by
  unfold f67_breakPatterns
  have hn := R.n
  have hs := R.small
  have hbl := h.lt
  rw [wI (n := x2 - x1) (by omega)]
  have e4 : IntKind.wrap .i64 (Int.tdiv (x2 - x1) 4) = (x2 - x1) / 4 := by rw [Int.tdiv_eq_ediv_of_nonneg (by omega), wI (by omega)]
  rw [e4, wI (n := (x2 - x1) / 4 * 2) (by omega), wI (n := x1 + (x2 - x1) / 4 * 2) (by omega), wI (n := x1 + (x2 - x1) / 4 * 2 + 1) (by omega), wI (n := x1 + (x2 - x1) / 4 * 2 - 1) (by omega)]
  refine ok_bnd.2 (ok_mono (Q := fun _ w' => G b L w w') ?_ fun _ w' g => ok_ret.2 g)
  by_cases h8 : x2 - x1 ≥ 8
  · refine ok_true (by simpa using h8) ?_
    refine ok_bnd.2 (ok_newC.2 ?_)
    have hne : w.heap.size ≠ b := by omega
    have ga := G.below h (((Below.refl w.heap.size w).alloc (Nat.le_refl _) (.cells [Value.int .u64 0].toArray 111)))
    have hc0 : Us w.heap.size (w.alloc (.cells [Value.int .u64 0].toArray 111)) := ⟨0, by rw [blk_alloc, if_pos rfl], by rw [cln_alloc, if_pos rfl]⟩
    generalize w.alloc (.cells [Value.int .u64 0].toArray 111) = wa at ga hc0
    -- what is beside stays beside
    have frame : ∀ {w1 w2 : World}, G b L w w1 → Keep (fun k => k = w.heap.size) w1 w2 → G b L w w2 := fun {w1 w2} g k => by
      obtain ⟨M, m1, m2, m3⟩ := g.rs
      have hk := k.block b (blk_lt m2) (by omega)
      refine ⟨⟨M, m1, (blk_of hk).trans m2, by unfold cln at m3 ⊢; rw [hk]; exact m3⟩, g.keep.trans k fun i hi => .inr (by omega)⟩
    have uframe : ∀ {w1 w2 : World}, Us w.heap.size w1 → G b L w1 w2 → Us w.heap.size w2 := fun {w1 w2} u g => by
      obtain ⟨n, c1, c2⟩ := u
      have hk := g.keep.block w.heap.size (blk_lt c1) hne
      exact ⟨n, (blk_of hk).trans c1, by unfold cln at c2 ⊢; rw [hk]; exact c2⟩
    refine ok_uwr hc0 _ fun w1 u1 k1 => ?_
    have g1 := frame ga k1
    refine ok_bnd.2 (ok_mono (npow_spec (x := x2 - x1) (by omega)) ?_)
    rintro r3 w2 ⟨rfl, p1, p2⟩
    have eU : IntKind.wrap .u64 (r3 - 1) = r3 - 1 := by rw [wrapU]; omega
    rw [eU]
    refine ok_loopN (fun m (i : Int) w' => G b L w w' ∧ Us w.heap.size w' ∧ x1 + (x2 - x1) / 4 * 2 - 1 ≤ i ∧ i ≤ x1 + (x2 - x1) / 4 * 2 + 2 ∧ m = (x1 + (x2 - x1) / 4 * 2 + 2 - i).toNat) ?_ _ _ w2 ⟨g1, u1, Int.le_refl _, by omega, rfl⟩
    rintro m i w3 ⟨g3, u3, i1, i2, rfl⟩
    by_cases hi : i ≤ x1 + (x2 - x1) / 4 * 2 + 1
    · refine ok_true (by simpa using hi) ?_
      refine ok_bnd.2 (ok_mono (next_spec u3) fun r5 w4 ⟨u4, k4⟩ => ?_)
      have g4 := frame g3 k4
      have hb := bAnd_le r5 (r3 - 1) (by omega)
      generalize bAnd .u64 r5 (r3 - 1) = z at hb
      rw [wI (n := z) (by omega)]
      refine ok_bnd.2 (ok_mono (Q := fun r w' => w' = w4 ∧ 0 ≤ r ∧ r < x2 - x1) ?_ ?_)
      · by_cases hz : z ≥ x2 - x1
        · exact ok_true (by simpa using hz) (ok_ret.2 ⟨rfl, by rw [wI (by omega)]; omega, by rw [wI (by omega)]; omega⟩)
        · exact ok_false (by simpa using hz) (ok_ret.2 ⟨rfl, by omega, by omega⟩)
      · rintro z' w5 ⟨rfl, z1, z2⟩
        rw [wI (n := x1 + z') (by omega), wI (n := i + 1) (by omega)]
        refine ok_qsw R g4.rs (by omega) (by omega) (by omega) (by omega) fun w6 g6 => ?_
        exact ok_ret.2 ⟨_, by omega, g4.trans g6, uframe u4 g6, by omega, by omega, rfl⟩
    · exact ok_false (by simpa using hi) (ok_ret.2 g3)
  · exact ok_false (by simpa using h8) (ok_ret.2 (G.refl h))
theorem pdq_ends (R : Rg s b L) (hlen : s.len < 65536) : ∀ (n : Nat) (w : World) (x1 x2 lim : Int), Rs b L w → 0 ≤ x1 → x1 ≤ x2 → x2 ≤ s.len → x2 - x1 < n → Ok (pdqN n s x1 x2 lim ()) w fun _ w' => G b L w w'
  | 0, w, x1, x2, lim, _, _, _, _, h => by omega
  | n + 1, w, x1, x2, lim, h, h1, h2, h3, h4 => by
    have ih := pdq_ends R hlen n
    have hn := R.n
    have hs := R.small
    show Ok (f49_pdqsort (pdqN n) s x1 x2 lim ()) w _
    unfold f49_pdqsort
    refine ok_loopN (fun m (st : Int × (Int × (Int × (Bool × Bool)))) w' => G b L w w' ∧ x1 ≤ st.1 ∧ st.1 ≤ st.2.1 ∧ st.2.1 ≤ x2 ∧ m = (st.2.1 - st.1).toNat) ?_ _ _ w ⟨G.refl h, Int.le_refl _, h2, Int.le_refl _, rfl⟩
    rintro m ⟨a, e, l, bal, par⟩ w1 ⟨g1, a1, a2, a3, rfl⟩
    simp only at a1 a2 a3
    dsimp only
    rw [wI (n := e - a) (by omega), wI (n := e - 1) (by omega)]
    refine ok_bnd.2 (ok_mono (Q := fun r w' => G b L w w' ∧ (r = .inr (.inr ()) ∨ ∃ st : Int × (Int × (Int × (Bool × Bool))), r = .inl st ∧ x1 ≤ st.1 ∧ st.1 ≤ st.2.1 ∧ st.2.1 ≤ x2 ∧ st.2.1 - st.1 < e - a)) ?_ ?_)
    · by_cases h12 : e - a ≤ 12
      · refine ok_true (by simpa using h12) ?_
        exact ok_bnd.2 (ok_mono (insertion_spec R g1.rs (by omega) (by omega) (by omega)) fun _ w2 g2 => ok_ret.2 ⟨g1.trans g2, .inl rfl⟩)
      refine ok_false (by simpa using h12) ?_
      refine ok_cnd.2 ⟨fun _ => ?_, fun _ => ?_⟩
      · exact ok_bnd.2 (ok_mono (heapSort_spec R g1.rs (by omega) (by omega) (by omega)) fun _ w2 g2 => ok_ret.2 ⟨g1.trans g2, .inl rfl⟩)
      refine ok_bnd.2 (ok_mono (Q := fun _ w' => G b L w w') ?_ fun l2 w2 g2 => ?_)
      · refine ok_cnd.2 ⟨fun _ => ?_, fun _ => ok_ret.2 g1⟩
        exact ok_bnd.2 (ok_mono (breakPatterns_spec R hlen g1.rs (by omega) (by omega) (by omega)) fun _ w2 g2 => ok_ret.2 (g1.trans g2))
      refine ok_bnd.2 (ok_mono (choosePivot_spec R g2.rs (by omega) (by omega) (by omega)) fun r9 w3 ⟨p1, p2, g3⟩ => ?_)
      have g23 := g2.trans g3
      rw [wI (n := r9.1 - a) (by omega), wI (n := e - 1 - (r9.1 - a)) (by omega)]
      refine ok_bnd.2 (ok_mono (Q := fun r w' => G b L w w' ∧ a ≤ r.1 ∧ r.1 < e) ?_ ?_)
      · refine ok_cnd.2 ⟨fun _ => ?_, fun _ => ok_ret.2 ⟨g23, p1, p2⟩⟩
        exact ok_bnd.2 (ok_mono (reverse_spec R g23.rs (by omega) (by omega) (by omega)) fun _ w4 g4 => ok_ret.2 ⟨g23.trans g4, by show a ≤ e - 1 - (r9.1 - a); omega, by show e - 1 - (r9.1 - a) < e; omega⟩)
      rintro ⟨pv, hint⟩ w4 ⟨g4, q1, q2⟩
      simp only at q1 q2
      refine ok_bnd.2 (ok_mono (Q := fun r w' => G b L w w' ∧ (r = .inl () ∨ r = .inr (.inr (.inr ())))) ?_ ?_)
      · refine ok_cnd.2 ⟨fun _ => ?_, fun _ => ok_ret.2 ⟨g4, .inl rfl⟩⟩
        refine ok_bnd.2 (ok_mono (partialInsertion_spec R g4.rs (by omega) (by omega) (by omega)) fun r w5 g5 => ?_)
        exact ok_cnd.2 ⟨fun _ => ok_ret.2 ⟨g4.trans g5, .inr rfl⟩, fun _ => ok_ret.2 ⟨g4.trans g5, .inl rfl⟩⟩
      rintro r w5 ⟨g5, rfl | rfl⟩
      · dsimp only
        rw [wI (n := a - 1) (by omega)]
        refine ok_qcmpC R g5.rs (fun hc => by simp only [gt_iff_lt, decide_eq_true_eq] at hc; omega) (fun hc => by omega) fun r w6 hr g6 => ?_
        have g56 := g5.trans g6
        cases r with
        | true =>
          refine ok_true rfl ?_
          refine ok_bnd.2 (ok_mono (partitionEqual_spec R g56.rs (by omega) q1 q2 (by omega)) fun r w7 ⟨m1, m2, g7⟩ => ok_ret.2 ⟨g56.trans g7, .inr ⟨_, rfl, by show x1 ≤ r; omega, by show r ≤ e; omega, a3, by show e - r < e - a; omega⟩⟩)
        | false =>
          refine ok_false rfl ?_
          refine ok_bnd.2 (ok_mono (partition_spec R g56.rs (by omega) q1 q2 (by omega)) fun r w7 ⟨m1, m2, g7⟩ => ?_)
          have g67 := g56.trans g7
          obtain ⟨mid, was⟩ := r
          simp only at m1 m2
          dsimp only
          rw [wI (n := mid + 1) (by omega)]
          refine ok_bnd.2 (ok_mono (Q := fun (r : Int × (Int × Bool)) w' => G b L w w' ∧ x1 ≤ r.1 ∧ r.1 ≤ r.2.1 ∧ r.2.1 ≤ x2 ∧ r.2.1 - r.1 < e - a) ?_ ?_)
          · refine ok_cnd.2 ⟨fun _ => ?_, fun _ => ?_⟩
            · refine ok_bnd.2 (ok_mono (ih w7 a mid l2 g67.rs (by omega) m1 (by omega) (by omega)) fun _ w8 g8 => ok_ret.2 ⟨g67.trans g8, by show x1 ≤ mid + 1; omega, by show mid + 1 ≤ e; omega, a3, by show e - (mid + 1) < e - a; omega⟩)
            · refine ok_bnd.2 (ok_mono (ih w7 (mid + 1) e l2 g67.rs (by omega) (by omega) (by omega) (by omega)) fun _ w8 g8 => ok_ret.2 ⟨g67.trans g8, a1, m1, by show mid ≤ x2; omega, by show mid - a < e - a; omega⟩)
          · rintro r w8 ⟨g8, r1, r2, r3, r4⟩
            exact ok_ret.2 ⟨g8, .inr ⟨_, rfl, r1, r2, r3, r4⟩⟩
      · exact ok_ret.2 ⟨g5, .inl rfl⟩
    · rintro r w2 ⟨g2, rfl | ⟨st, rfl, r1, r2, r3, r4⟩⟩
      · exact ok_ret.2 g2
      · exact ok_ret.2 ⟨(st.2.1 - st.1).toNat, by omega, g2, r1, r2, r3, rfl⟩
theorem sort_ends (R : Rg s b L) (hlen : s.len < 65536) (h1 : 1 ≤ s.len) (h : Rs b L w) : Ok (f37_SortFunc s ()) w fun _ w' => G b L w w' := by
  unfold f37_SortFunc
  have e : IntKind.wrap .u64 (s.len : Int) = (s.len : Int) := by rw [wrapU]; omega
  rw [e]
  refine ok_bnd.2 (ok_mono (len_spec (x := (s.len : Int)) (by omega)) ?_)
  rintro r w1 ⟨hw, _, _, _⟩
  rw [hw]
  refine ok_bnd.2 (ok_mono (Q := fun _ w' => G b L w w') ?_ fun _ w' g => ok_ret.2 g)
  exact pdq_ends R hlen (s.len + 1) _ 0 s.len r h (by omega) (by omega) (by omega) (by omega)
end
end Go.Proofs.Ytkkdeljladihpaa

/-
  slices.SortFunc at the timers: the library's own contract for it, at this program's numbers.
-/
namespace Go.Proofs.Ytkkdeljladihpaa
set_option linter.unusedVariables false
open Go.Sh Go.RowKit X
set_option maxRecDepth 100000
/-- The numbers of the sorting functions and of their types. -/
def renTm : Go.Shelf.Ren := ⟨fun x => match x with
  | 14 => 49
  | 20 => 65
  | 21 => 66
  | 22 => 67
  | 23 => 68
  | 24 => 69
  | 25 => 70
  | 26 => 71
  | 27 => 72
  | 46 => 77
  | 47 => 78
  | 48 => 79
  | 49 => 80
  | 50 => 81
  | 15 => 50
  | 57 => 82
  | 28 => 73
  | 29 => 74
  | n => n, fun x => match x with
  | 24 => 71
  | 22 => 52
  | 3 => 3
  | 25 => 75
  | 4 => 4
  | 0 => 0
  | 46 => 97
  | 45 => 96
  | 50 => 101
  | 66 => 111
  | 39 => 85
  | 55 => 106
  | 70 => 115
  | 76 => 117
  | 77 => 118
  | 53 => 104
  | 5 => 5
  | 9 => 9
  | n => n, fun n => n⟩
theorem layTm : Go.Proofs.SlLaysF0.n14 Try.prog renTm where
  mixed := by kernel_rfl
  f14 := Exists.intro Try.f49.name ⟨by decide +kernel, Try.func49.trans (congrArg some (by kernel_rfl))⟩
  f15 := Try.func50.trans (congrArg some (by kernel_rfl))
  f20 := Exists.intro Try.f65.name ⟨by decide +kernel, Try.func65.trans (congrArg some (by kernel_rfl))⟩
  f21 := Exists.intro Try.f66.name ⟨by decide +kernel, Try.func66.trans (congrArg some (by kernel_rfl))⟩
  f22 := Exists.intro Try.f67.name ⟨by decide +kernel, Try.func67.trans (congrArg some (by kernel_rfl))⟩
  f23 := Exists.intro Try.f68.name ⟨by decide +kernel, Try.func68.trans (congrArg some (by kernel_rfl))⟩
  f24 := Exists.intro Try.f69.name ⟨by decide +kernel, Try.func69.trans (congrArg some (by kernel_rfl))⟩
  f25 := Exists.intro Try.f70.name ⟨by decide +kernel, Try.func70.trans (congrArg some (by kernel_rfl))⟩
  f26 := Exists.intro Try.f71.name ⟨by decide +kernel, Try.func71.trans (congrArg some (by kernel_rfl))⟩
  f27 := Exists.intro Try.f72.name ⟨by decide +kernel, Try.func72.trans (congrArg some (by kernel_rfl))⟩
  f28 := Try.func73.trans (congrArg some (by kernel_rfl))
  f29 := Try.func74.trans (congrArg some (by kernel_rfl))
  f46 := Exists.intro Try.f77.name ⟨by decide +kernel, Try.func77.trans (congrArg some (by kernel_rfl))⟩
  f47 := Try.func78.trans (congrArg some (by kernel_rfl))
  f48 := Try.func79.trans (congrArg some (by kernel_rfl))
  f49 := Exists.intro Try.f80.name ⟨by decide +kernel, Try.func80.trans (congrArg some (by kernel_rfl))⟩
  f50 := Exists.intro Try.f81.name ⟨by decide +kernel, Try.func81.trans (congrArg some (by kernel_rfl))⟩
  f57 := Exists.intro Try.f82.name ⟨by decide +kernel, Try.func82.trans (congrArg some (by kernel_rfl))⟩
  t0 := Try.underlying0
  a0 := Try.isAgg0
  z0 := Try.sizeOf0
  v0 := Try.zeroValue0
  t3 := Try.underlying3
  a3 := Try.isAgg3
  z3 := Try.sizeOf3
  v3 := Try.zeroValue3
  t4 := Try.underlying4
  a4 := Try.isAgg4
  z4 := Try.sizeOf4
  v4 := Try.zeroValue4
  t5 := Try.underlying5
  a5 := Try.isAgg5
  z5 := Try.sizeOf5
  v5 := Try.zeroValue5
  t9 := Try.underlying9
  a9 := Try.isAgg9
  z9 := Try.sizeOf9
  v9 := Try.zeroValue9
  t22 := Try.underlying52
  a22 := Try.isAgg52
  z22 := Try.sizeOf52
  v22 := Try.zeroValue52
  t25 := Try.underlying75
  a25 := Try.isAgg75
  z25 := Try.sizeOf75
  v25 := Try.zeroValue75
  t39 := Try.underlying85
  a39 := Try.isAgg85
  z39 := Try.sizeOf85
  v39 := Try.zeroValue85
  t45 := Try.underlying96
  a45 := Try.isAgg96
  z45 := Try.sizeOf96
  v45 := Try.zeroValue96
  t46 := Try.underlying97
  a46 := Try.isAgg97
  z46 := Try.sizeOf97
  v46 := Try.zeroValue97
  t50 := Try.underlying101
  a50 := Try.isAgg101
  z50 := Try.sizeOf101
  v50 := Try.zeroValue101
  t53 := Try.underlying104
  a53 := Try.isAgg104
  z53 := Try.sizeOf104
  v53 := Try.zeroValue104
  t55 := Try.underlying106
  a55 := Try.isAgg106
  z55 := Try.sizeOf106
  v55 := Try.zeroValue106
  t66 := Try.underlying111
  a66 := Try.isAgg111
  z66 := Try.sizeOf111
  v66 := Try.zeroValue111
  t70 := Try.underlying115
  a70 := Try.isAgg115
  z70 := Try.sizeOf115
  v70 := Try.zeroValue115
  t76 := Try.underlying117
  a76 := Try.isAgg117
  z76 := Try.sizeOf117
  v76 := Try.zeroValue117
  t77 := Try.underlying118
  a77 := Try.isAgg118
  z77 := Try.sizeOf118
  v77 := Try.zeroValue118
/-- Two contracts on one call speak of one end. -/
theorem calls_agree {P : Program} {f : FuncId} {args : Array Value} {w w1 : World} {v : Value} {R : Ending → World → Prop}
    (h : Calls P f args w fun e w'' => e = .returned v ∧ w'' = w1) (h' : Calls P f args w R) (hR : ∀ e w', R e w' → ∃ v, e = .returned v) (hi : P.inits.idxOf? f = none) : R (.returned v) w1 := by
  have g : Calls P f args w fun | .returned v', w' => v' = v ∧ w' = w1 | _, _ => False := h.mono fun e w' ⟨he, hw⟩ => by subst he; exact ⟨rfl, hw⟩
  have g' : Calls P f args w fun | .returned v', w' => R (.returned v') w' | _, _ => False := h'.mono fun e w' hr => by
    obtain ⟨u, rfl⟩ := hR e w' hr
    exact hr
  obtain ⟨n, u, w2, e1, rfl, rfl⟩ := g.done hi
  obtain ⟨m, u', w3, e2, r2⟩ := g'.done hi
  have a := runN_ended e1 m
  have b := runN_ended e2 n
  rw [Nat.add_comm, a] at b
  injection b with ho hw
  injection ho with hv
  subst hv hw
  exact r2
instance : Inhabited Tm := ⟨⟨0, 0, 0⟩⟩
def cfT (x y : Tm) : Int := cmpV (x.time, x.made, x.sem) (y.time, y.made, y.sem)
theorem ltT (x y : Tm) : Go.Proofs.ltOf cfT x y = St.lt x y := by
  unfold Go.Proofs.ltOf cfT cmpV St.lt orL orL orL cmpI
  by_cases h1 : x.time < y.time
  · simp [h1]; omega
  · by_cases h2 : x.time > y.time
    · simp [h1, h2]; omega
    · have : x.time = y.time := by omega
      by_cases h3 : x.made < y.made
      · simp [this, h3]
      · by_cases h4 : x.made > y.made
        · simp [this, h3, h4]
        · simp [this, h3, h4]
theorem lt_iff (x y : Tm) : St.lt x y = true ↔ x.time < y.time ∨ (x.time = y.time ∧ x.made < y.made) := by
  unfold St.lt
  split
  · rename_i h; simp only [decide_eq_true_eq]; omega
  · rename_i h; simp only [decide_eq_true_eq]; omega
theorem swoT : Go.Sort.SWO (Go.Proofs.ltOf cfT) where
  irrefl x := by
    rw [ltT, Bool.eq_false_iff]
    intro h; rw [lt_iff] at h; omega
  trans x y z h1 h2 := by
    rw [ltT] at *
    rw [lt_iff] at *; omega
  ntrans x y z h1 h2 := by
    rw [ltT] at *
    rw [Bool.eq_false_iff, ne_eq, lt_iff] at *; omega
section
variable {w0 w : World} {T0 T : Hp} {α β : Type} {Q : α → World → Prop}
theorem cmp_exact (u v : TmV) (w : World) : Ok (f38_sched_Sched_State_2 u v) w fun r w' => r = cmpV u v ∧ w' = (((w.alloc (.cells [Value.int .i64 u.1, .int .i64 u.2.1, .int .i64 u.2.2].toArray 71)).alloc (.cells [Value.int .i64 v.1, .int .i64 v.2.1, .int .i64 v.2.2].toArray 71)).drew).alloc (.cells [Value.int .i64 (cmpI u.1 v.1), .int .i64 (cmpI u.2.1 v.2.1)].toArray 3) := by
  unfold f38_sched_Sched_State_2
  have C : Tr en w (fun _ => none) w (fun _ => none) := Tr.refl fun b o h => by cases h
  have C1 := C.alloc (.tms [⟨u.1, u.2.1, u.2.2⟩]) 71
  have C2 := C1.alloc (.tms [⟨v.1, v.2.1, v.2.2⟩]) 71
  refine ok_bnd.2 (ok_newC.2 ?_)
  refine ok_bnd.2 (ok_newC.2 ?_)
  have e1 : (en (.tms [⟨u.1, u.2.1, u.2.2⟩])).toArray = [Value.int .i64 u.1, .int .i64 u.2.1, .int .i64 u.2.2].toArray := rfl
  have e2 : (en (.tms [⟨v.1, v.2.1, v.2.2⟩])).toArray = [Value.int .i64 v.1, .int .i64 v.2.1, .int .i64 v.2.2].toArray := rfl
  rw [e1] at C1 C2
  rw [e2] at C2
  have hne : w.heap.size ≠ (w.alloc (.cells [Value.int .i64 u.1, .int .i64 u.2.1, .int .i64 u.2.2].toArray 71)).heap.size := by
    show w.heap.size ≠ (w.heap.push _).size
    rw [Array.size_push]; omega
  generalize hw2 : (w.alloc (.cells [Value.int .i64 u.1, .int .i64 u.2.1, .int .i64 u.2.2].toArray 71)).alloc (.cells [Value.int .i64 v.1, .int .i64 v.2.1, .int .i64 v.2.2].toArray 71) = w2 at C2 ⊢
  generalize (w.alloc (.cells [Value.int .i64 u.1, .int .i64 u.2.1, .int .i64 u.2.2].toArray 71)).heap.size = c2 at C2 hne ⊢
  generalize w.heap.size = c1 at C2 hne ⊢
  have g2 : put (put (fun _ => none) c1 (Ob.tms [⟨u.1, u.2.1, u.2.2⟩])) c2 (Ob.tms [⟨v.1, v.2.1, v.2.2⟩]) c2 = some (Ob.tms [⟨v.1, v.2.1, v.2.2⟩]) := put_eq _ _ _
  have g1 : put (put (fun _ => none) c1 (Ob.tms [⟨u.1, u.2.1, u.2.2⟩])) c2 (Ob.tms [⟨v.1, v.2.1, v.2.2⟩]) c1 = some (Ob.tms [⟨u.1, u.2.1, u.2.2⟩]) := by rw [put_ne _ hne]; exact put_eq _ _ _
  generalize put (put (fun _ => none) c1 (Ob.tms [⟨u.1, u.2.1, u.2.2⟩])) c2 (Ob.tms [⟨v.1, v.2.1, v.2.2⟩]) = T at C2 g1 g2
  clear C C1 hw2 hne
  simp only [bnd_as, bnd_ret]
  refine ok_bnd.2 ⟨_, _, rfl, ?_⟩
  have C := C2.drew
  refine ok_tld C g1 (x := u.1) (by rfl) ?_
  refine ok_tld C g2 (x := v.1) (by rfl) ?_
  refine ok_tld C g1 (x := u.2.1) (by rfl) ?_
  refine ok_tld C g2 (x := v.2.1) (by rfl) ?_
  refine ok_tchk C g2 (by rfl) ?_
  refine ok_tchk C g1 (by rfl) ?_
  rw [Gcmp, Gcmp]
  refine ok_bnd.2 (ok_buildL2 slt31 (.int .i64 (cmpI u.1 v.1)) (.int .i64 (cmpI u.2.1 v.2.1)) rfl rfl ?_)
  have C' := C.alloc (.ints (.out 1) [cmpI u.1 v.1, cmpI u.2.1 v.2.1]) 3
  have e12 : (en (.ints (.out 1) [cmpI u.1 v.1, cmpI u.2.1 v.2.1])).toArray = [Value.int .i64 (cmpI u.1 v.1), Value.int .i64 (cmpI u.2.1 v.2.1)].toArray := rfl
  rw [e12] at C'
  have h2 : Rd (put T w2.drew.heap.size (.ints (.out 1) [cmpI u.1 v.1, cmpI u.2.1 v.2.1])) ⟨some ⟨w2.drew.heap.size, 0, none⟩, 2, 2⟩ [cmpI u.1 v.1, cmpI u.2.1 v.2.1] := ⟨rfl, .inr ⟨_, 0, _, _, rfl, put_eq _ _ _, fun i v hv => by rw [Nat.zero_add]; exact hv⟩⟩
  exact or_spec C' h2 (by simp) (ok_ret.2 ⟨rfl, rfl⟩)
theorem cmp_lays (b off size : Nat) (w : World) : Go.Proofs.CmpLays Try.prog 38 #[] Tm.en 3 cfT b off size w := by
  intro m os dk hs x y
  refine (calls_ok Sf38_sched_Sched_State_2 (x := ((x.time, x.made, x.sem), (y.time, y.made, y.sem))) (cmp_exact _ _ _) rfl).mono fun e W' ⟨r, he, hr, hw⟩ => ?_
  refine ⟨by rw [he, hr]; rfl, 1, #[.cells [Value.int .i64 x.time, .int .i64 x.made, .int .i64 x.sem].toArray 71, .cells [Value.int .i64 y.time, .int .i64 y.made, .int .i64 y.sem].toArray 71, .cells [Value.int .i64 (cmpI x.time y.time), .int .i64 (cmpI x.made y.made)].toArray 3], ?_⟩
  rw [hw]
  simp only [World.alloc, World.drew, World.drewN, Go.Sort.grow]
  congr 1
/-- A thing of the map turned by some call. -/
theorem Tr.chg (C : Tr en w0 T0 w T) {b : Nat} {o o' : Ob} {w1 : World} (hb : T b = some o) (k : Keep (fun x => x = b) w w1) (h1 : blk w1 b = some (en o').toArray) (h2 : cln w1 b = true) : Tr en w0 T0 w1 (put T b o') := by
  refine ⟨fun x p hx => ?_, C.keep.trans k fun i hi => ?_, fun x hx => ?_⟩
  · by_cases e : x = b
    · subst e; rw [put_eq, Option.some.injEq] at hx; subst hx; exact ⟨h1, h2⟩
    · rw [put_ne _ e] at hx
      have hx' := C.th x p hx
      have hk := k.block x (C.th.lt hx) e
      exact ⟨(blk_of hk).trans hx'.1, by have := hx'.2; unfold cln at this ⊢; rw [hk]; exact this⟩
  · subst hi; exact C.new i (by rw [hb]; simp)
  · by_cases e : x = b
    · subst e; exact C.new x (by rw [hb]; simp)
    · rw [put_ne _ e] at hx; exact C.new x hx
theorem en_get {M : List Tm} {i k : Nat} {t : Tm} (h : M[i]? = some t) (hk : k < 3) : (en (.tms M)).toArray[3 * i + k]? = (Tm.en t)[k]? := by
  rw [List.getElem?_toArray]
  exact flat_get (g := Tm.en) (n := 3) (fun _ => rfl) h hk
theorem Tm.en_inj {x y : Tm} (h : ∀ k, k < 3 → (Tm.en x)[k]? = (Tm.en y)[k]?) : x = y := by
  have h0 := h 0 (by decide)
  have h1 := h 1 (by decide)
  have h2 := h 2 (by decide)
  simp only [Tm.en, List.getElem?_cons_zero, List.getElem?_cons_succ, Option.some.injEq, Value.int.injEq, true_and] at h0 h1 h2
  cases x; cases y
  simp only at h0 h1 h2
  subst h0 h1 h2
  rfl
/-- SortFunc: a permutation, in order. -/
theorem sort_spec (C : Tr en w0 T0 w T) {s : Sl} {b : Nat} {M : List Tm} (ha : s.a = some ⟨b, 0, none⟩) (hb : T b = some (.tms M)) (hle : s.len ≤ M.length) (h1 : 1 ≤ s.len) (h2 : s.len < 65536) {f : Unit → Go.Sh.M α}
    (hq : ∀ M' w', M'.length = M.length → (M'.take s.len).Perm (M.take s.len) → (M'.take s.len).Pairwise (fun x y => St.lt y x = false) → Tr en w0 T0 w' (put T b (.tms M')) → Ok (f ()) w' Q) : Ok (bnd (f37_SortFunc s ()) f) w Q := by
  have hB := C.th b _ hb
  have hlt := C.th.lt hb
  have R : Rg s b M.length := ⟨ha, hle, by omega⟩
  have hRs : Rs b M.length w := ⟨M, rfl, hB.1, hB.2⟩
  unfold f37_SortFunc
  have e : IntKind.wrap .u64 (s.len : Int) = (s.len : Int) := by rw [wrapU]; omega
  rw [e]
  refine ok_bnd.2 (ok_bnd.2 (ok_mono (len_spec (x := (s.len : Int)) (by omega)) ?_))
  rintro r w1 ⟨hw, r0, r1, _⟩
  rw [hw]
  obtain ⟨_, w2, hm, hG⟩ := pdq_ends R h2 (s.len + 1) w 0 s.len r hRs (by omega) (by omega) (by omega) (by omega)
  have hex := Sf49_pdq.2 (s, (0, ((s.len : Int), (r, ())))) w () w2 hm
  -- the library's contract at this call
  have hd : (M.take s.len).toArray.size = s.len := by simp; omega
  have hH : Go.Sort.HoldsK Tm.en 3 w b 0 (M.take s.len).toArray := by
    intro j hj
    rw [Go.Sort.size_flatK, hd] at hj
    have hdv : j / 3 < s.len := Nat.div_lt_of_lt_mul (by omega)
    have hmd : j % 3 < 3 := Nat.mod_lt _ (by decide)
    have hMi : M[j / 3]? = some M[j / 3] := List.getElem?_eq_getElem (by omega)
    have hti : (M.take s.len).toArray[j / 3]! = M[j / 3] := by
      rw [getElem!_pos _ (j / 3) (by rw [hd]; exact hdv)]
      simp
    have hk : (Tm.en M[j / 3]).length = 3 := rfl
    refine ⟨?_, frozen_blk hB.1 (cln_fre hB.2) ?_⟩
    · rw [cell_blk hB.1, Nat.zero_add, Go.Sort.get_flatK _ _ _ _ (by rw [hd]; exact hj), hti]
      have := en_get hMi hmd
      rw [Nat.div_add_mod] at this
      rw [this, List.getElem?_eq_getElem (by rw [hk]; exact hmd), getElem!_pos _ _ (by rw [hk]; exact hmd)]
      rfl
    · simp only [List.size_toArray]
      have : (en (.tms M)).length = 3 * M.length := flat_length (g := Tm.en) (n := 3) (fun _ => rfl) M
      omega
  have eg : ∀ args w, (callFunc 38 args).run Try.prog w = .ok (.enter 38 args) w := Go.Proofs.enters_of Try.func38 (by kernel_rfl) rfl
  have h1c : ∀ x : Tm, ∀ v ∈ Tm.en x, v.oneCell' = true := fun x v hv => by
    simp only [Tm.en, List.mem_cons, List.not_mem_nil, or_false] at hv
    rcases hv with rfl | rfl | rfl <;> rfl
  have hcon := Go.Proofs.AnyQ.pdqsortCmpFunc_all layTm 3 Try.isAgg71 Try.sizeOf71 Tm.en cfT 38 #[] swoT b 0 s.cap (M.take s.len).toArray w eg (cmp_lays b 0 _ w) ⟨fun _ => rfl, h1c, hH, hlt⟩
    (s.len + 1) 0 s.len r.toNat (M.take s.len).toArray w (by omega) rfl (Go.Proofs.SWK.start hH) (Nat.zero_le _) (by rw [hd]; exact Nat.le_refl _) (by rw [hd]; omega) (by omega) (Or.inl rfl)
  have eargs : (enc (.pair .sl (.pair (.int .i64) (.pair (.int .i64) (.pair (.int .i64) (.clo 38 .unit))))) false (s, ((0 : Int), ((s.len : Int), (r, ()))))).toArray = #[Value.slice (some ⟨b, 0, none⟩) (M.take s.len).toArray.size s.cap, .int .i64 ((0 : Nat) : Int), .int .i64 (s.len : Nat), .int .i64 (r.toNat : Nat), .func (.func 38) #[] #[]] := by
    rw [hd, Int.toNat_of_nonneg r0]
    obtain ⟨sa, sn, sc⟩ := s
    simp only at ha
    subst ha
    rfl
  have hcon' : Calls Try.prog 49 #[Value.slice (some ⟨b, 0, none⟩) (M.take s.len).toArray.size s.cap, .int .i64 ((0 : Nat) : Int), .int .i64 (s.len : Nat), .int .i64 (r.toNat : Nat), .func (.func 38) #[] #[]] w _ := hcon
  rw [← eargs] at hcon'
  have hS := (calls_agree hex hcon' (fun e w' h => ⟨_, h.1⟩) (by kernel_rfl)).2
  have hp := Go.Sort.pdq_sorts (Go.Proofs.ltOf cfT) swoT (M.take s.len).toArray 0 s.len r.toNat true true (Nat.zero_le _) (by rw [hd]; exact Nat.le_refl _) (Or.inl rfl)
  generalize Go.Sort.pdq (Go.Proofs.ltOf cfT) (M.take s.len).toArray 0 s.len r.toNat true true = d' at hS hp
  obtain ⟨⟨p1, _, p3⟩, p4⟩ := hp
  rw [hd] at p1
  have hH' := hS.holds hlt hH (by rw [p1, hd])
  obtain ⟨M', m1, m2, m3⟩ := hG.rs
  have htake : M'.take s.len = d'.toList := by
    apply List.ext_getElem?
    intro i
    by_cases hi : i < s.len
    · rw [List.getElem?_take_of_lt hi, List.getElem?_eq_getElem (by omega)]
      have hdi : d'.toList[i]? = some d'[i]! := by
        rw [Array.getElem?_toList, Array.getElem?_eq_getElem (by omega), getElem!_pos _ _ (by omega)]
      rw [hdi, Option.some.injEq]
      refine Tm.en_inj fun k hk => ?_
      have hc := (hH' (3 * i + k) (by rw [Go.Sort.size_flatK, p1]; omega)).1
      rw [cell_blk m2, Nat.zero_add, en_get (M := M') (i := i) (List.getElem?_eq_getElem (by omega)) hk, Go.Sort.get_flatK _ _ _ _ (by rw [p1]; omega)] at hc
      have e1 : (3 * i + k) / 3 = i := by omega
      have e2 : (3 * i + k) % 3 = k := by omega
      rw [e1, e2] at hc
      rw [hc]
      have hk3 : k < (Tm.en d'[i]!).length := hk
      rw [List.getElem?_eq_getElem hk3, getElem!_pos (Tm.en d'[i]!) k hk3]
      rfl
    · rw [List.getElem?_eq_none (by simp; omega), List.getElem?_eq_none (by simp; omega)]
  refine ok_bnd.2 ⟨_, _, hm, ok_ret.2 (hq M' w2 m1 ?_ ?_ (Tr.chg C hb hG.keep m2 m3))⟩
  · rw [htake]
    have e1 : (d'.extract 0 s.len).toList = d'.toList := by rw [← p1]; simp
    have e2 : ((M.take s.len).toArray.extract 0 s.len).toList = M.take s.len := by simp [List.take_take]
    rw [e1, e2] at p3
    exact p3
  · rw [htake]
    rw [List.pairwise_iff_getElem]
    intro i j hi hj hij
    have hjs : j < s.len := by simp [p1] at hj; exact hj
    have := p4 i j (Nat.zero_le _) hij hjs
    rw [ltT, getElem!_pos _ _ (by omega), getElem!_pos _ _ (by omega)] at this
    simpa using this
end
end Go.Proofs.Ytkkdeljladihpaa
