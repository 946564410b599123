/-
  Headers and their words: what the functions answer. No condition beyond the kinds of the numbers.
-/
import Derived.Test.YtaanmpphkbbllaaW01
import Derived.Test.YtaanmpphkbbllaaShK
namespace Go.Proofs.Ytaanmpphkbbllaa
open Go.Sh Go.RowKit
set_option maxRecDepth 100000
abbrev Hd := (Int × (Int × (Int × (Int × (Int × (Int × (Bool × Bool)))))))
def cells (h : Hd) : List Value := [.int .i64 h.1, .int .u8 h.2.1, .int .i64 h.2.2.1, .int .i64 h.2.2.2.1, .int .i64 h.2.2.2.2.1, .int .i64 h.2.2.2.2.2.1, .bool h.2.2.2.2.2.2.1, .bool h.2.2.2.2.2.2.2]
abbrev thd : Ty := (.agg (.pair (.int .i64) (.pair (.int .u8) (.pair (.int .i64) (.pair (.int .i64) (.pair (.int .i64) (.pair (.int .i64) (.pair .bool .bool))))))))
/-- Block b holds header h. -/
def Has (w : World) (b : Nat) (h : Hd) : Prop := blk w b = some (cells h).toArray ∧ fre w b = true
theorem has_new (w : World) (h : Hd) : Has (w.alloc (.cells (cells h).toArray 24)) w.heap.size h :=
  ⟨by rw [blk_alloc, if_pos rfl], by rw [fre_alloc, if_pos rfl]⟩
theorem has_below {B b : Nat} {w w' : World} {h : Hd} (H : Has w b h) (k : Below B w w') (hb : b < B) : Has w' b h :=
  ⟨(Go.Sh.Below.blk k hb).trans H.1, (Go.Sh.Below.fre k hb).trans H.2⟩
theorem has_lt {b : Nat} {w : World} {h : Hd} (H : Has w b h) : b < w.heap.size := blk_lt H.1
theorem ok_l0 {w : World} {b : Nat} {h : Hd} {Q : Int → World → Prop} (H : Has w b h) (hq : Q h.1 w) : Ok (ld (.int .i64) (Addr.add ⟨b, 0, none⟩ 0)) w Q := ok_ldA H.1 rfl hq
theorem ok_l1 {w : World} {b : Nat} {h : Hd} {Q : Int → World → Prop} (H : Has w b h) (hq : Q h.2.1 w) : Ok (ld (.int .u8) (Addr.add ⟨b, 0, none⟩ 1)) w Q := ok_ldA H.1 rfl hq
theorem ok_l2 {w : World} {b : Nat} {h : Hd} {Q : Int → World → Prop} (H : Has w b h) (hq : Q h.2.2.1 w) : Ok (ld (.int .i64) (Addr.add ⟨b, 0, none⟩ 2)) w Q := ok_ldA H.1 rfl hq
theorem ok_l3 {w : World} {b : Nat} {h : Hd} {Q : Int → World → Prop} (H : Has w b h) (hq : Q h.2.2.2.1 w) : Ok (ld (.int .i64) (Addr.add ⟨b, 0, none⟩ 3)) w Q := ok_ldA H.1 rfl hq
theorem ok_l4 {w : World} {b : Nat} {h : Hd} {Q : Int → World → Prop} (H : Has w b h) (hq : Q h.2.2.2.2.1 w) : Ok (ld (.int .i64) (Addr.add ⟨b, 0, none⟩ 4)) w Q := ok_ldA H.1 rfl hq
theorem ok_l5 {w : World} {b : Nat} {h : Hd} {Q : Int → World → Prop} (H : Has w b h) (hq : Q h.2.2.2.2.2.1 w) : Ok (ld (.int .i64) (Addr.add ⟨b, 0, none⟩ 5)) w Q := ok_ldA H.1 rfl hq
theorem ok_l6 {w : World} {b : Nat} {h : Hd} {Q : Bool → World → Prop} (H : Has w b h) (hq : Q h.2.2.2.2.2.2.1 w) : Ok (ld .bool (Addr.add ⟨b, 0, none⟩ 6)) w Q := ok_ldA H.1 rfl hq
theorem ok_l7 {w : World} {b : Nat} {h : Hd} {Q : Bool → World → Prop} (H : Has w b h) (hq : Q h.2.2.2.2.2.2.2 w) : Ok (ld .bool (Addr.add ⟨b, 0, none⟩ 7)) w Q := ok_ldA H.1 rfl hq
theorem ok_lh {w : World} {b : Nat} {h : Hd} {Q : Hd → World → Prop} (H : Has w b h) (hq : Q h w) : Ok (ld thd ⟨b, 0, none⟩) w Q := ok_ld H.1 rfl hq
theorem ok_new {w : World} {h : Hd} {Q : Addr → World → Prop} (hq : ∀ w', Has w' w.heap.size h → Below w.heap.size w w' → w'.heap.size = w.heap.size + 1 → Q ⟨w.heap.size, 0, none⟩ w') : Ok (newC 24 (cells h)) w Q :=
  ok_newC.2 (hq _ (has_new w h) ((Below.refl _ _).alloc (Nat.le_refl _) _) (by simp))
theorem ok_wr {w : World} {b : Nat} {h0 h : Hd} {Q : Unit → World → Prop} (H : Has w b h0) (hq : ∀ w', Has w' b h → Below b w w' → w'.heap.size = w.heap.size → (∀ k h', k ≠ b → Has w k h' → Has w' k h') → Q () w') : Ok (wrs ⟨b, 0, none⟩ 0 (cells h)) w Q := by
  refine ok_wrs H.1 H.2 (by simp [cells]) (by simp [cells, single]) (hq _ ⟨?_, ?_⟩ (below_setBlk (Below.refl _ _) (Nat.le_refl _) _) (size_setBlk _ _ _) ?_)
  · rw [blk_setBlk _ _ _ _ H.1, if_pos rfl, splice_all _ _ (by simp [cells])]
  · rw [fre_setBlk _ _ _ _ H.1 (by simp [splice_size])]; exact H.2
  · intro k h' hk hh
    exact ⟨by rw [blk_setBlk _ _ _ _ H.1, if_neg hk]; exact hh.1, by rw [fre_setBlk _ _ _ _ H.1 (by simp [splice_size])]; exact hh.2⟩
/-- A header that may be. -/
def May (x : Hd) : Prop := 0 ≤ x.1 ∧ x.1 ≤ 4095 ∧ 1 ≤ x.2.1 ∧ x.2.1 ≤ 6 ∧ 0 ≤ x.2.2.2.1 ∧ x.2.2.2.1 ≤ 4194303 ∧ 0 ≤ x.2.2.2.2.1 ∧ x.2.2.2.2.1 ≤ 15 ∧ 0 ≤ x.2.2.2.2.2.1 ∧ x.2.2.2.2.2.1 ≤ 65536 ∧ 0 ≤ x.2.2.1 ∧ x.2.2.1 ≤ 7 ∧
  (x.2.1 = 3 → 1 ≤ x.2.2.2.2.2.1) ∧ (x.2.1 = 6 → 1 ≤ x.2.2.2.2.2.1) ∧ (x.2.2.1 = 0 ∨ (x.2.1 = 5 ∧ 0 < x.2.2.2.2.2.1) ∨ (x.2.1 = 6 ∧ 1 < x.2.2.2.2.2.1))
instance (h : Hd) : Decidable (May h) := by unfold May; infer_instance
theorem may_spec (h : Hd) (w : World) : Ok (f27_words_may h) w fun r w' => r = decide (May h) ∧ Below w.heap.size w w' := by
  unfold f27_words_may
  refine ok_bnd.2 (ok_new (h := h) fun w1 hb hB _ => ?_)
  simp only [Gf34_words_in]
  repeat' (first
    | with_reducible refine ok_l0 hb ?_
    | with_reducible refine ok_l1 hb ?_
    | with_reducible refine ok_l2 hb ?_
    | with_reducible refine ok_l3 hb ?_
    | with_reducible refine ok_l4 hb ?_
    | with_reducible refine ok_l5 hb ?_
    | with_reducible refine ok_bnd.2 ?_
    | with_reducible refine ok_ret.2 ?_
    | with_reducible refine ok_true rfl ?_
    | with_reducible refine ok_cnd.2 ⟨fun _ => ?_, fun _ => ?_⟩
    | (fail_if_success (with_reducible refine And.intro ?_ ?_)
       dsimp only))
  all_goals refine ⟨eq_dec ?_, hB⟩
  all_goals simp only [May, Bool.cond_false_right, Bool.cond_true_left, Bool.not_eq_true', Bool.not_eq_false', Bool.and_eq_true, Bool.and_eq_false_iff, Bool.or_eq_true, Bool.or_eq_false_iff, beq_iff_eq, beq_eq_false_iff_ne, decide_eq_true_eq, decide_eq_false_iff_not, Bool.false_eq_true, true_iff, false_iff, ne_eq, wrapI] at *
  all_goals omega
theorem mayR_spec (h : Hd) (w : World) : Ok (f29_palaverref01_May h) w fun r w' => r = decide (May h) ∧ Below w.heap.size w w' := by
  unfold f29_palaverref01_May
  refine ok_bnd.2 (ok_new (h := h) fun w1 hb hB _ => ?_)
  repeat' (first
    | with_reducible refine ok_l0 hb ?_
    | with_reducible refine ok_l1 hb ?_
    | with_reducible refine ok_l2 hb ?_
    | with_reducible refine ok_l3 hb ?_
    | with_reducible refine ok_l4 hb ?_
    | with_reducible refine ok_l5 hb ?_
    | with_reducible refine ok_l6 hb ?_
    | with_reducible refine ok_l7 hb ?_
    | with_reducible refine ok_bnd.2 ?_
    | with_reducible refine ok_ret.2 ?_
    | with_reducible refine ok_true rfl ?_
    | with_reducible refine ok_cnd.2 ⟨fun _ => ?_, fun _ => ?_⟩
    | (fail_if_success (with_reducible refine And.intro ?_ ?_)
       dsimp only))
  all_goals refine ⟨eq_dec ?_, hB⟩
  all_goals simp only [May, Bool.cond_false_right, Bool.cond_true_left, Bool.not_eq_true', Bool.not_eq_false', Bool.and_eq_true, Bool.and_eq_false_iff, Bool.or_eq_true, Bool.or_eq_false_iff, beq_iff_eq, beq_eq_false_iff_ne, decide_eq_true_eq, decide_eq_false_iff_not, Bool.false_eq_true, true_iff, false_iff, ne_eq, wrapI] at *
  all_goals omega

/-- The packing. -/
def packS (h : Hd) : Int × Int × Int := if May h then (h.1 + h.2.1 * 4096 + h.2.2.1 * 32768 + h.2.2.2.1 * 262144 + h.2.2.2.2.1 * 1099511627776 + (cond h.2.2.2.2.2.2.1 1 0) * 17592186044416 + (cond h.2.2.2.2.2.2.2 1 0) * 35184372088832, h.2.2.2.2.2.1, 0) else (0, 0, 10)
theorem ok_c5 {w : World} {b : Nat} {h : Hd} {Q : Unit → World → Prop} (H : Has w b h) (hq : Q () w) : Ok (chk (.int .i64) (Addr.add ⟨b, 0, none⟩ 5) h.2.2.2.2.2.1) w Q := ok_chkA H.1 rfl hq
theorem ok_c7 {w : World} {b : Nat} {h : Hd} {Q : Unit → World → Prop} (H : Has w b h) (hq : Q () w) : Ok (chk .bool (Addr.add ⟨b, 0, none⟩ 7) h.2.2.2.2.2.2.2) w Q := ok_chkA H.1 rfl hq
theorem bit_spec (x : Bool) (k : Int) (hk : k = 44 ∨ k = 45) (w : World) : Ok (f28_words_bit x k) w fun r w' => r = (cond x 1 0) * 2 ^ k.toNat ∧ w' = w := by
  unfold f28_words_bit
  cases x
  · exact ok_cnd.2 ⟨fun h => (by cases h), fun _ => ok_ret.2 ⟨by simp, rfl⟩⟩
  · refine ok_cnd.2 ⟨fun _ => ok_bnd.2 (ok_cnt.2 ⟨by omega, ok_ret.2 ⟨?_, rfl⟩⟩), fun h => (by cases h)⟩
    rw [shl_u64 _ _ (by omega)]
    rcases hk with rfl | rfl <;> decide
theorem has_drew {b : Nat} {w : World} {h : Hd} (H : Has w b h) : Has w.drew b h := ⟨(blk_drew w b).trans H.1, (fre_drew w b).trans H.2⟩
theorem or_pack (c f s h a m t : Int) (hc : 0 ≤ c ∧ c ≤ 4095) (hf : 0 ≤ f ∧ f ≤ 7) (hs : 0 ≤ s ∧ s ≤ 7) (hh : 0 ≤ h ∧ h ≤ 4194303) (ha : 0 ≤ a ∧ a ≤ 15) (hm : 0 ≤ m ∧ m ≤ 1) (ht : 0 ≤ t ∧ t ≤ 1) :
    bOr .u64 (bOr .u64 (bOr .u64 (bOr .u64 (bOr .u64 (bOr .u64 (IntKind.wrap .u64 c) (shlI .u64 (IntKind.wrap .u64 f) 12)) (shlI .u64 (IntKind.wrap .u64 s) 15)) (shlI .u64 (IntKind.wrap .u64 h) 18)) (shlI .u64 (IntKind.wrap .u64 a) 40)) (m * 2 ^ 44)) (t * 2 ^ 45)
      = c + f * 4096 + s * 32768 + h * 262144 + a * 1099511627776 + m * 17592186044416 + t * 35184372088832 := by
  have e1 : IntKind.wrap .u64 c = c := by rw [wrapU]; omega
  have e2 : shlI .u64 (IntKind.wrap .u64 f) 12 = f * 2 ^ 12 := by rw [shl_u64 _ _ (by decide), wrapU]; omega
  have e3 : shlI .u64 (IntKind.wrap .u64 s) 15 = s * 2 ^ 15 := by rw [shl_u64 _ _ (by decide), wrapU]; omega
  have e4 : shlI .u64 (IntKind.wrap .u64 h) 18 = h * 2 ^ 18 := by rw [shl_u64 _ _ (by decide), wrapU]; omega
  have e5 : shlI .u64 (IntKind.wrap .u64 a) 40 = a * 2 ^ 40 := by rw [shl_u64 _ _ (by decide), wrapU]; omega
  rw [e1, e2, e3, e4, e5]
  rw [bOr_add c f 12 (by omega) (by omega) (by omega)]
  rw [bOr_add _ s 15 (by omega) (by omega) (by omega)]
  rw [bOr_add _ h 18 (by omega) (by omega) (by omega)]
  rw [bOr_add _ a 40 (by omega) (by omega) (by omega)]
  rw [bOr_add _ m 44 (by omega) (by omega) (by omega)]
  rw [bOr_add _ t 45 (by omega) (by omega) (by omega)]
  omega
theorem b01 (b : Bool) : 0 ≤ (cond b 1 0 : Int) ∧ (cond b 1 0 : Int) ≤ 1 := by cases b <;> decide
theorem pack_spec (h : Hd) (w : World) : Ok (f9_words_Pack h) w fun r w' => r = packS h ∧ Below w.heap.size w w' := by
  unfold f9_words_Pack
  refine ok_bnd.2 (ok_new (h := h) fun w1 hb hB hs => ?_)
  refine ok_bnd.2 (ok_lh hb ?_)
  refine ok_bnd.2 (ok_mono (may_spec h w1) ?_)
  rintro r w2 ⟨rfl, hB2⟩
  have hb := has_below hb hB2 (has_lt hb)
  have hB := hB.trans (hB2.mono (by omega))
  by_cases hm : May h
  · refine ok_false (by simp [hm]) ?_
    have hp : packS h = _ := if_pos hm
    refine ok_bnd.2 (ok_l0 hb (ok_bnd.2 (ok_l1 hb (ok_bnd.2 (ok_l2 hb (ok_bnd.2 (ok_l3 hb (ok_bnd.2 (ok_l4 hb (ok_bnd.2 (ok_drawM.2 ?_)))))))))))
    have hb := has_drew hb
    have hB := hB.drew
    refine ok_bnd.2 (ok_l6 hb (ok_bnd.2 (ok_l7 hb (ok_bnd.2 (ok_l5 hb (ok_bnd.2 (ok_mono (bit_spec _ _ (by decide) _) ?_)))))))
    rintro r3 w3 ⟨rfl, rfl⟩
    refine ok_bnd.2 (ok_bnd.2 (ok_c5 hb (ok_bnd.2 (ok_c7 hb (ok_ret.2 (ok_bnd.2 (ok_mono (bit_spec _ _ (by decide) _) ?_)))))))
    rintro r4 w4 ⟨rfl, rfl⟩
    refine ok_bnd.2 (ok_bnd.2 (ok_c5 hb (ok_ret.2 (ok_ret.2 ⟨?_, hB⟩))))
    rw [hp]
    unfold May at hm
    refine Prod.ext ?_ (Prod.ext ?_ rfl)
    · exact or_pack _ _ _ _ _ _ _ (by omega) (by omega) (by omega) (by omega) (by omega) (b01 _) (b01 _)
    · show IntKind.wrap .u64 h.2.2.2.2.2.1 = h.2.2.2.2.2.1
      rw [wrapU]; omega
  · refine ok_true (by simp [hm]) (ok_ret.2 ⟨?_, hB⟩)
    exact (if_neg hm).symm
theorem packR_spec (h : Hd) (w : World) : Ok (f10_palaverref01_Pack h) w fun r w' => r = packS h ∧ Below w.heap.size w w' := by
  unfold f10_palaverref01_Pack
  refine ok_bnd.2 (ok_new (h := h) fun w1 hb hB hs => ?_)
  refine ok_bnd.2 (ok_lh hb ?_)
  refine ok_bnd.2 (ok_mono (mayR_spec h w1) ?_)
  rintro r w2 ⟨rfl, hB2⟩
  have hb := has_below hb hB2 (has_lt hb)
  have hB := hB.trans (hB2.mono (by omega))
  by_cases hm : May h
  · refine ok_false (by simp [hm]) ?_
    have hp : packS h = _ := if_pos hm
    refine ok_bnd.2 (ok_l0 hb (ok_bnd.2 (ok_l1 hb (ok_bnd.2 (ok_l2 hb (ok_bnd.2 (ok_l3 hb (ok_bnd.2 (ok_l4 hb (ok_bnd.2 (ok_l6 hb (ok_bnd.2 (ok_l7 hb (ok_bnd.2 (ok_drawM.2 ?_)))))))))))))))
    have hb := has_drew hb
    have hB := hB.drew
    refine ok_bnd.2 (ok_l5 hb (ok_ret.2 ⟨?_, hB⟩))
    rw [hp]
    unfold May at hm
    have m := b01 h.2.2.2.2.2.2.1
    have t := b01 h.2.2.2.2.2.2.2
    refine Prod.ext ?_ (Prod.ext ?_ rfl)
    · simp only [Gf30_palaverref01_one, wrapU]; omega
    · simp only [wrapU]; omega
  · refine ok_true (by simp [hm]) (ok_ret.2 ⟨?_, hB⟩)
    exact (if_neg hm).symm
theorem field_spec (a : Int) (i n : Nat) (ha : 0 ≤ a ∧ a < 18446744073709551616) (hi : i ≤ 63) (hn : n ≤ 62) (w : World) : Ok (f31_words_field a i n) w fun r w' => r = a / 2 ^ i % 2 ^ n ∧ Below w.heap.size w w' := by
  unfold f31_words_field
  refine ok_bnd.2 (ok_drawM.2 (ok_bnd.2 (ok_cnt.2 ⟨by omega, ok_bnd.2 (ok_cnt.2 ⟨by omega, ok_ret.2 ⟨?_, (Below.refl _ _).drew⟩⟩)⟩)))
  rw [shr_eq _ _ _ (by show _ ≤ 64; omega), shl_u64 _ _ (by omega)]
  have h1 : (0 : Int) < 2 ^ i := Int.pow_pos (by decide)
  have h2 : (0 : Int) < 2 ^ n := Int.pow_pos (by decide)
  have h3 : (2 : Int) ^ n ≤ 2 ^ 62 := by
    have := Nat.pow_le_pow_right (n := 2) (by decide) hn
    exact_mod_cast this
  have h4 : (2 : Int) ^ 62 = 4611686018427387904 := by decide
  have e : IntKind.wrap .u64 ((1 * 2 ^ n) % 18446744073709551616 - 1) = (2 ^ n - 1 : Int) := by
    rw [wrapU, Int.one_mul]; omega
  have h0 : 0 ≤ a / 2 ^ i := Int.ediv_nonneg ha.1 (Int.le_of_lt h1)
  have h5 : a / 2 ^ i ≤ a := Int.ediv_le_self _ ha.1
  have q1 : ((i : Int)).toNat = i := by omega
  have q2 : ((n : Int)).toNat = n := by omega
  rw [q1, q2, e, bAnd_mask _ _ ⟨h0, by omega⟩ (by omega), wrapI]
  have h6 := Int.emod_lt_of_pos (a / 2 ^ i) h2
  have h7 := Int.emod_nonneg (a / 2 ^ i) (Int.ne_of_gt h2)
  omega
/-- The fields of two words. -/
def flds (a b : Int) : Hd := (a % 4096, a / 4096 % 8, a / 32768 % 8, a / 262144 % 4194304, a / 1099511627776 % 16, b, decide (a / 17592186044416 % 2 = 1), decide (a / 35184372088832 % 2 = 1))
abbrev zh : Hd := (0, 0, 0, 0, 0, 0, false, false)
/-- The unpacking. -/
def unpackS (a b : Int) : Hd × Int := if a < 70368744177664 ∧ b ≤ 65536 ∧ May (flds a b) then (flds a b, 0) else (zh, 10)
theorem unpack_spec (a b : Int) (ha : 0 ≤ a ∧ a < 18446744073709551616) (hb0 : 0 ≤ b ∧ b < 18446744073709551616) (w : World) : Ok (f11_words_Unpack a b) w fun r w' => r = unpackS a b ∧ Below w.heap.size w w' := by
  unfold f11_words_Unpack
  refine ok_bnd.2 (ok_new (h := zh) fun w1 hb hB hs => ?_)
  by_cases hc : a < 70368744177664 ∧ b ≤ 65536
  · refine ok_false (by rw [shr_eq _ _ _ (by decide)]; simp; omega) ?_
    refine ok_bnd.2 (ok_mono (field_spec a 0 12 ha (by decide) (by decide) _) ?_)
    rintro r3 w3 ⟨rfl, hB3⟩
    have hB3 := hB3
    refine ok_bnd.2 (ok_mono (field_spec a 12 3 ha (by decide) (by decide) _) ?_)
    rintro r4 w4 ⟨rfl, hB4⟩
    have hB4 := hB3.trans (hB4.mono hB3.size)
    refine ok_bnd.2 (ok_mono (field_spec a 15 3 ha (by decide) (by decide) _) ?_)
    rintro r5 w5 ⟨rfl, hB5⟩
    have hB5 := hB4.trans (hB5.mono hB4.size)
    refine ok_bnd.2 (ok_mono (field_spec a 18 22 ha (by decide) (by decide) _) ?_)
    rintro r6 w6 ⟨rfl, hB6⟩
    have hB6 := hB5.trans (hB6.mono hB5.size)
    refine ok_bnd.2 (ok_mono (field_spec a 40 4 ha (by decide) (by decide) _) ?_)
    rintro r7 w7 ⟨rfl, hB7⟩
    have hB7 := hB6.trans (hB7.mono hB6.size)
    refine ok_bnd.2 (ok_mono (field_spec a 44 1 ha (by decide) (by decide) _) ?_)
    rintro r8 w8 ⟨rfl, hB8⟩
    have hB8 := hB7.trans (hB8.mono hB7.size)
    refine ok_bnd.2 (ok_mono (field_spec a 45 1 ha (by decide) (by decide) _) ?_)
    rintro r9 w9 ⟨rfl, hB9⟩
    have hB9 := hB8.trans (hB9.mono hB8.size)
    have hb9 := has_below hb hB9 (has_lt hb)
    refine ok_bnd.2 (ok_new (h := zh) fun w10 hb10 hB10 hs10 => ?_)
    have hb10' := has_below hb9 hB10 (has_lt hb9)
    refine ok_bnd.2 (ok_wr (h := (a / 2 ^ 0 % 2 ^ 12, IntKind.wrap .u8 (a / 2 ^ 12 % 2 ^ 3), a / 2 ^ 15 % 2 ^ 3, a / 2 ^ 18 % 2 ^ 22, a / 2 ^ 40 % 2 ^ 4, IntKind.wrap .i64 b, (a / 2 ^ 44 % 2 ^ 1) == 1, (a / 2 ^ 45 % 2 ^ 1) == 1)) hb10 fun w11 hb11 hB11 hs11 hk => ?_)
    have e : (a / 2 ^ 0 % 2 ^ 12, IntKind.wrap .u8 (a / 2 ^ 12 % 2 ^ 3), a / 2 ^ 15 % 2 ^ 3, a / 2 ^ 18 % 2 ^ 22, a / 2 ^ 40 % 2 ^ 4, IntKind.wrap .i64 b, (a / 2 ^ 44 % 2 ^ 1) == 1, (a / 2 ^ 45 % 2 ^ 1) == 1) = flds a b := by
      refine Prod.ext ?_ (Prod.ext ?_ (Prod.ext ?_ (Prod.ext ?_ (Prod.ext ?_ (Prod.ext ?_ (Prod.ext ?_ ?_))))))
      · simp [flds]
      · simp only [flds, wrapU8]; omega
      · simp [flds]
      · simp [flds]
      · simp [flds]
      · simp only [flds, wrapI]; omega
      · simp only [flds]; exact eq_dec (by simp)
      · simp only [flds]; exact eq_dec (by simp)
    rw [e] at hb11
    have hbz := hk _ _ (by have := has_lt hb9; omega) hb10'
    refine ok_bnd.2 (ok_lh hb11 (ok_bnd.2 (ok_mono (may_spec _ _) ?_)))
    rintro r12 w12 ⟨rfl, hB12⟩
    have hb12 := has_below hb11 hB12 (has_lt hb11)
    have hbz12 := has_below hbz hB12 (has_lt hbz)
    have hT : Below w.heap.size w w12 := hB.trans ((hB9.mono (by omega)).trans ((hB10.mono (by have := hB9.size; omega)).trans ((hB11.mono (by have := hB9.size; omega)).trans (hB12.mono (by have := hB9.size; omega)))))
    by_cases hm : May (flds a b)
    · refine ok_false (by simp [hm]) (ok_bnd.2 (ok_lh hb12 (ok_bnd.2 (ok_wr (h := flds a b) hbz12 fun w13 hb13 hB13 hs13 hk13 => ?_))))
      refine ok_bnd.2 (ok_lh hb13 (ok_ret.2 ⟨?_, hT.trans hB13⟩))
      unfold unpackS
      rw [if_pos ⟨hc.1, hc.2, hm⟩]
    · refine ok_true (by simp [hm]) (ok_bnd.2 (ok_wr (h := zh) hbz12 fun w13 hb13 hB13 hs13 hk13 => ?_))
      refine ok_bnd.2 (ok_lh hb13 (ok_ret.2 ⟨?_, hT.trans hB13⟩))
      unfold unpackS
      rw [if_neg (fun h => hm h.2.2)]
  · refine ok_true (by rw [shr_eq _ _ _ (by decide)]; simp; omega) (ok_bnd.2 (ok_wr (h := zh) hb fun w13 hb13 hB13 hs13 hk13 => ?_))
    refine ok_bnd.2 (ok_lh hb13 (ok_ret.2 ⟨?_, hB.trans hB13⟩))
    unfold unpackS
    rw [if_neg (fun h => hc ⟨h.1, h.2.1⟩)]
theorem tdiv_nn (a b : Int) (h : 0 ≤ a) : Int.tdiv a b = a / b := Int.tdiv_eq_ediv_of_nonneg h
theorem tmod_nn (a b : Int) (h : 0 ≤ a) : Int.tmod a b = a % b := Int.tmod_eq_emod_of_nonneg h
theorem unpackR_spec (a b : Int) (ha : 0 ≤ a ∧ a < 18446744073709551616) (hb0 : 0 ≤ b ∧ b < 18446744073709551616) (w : World) : Ok (f12_palaverref01_Unpack a b) w fun r w' => r = unpackS a b ∧ Below w.heap.size w w' := by
  unfold f12_palaverref01_Unpack
  refine ok_bnd.2 (ok_new (h := zh) fun w1 hb hB hs => ?_)
  by_cases hc : a < 70368744177664 ∧ b ≤ 65536
  · refine ok_false (by simp; omega) ?_
    have hb9 := hb
    refine ok_bnd.2 (ok_new (h := zh) fun w10 hb10 hB10 hs10 => ?_)
    have hb10' := has_below hb9 hB10 (has_lt hb9)
    have e : (IntKind.wrap .i64 (Int.tmod a (4096 : Int)), IntKind.wrap .u8 (Int.tmod (IntKind.wrap .u64 (Int.tdiv a (4096 : Int))) (8 : Int)), IntKind.wrap .i64 (Int.tmod (IntKind.wrap .u64 (Int.tdiv a (32768 : Int))) (8 : Int)), IntKind.wrap .i64 (Int.tmod (IntKind.wrap .u64 (Int.tdiv a (262144 : Int))) (4194304 : Int)), IntKind.wrap .i64 (Int.tmod (IntKind.wrap .u64 (Int.tdiv a (1099511627776 : Int))) (16 : Int)), IntKind.wrap .i64 b, ((Int.tmod (IntKind.wrap .u64 (Int.tdiv a (17592186044416 : Int))) (2 : Int)) == (1 : Int)), ((IntKind.wrap .u64 (Int.tdiv a (35184372088832 : Int))) == (1 : Int))) = flds a b := by
      have w2 : ∀ d : Int, 0 < d → IntKind.wrap .u64 (a / d) = a / d := fun d hd => by
        have h0 : 0 ≤ a / d := Int.ediv_nonneg ha.1 (Int.le_of_lt hd)
        have h5 : a / d ≤ a := Int.ediv_le_self _ ha.1
        rw [wrapU]; omega
      have n2 : ∀ d : Int, 0 < d → 0 ≤ a / d := fun d hd => Int.ediv_nonneg ha.1 (Int.le_of_lt hd)
      rw [tdiv_nn _ _ ha.1, tdiv_nn _ _ ha.1, tdiv_nn _ _ ha.1, tdiv_nn _ _ ha.1, tdiv_nn _ _ ha.1, tdiv_nn _ _ ha.1, w2 _ (by decide), w2 _ (by decide), w2 _ (by decide), w2 _ (by decide), w2 _ (by decide), w2 _ (by decide),
        tmod_nn _ _ ha.1, tmod_nn _ _ (n2 _ (by decide)), tmod_nn _ _ (n2 _ (by decide)), tmod_nn _ _ (n2 _ (by decide)), tmod_nn _ _ (n2 _ (by decide)), tmod_nn _ _ (n2 _ (by decide))]
      refine Prod.ext ?_ (Prod.ext ?_ (Prod.ext ?_ (Prod.ext ?_ (Prod.ext ?_ (Prod.ext ?_ (Prod.ext ?_ ?_))))))
      · simp only [flds, wrapI]; omega
      · simp only [flds, wrapU8]; omega
      · simp only [flds, wrapI]; omega
      · simp only [flds, wrapI]; omega
      · simp only [flds, wrapI]; omega
      · simp only [flds, wrapI]; omega
      · simp only [flds]; exact eq_dec (by simp)
      · simp only [flds]; exact eq_dec (by simp; omega)
    refine ok_bnd.2 (ok_wr (h := (IntKind.wrap .i64 (Int.tmod a (4096 : Int)), IntKind.wrap .u8 (Int.tmod (IntKind.wrap .u64 (Int.tdiv a (4096 : Int))) (8 : Int)), IntKind.wrap .i64 (Int.tmod (IntKind.wrap .u64 (Int.tdiv a (32768 : Int))) (8 : Int)), IntKind.wrap .i64 (Int.tmod (IntKind.wrap .u64 (Int.tdiv a (262144 : Int))) (4194304 : Int)), IntKind.wrap .i64 (Int.tmod (IntKind.wrap .u64 (Int.tdiv a (1099511627776 : Int))) (16 : Int)), IntKind.wrap .i64 b, ((Int.tmod (IntKind.wrap .u64 (Int.tdiv a (17592186044416 : Int))) (2 : Int)) == (1 : Int)), ((IntKind.wrap .u64 (Int.tdiv a (35184372088832 : Int))) == (1 : Int)))) hb10 fun w11 hb11 hB11 hs11 hk => ?_)
    rw [e] at hb11
    have hbz := hk _ _ (by have := has_lt hb9; omega) hb10'
    refine ok_bnd.2 (ok_lh hb11 (ok_bnd.2 (ok_mono (mayR_spec _ _) ?_)))
    rintro r12 w12 ⟨rfl, hB12⟩
    have hb12 := has_below hb11 hB12 (has_lt hb11)
    have hbz12 := has_below hbz hB12 (has_lt hbz)
    have hT : Below w.heap.size w w12 := hB.trans ((hB10.mono (by omega)).trans ((hB11.mono (by omega)).trans (hB12.mono (by omega))))
    by_cases hm : May (flds a b)
    · refine ok_false (by simp [hm]) (ok_bnd.2 (ok_lh hb12 (ok_bnd.2 (ok_wr (h := flds a b) hbz12 fun w13 hb13 hB13 hs13 hk13 => ?_))))
      refine ok_bnd.2 (ok_lh hb13 (ok_ret.2 ⟨?_, hT.trans hB13⟩))
      unfold unpackS
      rw [if_pos ⟨hc.1, hc.2, hm⟩]
    · refine ok_true (by simp [hm]) (ok_bnd.2 (ok_wr (h := zh) hbz12 fun w13 hb13 hB13 hs13 hk13 => ?_))
      refine ok_bnd.2 (ok_lh hb13 (ok_ret.2 ⟨?_, hT.trans hB13⟩))
      unfold unpackS
      rw [if_neg (fun h => hm h.2.2)]
  · refine ok_true (by simp; omega) (ok_bnd.2 (ok_wr (h := zh) hb fun w13 hb13 hB13 hs13 hk13 => ?_))
    refine ok_bnd.2 (ok_lh hb13 (ok_ret.2 ⟨?_, hB.trans hB13⟩))
    unfold unpackS
    rw [if_neg (fun h => hc ⟨h.1, h.2.1⟩)]
end Go.Proofs.Ytaanmpphkbbllaa
