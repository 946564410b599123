/-
  Parts of the proof: L17, L18, L19. It states what the functions do; no further condition.
-/
import Derived.Test.YtoekfjgikicclaaShS
import Derived.Test.YtoekfjgikicclaaL16
set_option linter.unusedVariables false
set_option linter.unusedSimpArgs false
/-
  Large integers as numbers: the one shortest way to write each. No program in sight.
-/
namespace Go.Sh
set_option linter.unusedVariables false
abbrev Lg : Type := Bool × ByteArray
abbrev db (n : Nat) : List Int := dgs 256 n
theorem h256 : 2 ≤ 256 := by decide
/-- A number without its sign, and with it. -/
def nv (a : Lg) : Nat := (vl 256 (bl a.2)).toNat
def sv (s : Bool) (n : Nat) : Int := if s then -(n : Int) else n
def iv (a : Lg) : Int := sv a.1 (nv a)
/-- How a number is written. -/
def lgN (s : Bool) (n : Nat) : Lg := (s && decide (n ≠ 0), mkB (db n))
def lg (z : Int) : Lg := lgN (decide (z < 0)) z.natAbs
def zr : Lg := (false, ByteArray.mk #[])
/-- May it be? -/
def ck (a : Lg) : Int := if 4096 < a.2.size then 92 else if a.2.size = 0 then (if a.1 then 1 else 0) else if (bl a.2)[a.2.size - 1]? = some 0 then 1 else 0
def tooBig (n : Nat) : Prop := 4096 < (db n).length
instance (n : Nat) : Decidable (tooBig n) := inferInstanceAs (Decidable (4096 < (db n).length))
/-- A number told, unless it has too many digits. -/
def toldZ (z : Int) : Lg × Int := if tooBig z.natAbs then (zr, 92) else (lg z, 0)
theorem lgN_sv (s : Bool) (n : Nat) : lgN s n = lg (sv s n) := by
  unfold lg lgN sv
  cases s
  · have : ¬ (n : Int) < 0 := by omega
    simp [this]
  · by_cases hn : n = 0
    · subst hn; simp
    · have : -(n : Int) < 0 := by omega
      simp [hn, this]
      omega
theorem sv_natAbs (s : Bool) (n : Nat) : (sv s n).natAbs = n := by unfold sv; split <;> omega
theorem nv_lgN (s : Bool) (n : Nat) : nv (lgN s n) = n := by
  unfold nv lgN
  rw [bl_mkB (dg_dgs h256 n)]
  have := vl_dgs h256 n
  have e : vl 256 (db n) = (n : Int) := this
  rw [e, Int.toNat_natCast]
theorem iv_lg (z : Int) : iv (lg z) = z := by
  unfold iv lg
  rw [nv_lgN]
  unfold lgN sv
  by_cases h : z < 0
  · have : z.natAbs ≠ 0 := by omega
    simp only [h, decide_true, this, ne_eq, not_false_eq_true, Bool.and_self, if_true]; omega
  · simp only [h, decide_false, Bool.false_and, Bool.false_eq_true, if_false]; omega
theorem lg_inj {x y : Int} (h : lg x = lg y) : x = y := by rw [← iv_lg x, ← iv_lg y, h]
theorem lg_eq {x y : Int} : lg x = lg y ↔ x = y := ⟨lg_inj, fun h => by rw [h]⟩
theorem nv_lg (z : Int) : nv (lg z) = z.natAbs := nv_lgN _ _
theorem natAbs_iv (a : Lg) : (iv a).natAbs = nv a := sv_natAbs _ _
theorem lg_zero : lg 0 = zr := by unfold lg lgN zr; simp [db, dgs_zero, mkB_nil]
theorem lg_size (z : Int) : (lg z).2.size = (db z.natAbs).length := mkB_size _
theorem bl_lg (z : Int) : bl (lg z).2 = db z.natAbs := bl_mkB (dg_dgs h256 _)
theorem lg_neg (z : Int) : (lg z).1 = decide (z < 0) := by
  unfold lg lgN
  by_cases h : z < 0
  · have : z.natAbs ≠ 0 := by omega
    simp [h, this]
  · simp [h]
theorem db_zero {n : Nat} : (db n).length = 0 ↔ n = 0 := by
  constructor
  · intro h
    have := pow_len h256 (n := n) (i := 0) (by unfold db at h; omega)
    rwa [Nat.pow_zero, Nat.div_one] at this
  · rintro rfl; unfold db; rw [dgs_zero]; rfl
theorem lg_empty (z : Int) : (lg z).2.size = 0 ↔ z = 0 := by rw [lg_size, db_zero]; omega
theorem lg_mk (z : Int) : (lg z).2 = ByteArray.mk #[] ↔ z = 0 := by
  constructor
  · intro h; rw [← lg_empty, h]; rfl
  · rintro rfl; rw [lg_zero]; rfl
theorem cn_bl {a : Lg} (h : (bl a.2)[a.2.size - 1]? ≠ some 0) : Cn (bl a.2) := by
  unfold Cn
  rw [List.getLast?_eq_getElem?, bl_length]; exact h
/-- What may be is written the one way. -/
theorem ck_lg {a : Lg} (h : ck a = 0) : a = lg (iv a) ∧ a.2.size ≤ 4096 ∧ ¬ tooBig (nv a) := by
  unfold ck at h
  split at h
  · cases h
  rename_i h1
  have hc : Cn (bl a.2) ∧ (nv a = 0 → a.1 = false) := by
    split at h
    · rename_i h2
      have h3 := size_zero h2
      split at h
      · cases h
      · rename_i h4
        refine ⟨by rw [h3, bl_nil]; simp [Cn], fun _ => by simpa using h4⟩
    · split at h
      · cases h
      · rename_i h2 h3
        refine ⟨cn_bl h3, fun h4 => ?_⟩
        have h5 := dgs_vl h256 (dg_bl a.2) (cn_bl h3)
        have h6 : dgs 256 (nv a) = bl a.2 := h5
        rw [h4, dgs_zero] at h6
        have := bl_length a.2
        rw [← h6] at this
        exact absurd this.symm h2
  have h5 : dgs 256 (nv a) = bl a.2 := dgs_vl h256 (dg_bl a.2) hc.1
  have e2 : a.2 = mkB (db (nv a)) := by unfold db; rw [h5, mkB_bl]
  refine ⟨?_, by omega, ?_⟩
  · unfold iv
    rw [← lgN_sv]
    unfold lgN
    rw [← e2]
    by_cases hn : nv a = 0
    · rw [hn, hc.2 hn]; exact Prod.ext (hc.2 hn) rfl
    · simp [hn]
  · unfold tooBig db; rw [h5, bl_length]; exact h1
theorem lg_ck {z : Int} (h : ¬ tooBig z.natAbs) : ck (lg z) = 0 := by
  unfold ck
  unfold tooBig at h
  rw [lg_size, bl_lg, if_neg h]
  by_cases hz : z = 0
  · subst hz; rw [if_pos (by simp [db, dgs_zero]), lg_zero]; rfl
  · rw [if_neg (by rw [db_zero]; omega), if_neg]
    have := cn_dgs h256 z.natAbs
    unfold Cn at this
    rw [List.getLast?_eq_getElem?] at this
    exact this
theorem ck_iv {a : Lg} (h : ck a = 0) : lg (iv a) = a := (ck_lg h).1.symm
/-- What may be, as a number. -/
theorem ck_ex {a : Lg} (h : ck a = 0) : ∃ z, a = lg z ∧ ¬ tooBig z.natAbs := ⟨iv a, (ck_lg h).1, by rw [natAbs_iv]; exact (ck_lg h).2.2⟩
theorem ck_cases (a : Lg) : ck a = 0 ∨ ck a = 1 ∨ ck a = 92 := by
  unfold ck; split
  · simp
  · split
    · split <;> simp
    · split <;> simp
/-- How many digits there is room for. -/
def Big (k : Nat) : Nat := 256 ^ k
theorem long_iff (n k : Nat) : k < (db n).length ↔ Big k ≤ n := by
  unfold Big
  constructor
  · intro h
    rcases Nat.lt_or_ge n (256 ^ k) with h1 | h1
    · have := dgs_length h256 (n := n) (k := k) h1
      unfold db at h; omega
    · exact h1
  · intro h
    rcases Nat.lt_or_ge k (db n).length with h1 | h1
    · exact h1
    · have h2 := lt_dgs h256 n
      have h3 : 256 ^ (dgs 256 n).length ≤ 256 ^ k := Nat.pow_le_pow_right (by decide) h1
      omega
theorem tooBig_iff (n : Nat) : tooBig n ↔ Big 4096 ≤ n := long_iff n 4096
theorem vl_ge_get {b : Int} (hb : 0 ≤ b) {l : List Int} {i : Nat} {d : Int} (hd : Dg b l) (h : l[i]? = some d) : b ^ i * d ≤ vl b l := by
  have hi : i < l.length := by
    rcases Nat.lt_or_ge i l.length with h' | h'
    · exact h'
    · rw [List.getElem?_eq_none h'] at h; cases h
  have e := Go.Proofs.Ytoekfjgikicclaa.vl_drop_take (b := b) i (Nat.le_of_lt hi)
  rw [List.getElem?_eq_getElem hi, Option.some.injEq] at h
  rw [List.drop_eq_getElem_cons hi, vl_cons, h] at e
  have h1 := vl_nonneg hb (hd.take i)
  have h2 := vl_nonneg hb (hd.drop (i + 1))
  have h3 : 0 ≤ b ^ i * (b * vl b (l.drop (i + 1))) := Int.mul_nonneg (Int.pow_nonneg hb) (Int.mul_nonneg hb h2)
  rw [Int.mul_add] at e
  omega
/-- As many words as the bytes need. -/
theorem words_of {n s : Nat} (hs : (db n).length = s) : (dgs 4294967296 n).length = (s + 3) / 4 := by
  have e4 : (4294967296 : Nat) = 256 ^ 4 := by decide
  have hup : (dgs 4294967296 n).length ≤ (s + 3) / 4 := by
    refine dgs_length (by decide) ?_
    have h1 := lt_dgs h256 n
    rw [show (dgs 256 n).length = s from hs] at h1
    rw [e4, ← Nat.pow_mul]
    exact Nat.lt_of_lt_of_le h1 (Nat.pow_le_pow_right (by decide) (by omega))
  rcases Nat.lt_or_ge (dgs 4294967296 n).length ((s + 3) / 4) with h | h
  · exfalso
    have h1 := lt_dgs (b := 4294967296) (by decide) n
    rw [e4, ← Nat.pow_mul] at h1
    rw [e4] at h
    have h2 := dgs_length h256 h1
    rw [show (dgs 256 n).length = s from hs] at h2
    omega
  · omega
end Go.Sh

namespace Go.Proofs.Ytoekfjgikicclaa
set_option linter.unusedVariables false
open Go.Sh Go.RowKit
set_option maxRecDepth 100000
/-! ### Large integers: what may be; as words, and back -/
theorem und9 : Try.prog.underlying 9 = some .string := by kernel_rfl
theorem und5 : Try.prog.underlying 5 = some (.int .u8) := by kernel_rfl
theorem check_is (a : Lg) : Is (f34_largeint_Check a) (ck a) := by
  intro w
  unfold f34_largeint_Check
  obtain ⟨n, d⟩ := a
  refine ok_newL (Cx.nil No w) fun b w C => ?_
  refine ok_ldA4 C 0 rfl ?_
  unfold ck
  simp only
  by_cases h1 : 4096 < d.size
  · refine ok_true (by simp only [gt_iff_lt, decide_eq_true_eq]; omega) (ok_ret.2 ⟨C.below, by rw [if_pos h1]⟩)
  refine ok_false (by simp only [gt_iff_lt, decide_eq_false_iff_not]; omega) ?_
  rw [if_neg h1]
  refine ok_bnd.2 ?_
  by_cases h2 : d.size = 0
  · refine ok_true (by simp [h2]) ?_
    refine ok_ldA3 C 0 rfl ?_
    rw [if_pos h2]
    cases n
    · exact ok_false rfl (ok_ret.2 (ok_ret.2 ⟨C.below, rfl⟩))
    · exact ok_true rfl (ok_ret.2 (ok_ret.2 ⟨C.below, rfl⟩))
  · refine ok_false (by simp [h2]) ?_
    refine ok_ldA4 C 0 rfl ?_
    rw [if_neg h2]
    have e1 : IntKind.wrap .i64 ((d.size : Int) - 1) = ((d.size - 1 : Nat) : Int) := by rw [wrapI_in (by omega)]; omega
    rw [e1]
    obtain ⟨t, ht⟩ := get_some (l := bl d) (i := d.size - 1) (by rw [bl_length]; omega)
    refine ok_ixB (by omega) (by rw [Int.toNat_natCast]; exact ht) ?_
    by_cases h3 : t = 0
    · subst h3
      refine ok_true rfl (ok_ret.2 (ok_ret.2 ⟨C.below, ?_⟩))
      rw [if_pos ht]
    · refine ok_false (by simp [h3]) (ok_ret.2 (ok_ret.2 ⟨C.below, ?_⟩))
      rw [if_neg (by rw [ht]; simpa using h3)]
theorem of_spec {a : Lg} (h : a.2 = mkB (db (nv a))) (hs : a.2.size ≤ 1000000) (w : World) : Ok (f49_largeint_of a) w fun r w' => Cx No w w' [.own r.1 (nums .u32 (dw (nv a)))] ∧ r.2 = a.1 := by
  unfold f49_largeint_of
  obtain ⟨n, d⟩ := a
  simp only at h hs ⊢
  refine ok_newL (Cx.nil No w) fun p w1 C => ?_
  refine ok_newL C fun p2 w1 C => ?_
  refine ok_ldA4 C 1 rfl ?_
  have e1 : IntKind.wrap .i64 (Int.tdiv (IntKind.wrap .i64 ((d.size : Int) + 3)) 4) = (((d.size + 3) / 4 : Nat) : Int) := by
    rw [wrapI_in (n := (d.size : Int) + 3) (by omega), Int.tdiv_eq_ediv_of_nonneg (by omega), wrapI_in (by omega)]; omega
  rw [e1]
  refine ok_makeN slt50 C (by omega) (by omega) (by omega) fun v w1 hv ⟨bv, hb⟩ C => ?_
  rw [Int.toNat_natCast] at C hv
  refine ok_ldA4 C 2 rfl ?_
  have hbl : bl d = db (nv (n, d)) := (congrArg bl h).trans (bl_mkB (dg_dgs h256 _))
  have hdl := dg_bl d
  have hlen := bl_length d
  refine ok_loop (fun (q : Int) w' => ∃ out, Cx No w w' [.own v (nums .u32 out), .cells p2 [.slice none 0 0, .bool false], .cells p [.bool n, .string d]] ∧ out.length = (d.size + 3) / 4 ∧ DW out ∧ ∃ i : Nat, q = i ∧ i ≤ d.size ∧ vl (BW : Int) out = vl 256 ((bl d).take i))
    (fun q _ => (d.size - q).toNat) ?_ _ _ ⟨_, C, by simp, Dg.zeros (by decide) _, 0, rfl, Nat.zero_le _, by rw [vl_zeros, List.take_zero, vl_nil]⟩
  rintro q w3 ⟨out, C, hl, hd, i, rfl, hi, hv1⟩
  by_cases hlt : i < d.size
  · refine ok_true (by simp only [decide_eq_true_eq]; omega) ?_
    refine ok_bnd.2 ?_
    refine ok_ordL C fun o w4 C => ?_
    have e2 : IntKind.wrap .i64 (Int.tdiv (i : Int) 4) = ((i / 4 : Nat) : Int) := by
      rw [Int.tdiv_eq_ediv_of_nonneg (by omega), wrapI_in (by omega)]; omega
    have e3 : IntKind.wrap .i64 (8 * (Int.tmod (i : Int) 4)) = ((8 * (i % 4) : Nat) : Int) := by
      rw [Int.tmod_eq_emod_of_nonneg (by omega), wrapI_in (by omega)]; omega
    rw [e2, e3]
    obtain ⟨t, ht⟩ := get_some (l := out) (i := i / 4) (by omega)
    have wt := hd.get ht
    refine ok_ixO hb (by omega) (by omega) ?_
    rw [Int.toNat_natCast]
    refine ok_ldO C (i := 0) rfl hb ht ?_
    refine ok_ldA4 C 2 rfl ?_
    obtain ⟨x, hx⟩ := get_some (l := bl d) (i := i) (by omega)
    have wx := hdl.get hx
    refine ok_ixB (by omega) (by rw [Int.toNat_natCast]; exact hx) ?_
    refine ok_bnd.2 (ok_cnt.2 ⟨by omega, ?_⟩)
    rw [Int.toNat_natCast]
    refine ok_ixO hb (by omega) (by omega) ?_
    rw [Int.toNat_natCast]
    -- the word holds fewer bytes yet
    have hge := vl_ge_get (b := (BW : Int)) (by decide) hd ht
    have hvl := vl_lt (b := 256) (by decide) (hdl.take i)
    rw [List.length_take, Nat.min_eq_left (by omega), ← hv1] at hvl
    have ep : (256 : Int) ^ i = (BW : Int) ^ (i / 4) * 256 ^ (i % 4) := by
      have : ((BW : Nat) : Int) = 256 ^ 4 := by decide
      rw [this, ← Int.pow_mul, ← Int.pow_add, Nat.div_add_mod]
    have hP : (0 : Int) < (BW : Int) ^ (i / 4) := Int.pow_pos (by decide)
    have htp : t < 256 ^ (i % 4) := by
      rw [ep] at hvl
      exact Int.lt_of_mul_lt_mul_left (Int.lt_of_le_of_lt hge hvl) (by omega)
    have e256 : (256 : Int) ^ (i % 4) = 2 ^ (8 * (i % 4)) := by
      rw [Int.pow_mul]; rfl
    have hle3 : (2 : Int) ^ (8 * (i % 4)) ≤ 16777216 := by
      have : i % 4 = 0 ∨ i % 4 = 1 ∨ i % 4 = 2 ∨ i % 4 = 3 := by omega
      rcases this with h | h | h | h <;> rw [h] <;> decide
    have hp0 : (0 : Int) < 2 ^ (8 * (i % 4)) := Int.pow_pos (by decide)
    have hxp : x * 2 ^ (8 * (i % 4)) ≤ 255 * 2 ^ (8 * (i % 4)) := Int.mul_le_mul_of_nonneg_right (by omega) (by omega)
    have hxp0 : 0 ≤ x * 2 ^ (8 * (i % 4)) := Int.mul_nonneg wx.1 (by omega)
    rw [e256] at htp
    have esh : shlI .u32 (IntKind.wrap .u32 x) (8 * (i % 4)) = x * 2 ^ (8 * (i % 4)) := by
      rw [wrapU32_in ⟨wx.1, by omega⟩]
      unfold shlI
      rw [show IntKind.bits .u32 = 32 from rfl, Nat.min_eq_left (by omega), wrapU32_in ⟨hxp0, by omega⟩]
    rw [esh, bOr32_add ⟨wt.1, htp⟩ wx.1 (by omega)]
    refine ok_wrO C (i := 0) rfl hb (by omega) fun w5 C5 => ok_ret.2 (ok_ret.2 ⟨⟨_, C5, by simp [hl], hd.set _ (by omega) (by show _ < (4294967296 : Int); omega), i + 1, ?_, hlt, ?_⟩, ?_⟩)
    · rw [wrapI_in (by omega)]; simp
    · rw [vl_set ht, vl_take_succ hx, hv1, ep, e256]
      grind
    · rw [wrapI_in (by omega)]; omega
  · have hie : i = d.size := by omega
    subst hie
    refine ok_false (by simp only [decide_eq_false_iff_not]; omega) ?_
    refine ok_bnd.2 (ok_ldA3 C 2 rfl ?_)
    refine ok_wrN1 C 1 rfl fun w4 C => ?_
    refine ok_bnd.2 (ok_mono (Q := fun r w' => w' = w4 ∧ r = (v, n)) ?_ ?_)
    · have h0 := ok_ldN1 C 1 (s := v) (n := n) (f := fun v16 => ret v16) (Q := fun r w' => w' = w4 ∧ r = (v, n)) rfl (ok_ret.2 ⟨rfl, rfl⟩)
      obtain ⟨x, w', h1, h2⟩ := h0
      obtain ⟨y, w1, h3, h4⟩ := bnd_some.1 h1
      obtain ⟨rfl, rfl⟩ := ret_some.1 h4
      exact ⟨_, _, h3, h2⟩
    rintro _ w5 ⟨rfl, rfl⟩
    refine ok_ret.2 (ok_ret.2 ⟨?_, rfl⟩)
    rw [List.take_of_length_le (by omega)] at hv1
    have hval : vl (BW : Int) out = ((nv (n, d) : Nat) : Int) := by
      rw [hv1]; unfold nv; rw [Int.toNat_of_nonneg (vl_nonneg (by decide) hdl)]
    have hcn : out = dw (nv (n, d)) := by
      refine vl_inj (b := (BW : Int)) (by decide) hd (dw_dg _) ?_ ?_
      · rw [hl]
        have := words_of (n := nv (n, d)) (s := d.size) (by rw [← hbl, hlen])
        exact this.symm
      · rw [hval]; exact (vw_dw _).symm
    rw [← hcn]
    exact (C.pick [0] (by simp))
end Go.Proofs.Ytoekfjgikicclaa

namespace Go.Proofs.Ytoekfjgikicclaa
set_option linter.unusedVariables false
open Go.Sh Go.RowKit
set_option maxRecDepth 100000
/-! ### Words as a large integer -/
theorem arr_back {B : Nat} {w w' : World} {s : Sl} {xs : List Value} (h : Arr B w' s xs) (k : Below B w w') : Arr B w s xs := by
  obtain ⟨h1, h2, h3, h4⟩ := h
  refine ⟨h1, h2, h3, h4.imp id ?_⟩
  rintro ⟨b, o, c, h5, h6, h7, h8⟩
  exact ⟨b, o, c, h5, h6, (Go.Sh.Below.blk k h6).symm.trans h7, h8⟩
theorem shr_nat (x k : Nat) (hk : k ≤ 32) : shrI .u32 (x : Int) k = ((x / 2 ^ k : Nat) : Int) := by
  rw [shr_eq .u32 _ k hk, Int.natCast_ediv, Int.natCast_pow]; rfl
theorem wrap8 (x : Nat) : IntKind.wrap .u8 (x : Int) = ((x % 256 : Nat) : Int) := by rw [wrapU8]; omega
theorem vl4 (x : Nat) (hx : x < 4294967296) : vl 256 [((x % 256 : Nat) : Int), ((x / 2 ^ 8 % 256 : Nat) : Int), ((x / 2 ^ 16 % 256 : Nat) : Int), ((x / 2 ^ 24 % 256 : Nat) : Int)] = x := by
  simp only [vl]
  omega
theorem ret_pair {α β : Type} {m : M α} {w : World} {P : α → World → Prop} (h : Ok (bnd m fun v => ret v) w P) : Ok m w P := by
  obtain ⟨x, w', h1, h2⟩ := h
  obtain ⟨y, w1, h3, h4⟩ := bnd_some.1 h1
  obtain ⟨rfl, rfl⟩ := ret_some.1 h4
  exact ⟨_, _, h3, h2⟩
theorem large_spec {B : Nat} {w : World} {s : Sl} {l : List Int} (H : Arr B w s (nums .u32 l)) (hd : DW l) (ls : s.len ≤ 1000000) (neg : Bool) :
    Ok (f54_largeint_large s neg) w fun r w' => Below w.heap.size w w' ∧ r = lgN neg (vw l).toNat := by
  unfold f54_largeint_large
  have hml : maxLen = 9223372036854775807 := by decide
  refine ok_newL (Cx.nil No w) fun p w1 C => ?_
  refine ok_bnd.2 (ok_mono (trim_spec (arr_below (arr_size H) C.below) hd) ?_)
  rintro x w2 ⟨rfl, hx, hxl⟩
  generalize (vw l).toNat = n at *
  have hx0 : NN w.heap.size w x n := arr_back hx C.below
  have ex := hx.len
  have e1 : IntKind.wrap .i64 (4 * (x.len : Int)) = 4 * (x.len : Int) := wrapI_in (by omega)
  rw [e1]
  refine ok_makeC slt61 C (by omega) (by omega) (by omega) fun v w1 hv C => ?_
  refine ok_loop (fun (q : Sl × Int) w' => ∃ bs, Cx No w w' [.own q.1 (nums .u8 bs), .cells p [.bool false, .string (ByteArray.mk #[])]] ∧ Dg 256 bs ∧ ∃ i : Nat, q.2 = i ∧ i ≤ (dw n).length ∧ q.1.len = 4 * i ∧ vl 256 bs = vl (BW : Int) ((dw n).take i) ∧ bs.length = 4 * i)
    (fun q _ => ((dw n).length - q.2).toNat) ?_ _ _ ⟨_, C, Dg.nil, 0, rfl, Nat.zero_le _, hv, rfl, rfl⟩
  clear C hv
  rintro ⟨d, q⟩ w3 ⟨bs, C, hdb, i, rfl, hi, hdl, hv1, hbl⟩
  simp only at C hdl ⊢
  by_cases hlt : i < (dw n).length
  · refine ok_true (by simp only [decide_eq_true_eq]; omega) ?_
    obtain ⟨t, ht⟩ := get_some hlt
    have wt := (dw_dg n).get ht
    refine ok_get (C.old hx0) (by omega) (n := t) (by rw [Int.toNat_natCast]; exact ht) ?_
    obtain ⟨T, rfl⟩ := Int.eq_ofNat_of_zero_le wt.1
    have hT : T < 4294967296 := by have h9 : (T : Int) < 4294967296 := wt.2; omega
    rw [shr_nat T 8 (by decide), shr_nat T 16 (by decide), shr_nat T 24 (by decide), wrap8, wrap8, wrap8, wrap8]
    refine ok_bnd.2 (ok_buildL4 slt61 _ _ _ _ rfl rfl rfl rfl ?_)
    have C1 := C.buildN (e := 5) (vs := nums .u8 [((T % 256 : Nat) : Int), ((T / 2 ^ 8 % 256 : Nat) : Int), ((T / 2 ^ 16 % 256 : Nat) : Int), ((T / 2 ^ 24 % 256 : Nat) : Int)]) 4 rfl (by decide)
    refine ok_appendO slt61 C1 (i := 1) (s := d) rfl (nums_one bs) (arr_src slt61.under (C1.arr (i := 0) rfl) (nums_one _)) (show (d.len + 4) * 1 ≤ 140737488355328 by omega) (show d.len + 4 ≤ maxLen by omega) fun r w' C2 hr => ok_ret.2 ⟨⟨bs ++ [((T % 256 : Nat) : Int), ((T / 2 ^ 8 % 256 : Nat) : Int), ((T / 2 ^ 16 % 256 : Nat) : Int), ((T / 2 ^ 24 % 256 : Nat) : Int)], ?_, hdb.append ?_, i + 1, ?_, hlt, ?_, ?_, ?_⟩, ?_⟩
    · rw [← List.map_append] at C2
      exact C2.pick [1, 2] (by simp)
    · exact Dg.cons (Dg.cons (Dg.cons (Dg.cons Dg.nil (by omega) (by omega)) (by omega) (by omega)) (by omega) (by omega)) (by omega) (by omega)
    · show IntKind.wrap .i64 ((i : Int) + 1) = _
      rw [wrapI_in (by omega)]; simp
    · show r.len = _
      simp only at hr; omega
    · rw [vl_append, vl4 T hT, hv1, vl_take_succ ht, hbl, Int.pow_mul]; rfl
    · simp [hbl]; omega
    · show (_ - IntKind.wrap .i64 ((i : Int) + 1)).toNat < _
      rw [wrapI_in (by omega)]; omega
  · have hie : i = (dw n).length := by omega
    subst hie
    refine ok_false (by simp only [decide_eq_false_iff_not]; omega) ?_
    rw [List.take_of_length_le (Nat.le_refl _)] at hv1
    have hn : vl 256 bs = n := by rw [hv1]; exact vw_dw n
    refine ok_bnd.2 (ok_trimB (K := fun s9 => _) (C.arr (i := 0) (xs := nums .u8 bs) rfl) fun t ht htl ha hc => ?_)
    have htd : trimL bs = db n := by
      have := dgs_trim h256 hdb
      have e : (vl ((256 : Nat) : Int) bs).toNat = n := by rw [show (((256 : Nat) : Int)) = 256 from rfl, hn, Int.toNat_natCast]
      rw [e] at this; exact this
    rw [htd] at ht
    refine ok_bnd.2 (ok_toStr slt61.under und5 und9 ht (dg_dgs h256 n) ?_)
    refine ok_wrA1 C 1 rfl fun w4 C => ?_
    refine ok_ldA2 C 1 rfl (ok_ret.2 (ok_ret.2 ⟨_, rfl, ok_ret.2 ⟨C.below, ?_⟩⟩))
    unfold lgN
    have et : t.len = (db n).length := by have := ht.1; simpa using this
    have : decide ((t.len : Int) > 0) = decide (n ≠ 0) := by
      rw [decide_eq_decide]
      have := db_zero (n := n)
      omega
    rw [this]
    cases neg <;> rfl
end Go.Proofs.Ytoekfjgikicclaa
