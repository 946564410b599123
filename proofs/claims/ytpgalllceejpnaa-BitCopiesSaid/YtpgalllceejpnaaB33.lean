/-
  Part of the proof: B33
-/
import Derived.Test.YtpgalllceejpnaaB32
set_option linter.unusedSimpArgs false
set_option linter.unusedVariables false
namespace Go.Proofs.Ytpgalllceejpnaa
set_option linter.unusedVariables false
open Go.Sh Go.RowKit
set_option maxRecDepth 100000
/-! ### The reference: the halftone; what is left -/
/-- A pixel's of the halftone. -/
noncomputable def toneP (f : Form) (tl : List Int) (x y : Int) : Int := if tl = [] then onesF f.2.2.1 else bAnd .u32 (shrI .u32 (toneF tl y) (plc f x y).2.toNat) (onesF f.2.2.1)
theorem tone_spec (f : Form) (b : Blit) (tl : List Int) (x y : Int) (w : World) (hs : Sized f) (hi : Inside f x y) (H : Arr w.heap.size w (tone b) (wds tl)) : Ok (f58_palaverref11_tone b f.2.2.1 x y) w fun r w' => r = toneP f tl x y ∧ Below w.heap.size w w' := by
  unfold f58_palaverref11_tone toneP
  have hlen : (tone b).len = tl.length := by have := H.1; simpa using this
  have hy0 := hi.2.1
  have C := Cx.nil No w
  refine ok_newL C fun p1 w1 C => ?_
  refine ok_rdL C 0 rfl (x := tone b) rfl ?_
  by_cases htl : tl = []
  · rw [if_pos htl]
    refine ok_true (by rw [hlen, htl]; rfl) ?_
    refine ok_bnd.2 (ok_mono (all_spec _ hs.1 w1) ?_)
    rintro r w2 ⟨rfl, rfl⟩
    exact ok_ret.2 ⟨rfl, C.below⟩
  have hpos : 0 < tl.length := List.length_pos_iff.2 htl
  rw [if_neg htl]
  refine ok_false (by rw [hlen]; simp; omega) ?_
  refine ok_drawL C fun w2 C => ?_
  refine ok_rdL C 0 rfl (x := tone b) rfl ?_
  refine ok_rdL C 0 rfl (x := tone b) rfl ?_
  refine ok_bnd.2 (ok_nz.2 ⟨by rw [hlen]; omega, ?_⟩)
  have e : Int.tmod y ((tone b).len : Int) = y % tl.length := by rw [Int.tmod_eq_emod_of_nonneg hy0, hlen]
  have hm := Int.emod_nonneg y (show ((tl.length : Int)) ≠ 0 by omega)
  have hm2 := Int.emod_lt_of_pos y (show (0 : Int) < tl.length by omega)
  obtain ⟨v, hv⟩ : ∃ v, tl[(y % tl.length).toNat]? = some v := ⟨_, List.getElem?_eq_getElem (by omega)⟩
  have htf : toneF tl y = v := by unfold toneF; rw [if_neg htl, hv]; rfl
  refine ok_get (C.old H) (i := Int.tmod y ((tone b).len : Int)) (by rw [e]; exact hm) (by rw [e]; exact hv) ?_
  obtain ⟨_, e2, hu0, hu1⟩ := plc_ref hs hi
  rw [e2]
  refine ok_bnd.2 (ok_cnt.2 ⟨hu0, ?_⟩)
  refine ok_bnd.2 (ok_mono (all_spec _ hs.1 w2) ?_)
  rintro r w3 ⟨rfl, rfl⟩
  exact ok_ret.2 ⟨by rw [htf], C.below⟩
theorem toneF_rng {tl : List Int} (h : Wds tl) (y : Int) : 0 ≤ toneF tl y ∧ toneF tl y < 4294967296 := by
  unfold toneF
  split
  · omega
  · cases hh : tl[(y % tl.length).toNat]? with
    | none => simp
    | some v => exact h v (List.mem_of_getElem? hh)
theorem tone_lsb {f : Form} {tl : List Int} {x y : Int} (hs : Sized f) (hi : Inside f x y) (htl : Wds tl) (k : Nat) (hk : k < f.2.2.1.toNat) : (ib (toneP f tl x y)).getLsbD k = (ib (toneF tl y)).getLsbD ((plc f x y).2.toNat + k) := by
  have hdr := dep_rng hs.1
  have hpp := plc_pos (y := y) hs.1 hs.2.1 hi.1 k hk
  unfold toneP
  by_cases h : tl = []
  · rw [if_pos h, ones_lsb hs.1 k (by omega), decide_eq_true hk, h, show toneF [] y = 4294967295 from if_pos rfl, ib_ones, BitVec.getLsbD_allOnes, decide_eq_true hpp.2]
  · rw [if_neg h, bAnd_bi, ib_bi, BitVec.getLsbD_and, shr_lsb (toneF_rng htl y) _ _ (by have := place_rng hs.1 hs.2.1 hi.1; simp only [plc]; omega), ones_lsb hs.1 k (by omega), decide_eq_true hk, Bool.and_true]
/-- How far one has come. -/
def Seen (e : Bool) (X0 Y0 y x : Int) : Prop := e = true ∧ (Y0 < y ∨ (y = Y0 ∧ X0 < x))
instance (e : Bool) (X0 Y0 y x : Int) : Decidable (Seen e X0 Y0 y x) := by unfold Seen; infer_instance
def bw_ (X0 Y0 W H y x : Int) : Int := if Y0 + H ≤ y then W else if x ≤ X0 then W else if x - X0 ≤ W then x - X0 else W
def bh_ (X0 Y0 W H y x : Int) : Int := if Y0 + H ≤ y then H else if x ≤ X0 then y - Y0 else y - Y0 + 1
def boxC (b : Blit) (e : Bool) (X0 Y0 W H SX SY y x : Int) : Blit :=
  (b.1, if Seen e X0 Y0 y x then X0 else 0, if Seen e X0 Y0 y x then Y0 else 0, if Seen e X0 Y0 y x then bw_ X0 Y0 W H y x else 0, if Seen e X0 Y0 y x then bh_ X0 Y0 W H y x else 0, if Seen e X0 Y0 y x then SX else 0, if Seen e X0 Y0 y x then SY else 0,
    b.2.2.2.2.2.2.2.1, b.2.2.2.2.2.2.2.2.1, b.2.2.2.2.2.2.2.2.2.1, b.2.2.2.2.2.2.2.2.2.2.1, b.2.2.2.2.2.2.2.2.2.2.2)
theorem boxC_row (b : Blit) (e : Bool) (X0 Y0 W H SX SY y D : Int) (hX : 0 ≤ X0) (hW : e = true → 1 ≤ W ∧ X0 + W ≤ D ∧ 1 ≤ H) : boxC b e X0 Y0 W H SX SY y D = boxC b e X0 Y0 W H SX SY (y + 1) 0 := by
  cases e with
  | false => simp [boxC, Seen]
  | true =>
    have hW := hW rfl
    have hs : Seen true X0 Y0 y D ↔ Seen true X0 Y0 (y + 1) 0 := by unfold Seen; simp only [true_and]; omega
    unfold boxC
    by_cases h : Seen true X0 Y0 y D
    · have h' := hs.1 h
      simp only [if_pos h, if_pos h']
      have h := h.2
      have e1 : bw_ X0 Y0 W H y D = bw_ X0 Y0 W H (y + 1) 0 := by unfold bw_; repeat' split <;> omega
      have e2 : bh_ X0 Y0 W H y D = bh_ X0 Y0 W H (y + 1) 0 := by unfold bh_; repeat' split <;> omega
      rw [e1, e2]
    · have h' : ¬ Seen true X0 Y0 (y + 1) 0 := fun q => h (hs.2 q)
      simp only [if_neg h, if_neg h']
theorem boxC_skip (b : Blit) (e : Bool) (X0 Y0 W H SX SY y x : Int) (hW : e = true → 1 ≤ W ∧ 1 ≤ H) (h : ¬ (e = true ∧ (X0 ≤ x ∧ x < X0 + W) ∧ (Y0 ≤ y ∧ y < Y0 + H))) : boxC b e X0 Y0 W H SX SY y x = boxC b e X0 Y0 W H SX SY y (x + 1) := by
  cases e with
  | false => simp [boxC, Seen]
  | true =>
    have hW := hW rfl
    simp only [true_and] at h
    have hs : Seen true X0 Y0 y x ↔ Seen true X0 Y0 y (x + 1) := by unfold Seen; simp only [true_and]; omega
    unfold boxC
    by_cases h0 : Seen true X0 Y0 y x
    · have h' := hs.1 h0
      simp only [if_pos h0, if_pos h']
      have h0 := h0.2
      have e1 : bw_ X0 Y0 W H y x = bw_ X0 Y0 W H y (x + 1) := by unfold bw_; repeat' split <;> omega
      have e2 : bh_ X0 Y0 W H y x = bh_ X0 Y0 W H y (x + 1) := by unfold bh_; repeat' split <;> omega
      rw [e1, e2]
    · have h' : ¬ Seen true X0 Y0 y (x + 1) := fun q => h0 (hs.2 q)
      simp only [if_neg h0, if_neg h']
theorem boxC_in (b : Blit) (X0 Y0 W H SX SY y x : Int) (hx : X0 ≤ x ∧ x < X0 + W) (hy : Y0 ≤ y ∧ y < Y0 + H) :
    boxC b true X0 Y0 W H SX SY y (x + 1) = (b.1, X0, Y0, x - X0 + 1, y - Y0 + 1, SX, SY, b.2.2.2.2.2.2.2.1, b.2.2.2.2.2.2.2.2.1, b.2.2.2.2.2.2.2.2.2.1, b.2.2.2.2.2.2.2.2.2.2.1, b.2.2.2.2.2.2.2.2.2.2.2) := by
  have h : Seen true X0 Y0 y (x + 1) := by unfold Seen; refine ⟨rfl, ?_⟩; omega
  unfold boxC
  simp only [if_pos h]
  have e1 : bw_ X0 Y0 W H y (x + 1) = x - X0 + 1 := by unfold bw_; repeat' split <;> omega
  have e2 : bh_ X0 Y0 W H y (x + 1) = y - Y0 + 1 := by unfold bh_; repeat' split <;> omega
  rw [e1, e2]
set_option maxHeartbeats 1000000 in
theorem refclip_spec (d s : Form) (b : Blit) (w : World) : Ok (f26_palaverref11_Clip d s b) w fun r w' =>
    Below w.heap.size w w' ∧ r.2 = errC d s b ∧ (r.2 ≠ 0 → r.1 = zb) ∧ (r.2 = 0 → r.1 = clipS d s b (tone b)) := by
  unfold f26_palaverref11_Clip
  have C := Cx.nil No w
  refine ok_newL C fun p1 w1 C => ok_newL C fun p2 w2 C => ok_newL C fun p3 w3 C => ok_newL C fun p4 w4 C => ?_
  refine ok_rdL0 C 3 rfl (x := d) rfl ?_
  refine ok_rdL0 C 2 rfl (x := s) rfl ?_
  refine ok_rdL0 C 1 rfl (x := b) rfl ?_
  refine ok_callL C (wrong_spec d s b w4) (fun _ _ h => h.2) fun r w5 hr C => ?_
  obtain ⟨rfl, _⟩ := hr
  by_cases he : errC d s b = 0
  rotate_left
  · refine ok_true (by simpa using he) (ok_wrC0 C 0 rfl rfl rfl fun w6 C => ?_)
    dsimp only [List.set] at C
    exact ok_rdL0 C 0 rfl (x := zb) rfl (ok_ret.2 ⟨C.below, rfl, fun _ => rfl, fun h => absurd h he⟩)
  refine ok_false (by simpa using he) ?_
  obtain ⟨gd, gs, hdep, hb⟩ := errC_ok he
  obtain ⟨hr, hf, _⟩ := errB_ok hb
  have hf' := hf
  simp only [nums, List.mem_cons, List.not_mem_nil, or_false, forall_eq_or_imp, forall_eq] at hf'
  obtain ⟨f1, f2, f3, f4, f5, f6, f7, f8, f9, f10⟩ := hf'
  have gw := gd.1.2.1
  have gh := gd.1.2.2.1
  have hli := fun x y => left_iff he x y
  obtain ⟨X, hX⟩ : ∃ X, X = spanX d s b := ⟨_, rfl⟩
  obtain ⟨Y, hY⟩ : ∃ Y, Y = spanY d s b := ⟨_, rfl⟩
  simp only [← hX, ← hY] at hli
  obtain ⟨e, hee⟩ : ∃ e : Bool, e = decide (1 ≤ X.2.2 ∧ 1 ≤ Y.2.2) := ⟨_, rfl⟩
  have het : e = true ↔ (1 ≤ X.2.2 ∧ 1 ≤ Y.2.2) := by rw [hee, decide_eq_true_iff]
  have hin : e = true → (0 ≤ X.1 ∧ X.1 + X.2.2 ≤ d.1 ∧ X.2.1 - X.1 = b.2.2.2.2.2.1 - b.2.1) ∧ (0 ≤ Y.1 ∧ Y.1 + Y.2.2 ≤ d.2.1 ∧ Y.2.1 - Y.1 = b.2.2.2.2.2.2.1 - b.2.2.1) := fun h => by
    obtain ⟨x1, y1⟩ := het.1 h
    have hXi := span_in _ _ _ _ _ d.1 s.1 f1 f3 f5 f7 f9 gd.1.2.1 gs.1.2.1 (show 1 ≤ (spanX d s b).2.2 by rw [← hX]; exact x1)
    have hYi := span_in _ _ _ _ _ d.2.1 s.2.1 f2 f4 f6 f8 f10 gd.1.2.2.1 gs.1.2.2.1 (show 1 ≤ (spanY d s b).2.2 by rw [← hY]; exact y1)
    rw [hX, hY]
    exact ⟨⟨hXi.1, hXi.2.1, hXi.2.2.2.2⟩, ⟨hYi.1, hYi.2.1, hYi.2.2.2.2⟩⟩
  have hXn : 0 ≤ X.1 := by rw [hX]; unfold spanX Gf54_bitblt_span maxI; simp only; repeat' split <;> omega
  have hleft : ∀ x y, Left d s b x y ↔ (e = true ∧ (X.1 ≤ x ∧ x < X.1 + X.2.2) ∧ (Y.1 ≤ y ∧ y < Y.1 + Y.2.2)) := fun x y => by
    rw [hli]
    constructor
    · rintro ⟨h1, h2⟩; exact ⟨het.2 ⟨by omega, by omega⟩, h1, h2⟩
    · rintro ⟨_, h1, h2⟩; exact ⟨h1, h2⟩
  obtain ⟨bx, hbx⟩ : ∃ bx, bx = fun y x => boxC b e X.1 Y.1 X.2.2 Y.2.2 X.2.1 Y.2.1 y x := ⟨_, rfl⟩
  refine ok_rdL0 C 1 rfl (x := b) rfl ?_
  refine ok_newWrL C rfl rfl fun p11 w6 C => ?_
  refine ok_wrL C 0 rfl (by simp) rfl fun w7 C => ?_
  refine ok_wrL C 0 rfl (by simp [spl]) rfl fun w8 C => ?_
  refine ok_wrL C 0 rfl (by simp [spl]) rfl fun w9 C => ?_
  refine ok_wrL C 0 rfl (by simp [spl]) rfl fun w10 C => ?_
  refine ok_wrL C 0 rfl (by simp [spl]) rfl fun w11 C => ?_
  refine ok_wrL C 0 rfl (by simp [spl]) rfl fun w12 C => ?_
  have hz00 : bx 0 0 = (b.1, 0, 0, 0, 0, 0, 0, b.2.2.2.2.2.2.2.1, b.2.2.2.2.2.2.2.2.1, b.2.2.2.2.2.2.2.2.2.1, b.2.2.2.2.2.2.2.2.2.2.1, b.2.2.2.2.2.2.2.2.2.2.2) := by
    rw [hbx]
    have hns : ¬ Seen e X.1 Y.1 0 0 := fun h => by
      have h1 := hin h.1
      have h2 := h.2
      omega
    unfold boxC
    simp only [if_neg hns]
  obtain ⟨L, C, e11, e4, e3, e2, e1⟩ : ∃ L, Cx No w w12 (It.cells p11 (cellsBlit (bx 0 0)) :: L) ∧ L[3]? = some (.cells p1 (cellsForm d)) ∧ L[0]? = some (.cells p4 (cellsBlit zb)) ∧ L[1]? = some (.cells p3 (cellsBlit b)) ∧ L[2]? = some (.cells p2 (cellsForm s)) ∧ True :=
    ⟨[.cells p4 (cellsBlit zb), .cells p3 (cellsBlit b), .cells p2 (cellsForm s), .cells p1 (cellsForm d)], by rw [hz00]; exact C, rfl, rfl, rfl, rfl, trivial⟩
  refine ok_loop (fun (y : Int) w' => 0 ≤ y ∧ y ≤ d.2.1 ∧ Cx No w w' (It.cells p11 (cellsBlit (bx y 0)) :: L)) (fun y _ => (d.2.1 - y).toNat) ?_ _ _ ⟨Int.le_refl _, gh.1, C⟩
  clear C
  rintro y w13 ⟨hy0, hy1, C⟩
  have c1 : ∀ {x : It}, (x :: L)[4]? = some (.cells p1 (cellsForm d)) := e11
  have c2 : ∀ {x : It}, (x :: L)[3]? = some (.cells p2 (cellsForm s)) := e2
  have c3 : ∀ {x : It}, (x :: L)[2]? = some (.cells p3 (cellsBlit b)) := e3
  have c4 : ∀ {x : It}, (x :: L)[1]? = some (.cells p4 (cellsBlit zb)) := e4
  refine ok_rdL C _ c1 (x := d.2.1) rfl ?_
  by_cases hyl : y < d.2.1
  rotate_left
  · refine ok_false (by simpa using hyl) (ok_bnd.2 ?_)
    have hyd : y = d.2.1 := by omega
    refine ok_rdL0 C 0 rfl (x := bx y 0) rfl ?_
    refine ok_wrC0 C 1 c4 rfl rfl fun w14 C => ?_
    have c4' : ((It.cells p11 (cellsBlit (bx y 0)) :: L).set 1 (.cells p4 (cellsBlit (bx y 0))))[1]? = some (.cells p4 (cellsBlit (bx y 0))) := by
      rw [List.getElem?_set, if_pos rfl, if_pos (nth_lt (c4 (x := It.cells p11 (cellsBlit (bx y 0)))))]
    refine ok_rdL0 C 1 c4' (x := bx y 0) rfl (ok_ret.2 (ok_ret.2 ⟨C.below, he.symm, fun h => absurd rfl h, fun _ => ?_⟩))
    show bx y 0 = clipS d s b (tone b)
    rw [hbx]
    unfold clipS
    rw [← hX, ← hY]
    by_cases hz : X.2.2 < 1 ∨ Y.2.2 < 1
    · rw [if_pos hz]
      have hns : ¬ Seen e X.1 Y.1 y 0 := fun h => by have := het.1 h.1; omega
      unfold boxC; simp only [if_neg hns]; rfl
    · rw [if_neg hz]
      have hE : e = true := het.2 ⟨by omega, by omega⟩
      have hi := hin hE
      have hse : Seen e X.1 Y.1 y 0 := ⟨hE, by omega⟩
      unfold boxC; simp only [if_pos hse]
      have q1 : bw_ X.1 Y.1 X.2.2 Y.2.2 y 0 = X.2.2 := by unfold bw_; rw [if_pos (by omega)]
      have q2 : bh_ X.1 Y.1 X.2.2 Y.2.2 y 0 = Y.2.2 := by unfold bh_; rw [if_pos (by omega)]
      rw [q1, q2]; rfl
  refine ok_true (by simpa using hyl) ?_
  refine ok_loop (fun (x : Int) w' => 0 ≤ x ∧ x ≤ d.1 ∧ Cx No w w' (It.cells p11 (cellsBlit (bx y x)) :: L)) (fun x _ => (d.1 - x).toNat) ?_ _ _ ⟨Int.le_refl _, gw.1, C⟩
  clear C
  rintro x w14 ⟨hx0, hx1, C⟩
  refine ok_rdL C _ c1 (x := d.1) rfl ?_
  by_cases hxl : x < d.1
  rotate_left
  · have hxd : x = d.1 := by omega
    refine ok_false (by simpa using hxl) (ok_ret.2 ?_)
    rw [wrapI_in (n := y + 1) (by omega)]
    refine ⟨⟨by omega, by omega, ?_⟩, by omega⟩
    have := boxC_row b e X.1 Y.1 X.2.2 Y.2.2 X.2.1 Y.2.1 y d.1 hXn (fun h => by have h1 := het.1 h; have h2 := hin h; omega)
    have hq : bx y x = bx (y + 1) 0 := by rw [hbx, hxd]; exact this
    rw [← hq]; exact C
  refine ok_true (by simpa using hxl) ?_
  have next : ∀ w', Cx No w w' (It.cells p11 (cellsBlit (bx y (x + 1))) :: L) → (0 ≤ IntKind.wrap .i64 (x + 1) ∧ IntKind.wrap .i64 (x + 1) ≤ d.1 ∧ Cx No w w' (It.cells p11 (cellsBlit (bx y (IntKind.wrap .i64 (x + 1)))) :: L)) ∧ (d.1 - IntKind.wrap .i64 (x + 1)).toNat < (d.1 - x).toNat := fun w' C => by
    rw [wrapI_in (n := x + 1) (by omega)]; exact ⟨⟨by omega, by omega, C⟩, by omega⟩
  refine ok_bnd.2 ?_
  refine ok_rdL0 C _ c1 (x := d) rfl ?_
  refine ok_rdL0 C _ c2 (x := s) rfl ?_
  refine ok_rdL0 C _ c3 (x := b) rfl ?_
  refine ok_callL C (left_spec d s b x y w14 hf ⟨hx0, by omega⟩ ⟨hy0, by omega⟩) (fun _ _ h => h.2) fun r w15 hr C => ?_
  obtain ⟨rfl, _⟩ := hr
  by_cases hL : Left d s b x y
  rotate_left
  · refine ok_true (by simpa using hL) (ok_ret.2 (ok_ret.2 (next _ ?_)))
    have := boxC_skip b e X.1 Y.1 X.2.2 Y.2.2 X.2.1 Y.2.1 y x (fun h => het.1 h) (fun h => hL ((hleft x y).2 h))
    have hq : bx y x = bx y (x + 1) := by rw [hbx]; exact this
    rw [← hq]; exact C
  refine ok_false (by simpa using hL) ?_
  obtain ⟨hE, hlx, hly⟩ := (hleft x y).1 hL
  have hi := hin hE
  have hbin : bx y (x + 1) = (b.1, X.1, Y.1, x - X.1 + 1, y - Y.1 + 1, X.2.1, Y.2.1, b.2.2.2.2.2.2.2.1, b.2.2.2.2.2.2.2.2.1, b.2.2.2.2.2.2.2.2.2.1, b.2.2.2.2.2.2.2.2.2.2.1, b.2.2.2.2.2.2.2.2.2.2.2) := by
    rw [hbx, hE]; exact boxC_in b X.1 Y.1 X.2.2 Y.2.2 X.2.1 Y.2.1 y x hlx hly
  have fin : ∀ {w' : World} (W H : Int), Cx No w w' (It.cells p11 (cellsBlit (b.1, X.1, Y.1, W, H, X.2.1, Y.2.1, b.2.2.2.2.2.2.2.1, b.2.2.2.2.2.2.2.2.1, b.2.2.2.2.2.2.2.2.2.1, b.2.2.2.2.2.2.2.2.2.2.1, b.2.2.2.2.2.2.2.2.2.2.2)) :: L) →
      Ok (bnd (ld (.int .i64) (Addr.add ⟨p11, 0, none⟩ 1)) fun (v27 : Int) => bnd (wrs (Addr.add ⟨p11, 0, none⟩ 3) 0 [.int .i64 (IntKind.wrap .i64 ((IntKind.wrap .i64 (x - v27)) + (1 : Int)))]) fun _ => bnd (ld (.int .i64) (Addr.add ⟨p11, 0, none⟩ 2)) fun (v28 : Int) =>
        bnd (wrs (Addr.add ⟨p11, 0, none⟩ 4) 0 [.int .i64 (IntKind.wrap .i64 ((IntKind.wrap .i64 (y - v28)) + (1 : Int)))]) fun _ => ret ()) w' fun _ w'' => Cx No w w'' (It.cells p11 (cellsBlit (bx y (x + 1))) :: L) := by
    intro w' W H C
    refine ok_rdL C 0 rfl (x := X.1) rfl ?_
    rw [wrapI_in (n := x - X.1) (by omega), wrapI_in (n := x - X.1 + 1) (by omega)]
    refine ok_wrC C 0 (cellsBlit (b.1, X.1, Y.1, x - X.1 + 1, H, X.2.1, Y.2.1, b.2.2.2.2.2.2.2.1, b.2.2.2.2.2.2.2.2.1, b.2.2.2.2.2.2.2.2.2.1, b.2.2.2.2.2.2.2.2.2.2.1, b.2.2.2.2.2.2.2.2.2.2.2)) rfl (by simp [cellsBlit]) rfl rfl fun w1 C => ?_
    dsimp only [List.set] at C
    refine ok_rdL C 0 rfl (x := Y.1) rfl ?_
    rw [wrapI_in (n := y - Y.1) (by omega), wrapI_in (n := y - Y.1 + 1) (by omega)]
    refine ok_wrC C 0 (cellsBlit (bx y (x + 1))) rfl (by simp [cellsBlit]) rfl (by rw [hbin]; rfl) fun w2 C => ?_
    dsimp only [List.set] at C
    exact ok_ret.2 C
  by_cases hs : Seen e X.1 Y.1 y x
  · -- seen
    have hbo : bx y x = (b.1, X.1, Y.1, bw_ X.1 Y.1 X.2.2 Y.2.2 y x, bh_ X.1 Y.1 X.2.2 Y.2.2 y x, X.2.1, Y.2.1, b.2.2.2.2.2.2.2.1, b.2.2.2.2.2.2.2.2.1, b.2.2.2.2.2.2.2.2.2.1, b.2.2.2.2.2.2.2.2.2.2.1, b.2.2.2.2.2.2.2.2.2.2.2) := by
      rw [hbx]; unfold boxC; simp only [if_pos hs]
    have hbw : bw_ X.1 Y.1 X.2.2 Y.2.2 y x ≠ 0 := by
      have hs' := hs.2
      unfold bw_; repeat' split <;> omega
    rw [hbo] at C
    refine ok_rdL C 0 rfl (x := bw_ X.1 Y.1 X.2.2 Y.2.2 y x) rfl ?_
    refine ok_bnd.2 (ok_false (by simpa using hbw) (ok_ret.2 ?_))
    exact ok_mono (fin _ _ C) fun _ w' C => ok_ret.2 (next _ C)
  · have hbo : bx y x = (b.1, 0, 0, 0, 0, 0, 0, b.2.2.2.2.2.2.2.1, b.2.2.2.2.2.2.2.2.1, b.2.2.2.2.2.2.2.2.2.1, b.2.2.2.2.2.2.2.2.2.2.1, b.2.2.2.2.2.2.2.2.2.2.2) := by
      rw [hbx]; unfold boxC; simp only [if_neg hs]
    have hxX : x = X.1 ∧ y = Y.1 := by
      have hs' := hs
      unfold Seen at hs'
      rw [hE] at hs'
      simp only [true_and] at hs'
      omega
    rw [hbo] at C
    unfold Far at f1 f2 f5 f6
    refine ok_rdL C 0 rfl (x := 0) rfl ?_
    refine ok_bnd.2 (ok_true rfl ?_)
    refine ok_wrC C 0 (cellsBlit (b.1, x, 0, 0, 0, 0, 0, b.2.2.2.2.2.2.2.1, b.2.2.2.2.2.2.2.2.1, b.2.2.2.2.2.2.2.2.2.1, b.2.2.2.2.2.2.2.2.2.2.1, b.2.2.2.2.2.2.2.2.2.2.2)) rfl (by simp [cellsBlit]) rfl rfl fun w16 C => ?_
    dsimp only [List.set] at C
    refine ok_wrC C 0 (cellsBlit (b.1, x, y, 0, 0, 0, 0, b.2.2.2.2.2.2.2.1, b.2.2.2.2.2.2.2.2.1, b.2.2.2.2.2.2.2.2.2.1, b.2.2.2.2.2.2.2.2.2.2.1, b.2.2.2.2.2.2.2.2.2.2.2)) rfl (by simp [cellsBlit]) rfl rfl fun w17 C => ?_
    dsimp only [List.set] at C
    refine ok_rdL C _ c3 (x := b.2.2.2.2.2.1) rfl ?_
    refine ok_rdL C _ c3 (x := b.2.1) rfl ?_
    rw [wrapI_in (n := b.2.2.2.2.2.1 + x) (by omega), wrapI_in (n := b.2.2.2.2.2.1 + x - b.2.1) (by omega)]
    refine ok_wrC C 0 (cellsBlit (b.1, x, y, 0, 0, b.2.2.2.2.2.1 + x - b.2.1, 0, b.2.2.2.2.2.2.2.1, b.2.2.2.2.2.2.2.2.1, b.2.2.2.2.2.2.2.2.2.1, b.2.2.2.2.2.2.2.2.2.2.1, b.2.2.2.2.2.2.2.2.2.2.2)) rfl (by simp [cellsBlit]) rfl rfl fun w18 C => ?_
    dsimp only [List.set] at C
    refine ok_rdL C _ c3 (x := b.2.2.2.2.2.2.1) rfl ?_
    refine ok_rdL C _ c3 (x := b.2.2.1) rfl ?_
    rw [wrapI_in (n := b.2.2.2.2.2.2.1 + y) (by omega), wrapI_in (n := b.2.2.2.2.2.2.1 + y - b.2.2.1) (by omega)]
    refine ok_wrC C 0 (cellsBlit (b.1, x, y, 0, 0, b.2.2.2.2.2.1 + x - b.2.1, b.2.2.2.2.2.2.1 + y - b.2.2.1, b.2.2.2.2.2.2.2.1, b.2.2.2.2.2.2.2.2.1, b.2.2.2.2.2.2.2.2.2.1, b.2.2.2.2.2.2.2.2.2.2.1, b.2.2.2.2.2.2.2.2.2.2.2)) rfl (by simp [cellsBlit]) rfl rfl fun w19 C => ?_
    dsimp only [List.set] at C
    refine ok_ret.2 ?_
    have q1 : b.2.2.2.2.2.1 + x - b.2.1 = X.2.1 := by omega
    have q2 : b.2.2.2.2.2.2.1 + y - b.2.2.1 = Y.2.1 := by omega
    rw [q1, q2, hxX.1, hxX.2] at C
    exact ok_mono (fin _ _ C) fun _ w' C => ok_ret.2 (next _ C)
end Go.Proofs.Ytpgalllceejpnaa
