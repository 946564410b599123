/-
  Parts of the proof: FBl, FBm, FBn. It states what the functions do; no further condition.
-/
import Derived.Test.YtckfidopkajpaaaFBk
set_option linter.unusedVariables false
set_option linter.unusedSimpArgs false
/-
  same; works.
-/
namespace Go.Proofs.Ytckfidopkajpaaa
set_option linter.unusedVariables false
open Go.Sh Go.RowKit
set_option maxRecDepth 100000
variable {w : World} {T : Hp} {sb : Nat} {S : Sk} {A : St} {G : Gh}
theorem ok_arrLd {s : Sl} {l : List Int} {i : Nat} {v : Int} {α : Type} {f : Int → M α} {Q : α → World → Prop} (H : Arr w.heap.size w s (nums .i64 l)) (hi : l[i]? = some v) (hq : Ok (f v) w Q) : Ok (bnd (ix 1 s (i : Int)) fun p => bnd (ld (.int .i64) p) f) w Q := by
  obtain ⟨h1, h2, h3, h4⟩ := H
  have hlt := get_lt hi
  simp only [nums, List.length_map] at h1
  rcases h4 with h4 | ⟨b, o, c, h5, h6, h7, h8⟩
  · simp [nums] at h4; subst h4; simp at hlt
  · refine ok_ixP1 h5 (by omega) (by omega) ?_
    refine ok_bnd.2 (ok_ld h7 (rdv_int (n := v) ?_) hq)
    rw [Int.toNat_natCast, h8 i (by simpa [nums] using hlt)]
    simp [nums, hi]
theorem same_spec {x y : Sl} {a b : List Int} (hx : Arr w.heap.size w x (nums .i64 a)) (hy : Arr w.heap.size w y (nums .i64 b)) : Ok (f22_palaverlaw23_same x y) w fun r w' => Below w.heap.size w w' ∧ r = decide (a = b) := by
  unfold f22_palaverlaw23_same
  have e1 : x.len = a.length := by have := hx.1; simpa [nums] using this
  have e2 : y.len = b.length := by have := hy.1; simpa [nums] using this
  by_cases hl : a.length = b.length
  · refine ok_false (by rw [e1, e2, hl]; simp) ?_
    refine ok_loop (fun (s : Int) w' => ∃ i : Nat, s = (i : Int) ∧ i ≤ a.length ∧ Below w.heap.size w w' ∧ a.take i = b.take i) (fun s _ => ((a.length : Int) - s).toNat) ?_ _ _ ⟨0, rfl, Nat.zero_le _, Below.refl _ _, rfl⟩
    rintro s w1 ⟨i, rfl, hi, hB, ht⟩
    have hmx : a.length ≤ 9223372036854775807 := by
      have h2 := hx.2.1; have h3 := hx.2.2.1
      have hml : maxLen = 9223372036854775807 := by decide
      omega
    by_cases hlt : i < a.length
    · refine ok_true (by rw [e1]; simp only [decide_eq_true_eq]; omega) ?_
      refine ok_bnd.2 (ok_drawM.2 ?_)
      have hB' := hB.drew
      have hx' := arr_size (arr_below hx hB')
      have hy' := arr_size (arr_below hy hB')
      refine ok_arrLd hx' (List.getElem?_eq_getElem hlt) ?_
      refine ok_arrLd hy' (List.getElem?_eq_getElem (show i < b.length by omega)) ?_
      by_cases hv : a[i] = b[i]'(by omega)
      · refine ok_false (by simpa using hv) (ok_ret.2 ⟨⟨i + 1, ?_, hlt, hB', ?_⟩, ?_⟩)
        · rw [wrapI_in (by omega)]; simp
        · rw [List.take_add_one, List.take_add_one, ht, List.getElem?_eq_getElem hlt, List.getElem?_eq_getElem (show i < b.length by omega), hv]
        · rw [wrapI_in (by omega)]; omega
      · refine ok_true (by simpa using hv) (ok_ret.2 ⟨hB', ?_⟩)
        rw [eq_comm, decide_eq_false_iff_not]
        rintro rfl; exact hv rfl
    · refine ok_false (by rw [e1]; simp only [decide_eq_false_iff_not]; omega) (ok_ret.2 ⟨hB, ?_⟩)
      rw [List.take_of_length_le (by omega), List.take_of_length_le (by omega)] at ht
      simp [ht]
  · refine ok_true (by rw [e1, e2]; simp; omega) (ok_ret.2 ⟨Below.refl _ _, ?_⟩)
    rw [eq_comm, decide_eq_false_iff_not]
    rintro rfl; exact hl rfl
theorem In.arr {o : Ow} {s : Sl} {l : List Int} (h : In T o s l) (ht : Th en w T) : Arr w.heap.size w s (nums .i64 l) := by
  rcases h.at_ with h0 | ⟨b, L, h1, h2, h3⟩
  · refine ⟨by rw [h0]; simp only [nums, List.map_nil, List.length_nil]; rw [h.len, h0]; rfl, h.le, h.max, .inl (by rw [h0]; rfl)⟩
  · exact arr_of (off := 0) ht h2 (fun _ => h1) (by rw [List.drop_zero]; exact h3) h.len h.le h.max
/-- Numbers laid out, for a moment. -/
theorem away_alloc {w0 : World} {T0 : Hp} (C : Tr en w0 T0 w T) {l : List Int} {e : TypeId} {n : Nat} (hn : n = l.length) (hm : n ≤ maxLen) : Away T (w.alloc (.cells (nums .i64 l).toArray e)) ⟨some ⟨w.heap.size, 0, none⟩, n, n⟩ l := by
  refine ⟨⟨by simp [hn], Nat.le_refl _, hm, .inr ⟨w.heap.size, 0, _, rfl, ?_, by rw [blk_alloc, if_pos rfl], fun i hi => by simp⟩⟩, .inr ⟨w.heap.size, 0, rfl, C.none_at⟩⟩
  show _ < (w.heap.push _).size
  rw [Array.size_push]; omega
theorem tr_below0 {w0 : World} (C : Tr en w0 (fun _ => none) w T) : Below w0.heap.size w0 w :=
  Keep.all (C.keep.mono (S' := No) fun _ _ h => h rfl)
theorem tr_alloc0 {w0 : World} {T0 : Hp} (C : Tr en w0 T0 w T) (c : Array Value) (e : TypeId) : Tr en w0 T0 (w.alloc (.cells c e)) T := C.call ((Below.refl _ _).alloc (Nat.le_refl _) _)
theorem th_none (w : World) : Th en w (fun _ => none) := fun b o h => by cases h
def s0 : St := ⟨16, 9, [], none, [], 0⟩
def s1 : St := ⟨16, 9, [⟨5, [1, 2], [], 3, none, true⟩], some 0, [], 0⟩
def s2 : St := ⟨16, 9, [⟨5, [1, 2], [9], 3, none, true⟩], some 0, [], 0⟩
def s3 : St := ⟨16, 9, [⟨5, [1, 2], [9], 3, none, true⟩], some 0, [0], 0⟩
def s4 : St := ⟨16, 9, [⟨5, [1, 2], [9], 3, none, true⟩, ⟨6, [], [], 0, some 0, true⟩], some 1, [0], 0⟩
def s5 : St := ⟨16, 9, [⟨5, [1, 2], [9], 3, none, true⟩, ⟨6, [], [], 0, some 0, true⟩], some 1, [0, 1], 0⟩
def s6 : St := ⟨16, 9, [⟨5, [1, 2], [9, 4], 3, none, true⟩, ⟨6, [], [], 0, some 0, false⟩], some 0, [0, 1], 0⟩
def s7 : St := ⟨16, 9, [⟨5, [1, 2], [9, 4], 3, none, true⟩, ⟨6, [], [], 0, some 0, false⟩, ⟨2, [], [], 0, some 0, true⟩], some 2, [0, 1], 0⟩
def s8 : St := ⟨16, 9, [⟨5, [1, 2], [9, 4], 3, none, true⟩, ⟨6, [], [], 0, some 0, false⟩, ⟨2, [], [], 0, some 0, true⟩], some 2, [0, 1, 2], 0⟩
def s9 : St := ⟨16, 9, [⟨5, [1, 2], [9, 4], 3, none, true⟩, ⟨6, [], [], 0, some 0, false⟩, ⟨2, [], [], 0, none, true⟩], some 2, [0, 1, 2], 0⟩
def s10 : St := ⟨16, 9, [⟨5, [1, 2], [9, 4], 3, none, true⟩, ⟨6, [], [], 0, some 0, false⟩, ⟨2, [], [], 0, none, false⟩], none, [0, 1, 2], 0⟩
def s11 : St := ⟨16, 9, [⟨5, [1, 2], [9, 4], 3, none, true⟩, ⟨6, [], [], 0, some 0, false⟩, ⟨2, [], [], 0, none, false⟩], some 0, [0, 1, 2], 0⟩
theorem k0 : s0.call 5 [1, 2] 3 = (0, s1) := by kernel_rfl
theorem k1 : s1.push 9 = (0, s2) := by kernel_rfl
theorem k2 : s2.this = (1, s3) := by kernel_rfl
theorem k3 : s3.call 6 [] 0 = (0, s4) := by kernel_rfl
theorem k4 : s4.this = (2, s5) := by kernel_rfl
theorem k5 : s5.senderOf 2 = ((1, 0), s5) := by kernel_rfl
theorem k6 : s5.ret 4 = (0, s6) := by kernel_rfl
theorem k7 : s6.lies 1 = ([9, 4], 0) := by kernel_rfl
theorem k8 : s6.methodOf 2 = (0, 235) := by kernel_rfl
theorem k9 : s6.aliveOf 2 = false := by kernel_rfl
theorem k10 : s6.call 2 [] 0 = (0, s7) := by kernel_rfl
theorem k11 : s7.this = (3, s8) := by kernel_rfl
theorem k12 : s8.setSender 3 0 = (0, s9) := by kernel_rfl
theorem k13 : s9.ret 7 = (235, s10) := by kernel_rfl
theorem k14 : s10.this = (0, s10) := by kernel_rfl
theorem k15 : s10.switch 1 = (0, s11) := by kernel_rfl
theorem k16 : s11.call 1 [0, 0, 0, 0, 0, 0, 0, 0, 0, 0, 0, 0, 0] 0 = (237, s11) := by kernel_rfl
theorem works_spec : Ok f6_palaverlaw23_works w fun r w' => Below w.heap.size w w' ∧ r = true := by
  unfold f6_palaverlaw23_works
  have C := Tr.refl (th_none w)
  refine ok_tcall C (new_spec C.th 1 16 9) ?_
  rintro _ w1 T1 C (⟨h, _⟩ | ⟨_, sb, _, rfl, hs⟩)
  · cases h
  refine ok_false rfl ?_
  refine ok_bnd.2 (ok_buildL2 slt22 _ _ rfl rfl ?_)
  have hw : Away T1 _ _ [1, 2] := away_alloc (l := [1, 2]) (e := 2) C rfl (by decide)
  replace C := tr_alloc0 C [Value.int .i64 1, .int .i64 2].toArray 2
  replace hs : Hs T1 sb s0 := hs
  refine ok_tcall C (call_spec C.th hs 5 hw (by decide) 3 (by decide)) ?_
  rintro r3 w2 T2 C ⟨h3, hs⟩
  rw [k0] at h3 hs
  simp only at h3 hs
  refine ok_tcall C (push_spec C.th hs 9) ?_
  rintro r4 w3 T3 C ⟨h4, hs⟩
  rw [k1] at h4 hs
  simp only at h4 hs
  refine ok_tcall C (this_spec C.th hs (by decide)) ?_
  rintro r5 w4 T4 C ⟨h5, hs⟩
  rw [k2] at h5 hs
  simp only at h5 hs
  refine ok_tcall C (call_spec C.th hs 6 (away_nil _ _) (by decide) 0 (by decide)) ?_
  rintro r6 w5 T5 C ⟨h6, hs⟩
  rw [k3] at h6 hs
  simp only at h6 hs
  refine ok_tcall C (this_spec C.th hs (by decide)) ?_
  rintro r7 w6 T6 C ⟨h7, hs⟩
  rw [k4] at h7 hs
  simp only at h7 hs
  subst h7
  refine ok_tcall C (sender_spec' C.th hs (by decide) 2) ?_
  rintro r8 w7 T7 C ⟨h8, hs⟩
  rw [k5] at h8 hs
  simp only at h8 hs
  refine ok_tcall C (return_spec C.th hs 4) ?_
  rintro r9 w8 T8 C ⟨h9, hs⟩
  rw [k6] at h9 hs
  simp only at h9 hs
  refine ok_tcall C (lies_spec C.th hs 1) ?_
  rintro r10 w9 T9 C ⟨h10, hin, hk⟩
  rw [k7] at h10 hin
  simp only at h10 hin
  replace hs := hs.grow hk
  refine ok_trd C (method_spec C.th hs 2) fun w10 C => ?_
  refine ok_trd C (alive_spec C.th hs 2) fun w11 C => ?_
  refine ok_bnd.2 (ok_buildL2 slt22 _ _ rfl rfl ?_)
  have hw2 : Away T9 _ _ [9, 4] := away_alloc (l := [9, 4]) (e := 2) C rfl (by decide)
  replace C := tr_alloc0 C [Value.int .i64 9, .int .i64 4].toArray 2
  refine ok_bnd.2 (ok_mono (same_spec (hin.arr C.th) hw2.1) ?_)
  rintro r14 w12 ⟨hB, h14⟩
  replace h14 : r14 = true := h14
  replace C := C.call hB
  refine ok_tcall C (call_spec C.th hs 2 (away_nil _ _) (by decide) 0 (by decide)) ?_
  rintro r15 w13 T10 C ⟨h15, hs⟩
  rw [k10] at h15 hs
  simp only at h15 hs
  refine ok_tcall C (this_spec C.th hs (by decide)) ?_
  rintro r16 w14 T11 C ⟨h16, hs⟩
  rw [k11] at h16 hs
  simp only at h16 hs
  subst h16
  refine ok_tcall C (setSender_spec C.th hs 3 0 (fun h => absurd rfl h)) ?_
  rintro r17 w15 T12 C ⟨h17, hs⟩
  rw [k12] at h17 hs
  simp only at h17 hs
  refine ok_tcall C (return_spec C.th hs 7) ?_
  rintro r18 w16 T13 C ⟨h18, hs⟩
  rw [k13] at h18 hs
  simp only at h18 hs
  refine ok_tcall C (this_spec C.th hs (by decide)) ?_
  rintro r19 w17 T14 C ⟨h19, hs⟩
  rw [k14] at h19 hs
  simp only at h19 hs
  refine ok_tcall C (switch_spec C.th hs 1) ?_
  rintro r20 w18 T15 C ⟨h20, hs⟩
  rw [k15] at h20 hs
  simp only at h20 hs
  refine ok_tcall C (new_spec C.th 0 16 9) ?_
  rintro r21 w19 T16 C' (⟨_, rfl, h21⟩ | ⟨h, _⟩)
  rotate_left
  · cases h
  clear C
  have C := C'
  refine ok_bnd.2 (ok_make slt22 (by omega) (by omega) (by omega) (by omega) ?_)
  rw [show List.replicate (13 : Int).toNat (Value.int .i64 0) = nums .i64 [0, 0, 0, 0, 0, 0, 0, 0, 0, 0, 0, 0, 0] from rfl, show (13 : Int).toNat = 13 from rfl]
  have hw3 : Away T16 _ _ [0, 0, 0, 0, 0, 0, 0, 0, 0, 0, 0, 0, 0] := away_alloc (l := [0, 0, 0, 0, 0, 0, 0, 0, 0, 0, 0, 0, 0]) (e := 2) C (n := 13) rfl (by decide)
  replace C := tr_alloc0 C (nums .i64 [0, 0, 0, 0, 0, 0, 0, 0, 0, 0, 0, 0, 0]).toArray 2
  refine ok_tcall C (call_spec C.th hs 1 hw3 (by simp) 0 (by decide)) ?_
  rintro r23 w20 T17 C ⟨h23, hs⟩
  rw [k16] at h23 hs
  simp only at h23 hs
  refine ok_ret.2 ⟨tr_below0 C, ?_⟩
  rw [k8, k9, h3, h4, h5, h6, h8, h9, h10, h14, h17, h18, h19, h20, h21, h23]
  rfl
end Go.Proofs.Ytckfidopkajpaaa

/-
  The law of calls and as many returns, of states alone.
-/
namespace Go.Proofs.Ytckfidopkajpaaa
set_option linter.unusedVariables false
open Go.Sh Go.RowKit
set_option maxRecDepth 100000
variable {A : St} {sl : List Int} {d : Nat} {a : Ac}
def fa (sl : List Int) (i : Nat) : Ac := ⟨i, sl.set (i % sl.length) i, [100 + (i : Int)], 3, if i = 0 then none else some (i - 1), true⟩
/-- The last of so many calls is active. -/
structure Bq (A : St) (sl : List Int) (d : Nat) (a : Ac) : Prop where
  most : A.most = 65536
  act : A.active = some d
  top : A.acts[d]? = some a
  alive : a.alive = true
  at_ : ∀ i, i < d → A.acts[i]? = some (fa sl i)
  liv : A.living = d + 1
theorem Bq.acts (h : Bq A sl d a) : A.act = some (d, a) := St.act_of h.act h.top
theorem Bq.turn (h : Bq A sl d a) {a' : Ac} (ha : a'.alive = true) : Bq (A.turn d a') sl d a' :=
  ⟨h.most, h.act, turn_at h.top, ha, fun i hi => by rw [turn_ne (by omega)]; exact h.at_ i hi, by rw [turn_living h.top (ha.trans h.alive.symm)]; exact h.liv⟩
theorem Bq.push (h : Bq A sl d a) (hr : a.stack.length < a.room) (v : Int) : A.push v = (0, A.turn d { a with stack := a.stack ++ [v] }) := by
  unfold St.push
  rw [h.acts]
  simp only
  rw [if_neg (by omega)]
theorem Bq.pop (h : Bq A sl d a) {l : List Int} {v : Int} (hs : a.stack = l ++ [v]) : A.pop = ((v, 0), A.turn d { a with stack := l }) := by
  unfold St.pop
  rw [h.acts]
  simp only
  rw [hs]
  simp
/-- Calls, none yet or some. -/
structure Fw (A : St) (cells : Nat) (sl : List Int) (d : Nat) : Prop where
  cells : A.cells = cells
  most : A.most = 65536
  len : A.acts.length = d
  at_ : ∀ i, i < d → A.acts[i]? = some (fa sl i)
  act : A.active = if d = 0 then none else some (d - 1)
  liv : A.living = d
theorem Fw.call {cells : Nat} (h : Fw A cells sl d) (hd : d < 1000) (hc : sl.length + 7 ≤ cells) : (A.call d sl 3).1 = 0 ∧ Bq (A.call d sl 3).2 sl d ⟨d, sl, [], 3, if d = 0 then none else some (d - 1), true⟩ ∧ (A.call d sl 3).2.cells = cells ∧ (A.call d sl 3).2.acts.length = d + 1 := by
  have h1 := h.cells
  have e : A.call d sl 3 = (0, { A with acts := A.acts ++ [⟨d, sl, [], (3 : Int).toNat, A.active, true⟩], active := some A.acts.length }) := by
    unfold St.call
    rw [if_neg (by omega), if_neg (by rw [h.liv, h.most]; omega)]
  rw [e]
  have hl := h.len
  refine ⟨rfl, ⟨h.most, by simp only; rw [hl], ?_, rfl, fun i hi => ?_, ?_⟩, h.cells, by simp [hl]⟩
  · simp only
    rw [List.getElem?_append_right (by omega), hl, Nat.sub_self, h.act]; rfl
  · simp only
    rw [List.getElem?_append_left (by omega)]
    exact h.at_ i hi
  · have := h.liv
    unfold St.living at this ⊢
    simp only [List.countP_append, List.countP_singleton]
    simp
    omega
theorem Bq.fw {cells : Nat} (h : Bq A sl d (fa sl d)) (hc : A.cells = cells) (hl : A.acts.length = d + 1) : Fw A cells sl (d + 1) :=
  ⟨hc, h.most, hl, fun i hi => by
    rcases Nat.lt_or_ge i d with h' | h'
    · exact h.at_ i h'
    · have : i = d := by omega
      subst this; exact h.top, by rw [h.act]; simp, h.liv⟩
theorem Fw.bq {cells : Nat} (h : Fw A cells sl (d + 1)) : Bq A sl d (fa sl d) :=
  ⟨h.most, by rw [h.act]; simp, h.at_ d (by omega), rfl, fun i hi => h.at_ i (by omega), h.liv⟩
theorem turn_len {A : St} {k : Nat} {a : Ac} : (A.turn k a).acts.length = A.acts.length := List.length_set
theorem Bq.set (h : Bq A sl d a) (hn : 0 < a.slots.length) {i : Nat} (hi : i < a.slots.length) (v : Int) : A.set i v = (0, A.turn d { a with slots := a.slots.set i v }) := by
  unfold St.set
  rw [h.acts]
  simp only
  rw [if_neg (by omega), Int.toNat_natCast]
theorem Bq.get (h : Bq A sl d a) {i : Nat} {v : Int} (hi : a.slots[i]? = some v) : A.get i = (v, 0) := by
  unfold St.get
  rw [h.acts]
  simp only
  have := get_lt hi
  rw [if_neg (by omega), Int.toNat_natCast, List.getD_eq_getElem?_getD, hi]; rfl
/-- One returns. -/
theorem Bq.ret (h : Bq A sl (d + 1) (fa sl (d + 1))) (v : Int) : ∃ A', A.ret v = (0, A') ∧ Bq A' sl d { fa sl d with stack := [100 + (d : Int), v] } := by
  have hd : A.acts[d]? = some (fa sl d) := h.at_ d (by omega)
  have heff : A.eff (d + 1) = some d := by
    unfold St.eff
    rw [h.top]
    simp only [fa]
    rw [if_neg (by omega)]
    simp only [Nat.add_sub_cancel]
    rw [alive_act hd rfl]; rfl
  have hB : Bq ((A.die (d + 1)).on (some d)) sl d (fa sl d) := by
    refine ⟨by rw [die_def h.top]; exact h.most, rfl, ?_, rfl, fun i hi => ?_, ?_⟩
    · show (A.die (d + 1)).acts[d]? = _
      rw [die_ne (by omega)]; exact hd
    · show (A.die (d + 1)).acts[i]? = _
      rw [die_ne (by omega)]; exact h.at_ i (by omega)
    · have h1 := die_living h.top rfl
      have h2 := h.liv
      show (A.die (d + 1)).living = _
      omega
  unfold St.ret
  rw [h.act]
  simp only
  rw [heff]
  unfold St.back
  rw [hB.push (by show 1 < 3; decide)]
  refine ⟨_, if_pos rfl, ?_⟩
  exact hB.turn (a' := { fa sl d with stack := [100 + (d : Int), v] }) rfl
theorem Bq.ret0 (h : Bq A sl 0 (fa sl 0)) (v : Int) : ∃ A', A.ret v = (235, A') ∧ A'.living = 0 := by
  have heff : A.eff 0 = none := by
    unfold St.eff
    rw [h.top]; rfl
  unfold St.ret
  rw [h.act]
  simp only
  rw [heff]
  unfold St.back
  refine ⟨(A.die 0).on none, ?_, ?_⟩
  · have : ((A.die 0).on none).push v = (231, (A.die 0).on none) := by
      unfold St.push
      have : ((A.die 0).on none).act = none := rfl
      rw [this]
    rw [this]
    rfl
  · have h1 := die_living h.top rfl
    have h2 := h.liv
    show (A.die 0).living = _
    omega
end Go.Proofs.Ytckfidopkajpaaa

/-
  FramesBack answers true.
-/
namespace Go.Proofs.Ytckfidopkajpaaa
set_option linter.unusedVariables false
open Go.Sh Go.RowKit
set_option maxRecDepth 100000
variable {w : World} {T : Hp} {sb : Nat}
theorem minI_nat (k : Nat) : minI (k : Int) 6 = ((min k 6 : Nat) : Int) := by
  unfold minI
  split <;> omega
theorem away_old {w0 w1 : World} {s : Sl} {l : List Int} (h : Arr w0.heap.size w0 s (nums .i64 l)) (hb : Below w0.heap.size w0 w1) (C : Tr en w1 (fun _ => none) w T) : Away T w s l := by
  have hb2 := tr_below0 C
  have hsz := hb.size
  have hb3 : Below w0.heap.size w0 w := hb.trans ⟨hb2.os, hb2.tape, hb2.output, by have := hb2.size; omega, fun k hk => hb2.block k (by omega)⟩
  refine ⟨arr_size (arr_below h hb3), ?_⟩
  rcases h.2.2.2 with h0 | ⟨b, o, c, h1, h2, _⟩
  · left; simpa [nums] using h0
  · refine .inr ⟨b, o, h1, ?_⟩
    cases hT : T b with
    | none => rfl
    | some o =>
      rcases C.new b (by rw [hT]; simp) with h | h
      · exact absurd rfl h
      · omega
theorem arr_take {B : Nat} {s : Sl} {l : List Int} (h : Arr B w s (nums .i64 l)) (n : Nat) (hn : n ≤ l.length) : Arr B w ⟨s.a, n, s.cap⟩ (nums .i64 (l.take n)) := by
  obtain ⟨h1, h2, h3, h4⟩ := h
  simp only [nums, List.length_map] at h1
  refine ⟨by simp [nums]; omega, by simp only; omega, h3, ?_⟩
  rcases h4 with h4 | ⟨b, o, c, g1, g2, g3, g4⟩
  · left; simp [nums] at h4 ⊢; subst h4; simp
  · refine .inr ⟨b, o, c, g1, g2, g3, fun i hi => ?_⟩
    simp only [nums, List.length_map, List.length_take] at hi
    rw [g4 i (by simp [nums]; omega)]
    simp [nums, List.getElem?_take_of_lt (show i < n by omega)]
theorem wrap_a (e : Nat) (he : e ≤ 1000) : IntKind.wrap .i64 (IntKind.wrap .i64 ((100 : Int) + ((e + 1 : Nat) : Int)) - 1) = 100 + (e : Int) := by
  rw [wrapI_in (n := (100 : Int) + ((e + 1 : Nat) : Int)) (by omega), wrapI_in (n := (100 : Int) + ((e + 1 : Nat) : Int) - 1) (by omega)]; omega
theorem wrap_b (e : Nat) (he : e ≤ 1000) : IntKind.wrap .i64 (((e + 1 : Nat) : Int) - 1) = (e : Int) := by
  rw [wrapI_in (by omega)]; omega
theorem back_true {x0 x1 x3 : Int} {x2 : Sl} {l : List Int} (H : Arr w.heap.size w x2 (nums .i64 l)) :
    Ok (f3_palaverlaw23_FramesBack x0 x1 x2 x3) w fun r w' => r = true ∧ Below w.heap.size w w' := by
  unfold f3_palaverlaw23_FramesBack
  have hml : maxLen = 9223372036854775807 := by decide
  have hlen : x2.len = l.length := by have := H.1; simpa [nums] using this
  have hcap := H.2.1
  refine ok_bnd.2 (ok_mono (works_spec (w := w)) ?_)
  rintro _ w1 ⟨hB1, rfl⟩
  have C := Tr.refl (th_none w1)
  have hsz := hB1.size
  have bel : ∀ {w2 : World} {T : Hp}, Tr en w1 (fun _ => none) w2 T → Below w.heap.size w w2 := by
    intro w2 T C
    have hb2 := tr_below0 C
    exact hB1.trans ⟨hb2.os, hb2.tape, hb2.output, by have := hb2.size; omega, fun k hk => hb2.block k (by omega)⟩
  refine ok_tcall C (new_spec C.th x0 x1 65536) ?_
  rintro _ w2 T2 C (⟨_, rfl, rfl⟩ | ⟨hbad, sb, _, rfl, hs⟩)
  · exact ok_true rfl (ok_ret.2 ⟨rfl, bel C⟩)
  rw [newBad_eq, decide_eq_false_iff_not] at hbad
  obtain ⟨cells, rfl⟩ : ∃ n : Nat, x1 = n := ⟨x1.toNat, by omega⟩
  rw [Int.toNat_natCast, show (65536 : Int).toNat = 65536 from rfl] at hs
  refine ok_false rfl ?_
  by_cases hdp : x3 < 1 ∨ x3 > 1000
  · refine ok_true ?_ (ok_ret.2 ⟨rfl, bel C⟩)
    rcases hdp with h | h
    · rw [decide_eq_true h]; rfl
    · rw [decide_eq_true h]; cases decide (x3 < 1) <;> rfl
  obtain ⟨deep, rfl⟩ : ∃ n : Nat, x3 = n := ⟨x3.toNat, by omega⟩
  refine ok_false (by rw [decide_eq_false (by omega), decide_eq_false (by omega)]; rfl) ?_
  have hmin : minI (x2.len : Int) 6 = ((min l.length 6 : Nat) : Int) := by rw [hlen]; exact minI_nat _
  rw [hmin]
  have hn6 : min l.length 6 ≤ 6 := Nat.min_le_right _ _
  have hnl : min l.length 6 ≤ l.length := Nat.min_le_left _ _
  generalize min l.length 6 = n at hn6 hnl
  have hsl : (l.take n).length = n := by rw [List.length_take]; omega
  have hF0 : Fw (St.new cells 65536) cells (l.take n) 0 := ⟨rfl, rfl, rfl, fun i hi => by omega, rfl, rfl⟩
  refine ok_loop (fun (s : Int) w' => ∃ (d : Nat) (A : St) (T : Hp), s = (d : Int) ∧ d ≤ deep ∧ Tr en w1 (fun _ => none) w' T ∧ Hs T sb A ∧ Fw A cells (l.take n) d) (fun s _ => ((deep : Int) - s).toNat) ?_ _ _ ⟨0, _, T2, rfl, Nat.zero_le _, C, hs, hF0⟩
  clear C hs hF0 T2 w2
  rintro s w2 ⟨d, A, T2, rfl, hd, C, hs, hF⟩
  by_cases hlt : d < deep
  · refine ok_true (by simp only [decide_eq_true_eq]; omega) ?_
    refine ok_slcP (by omega) ?_
    have hAw := away_old (arr_take H n hnl) hB1 C
    obtain ⟨c1, c2, c3, c4⟩ := hF.call (by omega) (by rw [hsl]; omega)
    refine ok_tcall C (call_spec C.th hs d hAw (by rw [hsl]; omega) 3 (by decide)) ?_
    rintro _ w3 T3 C ⟨rfl, hs⟩
    rw [c1]
    have e100 : IntKind.wrap .i64 ((100 : Int) + d) = 100 + (d : Int) := by rw [wrapI_in (by omega)]
    rw [e100]
    refine ok_tcall C (push_spec C.th hs (100 + (d : Int))) ?_
    rintro _ w4 T4 C ⟨rfl, hs⟩
    rw [c2.push (by show 0 < 3; decide)] at hs ⊢
    simp only [List.nil_append] at hs ⊢
    refine ok_false rfl ?_
    have hB := c2.turn (a' := ⟨d, l.take n, [100 + (d : Int)], 3, if d = 0 then none else some (d - 1), true⟩) rfl
    have hcl : ((A.call d (l.take n) 3).2.turn d ⟨d, l.take n, [100 + (d : Int)], 3, if d = 0 then none else some (d - 1), true⟩).cells = cells := c3
    have hal : ((A.call d (l.take n) 3).2.turn d ⟨d, l.take n, [100 + (d : Int)], 3, if d = 0 then none else some (d - 1), true⟩).acts.length = d + 1 := by rw [turn_len]; exact c4
    generalize (A.call d (l.take n) 3).2.turn d ⟨d, l.take n, [100 + (d : Int)], 3, if d = 0 then none else some (d - 1), true⟩ = A3 at hB hcl hal hs
    refine ok_bnd.2 (ok_mono (Q := fun _ w' => ∃ (A' : St) (T : Hp), Tr en w1 (fun _ => none) w' T ∧ Hs T sb A' ∧ Fw A' cells (l.take n) (d + 1)) ?_ ?_)
    · by_cases hn0 : 0 < n
      · refine ok_true (by simp only [gt_iff_lt, decide_eq_true_eq]; omega) ?_
        refine ok_bnd.2 (ok_nz.2 ⟨by omega, ?_⟩)
        have et : Int.tmod (d : Int) (n : Int) = ((d % n : Nat) : Int) := by rw [Int.tmod_eq_emod_of_nonneg (by omega)]; rfl
        rw [et]
        refine ok_tcall C (set_spec C.th hs _ _) ?_
        rintro _ w5 T5 C ⟨_, hs⟩
        have hm : d % n < (l.take n).length := by rw [hsl]; exact Nat.mod_lt _ hn0
        rw [hB.set (by show 0 < (l.take n).length; omega) hm] at hs
        refine ok_ret.2 ⟨_, T5, C, hs, ?_⟩
        refine Bq.fw ?_ hcl (by rw [turn_len]; exact hal)
        have := hB.turn (a' := ⟨d, (l.take n).set (d % n) d, [100 + (d : Int)], 3, if d = 0 then none else some (d - 1), true⟩) rfl
        unfold fa
        rw [hsl]
        exact this
      · refine ok_false (by simp only [gt_iff_lt, decide_eq_false_iff_not]; omega) (ok_ret.2 ⟨A3, T4, C, hs, ?_⟩)
        have h0 : l.take n = [] := List.eq_nil_of_length_eq_zero (by omega)
        refine Bq.fw ?_ hcl hal
        unfold fa
        rw [h0] at hB ⊢
        exact hB
    · rintro _ w5 ⟨A', T5, C, hs, hF⟩
      refine ok_ret.2 ⟨⟨d + 1, A', T5, ?_, hlt, C, hs, hF⟩, ?_⟩
      · rw [wrapI_in (by omega)]; simp
      · rw [wrapI_in (by omega)]; omega
  · refine ok_false (by simp only [decide_eq_false_iff_not]; omega) ?_
    have hdd : d = deep := by omega
    subst hdd
    obtain ⟨d, rfl⟩ : ∃ k, d = k + 1 := ⟨d - 1, by omega⟩
    have hB := hF.bq
    have ed : IntKind.wrap .i64 (((d + 1 : Nat) : Int) - 1) = (d : Int) := by rw [wrapI_in (by omega)]; omega
    rw [ed]
    refine ok_bnd.2 ?_
    refine ok_mono (Q := fun r w' => r = true ∧ Below w.heap.size w w') ?_ (fun r w' h => ok_ret.2 h)
    refine ok_loop (fun (s : Int) w' => ∃ (e : Nat) (A : St) (T : Hp), s = (e : Int) ∧ e ≤ d ∧ Tr en w1 (fun _ => none) w' T ∧ Hs T sb A ∧ Bq A (l.take n) e (fa (l.take n) e)) (fun s _ => s.toNat) ?_ _ _ ⟨d, A, T2, rfl, Nat.le_refl _, C, hs, hB⟩
    clear C hs hF hB hlt hd T2 w2 A ed
    rintro s w2 ⟨e, A, T2, rfl, he, C, hs, hB⟩
    by_cases h0 : 0 < e
    · obtain ⟨e, rfl⟩ : ∃ k, e = k + 1 := ⟨e - 1, by omega⟩
      refine ok_true (by simp only [gt_iff_lt, decide_eq_true_eq]; omega) ?_
      have en : IntKind.wrap .i64 (0 - ((e + 1 : Nat) : Int)) = -((e + 1 : Nat) : Int) := by rw [wrapI_in (by omega)]; omega
      rw [en]
      clear en
      obtain ⟨A1, h1, hB1'⟩ := hB.ret (-((e + 1 : Nat) : Int))
      refine ok_tcall C (return_spec C.th hs _) ?_
      rintro _ w3 T3 C ⟨rfl, hs⟩
      rw [h1] at hs ⊢
      simp only at hs ⊢
      refine ok_tcall C (pop_spec C.th hs) ?_
      rintro _ w4 T4 C ⟨rfl, hs⟩
      rw [hB1'.pop (l := [100 + (e : Int)]) (v := -((e + 1 : Nat) : Int)) rfl] at hs ⊢
      simp only at hs ⊢
      have hB2 := hB1'.turn (a' := { fa (l.take n) e with stack := [100 + (e : Int)] }) rfl
      refine ok_tcall C (pop_spec C.th hs) ?_
      rintro _ w5 T5 C ⟨rfl, hs⟩
      rw [hB2.pop (l := []) (v := 100 + (e : Int)) rfl] at hs ⊢
      simp only at hs ⊢
      have hB3 := hB2.turn (a' := { fa (l.take n) e with stack := [] }) rfl
      refine ok_tcall C (push_spec C.th hs _) ?_
      rintro _ w6 T6 C ⟨rfl, hs⟩
      rw [hB3.push (by show 0 < 3; decide)] at hs ⊢
      simp only [List.nil_append] at hs ⊢
      have hB4 := hB3.turn (a' := fa (l.take n) e) rfl
      replace hs : Hs T6 sb (St.turn (St.turn (St.turn A1 e { fa (l.take n) e with stack := [100 + (e : Int)] }) e { fa (l.take n) e with stack := [] }) e (fa (l.take n) e)) := hs
      generalize St.turn (St.turn (St.turn A1 e { fa (l.take n) e with stack := [100 + (e : Int)] }) e { fa (l.take n) e with stack := [] }) e (fa (l.take n) e) = A4 at hs hB4
      have e2 := wrap_a e (by omega)
      have e3 := wrap_b e (by omega)
      rw [e2, e3]
      refine ok_false (by simp) ?_
      refine ok_loop (fun (s : Int) w' => ∃ (i : Nat) (T : Hp), s = (i : Int) ∧ i ≤ n ∧ Tr en w1 (fun _ => none) w' T ∧ Hs T sb A4) (fun s _ => ((n : Int) - s).toNat) ?_ _ _ ⟨0, T6, rfl, Nat.zero_le _, C, hs⟩
      clear C hs T6 w6
      rintro s w6 ⟨i, T6, rfl, hi, C, hs⟩
      by_cases hin : i < n
      · refine ok_true (by simp only [decide_eq_true_eq]; omega) ?_
        have hv : (fa (l.take n) e).slots[i]? = some (if i = e % n then (e : Int) else l[i]'(by omega)) := by
          unfold fa
          simp only
          rw [hsl]
          have hti : (l.take n)[i]? = some (l[i]'(by omega)) := by rw [List.getElem?_take_of_lt hin, List.getElem?_eq_getElem]
          by_cases h : i = e % n
          · rw [if_pos h, h, List.getElem?_set_self (by rw [hsl]; exact Nat.mod_lt _ (by omega))]
          · rw [if_neg h, List.getElem?_set_ne (Ne.symm h)]; exact hti
        refine ok_tcall C (get_spec C.th hs _) ?_
        rintro _ w7 T7 C ⟨rfl, hs⟩
        rw [hB4.get hv]
        refine ok_arrLd (away_old H hB1 C).1 (List.getElem?_eq_getElem (show i < l.length by omega)) ?_
        refine ok_bnd.2 (ok_nz.2 ⟨by omega, ?_⟩)
        have et : Int.tmod (e : Int) (n : Int) = ((e % n : Nat) : Int) := by rw [Int.tmod_eq_emod_of_nonneg (by omega)]; rfl
        rw [et]
        refine ok_bnd.2 (ok_mono (Q := fun r w' => r = (if i = e % n then (e : Int) else l[i]'(by omega)) ∧ w' = w7) ?_ ?_)
        · by_cases h : i = e % n
          · rw [if_pos h]
            exact ok_true (by rw [h]; simp) (ok_ret.2 ⟨rfl, rfl⟩)
          · rw [if_neg h]
            exact ok_false (by simp only [beq_eq_false_iff_ne, ne_eq]; omega) (ok_ret.2 ⟨rfl, rfl⟩)
        · rintro _ _ ⟨rfl, rfl⟩
          refine ok_false (by simp) (ok_ret.2 ⟨⟨i + 1, T7, ?_, hin, C, hs⟩, ?_⟩)
          · rw [wrapI_in (by omega)]; simp
          · rw [wrapI_in (by omega)]; omega
      · refine ok_false (by simp only [decide_eq_false_iff_not]; omega) (ok_ret.2 ?_)
        exact ⟨⟨e, A4, T6, rfl, by omega, C, hs, hB4⟩, by omega⟩
    · have h0 : e = 0 := by omega
      subst h0
      refine ok_false (by simp) ?_
      obtain ⟨A1, h1, h2⟩ := hB.ret0 0
      refine ok_bnd.2 ?_
      refine ok_tcall C (return_spec C.th hs _) ?_
      rintro _ w3 T3 C ⟨rfl, hs⟩
      rw [h1] at hs ⊢
      simp only at hs ⊢
      refine ok_tcall C (count_spec C.th hs) ?_
      rintro ⟨r1, r2⟩ w4 T4 C ⟨_, e1, e2, e3⟩
      rw [h2] at e1 e3
      simp only at e1 e2 e3
      have e4 : r2 = 0 := by omega
      subst e1; subst e4
      exact ok_ret.2 (ok_ret.2 ⟨rfl, bel C⟩)
theorem back_is (x0 x1 : Int) {x2 : Sl} (h : Held w (.sl (.int .i64)) x2) (x3 : Int) (W : World) (hW : W = w := by rfl) : Ok (f3_palaverlaw23_FramesBack x0 x1 x2 x3) W fun r w' => r = true ∧ Below W.heap.size W w' := by
  subst hW
  obtain ⟨l, H, _⟩ := held_arr h
  exact back_true H
end Go.Proofs.Ytckfidopkajpaaa
