/-
  Parts of the proof: FCf, FCg. It states what the functions do; no further condition.
-/
import Derived.Test.YtckfidopkajpaaaFCe
import Derived.Test.YtckfidopkajpaaaFBn
import Derived.Deep.Slices
set_option linter.unusedVariables false
set_option linter.unusedSimpArgs false
/-
  What one act does to a stack and what it answers.
-/
namespace Go.Sh
set_option linter.unusedVariables false
open Go.RowKit
section
variable {O : Type} {en : O → List Value} {w0 w : World} {T0 T : Nat → Option O} {α : Type} {Q : α → World → Prop}
/-- A cell beside the heap, for a while. -/
theorem ok_newBes (C : Tr en w0 T0 w T) {e : TypeId} {vs : List Value} {f : Addr → M α} (hq : ∀ b w', Tr en w0 T0 w' T → Bes w0 w' T b (.cells vs.toArray e) → Ok (f ⟨b, 0, none⟩) w' Q) : Ok (bnd (newC e vs) f) w Q := by
  refine ok_bnd.2 (ok_newC.2 (hq _ _ (C.call ((Below.refl _ _).alloc (Nat.le_refl _) _)) ⟨?_, C.none_at, C.keep.size⟩))
  rw [heap_alloc, if_pos rfl]
theorem Bes.blk {b : Nat} {c : Array Value} {e : TypeId} (h : Bes w0 w T b (.cells c e)) : Go.Sh.blk w b = some c := by
  unfold Go.Sh.blk
  rw [h.at_]
theorem ok_bld {b : Nat} {c : Array Value} {e : TypeId} (h : Bes w0 w T b (.cells c e)) {m k : Nat} {t : Ty} {x : t.den} {f : t.den → M α} (hx : rdv t c (m + k) = some x) (hq : Ok (f x) w Q) : Ok (bnd (ld t (Addr.add ⟨b, m, none⟩ k)) f) w Q := by
  rw [addr_add]
  exact ok_bnd.2 (ok_ld h.blk hx hq)
end
end Go.Sh
namespace Go.Proofs.Ytckfidopkajpaaa
set_option linter.unusedVariables false
open Go.Sh Go.RowKit
set_option maxRecDepth 100000
variable {w : World} {T : Hp} {sb : Nat} {A : St}
noncomputable def St.answer (A : St) (c m v x d n : Int) (l : List Int) : (Int × Int) × St :=
  if c = 1 then ((0, (A.call m l n).1), (A.call m l n).2) else
  if c = 2 then ((0, (A.push v).1), (A.push v).2) else
  if c = 3 then A.pop else
  if c = 4 then (A.get n, A) else
  if c = 5 then ((0, (A.set n v).1), (A.set n v).2) else
  if c = 6 then ((0, (A.ret v).1), (A.ret v).2) else
  if c = 7 then (((A.this).1, 0), (A.this).2) else
  if c = 8 then A.senderOf x else
  if c = 9 then (A.methodOf x, A) else
  if c = 10 then (A.slot x n, A) else
  if c = 11 then ((0, (A.setSlot x n v).1), (A.setSlot x n v).2) else
  if c = 13 then ((0, (A.setSender x d).1), (A.setSender x d).2) else
  if c = 14 then ((0, (A.switch x).1), (A.switch x).2) else
  if c = 15 then ((0, (A.unwind x v).1), (A.unwind x v).2) else
  (((A.living : Int), 0), A)
theorem answer_spec (h : Th en w T) (hs : Hs T sb A) (hnm : A.named.length ≤ 4000000000000) (c m v x d n : Int) {s : Sl} {l : List Int} (hsl : Away T w s l) (hll : l.length ≤ 1048576) (hn : -9223372036854775808 ≤ n ∧ n ≤ 9223372036854775807) :
    Sp (f20_palaverlaw23_answer (pt (some sb)) (c, m, v, x, d, n, s)) w T fun r _ T' => r = (A.answer c m v x d n l).1 ∧ Hs T' sb (A.answer c m v x d n l).2 := by
  unfold f20_palaverlaw23_answer St.answer
  have C0 := Tr.refl h
  refine ok_newBes C0 fun p w1 C b1 => ?_
  refine ok_bld b1 (x := c) rfl ?_
  by_cases h1 : c = 1
  · rw [if_pos h1]
    refine ok_true (by simpa using h1) ?_
    refine ok_bld b1 (x := m) rfl ?_
    refine ok_bld b1 (x := s) rfl ?_
    refine ok_bld b1 (x := n) rfl ?_
    refine ok_tcall C (call_spec C.th hs m (hsl.step C) (by omega) n hn) ?_
    rintro _ w2 T2 C ⟨rfl, hs⟩
    exact ok_ret.2 ⟨_, C, rfl, hs⟩
  rw [if_neg h1]
  refine ok_false (by simpa using h1) ?_
  by_cases h2 : c = 2
  · rw [if_pos h2]
    refine ok_true (by simpa using h2) ?_
    refine ok_bld b1 (x := v) rfl ?_
    refine ok_tcall C (push_spec C.th hs v) ?_
    rintro _ w2 T2 C ⟨rfl, hs⟩
    exact ok_ret.2 ⟨_, C, rfl, hs⟩
  rw [if_neg h2]
  refine ok_false (by simpa using h2) ?_
  by_cases h3 : c = 3
  · rw [if_pos h3]
    refine ok_true (by simpa using h3) ?_
    refine ok_tcall C (pop_spec C.th hs) ?_
    rintro _ w2 T2 C ⟨rfl, hs⟩
    exact ok_ret.2 ⟨_, C, rfl, hs⟩
  rw [if_neg h3]
  refine ok_false (by simpa using h3) ?_
  by_cases h4 : c = 4
  · rw [if_pos h4]
    refine ok_true (by simpa using h4) ?_
    refine ok_bld b1 (x := n) rfl ?_
    refine ok_tcall C (get_spec C.th hs n) ?_
    rintro _ w2 T2 C ⟨rfl, hs⟩
    exact ok_ret.2 ⟨_, C, rfl, hs⟩
  rw [if_neg h4]
  refine ok_false (by simpa using h4) ?_
  by_cases h5 : c = 5
  · rw [if_pos h5]
    refine ok_true (by simpa using h5) ?_
    refine ok_bld b1 (x := n) rfl ?_
    refine ok_bld b1 (x := v) rfl ?_
    refine ok_tcall C (set_spec C.th hs n v) ?_
    rintro _ w2 T2 C ⟨rfl, hs⟩
    exact ok_ret.2 ⟨_, C, rfl, hs⟩
  rw [if_neg h5]
  refine ok_false (by simpa using h5) ?_
  by_cases h6 : c = 6
  · rw [if_pos h6]
    refine ok_true (by simpa using h6) ?_
    refine ok_bld b1 (x := v) rfl ?_
    refine ok_tcall C (return_spec C.th hs v) ?_
    rintro _ w2 T2 C ⟨rfl, hs⟩
    exact ok_ret.2 ⟨_, C, rfl, hs⟩
  rw [if_neg h6]
  refine ok_false (by simpa using h6) ?_
  by_cases h7 : c = 7
  · rw [if_pos h7]
    refine ok_true (by simpa using h7) ?_
    refine ok_tcall C (this_spec C.th hs hnm) ?_
    rintro _ w2 T2 C ⟨rfl, hs⟩
    exact ok_ret.2 ⟨_, C, rfl, hs⟩
  rw [if_neg h7]
  refine ok_false (by simpa using h7) ?_
  by_cases h8 : c = 8
  · rw [if_pos h8]
    refine ok_true (by simpa using h8) ?_
    refine ok_bld b1 (x := x) rfl ?_
    refine ok_tcall C (sender_spec' C.th hs hnm x) ?_
    rintro _ w2 T2 C ⟨rfl, hs⟩
    exact ok_ret.2 ⟨_, C, rfl, hs⟩
  rw [if_neg h8]
  refine ok_false (by simpa using h8) ?_
  by_cases h9 : c = 9
  · rw [if_pos h9]
    refine ok_true (by simpa using h9) ?_
    refine ok_bld b1 (x := x) rfl ?_
    refine ok_tcall C (method_spec C.th hs x) ?_
    rintro _ w2 T2 C ⟨rfl, rfl⟩
    exact ok_ret.2 ⟨_, C, rfl, hs⟩
  rw [if_neg h9]
  refine ok_false (by simpa using h9) ?_
  by_cases h10 : c = 10
  · rw [if_pos h10]
    refine ok_true (by simpa using h10) ?_
    refine ok_bld b1 (x := x) rfl ?_
    refine ok_bld b1 (x := n) rfl ?_
    refine ok_tcall C (slot_spec' C.th hs x n) ?_
    rintro _ w2 T2 C ⟨rfl, rfl⟩
    exact ok_ret.2 ⟨_, C, rfl, hs⟩
  rw [if_neg h10]
  refine ok_false (by simpa using h10) ?_
  by_cases h11 : c = 11
  · rw [if_pos h11]
    refine ok_true (by simpa using h11) ?_
    refine ok_bld b1 (x := x) rfl ?_
    refine ok_bld b1 (x := n) rfl ?_
    refine ok_bld b1 (x := v) rfl ?_
    refine ok_tcall C (setSlot_spec C.th hs x n v) ?_
    rintro _ w2 T2 C ⟨rfl, hs⟩
    exact ok_ret.2 ⟨_, C, rfl, hs⟩
  rw [if_neg h11]
  refine ok_false (by simpa using h11) ?_
  by_cases h13 : c = 13
  · rw [if_pos h13]
    refine ok_true (by simpa using h13) ?_
    refine ok_bld b1 (x := x) rfl ?_
    refine ok_bld b1 (x := d) rfl ?_
    refine ok_tcall C (setSender_spec C.th hs x d fun _ => behind_does) ?_
    rintro _ w2 T2 C ⟨rfl, hs⟩
    exact ok_ret.2 ⟨_, C, rfl, hs⟩
  rw [if_neg h13]
  refine ok_false (by simpa using h13) ?_
  by_cases h14 : c = 14
  · rw [if_pos h14]
    refine ok_true (by simpa using h14) ?_
    refine ok_bld b1 (x := x) rfl ?_
    refine ok_tcall C (switch_spec C.th hs x) ?_
    rintro _ w2 T2 C ⟨rfl, hs⟩
    exact ok_ret.2 ⟨_, C, rfl, hs⟩
  rw [if_neg h14]
  refine ok_false (by simpa using h14) ?_
  by_cases h15 : c = 15
  · rw [if_pos h15]
    refine ok_true (by simpa using h15) ?_
    refine ok_bld b1 (x := x) rfl ?_
    refine ok_bld b1 (x := v) rfl ?_
    refine ok_tcall C (unwind_spec C.th hs x v) ?_
    rintro _ w2 T2 C ⟨rfl, hs⟩
    exact ok_ret.2 ⟨_, C, rfl, hs⟩
  rw [if_neg h15]
  refine ok_false (by simpa using h15) ?_
  refine ok_tcall C (count_spec C.th hs) ?_
  rintro ⟨r1, r2⟩ w2 T2 C ⟨rfl, e1, _, _⟩
  exact ok_ret.2 ⟨_, C, by rw [e1], hs⟩
/-! ### At most one more is named -/
theorem die_named (k : Nat) : (A.die k).named = A.named := by
  unfold St.die
  split <;> rfl
theorem on_named (e : Option Nat) : (A.on e).named = A.named := rfl
theorem push_named (v : Int) : (A.push v).2.named = A.named := by
  unfold St.push
  split
  · rfl
  · split <;> rfl
theorem back_named (to : Option Nat) (v : Int) : (A.back to v).2.named = A.named := by
  unfold St.back
  simp only
  split
  · rw [push_named]; rfl
  · rfl
theorem foldl_named : ∀ (l : List Nat) (A : St), (l.foldl St.die A).named = A.named
  | [], _ => rfl
  | x :: l, A => by rw [List.foldl_cons, foldl_named l, die_named]
theorem name_named (e : Option Nat) : (A.name e).2.named.length ≤ A.named.length + 1 := by
  unfold St.name
  split
  · simp
  · split <;> simp
theorem answer_named (c m v x d n : Int) (l : List Int) : (A.answer c m v x d n l).2.named.length ≤ A.named.length + 1 := by
  unfold St.answer
  have same : ∀ B : St, B.named = A.named → B.named.length ≤ A.named.length + 1 := fun B h => by rw [h]; omega
  by_cases h1 : c = 1
  · rw [if_pos h1]
    refine same _ ?_
    unfold St.call
    split
    · rfl
    · split <;> rfl
  rw [if_neg h1]
  by_cases h2 : c = 2
  · rw [if_pos h2]
    exact same _ (push_named v)
  rw [if_neg h2]
  by_cases h3 : c = 3
  · rw [if_pos h3]
    refine same _ ?_
    unfold St.pop
    split
    · rfl
    · split <;> rfl
  rw [if_neg h3]
  by_cases h4 : c = 4
  · rw [if_pos h4]
    exact same _ rfl
  rw [if_neg h4]
  by_cases h5 : c = 5
  · rw [if_pos h5]
    refine same _ ?_
    unfold St.set
    split
    · rfl
    · split <;> rfl
  rw [if_neg h5]
  by_cases h6 : c = 6
  · rw [if_pos h6]
    refine same _ ?_
    unfold St.ret
    split
    · rfl
    · rw [back_named, die_named]
  rw [if_neg h6]
  by_cases h7 : c = 7
  · rw [if_pos h7]
    exact name_named _
  rw [if_neg h7]
  by_cases h8 : c = 8
  · rw [if_pos h8]
    unfold St.senderOf
    split
    · exact same _ rfl
    · exact name_named _
  rw [if_neg h8]
  by_cases h9 : c = 9
  · rw [if_pos h9]
    exact same _ rfl
  rw [if_neg h9]
  by_cases h10 : c = 10
  · rw [if_pos h10]
    exact same _ rfl
  rw [if_neg h10]
  by_cases h11 : c = 11
  · rw [if_pos h11]
    refine same _ ?_
    unfold St.setSlot
    split
    · rfl
    · split
      · rfl
      · split <;> rfl
  rw [if_neg h11]
  by_cases h13 : c = 13
  · rw [if_pos h13]
    refine same _ ?_
    unfold St.setSender
    split
    · rfl
    · split
      · rfl
      · split
        · rfl
        · split
          · rfl
          · split <;> rfl
  rw [if_neg h13]
  by_cases h14 : c = 14
  · rw [if_pos h14]
    refine same _ ?_
    unfold St.switch
    split
    · rfl
    · split <;> rfl
  rw [if_neg h14]
  by_cases h15 : c = 15
  · rw [if_pos h15]
    refine same _ ?_
    unfold St.unwind
    split
    · rfl
    · split
      · rfl
      · split
        · rw [back_named, foldl_named]
        · rfl
  rw [if_neg h15]
  exact same _ rfl
end Go.Proofs.Ytckfidopkajpaaa

/-
  FramesUnseen: two stacks that are told the same answer the same.
-/
namespace Go.Sh
set_option linter.unusedVariables false
open Go.RowKit
theorem rdv_of {t : Ty} {c : Array Value} {o : Nat} {l : List Value} {x : t.den} (hl : l.length = t.size) (hz : 0 < t.size) (h : ∀ k, k < t.size → c[o + k]? = l[k]?) (hd : decs t l = some x) : rdv t c o = some x := by
  have hlast := h (t.size - 1) (by omega)
  rw [List.getElem?_eq_getElem (by omega)] at hlast
  have hsz : o + (t.size - 1) < c.size := by
    rcases Nat.lt_or_ge (o + (t.size - 1)) c.size with h' | h'
    · exact h'
    · rw [Array.getElem?_eq_none h'] at hlast; cases hlast
  unfold rdv
  rw [if_pos (by omega), ← hd]
  congr 1
  apply List.ext_getElem?
  intro k
  by_cases hk : k < t.size
  · rw [List.getElem?_take_of_lt hk, List.getElem?_drop, ← h k hk, Array.getElem?_toList]
  · rw [List.getElem?_eq_none (by simp; omega), List.getElem?_eq_none (by omega)]
/-- What a slice that was handed in holds. -/
theorem held_at {w : World} {e : Shp} {s : Sl} (h : Held w (.sl e) s) (hz : 0 < e.ty.size) (hl : 0 < s.len) (henc : ∀ y : e.ty.den, (enc e.ty true y).length = e.ty.size) :
    ∃ b o c, s.a = some ⟨b, o, none⟩ ∧ b < w.heap.size ∧ blk w b = some c ∧ ∀ i, i < s.len → ∃ y : e.ty.den, Held w e y ∧ ∀ k, k < e.ty.size → c[o + e.ty.size * i + k]? = (enc e.ty true y)[k]? := by
  rcases h with ⟨_, h2, _⟩ | ⟨a, ha, hlc, hcm, hel⟩
  · omega
  have key : ∀ i, i < s.len → ∃ y : e.ty.den, Held w e y ∧ ∀ k, k < e.ty.size → w.cell? ((a.add (i * e.ty.size)).add k) = (enc e.ty true y)[k]? := by
    intro i hi
    obtain ⟨y, h1, h2⟩ := hel i (by omega)
    obtain ⟨_, hlen, hg⟩ := World.cells?_some h1
    refine ⟨y, h2, fun k hk => ?_⟩
    exact hg k hk
  obtain ⟨b, o, sp⟩ := a
  obtain ⟨y0, _, h0⟩ := key 0 hl
  have h00 := h0 0 hz
  have e0 : (Addr.add (Addr.add ⟨b, o, sp⟩ (0 * e.ty.size)) 0) = ⟨b, o, sp⟩ := by rw [Nat.zero_mul]; unfold Addr.add; rw [if_pos rfl, if_pos rfl]
  rw [e0, List.getElem?_eq_getElem (by rw [henc]; exact hz)] at h00
  have hsp : sp = none := by
    unfold World.cell? at h00
    simp only at h00
    split at h00
    · cases sp with
      | none => rfl
      | some x => simp at h00
    · cases h00
  subst hsp
  have hb : ∃ c, blk w b = some c := by
    unfold World.cell? at h00
    simp only at h00
    unfold blk
    split at h00
    · rename_i c e fz hb; exact ⟨c, by rw [hb]⟩
    · cases h00
  obtain ⟨c, hc⟩ := hb
  refine ⟨b, o, c, ha, blk_lt hc, hc, fun i hi => ?_⟩
  obtain ⟨y, h1, h2⟩ := key i hi
  refine ⟨y, h1, fun k hk => ?_⟩
  rw [← h2 k hk, addr_add, addr_add, cell_blk hc, Nat.mul_comm]
theorem ok_ixQ {s : Sl} {n : Nat} {b o : Nat} {i : Int} {w : World} {α : Type} {f : Addr → M α} {Q : α → World → Prop} (ha : s.a = some ⟨b, o, none⟩) (h0 : 0 ≤ i) (h1 : i < s.len) (hq : Ok (f ⟨b, o + n * i.toNat, none⟩) w Q) : Ok (bnd (ix n s i) f) w Q := by
  refine ok_bnd.2 ?_
  unfold ix
  rw [ha]
  simp only
  rw [if_pos ⟨h0, h1⟩]
  refine ok_ret.2 ?_
  rw [addr_add, Nat.mul_comm]
  exact hq
/-- Read what lies there since the beginning. -/
theorem ok_old {w0 w : World} (hb : Below w0.heap.size w0 w) {b : Nat} {c : Array Value} (hlt : b < w0.heap.size) (hc : blk w0 b = some c) {m k : Nat} {t : Ty} {x : t.den} {α : Type} {f : t.den → M α} {Q : α → World → Prop} (hx : rdv t c (m + k) = some x) (hq : Ok (f x) w Q) : Ok (bnd (ld t (Addr.add ⟨b, m, none⟩ k)) f) w Q := by
  rw [addr_add]
  exact ok_bnd.2 (ok_ld ((blk_of (hb.block b hlt)).trans hc) hx hq)
theorem ok_old0 {w0 w : World} (hb : Below w0.heap.size w0 w) {b : Nat} {c : Array Value} (hlt : b < w0.heap.size) (hc : blk w0 b = some c) {m : Nat} {t : Ty} {x : t.den} {α : Type} {f : t.den → M α} {Q : α → World → Prop} (hx : rdv t c m = some x) (hq : Ok (f x) w Q) : Ok (bnd (ld t ⟨b, m, none⟩) f) w Q :=
  ok_bnd.2 (ok_ld ((blk_of (hb.block b hlt)).trans hc) hx hq)
end Go.Sh
namespace Go.Proofs.Ytckfidopkajpaaa
set_option linter.unusedVariables false
open Go.Sh Go.RowKit
set_option maxRecDepth 100000
variable {w : World} {T U : Hp} {sb : Nat}
/-- An act, as it is handed in. -/
abbrev shAct : Shp := .agg (.pair (.int .i64) (.pair (.int .i64) (.pair (.int .i64) (.pair (.int .i64) (.pair (.int .i64) (.pair (.int .i64) (.sl (.int .i64))))))))
abbrev tyAct : Ty := .agg (.pair (.int .i64) (.pair (.int .i64) (.pair (.int .i64) (.pair (.int .i64) (.pair (.int .i64) (.pair (.int .i64) .sl))))))
theorem away_side {w0 w1 : World} {s : Sl} {l : List Int} (h : Arr w0.heap.size w0 s (nums .i64 l)) (hb : Below w0.heap.size w0 w1) (C : Tr en w1 (fun _ => none) w T) (sd : Side en w1 w T U) : Away U w s l := by
  refine ⟨(away_old h hb C).1, ?_⟩
  rcases h.2.2.2 with h0 | ⟨b, o, c, h1, h2, _⟩
  · left; simpa [nums] using h0
  · refine .inr ⟨b, o, h1, ?_⟩
    cases hU : U b with
    | none => rfl
    | some o =>
      have := sd.new b (by rw [hU]; simp)
      have := hb.size
      omega
theorem hs_of_flush {A : St} (h : A.Fit ∧ ∃ S G, Inv T sb S A G ∧ Acv S A G A.active ∧ G.framed = 0) : Hs T sb A := by
  obtain ⟨hf, S, G, I, hA, _⟩ := h
  exact ⟨hf, S, G, I, hA⟩
theorem unseen_true {x0 x1 x2 : Int} {x3 x4 : Sl} (H3 : Held w (.sl shAct) x3) (H4 : Held w (.sl .bool) x4) (hb3 : x3.len ≤ 3000000000000) :
    Ok (f5_palaverlaw23_FramesUnseen x0 x1 x2 x3 x4) w fun r w' => r = true ∧ Below w.heap.size w w' := by
  unfold f5_palaverlaw23_FramesUnseen
  have hml : maxLen = 9223372036854775807 := by decide
  refine ok_bnd.2 (ok_mono (works_spec (w := w)) ?_)
  rintro _ w1 ⟨hB1, rfl⟩
  have C := Tr.refl (th_none w1)
  have hsz := hB1.size
  have bel : ∀ {w2 : World} {T : Hp}, Tr en w1 (fun _ => none) w2 T → Below w.heap.size w w2 := by
    intro w2 T C
    have hb2 := tr_below0 C
    exact hB1.trans ⟨hb2.os, hb2.tape, hb2.output, by have := hb2.size; omega, fun k hk => hb2.block k (by omega)⟩
  refine ok_tcall C (new_spec C.th x0 40 x2) ?_
  rintro r2 w2 T2 C h2
  have sd := Side.none (en2 := en) w1 w2 (O2 := Ob) T2
  refine ok_bnd.2 (ok_mono (new_spec sd.th x1 40 x2) ?_)
  rintro r3 w3 ⟨U3, D, h3⟩
  obtain ⟨C, sd⟩ := sd.turn C D
  clear D
  rcases h2 with ⟨_, _, rfl⟩ | ⟨_, sa, _, rfl, hs⟩
  · refine ok_true rfl (ok_ret.2 ⟨?_, bel C⟩)
    rfl
  rcases h3 with ⟨_, _, rfl⟩ | ⟨_, sb, _, rfl, ht⟩
  · refine ok_true rfl (ok_ret.2 ⟨?_, bel C⟩)
    rfl
  refine ok_false rfl ?_
  refine ok_loop (fun (s : Int) w' => ∃ (j : Nat) (A : St) (T U : Hp), s = (j : Int) ∧ j ≤ x3.len ∧ Tr en w1 (fun _ => none) w' T ∧ Side en w1 w' T U ∧ Hs T sa A ∧ Hs U sb A ∧ A.named.length ≤ j) (fun s _ => ((x3.len : Int) - s).toNat) ?_ _ _ ⟨0, _, T2, U3, rfl, Nat.zero_le _, C, sd, hs, ht, Nat.zero_le _⟩
  rintro s w2 ⟨j, A, T, U, rfl, hj, C, sd, hs, ht, hnm⟩
  by_cases hlt : j < x3.len
  · refine ok_true (by simp only [decide_eq_true_eq]; omega) ?_
    obtain ⟨b, o, c, ha, hbl, hbk, hel⟩ := held_at H3 (by decide) (by omega) (fun _ => rfl)
    obtain ⟨⟨a1, a2, a3, a4, a5, a6, s⟩, hy, hc⟩ := hel j hlt
    obtain ⟨y1, y2, y3, y4, y5, y6, y7⟩ := hy
    have hc6 : rdv .sl c (o + 7 * j + 6) = some s := rdv_sl (hc 6 (by decide))
    have hcA : rdv tyAct c (o + 7 * j) = some (a1, a2, a3, a4, a5, a6, s) := rdv_of (l := enc tyAct true (a1, a2, a3, a4, a5, a6, s)) rfl (by decide) hc rfl
    obtain ⟨l, hl, _⟩ := held_arr y7
    have hll : s.len = l.length := by have := hl.1; simpa using this
    refine ok_ixQ ha (by omega) (by omega) ?_
    rw [Int.toNat_natCast]
    refine ok_old (bel C) hbl hbk (x := s) hc6 ?_
    by_cases hbig : s.len > 1048576
    · exact ok_true (by simp only [decide_eq_true_eq]; omega) (ok_ret.2 ⟨rfl, bel C⟩)
    refine ok_false (by simp only [decide_eq_false_iff_not]; omega) ?_
    refine ok_bnd.2 (ok_mono (Q := fun _ w' => w' = w2) ?_ ?_)
    · by_cases h4 : j < x4.len
      · refine ok_true (by simp only [decide_eq_true_eq]; omega) ?_
        obtain ⟨b', o', c', ha', hbl', hbk', hel'⟩ := held_at H4 (by decide) (by omega) (fun _ => rfl)
        obtain ⟨y, _, hc'⟩ := hel' j h4
        refine ok_ixQ ha' (by omega) (by omega) ?_
        rw [Int.toNat_natCast]
        refine ok_old0 (bel C) hbl' hbk' (x := y) (rdv_of (l := enc .bool true y) rfl (by decide) hc' rfl) (ok_ret.2 rfl)
      · exact ok_false (by simp only [decide_eq_false_iff_not]; omega) (ok_ret.2 rfl)
    rintro b9 w2' e2
    subst e2
    refine ok_bnd.2 (ok_mono (Q := fun _ w' => ∃ U : Hp, Tr en w1 (fun _ => none) w' T ∧ Side en w1 w' T U ∧ Hs U sb A) ?_ ?_)
    · cases b9 with
      | false => exact ok_false rfl (ok_ret.2 ⟨U, C, sd, ht⟩)
      | true =>
        refine ok_true rfl ?_
        refine ok_bnd.2 (ok_mono (flush_spec sd.th ht) ?_)
        rintro _ w3 ⟨U3, D, h3⟩
        obtain ⟨C, sd⟩ := sd.turn C D
        exact ok_ret.2 ⟨U3, C, sd, hs_of_flush h3⟩
    rintro _ w3 ⟨U, C, sd, ht⟩
    refine ok_ixQ ha (by omega) (by omega) ?_
    rw [Int.toNat_natCast]
    refine ok_old0 (bel C) hbl hbk (t := tyAct) (x := (a1, a2, a3, a4, a5, a6, s)) hcA ?_
    have ya : -9223372036854775808 ≤ (show Int from a6) ∧ (show Int from a6) ≤ 9223372036854775807 := wf_i64 y6
    refine ok_bnd.2 (ok_mono (answer_spec C.th hs (by omega) a1 a2 a3 a4 a5 a6 (away_old hl hB1 C) (by omega) ya) ?_)
    rintro r14 w4 ⟨T4, D, e14, hs4⟩
    have sd4 := sd.step D
    have C4 := C.trans D
    clear D C sd
    refine ok_ixQ ha (by omega) (by omega) ?_
    rw [Int.toNat_natCast]
    refine ok_old0 (bel C4) hbl hbk (t := tyAct) (x := (a1, a2, a3, a4, a5, a6, s)) hcA ?_
    refine ok_bnd.2 (ok_mono (answer_spec sd4.th ht (by omega) a1 a2 a3 a4 a5 a6 (away_side hl hB1 C4 sd4) (by omega) ya) ?_)
    rintro r17 w5 ⟨U5, D, e17, ht5⟩
    obtain ⟨C5, sd5⟩ := sd4.turn C4 D
    have hnm5 := answer_named (A := A) a1 a2 a3 a4 a5 a6 l
    rw [e14, e17]
    generalize A.answer a1 a2 a3 a4 a5 a6 l = R at *
    refine ok_false (by simp) (ok_ret.2 ⟨⟨j + 1, R.2, T4, U5, ?_, hlt, C5, sd5, hs4, ht5, by omega⟩, ?_⟩)
    · rw [wrapI_in (by omega)]; simp
    · rw [wrapI_in (by omega)]; omega
  · refine ok_false (by simp only [decide_eq_false_iff_not]; omega) ?_
    refine ok_bnd.2 ?_
    refine ok_bnd.2 (ok_mono (count_spec C.th hs) ?_)
    rintro ⟨n1, n2⟩ w3 ⟨T3, D, rfl, e1, _, _⟩
    have sd := sd.step D
    replace C := C.trans D
    clear D
    refine ok_loop (fun (s : Int) w' => ∃ (i : Nat) (T U : Hp), s = (i : Int) ∧ i ≤ 301 ∧ Tr en w1 (fun _ => none) w' T ∧ Side en w1 w' T U ∧ Hs T sa A ∧ Hs U sb A) (fun s _ => ((301 : Int) - s).toNat) ?_ _ _ ⟨1, T3, U, rfl, by omega, C, sd, hs, ht⟩
    rintro s w4 ⟨i, T, U, rfl, hi, C, sd, hs, ht⟩
    by_cases hi2 : i ≤ 300
    · refine ok_true (by simp only [decide_eq_true_eq]; omega) ?_
      refine ok_bnd.2 (ok_mono (lies_spec C.th hs (i : Int)) ?_)
      rintro ⟨q1, q2⟩ w5 ⟨T5, D, g1, g2, g3⟩
      have sd := sd.step D
      replace C := C.trans D
      have hs := hs.grow g3
      clear D
      refine ok_bnd.2 (ok_mono (lies_spec sd.th ht (i : Int)) ?_)
      rintro ⟨q3, q4⟩ w6 ⟨U6, D, g4, g5, g6⟩
      obtain ⟨C, sd⟩ := sd.turn C D
      have ht := ht.grow g6
      clear D
      refine ok_bnd.2 (ok_mono (same_spec (g2.arr C.th) (g5.arr sd.th)) ?_)
      rintro _ w7 ⟨hB7, rfl⟩
      have D := (Tr.refl C.th).call hB7
      have sd := sd.step D
      replace C := C.trans D
      clear D
      simp only at g1 g4
      refine ok_bnd.2 (ok_mono (Q := fun b w' => b = false ∧ Tr en w1 (fun _ => none) w' T5 ∧ Side en w1 w' T5 U6) ?_ ?_)
      · refine ok_false (by simp [g1, g4]) ?_
        refine ok_bnd.2 (ok_mono (alive_spec C.th hs (i : Int)) ?_)
        rintro _ w8 ⟨T8, D, rfl, rfl⟩
        have sd := sd.step D
        replace C := C.trans D
        clear D
        refine ok_bnd.2 (ok_mono (alive_spec sd.th ht (i : Int)) ?_)
        rintro _ w9 ⟨U9, D, rfl, rfl⟩
        obtain ⟨C, sd⟩ := sd.turn C D
        exact ok_ret.2 ⟨by simp, C, sd⟩
      rintro _ w8 ⟨rfl, C, sd⟩
      refine ok_false rfl (ok_ret.2 ⟨⟨i + 1, T5, U6, ?_, by omega, C, sd, hs, ht⟩, ?_⟩)
      · rw [wrapI_in (by omega)]; simp
      · rw [wrapI_in (by omega)]; omega
    · refine ok_false (by simp only [decide_eq_false_iff_not]; omega) ?_
      refine ok_bnd.2 ?_
      refine ok_bnd.2 (ok_mono (count_spec sd.th ht) ?_)
      rintro ⟨n3, n4⟩ w5 ⟨U5, D, rfl, e2, _, _⟩
      obtain ⟨C, sd⟩ := sd.turn C D
      refine ok_ret.2 (ok_ret.2 (ok_ret.2 ⟨?_, bel C⟩))
      simp only at e1 e2
      rw [e1, e2]
      simp
end Go.Proofs.Ytckfidopkajpaaa
namespace Go.Sh
open Go.RowKit Go.ChangeShapes Go.WideShapes
/-- A slice that was read weighs what its room weighs. -/
theorem trod_room {H : Type} {en : TypeId × Value → H} {P : Program} {w : World} {T E : TypeId} {x : Sl} {d : DataW H} {ps : List MemPlace} (ht : P.underlying T = some (.slice E)) (hd : DataW.Trod en P w 0 (fun _ => true) true T (inj .sl x) d ps) :
    x.len = 0 ∨ ∃ elems spare, d = .slice elems spare ∧ x.len ≤ elems.length + spare.length := by
  obtain ⟨fuel, hf⟩ := hd
  rcases Deep.open_slice ht hf with ⟨h1, _⟩ | ⟨a, len, cap, m, n, D, Pl, h1, hb, hl, hm, hmm, h2, hi⟩
  · left
    have h1 : [Value.slice x.a x.len x.cap] = [.slice none 0 0] := h1
    simp only [List.cons.injEq, Value.slice.injEq, and_true] at h1
    exact h1.2.1
  · right
    have h1 : [Value.slice x.a x.len x.cap] = [.slice (some a) len cap] := h1
    simp only [List.cons.injEq, Value.slice.injEq, and_true] at h1
    simp only [Prod.mk.injEq] at h2
    refine ⟨_, _, h2.1, ?_⟩
    rw [h1.2.1]
    simp
end Go.Sh
namespace Go.Proofs.Ytckfidopkajpaaa
open Go.Sh Go.RowKit
theorem unseen_is (x0 x1 x2 : Int) {x3 x4 : Sl} {w : World} (H3 : Held w (.sl shAct) x3) (H4 : Held w (.sl .bool) x4) (hb3 : x3.len ≤ 3000000000000) (W : World) (hW : W = w := by rfl) : Ok (f5_palaverlaw23_FramesUnseen x0 x1 x2 x3 x4) W fun r w' => r = true ∧ Below W.heap.size W w' := by
  subst hW
  exact unseen_true H3 H4 hb3
end Go.Proofs.Ytckfidopkajpaaa
