/-
  Parts of the proof: FBh, FBi. It states what the functions do; no further condition.
-/
import Derived.Test.YtckfidopkajpaaaFBg
set_option linter.unusedVariables false
set_option linter.unusedSimpArgs false
/-
  A context's slots and stack; Lies, Slot, SetSlot.
-/
namespace Go.Proofs.Ytckfidopkajpaaa
set_option linter.unusedVariables false
open Go.Sh Go.RowKit
set_option maxRecDepth 100000
variable {w : World} {T : Hp} {sb : Nat} {S : Sk} {A : St} {G : Gh}
theorem take_set_eq {L l : List Int} {off n : Nat} {v : Int} (h : (L.drop off).take l.length = l) (hn : n < l.length) : ((L.set (off + n) v).drop off).take (l.set n v).length = l.set n v := by
  rw [List.length_set, List.drop_set, if_neg (by omega), Nat.add_sub_cancel_left, List.take_set, h]
/-- One slot of a context on its own set. -/
theorem Inv.loneSet (I : Inv T sb S A G) {k c b : Nat} {a : Ac} {L : List Int} {X : Ct} (hc : G.cx k = some c) (hX : T c = some (.ctx X)) (ha : A.acts[k]? = some a) (hal : a.alive = true) (hl : G.loc k = none) (hs : X.slots.a = some ⟨b, 0, none⟩) (hb : T b = some (.ints (.slots c) L)) (ht : L.take a.slots.length = a.slots) {n : Nat} (hn : n < a.slots.length) (v : Int) :
    Inv (put T b (.ints (.slots c) (L.set n v))) sb S (A.turn k { a with slots := a.slots.set n v }) G := by
  have keep : ∀ x o, T x = some o → (∀ L, o ≠ .ints (.slots c) L) → put T b (.ints (.slots c) (L.set n v)) x = some o := fun x o h hne => put_other h hb (hne L)
  have h1 : ({ a with slots := a.slots.set n v } : Ac).alive = a.alive := rfl
  have h2 : ({ a with slots := a.slots.set n v } : Ac).sender = a.sender := rfl
  refine { I with stk := keep _ _ I.stk (by simp), living := by rw [turn_living ha h1]; exact I.living, lmax := by rw [turn_living ha h1]; exact I.lmax, pgs := ?_, page := ?_, ctx := ?_, here := fun j hj => I.here j (by rw [turn_alive ha h1] at hj; exact hj), nmd := ?_ }
  · obtain ⟨g1, g2, g3, b', L', g4, g5, g6⟩ := I.pgs
    exact ⟨g1, g2, g3, b', L', g4, keep _ _ g5 (by simp), g6⟩
  · intro q hq
    obtain ⟨Q, fl, cb, cl, hQ⟩ := I.page q hq
    have hQ' := hQ.mono (T' := put T b (.ints (.slots c) (L.set n v))) (fun P h => keep _ _ h (by simp)) (fun b L h => keep _ _ h (by simp)) (fun b L' h => keep _ _ h (by simp))
    refine ⟨Q, fl, cb, cl, { page := hQ'.page, cells := hQ'.cells, has := hQ'.has, cll := hQ'.cll, frames := hQ'.frames, cnt := hQ'.cnt, fr := fun j F' jd hF' hjd => ?_, first := hQ'.first, next := hQ'.next, below := fun id' h' => by rw [turn_eff ha h1 h2]; exact turn_sn ha h1 (hQ.below id' h'), link := fun j x y hx hy => by rw [turn_eff ha h1 h2]; exact hQ.link j x y hx hy }⟩
    obtain ⟨b', kb⟩ := hQ.fr j F' jd hF' hjd
    have hne : jd ≠ k := by
      rintro rfl
      have q1 := I.l1 q j jd hq hjd
      rw [hl] at q1; cases q1
    exact ⟨b', { kb with act := by rw [turn_ne hne]; exact kb.act, fin := kb.fin }⟩
  · intro jd c' hc'
    obtain ⟨Y, b', kc⟩ := I.ctx jd c' hc'
    by_cases e : jd = k
    · subst e
      have : c' = c := by rw [hc, Option.some.injEq] at hc'; exact hc'.symm
      subst this
      have : Y = X := by have := kc.ctx; rw [hX, Option.some.injEq, Ob.ctx.injEq] at this; exact this.symm
      subst this
      have : b' = a := by have := kc.act; rw [ha, Option.some.injEq] at this; exact this.symm
      subst this
      refine ⟨Y, _, { ctx := keep _ _ kc.ctx (by simp), act := turn_at ha, dead := kc.dead, number := kc.number, framed := kc.framed, lone := fun g0 h0 => ?_ }⟩
      obtain ⟨g1, g2, g3, g4, g5, g6, g7, g8⟩ := kc.lone g0 h0
      refine ⟨g1, g2, g3, g4, ?_, ⟨?_, g6.le, g6.max, .inr ⟨b, _, hs, put_eq _ _ _, ?_⟩⟩, g7.mono fun b L h => keep _ _ h (by simp), by rw [turn_eff ha h1 h2]; exact turn_sn ha h1 g8⟩
      · show (List.set _ _ _).length + _ + 4 ≤ _
        rw [List.length_set]; exact g5
      · show _ = (List.set _ _ _).length
        rw [List.length_set]; exact g6.len
      · have := take_set_eq (off := 0) (v := v) (by rw [List.drop_zero]; exact ht) hn
        rw [List.drop_zero, Nat.zero_add] at this
        exact this
    · have hne : c' ≠ c := by rintro rfl; exact e (I.inj _ _ _ hc' hc)
      refine ⟨Y, b', { ctx := keep _ _ kc.ctx (by simp), act := by rw [turn_ne e]; exact kc.act, dead := kc.dead, number := kc.number, framed := kc.framed, lone := fun g0 h0 => ?_ }⟩
      obtain ⟨g1, g2, g3, g4, g5, g6, g7, g8⟩ := kc.lone g0 h0
      exact ⟨g1, g2, g3, g4, g5, g6.mono fun b L h => keep _ _ h (by simp [hne]), g7.mono fun b L h => keep _ _ h (by simp), by rw [turn_eff ha h1 h2]; exact turn_sn ha h1 g8⟩
  · obtain ⟨g1, g2, g3, g4⟩ := I.nmd
    exact ⟨g1, g2, g3, g4.imp (fun h => h) fun ⟨b, L', q1, q2, q3, q4⟩ => ⟨b, L', q1, keep _ _ q2 (by simp), q3, q4⟩⟩
/-- A context's slots and stack. -/
theorem parts_spec (h : Th en w T) (I : Inv T sb S A G) {c k : Nat} {a : Ac} (hc : G.cx k = some c) (ha : A.acts[k]? = some a) (hal : a.alive = true) :
    Sp (f63_frames_context_parts (pt (some c))) w T fun r w' T' => T' = T ∧ r.1.len = a.slots.length ∧ (a.slots ≠ [] → ∃ b off o L, r.1.a = some ⟨b, off, none⟩ ∧ T b = some (.ints o L) ∧ (L.drop off).take a.slots.length = a.slots ∧ off + a.slots.length ≤ L.length ∧ ∀ n v, n < a.slots.length → Inv (put T b (.ints o (L.set (off + n) v))) sb S (A.turn k { a with slots := a.slots.set n v }) G) ∧
      Arr w'.heap.size w' r.2 (nums .i64 a.stack) ∧ a.stack.length ≤ 4096 := by
  unfold f63_frames_context_parts
  have C := Tr.refl h
  have hml : maxLen = 9223372036854775807 := by decide
  have hcm := I.cmax
  obtain ⟨X, a', kc⟩ := I.ctx k c hc
  have : a' = a := by have := kc.act; rw [ha, Option.some.injEq] at this; exact this.symm
  subst this
  refine ok_drfP ?_
  refine ok_tld C kc.ctx (x := pt X.page) rfl ?_
  cases hl : G.loc k with
  | none =>
    obtain ⟨g1, g2, g3, g4, g5, g6, g7, g8⟩ := kc.lone hal hl
    rw [g1]
    refine ok_true rfl ?_
    refine ok_tdraw C fun w2 C => ?_
    refine ok_drfP ?_
    refine ok_tld C kc.ctx (x := X.slots) rfl ?_
    refine ok_drfP ?_
    refine ok_tld C kc.ctx (x := X.stack) rfl ?_
    refine ok_ret.2 ⟨T, C, rfl, g6.len, fun hne => ?_, ?_, by omega⟩
    · rcases g6.at_ with h0 | ⟨b, L, h1, h2, h3⟩
      · exact absurd h0 hne
      · refine ⟨b, 0, _, L, h1, h2, by rw [List.drop_zero]; exact h3, ?_, fun n v hn => by rw [Nat.zero_add]; exact I.loneSet hc kc.ctx ha hal hl h1 h2 h3 hn v⟩
        have := congrArg List.length h3
        rw [List.length_take] at this
        omega
    · rcases g7.at_ with h0 | ⟨b, L, h1, h2, h3⟩
      · refine ⟨by rw [h0]; simp only [nums, List.map_nil, List.length_nil]; rw [g7.len, h0]; rfl, g7.le, g7.max, .inl (by rw [h0]; rfl)⟩
      · exact arr_of (off := 0) C.th h2 (fun _ => h1) (by rw [List.drop_zero]; exact h3) g7.len g7.le g7.max
  | some pi =>
    obtain ⟨p, i⟩ := pi
    obtain ⟨e1, e2⟩ := kc.framed p i hl
    obtain ⟨hp, hid⟩ := I.l2 k p i hl
    obtain ⟨P, fl, L, fb, cb, cl, F, Z⟩ := I.frAt hp hid ha
    have sm := Z.fr.small I.cmax
    have f1 := Z.fr.depth; have f2 := Z.fr.room; have f3 := Z.fr.slots; have f4 := Z.fr.base; have f5 := Z.fr.fin; have f6 := Z.fr.fits
    have f7 := f5
    unfold Fr.fin at f7
    rw [e1]
    refine ok_false rfl ?_
    refine ok_tdraw C fun w2 C => ?_
    refine ok_drfP ?_
    refine ok_tld C kc.ctx (x := pt (some p)) (by rw [← e1]; rfl) ?_
    refine ok_drfP ?_
    refine ok_tld C Z.pg.page (x := P.frames) rfl ?_
    refine ok_drfP ?_
    refine ok_tld C kc.ctx (x := (i : Int)) (by rw [← e2]; rfl) ?_
    refine ok_ixN Z.fa (by omega) (by have := Z.pg.frames.len; have := get_lt Z.fi; omega) ?_
    rw [Int.toNat_natCast]
    simp only [bnd_as, bnd_ret]
    refine ok_tord C fun o w3 C => ?_
    refine ok_drfP ?_
    refine ok_tld C kc.ctx (x := pt (some p)) (by rw [← e1]; rfl) ?_
    refine ok_drfP ?_
    refine ok_tld C kc.ctx (x := pt (some p)) (by rw [← e1]; rfl) ?_
    refine ok_trd C (slots_spec C.th Z.pg.page Z.at_ Z.f sm (by rw [Z.pg.cells]) (by rw [Z.pg.cells]; exact f5)) fun w4 C => ?_
    refine ok_tchk C kc.ctx (by rw [← e1]; rfl) ?_
    refine ok_trd C (stack_spec C.th Z.pg.page Z.at_ Z.f sm (by rw [Z.pg.cells]) (by rw [Z.pg.cells]; exact f5)) fun w5 C => ?_
    have hcl := Z.pg.cll
    refine ok_ret.2 ⟨T, C, rfl, by simp only; omega, fun hne => ?_, ?_, by omega⟩
    · have : 0 < a'.slots.length := List.length_pos_iff.2 hne
      refine ⟨cb, F.base.toNat + 4, _, cl, by simp only; rw [if_neg (by omega)]; congr 2; omega, Z.pg.has, Z.fr.hasS, by omega, fun n v hn => I.slotSet Z hn v⟩
    · refine arr_of (off := F.base.toNat + 4 + a'.slots.length) C.th Z.pg.has (fun hne => ?_) Z.fr.hasT (by simp only; omega) (by simp only; omega) (by simp only; omega)
      have : 0 < a'.stack.length := List.length_pos_iff.2 hne
      simp only
      rw [if_neg (by omega)]; congr 2; omega
theorem lies_spec (h : Th en w T) (hs : Hs T sb A) (x : Int) : Sp (f21_frames_Stack_Lies (pt (some sb)) x) w T fun r w' T' => r.2 = (A.lies x).2 ∧ In T' (.slots 0) r.1 (A.lies x).1 ∧ (∀ b p, T b = some p → T' b = some p) := by
  unfold f21_frames_Stack_Lies St.lies
  have C := Tr.refl h
  obtain ⟨hf, S, G, I, hA⟩ := hs
  refine ok_tcall C (of_spec C.th I x) ?_
  rintro r w1 T1 C ⟨rfl, ⟨k, c, h1, h2, h3, rfl⟩ | ⟨e, h1, h2, rfl⟩⟩
  · rw [h1]
    obtain ⟨a, ha, hal⟩ := alive_lt h2
    simp only
    rw [ha]
    refine ok_false rfl ?_
    refine ok_tcall C (parts_spec C.th I h3 ha hal) ?_
    rintro ⟨r1, r2⟩ w2 T2 C ⟨rfl, _, _, hr, hl⟩
    refine ok_tcall C (clone_spec C.th hr (by omega) (.slots 0)) ?_
    rintro r3 w3 T3 C ⟨hin, hk⟩
    exact ok_ret.2 ⟨T3, C, rfl, hin, hk⟩
  · rw [h1]
    exact ok_true (by simpa using h2) (ok_ret.2 ⟨_, C, rfl, ⟨rfl, Nat.le_refl _, Nat.zero_le _, .inl rfl⟩, fun _ _ h => h⟩)
/-- A new row of numbers does nothing to a state. -/
theorem Hs.grow {T2 : Hp} (hs : Hs T sb A) (k : ∀ b o, T b = some o → T2 b = some o) : Hs T2 sb A := by
  obtain ⟨hf, S, G, I, hA⟩ := hs
  exact ⟨hf, S, G, I.grow k, hA⟩
theorem slotOf_spec (h : Th en w T) (hs : Hs T sb A) (x i : Int) : Sp (f78_frames_Stack_slotOf (pt (some sb)) x i) w T fun r w' T' => T' = T ∧ r.2 = (A.slot x i).2 ∧ (r.2 = 0 → ∃ b n o L k a, r.1 = some ⟨b, n, none⟩ ∧ T b = some (.ints o L) ∧ L[n]? = some (A.slot x i).1 ∧ A.of x = (some k, 0) ∧ A.acts[k]? = some a ∧ ¬ (i < 0 ∨ i ≥ a.slots.length) ∧ ∀ v, Hs (put T b (.ints o (L.set n v))) sb (A.turn k { a with slots := a.slots.set i.toNat v })) := by
  unfold f78_frames_Stack_slotOf St.slot
  have C := Tr.refl h
  obtain ⟨hf, S, G, I, hA⟩ := hs
  refine ok_tcall C (of_spec C.th I x) ?_
  rintro r w1 T1 C ⟨rfl, ⟨k, c, h1, h2, h3, rfl⟩ | ⟨e, h1, h2, rfl⟩⟩
  · rw [h1]
    obtain ⟨a, ha, hal⟩ := alive_lt h2
    simp only
    rw [ha]
    refine ok_false rfl ?_
    refine ok_tcall C (parts_spec C.th I h3 ha hal) ?_
    rintro ⟨r1, r2⟩ w2 T2 C ⟨rfl, hl, hn, _, _⟩
    simp only at hl hn ⊢
    by_cases hi : i < 0 ∨ i ≥ a.slots.length
    · refine ok_true ?_ (ok_ret.2 ⟨_, C, rfl, by rw [if_pos hi], fun h => (by cases h)⟩)
      rw [hl]
      rcases hi with hi | hi
      · rw [decide_eq_true hi]; rfl
      · rw [decide_eq_true hi]; cases decide (i < 0) <;> rfl
    · have hi1 : ¬ i < 0 := fun h => hi (.inl h)
      have hi2 : ¬ i ≥ a.slots.length := fun h => hi (.inr h)
      refine ok_false (by rw [hl, decide_eq_false hi1, decide_eq_false hi2]; rfl) ?_
      obtain ⟨b, off, o, L, g1, g2, g3, g4, g5⟩ := hn (by rintro h0; rw [h0] at hi2; simp at hi2; omega)
      refine ok_ixP1 g1 (by omega) (by omega) ?_
      have hg : (a.slots.getD i.toNat 0) = a.slots[i.toNat]'(by omega) := by rw [List.getD_eq_getElem?_getD, List.getElem?_eq_getElem (by omega)]; rfl
      refine ok_ret.2 ⟨_, C, rfl, by rw [if_neg hi], fun _ => ⟨b, off + i.toNat, o, L, k, a, rfl, g2, ?_, rfl, ha, hi, fun v => ?_⟩⟩
      · rw [if_neg hi]
        simp only
        rw [hg]
        have : a.slots[i.toNat]? = some (a.slots[i.toNat]'(by omega)) := List.getElem?_eq_getElem _
        rw [← this]
        conv => rhs; rw [← g3]
        rw [List.getElem?_take_of_lt (by omega), List.getElem?_drop]
      · refine ⟨hf.turn ha rfl rfl, S, G, g5 _ v (by omega), ?_⟩
        show Acv S _ G A.active
        cases hact : A.active with
        | none => rw [hact] at hA; exact hA
        | some j => rw [hact] at hA; exact ⟨(turn_alive (a' := { a with slots := a.slots.set i.toNat v }) ha rfl j).trans hA.1, hA.2⟩
  · rw [h1]
    exact ok_true (by simpa using h2) (ok_ret.2 ⟨_, C, rfl, rfl, fun h => absurd h h2⟩)
theorem slot_spec' (h : Th en w T) (hs : Hs T sb A) (x i : Int) : Sp (f49_frames_Stack_Slot (pt (some sb)) x i) w T fun r w' T' => T' = T ∧ r = A.slot x i := by
  unfold f49_frames_Stack_Slot
  have C := Tr.refl h
  refine ok_tcall C (slotOf_spec C.th hs x i) ?_
  rintro ⟨r1, r2⟩ w1 T1 C ⟨rfl, h1, h2⟩
  simp only at h1 h2 ⊢
  by_cases h0 : r2 = 0
  · obtain ⟨b, n, o, L, k, a, g1, g2, g3, _⟩ := h2 h0
    refine ok_false (by simpa using h0) ?_
    rw [g1]
    refine ok_drfS ?_
    refine ok_tld0 C g2 (x := (A.slot x i).1) (rd_int g3) ?_
    refine ok_ret.2 ⟨_, C, rfl, ?_⟩
    rw [← h0, h1]
  · refine ok_true (by simpa using h0) (ok_ret.2 ⟨_, C, rfl, ?_⟩)
    rw [h1]
    have : (A.slot x i).1 = 0 := by
      rw [h1] at h0
      unfold St.slot at h0 ⊢
      split
      · rfl
      · rename_i k e hof
        rw [hof] at h0
        simp only at h0
        split
        · rfl
        · rename_i a ha
          rw [ha] at h0
          simp only at h0
          split
          · rfl
          · rename_i hi
            rw [if_neg hi] at h0
            exact absurd rfl h0
    rw [← this]
theorem setSlot_spec (h : Th en w T) (hs : Hs T sb A) (x i v : Int) : Sp (f51_frames_Stack_SetSlot (pt (some sb)) x i v) w T fun r w' T' => r = (A.setSlot x i v).1 ∧ Hs T' sb (A.setSlot x i v).2 := by
  unfold f51_frames_Stack_SetSlot
  have C := Tr.refl h
  refine ok_tcall C (slotOf_spec C.th hs x i) ?_
  rintro ⟨r1, r2⟩ w1 T1 C ⟨rfl, h1, h2⟩
  simp only at h1 h2 ⊢
  by_cases h0 : r2 = 0
  · obtain ⟨b, n, o, L, k, a, g1, g2, g3, g4, g5, g6, g7⟩ := h2 h0
    refine ok_bnd.2 (ok_true (by simpa using h0) ?_)
    rw [g1]
    refine ok_drfS ?_
    have hn := get_lt g3
    refine ok_twr0 C (.ints o (L.set n v)) g2 (by simp [en]; omega) rfl (wr_int hn) fun w2 C => ?_
    refine ok_ret.2 (ok_ret.2 ⟨_, C, ?_⟩)
    unfold St.setSlot
    rw [g4]
    simp only
    rw [g5]
    simp only
    rw [if_neg g6]
    exact ⟨h0, g7 v⟩
  · refine ok_bnd.2 (ok_false (by simpa using h0) (ok_ret.2 (ok_ret.2 ⟨_, C, ?_⟩)))
    rw [h1] at h0
    rw [h1]
    unfold St.slot at h0 ⊢
    unfold St.setSlot
    split
    · exact ⟨rfl, hs⟩
    · rename_i k e hof
      rw [hof] at h0
      simp only at h0
      split
      · exact ⟨rfl, hs⟩
      · rename_i a ha
        rw [ha] at h0
        simp only at h0
        split
        · exact ⟨rfl, hs⟩
        · rename_i hi
          rw [if_neg hi] at h0
          exact absurd rfl h0
end Go.Proofs.Ytckfidopkajpaaa

/-
  SetSender.
-/
namespace Go.Proofs.Ytckfidopkajpaaa
set_option linter.unusedVariables false
open Go.Sh Go.RowKit
set_option maxRecDepth 100000
variable {w : World} {T : Hp} {sb : Nat} {S : Sk} {A : St} {G : Gh}
theorem snd_eff_ne {A : St} {k i : Nat} {a : Ac} {s : Option Nat} (ha : A.acts[k]? = some a) (h : i ≠ k) : (A.turn k { a with sender := s }).eff i = A.eff i := by
  unfold St.eff
  rw [turn_ne h]
  simp only [turn_alive (a' := { a with sender := s }) ha rfl]
def sndE (A : St) (s : Option Nat) : Option Nat := match s with
  | some j => if A.alive j then some j else none
  | none => none
theorem snd_eff_self {A : St} {k : Nat} {a : Ac} {s : Option Nat} (ha : A.acts[k]? = some a) : (A.turn k { a with sender := s }).eff k = sndE A s := by
  unfold St.eff
  rw [turn_at ha]
  cases s with
  | none => rfl
  | some j => simp only [turn_alive (a' := { a with sender := some j }) ha rfl]; rfl
/-- The sender of a context on its own set. -/
theorem Inv.sndSet (I : Inv T sb S A G) {k c : Nat} {a : Ac} {X : Ct} {y s : Option Nat} (hc : G.cx k = some c) (hX : T c = some (.ctx X)) (ha : A.acts[k]? = some a) (hal : a.alive = true) (hl : G.loc k = none)
    (hs : Sn A G.cx y (sndE A s)) : Inv (put T c (.ctx { X with sender := y })) sb S (A.turn k { a with sender := s }) G := by
  have keep : ∀ x o, T x = some o → (∀ C, o ≠ .ctx C) → put T c (.ctx { X with sender := y }) x = some o := fun x o h hne => put_other h hX (hne X)
  have h1 : ({ a with sender := s } : Ac).alive = a.alive := rfl
  refine { I with stk := keep _ _ I.stk (by simp), living := by rw [turn_living ha h1]; exact I.living, lmax := by rw [turn_living ha h1]; exact I.lmax, pgs := ?_, page := ?_, ctx := ?_, here := fun j hj => I.here j (by rw [turn_alive ha h1] at hj; exact hj), nmd := ?_ }
  · obtain ⟨g1, g2, g3, b', L', g4, g5, g6⟩ := I.pgs
    exact ⟨g1, g2, g3, b', L', g4, keep _ _ g5 (by simp), g6⟩
  · intro q hq
    obtain ⟨Q, fl, cb, cl, hQ⟩ := I.page q hq
    have hQ' := hQ.mono (T' := put T c (.ctx { X with sender := y })) (fun P h => keep _ _ h (by simp)) (fun b L h => keep _ _ h (by simp)) (fun b L' h => keep _ _ h (by simp))
    have hne : ∀ (j jd : Nat), (G.fid q)[j]? = some jd → jd ≠ k := by
      rintro j jd hjd rfl
      have q1 := I.l1 q j jd hq hjd
      rw [hl] at q1; cases q1
    refine ⟨Q, fl, cb, cl, { page := hQ'.page, cells := hQ'.cells, has := hQ'.has, cll := hQ'.cll, frames := hQ'.frames, cnt := hQ'.cnt, fr := fun j F' jd hF' hjd => ?_, first := hQ'.first, next := hQ'.next, below := fun id' h' => by rw [snd_eff_ne ha (hne _ _ h')]; exact turn_sn ha h1 (hQ.below id' h'), link := fun j x y hx hy => by rw [snd_eff_ne ha (hne _ _ hy)]; exact hQ.link j x y hx hy }⟩
    obtain ⟨b', kb⟩ := hQ.fr j F' jd hF' hjd
    exact ⟨b', { kb with act := by rw [turn_ne (hne _ _ hjd)]; exact kb.act, fin := kb.fin }⟩
  · intro jd c' hc'
    obtain ⟨Y, b', kc⟩ := I.ctx jd c' hc'
    by_cases e : jd = k
    · subst e
      have : c' = c := by rw [hc, Option.some.injEq] at hc'; exact hc'.symm
      subst this
      have : Y = X := by have := kc.ctx; rw [hX, Option.some.injEq, Ob.ctx.injEq] at this; exact this.symm
      subst this
      have : b' = a := by have := kc.act; rw [ha, Option.some.injEq] at this; exact this.symm
      subst this
      refine ⟨_, _, { ctx := put_eq _ _ _, act := turn_at ha, dead := kc.dead, number := kc.number, framed := kc.framed, lone := fun g0 h0 => ?_ }⟩
      obtain ⟨g1, g2, g3, g4, g5, g6, g7, g8⟩ := kc.lone g0 h0
      exact ⟨g1, g2, g3, g4, g5, g6.mono fun b L h => keep _ _ h (by simp), g7.mono fun b L h => keep _ _ h (by simp), by rw [snd_eff_self ha]; exact turn_sn ha h1 hs⟩
    · have hne : c' ≠ c := by rintro rfl; exact e (I.inj _ _ _ hc' hc)
      refine ⟨Y, b', { ctx := by rw [put_ne _ hne]; exact kc.ctx, act := by rw [turn_ne e]; exact kc.act, dead := kc.dead, number := kc.number, framed := kc.framed, lone := fun g0 h0 => ?_ }⟩
      obtain ⟨g1, g2, g3, g4, g5, g6, g7, g8⟩ := kc.lone g0 h0
      exact ⟨g1, g2, g3, g4, g5, g6.mono fun b L h => keep _ _ h (by simp), g7.mono fun b L h => keep _ _ h (by simp), by rw [snd_eff_ne ha e]; exact turn_sn ha h1 g8⟩
  · obtain ⟨g1, g2, g3, g4⟩ := I.nmd
    exact ⟨g1, g2, g3, g4.imp (fun h => h) fun ⟨b, L', q1, q2, q3, q4⟩ => ⟨b, L', q1, keep _ _ q2 (by simp), q3, q4⟩⟩
/-- No circle comes to be. -/
theorem snd_acy {A : St} (h : ∀ i, Acc (fun j i => A.eff i = some j) i) {k : Nat} {a : Ac} {s : Option Nat} (ha : A.acts[k]? = some a) (hs : ∀ j, s = some j → ¬ ∃ l, St.Row A j l k) (i : Nat) : Acc (fun j i => (A.turn k { a with sender := s }).eff i = some j) i := by
  have away : ∀ i, (¬ ∃ l, St.Row A i l k) → Acc (fun j i => (A.turn k { a with sender := s }).eff i = some j) i := by
    intro i
    induction h i with
    | intro i _ ih =>
      intro hn
      have hik : i ≠ k := by rintro rfl; exact hn ⟨_, .one _⟩
      refine ⟨_, fun j hj => ?_⟩
      rw [snd_eff_ne ha hik] at hj
      exact ih j hj fun ⟨l, hl⟩ => hn ⟨_, .next hj hl⟩
  have self : Acc (fun j i => (A.turn k { a with sender := s }).eff i = some j) k := by
    refine ⟨_, fun j hj => ?_⟩
    rw [snd_eff_self ha] at hj
    cases s with
    | none => cases hj
    | some j' =>
      unfold sndE at hj
      simp only at hj
      split at hj
      · rw [Option.some.injEq] at hj
        subst hj
        exact away _ (hs _ rfl)
      · cases hj
  induction h i with
  | intro i _ ih =>
    by_cases e : i = k
    · subst e; exact self
    · refine ⟨_, fun j hj => ?_⟩
      rw [snd_eff_ne ha e] at hj
      exact ih j hj
theorem St.Fit.sndSet (h : A.Fit) {k : Nat} {a : Ac} {s : Option Nat} (ha : A.acts[k]? = some a) (hj : ∀ j, s = some j → A.alive j = true) (hs : ∀ j, s = some j → ¬ ∃ l, St.Row A j l k) : (A.turn k { a with sender := s }).Fit := by
  refine ⟨fun i b j hb hbj => ?_, fun i hi => ?_, h.extra, snd_acy h.acy ha hs⟩
  · rw [show (A.turn k { a with sender := s }).acts.length = A.acts.length from List.length_set]
    by_cases e : i = k
    · subst e
      rw [turn_at ha, Option.some.injEq] at hb
      subst hb
      obtain ⟨b, hb, _⟩ := alive_lt (hj j hbj)
      exact get_lt hb
    · rw [turn_ne e] at hb
      exact h.snd i b j hb hbj
  · rw [turn_alive (a' := { a with sender := s }) ha rfl]
    exact h.act i hi
/-- What 'behind' does. -/
def BehindDoes : Prop := ∀ {w : World} {T : Hp} {sb : Nat} {S : Sk} {A : St} {G : Gh} {c d j k : Nat}, Th en w T → A.Fit → Inv T sb S A G → G.cx j = some c → A.alive j = true → G.cx k = some d →
  Sp (f65_frames_context_behind (pt (some c)) (pt (some d))) w T fun r _ T' => r = A.behind j k ∧ ∃ cx', (∀ k b, G.cx k = some b → cx' k = some b) ∧ Inv T' sb S A { G with cx := cx' }
theorem setSender_spec (h : Th en w T) (hs : Hs T sb A) (x d : Int) (hB : d ≠ 0 → BehindDoes) : Sp (f26_frames_Stack_SetSender (pt (some sb)) x d) w T fun r _ T' => r = (A.setSender x d).1 ∧ Hs T' sb (A.setSender x d).2 := by
  unfold f26_frames_Stack_SetSender St.setSender
  have C := Tr.refl h
  have hs0 := hs
  obtain ⟨hf, S, G, I, hA⟩ := hs
  refine ok_tcall C (of_spec C.th I x) ?_
  rintro r w1 T1 C ⟨rfl, ⟨k, c, h1, h2, h3, rfl⟩ | ⟨e, h1, h2, rfl⟩⟩
  rotate_left
  · rw [h1]
    exact ok_true (by simpa using h2) (ok_ret.2 ⟨_, C, rfl, hs0⟩)
  rw [h1]
  obtain ⟨a, ha, hal⟩ := alive_lt h2
  simp only
  rw [ha]
  simp only
  refine ok_false rfl ?_
  -- what is set
  have fin : ∀ {w2 : World} {T2 : Hp} {G2 : Gh} {y s : Option Nat}, Tr en w T1 w2 T2 → (∀ k b, G.cx k = some b → G2.cx k = some b) → Inv T2 sb S A G2 → Acv S A G2 A.active → Cn G2.cx y s → (∀ j, s = some j → A.alive j = true) → (∀ j, s = some j → ¬ ∃ l, St.Row A j l k) →
      Ok (bnd (drf (pt (some c))) fun (p8 : Addr) => bnd (ld .ptr (Addr.add p8 2)) fun (v9 : Option Addr) => bnd (cnd (!(Option.isNone v9)) (bnd (bnd (ordM 26 12 (regionIn 12 Try.f26)) fun (o12 : List Nat) => bnd (drf (pt (some c))) fun (p13 : Addr) => bnd (ld .ptr (Addr.add p13 2)) fun (v14 : Option Addr) => bnd (drf (pt (some c))) fun (p15 : Addr) => bnd (ld (.int .i64) (Addr.add p15 3)) fun (v16 : Int) =>
          bnd (f61_frames_Stack_part (pt (some sb)) v14 v16) fun (r17 : Unit) => bnd (ret ()) fun _ => ret ()) fun (s11 : Unit) => ret ()) (ret ())) fun (s10 : Unit) => bnd (drf (pt (some c))) fun (p18 : Addr) => bnd (wrs (Addr.add p18 8) 0 [.pointer (pt y)]) fun _ => ret (0 : Int)) w2
        (fun r w' => ∃ T', Tr en w T1 w' T' ∧ r = 0 ∧ Hs T' sb (A.turn k { a with sender := s })) := by
    intro w2 T2 G2 y s C hext I2 hA2 hy hsa hsr
    have hc2 := hext _ _ h3
    obtain ⟨X, a', kc⟩ := I2.ctx k c hc2
    have : a' = a := by have := kc.act; rw [ha, Option.some.injEq] at this; exact this.symm
    subst this
    have hsn : ∀ {cx : Nat → Option Nat}, (∀ k b, G2.cx k = some b → cx k = some b) → Sn A cx y (sndE A s) := by
      intro cx hcx
      cases s with
      | none => have hy : y = none := hy; subst hy; rfl
      | some j => obtain ⟨b, rfl, hb⟩ := hy; exact ⟨j, hcx _ _ hb, rfl⟩
    -- the end
    have last : ∀ {w3 : World} {T3 : Hp} {S3 : Sk} {G3 : Gh}, Tr en w T1 w3 T3 → (∀ k b, G2.cx k = some b → G3.cx k = some b) → Inv T3 sb S3 A G3 → Acv S3 A G3 A.active → G3.loc k = none →
        Ok (bnd (drf (pt (some c))) fun (p18 : Addr) => bnd (wrs (Addr.add p18 8) 0 [.pointer (pt y)]) fun _ => ret (0 : Int)) w3 (fun r w' => ∃ T', Tr en w T1 w' T' ∧ r = 0 ∧ Hs T' sb (A.turn k { a' with sender := s })) := by
      intro w3 T3 S3 G3 C hext3 I3 hA3 hl3
      obtain ⟨Y, b, kc3⟩ := I3.ctx k c (hext3 _ _ hc2)
      refine ok_drfP ?_
      refine ok_ctw C { Y with sender := y } kc3.ctx (by decide) rfl rfl fun w4 C => ?_
      refine ok_ret.2 ⟨_, C, rfl, hf.sndSet ha hsa hsr, S3, G3, I3.sndSet (hext3 _ _ hc2) kc3.ctx ha hal hl3 (hsn hext3), ?_⟩
      show Acv S3 _ G3 A.active
      cases hact : A.active with
      | none => rw [hact] at hA3; exact hA3
      | some j => rw [hact] at hA3; exact ⟨(turn_alive (a' := { a' with sender := s }) ha rfl j).trans hA3.1, hA3.2⟩
    refine ok_drfP ?_
    refine ok_tld C kc.ctx (x := pt X.page) rfl ?_
    cases hl : G2.loc k with
    | none =>
      obtain ⟨g1, _⟩ := kc.lone hal hl
      rw [g1]
      refine ok_bnd.2 (ok_false rfl (ok_ret.2 ?_))
      exact last C (fun _ _ h => h) I2 hA2 hl
    | some pi =>
      obtain ⟨p, i⟩ := pi
      obtain ⟨e1, e2⟩ := kc.framed p i hl
      obtain ⟨hp, hid⟩ := I2.l2 k p i hl
      rw [e1]
      refine ok_bnd.2 (ok_true rfl ?_)
      simp only [bnd_as, bnd_ret]
      refine ok_tord C fun o w3 C => ?_
      refine ok_drfP ?_
      refine ok_tld C kc.ctx (x := pt (some p)) (by rw [← e1]; rfl) ?_
      refine ok_drfP ?_
      refine ok_tld C kc.ctx (x := (i : Int)) (by rw [← e2]; rfl) ?_
      refine ok_tcall C (part_spec C.th I2 hA2 hp (Nat.le_of_lt (get_lt hid))) ?_
      rintro _ w4 T4 C ⟨S4, cx4, hext4, I4, A4⟩
      refine ok_ret.2 ?_
      exact last C hext4 I4 A4 (cutL_gone hl (Nat.le_refl _))
  by_cases hd : d = 0
  · rw [if_pos hd]
    refine ok_bnd.2 (ok_false (by simpa using hd) (ok_ret.2 ?_))
    exact fin (y := none) (s := none) C (fun _ _ h => h) I hA rfl (by simp) (by simp)
  · rw [if_neg hd]
    refine ok_bnd.2 (ok_true (by simpa using hd) ?_)
    refine ok_tcall C (of_spec C.th I d) ?_
    rintro r w2 T2 C ⟨rfl, ⟨j, b, g1, g2, g3, rfl⟩ | ⟨e, g1, g2, rfl⟩⟩
    rotate_left
    · rw [g1]
      exact ok_true (by simpa using g2) (ok_ret.2 (ok_ret.2 ⟨_, C, rfl, hs0⟩))
    rw [g1]
    refine ok_false rfl ?_
    refine ok_tcall C (hB hd C.th hf I g3 g2 h3) ?_
    rintro r w3 T3 C ⟨rfl, cx3, hext3, I3⟩
    simp only
    cases hbh : A.behind j k with
    | true =>
      rw [if_pos rfl]
      exact ok_true rfl (ok_ret.2 (ok_ret.2 ⟨_, C, rfl, hf, S, _, I3, hA.ext hext3⟩))
    | false =>
      refine ok_false rfl (ok_ret.2 ?_)
      have hnr : ¬ ∃ l, St.Row A j l k := by
        unfold St.behind at hbh
        simpa using hbh
      exact fin (y := some b) (s := some j) C hext3 I3 (hA.ext hext3) ⟨b, rfl, hext3 _ _ g3⟩ (fun _ h => by rw [Option.some.injEq] at h; subst h; exact g2) (fun _ h => by rw [Option.some.injEq] at h; subst h; exact hnr)
end Go.Proofs.Ytckfidopkajpaaa
