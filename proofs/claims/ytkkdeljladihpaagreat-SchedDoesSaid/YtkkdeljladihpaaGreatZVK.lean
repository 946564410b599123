/-
  Parts of the proof: ZVJ, ZVK. It states what the functions do; no further condition.
-/
import Derived.Test.YtkkdeljladihpaaGreatZVI
set_option linter.unusedVariables false
set_option linter.unusedSimpArgs false
/-
  The document's scheduler: events; what is asked; timers; the time, walked.
-/
namespace Go.Proofs.YtkkdeljladihpaaGreat
namespace R
open Go.Sh Go.RowKit X Y
set_option maxRecDepth 100000
section
variable {w0 w : World} {T0 T U : Hp} {sb : Nat} {S : Sk} {A : St} {α β : Type} {Q : α → World → Prop}
theorem ok_eix {b o : Nat} {i : Int} {p : Nat} (hi : i = p) (hp : p < 64) {f : Addr → Go.Sh.M α} (hq : Ok (f ⟨b, o + p, none⟩) w Q) : Ok (bnd (ixA 64 1 ⟨b, o, none⟩ i) f) w Q := YtkkdeljladihpaaGreat.ok_eix hi hp hq
theorem spl_event {e : Nat} (he : e < S.events.length) (n : Int) : spl (Sk.en S) (4 + e) [.int .i64 n] = Sk.en { S with events := S.events.set e n } := by
  have h1 : S.events = S.events.take e ++ S.events[e] :: S.events.drop (e + 1) := by
    rw [← List.drop_eq_getElem_cons he, List.take_append_drop]
  have h2 : S.events.set e n = S.events.take e ++ n :: S.events.drop (e + 1) := by
    rw [List.set_eq_take_append_cons_drop, if_pos he]
  have e1 : Sk.en S = ([Value.int .i64 S.now, slV S.procs, slV S.excess, slV S.timers] ++ (S.events.take e).map (.int .i64)) ++ Value.int .i64 S.events[e] :: ((S.events.drop (e + 1)).map (.int .i64) ++ [.int .i64 S.last, .int .i64 S.first]) := by
    unfold Sk.en
    conv => lhs; rw [h1]
    simp only [List.map_append, List.map_cons, List.append_assoc, List.cons_append, List.nil_append]
  have e2 : Sk.en { S with events := S.events.set e n } = ([Value.int .i64 S.now, slV S.procs, slV S.excess, slV S.timers] ++ (S.events.take e).map (.int .i64)) ++ Value.int .i64 n :: ((S.events.drop (e + 1)).map (.int .i64) ++ [.int .i64 S.last, .int .i64 S.first]) := by
    unfold Sk.en
    show [Value.int .i64 S.now, slV S.procs, slV S.excess, slV S.timers] ++ (S.events.set e n).map _ ++ _ = _
    rw [h2]
    simp only [List.map_append, List.map_cons, List.append_assoc, List.cons_append, List.nil_append]
  rw [e1, e2]
  exact spl_end (by simp; omega)
theorem listen_spec (C : Tr en w0 T0 w T) (I : Inv T sb S A) (x n : Int) : Ok (f39_Listen (some ⟨sb, 0, none⟩) x n) w (Rq w0 T0 sb (A.listen x n).1 (A.listen x n).2) := by
  unfold f39_Listen St.listen
  refine is_spec C I n ?_
  by_cases hx : x < 0 ∨ x ≥ 64
  · rw [if_pos hx]
    exact ok_true (by rcases hx with h | h <;> simp [h]) (ok_ret.2 ⟨rfl, T, S, C, I⟩)
  rw [if_neg hx]
  refine ok_false (by simp only [not_or] at hx; simp only [hx.1, hx.2, decide_false, cond_false]) ?_
  by_cases hs : n ≠ 0 ∧ A.isSem n = false
  · rw [if_pos hs]
    exact ok_true (by rw [hs.2]; simpa using hs.1) (ok_ret.2 ⟨rfl, T, S, C, I⟩)
  rw [if_neg hs]
  refine ok_false ?_ ?_
  · rw [Bool.cond_false_right]
    cases h : A.isSem n with
    | true => simp
    | false =>
      have : n = 0 := by
        by_cases h0 : n = 0
        · exact h0
        · exact absurd ⟨h0, h⟩ hs
      simp [this]
  obtain ⟨e, rfl⟩ : ∃ e : Nat, x = e := ⟨x.toNat, by omega⟩
  rw [Int.toNat_natCast]
  refine ok_drfS ?_
  rw [addr_add]
  refine ok_eix rfl (by omega) ?_
  rw [Nat.zero_add]
  have he : S.events.length = 64 := by rw [I.events]; exact I.elen
  refine ok_twr0 C (.sch { S with events := S.events.set e n }) I.sch (by rw [en_len]; show 4 + e + 1 ≤ 6 + _; omega) rfl (spl_event (by omega) n) fun w1 C1 => ?_
  exact ok_ret.2 ⟨rfl, _, _, C1, I.turn I.now (by show S.events.set e n = _; rw [I.events]) (by show (A.events.set e n).length = 64; rw [List.length_set]; exact I.elen) I.last I.first rfl rfl rfl rfl rfl rfl⟩
theorem event_spec (C : Tr en w0 T0 w T) (I : Inv T sb S A) (G : Good A) (hr : A.Room 2) (x : Int) : Ok (f41_Event (some ⟨sb, 0, none⟩) x) w (Rq w0 T0 sb (A.event x).1 (A.event x).2) := by
  unfold f41_Event St.event
  by_cases hx : x < 0 ∨ x ≥ 64
  · rw [if_pos (by rcases hx with h | h; exact .inl h; exact .inr (.inl h))]
    refine ok_bnd.2 (ok_true (by rcases hx with h | h <;> simp [h]) (ok_ret.2 ?_))
    exact ok_true rfl (ok_ret.2 ⟨rfl, T, S, C, I⟩)
  refine ok_bnd.2 (ok_false (by simp only [not_or] at hx; simp only [hx.1, hx.2, decide_false, cond_false]) ?_)
  obtain ⟨e, rfl⟩ : ∃ e : Nat, x = e := ⟨x.toNat, by omega⟩
  rw [Int.toNat_natCast]
  have he : S.events.length = 64 := by rw [I.events]; exact I.elen
  have hv : S.events[e]? = some (A.events.getD e 0) := by
    rw [List.getD_eq_getElem?_getD, ← I.events, List.getElem?_eq_getElem (by omega)]; rfl
  refine ok_drfS ?_
  rw [addr_add]
  refine ok_eix rfl (by omega) ?_
  rw [Nat.zero_add]
  refine ok_tld0 C I.sch (rd_event he hv) (ok_ret.2 ?_)
  by_cases h0 : A.events.getD e 0 = 0
  · rw [if_pos (.inr (.inr h0))]
    exact ok_true (by simpa using h0) (ok_ret.2 ⟨rfl, T, S, C, I⟩)
  rw [if_neg (by omega)]
  refine ok_false (by simpa using h0) ?_
  refine ok_drfS ?_
  rw [addr_add]
  refine ok_eix rfl (by omega) ?_
  rw [Nat.zero_add]
  refine ok_tld0 C I.sch (rd_event he hv) ?_
  exact ok_rc (signal_spec C I G hr _) fun w1 T1 S1 C1 I1 => ok_ret.2 ⟨rfl, T1, S1, C1, I1⟩
theorem standing_spec (C : Tr en w0 T0 w T) (I : Inv T sb S A) (hl : A.procs.length ≤ 4096) (n : Int) {f : (Int × (Int × Int)) → Go.Sh.M α} (hq : ∀ w', Tr en w0 T0 w' T → Ok (f (A.standing n)) w' Q) : Ok (bnd (f77_Standing (some ⟨sb, 0, none⟩) n) f) w Q := by
  have hpl := I.procs.len
  refine ok_bnd.2 (ok_mono (Q := fun r w' => r = A.standing n ∧ Tr en w0 T0 w' T) ?_ fun r w' ⟨h1, h2⟩ => by rw [h1]; exact hq w' h2)
  unfold f77_Standing
  refine ok_bnd.2 (ok_mono (Q := fun b w' => w' = w ∧ b = decide (n < 1 ∨ n > A.procs.length)) ?_ ?_)
  · by_cases h : n < 1
    · exact ok_true (by simpa using h) (ok_ret.2 ⟨rfl, by simp [h]⟩)
    · refine ok_false (by simpa using h) ?_
      refine ok_drfS (ok_tld C I.sch (x := S.procs) (rdv_sl (by rfl)) (ok_ret.2 ⟨rfl, ?_⟩))
      rw [hpl, decide_eq_decide]
      exact ⟨fun g => .inr g, fun g => g.resolve_left h⟩
  rintro b w1 ⟨hw, hb⟩
  rw [hw]
  unfold St.standing
  by_cases h : n < 1 ∨ n > A.procs.length
  · rw [if_pos h]
    exact ok_true (by rw [hb]; simpa using h) (ok_ret.2 ⟨rfl, C⟩)
  rw [if_neg h]
  refine ok_false (by rw [hb]; simpa using h) ?_
  refine ok_tdraw C fun w2 C2 => ?_
  refine ok_prd C2 I (n := n.toNat) (by omega) (by omega) (by rw [wI (by omega)]; omega) (j := 1) (t := .int .u8) (x := (A.pr n.toNat).standing) (by decide) (by rfl) ?_
  refine ok_prd C2 I (n := n.toNat) (by omega) (by omega) (by rw [wI (by omega)]; omega) (j := 0) (t := .int .i64) (x := (A.pr n.toNat).prio) (by decide) (by rfl) ?_
  exact ok_ret.2 ⟨rfl, C2⟩
theorem waiting_spec (C : Tr en w0 T0 w T) (I : Inv T sb S A) (G : Good A) (n : Int) {f : (Sl × (Int × Int)) → Go.Sh.M α} (hq : ∀ r w' T', Tr en w0 T0 w' T' → Ex T T' → Rw T' (Ob.ints 0) r (ns (A.waiting n).1) → Ok (f (r, (A.waiting n).2)) w' Q) : Ok (bnd (f78_Waiting (some ⟨sb, 0, none⟩) n) f) w Q := by
  have hl := G.pl
  have hel := G.el
  refine ok_bnd.2 (ok_mono (Q := fun r w' => ∃ T', r.2 = (A.waiting n).2 ∧ Tr en w0 T0 w' T' ∧ Ex T T' ∧ Rw T' (Ob.ints 0) r.1 (ns (A.waiting n).1)) ?_ fun r w' ⟨T', h0, h1, h2, h3⟩ => by
    have : r = (r.1, (A.waiting n).2) := by rw [← h0]
    rw [this]; exact hq r.1 w' T' h1 h2 h3)
  unfold f78_Waiting St.waiting
  refine is_spec C I n ?_
  by_cases hs : A.isSem n = false
  · rw [if_pos hs]
    exact ok_true (by rw [hs]; rfl) (ok_ret.2 ⟨T, rfl, C, Ex.refl T, rw_nil _ _⟩)
  rw [if_neg hs]
  have hs1 : A.isSem n = true := by simpa using hs
  refine ok_false (by rw [hs1]; rfl) ?_
  have hn := isSemR.1 hs1
  have hni : n = (n.toNat : Int) := by omega
  have hw : IntKind.wrap .i64 (n - 1) = (n.toNat : Int) - 1 := by rw [wI (by omega)]; omega
  rw [hw]
  have i1 : 1 ≤ n.toNat := by omega
  have i2 : n.toNat ≤ A.excess.length := by omega
  have hQ := G.wq i1 i2
  rw [← hni] at hQ
  refine ok_bnd.2 (ok_mono (Q := fun r w' => ∃ T', r.2 = (A.ex n.toNat, 0) ∧ Tr en w0 T0 w' T' ∧ Ex T T' ∧ Rw T' (Ob.ints 0) r.1 (ns (A.ord 3 0 n))) ?_ fun r w' ⟨T', h0, h1, h2, h3⟩ => ok_ret.2 ⟨T', h0, h1, h2, h3⟩)
  refine ok_tord C fun o w1 C1 => ?_
  refine ok_drfS (ok_tld C1 I.sch (x := S.excess) (rdv_sl (by rfl)) ?_)
  obtain ⟨b, M, g1, g2, g3, g4⟩ := I.excess.blk (by omega)
  have hle : A.excess.length ≤ M.length := by have := congrArg List.length g4; rw [List.length_take] at this; omega
  refine ok_ixN g1 (by omega) (by rw [I.excess.len]; omega) ?_
  rw [show ((n.toNat : Int) - 1).toNat = n.toNat - 1 by omega, Nat.one_mul]
  have hx : rdv (.int .i64) (en (.exc M)).toArray (n.toNat - 1) = some (A.ex n.toNat) := rdv_int (by
    show (M.flatMap iV).toArray[n.toNat - 1]? = _
    rw [List.getElem?_toArray, flat_iV, List.getElem?_map, ← List.getElem?_take_of_lt (j := A.excess.length) (by omega), g4, List.getElem?_eq_getElem (by omega)]
    unfold St.ex
    rw [List.getD_eq_getElem?_getD, List.getElem?_eq_getElem (by omega)]; rfl)
  refine ok_tld0 C1 g2 hx ?_
  refine waits_spec C1 I hl hQ 0 fun r w2 T2 C2 E2 F2 R2 => ?_
  simp only [bnd_as, bnd_ret]
  refine ok_bnd.2 (ok_chk (C2.th b _ (E2 _ _ g2)).1 hx ?_)
  refine ok_tchk C2 (I.ext E2).sch (m := 0) (k := 2) (x := S.excess) (rdv_sl (by rfl)) ?_
  exact ok_ret.2 ⟨T2, rfl, C2, E2, R2⟩
theorem readies_spec (C : Tr en w0 T0 w T) (I : Inv T sb S A) (G : Good A) {f : Sl → Go.Sh.M α} (hq : ∀ r w' T', Tr en w0 T0 w' T' → Ex T T' → Rw T' (Ob.ints 0) r (ns A.readies) → Ok (f r) w' Q) : Ok (bnd (f79_Ready (some ⟨sb, 0, none⟩)) f) w Q := by
  have hl := G.pl
  refine ok_bnd.2 (ok_mono (Q := fun r w' => ∃ T', Tr en w0 T0 w' T' ∧ Ex T T' ∧ Rw T' (Ob.ints 0) r (ns A.readies)) ?_ fun r w' ⟨T', h1, h2, h3⟩ => hq r w' T' h1 h2 h3)
  unfold f79_Ready
  refine ok_loopN (fun m (st : Sl × Int) w' => ∃ (l : List Nat) (T' : Hp), st.2 = (m : Int) ∧ m ≤ 16 ∧ l.length ≤ 4096 * (16 - m) ∧ l ++ A.readyN m = A.readies ∧ Tr en w0 T0 w' T' ∧ Ex T T' ∧ Fr T st.1 ∧ Rw T' (Ob.ints 0) st.1 (ns l)) ?_ 16 (⟨none, 0, 0⟩, 16) w ⟨[], T, rfl, Nat.le_refl _, by simp, rfl, C, Ex.refl T, fr_nil T, rw_nil _ _⟩
  rintro m ⟨s1, i⟩ w1 ⟨l, T1, h1, h2, h3, h4, C1, E1, F1, R1⟩
  simp only at h1 F1 R1
  subst h1
  cases m with
  | zero =>
    refine ok_false (by rfl) (ok_ret.2 ⟨T1, C1, E1, ?_⟩)
    rw [← h4]
    show Rw T1 _ s1 (ns (l ++ []))
    rw [List.append_nil]; exact R1
  | succ m =>
    refine ok_true (by simp; omega) ?_
    have hQ := G.rq (p := m + 1) (by omega)
    refine queue_spec C1 (I.ext E1) hl hQ 1 fun r w2 T2 C2 E2 F2 R2 => ?_
    have hql := hQ.len
    refine ok_appI C2 (E1.trans E2) F1 (E2.rw R1) R2 (by rw [ns_length, ns_length]; omega) fun r3 w3 T3 C3 R3 E3 F3 _ => ok_ret.2 ⟨m, Nat.lt_succ_self m, l ++ A.ord 1 ((m + 1 : Nat) : Int) 0, T3, by show IntKind.wrap .i64 _ = _; rw [wI (by omega)]; omega, by omega, by rw [List.length_append]; omega, ?_, C3, E3, F3, ?_⟩
    · rw [← h4, List.append_assoc]; rfl
    · show Rw T3 _ r3 (ns (l ++ _))
      unfold ns at R3 ⊢
      rw [List.map_append]; exact R3
theorem ok_tget (C : Tr en w0 T0 w T) {s : Sl} {l : List Tm} (R : Rw T Ob.tms s l) {i : Nat} (hi : i < l.length) {y : Int} (hy : y = i) {j : Nat} {x : Int} (hj : j + 1 ≤ 3) (hx : rdv (.int .i64) (Tm.en l[i]).toArray j = some x) {f : Int → Go.Sh.M α} (hq : Ok (f x) w Q) : Ok (bnd (ix 3 s y) fun (p : Addr) => bnd (ld (.int .i64) (Addr.add p j)) f) w Q :=
  ok_get C (g := Tm.en) (n := 3) (mk := Ob.tms) (fun _ => rfl) (fun _ => rfl) R (List.getElem?_eq_getElem hi) (t := .int .i64) hj hx hy hq
theorem next_spec (C : Tr en w0 T0 w T) (hs : T sb = some (.sch S)) {l : List Tm} (R : Rw T Ob.tms S.timers l) (hl : l.length ≤ 4096) {f : Int → Go.Sh.M α} (hq : ∀ w', Tr en w0 T0 w' T → Ok (f (St.nextI l)) w' Q) : Ok (bnd (f51_next (some ⟨sb, 0, none⟩)) f) w Q := by
  have hpl := R.len
  refine ok_bnd.2 (ok_mono (Q := fun r w' => r = St.nextI l ∧ Tr en w0 T0 w' T) ?_ fun r w' ⟨h1, h2⟩ => by rw [h1]; exact hq w' h2)
  unfold f51_next
  refine ok_loopN (fun m (st : Int × Int) w' => ∃ (i : Nat), st.2 = i ∧ st.1 = St.nextN l i ∧ i ≤ l.length ∧ m = l.length - i ∧ Tr en w0 T0 w' T) ?_ l.length (-1, 0) w ⟨0, rfl, rfl, Nat.zero_le _, rfl, C⟩
  rintro m ⟨b1, i'⟩ w1 ⟨i, h1, h2, hi, rfl, C1⟩
  simp only at h1 h2
  subst h1 h2
  dsimp only
  refine ok_drfS (ok_tld C1 hs (x := S.timers) (rdv_sl (by rfl)) ?_)
  by_cases hlt : i < l.length
  · refine ok_true (by rw [hpl]; simpa using hlt) ?_
    refine ok_tdraw C1 fun w2 C2 => ?_
    have hst : St.nextN l (i + 1) = if St.nextN l i < 0 ∨ (St.nthT l i).time < (St.nthT l (St.nextN l i)).time then (i : Int) else St.nextN l i := by
      conv => lhs; unfold St.nextN
    have hw : IntKind.wrap .i64 ((i : Int) + 1) = ((i + 1 : Nat) : Int) := by rw [wI (by omega)]; simp
    refine ok_bnd.2 (ok_mono (Q := fun b w' => w' = w2 ∧ b = decide (St.nextN l i < 0 ∨ (St.nthT l i).time < (St.nthT l (St.nextN l i)).time)) ?_ ?_)
    · by_cases h0 : St.nextN l i < 0
      · exact ok_true (by simpa using h0) (ok_ret.2 ⟨rfl, by simp [h0]⟩)
      · refine ok_false (by simpa using h0) ?_
        obtain ⟨k, hk, hk2⟩ : ∃ k : Nat, St.nextN l i = (k : Int) ∧ k < i := by
          rcases nextN_spec l i hi with ⟨g1, g2⟩ | ⟨k, g1, g2, _⟩
          · rw [g2] at h0; exact absurd (by decide) h0
          · exact ⟨k, g2, g1⟩
        refine ok_drfS (ok_tld C2 hs (x := S.timers) (rdv_sl (by rfl)) ?_)
        refine ok_tget C2 R hlt rfl (j := 0) (x := l[i].time) (by decide) (by rfl) ?_
        refine ok_drfS (ok_tld C2 hs (x := S.timers) (rdv_sl (by rfl)) ?_)
        refine ok_tget C2 R (i := k) (by omega) hk (j := 0) (x := (l[k]'(by omega)).time) (by decide) (by rfl) ?_
        refine ok_ret.2 ⟨rfl, ?_⟩
        rw [hk, nthT_nat hlt, nthT_nat (i := k) (by omega), decide_eq_decide]
        exact ⟨fun h => .inr h, fun h => h.resolve_left (by omega)⟩
    rintro b w3 ⟨hw3, hb⟩
    rw [hw3]
    by_cases hc : St.nextN l i < 0 ∨ (St.nthT l i).time < (St.nthT l (St.nextN l i)).time
    · rw [if_pos hc] at hst
      exact ok_bnd.2 (ok_true (by rw [hb]; simpa using hc) (ok_ret.2 (ok_ret.2 ⟨l.length - (i + 1), by omega, i + 1, hw, hst.symm, by omega, rfl, C2⟩)))
    · rw [if_neg hc] at hst
      exact ok_bnd.2 (ok_false (by rw [hb]; simpa using hc) (ok_ret.2 (ok_ret.2 ⟨l.length - (i + 1), by omega, i + 1, hw, hst.symm, by omega, rfl, C2⟩)))
  · refine ok_false (by rw [hpl]; simpa using hlt) (ok_ret.2 ⟨?_, C1⟩)
    have : i = l.length := by omega
    subst this; rfl
theorem nextI_cases (l : List Tm) : (l = [] ∧ St.nextI l = -1) ∨ (∃ i : Nat, i < l.length ∧ St.nextI l = (i : Int)) := by
  rcases nextI_spec l with h | ⟨i, hi, h, _⟩
  · exact .inl h
  · exact .inr ⟨i, hi, h⟩
theorem Next_spec (C : Tr en w0 T0 w T) (I : Inv T sb S A) (hl : A.timers.length ≤ 4096) {f : (Int × Bool) → Go.Sh.M α} (hq : ∀ w', Tr en w0 T0 w' T → Ok (f A.next) w' Q) : Ok (bnd (f81_Next (some ⟨sb, 0, none⟩)) f) w Q := by
  refine ok_bnd.2 (ok_mono (Q := fun r w' => r = A.next ∧ Tr en w0 T0 w' T) ?_ fun r w' ⟨h1, h2⟩ => by rw [h1]; exact hq w' h2)
  unfold f81_Next St.next
  refine next_spec C I.sch I.timers hl fun w1 C1 => ?_
  rcases nextI_cases A.timers with ⟨_, h⟩ | ⟨i, hi, h⟩
  · rw [h, if_pos (by decide)]
    exact ok_true rfl (ok_ret.2 ⟨rfl, C1⟩)
  · rw [h, if_neg (by omega), nthT_nat hi]
    refine ok_false (by simp) ?_
    refine ok_drfS (ok_tld C1 I.sch (x := S.timers) (rdv_sl (by rfl)) ?_)
    exact ok_tget C1 I.timers hi rfl (j := 0) (x := A.timers[i].time) (by decide) (by rfl) (ok_ret.2 ⟨rfl, C1⟩)
/-- Cut. -/
theorem ok_pre {sz : Nat} {s : Sl} {hi : Nat} {f : Sl → Go.Sh.M α} (h2 : hi ≤ s.cap) (hq : Ok (f ⟨s.a, hi, s.cap⟩) w Q) : Ok (bnd (slc sz s none (some (hi : Int)) none) f) w Q := by
  refine ok_bnd.2 ?_
  unfold slc
  refine ok_bnd.2 (ok_ret.2 ?_)
  refine ok_bnd.2 (ok_bound (v := (hi : Int)) (by omega) (by omega) ?_)
  refine ok_bnd.2 (ok_ret.2 ?_)
  refine ok_ret.2 ?_
  have e : (⟨if s.cap = 0 then s.a else s.a.map (·.add (0 * sz)), (hi : Int).toNat - 0, s.cap - 0⟩ : Sl) = ⟨s.a, hi, s.cap⟩ := by
    rw [Int.toNat_natCast, Nat.sub_zero, Nat.sub_zero]
    congr 1
    split
    · rfl
    · rw [Nat.zero_mul]
      cases s.a with
      | none => rfl
      | some a => cases a with | mk b o sp => simp [Addr.add]
  rw [e]; exact hq
def suf (sz : Nat) (s : Sl) (lo : Nat) : Sl := ⟨if s.cap = lo then s.a else s.a.map (·.add (lo * sz)), s.len - lo, s.cap - lo⟩
theorem ok_suf {sz : Nat} {s : Sl} {lo : Nat} {f : Sl → Go.Sh.M α} (h1 : lo ≤ s.len) (h2 : s.len ≤ s.cap) (hq : Ok (f (suf sz s lo)) w Q) : Ok (bnd (slc sz s (some (lo : Int)) none none) f) w Q := by
  refine ok_bnd.2 ?_
  unfold slc
  refine ok_bnd.2 (ok_ret.2 ?_)
  refine ok_bnd.2 (ok_ret.2 ?_)
  refine ok_bnd.2 (ok_bound (v := (lo : Int)) (by omega) (by omega) ?_)
  rw [Int.toNat_natCast]
  exact ok_ret.2 hq
theorem srcSuf (h : Th en w T) {q : Sl} {l : List Tm} (hq : Rw T Ob.tms q l) {lo : Nat} (h0 : 0 < l.length) (hlo : lo ≤ l.length) : Src Tryz.prog 3 29 (.slice (suf 3 q lo).a (suf 3 q lo).len (suf 3 q lo).cap) (l.drop lo).length ((l.drop lo).flatMap Tm.en) w := by
  obtain ⟨b, M, g1, g2, g3, g4⟩ := hq.blk h0
  have hlen := hq.len
  have hle := hq.le
  have e1 : (suf 3 q lo).len = (l.drop lo).length := by simp only [suf, List.length_drop]; omega
  rw [e1]
  obtain ⟨a, ha⟩ : ∃ a, (suf 3 q lo).a = some a := by
    unfold suf; rw [g1]; split
    · exact ⟨_, rfl⟩
    · exact ⟨_, rfl⟩
  rw [ha]
  refine Src.ofSlice w row29.und a (l.drop lo).length _ _ (by rw [flat_length row29.len]; omega) (fun j u hj => ?_) (flat_one' row29.one)
  have hjl : j < 3 * (l.drop lo).length := by
    rcases Nat.lt_or_ge j (3 * (l.drop lo).length) with h | h
    · exact h
    · rw [List.getElem?_eq_none (by rw [flat_length row29.len]; exact h)] at hj; cases hj
  have hll : (l.drop lo).length = l.length - lo := List.length_drop
  have ha2 : a = ⟨b, 3 * lo, none⟩ := by
    unfold suf at ha
    rw [g1] at ha
    simp only at ha
    rw [if_neg (by omega)] at ha
    simp only [Option.map_some, Option.some.injEq] at ha
    rw [← ha, addr_add, Nat.zero_add, Nat.mul_comm]
  subst ha2
  rw [addr_add, cell_blk (h b _ g2).1, List.getElem?_toArray]
  show (M.flatMap Tm.en)[3 * lo + j]? = _
  rw [← hj, ← flat_drop row29.len, List.getElem?_drop, ← g4]
  have hd : j = 3 * (j / 3) + j % 3 := (Nat.div_add_mod j 3).symm
  have hm : j % 3 < 3 := Nat.mod_lt _ (by decide)
  have hk : lo + j / 3 < l.length := by omega
  have e3 : 3 * lo + j = 3 * (lo + j / 3) + j % 3 := by omega
  have hlM : l.length ≤ M.length := by have := congrArg List.length g4; rw [List.length_take] at this; omega
  have hF : M[lo + j / 3]? = some (M[lo + j / 3]'(by omega)) := List.getElem?_eq_getElem (by omega)
  have hF2 : (M.take l.length)[lo + j / 3]? = some (M[lo + j / 3]'(by omega)) := by rw [List.getElem?_take_of_lt hk]; exact hF
  rw [e3, flat_get row29.len hF hm, flat_get row29.len hF2 hm]
/-- The timers ahead of one, those behind it. -/
theorem ok_cut1 (C : Tr en w0 T0 w T) {s : Sl} {l : List Tm} (R : Rw T Ob.tms s l) (hl : l.length ≤ 4096) {i : Nat} (hi : i < l.length) {f : Sl → Go.Sh.M α} (hq : ∀ r w' T', Tr en w0 T0 w' T' → Ex T T' → Fr T r → Rw T' Ob.tms r (l.take i) → Ok (f r) w' Q) :
    Ok (bnd (slc 3 s none (some (i : Int)) none) fun (v : Sl) => bnd (runV Tryz.prog .sl (Builtin.append_ #[29, 29] 29 #[.slice none 0 0, .slice v.a v.len v.cap])) f) w Q := by
  have hlen := R.len; have hle := R.le
  refine ok_pre (by omega) ?_
  have hs := srcT C.th (R.take i (by omega))
  exact ok_appF C row29 (mk := Ob.tms) (fun _ => rfl) (Ex.refl T) (fr_nil T) (rw_nil T Ob.tms) hs (by simp; omega) (by simp; omega) fun r w' T' C' R' E' F' _ => hq r w' T' C' E' F' R'
theorem ok_cut2 (C : Tr en w0 T0 w T) (E : Ex U T) {s r : Sl} {l l1 : List Tm} (R : Rw T Ob.tms s l) (hl : l.length ≤ 4096) (hl1 : l1.length ≤ 4096) (F1 : Fr U r) (R1 : Rw T Ob.tms r l1) {i : Nat} (hi : i < l.length) {f : Sl → Go.Sh.M α} (hq : ∀ r' w' T', Tr en w0 T0 w' T' → Ex U T' → Fr U r' → Rw T' Ob.tms r' (l1 ++ l.drop (i + 1)) → Ok (f r') w' Q) :
    Ok (bnd (slc 3 s (some (IntKind.wrap .i64 ((i : Int) + 1))) none none) fun (v : Sl) => bnd (runV Tryz.prog .sl (Builtin.append_ #[29, 29] 29 #[.slice r.a r.len r.cap, .slice v.a v.len v.cap])) f) w Q := by
  have hlen := R.len; have hle := R.le
  have hw : IntKind.wrap .i64 ((i : Int) + 1) = ((i + 1 : Nat) : Int) := by rw [wI (by omega)]; simp
  rw [hw]
  refine ok_suf (by omega) hle ?_
  have hs := srcSuf C.th R (lo := i + 1) (by omega) (by omega)
  exact ok_appF C row29 (mk := Ob.tms) (fun _ => rfl) E F1 R1 hs (by simp; omega) (by simp; omega) fun r w' T' C' R' E' F' _ => hq r w' T' C' E' F' R'
theorem Good.signal0 (G : Good A) (n : Int) : Good (A.signal0 n).2 := by
  obtain ⟨X, M, F⟩ := G
  exact ⟨_, (M.signal0 F n).2, F.signal0 n⟩
theorem Good.pop (G : Good A) {i : Nat} (hi : St.nextI A.timers = (i : Int)) : Good ({ A with timers := St.less A.timers i } : St) := by
  obtain ⟨X, M, F⟩ := G
  have hne : X.timers ≠ [] := fun h => by have := M.tms.none h; omega
  obtain ⟨k, hk, h1, _, _, _, h5⟩ := M.tms.pop hne
  have : k = i := by omega
  subst this
  exact ⟨{ X with timers := (YtkkdeljladihpaaGreat.St.popT X.timers).2 }, ⟨M.now, M.events, M.exc, M.len, M.prio, M.std, M.que, M.wqs, M.qk, M.wk, h5, M.fl⟩, F.pop hne⟩
theorem Good.at_now (G : Good A) (n : Int) : Good ({ A with now := n } : St) := by
  obtain ⟨X, M, F⟩ := G
  exact ⟨{ X with now := n }, ⟨rfl, M.events, M.exc, M.len, M.prio, M.std, M.que, M.wqs, M.qk, M.wk, M.tms, M.fl⟩, F.act, F.prio, F.que, F.nodup, F.inq, F.only, F.wtg, F.nwt, F.wq, F.wnd, F.exc, F.tms, F.evs, F.few⟩
theorem tms_signal0 (A : St) (n : Int) : (A.signal0 n).2.timers = A.timers := by
  unfold St.signal0
  split
  · rfl
  split
  · rfl
  · split
    · rfl
    · rfl
theorem less_len {l : List Tm} {i : Nat} (hi : i < l.length) : (St.less l i).length + 1 = l.length := by
  unfold St.less; simp; omega
set_option maxHeartbeats 1000000 in
theorem tick_spec (C : Tr en w0 T0 w T) (I : Inv T sb S A) (G : Good A) (hr : A.Room 4098) (n : Int) : Ok (f37_Tick (some ⟨sb, 0, none⟩) n) w (Rq w0 T0 sb (A.tick n).1 (A.tick n).2) := by
  unfold f37_Tick St.tick
  refine ok_drfS (ok_tld C I.sch (m := 0) (k := 0) (t := .int .i64) (x := S.now) (by rfl) ?_)
  rw [I.now]
  by_cases hn : n < A.now ∨ n > 1152921504606846976
  · rw [if_pos hn]
    exact ok_true (by rw [Bool.cond_true_left]; simpa using hn) (ok_ret.2 ⟨rfl, T, S, C, I⟩)
  rw [if_neg hn]
  refine ok_false (by rw [Bool.cond_true_left]; simp; omega) ?_
  refine ok_drfS (ok_twr C (m := 0) (k := 0) (.sch { S with now := n }) I.sch (by rw [en_len]; show 0 + 0 + 1 ≤ 6 + _; omega) rfl rfl fun w1 C1 => ?_)
  have I1 : Inv (put T sb (.sch { S with now := n })) sb { S with now := n } ({ A with now := n } : St) := I.turn rfl I.events I.elen I.last I.first rfl rfl rfl rfl rfl rfl
  refine ok_loopN (fun m (k : Int) w' => ∃ (B : St) (T' : Hp) (S' : Sk), 0 ≤ k ∧ k + m ≤ 4096 ∧ m = B.timers.length ∧ Tr en w0 T0 w' T' ∧ Inv T' sb S' B ∧ Good B ∧ B.Room ((m : Int) + 2) ∧ St.ticks n m B k = St.ticks n A.timers.length { A with now := n } 0) ?_ A.timers.length 0 w1 ⟨{ A with now := n }, _, _, Int.le_refl _, by have := G.tl; omega, rfl, C1, I1, G.at_now n, by have := G.tl; unfold St.Room at *; show 0 ≤ A.last ∧ A.last + _ ≤ _ ∧ A.first ≤ 0 ∧ _ ≤ A.first - _; omega, rfl⟩
  clear C1 I1
  rintro m k w2 ⟨B, T2, S2, hk0, hkm, hm, C2, I2, G2, hr2, heq⟩
  have htl := G2.tl
  refine next_spec C2 I2.sch I2.timers htl fun w3 C3 => ?_
  have hend : (¬ (0 ≤ St.nextI B.timers ∧ (St.nthT B.timers (St.nextI B.timers)).time ≤ n)) → St.ticks n m B k = (B, k) := fun h => by
    cases m with
    | zero => rfl
    | succ m => conv => lhs; unfold St.ticks
                rw [if_neg h]
  have fin : St.ticks n m B k = (B, k) → Ok (bnd (bnd (f71_runs (some ⟨sb, 0, none⟩)) fun (r11 : Unit) => ret (k, (0 : Int))) fun r12 => ret (Sum.inr r12 : Int ⊕ (Int × Int))) w3 (fun r w' => ∃ x, r = Sum.inr x ∧ Rq w0 T0 sb (((St.ticks n A.timers.length { A with now := n } 0).2, (0 : Int))) (St.ticks n A.timers.length { A with now := n } 0).1.runs x w') := fun h => by
    rw [h] at heq
    rw [← heq]
    simp only [bnd_as, bnd_ret]
    exact ok_rc (runs_spec C3 I2 G2.pl (by unfold St.Room at *; omega)) fun w4 T4 S4 C4 I4 => ok_ret.2 ⟨_, rfl, rfl, T4, S4, C4, I4⟩
  rcases nextI_cases B.timers with ⟨hl0, h⟩ | ⟨i, hi, h⟩
  · refine ok_bnd.2 (ok_true (by rw [h]; rfl) (ok_ret.2 ?_))
    exact ok_true rfl (ok_mono (fin (hend (by rw [h]; omega))) fun r w' ⟨x, hx, hq⟩ => by subst hx; exact hq)
  rw [h] at hend ⊢
  rw [nthT_nat hi] at hend
  refine ok_bnd.2 (ok_false (by simp) ?_)
  refine ok_drfS (ok_tld C3 I2.sch (x := S2.timers) (rdv_sl (by rfl)) ?_)
  refine ok_tget C3 I2.timers hi rfl (j := 0) (x := B.timers[i].time) (by decide) (by rfl) (ok_ret.2 ?_)
  by_cases hc : B.timers[i].time > n
  · exact ok_true (by simpa using hc) (ok_mono (fin (hend (by omega))) fun r w' ⟨x, hx, hq⟩ => by subst hx; exact hq)
  refine ok_false (by simpa using hc) ?_
  refine ok_drfS (ok_tld C3 I2.sch (x := S2.timers) (rdv_sl (by rfl)) ?_)
  refine ok_tget C3 I2.timers hi rfl (j := 1) (x := B.timers[i].sem) (by decide) (by rfl) ?_
  refine ok_drfS (ok_tld C3 I2.sch (x := S2.timers) (rdv_sl (by rfl)) ?_)
  refine ok_cut1 C3 I2.timers htl hi fun r4 w4 T4 C4 E4 F4 R4 => ?_
  have I4 := I2.ext E4
  refine ok_drfS (ok_tld C4 I4.sch (x := S2.timers) (rdv_sl (by rfl)) ?_)
  refine ok_cut2 C4 E4 I4.timers htl (by simp; omega) F4 R4 hi fun r5 w5 T5 C5 E5 F5 R5 => ?_
  have I5 := I2.ext E5
  refine ok_drfS (ok_twr C5 (m := 0) (k := 3) (.sch { S2 with timers := r5 }) I5.sch (by rw [en_len]; show 0 + 3 + 1 ≤ 6 + _; omega) rfl rfl fun w6 C6 => ?_)
  have keep := sch_keep (S' := { S2 with timers := r5 }) I5.sch
  have I6 : Inv (put T5 sb (.sch { S2 with timers := r5 })) sb { S2 with timers := r5 } ({ B with timers := St.less B.timers i } : St) :=
    ⟨put_eq _ _ _, I2.now, I2.events, I2.elen, I2.last, I2.first, I5.procs.mono fun c l _ hc => keep _ _ hc (by simp), I5.excess.mono fun c l _ hc => keep _ _ hc (by simp), R5.mono fun c l _ hc => keep _ _ hc (by simp)⟩
  have G6 := G2.pop h
  refine ok_rc (signal0_spec C6 I6 G6 (by unfold St.Room at *; show 0 ≤ B.last ∧ B.last + _ ≤ _ ∧ B.first ≤ 0 ∧ _ ≤ B.first - _; omega) _) fun w7 T7 S7 C7 I7 => ?_
  have hll := less_len hi
  have hg := gr_signal0 ({ B with timers := St.less B.timers i } : St) B.timers[i].sem
  refine ok_ret.2 ⟨m - 1, by omega, _, T7, S7, ?_, ?_, ?_, C7, I7, G6.signal0 _, ?_, ?_⟩
  · rw [wI (by omega)]; omega
  · rw [wI (by omega)]; omega
  · rw [tms_signal0]; show m - 1 = (St.less B.timers i).length; omega
  · have h1 := hg.last; have h2 := hg.first
    have h1 : B.last ≤ _ ∧ _ ≤ B.last + 1 := h1
    have h2 : _ ≤ B.first ∧ B.first - 1 ≤ _ := h2
    unfold St.Room at *
    have e : ((m - 1 : Nat) : Int) = (m : Int) - 1 := by omega
    rw [e]
    omega
  · rw [← heq, wI (by omega)]
    obtain ⟨m', rfl⟩ : ∃ m', m = m' + 1 := ⟨m - 1, by omega⟩
    conv => rhs; unfold St.ticks
    rw [h, nthT_nat hi, if_pos ⟨by omega, by omega⟩, Int.toNat_natCast]
    rfl
end
end R
end Go.Proofs.YtkkdeljladihpaaGreat

/-
  The document's scheduler: all of it as numbers, walked.
-/
namespace Go.Proofs.YtkkdeljladihpaaGreat
namespace R
open Go.Sh Go.RowKit X Y
set_option maxRecDepth 100000
def prR (p : Pr) : List Int := [p.prio, p.standing]
noncomputable def rsm (B : St) : Nat → List Int
  | 0 => []
  | i + 1 => rsm B i ++ (B.ex (i + 1) :: qL (B.ord 3 0 ((i + 1 : Nat) : Int)))
noncomputable def rqs (B : St) : Nat → List Int
  | 0 => []
  | p + 1 => rqs B p ++ qL (B.ord 1 ((p + 1 : Nat) : Int) 0)
def hd0 (B : St) : List Int := [B.now, (B.active : Int), (B.procs.length : Int)]
def hd1 (B : St) : List Int := hd0 B ++ B.procs.flatMap prR ++ [(B.excess.length : Int)]
noncomputable def hd2 (B : St) : List Int := hd1 B ++ rsm B B.excess.length
noncomputable def hd3 (B : St) : List Int := hd2 B ++ rqs B 16 ++ [(B.timers.length : Int)]
noncomputable def rstateL (B : St) : List Int := hd3 B ++ selL B.timers.length B.timers ++ [(((evK 0 B.events).length / 2 : Nat) : Int)] ++ evK 0 B.events
theorem prR_len (l : List Pr) : (l.flatMap prR).length = 2 * l.length := flat_length (g := fun p => (prR p).map (Value.int .i64)) (n := 2) (fun _ => rfl) l |> fun h => by
  rw [← h]
  induction l with
  | nil => rfl
  | cons a l ih => rw [List.flatMap_cons, List.flatMap_cons, List.length_append, List.length_append, ih (by rw [flat_length (g := fun p => (prR p).map (Value.int .i64)) (n := 2) (fun _ => rfl)])]; simp
theorem qL_len (l : List Nat) : (qL l).length = l.length + 1 := by simp [qL, ns]
theorem rsm_len {B : St} (G : Good B) : ∀ i, i ≤ B.excess.length → (rsm B i).length ≤ 4098 * i
  | 0, _ => by simp [rsm]
  | i + 1, h => by
    have ih := rsm_len G i (by omega)
    have := (G.wq (i := i + 1) (by omega) h).len
    have := G.pl
    unfold rsm
    rw [List.length_append, List.length_cons, qL_len]; omega
theorem rqs_len {B : St} (G : Good B) : ∀ p, (rqs B p).length ≤ 4098 * p
  | 0 => by simp [rqs]
  | p + 1 => by
    have ih := rqs_len G p
    have := (G.rq (p := p + 1) (by omega)).len
    have := G.pl
    unfold rqs
    rw [List.length_append, qL_len]; omega
section
variable {w0 w : World} {T0 T U : Hp} {sb : Nat} {S : Sk} {A : St} {α β : Type} {Q : α → World → Prop}
/-- What is kept by what is appended to a row. -/
theorem Ka.keep {A' : Type} {mk : List A' → Ob} {T' : Hp} {s : Sl} {l : List A'} (K : Ka s T T') (h : Rw T mk s l) {c : Nat} {p : Ob} (hc : T c = some p) (hne : ∀ l, p ≠ mk l) : T' c = some p := by
  refine K c p hc fun e => ?_
  rcases h.at_ with ⟨h1, _⟩ | ⟨b, L, h1, h2, _⟩
  · rw [h1] at e; cases e
  · rw [h1] at e
    simp only [Option.some.injEq, Addr.mk.injEq, and_true] at e
    subst e
    rw [hc, Option.some.injEq] at h2
    exact hne _ h2
theorem Ka.rw {A' B' : Type} {mk : List A' → Ob} {mk' : List B' → Ob} {T' : Hp} {s x : Sl} {l : List A'} {ys : List B'} (K : Ka s T T') (h : Rw T mk s l) (hx : Rw T mk' x ys) (hne : ∀ L l, mk' L ≠ mk l) : Rw T' mk' x ys :=
  hx.mono fun b L _ hb => K.keep h hb (hne L)
theorem ok_threeI (C : Tr en w0 T0 w T) (k : Nat) {l m n : Int} {f : Sl → Go.Sh.M α} (hq : ∀ v w' T', Tr en w0 T0 w' T' → Ex T T' → Fr T v → Rw T' (Ob.ints k) v [l, m, n] → Ok (f v) w' Q) : Ok (bnd (runV Tryz.prog .sl (Instr.buildSlice 28 3 #[(0, .int .i64 l), (1, .int .i64 m), (2, .int .i64 n)])) f) w Q := by
  refine ok_bnd.2 (ok_buildL3 slt31 _ _ _ rfl rfl rfl ?_)
  refine hq _ _ _ (C.alloc (.ints k [l, m, n]) 3) (Ex.put C.none_at) (fun b hb => ?_) ⟨rfl, Nat.le_refl _, by show 3 ≤ maxLen; decide, .inr ⟨_, [l, m, n], rfl, put_eq _ _ _, rfl, rfl⟩⟩
  simp only [Option.some.injEq, Addr.mk.injEq, and_true] at hb
  rw [← hb]; exact C.none_at
theorem ok_pchk (C : Tr en w0 T0 w T) (I : Inv T sb S A) {n b : Nat} (h1 : 1 ≤ n) (h2 : n ≤ A.procs.length) (hb : S.procs.a = some ⟨b, 0, none⟩) {j : Nat} {t : Ty} {x : t.den} (hj : j + t.size ≤ 4) (hx : rdv t (Pr.en (A.pr n)).toArray j = some x) {f : Unit → Go.Sh.M α} (hq : Ok (f ()) w Q) : Ok (bnd (chk t (Addr.add ⟨b, 4 * (n - 1), none⟩ j) x) f) w Q := by
  obtain ⟨b', M, g1, g2, g3, g4⟩ := I.procs.blk (by omega)
  rw [hb] at g1
  simp only [Option.some.injEq, Addr.mk.injEq, and_true] at g1
  subst g1
  have hM : M[n - 1]? = some (A.pr n) := by rw [← List.getElem?_take_of_lt (j := A.procs.length) (by omega), g4]; exact pr_get h1 h2
  exact ok_tchk C g2 (flat_rdv (g := Pr.en) (fun _ => rfl) hM hj hx) hq
theorem Good.st (G : Good A) {n : Nat} (h1 : 1 ≤ n) (h2 : n ≤ A.procs.length) : 0 ≤ (A.pr n).standing ∧ (A.pr n).standing ≤ 5 := by
  obtain ⟨X, M, F⟩ := G
  rw [M.len] at h2
  rw [(M.std n h1 h2 (by omega)).1]
  have := F.pr_ok h1 h2
  omega
def Sk0 : Sk := ⟨0, ⟨none, 0, 0⟩, ⟨none, 0, 0⟩, ⟨none, 0, 0⟩, List.replicate 64 0, 0, 0⟩
set_option maxHeartbeats 4000000 in
theorem state_spec (C : Tr en w0 T0 w T) (I : Inv T sb S A) (G : Good A) {f : Sl → Go.Sh.M α} (hq : ∀ r w' T', Tr en w0 T0 w' T' → Ex T T' → Rw T' (Ob.ints 0) r (rstateL A) → Ok (f r) w' Q) : Ok (bnd (f10_State (some ⟨sb, 0, none⟩)) f) w Q := by
  have hl := G.pl
  have hel := G.el
  have htl := G.tl
  have hSe : S.events.length = 64 := by rw [I.events]; exact I.elen
  have hpl := I.procs.len
  have hexl := I.excess.len
  have html := I.timers.len
  have lr := rsm_len G A.excess.length (Nat.le_refl _)
  have lq := rqs_len G 16
  have lp := prR_len A.procs
  have l1 : (hd1 A).length = 4 + 2 * A.procs.length := by unfold hd1 hd0; simp only [List.length_append, List.length_cons, List.length_nil]; omega
  have l2 : (hd2 A).length ≤ 20000000 := by unfold hd2; rw [List.length_append]; omega
  have l3 : (hd3 A).length ≤ 21000000 := by unfold hd3; simp only [List.length_append, List.length_cons, List.length_nil]; omega
  obtain ⟨Fin, hFin⟩ : ∃ Fin : Sl → World → Prop, Fin = fun r w' => ∃ T', Tr en w0 T0 w' T' ∧ Ex T T' ∧ Rw T' (Ob.ints 0) r (rstateL A) := ⟨_, rfl⟩
  refine ok_bnd.2 (ok_mono (Q := Fin) ?_ fun r w' h => by rw [hFin] at h; obtain ⟨T', h1, h2, h3⟩ := h; exact hq r w' T' h1 h2 h3)
  unfold f10_State
  refine ok_bnd.2 (ok_mono (Q := fun r w' => ∃ T', Tr en w0 T0 w' T' ∧ Ex T T' ∧ Fr T r ∧ Rw T' (Ob.ints 0) r (hd0 A)) ?_ ?_)
  · refine ok_tord C fun o w1 C1 => ?_
    refine ok_drfS (ok_tld C1 I.sch (m := 0) (k := 0) (t := .int .i64) (x := S.now) (by rfl) ?_)
    refine ok_drfS (ok_tld C1 I.sch (x := S.procs) (rdv_sl (by rfl)) ?_)
    refine active_spec C1 I hl ?_
    simp only [bnd_as, bnd_ret]
    refine ok_tchk C1 I.sch (m := 0) (k := 1) (x := S.procs) (rdv_sl (by rfl)) ?_
    refine ok_tchk C1 I.sch (m := 0) (k := 0) (t := .int .i64) (x := S.now) (by rfl) ?_
    refine ok_threeI C1 0 fun v w2 T2 C2 E2 F2 R2 => ?_
    refine ok_tchk C2 (I.ext E2).sch (m := 0) (k := 1) (x := S.procs) (rdv_sl (by rfl)) ?_
    refine ok_ret.2 ⟨T2, C2, E2, F2, ?_⟩
    rw [I.now, hpl] at R2
    exact R2
  rintro s1 w1 ⟨T1, C1, E1, F1, R1⟩
  -- processes
  refine ok_loopN (fun m (st : Sl × Int) w' => ∃ (i : Nat) (T' : Hp), st.2 = i ∧ i ≤ A.procs.length ∧ m = A.procs.length - i ∧ Tr en w0 T0 w' T' ∧ Ex T T' ∧ Fr T st.1 ∧ Rw T' (Ob.ints 0) st.1 (hd0 A ++ (A.procs.take i).flatMap prR)) ?_ A.procs.length (s1, 0) w1 ⟨0, T1, rfl, Nat.zero_le _, rfl, C1, E1, F1, by simpa using R1⟩
  clear C1 E1 F1 R1
  rintro m ⟨s, i'⟩ w1 ⟨i, T1, h1, hi, rfl, C1, E1, F1, R1⟩
  simp only at h1 F1 R1
  subst h1
  have I1 := I.ext E1
  refine ok_drfS (ok_tld C1 I1.sch (x := S.procs) (rdv_sl (by rfl)) ?_)
  by_cases hlt : i < A.procs.length
  · refine ok_true (by rw [hpl]; simpa using hlt) ?_
    have hlen : (hd0 A ++ (A.procs.take i).flatMap prR).length = 3 + 2 * i := by
      rw [List.length_append, prR_len, List.length_take, Nat.min_eq_left hi]; rfl
    refine ok_bnd.2 (ok_mono (Q := fun r w' => ∃ T', Tr en w0 T0 w' T' ∧ Ex T T' ∧ Fr T r ∧ Rw T' (Ob.ints 0) r (hd0 A ++ (A.procs.take (i + 1)).flatMap prR)) ?_ ?_)
    · refine ok_tord C1 fun o w2 C2 => ?_
      refine ok_drfS (ok_tld C2 I1.sch (x := S.procs) (rdv_sl (by rfl)) ?_)
      have hn1 : 1 ≤ i + 1 := by omega
      have hn2 : i + 1 ≤ A.procs.length := by omega
      refine ok_pix I1 (n := i + 1) hn1 hn2 (by omega) fun b hb => ?_
      refine ok_pld C2 I1 hn1 hn2 hb (j := 0) (t := .int .i64) (x := (A.pr (i + 1)).prio) (by decide) (by rfl) ?_
      refine ok_drfS (ok_tld C2 I1.sch (x := S.procs) (rdv_sl (by rfl)) ?_)
      refine ok_pix I1 (n := i + 1) hn1 hn2 (by omega) fun b2 hb2 => ?_
      refine ok_pld C2 I1 hn1 hn2 hb2 (j := 1) (t := .int .u8) (x := (A.pr (i + 1)).standing) (by decide) (by rfl) ?_
      have hst := G.st hn1 hn2
      rw [wI (by omega)]
      refine ok_twoI C2 fun v w3 T3 C3 E3 R3 => ?_
      have I3 := I1.ext E3
      simp only [bnd_as, bnd_ret]
      refine ok_pchk C3 I3 hn1 hn2 hb2 (j := 1) (t := .int .u8) (x := (A.pr (i + 1)).standing) (by decide) (by rfl) ?_
      refine ok_tchk C3 I3.sch (m := 0) (k := 1) (x := S.procs) (rdv_sl (by rfl)) ?_
      refine ok_tchk C3 I3.sch (m := 0) (k := 1) (x := S.procs) (rdv_sl (by rfl)) ?_
      refine ok_appI C3 (E1.trans E3) F1 (E3.rw R1) R3 (by rw [hlen]; simp; omega) fun r w4 T4 C4 R4 E4 F4 _ => ?_
      have I4 := I.ext E4
      refine ok_pchk C4 I4 hn1 hn2 hb2 (j := 1) (t := .int .u8) (x := (A.pr (i + 1)).standing) (by decide) (by rfl) ?_
      refine ok_tchk C4 I4.sch (m := 0) (k := 1) (x := S.procs) (rdv_sl (by rfl)) ?_
      refine ok_tchk C4 I4.sch (m := 0) (k := 1) (x := S.procs) (rdv_sl (by rfl)) ?_
      refine ok_ret.2 ⟨T4, C4, E4, F4, ?_⟩
      have e : A.procs.take (i + 1) = A.procs.take i ++ [A.pr (i + 1)] := by
        have := pr_get hn1 hn2
        rw [show i + 1 - 1 = i from rfl, List.getElem?_eq_getElem hlt, Option.some.injEq] at this
        rw [List.take_succ_eq_append_getElem hlt, this]
      rw [e, List.flatMap_append, ← List.append_assoc]
      exact R4
    · rintro r w2 ⟨T2, C2, E2, F2, R2⟩
      exact ok_ret.2 ⟨A.procs.length - (i + 1), by omega, i + 1, T2, by show IntKind.wrap .i64 _ = _; rw [wI (by omega)]; simp, by omega, rfl, C2, E2, F2, R2⟩
  have hie : i = A.procs.length := by omega
  subst hie
  rw [List.take_length] at R1
  refine ok_false (by rw [hpl]; simp) ?_
  refine ok_bnd.2 (ok_mono (Q := Fin) ?_ (fun r w' h => ok_ret.2 h))
  have hlen : (hd0 A ++ A.procs.flatMap prR).length ≤ 10000 := by rw [List.length_append, prR_len]; show 3 + _ ≤ _; omega
  refine ok_drfS (ok_tld C1 I1.sch (x := S.excess) (rdv_sl (by rfl)) ?_)
  refine ok_app1 C1 E1 F1 R1 (by omega) fun s2 w2 T2 C2 R2 E2 F2 _ => ?_
  rw [hexl] at R2
  -- semaphores
  refine ok_loopN (fun m (st : Sl × Int) w' => ∃ (i : Nat) (T' : Hp), st.2 = i ∧ i ≤ A.excess.length ∧ m = A.excess.length - i ∧ Tr en w0 T0 w' T' ∧ Ex T T' ∧ Fr T st.1 ∧ Rw T' (Ob.ints 0) st.1 (hd1 A ++ rsm A i)) ?_ A.excess.length (s2, 0) w2 ⟨0, T2, rfl, Nat.zero_le _, rfl, C2, E2, F2, by show Rw _ _ _ (hd1 A ++ []); rw [List.append_nil]; exact R2⟩
  clear C1 E1 F1 R1 I1 C2 E2 F2 R2 hlen hlt
  rintro m ⟨s, i'⟩ w1 ⟨i, T1, h1, hi, rfl, C1, E1, F1, R1⟩
  simp only at h1 F1 R1
  subst h1
  have I1 := I.ext E1
  refine ok_drfS (ok_tld C1 I1.sch (x := S.excess) (rdv_sl (by rfl)) ?_)
  by_cases hlt : i < A.excess.length
  · refine ok_true (by rw [hexl]; simpa using hlt) ?_
    have lri := rsm_len G i hi
    have hw : IntKind.wrap .i64 ((i : Int) + 1) = ((i + 1 : Nat) : Int) := by rw [wI (by omega)]; simp
    have hQ := G.wq (i := i + 1) (by omega) (by omega)
    have hql := hQ.len
    dsimp only
    rw [hw]
    refine waits_spec C1 I1 hl hQ 1 fun r w2 T2 C2 E2 F2 R2 => ?_
    have I2 := I1.ext E2
    have hrl := R2.len
    rw [ns_length] at hrl
    refine ok_drfS (ok_tld C2 I2.sch (x := S.excess) (rdv_sl (by rfl)) ?_)
    refine ok_eld C2 I2 (n := i + 1) (by omega) (by omega) (by omega) ?_
    have hla : (hd1 A ++ rsm A i).length ≤ 17000000 := by rw [List.length_append]; omega
    refine ok_app2 C2 (E1.trans E2) F1 (E2.rw R1) (by omega) fun s3 w3 T3 C3 R3 E3 F3 K3 => ?_
    have Rr : Rw T3 (Ob.ints 1) r (ns (A.ord 3 0 ((i + 1 : Nat) : Int))) := K3.rw (E2.rw R1) R2 (fun L l => by simp)
    refine ok_appI C3 E3 F3 R3 Rr (by rw [List.length_append, ns_length]; show _ + 2 + _ ≤ _; omega) fun s4 w4 T4 C4 R4 E4 F4 _ => ok_ret.2 ⟨A.excess.length - (i + 1), by omega, i + 1, T4, rfl, by omega, rfl, C4, E4, F4, ?_⟩
    rw [hrl] at R4
    have e : hd1 A ++ rsm A i ++ [A.ex (i + 1), ((A.ord 3 0 ((i + 1 : Nat) : Int)).length : Int)] ++ ns (A.ord 3 0 ((i + 1 : Nat) : Int)) = hd1 A ++ rsm A (i + 1) := by
      show _ = hd1 A ++ (rsm A i ++ (A.ex (i + 1) :: (_ :: ns _)))
      simp only [List.append_assoc, List.cons_append, List.nil_append]
    rw [← e]; exact R4
  have hie : i = A.excess.length := by omega
  subst hie
  refine ok_false (by rw [hexl]; simp) ?_
  refine ok_bnd.2 (ok_mono (Q := Fin) ?_ (fun r w' h => ok_ret.2 h))
  have R1 : Rw T1 (Ob.ints 0) s (hd2 A) := R1
  -- queues
  refine ok_loopN (fun m (st : Sl × Int) w' => ∃ (p : Nat) (T' : Hp), st.2 = (p : Int) + 1 ∧ p ≤ 16 ∧ m = 16 - p ∧ Tr en w0 T0 w' T' ∧ Ex T T' ∧ Fr T st.1 ∧ Rw T' (Ob.ints 0) st.1 (hd2 A ++ rqs A p)) ?_ 16 (s, 1) w1 ⟨0, T1, rfl, Nat.zero_le _, rfl, C1, E1, F1, by show Rw _ _ _ (hd2 A ++ []); rw [List.append_nil]; exact R1⟩
  clear C1 E1 F1 R1 I1 hlt
  rintro m ⟨s, i'⟩ w1 ⟨p, T1, h1, hi, rfl, C1, E1, F1, R1⟩
  simp only at h1 F1 R1
  subst h1
  have I1 := I.ext E1
  by_cases hlt : p < 16
  · refine ok_true (by simp; omega) ?_
    have hQ := G.rq (p := p + 1) (by omega)
    have hql := hQ.len
    have lqi := rqs_len G p
    have hc : ((p + 1 : Nat) : Int) = (p : Int) + 1 := by omega
    dsimp only
    rw [hc] at hQ hql
    refine queue_spec C1 I1 hl hQ 1 fun r w2 T2 C2 E2 F2 R2 => ?_
    have hrl := R2.len
    rw [ns_length] at hrl
    have hla : (hd2 A ++ rqs A p).length ≤ 21000000 := by rw [List.length_append]; omega
    refine ok_app1 C2 (E1.trans E2) F1 (E2.rw R1) (by omega) fun s3 w3 T3 C3 R3 E3 F3 K3 => ?_
    have Rr : Rw T3 (Ob.ints 1) r (ns (A.ord 1 ((p : Int) + 1) 0)) := K3.rw (E2.rw R1) R2 (fun L l => by simp)
    refine ok_appI C3 E3 F3 R3 Rr (by rw [List.length_append, ns_length]; show _ + 1 + _ ≤ _; omega) fun s4 w4 T4 C4 R4 E4 F4 _ => ok_ret.2 ⟨16 - (p + 1), by omega, p + 1, T4, by show IntKind.wrap .i64 _ = _; rw [wI (by omega)]; omega, by omega, rfl, C4, E4, F4, ?_⟩
    rw [hrl] at R4
    have e : hd2 A ++ rqs A p ++ [((A.ord 1 ((p : Int) + 1) 0).length : Int)] ++ ns (A.ord 1 ((p : Int) + 1) 0) = hd2 A ++ rqs A (p + 1) := by
      show _ = hd2 A ++ (rqs A p ++ qL (A.ord 1 ((p + 1 : Nat) : Int) 0))
      rw [hc]
      show _ = hd2 A ++ (rqs A p ++ (_ :: ns _))
      simp only [List.append_assoc, List.cons_append, List.nil_append]
    rw [← e]; exact R4
  have hie : p = 16 := by omega
  subst hie
  refine ok_false (by simp) ?_
  refine ok_bnd.2 (ok_mono (Q := Fin) ?_ (fun r w' h => ok_ret.2 h))
  refine ok_drfS (ok_tld C1 I1.sch (x := S.timers) (rdv_sl (by rfl)) ?_)
  refine ok_app1 C1 E1 F1 R1 (by rw [List.length_append]; omega) fun s2 w2 T2 C2 R2 E2 F2 _ => ?_
  rw [html] at R2
  have R2 : Rw T2 (Ob.ints 0) s2 (hd3 A) := R2
  -- timers
  refine ok_tnew C2 (.sch Sk0) rfl fun lb w3 hlb C3 => ?_
  have hlbT : T lb = none := by
    cases h : T lb with
    | none => rfl
    | some o => rw [E2 _ _ h] at hlb; cases hlb
  have E3 : Ex T2 (put T2 lb (.sch Sk0)) := Ex.put hlb
  have hs3 : put T2 lb (.sch Sk0) lb = some (.sch Sk0) := put_eq _ _ _
  have R3 := E3.rw R2
  have E3 := E2.trans E3
  generalize put T2 lb (.sch Sk0) = T3 at C3 E3 hs3 R3
  clear C1 E1 F1 R1 I1 hlt C2 R2 E2 hlb
  refine ok_bnd.2 (ok_mono (Q := fun _ w' => ∃ (T' : Hp) (S' : Sk), Tr en w0 T0 w' T' ∧ Ex T T' ∧ T' lb = some (.sch S') ∧ Rw T' Ob.tms S'.timers A.timers ∧ Rw T' (Ob.ints 0) s2 (hd3 A)) ?_ ?_)
  · refine ok_tord C3 fun o w4 C4 => ?_
    refine ok_tld C4 hs3 (m := 0) (k := 3) (x := (⟨none, 0, 0⟩ : Sl)) (rdv_sl (by rfl)) ?_
    have I3 := I.ext E3
    refine ok_drfS (ok_tld C4 I3.sch (x := S.timers) (rdv_sl (by rfl)) ?_)
    refine ok_appF C4 row29 (mk := Ob.tms) (fun _ => rfl) (Ex.refl T3) (fr_nil T3) (rw_nil T3 Ob.tms) (srcT C4.th I3.timers) (by simp; omega) (by simp; omega) fun r w5 T5 C5 R5 E5 F5 _ => ?_
    simp only [bnd_ret]
    have hs5 := E5 _ _ hs3
    refine ok_twr C5 (m := 0) (k := 3) (.sch { Sk0 with timers := r }) hs5 (by rw [en_len]; show 0 + 3 + 1 ≤ 6 + _; omega) rfl rfl fun w6 C6 => ok_ret.2 ?_
    have keep := sch_keep (S' := { Sk0 with timers := r }) hs5
    refine ⟨_, _, C6, fun b q hb => ?_, put_eq _ _ _, R5.mono fun c l _ hc => keep _ _ hc (by simp), (E5.rw R3).mono fun c l _ hc => keep _ _ hc (by simp)⟩
    rw [put_ne]
    · exact E5 _ _ (E3 _ _ hb)
    · rintro rfl; rw [hlbT] at hb; cases hb
  rintro _ w4 ⟨T4, S4, C4, E4, hs4, Rt4, R4⟩
  refine ok_loopN (fun m (s : Sl) w' => ∃ (l : List Tm) (acc : List Int) (T' : Hp) (S' : Sk), m = l.length ∧ m ≤ 4096 ∧ Tr en w0 T0 w' T' ∧ Ex T T' ∧ Fr T s ∧ T' lb = some (.sch S') ∧ Rw T' Ob.tms S'.timers l ∧ Rw T' (Ob.ints 0) s acc ∧ acc.length + 2 * m ≤ 22000000 ∧ acc ++ selL m l = hd3 A ++ selL A.timers.length A.timers) ?_ A.timers.length s2 w4 ⟨A.timers, hd3 A, T4, S4, rfl, htl, C4, E4, F2, hs4, Rt4, R4, by omega, rfl⟩
  clear C3 E3 hs3 R3 C4 E4 hs4 Rt4 R4 F2
  rintro m s w1 ⟨l, acc, T1, S1, rfl, hm, C1, E1, F1, hs1, Rt1, R1, hacc, heq⟩
  have htl1 := Rt1.len
  refine ok_tld C1 hs1 (m := 0) (k := 3) (x := S1.timers) (rdv_sl (by rfl)) ?_
  rcases nextI_cases l with ⟨hl0, hni⟩ | ⟨i, hi, hni⟩
  rotate_left
  · refine ok_true (by rw [htl1]; simp; omega) ?_
    refine next_spec C1 hs1 Rt1 hm fun w2 C2 => ?_
    rw [hni]
    refine ok_bnd.2 (ok_mono (Q := fun r w' => ∃ T', Tr en w0 T0 w' T' ∧ Ex T T' ∧ Fr T r ∧ T' lb = some (.sch S1) ∧ Rw T' Ob.tms S1.timers l ∧ Rw T' (Ob.ints 0) r (acc ++ [l[i].time, l[i].sem])) ?_ ?_)
    · refine ok_tord C2 fun o w3 C3 => ?_
      refine ok_tld C3 hs1 (m := 0) (k := 3) (x := S1.timers) (rdv_sl (by rfl)) ?_
      refine ok_tget C3 Rt1 hi rfl (j := 0) (x := l[i].time) (by decide) (by rfl) ?_
      refine ok_tld C3 hs1 (m := 0) (k := 3) (x := S1.timers) (rdv_sl (by rfl)) ?_
      refine ok_tget C3 Rt1 hi rfl (j := 1) (x := l[i].sem) (by decide) (by rfl) ?_
      refine ok_twoI C3 fun v w4 T4 C4 E4 R4 => ?_
      simp only [bnd_as, bnd_ret]
      have hs4 := E4 _ _ hs1
      refine ok_tchk C4 hs4 (m := 0) (k := 3) (x := S1.timers) (rdv_sl (by rfl)) ?_
      refine ok_tchk C4 hs4 (m := 0) (k := 3) (x := S1.timers) (rdv_sl (by rfl)) ?_
      refine ok_appI C4 (E1.trans E4) F1 (E4.rw R1) R4 (by simp; omega) fun r w5 T5 C5 R5 E5 F5 K5 => ?_
      have hs5 := K5.keep (E4.rw R1) hs4 (by simp)
      refine ok_tchk C5 hs5 (m := 0) (k := 3) (x := S1.timers) (rdv_sl (by rfl)) ?_
      refine ok_tchk C5 hs5 (m := 0) (k := 3) (x := S1.timers) (rdv_sl (by rfl)) ?_
      exact ok_ret.2 ⟨T5, C5, E5, F5, hs5, K5.rw (E4.rw R1) (E4.rw Rt1) (fun L l => by simp), R5⟩
    rintro r w3 ⟨T3, C3, E3, F3, hs3, Rt3, R3⟩
    refine ok_tld C3 hs3 (m := 0) (k := 3) (x := S1.timers) (rdv_sl (by rfl)) ?_
    refine ok_cut1 C3 Rt3 hm hi fun r4 w4 T4 C4 E4 F4 R4 => ?_
    have hs4 := E4 _ _ hs3
    refine ok_tld C4 hs4 (m := 0) (k := 3) (x := S1.timers) (rdv_sl (by rfl)) ?_
    refine ok_cut2 C4 E4 (E4.rw Rt3) hm (by simp; omega) F4 R4 hi fun r5 w5 T5 C5 E5 F5 R5 => ?_
    have hs5 := E5 _ _ hs3
    refine ok_twr C5 (m := 0) (k := 3) (.sch { S1 with timers := r5 }) hs5 (by rw [en_len]; show 0 + 3 + 1 ≤ 6 + _; omega) rfl rfl fun w6 C6 => ok_ret.2 ?_
    have keep := sch_keep (S' := { S1 with timers := r5 }) hs5
    have hll := less_len hi
    refine ⟨(St.less l i).length, by omega, St.less l i, acc ++ [l[i].time, l[i].sem], _, _, rfl, by omega, C6, fun b q hb => ?_, F3, put_eq _ _ _, R5.mono fun c l _ hc => keep _ _ hc (by simp), (E5.rw R3).mono fun c l _ hc => keep _ _ hc (by simp), by simp; omega, ?_⟩
    · rw [put_ne]
      · exact E5 _ _ (E3 _ _ hb)
      · rintro rfl; rw [hlbT] at hb; cases hb
    · rw [← heq]
      have e : l.length = (St.less l i).length + 1 := hll.symm
      rw [e]
      conv => rhs; unfold selL
      rw [hni, if_neg (by omega), nthT_nat hi, Int.toNat_natCast]
      simp
  refine ok_false (by rw [htl1, hl0]; rfl) ?_
  refine ok_bnd.2 (ok_mono (Q := Fin) ?_ (fun r w' h => ok_ret.2 h))
  have e0 : acc = hd3 A ++ selL A.timers.length A.timers := by rw [← heq, hl0]; simp [selL]
  -- events
  have hev := (evK_len A.events 0).1
  have hel2 := I.elen
  refine ok_loopN (fun m (st : Int × (Sl × Int)) w' => ∃ (i : Nat) (T' : Hp), st.2.2 = i ∧ i ≤ 64 ∧ m = 64 - i ∧ st.1 = (((evK 0 (A.events.take i)).length / 2 : Nat) : Int) ∧ Tr en w0 T0 w' T' ∧ Ex T T' ∧ Fr T s ∧ Rw T' (Ob.ints 0) s acc ∧ Fr T st.2.1 ∧ Rw T' (Ob.ints 2) st.2.1 (evK 0 (A.events.take i))) ?_ 64 (0, (⟨none, 0, 0⟩, 0)) w1 ⟨0, T1, rfl, Nat.zero_le _, rfl, by rw [List.take_zero]; rfl, C1, E1, F1, R1, fr_nil _, by rw [List.take_zero]; exact rw_nil _ _⟩
  clear C1 E1 F1 R1 hs1 Rt1
  rintro m ⟨many, ev, i'⟩ w1 ⟨i, T1, h1, hi, rfl, hmany, C1, E1, F1, R1, Fe, Re⟩
  simp only at h1 hmany Fe Re
  subst h1 hmany
  dsimp only
  have I1 := I.ext E1
  by_cases hlt : i < 64
  · refine ok_true (by simp; omega) ?_
    have hv : S.events[i]? = some (A.events.getD i 0) := by
      rw [List.getD_eq_getElem?_getD, ← I.events, List.getElem?_eq_getElem (by omega)]; rfl
    have hie : i < A.events.length := by omega
    have hsn : evK 0 (A.events.take (i + 1)) = evK 0 (A.events.take i) ++ (if A.events.getD i 0 > 0 then [(i : Int), A.events.getD i 0] else []) := by
      rw [List.take_succ_eq_append_getElem hie, evK_snoc, List.length_take, Nat.min_eq_left (by omega), Nat.zero_add, List.getD_eq_getElem?_getD, List.getElem?_eq_getElem hie]; rfl
    have hkl := evK_len (A.events.take i) 0
    rw [List.length_take, Nat.min_eq_left (by omega)] at hkl
    have hw : IntKind.wrap .i64 ((i : Int) + 1) = ((i + 1 : Nat) : Int) := by rw [wI (by omega)]; simp
    refine ok_drfS ?_
    rw [addr_add]
    refine ok_eix rfl hlt ?_
    rw [Nat.zero_add]
    refine ok_tld0 C1 I1.sch (rd_event hSe hv) ?_
    refine ok_bnd.2 (ok_mono (Q := fun r w' => ∃ T', r.1 = (((evK 0 (A.events.take (i + 1))).length / 2 : Nat) : Int) ∧ Tr en w0 T0 w' T' ∧ Ex T T' ∧ Rw T' (Ob.ints 0) s acc ∧ Fr T r.2 ∧ Rw T' (Ob.ints 2) r.2 (evK 0 (A.events.take (i + 1)))) ?_ ?_)
    · by_cases h0 : A.events.getD i 0 > 0
      · refine ok_true (by simpa using h0) ?_
        refine ok_drfS ?_
        rw [addr_add]
        refine ok_eix rfl hlt ?_
        rw [Nat.zero_add]
        refine ok_tld0 C1 I1.sch (rd_event hSe hv) ?_
        rw [if_pos h0] at hsn
        refine ok_app2 C1 E1 Fe Re (by omega) fun r w2 T2 C2 R2 E2 F2 K2 => ok_ret.2 ⟨T2, ?_, C2, E2, K2.rw Re R1 (fun L l => by simp), F2, by rw [hsn]; exact R2⟩
        show IntKind.wrap .i64 _ = _
        rw [hsn, List.length_append, wI (by omega)]
        simp only [List.length_cons, List.length_nil]
        omega
      · refine ok_false (by simpa using h0) ?_
        rw [if_neg h0, List.append_nil] at hsn
        rw [hsn]
        exact ok_ret.2 ⟨T1, rfl, C1, E1, R1, Fe, Re⟩
    rintro ⟨r1, r2⟩ w2 ⟨T2, h1, C2, E2, R2, F2, Re2⟩
    exact ok_ret.2 ⟨64 - (i + 1), by omega, i + 1, T2, hw, by omega, rfl, h1, C2, E2, F1, R2, F2, Re2⟩
  have hie : i = 64 := by omega
  subst hie
  have e1 : A.events.take 64 = A.events := List.take_of_length_le (by omega)
  rw [e1] at Re ⊢
  refine ok_false (by simp) ?_
  refine ok_bnd.2 (ok_mono (Q := Fin) ?_ (fun r w' h => ok_ret.2 h))
  refine ok_app1 C1 E1 F1 R1 (by omega) fun s3 w3 T3 C3 R3 E3 F3 K3 => ?_
  have Re3 : Rw T3 (Ob.ints 2) ev (evK 0 A.events) := K3.rw R1 Re (fun L l => by simp)
  refine ok_appI C3 E3 F3 R3 Re3 (by rw [List.length_append]; simp; omega) fun s4 w4 T4 C4 R4 E4 F4 _ => ok_ret.2 ?_
  rw [hFin]
  refine ⟨T4, C4, E4, ?_⟩
  rw [e0] at R4
  exact R4
end
end R
end Go.Proofs.YtkkdeljladihpaaGreat
