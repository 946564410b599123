/-
  Parts of the proof: ZSU, ZSV, ZSW, ZSX, ZSY. It states what the functions do; no further condition.
-/
import Derived.Test.YtkkdeljladihpaaGreatZST
import Derived.Deep.Slices
import Derived.KernelRfl
set_option linter.unusedVariables false
set_option linter.unusedSimpArgs false
/-
  The scheduler: the heap of timers in memory.
-/
namespace Go.Proofs.YtkkdeljladihpaaGreat
open Go.Sh Go.RowKit
set_option maxRecDepth 100000
theorem ok_slc03 {α : Type} {sz : Nat} {s : Sl} {n : Nat} {w : World} {f : Sl → M α} {Q : α → World → Prop} (h3 : n ≤ s.cap)
    (hq : Ok (f ⟨s.a, n, n⟩) w Q) : Ok (bnd (slc sz s none (some (n : Int)) (some (n : Int))) f) w Q := by
  refine ok_bnd.2 ?_
  unfold slc
  refine ok_bnd.2 (ok_bound (v := (n : Int)) (by omega) (by omega) ?_)
  refine ok_bnd.2 (ok_bound (v := (n : Int)) (by omega) (by omega) ?_)
  refine ok_bnd.2 (ok_ret.2 ?_)
  refine ok_ret.2 ?_
  have e : (⟨if (n : Int).toNat = 0 then s.a else s.a.map (·.add (0 * sz)), (n : Int).toNat - 0, (n : Int).toNat - 0⟩ : Sl) = ⟨s.a, n, n⟩ := by
    have : s.a.map (·.add (0 * sz)) = s.a := by
      cases s.a with
      | none => rfl
      | some a => simp [Addr.add]
    rw [this]; simp
  rw [e]; exact hq
/-- All but the timers stays. -/
def KT (T T' : Hp) : Prop := ∀ c o, T c = some o → (∀ l, o ≠ .tms l) → T' c = some o
theorem KT.refl (T : Hp) : KT T T := fun _ _ h _ => h
theorem KT.trans {T T1 T2 : Hp} (h : KT T T1) (k : KT T1 T2) : KT T T2 := fun c o hc hne => k _ _ (h _ _ hc hne) hne
/-- The timers lie in memory. -/
structure HT (T : Hp) (sb : Nat) (S : Sk) (l : List Tm) : Prop where
  sch : T sb = some (.sch S)
  ql : S.queues.length = 17
  tm : Rx T Ob.tms S.timers l
section
variable {w0 w : World} {T0 T : Hp} {sb : Nat} {S : Sk} {L : List Sm} {A : St} {α β : Type} {Q : α → World → Prop} {l : List Tm}
theorem Rx.get {s : Sl} (h : Rx T Ob.tms s l) {i : Nat} (hi : i < l.length) : ∃ b M, s.a = some ⟨b, 0, none⟩ ∧ T b = some (.tms M) ∧ M[i]? = some (St.nth l i) ∧ s.cap ≤ M.length ∧ M.take l.length = l := by
  obtain ⟨b, M, g1, g2, g3, g4⟩ := h.blk (by omega)
  refine ⟨b, M, g1, g2, ?_, g3, g4⟩
  rw [St.nth_get hi, ← List.getElem?_eq_getElem hi, ← List.getElem?_take_of_lt hi, g4]
theorem ok_ldT (C : Tr en w0 T0 w T) (H : HT T sb S l) {f : Sl → M α} (hq : Ok (f S.timers) w Q) : Ok (bnd (ld .sl ⟨sb, 21, none⟩) f) w Q :=
  ok_tld0 C H.sch (x := S.timers) (by have := rd_timers H.ql; rwa [Nat.zero_add] at this) hq
/-- A field of a timer read. -/
theorem ok_tmf (C : Tr en w0 T0 w T) {s : Sl} (h : Rx T Ob.tms s l) {i : Nat} (hi : i < l.length) {x : Int} (hx : x = i) {k : Nat} {t : Ty} {v : t.den} (hk : k + t.size ≤ 3) (hv : rdv t (Tm.en (St.nth l i)).toArray k = some v) {f : t.den → M α} (hq : Ok (f v) w Q) : Ok (bnd (ix 3 s x) fun (p : Addr) => bnd (ld t (Addr.add p k)) f) w Q := by
  subst hx
  obtain ⟨b, M, g1, g2, g3, g4⟩ := Rx.get h hi
  have := h.len
  refine ok_ixN g1 (by omega) (by omega) ?_
  rw [Int.toNat_natCast]
  exact ok_tld C g2 (flat_rdv (g := Tm.en) (fun _ => rfl) g3 hk hv) hq
theorem ok_less (C : Tr en w0 T0 w T) {s : Sl} (h : Rx T Ob.tms s l) {i j : Nat} (hi : i < l.length) (hj : j < l.length) {x y : Int} (hx : x = i) (hy : y = j) {f : Bool → M α} (hq : ∀ w', Tr en w0 T0 w' T → Ok (f (St.lt (St.nth l i) (St.nth l j))) w' Q) : Ok (bnd (f130_sched_timers_Less s x y) f) w Q := by
  unfold f130_sched_timers_Less
  refine ok_bnd.2 (ok_tdraw C fun w1 C1 => ?_)
  refine ok_tmf C1 h hi hx (v := (St.nth l i).time) (by decide) rfl ?_
  refine ok_tmf C1 h hj hy (v := (St.nth l j).time) (by decide) rfl ?_
  unfold St.lt at hq
  by_cases ht : (St.nth l i).time = (St.nth l j).time
  · rw [if_neg (by simp [ht])] at hq
    refine ok_false (by simp [ht]) (ok_tdraw C1 fun w2 C2 => ?_)
    refine ok_tmf C2 h hi hx (v := (St.nth l i).made) (by decide) rfl ?_
    refine ok_tmf C2 h hj hy (v := (St.nth l j).made) (by decide) rfl ?_
    exact ok_ret.2 (hq w2 C2)
  · rw [if_pos ht] at hq
    refine ok_true (by simp [ht]) (ok_tdraw C1 fun w2 C2 => ?_)
    refine ok_tmf C2 h hi hx (v := (St.nth l i).time) (by decide) rfl ?_
    refine ok_tmf C2 h hj hy (v := (St.nth l j).time) (by decide) rfl ?_
    exact ok_ret.2 (hq w2 C2)
theorem tm_agg (t : Tm) : rdv (.agg (.pair (.int .i64) (.pair (.int .i64) (.int .i64)))) (Tm.en t).toArray 0 = some (t.time, t.made, t.sem) := by rfl
/-- A whole timer written. -/
theorem ok_tmw (C : Tr en w0 T0 w T) {b : Nat} {M : List Tm} (hb : T b = some (.tms M)) {i : Nat} (hi : i < M.length) (t : Tm) {f : Unit → Go.Sh.M α} (hq : ∀ w', Tr en w0 T0 w' (put T b (.tms (M.set i t))) → Ok (f ()) w' Q) : Ok (bnd (wrs ⟨b, 3 * i, none⟩ 0 [.int .i64 t.time, .int .i64 t.made, .int .i64 t.sem]) f) w Q := by
  refine ok_twr0 C (.tms (M.set i t)) hb ?_ rfl ?_ hq
  · show _ ≤ (M.flatMap Tm.en).length
    rw [flat_length (g := Tm.en) (n := 3) (fun _ => rfl)]
    have : 3 * i + 3 ≤ 3 * M.length := by rw [← Nat.mul_succ]; exact Nat.mul_le_mul_left _ hi
    simp; omega
  · exact flat_spl (g := Tm.en) (n := 3) (k := 0) (fun _ => rfl) (List.getElem?_eq_getElem hi) (by show 0 + 3 ≤ 3; decide) rfl
theorem swap_spec (C : Tr en w0 T0 w T) (H : HT T sb S l) {i j : Nat} (hi : i < l.length) (hj : j < l.length) {x y : Int} (hx : x = i) (hy : y = j) {f : Unit → Go.Sh.M α} (hq : ∀ w' T', Tr en w0 T0 w' T' → HT T' sb S (St.swap l i j) → KT T T' → Ok (f ()) w' Q) : Ok (bnd (f131_sched_timers_Swap S.timers x y) f) w Q := by
  unfold f131_sched_timers_Swap
  subst hx hy
  obtain ⟨b, M, g1, g2, g3, g4, g5⟩ := Rx.get H.tm hi
  obtain ⟨b', M', g1', g2', g3', _, _⟩ := Rx.get H.tm hj
  have hlen := H.tm.len
  have hle := H.tm.le
  have eb : b' = b := by
    rw [g1] at g1'
    simp only [Option.some.injEq, Addr.mk.injEq, and_true] at g1'
    exact g1'.symm
  subst eb
  have eM : M' = M := by rw [g2] at g2'; simpa using g2'.symm
  subst eM
  refine ok_bnd.2 ?_
  simp only [bnd_as, bnd_ret]
  refine ok_tord C fun o w1 C1 => ?_
  refine ok_ixN g1 (by omega) (by omega) ?_
  rw [Int.toNat_natCast]
  have r1 := flat_rdv (g := Tm.en) (n := 3) (k := 0) (fun _ => rfl) g3' (by decide) (tm_agg _)
  have r2 := flat_rdv (g := Tm.en) (n := 3) (k := 0) (fun _ => rfl) g3 (by decide) (tm_agg _)
  rw [Nat.add_zero] at r1 r2
  refine ok_tld0 C1 g2 r1 ?_
  refine ok_ixN g1 (by omega) (by omega) ?_
  rw [Int.toNat_natCast]
  refine ok_tld0 C1 g2 r2 ?_
  refine ok_ixN g1 (by omega) (by omega) ?_
  rw [Int.toNat_natCast]
  refine ok_tmw (i := i) C1 g2 (by omega) (St.nth l j) fun w2 C2 => ?_
  refine ok_ixN g1 (by omega) (by omega) ?_
  rw [Int.toNat_natCast]
  refine ok_tmw (i := j) C2 (put_eq _ _ _) (by rw [List.length_set]; omega) (St.nth l i) fun w3 C3 => ?_
  rw [put_put] at C3
  refine ok_ret.2 (hq _ _ C3 ⟨put_other H.sch g2 (by simp), H.ql, ⟨?_, hle, H.tm.max, .inr ⟨b', _, g1, put_eq _ _ _, by simp; omega, ?_⟩⟩⟩ fun c o hc hne => put_other hc g2 (hne _))
  · rw [St.swap_length]; exact hlen
  · rw [St.swap_length, List.take_set, List.take_set, g5]; rfl
theorem up_spec : ∀ (f : Nat) (l : List Tm) (j : Nat) (T : Hp) (w : World), j < f → j < l.length → l.length ≤ 1000000 → Tr en w0 T0 w T → HT T sb S l → KT T0 T → Ok (f105_heap_up (some ⟨sb, 21, none⟩) (j : Int)) w fun _ w' => ∃ T', Tr en w0 T0 w' T' ∧ HT T' sb S (St.up f l j) ∧ KT T0 T'
  | 0, l, j, T, w, h, _, _, _, _, _ => absurd h (Nat.not_lt_zero _)
  | f + 1, l, j, T, w, h, hj, hl, C, H, K => by
    unfold f105_heap_up
    rw [loopM_eq, ok_bnd]
    have e : (IntKind.wrap .i64 (Int.tdiv (IntKind.wrap .i64 ((j : Int) - 1)) 2)) = ((j - 1) / 2 : Nat) := by
      rw [wI (n := (j : Int) - 1) (by omega)]
      rcases Nat.eq_zero_or_pos j with rfl | hp
      · decide
      · rw [Int.tdiv_eq_ediv_of_nonneg (by omega), wI (by omega)]; omega
    rw [e]
    unfold St.up
    by_cases h0 : (j - 1) / 2 = j
    · rw [if_pos (.inl h0)]
      refine ok_bnd.2 (ok_true (by rw [h0]; simp) (ok_ret.2 (ok_true rfl (ok_ret.2 (ok_ret.2 ⟨T, C, H, K⟩)))))
    · refine ok_bnd.2 (ok_false (by simp only [beq_eq_false_iff_ne, ne_eq]; omega) ?_)
      refine ok_drfS (ok_ldT C H ?_)
      refine ok_less C H.tm hj (j := (j - 1) / 2) (by omega) rfl rfl fun w1 C1 => ?_
      by_cases hlt : St.lt (St.nth l j) (St.nth l ((j - 1) / 2)) = false
      · rw [if_pos (.inr hlt), hlt]
        exact ok_ret.2 (ok_true rfl (ok_ret.2 (ok_ret.2 ⟨T, C1, H, K⟩)))
      · rw [if_neg (by simp only [not_or]; exact ⟨h0, hlt⟩)]
        have hlt' : St.lt (St.nth l j) (St.nth l ((j - 1) / 2)) = true := by simpa using hlt
        rw [hlt']
        refine ok_ret.2 (ok_false rfl ?_)
        refine ok_drfS (ok_ldT C1 H ?_)
        refine swap_spec C1 H (i := (j - 1) / 2) (by omega) hj rfl rfl fun w2 T2 C2 H2 K2 => ?_
        refine ok_ret.2 ?_
        exact up_spec f (St.swap l ((j - 1) / 2) j) ((j - 1) / 2) T2 w2 (by omega) (by rw [St.swap_length]; omega) (by rw [St.swap_length]; exact hl) C2 H2 (K.trans K2)
theorem down_spec (C : Tr en w0 T0 w T) (H : HT T sb S l) {i n f0 : Nat} (hn : n ≤ l.length) (hl : l.length ≤ 1000000) (hi : n ≤ i + f0) (hi1 : i ≤ 1000000) {x y : Int} (hx : x = i) (hy : y = n) {f : Bool → M α} (hq : ∀ b w' T', Tr en w0 T0 w' T' → HT T' sb S (St.down f0 l i n) → KT T T' → Ok (f b) w' Q) : Ok (bnd (f91_heap_down (some ⟨sb, 21, none⟩) x y) f) w Q := by
  subst hx hy
  unfold f91_heap_down
  refine ok_bnd.2 (ok_bnd.2 ?_)
  refine ok_loopN (fun m (i' : Int) w' => ∃ i1 l1 T1, i' = ((i1 : Nat) : Int) ∧ n ≤ i1 + m ∧ St.down m l1 i1 n = St.down f0 l i n ∧ l1.length = l.length ∧ Tr en w0 T0 w' T1 ∧ HT T1 sb S l1 ∧ KT T T1 ∧ i1 ≤ 1000000) ?_ f0 _ w ?_
  rotate_left
  · exact ⟨i, l, T, rfl, hi, rfl, rfl, C, H, KT.refl _, hi1⟩
  rintro m i' w' ⟨i1, l1, T1, rfl, h1, h2, h3, C1, H1, K1, hb⟩
  generalize St.down f0 l i n = tgt at h2 hq ⊢
  have e2 : (IntKind.wrap .i64 ((IntKind.wrap .i64 ((2 : Int) * (i1 : Int))) + (1 : Int))) = ((2 * i1 + 1 : Nat) : Int) := by
    rw [wI (n := 2 * (i1 : Int)) (by omega), wI (by omega)]; omega
  have e3 : (IntKind.wrap .i64 (((2 * i1 + 1 : Nat) : Int) + (1 : Int))) = ((2 * i1 + 2 : Nat) : Int) := by
    rw [wI (by omega)]; omega
  rw [e2, e3]
  by_cases hd : 2 * i1 + 1 ≥ n
  · refine ok_true (by rw [decide_eq_true (show ((2 * i1 + 1 : Nat) : Int) ≥ (n : Int) by omega)]; rfl) (ok_ret.2 (ok_ret.2 ?_))
    refine hq _ _ _ C1 ?_ K1
    rw [← h2]
    cases m with
    | zero => exact H1
    | succ m => unfold St.down; rw [if_pos hd]; exact H1
  · have hm : m ≠ 0 := by omega
    obtain ⟨m, rfl⟩ : ∃ k, m = k + 1 := ⟨m - 1, by omega⟩
    refine ok_false (by rw [decide_eq_false (show ¬ ((2 * i1 + 1 : Nat) : Int) ≥ (n : Int) by omega), decide_eq_false (by omega)]; rfl) ?_
    unfold St.down at h2
    rw [if_neg hd] at h2
    have key : Ok (bnd (cnd (decide (((2 * i1 + 2 : Nat) : Int) < (n : Int))) (bnd (drf (some ⟨sb, 21, none⟩)) fun (p3 : Addr) => bnd (ld .sl p3) fun (v4 : Sl) => bnd (f130_sched_timers_Less v4 ((2 * i1 + 2 : Nat) : Int) ((2 * i1 + 1 : Nat) : Int)) fun (r5 : Bool) => ret r5) (ret false)) fun (b6 : Bool) => cnd b6 (ret ((2 * i1 + 2 : Nat) : Int)) (ret ((2 * i1 + 1 : Nat) : Int))) w' fun r w2 => r = (St.kid l1 i1 n : Int) ∧ Tr en w0 T0 w2 T1 := by
      unfold St.kid
      refine ok_bnd.2 ?_
      by_cases h22 : 2 * i1 + 2 < n
      · refine ok_true (by simp only [decide_eq_true_eq]; omega) ?_
        refine ok_drfS (ok_ldT C1 H1 ?_)
        refine ok_less C1 H1.tm (i := 2 * i1 + 2) (j := 2 * i1 + 1) (by omega) (by omega) rfl rfl fun w2 C2 => ok_ret.2 ?_
        cases hb : St.lt (St.nth l1 (2 * i1 + 2)) (St.nth l1 (2 * i1 + 1)) with
        | true => rw [if_pos ⟨h22, rfl⟩]; exact ok_true rfl (ok_ret.2 ⟨rfl, C2⟩)
        | false => rw [if_neg (by simp)]; exact ok_false rfl (ok_ret.2 ⟨rfl, C2⟩)
      · rw [if_neg (by simp [h22])]
        exact ok_false (by simp only [decide_eq_false_iff_not]; omega) (ok_ret.2 (ok_false rfl (ok_ret.2 ⟨rfl, C1⟩)))
    rw [← bnd_as]
    refine ok_bnd.2 (ok_mono key ?_)
    rintro r w2 ⟨rfl, C2⟩
    have hk := St.kid_lt (l := l1) (i := i1) (n := n) (by omega)
    refine ok_drfS (ok_ldT C2 H1 ?_)
    refine ok_less C2 H1.tm (i := St.kid l1 i1 n) (j := i1) (by omega) (by omega) rfl rfl fun w3 C3 => ?_
    cases hb : St.lt (St.nth l1 (St.kid l1 i1 n)) (St.nth l1 i1) with
    | false =>
      rw [if_pos hb] at h2
      refine ok_true rfl (ok_ret.2 (ok_ret.2 ?_))
      exact hq _ _ _ C3 (by rw [← h2]; exact H1) K1
    | true =>
      rw [if_neg (by rw [hb]; simp)] at h2
      refine ok_false rfl ?_
      refine ok_drfS (ok_ldT C3 H1 ?_)
      refine swap_spec C3 H1 (i := i1) (j := St.kid l1 i1 n) (by omega) (by omega) rfl rfl fun w4 T4 C4 H4 K4 => ?_
      have hk2 : i1 + 1 ≤ St.kid l1 i1 n := by unfold St.kid; split <;> omega
      exact ok_ret.2 ⟨m, by omega, St.kid l1 i1 n, St.swap l1 i1 (St.kid l1 i1 n), T4, rfl, by omega, h2, by rw [St.swap_length]; exact h3, C4, H4, K1.trans K4, by omega⟩
end
end Go.Proofs.YtkkdeljladihpaaGreat

/-
  The scheduler: timers made and fired.
-/
namespace Go.Proofs.YtkkdeljladihpaaGreat
open Go.Sh Go.RowKit
set_option maxRecDepth 100000
section
variable {w0 w : World} {T0 T : Hp} {sb : Nat} {S : Sk} {L : List Sm} {A : St} {α β : Type} {Q : α → World → Prop} {l : List Tm}
theorem SInv.ht (I : SInv T sb S L A) : HT T sb S A.timers := ⟨I.sch, I.qlen, I.timers⟩
/-- The heap turned: the whole state again. -/
theorem SInv.ofHT (I : SInv T sb S L A) {T' : Hp} {S' : Sk} {l : List Tm} (hs : S' = { S with timers := S'.timers }) (H : HT T' sb S' l) (K : ∀ c o, T c = some o → (∀ l, o ≠ .tms l) → (∀ s, o ≠ .sch s) → T' c = some o) : SInv T' sb S' L { A with timers := l } := by
  rw [hs] at H ⊢
  exact { I with sch := H.sch, procs := I.procs.mono fun c l _ hc => K _ _ hc (by simp) (by simp), sems := I.sems.mono fun c l _ hc => K _ _ hc (by simp) (by simp), sem := fun i s r hs hr => ⟨(I.sem i s r hs hr).1, (I.sem i s r hs hr).2.mono fun c l _ hc => K _ _ hc (by simp) (by simp)⟩, queue := fun p q hq => (I.queue p q hq).mono fun c l _ hc => K _ _ hc (by simp) (by simp), timers := H.tm }
theorem push_spec (h : Th en w T) (H : HT T sb S l) (hl : l.length ≤ 4096) (t : Tm) : Sr (f90_heap_Push (some ⟨sb, 21, none⟩) (t.time, t.made, t.sem)) w T fun _ _ T' => ∃ q, HT T' sb { S with timers := q } (St.pushT l t) ∧ (∀ c o, T c = some o → (∀ l, o ≠ .tms l) → (∀ s, o ≠ .sch s) → T' c = some o) := by
  have hml : maxLen = 9223372036854775807 := by decide
  unfold f90_heap_Push
  have C := Tr.refl h
  have hp : Sr (f133_sched_timers_Push (some ⟨sb, 21, none⟩) (t.time, t.made, t.sem)) w T fun _ _ T' => ∃ q, HT T' sb { S with timers := q } (l ++ [t]) ∧ (∀ c o, T c = some o → (∀ l, o ≠ .tms l) → (∀ s, o ≠ .sch s) → T' c = some o) := by
    unfold f133_sched_timers_Push
    refine ok_bnd.2 ?_
    simp only [bnd_as, bnd_ret]
    refine ok_tord C fun o w1 C1 => ?_
    refine ok_drfS (ok_ldT C1 H ?_)
    refine ok_new1 C1 row53 (by decide) (F := t) rfl fun s w2 C2 K => ?_
    refine ok_bnd.2 (ok_chk (C2.th _ _ H.sch).1 (by have := rd_timers H.ql; rwa [Nat.zero_add] at this) ?_)
    refine ok_appX C2 row53 (mk := Ob.tms) (fun _ => rfl) H.tm K (by simp; omega) (by simp; omega) fun r w3 T3 C3 hr3 hT => ?_
    have keep : KT T T3 := fun c o hc hne => by
      rcases hT with ⟨rfl, _, _⟩ | ⟨fb, M, rfl, hra, hfb⟩
      · exact hc
      rcases hfb with h0 | ⟨_, M0, hM⟩
      · exact put_new hc h0
      · exact put_other hc hM (hne _)
    refine ok_drfS (ok_wrT C3 (keep _ _ H.sch (by simp)) H.ql r fun w4 C4 => ?_)
    refine ok_ret.2 (ok_ret.2 ⟨_, C4, r, ⟨put_eq _ _ _, H.ql, hr3.mono fun b L _ hb => put_other hb (keep _ _ H.sch (by simp)) (by simp)⟩, fun c o hc n1 n2 => put_other (keep _ _ hc n1) (keep _ _ H.sch (by simp)) (n2 _)⟩)
  refine ok_scall C hp fun _ w1 T1 C1 h1 => ?_
  obtain ⟨q, H1, K1⟩ := h1
  refine ok_drfS (ok_ldT C1 H1 ?_)
  have hq : q.len = l.length + 1 := by rw [H1.tm.len]; simp
  refine ok_bnd.2 (ok_ret.2 ?_)
  have e : IntKind.wrap .i64 ((q.len : Int) - 1) = (l.length : Int) := by rw [hq, wI (by omega)]; omega
  show Ok (bnd (f105_heap_up _ (IntKind.wrap .i64 ((q.len : Int) - 1))) _) _ _
  rw [e]
  refine ok_bnd.2 (ok_mono (up_spec (l.length + 1) (l ++ [t]) l.length T1 w1 (by omega) (by simp) (by simp; omega) (Tr.refl C1.th) H1 (KT.refl _)) ?_)
  rintro _ w2 ⟨T2, C2, H2, K2⟩
  exact ok_ret.2 ⟨T2, C1.trans C2, q, H2, fun c o hc n1 n2 => K2 _ _ (K1 _ _ hc n1 n2) n1⟩
theorem at_spec (h : Th en w T) (I : SInv T sb S L A) (F : FitX A 0) (hm : 0 ≤ A.made ∧ A.made < 9223372036854775807) (x t : Int) : Sr (f22_At (some ⟨sb, 0, none⟩) x t) w T fun r _ T' => r = (A.at_ x t).1 ∧ ∃ S' L', SInv T' sb S' L' (A.at_ x t).2 := by
  unfold f22_At
  have C := Tr.refl h
  have hf := F.few
  refine sem_spec C I hf.2.1 (fun hx => ?_) fun n b M r hn hx h1 h2 sat g1 g2 g3 g4 g5 => ?_
  · unfold St.at_
    rw [if_pos hx]
    exact ok_true rfl (ok_ret.2 ⟨T, C, rfl, S, L, I⟩)
  unfold St.at_
  rw [hx, if_neg (by simp)]
  refine ok_false rfl ?_
  by_cases ht : t < 0 ∨ t > 1152921504606846976
  · rw [if_pos ht]
    exact ok_true (by rcases ht with h | h <;> simp [h]) (ok_ret.2 ⟨T, C, rfl, S, L, I⟩)
  rw [if_neg ht]
  refine ok_false (by simp only [not_or] at ht; simp only [ht.1, ht.2, decide_false, cond_false]) ?_
  refine ok_drfS (ok_tld C I.sch (rd_timers I.qlen) ?_)
  have htl := I.timers.len
  by_cases hl : A.timers.length ≥ 4096
  · rw [if_pos hl]
    exact ok_true (by rw [htl]; simp only [ge_iff_le, decide_eq_true_eq]; omega) (ok_ret.2 ⟨T, C, rfl, S, L, I⟩)
  rw [if_neg hl]
  refine ok_false (by rw [htl]; simp only [ge_iff_le, decide_eq_false_iff_not]; omega) ?_
  refine ok_bnd.2 ?_
  unfold f68_later
  refine ok_drfS (ok_tld C I.sch (rd_made I.qlen) ?_)
  rw [I.made, wI (by omega)]
  refine ok_drfS (ok_wrM C I.sch I.qlen _ fun w1 C1 => ?_)
  have I1 := I.setMade (A.made + 1)
  refine ok_bnd.2 ?_
  simp only [bnd_as, bnd_ret]
  refine ok_tord C1 fun o w2 C2 => ?_
  refine ok_drfS (ok_drfS (ok_tld C2 I1.sch (rd_made I1.qlen) ?_))
  rw [addr_add, Nat.zero_add]
  refine ok_scall C2 (push_spec C2.th I1.ht (by show A.timers.length ≤ 4096; omega) ⟨t, A.made + 1, x⟩) fun _ w3 T3 C3 h3 => ?_
  obtain ⟨q, H3, K3⟩ := h3
  have I3 := I1.ofHT rfl H3 K3
  refine ok_tchk C3 I3.sch (rd_made I3.qlen) ?_
  exact ok_ret.2 (ok_ret.2 (ok_ret.2 ⟨T3, C3, rfl, _, _, I3⟩))
theorem pop_spec (h : Th en w T) (H : HT T sb S l) (hne : l ≠ []) (hl : l.length ≤ 4096) : Sr (f69_heap_Pop (some ⟨sb, 21, none⟩)) w T fun r _ T' => r = ((St.popT l).1.time, (St.popT l).1.made, (St.popT l).1.sem) ∧ ∃ q, HT T' sb { S with timers := q } (St.popT l).2 ∧ (∀ c o, T c = some o → (∀ l, o ≠ .tms l) → (∀ s, o ≠ .sch s) → T' c = some o) := by
  have hml : maxLen = 9223372036854775807 := by decide
  have hp := List.length_pos_iff.2 hne
  unfold f69_heap_Pop
  have C := Tr.refl h
  have htl := H.tm.len
  refine ok_drfS (ok_ldT C H ?_)
  refine ok_bnd.2 (ok_ret.2 ?_)
  have e : IntKind.wrap .i64 ((S.timers.len : Int) - 1) = ((l.length - 1 : Nat) : Int) := by rw [htl, wI (by omega)]; omega
  show Ok (bnd (drf _) fun _ => bnd (ld .sl _) fun _ => bnd (f131_sched_timers_Swap _ _ (IntKind.wrap .i64 ((S.timers.len : Int) - 1))) fun _ => bnd (f91_heap_down _ _ (IntKind.wrap .i64 ((S.timers.len : Int) - 1))) _) _ _
  rw [e]
  refine ok_drfS (ok_ldT C H ?_)
  refine swap_spec C H (i := 0) (j := l.length - 1) hp (by omega) rfl rfl fun w1 T1 C1 H1 K1 => ?_
  refine down_spec (i := 0) (n := l.length - 1) (f0 := l.length) C1 H1 (by rw [St.swap_length]; omega) (by rw [St.swap_length]; omega) (by omega) (by omega) rfl rfl fun b w2 T2 C2 H2 K2 => ?_
  have hml2 : (St.down l.length (St.swap l 0 (l.length - 1)) 0 (l.length - 1)).length = l.length := by
    have := (St.down_perm l.length (St.swap l 0 (l.length - 1)) 0 (l.length - 1) (by rw [St.swap_length]; exact hp) (by rw [St.swap_length]; omega)).length_eq
    rw [St.swap_length] at this; exact this
  have ep : St.popT l = (St.nth (St.down l.length (St.swap l 0 (l.length - 1)) 0 (l.length - 1)) (l.length - 1), (St.down l.length (St.swap l 0 (l.length - 1)) 0 (l.length - 1)).take (l.length - 1)) := rfl
  rw [ep]
  generalize St.down l.length (St.swap l 0 (l.length - 1)) 0 (l.length - 1) = m at H2 hml2
  refine ok_bnd.2 ?_
  unfold f132_sched_timers_Pop
  have htl2 := H2.tm.len
  have e2 : IntKind.wrap .i64 ((S.timers.len : Int) - 1) = ((l.length - 1 : Nat) : Int) := by rw [htl2, wI (by omega)]; omega
  refine ok_drfS (ok_ldT C2 H2 ?_)
  refine ok_drfS (ok_ldT C2 H2 ?_)
  rw [e2]
  obtain ⟨tb, M, g1, g2, g3, g4, g5⟩ := Rx.get H2.tm (i := l.length - 1) (by omega)
  have hle2 := H2.tm.le
  refine ok_ixN g1 (by omega) (by omega) ?_
  rw [Int.toNat_natCast]
  have r1 := flat_rdv (g := Tm.en) (n := 3) (k := 0) (fun _ => rfl) g3 (by decide) (tm_agg _)
  rw [Nat.add_zero] at r1
  refine ok_tld0 C2 g2 r1 ?_
  refine ok_tnew C2 (.tms [⟨0, 0, 0⟩]) rfl fun c w3 hc C3 => ?_
  have h30 : ⟨c, 0, none⟩ = (⟨c, 3 * 0, none⟩ : Addr) := rfl
  rw [h30]
  refine ok_tmw C3 (put_eq _ _ _) (by simp) (St.nth m (l.length - 1)) fun w4 C4 => ?_
  rw [put_put] at C4
  have H4 : HT (put T2 c (.tms ([(⟨0, 0, 0⟩ : Tm)].set 0 (St.nth m (l.length - 1))))) sb S m := ⟨put_new H2.sch hc, H2.ql, H2.tm.mono fun b L _ hb => put_new hb hc⟩
  refine ok_drfS (ok_ldT C4 H4 ?_)
  refine ok_slc03 (n := l.length - 1) (by omega) ?_
  refine ok_drfS (ok_wrT C4 H4.sch H4.ql _ fun w5 C5 => ?_)
  have hcs : sb ≠ c := by rintro rfl; have := H2.sch; rw [hc] at this; cases this
  have hc5 : put (put T2 c (.tms ([(⟨0, 0, 0⟩ : Tm)].set 0 (St.nth m (l.length - 1))))) sb (.sch { S with timers := ⟨S.timers.a, l.length - 1, l.length - 1⟩ }) c = some (.tms [St.nth m (l.length - 1)]) := by
    rw [put_ne _ hcs.symm, put_eq]; rfl
  refine ok_tld0 C5 hc5 (x := ((St.nth m (l.length - 1)).time, (St.nth m (l.length - 1)).made, (St.nth m (l.length - 1)).sem)) (by rfl) (ok_ret.2 (ok_ret.2 ⟨_, C5, rfl, ⟨S.timers.a, l.length - 1, l.length - 1⟩, ⟨put_eq _ _ _, H4.ql, ?_⟩, fun c' o hc' n1 n2 => ?_⟩))
  · refine ⟨by rw [List.length_take]; show l.length - 1 = _; omega, Nat.le_refl _, by show l.length - 1 ≤ _; omega, .inr ⟨tb, M, g1, ?_, by show l.length - 1 ≤ _; omega, ?_⟩⟩
    · rw [put_ne _ (by rintro rfl; have := H2.sch; rw [g2] at this; cases this)]
      exact put_new g2 hc
    · rw [List.length_take, hml2, Nat.min_eq_left (by omega), ← g5, List.take_take, Nat.min_eq_left (by omega)]
  · exact put_other (put_new (K2 _ _ (K1 _ _ hc' n1) n1) hc) H4.sch (n2 _)
theorem ticks_made {now : Int} : ∀ (f : Nat) (A : St) (n : Int), (St.ticks now f A n).1.made = A.made ∧ (St.ticks now f A n).1.now = A.now
  | 0, A, n => ⟨rfl, rfl⟩
  | f + 1, A, n => by
    unfold St.ticks
    split
    · have h := ticks_made (now := now) f (({ A with timers := (St.popT A.timers).2 } : St).signal0 (St.popT A.timers).1.sem).2 (n + 1)
      have e : (({ A with timers := (St.popT A.timers).2 } : St).signal0 (St.popT A.timers).1.sem).2.made = A.made ∧ (({ A with timers := (St.popT A.timers).2 } : St).signal0 (St.popT A.timers).1.sem).2.now = A.now := by
        unfold St.signal0
        split
        · exact ⟨rfl, rfl⟩
        split
        · exact ⟨rfl, rfl⟩
        split <;> exact ⟨rfl, rfl⟩
      rw [h.1, h.2]; exact e
    · exact ⟨rfl, rfl⟩
theorem signal0_timers (A : St) (n : Int) : (A.signal0 n).2.timers = A.timers := by
  unfold St.signal0
  split
  · rfl
  split
  · rfl
  split <;> rfl
theorem tick_spec (h : Th en w T) (I : SInv T sb S L A) (F : FitX A 0) (x : Int) : Sr (f23_Tick (some ⟨sb, 0, none⟩) x) w T fun r _ T' => r = (A.tick x).1 ∧ ∃ S' L', SInv T' sb S' L' (A.tick x).2 := by
  unfold f23_Tick St.tick
  have C := Tr.refl h
  have hf := F.few
  refine ok_drfS (ok_tld C I.sch (x := S.now) rfl ?_)
  rw [I.now]
  by_cases ht : x < A.now ∨ x > 1152921504606846976
  · rw [if_pos ht]
    exact ok_true (by rcases ht with h | h <;> simp [h]) (ok_ret.2 ⟨T, C, rfl, S, L, I⟩)
  rw [if_neg ht]
  refine ok_false (by simp only [not_or] at ht; simp only [ht.1, ht.2, decide_false, cond_false]) ?_
  refine ok_drfS (ok_wrN C I.sch x fun w1 C1 => ?_)
  have I1 := I.setNow x
  have F1 : FitX ({ A with now := x } : St) 0 := F.timers (m := A.made) F.tms F.few.2.2
  generalize hB : St.ticks x A.timers.length { A with now := x } 0 = R
  refine ok_loopN (fun m (i' : Int) w' => ∃ B T' S' L', St.ticks x m B i' = R ∧ m = B.timers.length ∧ Tr en w T w' T' ∧ SInv T' sb S' L' B ∧ FitX B 0 ∧ 0 ≤ i' ∧ i' + m ≤ 4096) ?_ A.timers.length 0 w1 ⟨_, _, _, _, hB, rfl, C1, I1, F1, by omega, by omega⟩
  rintro m i' w' ⟨B, T2, S2, L2, hR, rfl, C2, I2, F2, hi0, hi1⟩
  have htl := I2.timers.len
  refine ok_drfS (ok_tld C2 I2.sch (rd_timers I2.qlen) ?_)
  have key : Ok (cnd (decide ((S2.timers.len : Int) > (0 : Int))) (bnd (drf (some ⟨sb, 0, none⟩)) fun (p7 : Addr) => bnd (ld .sl (Addr.add p7 21)) fun (v8 : Sl) => bnd (ix 3 v8 (0 : Int)) fun (p9 : Addr) => bnd (ld (.int .i64) (Addr.add p9 0)) fun (v10 : Int) => ret (decide (v10 ≤ x))) (ret false)) w' fun r w2 => r = decide (B.timers ≠ [] ∧ (St.nth B.timers 0).time ≤ x) ∧ w2 = w' := by
    by_cases h0 : B.timers = []
    · refine ok_false (by rw [htl, h0]; rfl) (ok_ret.2 ⟨?_, rfl⟩)
      rw [decide_eq_false (by simp [h0])]
    · have hpos := List.length_pos_iff.2 h0
      refine ok_true (by rw [htl]; simp only [gt_iff_lt, decide_eq_true_eq]; omega) ?_
      refine ok_drfS (ok_tld C2 I2.sch (rd_timers I2.qlen) ?_)
      refine ok_tmf C2 I2.timers (i := 0) hpos rfl (v := (St.nth B.timers 0).time) (by decide) rfl (ok_ret.2 ⟨?_, rfl⟩)
      exact decide_eq_decide.2 ⟨fun h => ⟨h0, h⟩, fun h => h.2⟩
  refine ok_bnd.2 (ok_mono key ?_)
  rintro r w2 ⟨rfl, rfl⟩
  have hun : ∀ m, St.ticks x (m + 1) B i' = if B.timers ≠ [] ∧ (St.nth B.timers 0).time ≤ x then St.ticks x m (({ B with timers := (St.popT B.timers).2 } : St).signal0 (St.popT B.timers).1.sem).2 (i' + 1) else (B, i') := fun m => by rw [St.ticks]
  by_cases hc : B.timers ≠ [] ∧ (St.nth B.timers 0).time ≤ x
  · refine ok_true (decide_eq_true hc) ?_
    have hpos := List.length_pos_iff.2 hc.1
    have hpm := popT_mem hc.1
    have hfew := F2.few
    refine ok_drfS ?_
    rw [addr_add, Nat.zero_add]
    refine ok_scall C2 (pop_spec C2.th I2.ht hc.1 hfew.2.2) fun r3 w3 T3 C3 h3 => ?_
    obtain ⟨rfl, q, H3, K3⟩ := h3
    have I3 := I2.ofHT rfl H3 K3
    have F3 := F2.pop hc.1
    refine ok_scall C3 (signal0_spec C3.th I3 F3 _) fun r4 w4 T4 C4 h4 => ?_
    obtain ⟨_, S4, L4, I4⟩ := h4
    have hm : B.timers.length = (B.timers.length - 1) + 1 := by omega
    rw [hm, hun, if_pos hc] at hR
    have ew : IntKind.wrap .i64 (i' + 1) = i' + 1 := wI (by omega)
    have e5 : (({ B with timers := (St.popT B.timers).2 } : St).signal0 (St.popT B.timers).1.sem).2.timers.length = B.timers.length - 1 := by rw [signal0_timers]; simp only; omega
    refine ok_ret.2 ⟨B.timers.length - 1, by omega, _, T4, S4, L4, by rw [ew]; exact hR, e5.symm, C4, I4, F3.signal0 _, ?_, ?_⟩
    · rw [ew]; omega
    · rw [ew]; omega
  · refine ok_false (decide_eq_false hc) ?_
    have hRe : R = (B, i') := by
      rw [← hR]
      cases hm : B.timers.length with
      | zero => rfl
      | succ m => rw [hun, if_neg hc]
    subst hRe
    refine ok_bnd.2 ?_
    refine ok_runs C2 I2 F2 fun w5 T5 S5 L5 C5 I5 => ?_
    exact ok_ret.2 (ok_ret.2 ⟨T5, C5, rfl, S5, L5, I5⟩)
end
end Go.Proofs.YtkkdeljladihpaaGreat

/-
  The scheduler: what is handed in; what lies beside; one call of a law.
-/
namespace Go.Sh
open Go.RowKit
theorem rdv_of {t : Ty} {c : Array Value} {o : Nat} {l : List Value} {x : t.den} (hl : l.length = t.size) (hz : 0 < t.size) (h : ∀ k, k < t.size → c[o + k]? = l[k]?) (hd : decs t l = some x) : rdv t c o = some x := by
  have hlast := h (t.size - 1) (by omega)
  rw [List.getElem?_eq_getElem (by omega)] at hlast
  have hsz : o + (t.size - 1) < c.size := by
    rcases Nat.lt_or_ge (o + (t.size - 1)) c.size with h' | h'
    · exact h'
    · rw [Array.getElem?_eq_none h'] at hlast; cases hlast
  unfold rdv
  rw [if_pos (by omega), ← hd]
  congr 1
  apply List.ext_getElem?
  intro k
  by_cases hk : k < t.size
  · rw [List.getElem?_take_of_lt hk, List.getElem?_drop, ← h k hk, Array.getElem?_toList]
  · rw [List.getElem?_eq_none (by simp; omega), List.getElem?_eq_none (by omega)]
/-- What a slice that was handed in holds. -/
theorem held_at {w : World} {e : Shp} {s : Sl} (h : Held w (.sl e) s) (hz : 0 < e.ty.size) (hl : 0 < s.len) (henc : ∀ y : e.ty.den, (enc e.ty true y).length = e.ty.size) :
    ∃ b o c, s.a = some ⟨b, o, none⟩ ∧ b < w.heap.size ∧ blk w b = some c ∧ ∀ i, i < s.len → ∃ y : e.ty.den, Held w e y ∧ ∀ k, k < e.ty.size → c[o + e.ty.size * i + k]? = (enc e.ty true y)[k]? := by
  rcases h with ⟨_, h2, _⟩ | ⟨a, ha, hlc, hcm, hel⟩
  · omega
  have key : ∀ i, i < s.len → ∃ y : e.ty.den, Held w e y ∧ ∀ k, k < e.ty.size → w.cell? ((a.add (i * e.ty.size)).add k) = (enc e.ty true y)[k]? := by
    intro i hi
    obtain ⟨y, h1, h2⟩ := hel i (by omega)
    obtain ⟨_, hlen, hg⟩ := World.cells?_some h1
    refine ⟨y, h2, fun k hk => ?_⟩
    exact hg k hk
  obtain ⟨b, o, sp⟩ := a
  obtain ⟨y0, _, h0⟩ := key 0 hl
  have h00 := h0 0 hz
  have e0 : (Addr.add (Addr.add ⟨b, o, sp⟩ (0 * e.ty.size)) 0) = ⟨b, o, sp⟩ := by rw [Nat.zero_mul]; unfold Addr.add; rw [if_pos rfl, if_pos rfl]
  rw [e0, List.getElem?_eq_getElem (by rw [henc]; exact hz)] at h00
  have hsp : sp = none := by
    unfold World.cell? at h00
    simp only at h00
    split at h00
    · cases sp with
      | none => rfl
      | some x => simp at h00
    · cases h00
  subst hsp
  have hb : ∃ c, blk w b = some c := by
    unfold World.cell? at h00
    simp only at h00
    unfold blk
    split at h00
    · rename_i c e fz hb; exact ⟨c, by rw [hb]⟩
    · cases h00
  obtain ⟨c, hc⟩ := hb
  refine ⟨b, o, c, ha, blk_lt hc, hc, fun i hi => ?_⟩
  obtain ⟨y, h1, h2⟩ := key i hi
  refine ⟨y, h1, fun k hk => ?_⟩
  rw [← h2 k hk, addr_add, addr_add, cell_blk hc, Nat.mul_comm]
theorem ok_ixQ {s : Sl} {n : Nat} {b o : Nat} {i : Int} {w : World} {α : Type} {f : Addr → M α} {Q : α → World → Prop} (ha : s.a = some ⟨b, o, none⟩) (h0 : 0 ≤ i) (h1 : i < s.len) (hq : Ok (f ⟨b, o + n * i.toNat, none⟩) w Q) : Ok (bnd (ix n s i) f) w Q := by
  refine ok_bnd.2 ?_
  unfold ix
  rw [ha]
  simp only
  rw [if_pos ⟨h0, h1⟩]
  refine ok_ret.2 ?_
  rw [addr_add, Nat.mul_comm]
  exact hq
theorem ok_old0 {w0 w : World} (hb : Below w0.heap.size w0 w) {b : Nat} {c : Array Value} (hlt : b < w0.heap.size) (hc : blk w0 b = some c) {m : Nat} {t : Ty} {x : t.den} {α : Type} {f : t.den → M α} {Q : α → World → Prop} (hx : rdv t c m = some x) (hq : Ok (f x) w Q) : Ok (bnd (ld t ⟨b, m, none⟩) f) w Q :=
  ok_bnd.2 (ok_ld ((blk_of (hb.block b hlt)).trans hc) hx hq)
section
variable {O : Type} {en : O → List Value} {w0 w w' : World} {T0 T T' : Nat → Option O}
/-- What lies beside. -/
structure Hid (w0 w : World) (T : Nat → Option O) (c : Nat) (l : List Value) : Prop where
  off : T c = none
  blk : blk w c = some l.toArray
  cl : cln w c = true
  new : w0.heap.size ≤ c
theorem Hid.step {c : Nat} {l : List Value} (h : Hid w0 w T c l) (C : Tr en w T w' T') : Hid w0 w' T' c l := by
  have hlt := blk_lt h.blk
  have hk := C.keep.block c hlt (by simpa using h.off)
  refine ⟨?_, (blk_of hk).trans h.blk, by have := h.cl; unfold cln at this ⊢; rw [hk]; exact this, h.new⟩
  cases hT : T' c with
  | none => rfl
  | some o =>
    rcases C.new c (by rw [hT]; simp) with h' | h'
    · exact absurd h.off h'
    · omega
theorem Tr.less {T1 : Nat → Option O} (C : Tr en w0 T0 w T1) (hT : ∀ b p, T b = some p → T1 b = some p) : Tr en w0 T0 w T := by
  refine ⟨fun b p hb => C.th b p (hT b p hb), C.keep, fun b hb => ?_⟩
  cases hb' : T b with
  | none => exact absurd hb' hb
  | some p => exact C.new b (by rw [hT b p hb']; simp)
theorem Hid.put {c d : Nat} {l : List Value} {o : O} (h : Hid w0 w T c l) (hd : d ≠ c) : Hid w0 w (put T d o) c l := ⟨by rw [put_ne _ (Ne.symm hd)]; exact h.off, h.blk, h.cl, h.new⟩
/-- Seen from a smaller map. -/
theorem Hid.less {T1 : Nat → Option O} {c : Nat} {l : List Value} (h : Hid w0 w T1 c l) (hT : ∀ b p, T b = some p → T1 b = some p) : Hid w0 w T c l := by
  refine ⟨?_, h.blk, h.cl, h.new⟩
  cases hb : T c with
  | none => rfl
  | some p => have := hT c p hb; rw [h.off] at this; cases this
end
end Go.Sh
namespace Go.Proofs.YtkkdeljladihpaaGreat
open Go.Sh Go.RowKit
set_option maxRecDepth 100000
abbrev Act := Int × (Int × Int)
/-- An act, as it is handed in. -/
abbrev shAct : Shp := .agg (.pair (.int .i64) (.pair (.int .i64) (.int .i64)))
structure Acts (w0 : World) (s : Sl) (l : List Act) : Prop where
  len : s.len = l.length
  max : l.length ≤ 9223372036854775807
  at_ : l = [] ∨ ∃ b o c, s.a = some ⟨b, o, none⟩ ∧ b < w0.heap.size ∧ blk w0 b = some c ∧ ∀ (i : Nat) x, l[i]? = some x → ∀ k, k < 3 → c[o + 3 * i + k]? = [Value.int .i64 x.1, .int .i64 x.2.1, .int .i64 x.2.2][k]?
theorem held_acts {w : World} {s : Sl} (h : Held w (.sl shAct) s) : ∃ l, Acts w s l := by
  have hmx : s.len ≤ 9223372036854775807 := by
    have hml : maxLen = 9223372036854775807 := by decide
    rcases h with ⟨_, h2, _⟩ | ⟨a, ha, hlc, hcm, hel⟩
    · omega
    · omega
  by_cases h0 : 0 < s.len
  · obtain ⟨b, o, c, h1, h2, h3, h4⟩ := held_at h (by decide) h0 (fun y => rfl)
    have hx : ∀ i, ∃ x : Act, i < s.len → ∀ k, k < 3 → c[o + 3 * i + k]? = [Value.int .i64 x.1, .int .i64 x.2.1, .int .i64 x.2.2][k]? := by
      intro i
      by_cases hi : i < s.len
      · obtain ⟨y, _, hy⟩ := h4 i hi
        exact ⟨y, fun _ k hk => hy k hk⟩
      · exact ⟨(0, 0, 0), fun h => absurd h hi⟩
    refine ⟨(List.range s.len).map fun i => Classical.choose (hx i), by simp, by simpa using hmx, .inr ⟨b, o, c, h1, h2, h3, fun i x hi k hk => ?_⟩⟩
    rw [List.getElem?_map] at hi
    have hlt : i < s.len := by
      rcases Nat.lt_or_ge i s.len with h | h
      · exact h
      · rw [List.getElem?_eq_none (by simpa using h)] at hi; cases hi
    rw [List.getElem?_range hlt] at hi
    simp only [Option.map_some, Option.some.injEq] at hi
    subst hi
    exact Classical.choose_spec (hx i) hlt k hk
  · exact ⟨[], by simp; omega, by simp, .inl rfl⟩
section
variable {w0 w : World} {T0 T : Hp} {sb : Nat} {S : Sk} {L : List Sm} {A : St} {α β : Type} {Q : α → World → Prop}
theorem ok_act {s : Sl} {l : List Act} (H : Acts w0 s l) (hb : Below w0.heap.size w0 w) {i : Nat} {x : Act} (hx : l[i]? = some x) {y : Int} (hy : y = i) {f : Act → M α} (hq : Ok (f x) w Q) : Ok (bnd (ix 3 s y) fun (p : Addr) => bnd (ld (.agg (.pair (.int .i64) (.pair (.int .i64) (.int .i64)))) p) f) w Q := by
  subst hy
  have hi : i < l.length := by
    rcases Nat.lt_or_ge i l.length with h | h
    · exact h
    · rw [List.getElem?_eq_none h] at hx; cases hx
  rcases H.at_ with rfl | ⟨b, o, c, h1, h2, h3, h4⟩
  · simp at hi
  have := H.len
  refine ok_ixQ h1 (by omega) (by omega) ?_
  rw [Int.toNat_natCast]
  refine ok_old0 hb h2 h3 (x := x) (rdv_of (l := [Value.int .i64 x.1, .int .i64 x.2.1, .int .i64 x.2.2]) rfl (by decide) (fun k hk => h4 i x hx k hk) rfl) hq
theorem bel (C : Tr en w0 (fun _ => none) w T) : Below w0.heap.size w0 w := (C.keep.mono (S' := No) (fun i _ h => by simp at h)).all
/-- One call. -/
def St.call (A : St) (x : Act) : Int × St :=
  if x.1 = 1 then ((A.fork x.2.1).1.2, (A.fork x.2.1).2) else if x.1 = 2 then A.yield else if x.1 = 3 then (A.semaphore.1.2, A.semaphore.2)
  else if x.1 = 4 then A.wait x.2.1 else if x.1 = 5 then A.signal x.2.1 else if x.1 = 6 then A.suspend x.2.1 else if x.1 = 7 then A.resume x.2.1
  else if x.1 = 8 then A.terminate x.2.1 else if x.1 = 9 then A.setPriority x.2.1 x.2.2 else if x.1 = 10 then A.at_ x.2.1 x.2.2
  else if x.1 = 11 then ((A.tick x.2.1).1.2, (A.tick x.2.1).2) else if x.1 = 12 then A.listen x.2.1 x.2.2 else if x.1 = 13 then (0, (A.event x.2.1).2) else (0, A)
theorem St.Fit.call (F : A.Fit) (x : Act) : (A.call x).2.Fit := by
  unfold St.call
  have G := F.1; have H := F.2
  by_cases e : x.1 = 1
  · rw [if_pos e]; exact G.fork H _
  rw [if_neg e]; clear e
  by_cases e : x.1 = 2
  · rw [if_pos e]; exact G.yield H
  rw [if_neg e]; clear e
  by_cases e : x.1 = 3
  · rw [if_pos e]; exact G.semaphore H
  rw [if_neg e]; clear e
  by_cases e : x.1 = 4
  · rw [if_pos e]; exact G.wait H _
  rw [if_neg e]; clear e
  by_cases e : x.1 = 5
  · rw [if_pos e]; exact G.signal _
  rw [if_neg e]; clear e
  by_cases e : x.1 = 6
  · rw [if_pos e]; exact G.suspend H _
  rw [if_neg e]; clear e
  by_cases e : x.1 = 7
  · rw [if_pos e]; exact G.resume H _
  rw [if_neg e]; clear e
  by_cases e : x.1 = 8
  · rw [if_pos e]; exact G.terminate H _
  rw [if_neg e]; clear e
  by_cases e : x.1 = 9
  · rw [if_pos e]; exact G.setPriority H _ _
  rw [if_neg e]; clear e
  by_cases e : x.1 = 10
  · rw [if_pos e]; exact G.at_ H _ _
  rw [if_neg e]; clear e
  by_cases e : x.1 = 11
  · rw [if_pos e]; exact G.tick H _
  rw [if_neg e]; clear e
  by_cases e : x.1 = 12
  · rw [if_pos e]; exact G.listen H _ _
  rw [if_neg e]; clear e
  by_cases e : x.1 = 13
  · rw [if_pos e]; exact G.event H _
  rw [if_neg e]; clear e
  exact F
end
end Go.Proofs.YtkkdeljladihpaaGreat

/-
  The scheduler: the chapter's examples; counters.
-/
namespace Go.Proofs.YtkkdeljladihpaaGreat
open Go.Sh Go.RowKit
set_option maxRecDepth 100000
def W1 : St := (St.new.fork 5).2
def W2 : St := (W1.fork 5).2
def W3 : St := (W2.fork 7).2
def W4 : St := W3.semaphore.2
def W5 : St := (W4.wait 1).2
def W6 : St := (W5.signal 1).2
def W7 : St := (W6.terminate 3).2
def W8 : St := W7.yield.2
def W9 : St := (W8.at_ 1 10).2
def W10 : St := (W9.at_ 1 5).2
def W11 : St := (W10.tick 10).2
theorem a1 : (St.new.fork 5).1 = (1, 0) := by kernel_rfl
theorem a2 : (W1.fork 5).1 = (2, 0) := by kernel_rfl
theorem a3 : (W2.fork 7).1 = (3, 0) := by kernel_rfl
theorem a4 : W3.active = 3 := by kernel_rfl
theorem a5 : W3.readies = [1, 2] := by kernel_rfl
theorem a6 : W3.semaphore.1 = (1, 0) := by kernel_rfl
theorem a7 : (W4.wait 1).1 = 0 := by kernel_rfl
theorem a8 : W5.active = 1 := by kernel_rfl
theorem a9 : (W5.signal 1).1 = 0 := by kernel_rfl
theorem a10 : W6.active = 3 := by kernel_rfl

theorem a11 : (W6.terminate 3).1 = 0 := by kernel_rfl
theorem a12 : W7.yield.1 = 0 := by kernel_rfl
theorem a13 : W8.active = 2 := by kernel_rfl
theorem a14 : (W8.at_ 1 10).1 = 0 := by kernel_rfl
theorem a15 : (W9.at_ 1 5).1 = 0 := by kernel_rfl
theorem a16 : (W10.tick 10).1 = (2, 0) := by kernel_rfl
theorem a17 : (W11.waiting 1).2.1 = 2 := by kernel_rfl
theorem a18 : (W11.fork 17).1.2 = 1 := by kernel_rfl
/-- What calls leave alone. -/
structure Rest (A B : St) : Prop where
  now : B.now = A.now
  sems : B.sems = A.sems
  timers : B.timers = A.timers
  made : B.made = A.made
  events : B.events = A.events
  len : B.procs.length = A.procs.length
theorem Rest.refl (A : St) : Rest A A := ⟨rfl, rfl, rfl, rfl, rfl, rfl⟩
theorem Rest.trans {A B C : St} (h : Rest A B) (k : Rest B C) : Rest A C := ⟨k.now.trans h.now, k.sems.trans h.sems, k.timers.trans h.timers, k.made.trans h.made, k.events.trans h.events, k.len.trans h.len⟩
theorem rest_ready (A : St) (n : Nat) : Rest A (A.ready n) := ⟨rfl, rfl, rfl, rfl, rfl, St.setPr_len _ _ _⟩
theorem rest_yields (A : St) : Rest A A.yields := ⟨rfl, rfl, rfl, rfl, rfl, St.setPr_len _ _ _⟩
theorem rest_takes (A : St) (p : Nat) : Rest A (A.takes p) := by
  unfold St.takes
  split
  · exact Rest.refl A
  · exact ⟨rfl, rfl, rfl, rfl, rfl, St.setPr_len _ _ _⟩
theorem rest_runs (A : St) : Rest A A.runs := by
  unfold St.runs
  split
  · split
    · exact Rest.refl A
    split
    · exact (rest_yields A).trans (rest_takes _ _)
    · exact rest_yields A
  · split
    · exact rest_takes _ _
    · exact Rest.refl A
theorem out_made (A : St) (n : Nat) : (A.out n).made = A.made := by
  unfold St.out
  split
  · rfl
  split
  · rfl
  split <;> rfl
theorem signal0_made (A : St) (n : Int) : (A.signal0 n).2.made = A.made := by
  unfold St.signal0
  split
  · rfl
  split
  · rfl
  split <;> rfl
theorem call_made (A : St) (x : Act) : A.made ≤ (A.call x).2.made ∧ (A.call x).2.made ≤ A.made + 1 := by
  have key : ∀ B : St, B.made = A.made → A.made ≤ B.made ∧ B.made ≤ A.made + 1 := fun B h => by omega
  unfold St.call
  by_cases e : x.1 = 1
  · rw [if_pos e]; apply key; unfold St.fork
    split
    · rfl
    split
    · rfl
    · exact (rest_runs _).made.trans (rest_ready _ _).made
  rw [if_neg e]; clear e
  by_cases e : x.1 = 2
  · rw [if_pos e]; apply key; unfold St.yield
    split
    · rfl
    · exact (rest_runs _).made.trans (rest_ready _ _).made
  rw [if_neg e]; clear e
  by_cases e : x.1 = 3
  · rw [if_pos e]; apply key; unfold St.semaphore
    split <;> rfl
  rw [if_neg e]; clear e
  by_cases e : x.1 = 4
  · rw [if_pos e]; apply key; unfold St.wait
    split
    · rfl
    split
    · rfl
    split
    · rfl
    · exact (rest_runs _).made
  rw [if_neg e]; clear e
  by_cases e : x.1 = 5
  · rw [if_pos e]; apply key; exact (rest_runs _).made.trans (signal0_made _ _)
  rw [if_neg e]; clear e
  by_cases e : x.1 = 6
  · rw [if_pos e]; apply key; unfold St.suspend
    split
    · rfl
    split
    · rfl
    · exact (rest_runs _).made.trans (out_made _ _)
  rw [if_neg e]; clear e
  by_cases e : x.1 = 7
  · rw [if_pos e]; apply key; unfold St.resume
    split
    · rfl
    split
    · rfl
    · exact (rest_runs _).made.trans (rest_ready _ _).made
  rw [if_neg e]; clear e
  by_cases e : x.1 = 8
  · rw [if_pos e]; apply key; unfold St.terminate
    split
    · rfl
    · exact (rest_runs _).made.trans (out_made _ _)
  rw [if_neg e]; clear e
  by_cases e : x.1 = 9
  · rw [if_pos e]; apply key; unfold St.setPriority
    split
    · rfl
    split
    · rfl
    split
    · exact (rest_runs _).made
    · exact (rest_runs _).made.trans ((rest_ready _ _).made.trans (out_made _ _))
  rw [if_neg e]; clear e
  by_cases e : x.1 = 10
  · rw [if_pos e]; unfold St.at_
    split
    · exact key _ rfl
    split
    · exact key _ rfl
    split
    · exact key _ rfl
    · simp only; omega
  rw [if_neg e]; clear e
  by_cases e : x.1 = 11
  · rw [if_pos e]; apply key; unfold St.tick
    split
    · rfl
    · exact (rest_runs _).made.trans (ticks_made _ _ _).1
  rw [if_neg e]; clear e
  by_cases e : x.1 = 12
  · rw [if_pos e]; apply key; unfold St.listen
    split
    · rfl
    split <;> rfl
  rw [if_neg e]; clear e
  by_cases e : x.1 = 13
  · rw [if_pos e]; apply key; unfold St.event
    split
    · rfl
    · exact (rest_runs _).made.trans (signal0_made _ _)
  rw [if_neg e]
  exact key _ rfl
section
variable {w0 w : World} {T0 T : Hp} {sb : Nat} {S : Sk} {L : List Sm} {A : St} {α β : Type} {Q : α → World → Prop}
theorem works_spec (w : World) : Ok f4_works w fun r w' => r = true ∧ Below w.heap.size w w' := by
  unfold f4_works
  have C0 : Tr en w (fun _ => none) w (fun _ => none) := Tr.refl fun b o h => by cases h
  have F0 : St.new.Fit := ⟨fit_new, hi_new⟩
  have F1 : W1.Fit := F0.1.fork F0.2 5
  have F2 : W2.Fit := F1.1.fork F1.2 5
  have F3 : W3.Fit := F2.1.fork F2.2 7
  have F4 : W4.Fit := F3.1.semaphore F3.2
  have F5 : W5.Fit := F4.1.wait F4.2 1
  have F6 : W6.Fit := F5.1.signal 1
  have F7 : W7.Fit := F6.1.terminate F6.2 3
  have F8 : W8.Fit := F7.1.yield F7.2
  have F9 : W9.Fit := F8.1.at_ F8.2 1 10
  have F10 : W10.Fit := F9.1.at_ F9.2 1 5
  have F11 : W11.Fit := F10.1.tick F10.2 10
  refine new_spec C0 fun sb w1 T1 _ _ C I => ok_false rfl ?_
  refine ok_scall C (fork_spec C.th I F0.1 5) fun r w2 T2 C h => ?_
  obtain ⟨rfl, S, L, I⟩ := h
  refine ok_scall C (fork_spec C.th I F1.1 5) fun r w3 T3 C h => ?_
  obtain ⟨rfl, S, L, I⟩ := h
  refine ok_scall C (fork_spec C.th I F2.1 7) fun r w4 T4 C h => ?_
  obtain ⟨rfl, S, L, I⟩ := h
  refine active_spec C I ?_
  refine ok_scall C (readies_spec C.th I F3.1 0) fun r w5 T5 C h => ?_
  obtain ⟨hr, hT⟩ := h
  have I := I.extO (T' := T5) fun b p hb hne => hT b p hb (hne 0)
  refine ok_bnd.2 (ok_buildL2 slt31 (.int .i64 1) (.int .i64 2) rfl rfl ?_)
  have C' := C.alloc (.ints (.out 1) [1, 2]) 3
  have e12 : (en (.ints (.out 1) [1, 2])).toArray = [Value.int .i64 1, Value.int .i64 2].toArray := rfl
  rw [e12] at C'
  have hno : T5 w5.heap.size = none := C.none_at
  have I' := I.ext (T' := put T5 w5.heap.size (.ints (.out 1) [1, 2])) fun b p hb => put_new hb hno
  have hr' := hr.mono (T' := put T5 w5.heap.size (.ints (.out 1) [1, 2])) fun b p _ hb => put_new hb hno
  have h2 : Rd (put T5 w5.heap.size (.ints (.out 1) [1, 2])) ⟨some ⟨w5.heap.size, 0, none⟩, 2, 2⟩ [1, 2] := ⟨rfl, .inr ⟨_, 0, _, _, rfl, put_eq _ _ _, fun i v hv => by rw [Nat.zero_add]; exact hv⟩⟩
  clear C I hr
  have ea5 : ns W3.readies = [1, 2] := by rw [a5]; rfl
  have hr' : Rw _ _ r (ns W3.readies) := hr'
  rw [ea5] at hr'
  refine ok_same C' (Rw.rd hr') h2 (by simp) fun w6 C => ?_
  refine ok_scall C (semaphore_spec C.th I' F3.1) fun r w7 T7 C h => ?_
  obtain ⟨rfl, S, L, I⟩ := h
  refine ok_scall C (wait_spec C.th I F4.1 1) fun r w8 T8 C h => ?_
  obtain ⟨rfl, S, L, I⟩ := h
  refine active_spec C I ?_
  refine ok_scall C (signal_spec C.th I F5.1 1) fun r w9 T9 C h => ?_
  obtain ⟨rfl, S, L, I⟩ := h
  refine active_spec C I ?_
  refine ok_scall C (terminate_spec C.th I F6.1 3) fun r w10 T10 C h => ?_
  obtain ⟨rfl, S, L, I⟩ := h
  refine ok_scall C (yield_spec C.th I F7.1) fun r w11 T11 C h => ?_
  obtain ⟨rfl, S, L, I⟩ := h
  refine active_spec C I ?_
  refine ok_scall C (at_spec C.th I F8.1 (by have : W8.made = 0 := by kernel_rfl
                                             show 0 ≤ W8.made ∧ W8.made < _
                                             rw [this]; decide) 1 10) fun r w12 T12 C h => ?_
  obtain ⟨rfl, S, L, I⟩ := h
  refine ok_scall C (at_spec C.th I F9.1 (by have : W9.made = 1 := by kernel_rfl
                                             show 0 ≤ W9.made ∧ W9.made < _
                                             rw [this]; decide) 1 5) fun r w13 T13 C h => ?_
  obtain ⟨rfl, S, L, I⟩ := h
  refine ok_scall C (tick_spec C.th I F10.1 10) fun r w14 T14 C h => ?_
  obtain ⟨rfl, S, L, I⟩ := h
  refine ok_scall C (waiting_spec C.th I F11.1 1 0) fun r w15 T15 C h => ?_
  obtain ⟨_, hr2, hT⟩ := h
  have I := I.ext hT
  refine ok_scall C (fork_spec C.th I F11.1 17) fun r w16 T16 C h => ?_
  obtain ⟨rfl, S, L, I⟩ := h
  have F12 : (W11.fork 17).2.Fit := F11.1.fork F11.2 17
  refine ok_scall C (resume_spec C.th I F12.1 9) fun r w17 T17 C h => ?_
  obtain ⟨rfl, S, L, I⟩ := h
  refine ok_ret.2 ⟨?_, bel C⟩
  have ea3 : ((St.new.fork 5).2.fork 5).2.fork 7 = W2.fork 7 := rfl
  rw [hr2]
  show (cond (cond (cond (cond (cond (cond (cond (cond (cond (cond (cond (cond (cond (cond (cond (cond (cond (cond (cond (cond (cond ((St.new.fork 5).1.1 == (1 : Int)) ((St.new.fork 5).1.2 == (0 : Int)) false) ((W1.fork 5).1.1 == (2 : Int)) false) ((W1.fork 5).1.2 == (0 : Int)) false) ((W2.fork 7).1.1 == (3 : Int)) false) ((W2.fork 7).1.2 == (0 : Int)) false) ((W3.active : Int) == (3 : Int)) false) (decide (([1, 2] : List Int) = [1, 2])) false) (W3.semaphore.1.1 == (1 : Int)) false) (W3.semaphore.1.2 == (0 : Int)) false) ((W4.wait 1).1 == (0 : Int)) false) ((W5.active : Int) == (1 : Int)) false) ((W5.signal 1).1 == (0 : Int)) false) ((W6.active : Int) == (3 : Int)) false) (cond (cond (cond (cond (cond (cond (cond (cond (cond (cond (cond (cond (cond (cond (cond ((W6.terminate 3).1 == (0 : Int)) (W7.yield.1 == (0 : Int)) false) ((W8.active : Int) == (2 : Int)) false) ((W8.at_ 1 10).1 == (0 : Int)) false) ((W9.at_ 1 5).1 == (0 : Int)) false) ((W10.tick 10).1.1 == (2 : Int)) false) ((W10.tick 10).1.2 == (0 : Int)) false) ((W11.waiting 1).2.1 == (2 : Int)) false) ((W11.fork 17).1.2 == (1 : Int)) false) (((W11.fork 17).2.resume 9).1 == (260 : Int)) false) true false) true false) true false) true false) true false) true false) false) true false) true false) true false) true false) true false) true false) true false) = true
  have a20 : ((W11.fork 17).2.resume 9).1 = 260 := by kernel_rfl
  rw [a1, a2, a3, a4, a6, a7, a8, a9, a10, a11, a12, a13, a14, a15, a16, a17, a18, a20]
  rfl
end
end Go.Proofs.YtkkdeljladihpaaGreat

/-
  The scheduler's laws in plain Lean: who is first, signals, who is fair. No program in sight.
-/
namespace Go.Proofs.YtkkdeljladihpaaGreat
open St
variable {A B : St} {x : Nat}
end Go.Proofs.YtkkdeljladihpaaGreat
