/-
  Parts of the proof: PC, UN. It states what the functions do; no further condition.
-/
import Derived.Test.YtkkdeljladihpaaUM
import Derived.Test.YtkkdeljladihpaaPB
import Derived.Deep.Slices
set_option linter.unusedVariables false
set_option linter.unusedSimpArgs false
/-
  Calls of two states that go on alike; what is read goes on alike; their numbers are the same.
-/
namespace Go.Proofs.Ytkkdeljladihpaa
set_option linter.unusedVariables false
open St
theorem St.Rel.call {A B : St} (R : St.Rel A B) (x : Act) : (A.call x).1 = (B.call x).1 ∧ St.Rel (A.call x).2 (B.call x).2 := by
  unfold St.call
  by_cases e : x.1 = 1
  · rw [if_pos e, if_pos e]
    have h := Rel.op (f := fun X => X.fork x.2.1) (fun A t l m => wt_fork A t l m _) R
    exact ⟨congrArg Prod.snd h.1, h.2⟩
  rw [if_neg e, if_neg e]; clear e
  by_cases e : x.1 = 2
  · rw [if_pos e, if_pos e]; exact Rel.op (f := fun X => X.yield) (fun A t l m => wt_yield A t l m) R
  rw [if_neg e, if_neg e]; clear e
  by_cases e : x.1 = 3
  · rw [if_pos e, if_pos e]
    have h := Rel.op (f := fun X => X.semaphore) (fun A t l m => wt_semaphore A t l m) R
    exact ⟨congrArg Prod.snd h.1, h.2⟩
  rw [if_neg e, if_neg e]; clear e
  by_cases e : x.1 = 4
  · rw [if_pos e, if_pos e]; exact Rel.op (f := fun X => X.wait x.2.1) (fun A t l m => wt_wait A t l m _) R
  rw [if_neg e, if_neg e]; clear e
  by_cases e : x.1 = 5
  · rw [if_pos e, if_pos e]; exact Rel.op (f := fun X => X.signal x.2.1) (fun A t l m => wt_signal A t l m _) R
  rw [if_neg e, if_neg e]; clear e
  by_cases e : x.1 = 6
  · rw [if_pos e, if_pos e]; exact Rel.op (f := fun X => X.suspend x.2.1) (fun A t l m => wt_suspend A t l m _) R
  rw [if_neg e, if_neg e]; clear e
  by_cases e : x.1 = 7
  · rw [if_pos e, if_pos e]; exact Rel.op (f := fun X => X.resume x.2.1) (fun A t l m => wt_resume A t l m _) R
  rw [if_neg e, if_neg e]; clear e
  by_cases e : x.1 = 8
  · rw [if_pos e, if_pos e]; exact Rel.op (f := fun X => X.terminate x.2.1) (fun A t l m => wt_terminate A t l m _) R
  rw [if_neg e, if_neg e]; clear e
  by_cases e : x.1 = 9
  · rw [if_pos e, if_pos e]; exact Rel.op (f := fun X => X.setPriority x.2.1 x.2.2) (fun A t l m => wt_setPriority A t l m _ _) R
  rw [if_neg e, if_neg e]; clear e
  by_cases e : x.1 = 10
  · rw [if_pos e, if_pos e]; exact R.at_ _ _
  rw [if_neg e, if_neg e]; clear e
  by_cases e : x.1 = 11
  · rw [if_pos e, if_pos e]
    have h := R.tick x.2.1
    exact ⟨congrArg Prod.snd h.1, h.2⟩
  rw [if_neg e, if_neg e]; clear e
  by_cases e : x.1 = 12
  · rw [if_pos e, if_pos e]; exact Rel.op (f := fun X => X.listen x.2.1 x.2.2) (fun A t l m => wt_listen A t l m _ _) R
  rw [if_neg e, if_neg e]; clear e
  by_cases e : x.1 = 13
  · rw [if_pos e, if_pos e]; exact ⟨rfl, (Rel.op (f := fun X => X.event x.2.1) (fun A t l m => wt_event A t l m _) R).2⟩
  rw [if_neg e, if_neg e]; exact ⟨rfl, R⟩
theorem St.Rel.new : St.Rel St.new St.new := ⟨rfl, ⟨[], [], Vw.nil, Vw.nil, rfl⟩, fun t h => (by cases h), fun t h => (by cases h)⟩
/-! Standings. -/
def Std (A : St) : Prop := ∀ p ∈ A.procs, 1 ≤ p.standing
theorem Std.pr {A : St} (h : Std A) {n : Nat} (hn : n - 1 < A.procs.length) : 1 ≤ (A.pr n).standing := by
  refine h _ ?_
  unfold St.pr
  rw [List.getD_eq_getElem?_getD, List.getElem?_eq_getElem hn]
  exact List.getElem_mem hn
theorem Std.setPr {A : St} (h : Std A) {n : Nat} {r : Pr} (hr : n - 1 < A.procs.length → 1 ≤ r.standing) : Std (A.setPr n r) := by
  intro p hp
  have hp : p ∈ A.procs.set (n - 1) r := hp
  by_cases hn : n - 1 < A.procs.length
  · rcases List.mem_or_eq_of_mem_set hp with hp | rfl
    · exact h p hp
    · exact hr hn
  · rw [List.set_eq_of_length_le (by omega)] at hp; exact h p hp
theorem Std.ready {A : St} (h : Std A) (n : Nat) : Std (A.ready n) := Std.setPr (r := { A.pr n with standing := 1, sem := 0 }) h fun _ => Int.le_refl _
theorem Std.yields {A : St} (h : Std A) : Std A.yields := Std.setPr (r := { A.pr A.active with standing := 1 }) h fun _ => Int.le_refl _
theorem Std.takes {A : St} (h : Std A) (p : Nat) : Std (A.takes p) := by
  unfold St.takes
  cases A.queues p with
  | nil => exact h
  | cons n r => exact Std.setPr (A := (A.setQ p r).on n) h fun _ => by show (1 : Int) ≤ 2; decide
theorem Std.runs {A : St} (h : Std A) : Std A.runs := by
  unfold St.runs
  split
  · split
    · exact h
    · split
      · exact h.yields.takes _
      · exact h.yields
  · split
    · exact h.takes _
    · exact h
theorem Std.out {A : St} (h : Std A) (n : Nat) : Std (A.out n) := by
  unfold St.out
  split
  · exact h
  · split
    · exact Std.setPr (A := A.setSm _ _) h fun hn => h.pr hn
    · split
      · exact h
      · exact h
theorem Std.fork {A : St} (h : Std A) (p : Int) : Std (A.fork p).2 := by
  unfold St.fork
  split
  · exact h
  · split
    · exact h
    · refine Std.runs (A := (({ A with procs := A.procs ++ [(⟨p, 0, 0⟩ : Pr)] } : St).ready (A.procs.length + 1))) ?_
      intro q hq
      have hq : q ∈ (A.procs ++ [(⟨p, 0, 0⟩ : Pr)]).set (A.procs.length + 1 - 1) { (({ A with procs := A.procs ++ [(⟨p, 0, 0⟩ : Pr)] } : St).pr (A.procs.length + 1)) with standing := 1, sem := 0 } := hq
      rw [Nat.add_sub_cancel, List.set_append_right _ _ (Nat.le_refl _), Nat.sub_self, List.set_cons_zero] at hq
      rcases List.mem_append.1 hq with hq | hq
      · exact h q hq
      · simp only [List.mem_singleton] at hq
        rw [hq]; exact Int.le_refl _
theorem Std.yield {A : St} (h : Std A) : Std A.yield.2 := by
  unfold St.yield
  split
  · exact h
  · exact (Std.ready (A := A.on 0) h _).runs
theorem Std.semaphore {A : St} (h : Std A) : Std A.semaphore.2 := by
  unfold St.semaphore
  split <;> exact h
theorem Std.wait {A : St} (h : Std A) (n : Int) : Std (A.wait n).2 := by
  unfold St.wait
  split
  · exact h
  · split
    · exact h
    · split
      · exact h
      · refine Std.runs ?_
        exact Std.setPr (r := { A.pr A.active with standing := 3, sem := n }) h fun _ => by show (1 : Int) ≤ 3; decide
theorem Std.signal0 {A : St} (h : Std A) (n : Int) : Std (A.signal0 n).2 := by
  unfold St.signal0
  split
  · exact h
  · split
    · exact Std.ready (A := A.setSm _ _) h _
    · split <;> exact h
theorem Std.signal {A : St} (h : Std A) (n : Int) : Std (A.signal n).2 := (h.signal0 n).runs
theorem Std.suspend {A : St} (h : Std A) (n : Int) : Std (A.suspend n).2 := by
  unfold St.suspend
  split
  · exact h
  · split
    · exact h
    · exact (Std.setPr (h.out n.toNat) fun _ => by show (1 : Int) ≤ 4; decide).runs
theorem Std.resume {A : St} (h : Std A) (n : Int) : Std (A.resume n).2 := by
  unfold St.resume
  split
  · exact h
  · split
    · exact h
    · exact (h.ready _).runs
theorem Std.terminate {A : St} (h : Std A) (n : Int) : Std (A.terminate n).2 := by
  unfold St.terminate
  split
  · exact h
  · exact (Std.setPr (h.out n.toNat) fun _ => by show (1 : Int) ≤ 5; decide).runs
theorem Std.setPriority {A : St} (h : Std A) (n p : Int) : Std (A.setPriority n p).2 := by
  unfold St.setPriority
  split
  · exact h
  · split
    · exact h
    · split
      · exact (Std.setPr (r := { A.pr n.toNat with prio := p }) h fun hn => Std.pr (A := A) (n := n.toNat) h hn).runs
      · exact (Std.ready (Std.setPr (A := A.out n.toNat) (n := n.toNat) (r := { (A.out n.toNat).pr n.toNat with prio := p }) (h.out n.toNat) fun hn => Std.pr (A := A.out n.toNat) (n := n.toNat) (h.out n.toNat) hn) n.toNat).runs
theorem Std.event {A : St} (h : Std A) (e : Int) : Std (A.event e).2 := by
  unfold St.event
  split
  · exact h
  · exact h.signal _
theorem Std.listen {A : St} (h : Std A) (e n : Int) : Std (A.listen e n).2 := by
  unfold St.listen
  split
  · exact h
  · split <;> exact h
theorem Ext.std' {A : St} (E : Ext A) : Std A := E.std
/-- An operation that knows no clock. -/
theorem Ext.op {β : Type} {f : St → β × St} (hf : ∀ A t l m, f (A.wt t l m) = ((f A).1, (f A).2.wt t l m)) {A : St} (E : Ext A) (hs : Std (f A).2) : Ext (f A).2 := by
  have h1 := hf A A.now A.timers A.made
  rw [wt_self] at h1
  have h2 : (f A).2 = (f A).2.wt A.now A.timers A.made := by have := congrArg Prod.snd h1; exact this
  obtain ⟨k1, k2, k3⟩ := wt_keeps h2
  exact ⟨by rw [k1]; exact E.now, by rw [k2]; exact E.tms, hs⟩
theorem Ext.ticks (now : Int) : ∀ (f : Nat) {A : St} (n : Int), Ext A → Ext (St.ticks now f A n).1
  | 0, A, n, E => E
  | f + 1, A, n, E => by
    unfold St.ticks
    split
    · rename_i h
      have E1 : Ext ({ A with timers := (popT A.timers).2 } : St) := ⟨E.now, fun t ht => E.tms t ((popT_perm h.1).mem_iff.1 (List.mem_cons_of_mem _ ht)), E.std⟩
      exact Ext.ticks now f (n + 1) (Ext.op (f := fun X => X.signal0 (popT A.timers).1.sem) (fun A t l m => wt_signal0 A t l m _) E1 (Std.signal0 E1.std _))
    · exact E
theorem Ext.runs {A : St} (E : Ext A) : Ext A.runs := Ext.op (f := fun X => ((), X.runs)) (fun A t l m => by rw [wt_runs]) E (Std.runs E.std)
theorem Ext.tick {A : St} (E : Ext A) (x : Int) : Ext (A.tick x).2 := by
  unfold St.tick
  split
  · exact E
  · rename_i h
    have h0 := E.now
    have E1 : Ext ({ A with now := x } : St) := ⟨⟨by show 0 ≤ x; omega, by show x ≤ _; omega⟩, E.tms, E.std⟩
    exact (Ext.ticks x A.timers.length 0 E1).runs
theorem Ext.at_ {A : St} (E : Ext A) (n t : Int) : Ext (A.at_ n t).2 := by
  unfold St.at_
  split
  · exact E
  · split
    · exact E
    · rename_i h
      split
      · exact E
      · refine ⟨E.now, fun x hx => ?_, E.std⟩
        rcases List.mem_append.1 ((pushT_perm A.timers ⟨t, A.made + 1, n⟩).mem_iff.1 hx) with hx | hx
        · exact E.tms x hx
        · simp only [List.mem_singleton] at hx
          rw [hx]; show 0 ≤ t ∧ t ≤ _; omega
theorem Ext.call {A : St} (E : Ext A) (x : Act) : Ext (A.call x).2 := by
  have hs := E.std'
  unfold St.call
  by_cases e : x.1 = 1
  · rw [if_pos e]; exact Ext.op (f := fun X => X.fork x.2.1) (fun A t l m => wt_fork A t l m _) E (hs.fork _)
  rw [if_neg e]; clear e
  by_cases e : x.1 = 2
  · rw [if_pos e]; exact Ext.op (f := fun X => X.yield) (fun A t l m => wt_yield A t l m) E hs.yield
  rw [if_neg e]; clear e
  by_cases e : x.1 = 3
  · rw [if_pos e]; exact Ext.op (f := fun X => X.semaphore) (fun A t l m => wt_semaphore A t l m) E hs.semaphore
  rw [if_neg e]; clear e
  by_cases e : x.1 = 4
  · rw [if_pos e]; exact Ext.op (f := fun X => X.wait x.2.1) (fun A t l m => wt_wait A t l m _) E (hs.wait _)
  rw [if_neg e]; clear e
  by_cases e : x.1 = 5
  · rw [if_pos e]; exact Ext.op (f := fun X => X.signal x.2.1) (fun A t l m => wt_signal A t l m _) E (hs.signal _)
  rw [if_neg e]; clear e
  by_cases e : x.1 = 6
  · rw [if_pos e]; exact Ext.op (f := fun X => X.suspend x.2.1) (fun A t l m => wt_suspend A t l m _) E (hs.suspend _)
  rw [if_neg e]; clear e
  by_cases e : x.1 = 7
  · rw [if_pos e]; exact Ext.op (f := fun X => X.resume x.2.1) (fun A t l m => wt_resume A t l m _) E (hs.resume _)
  rw [if_neg e]; clear e
  by_cases e : x.1 = 8
  · rw [if_pos e]; exact Ext.op (f := fun X => X.terminate x.2.1) (fun A t l m => wt_terminate A t l m _) E (hs.terminate _)
  rw [if_neg e]; clear e
  by_cases e : x.1 = 9
  · rw [if_pos e]; exact Ext.op (f := fun X => X.setPriority x.2.1 x.2.2) (fun A t l m => wt_setPriority A t l m _ _) E (hs.setPriority _ _)
  rw [if_neg e]; clear e
  by_cases e : x.1 = 10
  · rw [if_pos e]; exact E.at_ _ _
  rw [if_neg e]; clear e
  by_cases e : x.1 = 11
  · rw [if_pos e]; exact E.tick _
  rw [if_neg e]; clear e
  by_cases e : x.1 = 12
  · rw [if_pos e]; exact Ext.op (f := fun X => X.listen x.2.1 x.2.2) (fun A t l m => wt_listen A t l m _ _) E (hs.listen _ _)
  rw [if_neg e]; clear e
  by_cases e : x.1 = 13
  · rw [if_pos e]; exact Ext.op (f := fun X => X.event x.2.1) (fun A t l m => wt_event A t l m _) E (hs.event _)
  rw [if_neg e]; exact E
theorem Ext.new : Ext St.new := ⟨by decide, fun t h => (by cases h), fun t h => (by cases h)⟩
/-! What is read. -/
theorem ins_last {t : Tm} : ∀ {v : List Tm}, (∀ x ∈ v, x.time ≤ t.time) → ins t v = v ++ [t]
  | [], _ => rfl
  | x :: r, h => by
    unfold ins
    rw [if_pos (h x List.mem_cons_self), ins_last fun y hy => h y (List.mem_cons_of_mem _ hy)]; rfl
theorem laters_view : ∀ (v : List Tm) (B : St) (u : List Tm), Vw B.timers u → (∀ x ∈ B.timers, x.made ≤ B.made) → (v.Pairwise fun x y => x.time ≤ y.time) → (∀ x ∈ u, ∀ y ∈ v, x.time ≤ y.time) →
    ∃ u', Vw (B.laters v).timers u' ∧ u'.map ts = u.map ts ++ v.map ts ∧ ∀ x ∈ (B.laters v).timers, x.made ≤ (B.laters v).made
  | [], B, u, h1, h2, _, _ => ⟨u, h1, by simp, h2⟩
  | t :: r, B, u, h1, h2, h3, h4 => by
    rw [List.pairwise_cons] at h3
    have hp := h1.push (t := ⟨t.time, B.made + 1, t.sem⟩) fun x hx => by have := h2 x hx; show _ < B.made + 1; omega
    rw [ins_last (t := ⟨t.time, B.made + 1, t.sem⟩) fun x hx => h4 x hx t List.mem_cons_self] at hp
    obtain ⟨u', g1, g2, g3⟩ := laters_view r (B.later t.time t.sem) _ hp (fun x hx => by
      rcases List.mem_append.1 ((pushT_perm B.timers ⟨t.time, B.made + 1, t.sem⟩).mem_iff.1 hx) with hx | hx
      · have := h2 x hx; show _ ≤ B.made + 1; omega
      · simp only [List.mem_singleton] at hx; rw [hx]; exact Int.le_refl _) h3.2 (fun x hx y hy => by
      rcases List.mem_append.1 hx with hx | hx
      · exact h4 x hx y (List.mem_cons_of_mem _ hy)
      · simp only [List.mem_singleton] at hx; rw [hx]; exact h3.1 y hy)
    refine ⟨u', g1, ?_, g3⟩
    rw [g2, List.map_append, List.append_assoc]; rfl
theorem rel_back {A : St} (R : St.Rel A A) {v : List Tm} (h1 : v.Perm A.timers) (h2 : v.Pairwise fun x y => lt y x = false) : St.Rel A (A.back v) := by
  obtain ⟨va, _, w1, _, _⟩ := R.tm.views
  have hv : v = va := sorted_eq (h1.trans w1.perm.symm) h2 w1.sorted
  have ht : v.Pairwise fun x y => x.time ≤ y.time := h2.imp fun {x y} h => by
    rw [lt_not] at h; unfold le at h; omega
  obtain ⟨u', g1, g2, g3⟩ := laters_view v ({ A with timers := [], made := 0 } : St) [] Vw.nil (fun x hx => by cases hx) ht (fun x hx => by cases hx)
  have hr := laters_rest v ({ A with timers := [], made := 0 } : St)
  refine ⟨?_, ⟨va, u', w1, g1, ?_⟩, R.tm.a, g3⟩
  · unfold St.back
    generalize ({ A with timers := [], made := 0 } : St).laters v = B at hr
    obtain ⟨_, _, k1, k2, k3, k4, k5, k6⟩ := hr
    cases B
    simp only at k1 k2 k3 k4 k5 k6
    subst k1 k2 k3 k4 k5 k6
    rfl
  · rw [g2, ← hv]; rfl
theorem tmL_ts (v : List Tm) : v.flatMap tmL = (v.map ts).flatMap fun p => [p.1, p.2] := by
  rw [List.flatMap_map]; rfl
theorem qsL_eq {A B : St} (h : B.queues = A.queues) : ∀ p, qsL B p = qsL A p
  | 0 => rfl
  | p + 1 => by simp only [qsL, qsL_eq h p, h]
theorem stateL_rel {A B : St} (R : St.Rel A B) {v u : List Tm} (h1 : v.Perm A.timers) (h2 : v.Pairwise fun x y => lt y x = false) (k1 : u.Perm B.timers) (k2 : u.Pairwise fun x y => lt y x = false) : stateL A v = stateL B u := by
  obtain ⟨va, vb, w1, w2, w3⟩ := R.tm.views
  have e1 : v = va := sorted_eq (h1.trans w1.perm.symm) h2 w1.sorted
  have e2 : u = vb := sorted_eq (k1.trans w2.perm.symm) k2 w2.sorted
  have hm : v.map ts = u.map ts := by rw [e1, e2]; exact w3
  have hl : v.length = u.length := by have := congrArg List.length hm; simpa using this
  have hq : B.queues = A.queues := by have := congrArg St.queues R.eq; exact this
  have hH : headL B = headL A := by
    unfold headL
    rw [qsL_eq hq]
    have e := R.eq
    rw [e]; rfl
  have hE : B.events = A.events := by have := congrArg St.events R.eq; exact this
  unfold stateL
  rw [hH, hE, tmL_ts, tmL_ts, hm, hl]
end Go.Proofs.Ytkkdeljladihpaa

/-
  SchedBack: what is read of a state goes on as the one whose state it is.
-/
namespace Go.Proofs.Ytkkdeljladihpaa
set_option linter.unusedVariables false
open Go.Sh Go.RowKit X
set_option maxRecDepth 100000
section
variable {w0 w : World} {T0 T U : Hp} {sb : Nat} {S : Sk} {L : List Sm} {A B : St} {α β : Type} {Q : α → World → Prop}
theorem of_back {x : Sl} {v : List Tm} (H : Arr w.heap.size w x (nums .i64 (stateL A v))) (F : FitX A 0) (E : Ext A) (hH : A.Hi) (hv1 : v.Perm A.timers) (hv2 : v.Pairwise fun x y => St.lt y x = false) :
    Ok (f17_sched_Of x) w fun r w' => ∃ sb U S L, r = (some ⟨sb, 0, none⟩, 0) ∧ Tr en w (fun _ => none) w' U ∧ SInv U sb S L (A.back v) := by
  unfold f17_sched_Of
  have C0 : Tr en w (fun _ => none) w (fun _ => none) := Tr.refl fun b o h => by cases h
  refine new_spec C0 fun sb w1 T1 _ _ C1 I1 => ?_
  refine ok_tnew C1 (.box [slV x, .bool false]) rfl fun rp w2 hrp C2 => ?_
  have I2 := I1.newB (o := .box [slV x, .bool false]) hrp
  refine readR_spec C2 (put_eq _ _ _) H I2 F E hv1 hv2 fun w3 T3 S3 L3 C3 h3 I3 => ?_
  obtain ⟨y, hy, hy0⟩ := h3
  refine ok_tld C3 hy (t := .bool) (x := false) (by rfl) ?_
  refine ok_fB rfl ?_
  simp only [bnd_as, bnd_ret]
  refine ok_tld C3 hy (x := y) (rdv_sl (by rfl)) ?_
  refine ok_fB (by rw [hy0]; rfl) ?_
  simp only [bnd_as, bnd_ret]
  refine sound_spec C3 I3 F E hH fun w4 T4 S4 L4 C4 I4 => ?_
  exact ok_false rfl (ok_ret.2 ⟨sb, T4, S4, L4, rfl, C4, I4⟩)
/-- Two maps of one world. -/
structure Two (w0 w : World) (T U : Hp) : Prop where
  t : Tr en w0 (fun _ => none) w T
  u : Tr en w0 (fun _ => none) w U
  d : ∀ b, T b ≠ none → U b = none
theorem Two.stepT {w' : World} {T' : Hp} (D : Two w0 w T U) (C : Tr en w T w' T') : Two w0 w' T' U := by
  refine ⟨D.t.trans C, ⟨fun b o hb => ?_, (D.t.trans C).keep, D.u.new⟩, fun b hb => ?_⟩
  · have h := D.u.th b o hb
    have hT : T b = none := by
      cases hT : T b with
      | none => rfl
      | some p => have := D.d b (by rw [hT]; simp); rw [this] at hb; cases hb
    have hk := C.keep.block b (D.u.th.lt hb) (by rw [hT]; simp)
    exact ⟨(blk_of hk).trans h.1, by unfold cln at h ⊢; rw [hk]; exact h.2⟩
  · rcases C.new b hb with h | h
    · exact D.d b h
    · cases hU : U b with
      | none => rfl
      | some p => have := D.u.th.lt hU; omega
theorem Two.swap (D : Two w0 w T U) : Two w0 w U T := ⟨D.u, D.t, fun b hb => by
  cases hT : T b with
  | none => rfl
  | some p => exact absurd (D.d b (by rw [hT]; simp)) hb⟩
theorem Two.stepU {w' : World} {U' : Hp} (D : Two w0 w T U) (C : Tr en w U w' U') : Two w0 w' T U' := (D.swap.stepT C).swap
/-- Both at once. -/
def bothM (T U : Hp) : Hp := fun b => match T b with
  | some p => some p
  | none => U b
theorem bothM_t {b : Nat} {p : Ob} (h : T b = some p) : bothM T U b = some p := by unfold bothM; rw [h]
theorem bothM_u (D : Two w0 w T U) {b : Nat} {p : Ob} (h : U b = some p) : bothM T U b = some p := by
  unfold bothM
  cases hT : T b with
  | none => exact h
  | some q => have := D.d b (by rw [hT]; simp); rw [this] at h; cases h
theorem Two.both (D : Two w0 w T U) : Tr en w0 (fun _ => none) w (bothM T U) := by
  refine ⟨fun b o hb => ?_, D.t.keep, fun b hb => ?_⟩
  · unfold bothM at hb
    cases hT : T b with
    | none => rw [hT] at hb; exact D.u.th b o hb
    | some q => rw [hT, Option.some.injEq] at hb; subst hb; exact D.t.th b _ hT
  · unfold bothM at hb
    cases hT : T b with
    | none => rw [hT] at hb; exact D.u.new b hb
    | some q => exact D.t.new b (by rw [hT]; simp)
theorem fit_rel (R : St.Rel A B) (F : FitX A 0) : FitX B 0 := by
  have hl := R.tm.len
  have ht : ∀ t ∈ B.timers, 1 ≤ t.sem ∧ t.sem ≤ A.sems.length := fun t ht => by
    obtain ⟨va, vb, w1, w2, w3⟩ := R.tm.views
    have h1 : St.ts t ∈ vb.map St.ts := List.mem_map_of_mem (w2.perm.mem_iff.2 ht)
    rw [← w3] at h1
    obtain ⟨t', h2, h3⟩ := List.mem_map.1 h1
    have := F.tms t' (w1.perm.mem_iff.1 h2)
    have e : t'.sem = t.sem := congrArg Prod.snd h3
    rw [← e]; exact this
  have hf := F.few
  rw [R.eq]
  exact ⟨F.act, F.prio, F.que, F.nodup, F.inq, F.only, F.wtg, F.nwt, F.wq, F.wnd, F.exc, ht, F.evs, hf.1, hf.2.1, by show B.timers.length ≤ 4096; omega⟩
theorem stateL_len (F : FitX A 0) {v : List Tm} (hv : v.Perm A.timers) : (stateL A v).length ≤ 20000000 := by
  have hf := F.few
  have h1 := prL_len A.procs
  have h2 := smL_len (n := 4096) A.sems F.sml
  have h3 : (4096 + 2) * A.sems.length ≤ 4098 * 4096 := Nat.mul_le_mul_left _ hf.2.1
  have h4 := qsL_len F 16
  have h5 := tmL_len v
  have h6 := hv.length_eq
  have h7 := (evK_len A.events 0).1
  have h8 := F.evs.1
  unfold stateL headL
  simp only [List.length_append, List.length_cons, List.length_nil]
  omega
theorem back_true {s1 s2 : Sl} {l1 l2 : List Act} (H1 : Acts w s1 l1) (H2 : Acts w s2 l2) (hs1 : s1.len ≤ 1000000000000000000) (hs2 : s2.len ≤ 1000000000000000000) : Ok (f6_palaverlaw26_SchedBack s1 s2) w fun r w' => r = true ∧ Below w.heap.size w w' := by
  unfold f6_palaverlaw26_SchedBack
  refine ok_bnd.2 (ok_mono (works_spec w) ?_)
  rintro _ w1 ⟨rfl, hb1⟩
  have C0 : Tr en w (fun _ => none) w1 (fun _ => none) := (Tr.refl fun b o h => by cases h).call hb1
  have hl1 := H1.len; have hl2 := H2.len
  refine new_spec C0 fun sb w2 T2 _ _ C2 I2 => ok_false rfl ?_
  refine ok_loopN (fun m (i' : Int) w' => ∃ (i : Nat) (A : St) (T : Hp) (S : Sk) (L : List Sm), i' = i ∧ i ≤ l1.length ∧ m = l1.length - i ∧ Tr en w (fun _ => none) w' T ∧ SInv T sb S L A ∧ A.Fit ∧ Ext A ∧ St.Rel A A ∧ 0 ≤ A.made ∧ A.made ≤ i) ?_ l1.length 0 w2 ⟨0, St.new, T2, _, _, rfl, Nat.zero_le _, rfl, C2, I2, ⟨fit_new, hi_new⟩, Ext.new, St.Rel.new, by rw [new_made]; exact Int.le_refl _, by rw [new_made]; exact Int.le_refl _⟩
  clear C2 I2 C0 hb1
  rintro m i' w3 ⟨i, A, T, S, L, rfl, hi, rfl, C, I, F, E, R, hm0, hm1⟩
  by_cases hlt : i < l1.length
  · refine ok_true (by rw [H1.len]; simpa using hlt) ?_
    have hx : l1[i]? = some l1[i] := List.getElem?_eq_getElem hlt
    generalize l1[i] = x at hx
    refine ok_act H1 (bel C) hx rfl ?_
    refine ok_scall C (call_spec C.th I F.1 ⟨hm0, by omega⟩ x) fun r w4 T4 C4 h => ?_
    obtain ⟨rfl, S4, L4, I4⟩ := h
    have hcm := call_made A x
    exact ok_ret.2 ⟨l1.length - (i + 1), by omega, i + 1, (A.call x).2, T4, S4, L4, by rw [wI (by omega)]; simp, by omega, rfl, C4, I4, F.call x, E.call x, (R.call x).2, by omega, by omega⟩
  refine ok_false (by rw [H1.len]; simpa using hlt) ?_
  refine ok_bnd.2 (ok_mono (Q := fun r w' => r = true ∧ Below w.heap.size w w') ?_ (fun r w' h => ok_ret.2 h))
  refine ok_scall C (state_spec C.th I F.1) fun r7 w4 T4 C4 h => ?_
  obtain ⟨v, hv1, hv2, hr7, K4⟩ := h
  have I4 := I.ko K4
  have hA7 : Arr w4.heap.size w4 r7 (nums .i64 (stateL A v)) := by
    refine ⟨by rw [hr7.len]; simp [nums], hr7.le, hr7.max, ?_⟩
    rcases hr7.at_ with ⟨g1, g2⟩ | ⟨b, M, g1, g2, g3, g4⟩
    · left
      have h1 := hr7.len; have h2 := hr7.le
      have : stateL A v = [] := List.eq_nil_of_length_eq_zero (by omega)
      rw [this]; rfl
    · right
      have hB := C4.th b _ g2
      refine ⟨b, 0, _, g1, C4.th.lt g2, hB.1, fun j hj => ?_⟩
      rw [Nat.zero_add, List.getElem?_toArray]
      show (M.flatMap iV)[j]? = _
      rw [flat_iV]
      have hj' : j < (stateL A v).length := by simpa [nums] using hj
      rw [List.getElem?_map, ← List.getElem?_take_of_lt hj', g4]
      simp [nums]
  refine ok_bnd.2 (ok_mono (of_back hA7 F.1 E F.2 hv1 hv2) ?_)
  rintro r8 w5 ⟨sb', U, S5, L5, rfl, C5, I5⟩
  have hU : ∀ b, U b ≠ none → w4.heap.size ≤ b := fun b hb => (C5.new b hb).resolve_left fun h => h rfl
  have D5 : Two w w5 T4 U := by
    have hbel : Below w4.heap.size w4 w5 := bel C5
    refine ⟨C4.call hbel, ⟨C5.th, (C4.call hbel).keep, fun b hb => .inr ?_⟩, fun b hb => ?_⟩
    · have := hU b hb
      have := C4.keep.size
      omega
    · cases hUb : U b with
      | none => rfl
      | some p =>
        have h1 := hU b (by rw [hUb]; simp)
        cases hT : T4 b with
        | none => exact absurd hT hb
        | some q => have := C4.th.lt hT; omega
  refine ok_false rfl ?_
  have hBm : (A.back v).made = 0 + v.length := (laters_rest v ({ A with timers := [], made := 0 } : St)).1
  have hvl := hv1.length_eq
  have hf := F.1.few
  refine ok_loopN (fun m (i' : Int) w' => ∃ (j : Nat) (A B : St) (T U : Hp) (S : Sk) (L : List Sm) (S' : Sk) (L' : List Sm), i' = j ∧ j ≤ l2.length ∧ m = l2.length - j ∧ Two w w' T U ∧ SInv T sb S L A ∧ SInv U sb' S' L' B ∧ A.Fit ∧ St.Rel A B ∧ 0 ≤ A.made ∧ A.made ≤ l1.length + j ∧ 0 ≤ B.made ∧ B.made ≤ 4096 + j) ?_ l2.length 0 w5 ⟨0, A, A.back v, T4, U, S, L, S5, L5, rfl, Nat.zero_le _, rfl, D5, I4, I5, F, rel_back R hv1 hv2, hm0, by omega, by omega, by omega⟩
  clear hBm hvl hf D5 hU I5 C5 hA7 I4 hr7 hv1 hv2 K4 C4 C I F E R hm0 hm1 hlt hi
  rintro m i' w6 ⟨j, A, B, T, U, S, L, S', L', rfl, hj, rfl, D, I, J, F, R, hm0, hm1, hn0, hn1⟩
  by_cases hlt : j < l2.length
  · refine ok_true (by rw [H2.len]; simpa using hlt) ?_
    have hx : l2[j]? = some l2[j] := List.getElem?_eq_getElem hlt
    generalize l2[j] = x at hx
    refine ok_act H2 (bel D.t) hx rfl ?_
    refine ok_bnd.2 (ok_mono (call_spec D.t.th I F.1 ⟨hm0, by omega⟩ x) ?_)
    rintro r w7 ⟨T7, C7, rfl, S7, L7, I7⟩
    have D7 := D.stepT C7
    refine ok_act H2 (bel D7.t) hx rfl ?_
    refine ok_bnd.2 (ok_mono (call_spec D7.u.th J (fit_rel R F.1) ⟨hn0, by omega⟩ x) ?_)
    rintro r w8 ⟨U8, C8, rfl, S8, L8, J8⟩
    have D8 := D7.stepU C8
    have hR := R.call x
    have ha : (B.call x).2.active = (A.call x).2.active := by have := congrArg St.active hR.2.eq; exact this
    have hcm := call_made A x
    have hcn := call_made B x
    simp only [bnd_as, bnd_ret]
    refine ok_fB (by rw [hR.1]; simp) ?_
    simp only [bnd_as, bnd_ret]
    refine active_spec D8.t I7 ?_
    refine active_spec D8.u J8 ?_
    refine ok_false (by rw [ha]; simp) ?_
    exact ok_ret.2 ⟨l2.length - (j + 1), by omega, j + 1, (A.call x).2, (B.call x).2, T7, U8, S7, L7, S8, L8, by rw [wI (by omega)]; simp, by omega, rfl, D8, I7, J8, F.call x, hR.2, by omega, by omega, by omega, by omega⟩
  refine ok_false (by rw [H2.len]; simpa using hlt) ?_
  refine ok_bnd.2 (ok_mono (Q := fun r w' => r = true ∧ Below w.heap.size w w') ?_ (fun r w' h => ok_ret.2 h))
  refine ok_bnd.2 (ok_mono (state_spec D.t.th I F.1) ?_)
  rintro r19 w7 ⟨T7, C7, v, hv1, hv2, hr, _⟩
  have D7 := D.stepT C7
  refine ok_bnd.2 (ok_mono (state_spec D7.u.th J (fit_rel R F.1)) ?_)
  rintro r20 w8 ⟨U8, C8, u, hu1, hu2, hs, _⟩
  have D8 := D7.stepU C8
  have h1 : Rd (bothM T7 U8) r19 (stateL A v) := Rw.rd (hr.mono fun b M _ h => bothM_t h)
  have h2 : Rd (bothM T7 U8) r20 (stateL B u) := Rw.rd (hs.mono fun b M _ h => bothM_u D8 h)
  refine ok_same D8.both h1 h2 (by have := stateL_len F.1 hv1; omega) fun w9 C9 => ?_
  rw [decide_eq_true (stateL_rel R hv1 hv2 hu1 hu2)]
  exact ok_ret.2 ⟨rfl, bel C9⟩
/-- SchedBack. -/
theorem back_is {x0 x1 : Sl} (h0 : Held w (.sl shAct) x0) (h1 : Held w (.sl shAct) x1) (hs0 : x0.len ≤ 1000000000000000000) (hs1 : x1.len ≤ 1000000000000000000) (W : World) (hW : W = w := by rfl) : Ok (f6_palaverlaw26_SchedBack x0 x1) W fun r w' => r = true ∧ Below W.heap.size W w' := by
  subst hW
  obtain ⟨l0, H0⟩ := held_acts h0
  obtain ⟨l1, H1⟩ := held_acts h1
  exact back_true H0 H1 hs0 hs1
end
end Go.Proofs.Ytkkdeljladihpaa
namespace Go.Sh
open Go.RowKit Go.ChangeShapes Go.WideShapes
/-- A slice that was read weighs what its room weighs. -/
theorem trod_room {H : Type} {en : TypeId × Value → H} {P : Program} {w : World} {T E : TypeId} {x : Sl} {d : DataW H} {ps : List MemPlace} (ht : P.underlying T = some (.slice E)) (hd : DataW.Trod en P w 0 (fun _ => true) true T (inj .sl x) d ps) :
    x.len = 0 ∨ ∃ elems spare, d = .slice elems spare ∧ x.len ≤ elems.length + spare.length := by
  obtain ⟨fuel, hf⟩ := hd
  rcases Deep.open_slice ht hf with ⟨h1, _⟩ | ⟨a, len, cap, m, n, D, Pl, h1, hb, hl, hm, hmm, h2, hi⟩
  · left
    have h1 : [Value.slice x.a x.len x.cap] = [.slice none 0 0] := h1
    simp only [List.cons.injEq, Value.slice.injEq, and_true] at h1
    exact h1.2.1
  · right
    have h1 : [Value.slice x.a x.len x.cap] = [.slice (some a) len cap] := h1
    simp only [List.cons.injEq, Value.slice.injEq, and_true] at h1
    simp only [Prod.mk.injEq] at h2
    refine ⟨_, _, h2.1, ?_⟩
    rw [h1.2.1]
    simp
end Go.Sh
