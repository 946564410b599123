/-
  Parts of the proof: SY, SZ, TA, TB. It states what the functions do; no further condition.
-/
import Derived.Test.YtkkdeljladihpaaSX
set_option linter.unusedVariables false
set_option linter.unusedSimpArgs false
/-
  The scheduler's laws in plain Lean: who is first, signals, who is fair. No program in sight.
-/
namespace Go.Proofs.Ytkkdeljladihpaa
set_option linter.unusedVariables false
open St
variable {A B : St} {x : Nat}
theorem mem_readyN {q : Nat → List Nat} {n : Nat} : ∀ k, n ∈ readyN q k → ∃ p, 1 ≤ p ∧ p ≤ k ∧ n ∈ q p
  | 0, h => by simp [readyN] at h
  | k + 1, h => by
    unfold readyN at h
    rcases List.mem_append.1 h with h | h
    · exact ⟨k + 1, by omega, Nat.le_refl _, h⟩
    · obtain ⟨p, h1, h2, h3⟩ := mem_readyN k h; exact ⟨p, h1, by omega, h3⟩
theorem FitX.mem_readies (F : FitX A x) {n : Nat} (h : n ∈ A.readies) : 1 ≤ n ∧ n ≤ A.procs.length ∧ (A.pr n).standing = 1 ∧ (A.pr n).prio ≤ A.highest := by
  obtain ⟨p, h1, h2, h3⟩ := mem_readyN 16 h
  have := F.que p n h3
  have hh := F.le_high (p := p) (by intro e; rw [e] at h3; simp at h3)
  exact ⟨this.1, this.2.1, this.2.2.1, by have := this.2.2.2.1; omega⟩
theorem readyN_pw (F : FitX A x) : ∀ k, ((readyN A.queues k).map fun n => (A.pr n).prio).Pairwise (· ≥ ·) ∧ ∀ n ∈ readyN A.queues k, (A.pr n).prio ≤ k
  | 0 => ⟨by simp [readyN], by simp [readyN]⟩
  | k + 1 => by
    have ih := readyN_pw F k
    have hq : ∀ n ∈ A.queues (k + 1), (A.pr n).prio = ((k + 1 : Nat) : Int) := fun n hn => (F.que _ n hn).2.2.2.1
    refine ⟨?_, fun n hn => ?_⟩
    · unfold readyN
      rw [List.map_append, List.pairwise_append]
      refine ⟨?_, ih.1, ?_⟩
      · rw [List.pairwise_map]
        exact List.pairwise_of_forall_mem_list fun a ha b hb => by rw [hq a ha, hq b hb]; exact Int.le_refl _
      · intro a ha b hb
        obtain ⟨n, hn, rfl⟩ := List.mem_map.1 ha
        obtain ⟨m, hm, rfl⟩ := List.mem_map.1 hb
        have := ih.2 m hm
        rw [hq n hn]; omega
    · unfold readyN at hn
      rcases List.mem_append.1 hn with hn | hn
      · rw [hq n hn]; exact Int.le_refl _
      · have := ih.2 n hn; omega
theorem readyN_filter (F : FitX A x) {p : Nat} : ∀ k, (readyN A.queues k).filter (fun n => (A.pr n).prio = p) = if 1 ≤ p ∧ p ≤ k then A.queues p else []
  | 0 => by simp [readyN]; omega
  | k + 1 => by
    have ih := readyN_filter F (p := p) k
    have hq : ∀ n ∈ A.queues (k + 1), (A.pr n).prio = ((k + 1 : Nat) : Int) := fun n hn => (F.que _ n hn).2.2.2.1
    unfold readyN
    rw [List.filter_append, ih]
    by_cases e : p = k + 1
    · subst e
      rw [if_neg (by omega), if_pos (by omega), List.append_nil]
      exact List.filter_eq_self.2 fun n hn => by simpa using hq n hn
    · have h0 : (A.queues (k + 1)).filter (fun n => (A.pr n).prio = p) = [] := List.filter_eq_nil_iff.2 fun n hn => by
        rw [hq n hn]; simp only [decide_eq_true_eq]; omega
      rw [h0, List.nil_append]
      by_cases h1 : 1 ≤ p ∧ p ≤ k
      · rw [if_pos h1, if_pos (by omega)]
      · rw [if_neg h1, if_neg (by omega)]
theorem FitX.filter_readies (F : FitX A x) {p : Nat} (h1 : 1 ≤ p) (h2 : p ≤ 16) : A.readies.filter (fun n => (A.pr n).prio = p) = A.queues p := by
  have := readyN_filter F (p := p) 16
  rw [if_pos ⟨h1, h2⟩] at this; exact this
theorem readies_nil (h : A.highest = 0) : A.readies = [] := by
  have key : ∀ k, k ≤ 16 → readyN A.queues k = [] := by
    intro k
    induction k with
    | zero => intro _; rfl
    | succ k ih =>
      intro hk
      unfold readyN
      have : A.queues (k + 1) = [] := Classical.byContradiction fun hne => by
        have := le_highN (q := A.queues) (p := k + 1) 16 (by omega) hk hne
        unfold highest at h
        omega
      rw [this, ih (by omega)]; rfl
  exact key 16 (Nat.le_refl _)
/-- What a take does to processes. -/
theorem takes_pr {p n : Nat} {r : List Nat} (hq : A.queues p = n :: r) (h1 : 1 ≤ n) (h2 : n ≤ A.procs.length) {m : Nat} (hm : 1 ≤ m) : (A.takes p).pr m = if m = n then { A.pr n with standing := 2 } else A.pr m := by
  rw [takes_eq hq]
  exact pr_setPr (A := A.setQ p r) h1 h2 hm
theorem takes_act {p n : Nat} {r : List Nat} (hq : A.queues p = n :: r) : (A.takes p).active = n := by rw [takes_eq hq]; rfl
theorem takes_q {p n : Nat} {r : List Nat} (hq : A.queues p = n :: r) (y : Nat) : (A.takes p).queues y = if y = p then r else A.queues y := by rw [takes_eq hq]; rfl
theorem yields_pr (h : 1 ≤ A.active) (h2 : A.active ≤ A.procs.length) {m : Nat} (hm : 1 ≤ m) : A.yields.pr m = if m = A.active then { A.pr A.active with standing := 1 } else A.pr m := pr_setPr (A := A) h h2 hm
theorem yields_q (y : Nat) : A.yields.queues y = if y = (A.pr A.active).prio.toNat then A.active :: A.queues (A.pr A.active).prio.toNat else A.queues y := rfl
theorem yields_len : A.yields.procs.length = A.procs.length := setPr_len _ _ _
theorem prio_runs (F : FitX A 0) {m : Nat} (hm : 1 ≤ m) : (A.runs.pr m).prio = (A.pr m).prio ∧ (A.runs.pr m).sem = (A.pr m).sem := by
  have h := F.runs'
  generalize A.runs = B at h
  cases h with
  | stay h => exact ⟨rfl, rfl⟩
  | take h hh hq =>
    have hn := F.que _ _ (by rw [hq]; exact List.mem_cons_self)
    rw [takes_pr hq hn.1 hn.2.1 hm]
    split
    · rename_i e; subst e; exact ⟨rfl, rfl⟩
    · exact ⟨rfl, rfl⟩
  | swap h hh h0 hq hq' =>
    have hn := F.que _ _ (by rw [hq]; exact List.mem_cons_self)
    have ha := F.rn.act
    rw [takes_pr hq' hn.1 (by rw [yields_len]; exact hn.2.1) hm]
    split
    · rename_i e; subst e
      simp only
      rw [yields_pr h ha hm]
      split
      · rename_i e; subst e; exact ⟨rfl, rfl⟩
      · exact ⟨rfl, rfl⟩
    · rw [yields_pr h ha hm]
      split
      · rename_i e; subst e; exact ⟨rfl, rfl⟩
      · exact ⟨rfl, rfl⟩
/-- Who is ready is ready behind it, or runs. -/
theorem stand_runs (F : FitX A 0) {m : Nat} (hm : 1 ≤ m) (hs : (A.pr m).standing = 1) : (A.runs.pr m).standing = 1 ∨ (A.runs.pr m).standing = 2 := by
  have h := F.runs'
  generalize A.runs = B at h
  cases h with
  | stay h => exact .inl hs
  | take h hh hq =>
    have hn := F.que _ _ (by rw [hq]; exact List.mem_cons_self)
    rw [takes_pr hq hn.1 hn.2.1 hm]
    split
    · exact .inr rfl
    · exact .inl hs
  | swap h hh h0 hq hq' =>
    have hn := F.que _ _ (by rw [hq]; exact List.mem_cons_self)
    have ha := F.rn.act
    rw [takes_pr hq' hn.1 (by rw [yields_len]; exact hn.2.1) hm]
    split
    · exact .inr rfl
    · rw [yields_pr h ha hm]
      split
      · exact .inl rfl
      · exact .inl hs
/-- Who stands aside does so behind it. -/
theorem aside_runs (F : FitX A 0) (h0 : A.active = 0) {m : Nat} (hm : 1 ≤ m) (hs : (A.pr m).standing ≠ 1) : (A.runs.pr m).standing ≠ 1 := by
  have h := F.runs'
  generalize A.runs = B at h
  cases h with
  | stay h => exact hs
  | take h hh hq =>
    have hn := F.que _ _ (by rw [hq]; exact List.mem_cons_self)
    rw [takes_pr hq hn.1 hn.2.1 hm]
    split
    · simp
    · exact hs
  | swap h hh h0' hq hq' => omega
/-- Who runs goes on, or a greater one does, and one is next of one's priority. -/
def First (a : Nat) (B : St) : Prop := B.active = a ∨ (B.pr a).standing ≠ 1 ∨ ((B.pr B.active).prio > (B.pr a).prio ∧ ∃ r, B.queues (B.pr a).prio.toNat = a :: r)
theorem first_runs (F : FitX A 0) (h1 : 1 ≤ A.active) : First A.active A.runs := by
  have ha := F.rn.act
  have hp := prio_runs F h1
  have h := F.runs'
  unfold First
  generalize A.runs = B at h hp
  cases h with
  | stay h => exact .inl rfl
  | take h hh hq => omega
  | swap h hh h0 hq hq' =>
    right; right
    have hn := F.que _ _ (by rw [hq]; exact List.mem_cons_self)
    have hpa := F.pr_ok h1 ha
    rw [hp.1, takes_act hq', takes_q hq', takes_pr hq' hn.1 (by rw [yields_len]; exact hn.2.1) hn.1, if_pos rfl, if_neg (by omega), yields_q, if_pos rfl]
    simp only
    rw [yields_pr h ha hn.1]
    refine ⟨?_, _, rfl⟩
    split
    · rename_i e
      have := hn.2.2.2.1
      rw [e] at this; omega
    · have := hn.2.2.2.1; omega
theorem signal0_act (A : St) (n : Int) : (A.signal0 n).2.active = A.active := by
  unfold St.signal0
  split
  · rfl
  split
  · rfl
  split <;> rfl
theorem ticks_act {now : Int} : ∀ (f : Nat) (A : St) (n : Int), (St.ticks now f A n).1.active = A.active
  | 0, A, n => rfl
  | f + 1, A, n => by
    unfold St.ticks
    split
    · rw [ticks_act f, signal0_act]
    · rfl
theorem out_act (F : FitX A 0) {n : Nat} (h1 : 1 ≤ n) (h2 : n ≤ A.procs.length) (hne : n ≠ A.active) : (A.out n).active = A.active := by
  unfold St.out
  split
  · rfl
  split
  · rfl
  split
  · rename_i h; exact absurd (F.only n h1 h2 (by omega) h) hne
  · rfl
theorem out_self (F : FitX A 0) (h1 : 1 ≤ A.active) : (A.out A.active).active = 0 := by
  have hs : (A.pr A.active).standing = 2 := by
    rcases F.act with h | h
    · omega
    · exact h.2.1
  unfold St.out
  rw [if_neg (by omega), if_neg (by omega), if_pos hs]; rfl
/-- A call other than Yield and SetPriority. -/
theorem first_call (F : A.Fit) (h1 : 1 ≤ A.active) (x : Act) (hx2 : x.1 ≠ 2) (hx9 : x.1 ≠ 9) : First A.active (A.call x).2 := by
  have G := F.1
  have ha := G.rn.act
  have run : ∀ C : St, FitX C 0 → C.active = A.active → First A.active C.runs := fun C FC e => by rw [← e]; exact first_runs FC (by omega)
  have off : ∀ C : St, FitX C 0 → C.active = 0 → (C.pr A.active).standing ≠ 1 → First A.active C.runs := fun C FC e hs => .inr (.inl (aside_runs FC e h1 hs))
  have nil : First A.active A := .inl rfl
  unfold St.call
  by_cases e : x.1 = 1
  · rw [if_pos e]; unfold St.fork
    split
    · exact nil
    split
    · exact nil
    · exact run _ ((G.new (p := x.2.1) (by omega) (by omega)).ready (by omega) (by simp)) rfl
  rw [if_neg e]; clear e
  rw [if_neg hx2]
  by_cases e : x.1 = 3
  · rw [if_pos e]; unfold St.semaphore
    split
    · exact nil
    · exact .inl rfl
  rw [if_neg e]; clear e
  by_cases e : x.1 = 4
  · rw [if_pos e]
    unfold St.wait
    split
    · exact nil
    rename_i h0
    split
    · exact nil
    rename_i hs
    have hi : 1 ≤ x.2.1 ∧ x.2.1 ≤ A.sems.length := isSem_iff.1 (by simpa using hs)
    have he := G.exc x.2.1.toNat (by omega) (by omega)
    split
    · exact .inl rfl
    · rename_i hx
      have hp := G.pr_ok (n := A.active) (by omega) ha
      have F1 := G.off.setPr (A := A.on 0) (by omega) ha (r := { A.pr A.active with standing := 3, sem := x.2.1 }) ⟨hp.1, hp.2.1, by simp, by simp⟩
      have e := pr_setPr_eq (A := A.on 0) (r := { A.pr A.active with standing := 3, sem := x.2.1 }) (n := A.active) (by omega) ha
      have hx0 : (A.sm x.2.1.toNat).1 = 0 := by omega
      have F2 := F1.wai (i := x.2.1.toNat) (by omega) (by rw [setPr_len]; exact ha) (by rw [e]) (by rw [e]; simp only; omega) (by omega) (by show _ ≤ A.sems.length; omega) hx0
      rw [← hx0] at F2
      refine off _ F2 rfl ?_
      show (((A.on 0).setPr A.active _).pr A.active).standing ≠ 1
      rw [e]; simp
  rw [if_neg e]; clear e
  by_cases e : x.1 = 5
  · rw [if_pos e]
    exact run _ (G.signal0 _) (signal0_act _ _)
  rw [if_neg e]; clear e
  by_cases e : x.1 = 6
  · rw [if_pos e]
    unfold St.suspend
    split
    · exact nil
    rename_i ha'
    have ha' := alive_ok ha'
    split
    · exact nil
    have F1 := G.out (x := x.2.1.toNat) (by omega) (by omega)
    have hp := F1.1.pr_ok (n := x.2.1.toNat) (by omega) (by rw [out_len]; omega)
    have el := out_len A x.2.1.toNat
    have F2 := ((F1.1.setPr (by omega) (by omega) (r := { (A.out x.2.1.toNat).pr x.2.1.toNat with standing := 4 }) ⟨hp.1, hp.2.1, by simp, by simp⟩).nowhere fun h1 h2 => by
      rw [pr_setPr_eq h1 (by omega)]
      exact ⟨by simp, by simp, by simp, F1.2⟩)
    by_cases e : x.2.1.toNat = A.active
    · rw [e] at F2 ⊢
      refine off _ F2 (out_self G h1) ?_
      rw [pr_setPr_eq h1 (by rw [out_len]; exact ha)]; simp
    · exact run _ F2 (out_act G (by omega) (by omega) e)
  rw [if_neg e]; clear e
  by_cases e : x.1 = 7
  · rw [if_pos e]
    unfold St.resume
    split
    · exact nil
    rename_i ha'
    have ha' := alive_ok ha'
    split
    · exact nil
    rename_i hs
    exact run _ ((G.aside (x := x.2.1.toNat) fun _ _ => by omega).ready (by omega) (by omega)) rfl
  rw [if_neg e]; clear e
  by_cases e : x.1 = 8
  · rw [if_pos e]
    unfold St.terminate
    split
    · exact nil
    rename_i ha'
    have ha' := alive_ok ha'
    have F1 := G.out (x := x.2.1.toNat) (by omega) (by omega)
    have hp := F1.1.pr_ok (n := x.2.1.toNat) (by omega) (by rw [out_len]; omega)
    have el := out_len A x.2.1.toNat
    have F2 := ((F1.1.setPr (by omega) (by omega) (r := { (A.out x.2.1.toNat).pr x.2.1.toNat with standing := 5 }) ⟨hp.1, hp.2.1, by simp, by simp⟩).nowhere fun h1 h2 => by
      rw [pr_setPr_eq h1 (by omega)]
      exact ⟨by simp, by simp, by simp, F1.2⟩)
    by_cases e : x.2.1.toNat = A.active
    · rw [e] at F2 ⊢
      refine off _ F2 (out_self G h1) ?_
      rw [pr_setPr_eq h1 (by rw [out_len]; exact ha)]; simp
    · exact run _ F2 (out_act G (by omega) (by omega) e)
  rw [if_neg e]; clear e
  rw [if_neg hx9]
  by_cases e : x.1 = 10
  · rw [if_pos e]
    unfold St.at_
    split
    · exact nil
    split
    · exact nil
    split
    · exact nil
    · exact .inl rfl
  rw [if_neg e]; clear e
  by_cases e : x.1 = 11
  · rw [if_pos e]
    unfold St.tick
    split
    · exact nil
    · exact run _ (FitX.ticks _ _ _ (G.timers (m := A.made) G.tms G.few.2.2)) (by rw [ticks_act])
  rw [if_neg e]; clear e
  by_cases e : x.1 = 12
  · rw [if_pos e]
    unfold St.listen
    split
    · exact nil
    split
    · exact nil
    · exact .inl rfl
  rw [if_neg e]; clear e
  by_cases e : x.1 = 13
  · rw [if_pos e]
    unfold St.event
    split
    · exact nil
    · exact run _ (G.signal0 _) (signal0_act _ _)
  rw [if_neg e]
  exact nil
end Go.Proofs.Ytkkdeljladihpaa

/-
  SchedFirst.
-/
namespace Go.Proofs.Ytkkdeljladihpaa
set_option linter.unusedVariables false
open Go.Sh Go.RowKit
set_option maxRecDepth 100000
theorem stand_of {A : St} {n : Nat} (h1 : 1 ≤ n) (h2 : n ≤ A.procs.length) : A.standing (n : Int) = ((A.pr n).standing, (A.pr n).prio, 0) := by
  unfold St.standing
  rw [if_neg (by omega), Int.toNat_natCast]
theorem call_len (A : St) (x : Act) : A.procs.length ≤ (A.call x).2.procs.length := by
  have key : ∀ B : St, B.procs.length = A.procs.length → A.procs.length ≤ B.procs.length := fun B h => by omega
  have s0 : ∀ (A : St) n, (A.signal0 n).2.procs.length = A.procs.length := fun A n => by
    unfold St.signal0
    split
    · rfl
    split
    · exact (rest_ready _ _).len
    split <;> rfl
  have tk : ∀ now f (A : St) n, (St.ticks now f A n).1.procs.length = A.procs.length := fun now f => by
    induction f with
    | zero => intro A n; rfl
    | succ f ih =>
      intro A n
      unfold St.ticks
      split
      · rw [ih, s0]
      · rfl
  unfold St.call
  by_cases e : x.1 = 1
  · rw [if_pos e]; unfold St.fork
    split
    · exact key _ rfl
    split
    · exact key _ rfl
    · simp only; rw [(rest_runs _).len, (rest_ready _ _).len]; simp
  rw [if_neg e]; clear e
  by_cases e : x.1 = 2
  · rw [if_pos e]; apply key; unfold St.yield
    split
    · rfl
    · exact (rest_runs _).len.trans (rest_ready _ _).len
  rw [if_neg e]; clear e
  by_cases e : x.1 = 3
  · rw [if_pos e]; apply key; unfold St.semaphore
    split <;> rfl
  rw [if_neg e]; clear e
  by_cases e : x.1 = 4
  · rw [if_pos e]; apply key; unfold St.wait
    split
    · rfl
    split
    · rfl
    split
    · rfl
    · exact (rest_runs _).len.trans (St.setPr_len _ _ _)
  rw [if_neg e]; clear e
  by_cases e : x.1 = 5
  · rw [if_pos e]; apply key; exact (rest_runs _).len.trans (s0 _ _)
  rw [if_neg e]; clear e
  by_cases e : x.1 = 6
  · rw [if_pos e]; apply key; unfold St.suspend
    split
    · rfl
    split
    · rfl
    · exact (rest_runs _).len.trans ((St.setPr_len _ _ _).trans (out_len _ _))
  rw [if_neg e]; clear e
  by_cases e : x.1 = 7
  · rw [if_pos e]; apply key; unfold St.resume
    split
    · rfl
    split
    · rfl
    · exact (rest_runs _).len.trans (rest_ready _ _).len
  rw [if_neg e]; clear e
  by_cases e : x.1 = 8
  · rw [if_pos e]; apply key; unfold St.terminate
    split
    · rfl
    · exact (rest_runs _).len.trans ((St.setPr_len _ _ _).trans (out_len _ _))
  rw [if_neg e]; clear e
  by_cases e : x.1 = 9
  · rw [if_pos e]; apply key; unfold St.setPriority
    split
    · rfl
    split
    · rfl
    split
    · exact (rest_runs _).len.trans (St.setPr_len _ _ _)
    · exact (rest_runs _).len.trans ((rest_ready _ _).len.trans ((St.setPr_len _ _ _).trans (out_len _ _)))
  rw [if_neg e]; clear e
  by_cases e : x.1 = 10
  · rw [if_pos e]; apply key; unfold St.at_
    split
    · rfl
    split
    · rfl
    split <;> rfl
  rw [if_neg e]; clear e
  by_cases e : x.1 = 11
  · rw [if_pos e]; apply key; unfold St.tick
    split
    · rfl
    · exact (rest_runs _).len.trans (tk _ _ _ _)
  rw [if_neg e]; clear e
  by_cases e : x.1 = 12
  · rw [if_pos e]; apply key; unfold St.listen
    split
    · rfl
    split <;> rfl
  rw [if_neg e]; clear e
  by_cases e : x.1 = 13
  · rw [if_pos e]; apply key; unfold St.event
    split
    · rfl
    · exact (rest_runs _).len.trans (s0 _ _)
  rw [if_neg e]
  exact key _ rfl
theorem new_made : St.new.made = 0 := rfl
theorem first_of_filter {l : List Nat} {p : Nat → Prop} [DecidablePred p] {a : Nat} {r : List Nat} (h : l.filter (fun n => p n) = a :: r) {k : Nat} {v : Nat} (hk : l[k]? = some v) (hv : p v) (hb : ∀ j, j < k → ∀ u, l[j]? = some u → ¬ p u) : v = a := by
  have hkl : k < l.length := by
    rcases Nat.lt_or_ge k l.length with h | h
    · exact h
    · rw [List.getElem?_eq_none h] at hk; cases hk
  have e : l = l.take k ++ v :: l.drop (k + 1) := by
    conv => lhs; rw [← List.take_append_drop k l, List.drop_eq_getElem_cons hkl]
    rw [List.getElem?_eq_getElem hkl, Option.some.injEq] at hk
    rw [hk]
  have h0 : (l.take k).filter (fun n => p n) = [] := List.filter_eq_nil_iff.2 fun u hu => by
    obtain ⟨j, hj, rfl⟩ := List.mem_iff_getElem.1 hu
    have hjk : j < k := by rw [List.length_take] at hj; omega
    have := hb j hjk _ (by rw [← List.getElem?_take_of_lt hjk, List.getElem?_eq_getElem hj])
    simpa using this
  rw [e, List.filter_append, h0, List.nil_append, List.filter_cons_of_pos (by simpa using hv)] at h
  simp only [List.cons.injEq] at h
  exact h.1
section
variable {w0 w : World} {T0 T : Hp} {sb : Nat} {S : Sk} {L : List Sm} {A : St} {α β : Type} {Q : α → World → Prop}
theorem ns_get {l : List Nat} {k : Nat} (h : k < l.length) : (ns l)[k]? = some ((l[k] : Nat) : Int) := by
  unfold ns; rw [List.getElem?_map, List.getElem?_eq_getElem h]; rfl
theorem first_true {s : Sl} {l : List Act} (H : Acts w s l) : Ok (f3_palaverlaw26_SchedFirst s) w fun r w' => r = true ∧ Below w.heap.size w w' := by
  unfold f3_palaverlaw26_SchedFirst
  refine ok_bnd.2 (ok_mono (works_spec w) ?_)
  rintro _ w1 ⟨rfl, hb1⟩
  have C0 : Tr en w (fun _ => none) w1 (fun _ => none) := (Tr.refl fun b o h => by cases h).call hb1
  have hmx := H.max
  refine new_spec C0 fun sb w2 T2 _ _ C2 I2 => ok_false rfl ?_
  refine ok_loopN (fun m (i' : Int) w' => ∃ (i : Nat) (A : St) (T : Hp) (S : Sk) (L : List Sm), i' = i ∧ i ≤ l.length ∧ m = l.length - i ∧ Tr en w (fun _ => none) w' T ∧ SInv T sb S L A ∧ A.Fit ∧ 0 ≤ A.made ∧ A.made ≤ i) ?_ l.length 0 w2 ⟨0, _, T2, _, _, rfl, Nat.zero_le _, by omega, C2, I2, ⟨fit_new, hi_new⟩, by rw [new_made]; exact Int.le_refl _, by rw [new_made]; exact Int.le_refl _⟩
  clear C2 I2 C0 hb1
  rintro m i' w3 ⟨i, A, T, S, L, rfl, hi, rfl, C, I, F, hm0, hm1⟩
  by_cases hlt : i < l.length
  · refine ok_true (by rw [H.len]; simpa using hlt) ?_
    have hx : l[i]? = some l[i] := List.getElem?_eq_getElem hlt
    generalize l[i] = x at hx
    refine ok_bnd.2 (ok_mono (Q := fun r w' => r = Sum.inl () ∧ ∃ T' S' L', Tr en w (fun _ => none) w' T' ∧ SInv T' sb S' L' (A.call x).2) ?_ ?_)
    · refine active_spec C I ?_
      refine ok_act H (bel C) hx rfl ?_
      refine ok_scall C (call_spec C.th I F.1 ⟨hm0, by omega⟩ x) fun r w4 T4 C4 h => ?_
      obtain ⟨rfl, S4, L4, I4⟩ := h
      have FB := F.call x
      have hlen := call_len A x
      have hfirst := first_call F
      generalize hBe : (A.call x).2 = B at I4 FB hlen hfirst
      refine active_spec C4 I4 ?_
      refine ok_scall C4 (readies_spec C4.th I4 FB.1 0) fun r w5 T5 C5 h => ?_
      obtain ⟨hr, hT⟩ := h
      have I5 := I4.extO (T' := T5) fun b p hb hne => hT b p hb (hne 0)
      have hhi := FB.2
      unfold St.Hi at hhi
      have hrl : r.len = B.readies.length := by rw [hr.len, ns_length]
      by_cases h0 : B.active = 0
      · rw [if_pos h0] at hhi
        have hn := readies_nil hhi
        refine ok_true (by simp [h0]) (ok_false (by rw [hrl, hn]; rfl) (ok_ret.2 ⟨rfl, T5, S4, L4, C5, I5⟩))
      rw [if_neg h0] at hhi
      refine ok_false (by simpa using h0) ?_
      have hact : B.active ≤ B.procs.length := FB.1.rn.act
      have hst : (B.pr B.active).standing = 2 := by
        rcases FB.1.act with h | h
        · omega
        · exact h.2.1
      have hf := FB.1.few
      have hq16 : B.readies.length ≤ 1000000 := by
        have key : ∀ k, (St.readyN B.queues k).length ≤ 4096 * k := by
          intro k
          induction k with
          | zero => exact Nat.le_refl _
          | succ k ih => unfold St.readyN; rw [List.length_append]; have := FB.1.ql (k + 1); omega
        have := key 16
        unfold St.readies; omega
      refine ok_standing C5 I5 hf.1 fun w6 C6 => ?_
      rw [stand_of (by omega) hact, hst]
      refine ok_false (by simp) ?_
      have hpw := readyN_pw FB.1 16
      refine ok_loopN (fun m (st : Int × Int) w' => ∃ k : Nat, st.2 = k ∧ k ≤ B.readies.length ∧ m = B.readies.length - k ∧ (∀ n, B.readies[k]? = some n → (B.pr n).prio ≤ st.1) ∧ Tr en w (fun _ => none) w' T5) ?_ B.readies.length _ w6 ⟨0, rfl, Nat.zero_le _, by omega, ?_, C6⟩
      rotate_left
      · intro n hn
        have := FB.1.mem_readies (List.mem_of_getElem? hn)
        have := FB.1.pr_ok this.1 this.2.1
        show _ ≤ (17 : Int)
        omega
      rintro m ⟨last, k'⟩ w7 ⟨k, hk, hkl, rfl, hlast, C7⟩
      simp only at hk hlast
      subst hk
      by_cases hklt : k < B.readies.length
      · refine ok_true (by rw [hrl]; simpa using hklt) ?_
        have hg := ns_get hklt
        have hmem := FB.1.mem_readies (List.getElem_mem hklt)
        have hgk : B.readies[k]? = some B.readies[k] := List.getElem?_eq_getElem hklt
        have hl2 := hlast _ hgk
        refine ok_rdE C7 (Rw.rd hr) hg rfl ?_
        refine ok_standing C7 I5 hf.1 fun w8 C8 => ?_
        rw [stand_of hmem.1 hmem.2.1, hmem.2.2.1]
        refine ok_false ?_ (ok_ret.2 ⟨B.readies.length - (k + 1), by omega, k + 1, by show IntKind.wrap .i64 _ = _; rw [wI (by omega)]; simp, by omega, rfl, fun n hn => ?_, C8⟩)
        · have e1 : decide ((B.pr B.readies[k]).prio > (B.pr B.active).prio) = false := decide_eq_false (by have := hmem.2.2.2; omega)
          have e2 : decide ((B.pr B.readies[k]).prio > last) = false := decide_eq_false (by omega)
          simp only [e1, e2]; rfl
        · have hk1 : k + 1 < B.readies.length := by
            rcases Nat.lt_or_ge (k + 1) B.readies.length with h | h
            · exact h
            · rw [List.getElem?_eq_none h] at hn; cases hn
          rw [List.getElem?_eq_getElem hk1, Option.some.injEq] at hn
          subst hn
          have := List.pairwise_iff_getElem.1 hpw.1 k (k + 1) (by rw [List.length_map]; exact hklt) (by rw [List.length_map]; exact hk1) (by omega)
          rw [List.getElem_map, List.getElem_map] at this
          exact this
      · refine ok_false (by rw [hrl]; simpa using hklt) ?_
        refine ok_bnd.2 (ok_mono (Q := fun r w' => r = Sum.inl () ∧ Tr en w (fun _ => none) w' T5) ?_ ?_)
        rotate_left
        · rintro r w' ⟨rfl, C'⟩
          exact ok_ret.2 ⟨rfl, T5, S4, L4, C', I5⟩
        by_cases ha0 : A.active = 0
        · exact ok_true (by simp [ha0]) (ok_ret.2 ⟨rfl, C7⟩)
        by_cases hab : B.active = A.active
        · exact ok_true (by simp [ha0, hab]) (ok_ret.2 ⟨rfl, C7⟩)
        refine ok_false (by
          have e1 : ((A.active : Int) == 0) = false := by simpa using ha0
          have e2 : ((A.active : Int) == (B.active : Int)) = false := by simp only [beq_eq_false_iff_ne, ne_eq]; omega
          rw [e1, e2]; rfl) ?_
        have haA := F.1.rn.act
        refine ok_standing C7 I5 hf.1 fun w8 C8 => ?_
        rw [stand_of (n := A.active) (by omega) (by omega)]
        refine ok_actK H (bel C8) hx rfl ?_
        by_cases hkind : x.1 = 2 ∨ x.1 = 9
        · have ek : (cond (x.1 != (2 : Int)) (x.1 != (9 : Int)) false) = false := by
            rcases hkind with h | h <;> simp [h]
          have ek' : ∀ b c : Bool, cond (cond (cond b (x.1 != (2 : Int)) false) (x.1 != (9 : Int)) false) c false = false := by
            intro b c
            cases b <;> cases c <;> rcases hkind with h | h <;> simp [h]
          have ek2 : ∀ b : Bool, cond (cond b (x.1 != (2 : Int)) false) (x.1 != (9 : Int)) false = false := by
            intro b
            cases b <;> rcases hkind with h | h <;> simp [h]
          refine ok_false (ek' _ _) ?_
          refine ok_bnd.2 (ok_false (ek2 _) (ok_ret.2 (ok_ret.2 ⟨rfl, C8⟩)))
        · simp only [not_or] at hkind
          rcases hfirst (by omega) x hkind.1 hkind.2 with h | h | ⟨h1, r1, h2⟩
          · rw [hBe] at h; exact absurd h hab
          · rw [hBe] at h
            have es : ((B.pr A.active).standing == (1 : Int)) = false := by simpa using h
            refine ok_false (by simp only [es]; rfl) ?_
            exact ok_bnd.2 (ok_false (by simp only [es]; rfl) (ok_ret.2 (ok_ret.2 ⟨rfl, C8⟩)))
          · rw [hBe] at h1 h2
            refine ok_false (by
              have e1 : decide ((B.pr B.active).prio ≤ (B.pr A.active).prio) = false := decide_eq_false (by omega)
              simp only [e1]
              cases ((B.pr A.active).standing == (1 : Int)) <;> rfl) ?_
            refine ok_bnd.2 (ok_mono (Q := fun r w' => r = Sum.inl () ∧ Tr en w (fun _ => none) w' T5) ?_ ?_)
            rotate_left
            · rintro r w' ⟨rfl, C'⟩
              exact ok_ret.2 ⟨rfl, C'⟩
            refine ok_cnd.2 ⟨fun _ => ?_, fun _ => ok_ret.2 ⟨rfl, C8⟩⟩
            refine ok_bnd.2 (ok_mono (Q := fun r w' => r = Sum.inl () ∧ Tr en w (fun _ => none) w' T5) ?_ ?_)
            rotate_left
            · rintro r w' ⟨rfl, C'⟩
              exact ok_ret.2 ⟨rfl, C'⟩
            have hpA := FB.1.pr_ok (n := A.active) (by omega) (by omega)
            have hfil := FB.1.filter_readies (p := (B.pr A.active).prio.toNat) (by omega) (by omega)
            rw [h2] at hfil
            refine ok_loopN (fun m (st : Int) w' => ∃ k : Nat, st = k ∧ k ≤ B.readies.length ∧ m = B.readies.length - k ∧ (∀ j, j < k → ∀ u, B.readies[j]? = some u → ¬ (B.pr u).prio = ((B.pr A.active).prio.toNat : Int)) ∧ Tr en w (fun _ => none) w' T5) ?_ B.readies.length _ w8 ⟨0, rfl, Nat.zero_le _, by omega, fun j hj => absurd hj (Nat.not_lt_zero _), C8⟩
            clear C8 C7 hklt hkl
            rintro m k' w7 ⟨k, rfl, hkl, rfl, hbef, C7⟩
            by_cases hklt : k < B.readies.length
            · refine ok_true (by rw [hrl]; simpa using hklt) ?_
              have hg := ns_get hklt
              have hmem := FB.1.mem_readies (List.getElem_mem hklt)
              have hgk : B.readies[k]? = some B.readies[k] := List.getElem?_eq_getElem hklt
              refine ok_rdE C7 (Rw.rd hr) hg rfl ?_
              refine ok_standing C7 I5 hf.1 fun w8 C8 => ?_
              rw [stand_of hmem.1 hmem.2.1]
              by_cases hpe : (B.pr B.readies[k]).prio = (B.pr A.active).prio
              · refine ok_true (by simpa using hpe) ?_
                refine ok_rdE C8 (Rw.rd hr) hg rfl ?_
                have he : B.readies[k] = A.active := first_of_filter (p := fun n => (B.pr n).prio = ((B.pr A.active).prio.toNat : Int)) hfil hgk (by show (B.pr B.readies[k]).prio = _; omega) hbef
                exact ok_false (by rw [he]; simp) (ok_ret.2 ⟨rfl, C8⟩)
              · refine ok_false (by simpa using hpe) (ok_ret.2 ⟨B.readies.length - (k + 1), by omega, k + 1, by rw [wI (by omega)]; simp, by omega, rfl, fun j hj u hu => ?_, C8⟩)
                by_cases hjk : j = k
                · subst hjk
                  rw [hgk, Option.some.injEq] at hu
                  subst hu
                  omega
                · exact hbef j (by omega) u hu
            · exact ok_false (by rw [hrl]; simpa using hklt) (ok_ret.2 ⟨rfl, C7⟩)
    · rintro r w4 ⟨rfl, T4, S4, L4, C4, I4⟩
      have hcm := call_made A x
      exact ok_ret.2 ⟨l.length - (i + 1), by omega, i + 1, (A.call x).2, T4, S4, L4, by rw [wI (by omega)]; simp, by omega, rfl, C4, I4, F.call x, by omega, by omega⟩
  · exact ok_false (by rw [H.len]; simpa using hlt) (ok_ret.2 ⟨rfl, bel C⟩)
theorem first_is {x0 : Sl} (h : Held w (.sl shAct) x0) (W : World) (hW : W = w := by rfl) : Ok (f3_palaverlaw26_SchedFirst x0) W fun r w' => r = true ∧ Below W.heap.size W w' := by
  subst hW
  obtain ⟨l, H⟩ := held_acts h
  exact first_true H
end
end Go.Proofs.Ytkkdeljladihpaa

/-
  SchedSignals.
-/
namespace Go.Proofs.Ytkkdeljladihpaa
set_option linter.unusedVariables false
open Go.Sh Go.RowKit
set_option maxRecDepth 100000
theorem sm_rest {A B : St} (h : Rest A B) (n : Nat) : B.sm n = A.sm n := by unfold St.sm; rw [h.sems]
theorem isSem_rest {A B : St} (h : Rest A B) (n : Int) : B.isSem n = A.isSem n := by unfold St.isSem; rw [h.sems]
theorem signals_none {A : St} {a : Int} (h : A.isSem a = false) : (A.signal a).1 = 261 ∧ (A.signal a).2.isSem a = false := by
  unfold St.signal St.signal0
  rw [if_pos h]
  exact ⟨rfl, by rw [isSem_rest (rest_runs A)]; exact h⟩
theorem signals_free {A : St} (F : A.Fit) {n : Nat} (h1 : 1 ≤ n) (h2 : n ≤ A.sems.length) (hq : (A.sm n).2 = []) : (A.signal n).2.isSem n = true ∧ ((A.signal n).2.sm n).2 = [] ∧ ((A.signal n).1 = 0 ∧ ((A.signal n).2.sm n).1 = (A.sm n).1 + 1 ∨ (A.signal n).1 = 264 ∧ ((A.signal n).2.sm n).1 = (A.sm n).1) := by
  have hs : A.isSem (n : Int) = true := isSem_iff.2 ⟨by omega, by omega⟩
  have e0 : A.signal0 (n : Int) = if (A.sm n).1 ≥ 1073741824 then (264, A) else (0, A.setSm n ((A.sm n).1 + 1, [])) := by
    unfold St.signal0
    rw [if_neg (by rw [hs]; simp), Int.toNat_natCast, hq]
  unfold St.signal
  rw [e0]
  split
  · refine ⟨by rw [isSem_rest (rest_runs _)]; exact hs, ?_, .inr ⟨rfl, ?_⟩⟩
    · rw [sm_rest (rest_runs _)]; exact hq
    · rw [sm_rest (rest_runs _)]
  · have e := St.sm_setSm (A := A) (r := ((A.sm n).1 + 1, [])) h1 h2 h1
    rw [if_pos rfl] at e
    refine ⟨?_, ?_, .inl ⟨rfl, ?_⟩⟩
    · rw [isSem_rest (rest_runs _)]
      exact isSem_iff.2 ⟨by omega, by show (n : Int) ≤ ((A.sems.set _ _).length : Nat); rw [List.length_set]; omega⟩
    · rw [sm_rest (rest_runs _)]; simp only; rw [e]
    · rw [sm_rest (rest_runs _)]; simp only; rw [e]
theorem signals_wait {A : St} (F : A.Fit) {n q : Nat} {r : List Nat} (h1 : 1 ≤ n) (h2 : n ≤ A.sems.length) (hq : (A.sm n).2 = q :: r) : (A.signal n).2.isSem n = true ∧ (A.signal n).1 = 0 ∧ (A.sm n).1 = 0 ∧ (A.signal n).2.sm n = (0, r) ∧ 1 ≤ q ∧ q ≤ (A.signal n).2.procs.length ∧ (((A.signal n).2.pr q).standing = 1 ∨ ((A.signal n).2.pr q).standing = 2) := by
  have G := F.1
  have hs : A.isSem (n : Int) = true := isSem_iff.2 ⟨by omega, by omega⟩
  have e0 : A.signal0 (n : Int) = (0, (A.setSm n ((A.sm n).1, r)).ready q) := by
    unfold St.signal0
    rw [if_neg (by rw [hs]; simp), Int.toNat_natCast, hq]
  have hx := (G.exc n h1 h2).2.2 (by rw [hq]; simp)
  have hw := G.wq n q h1 h2 (by rw [hq]; exact List.mem_cons_self)
  have FnT := G.signal0 (n : Int)
  have e := St.sm_setSm (A := A) (r := ((A.sm n).1, r)) h1 h2 h1
  rw [if_pos rfl] at e
  unfold St.signal
  rw [e0] at FnT ⊢
  simp only at FnT ⊢
  have hR := (rest_ready (A.setSm n ((A.sm n).1, r)) q).trans (rest_runs _)
  refine ⟨?_, trivial, hx, ?_, hw.1, ?_, stand_runs FnT hw.1 ?_⟩
  · rw [isSem_rest hR]
    exact isSem_iff.2 ⟨by omega, by rw [St.setSm_len]; omega⟩
  · rw [sm_rest hR, e, hx]
  · rw [hR.len]; exact hw.2.1
  · show (((A.setSm n ((A.sm n).1, r)).setPr q _).pr q).standing = 1
    rw [St.pr_setPr_eq (A := A.setSm n ((A.sm n).1, r)) hw.1 hw.2.1]
section
variable {w0 w : World} {T0 T : Hp} {sb : Nat} {S : Sk} {L : List Sm} {A : St} {α β : Type} {Q : α → World → Prop}
theorem waiting_of {n : Nat} (h : A.isSem n = true) : A.waiting n = ((A.sm n).2, (A.sm n).1, 0) := by
  unfold St.waiting
  rw [if_neg (by rw [h]; simp), Int.toNat_natCast]
theorem waiting_no {n : Int} (h : A.isSem n = false) : A.waiting n = ([], 0, 261) := by
  unfold St.waiting
  rw [if_pos h]
theorem signals_true {s : Sl} {l : List Act} (H : Acts w s l) : Ok (f4_palaverlaw26_SchedSignals s) w fun r w' => r = true ∧ Below w.heap.size w w' := by
  unfold f4_palaverlaw26_SchedSignals
  refine ok_bnd.2 (ok_mono (works_spec w) ?_)
  rintro _ w1 ⟨rfl, hb1⟩
  have C0 : Tr en w (fun _ => none) w1 (fun _ => none) := (Tr.refl fun b o h => by cases h).call hb1
  have hmx := H.max
  refine new_spec C0 fun sb w2 T2 _ _ C2 I2 => ok_false rfl ?_
  refine ok_loopN (fun m (i' : Int) w' => ∃ (i : Nat) (A : St) (T : Hp) (S : Sk) (L : List Sm), i' = i ∧ i ≤ l.length ∧ m = l.length - i ∧ Tr en w (fun _ => none) w' T ∧ SInv T sb S L A ∧ A.Fit ∧ 0 ≤ A.made ∧ A.made ≤ i) ?_ l.length 0 w2 ⟨0, _, T2, _, _, rfl, Nat.zero_le _, by omega, C2, I2, ⟨fit_new, hi_new⟩, by rw [new_made]; exact Int.le_refl _, by rw [new_made]; exact Int.le_refl _⟩
  clear C2 I2 C0 hb1
  rintro m i' w3 ⟨i, A, T, S, L, rfl, hi, rfl, C, I, F, hm0, hm1⟩
  by_cases hlt : i < l.length
  · refine ok_true (by rw [H.len]; simpa using hlt) ?_
    have hx : l[i]? = some l[i] := List.getElem?_eq_getElem hlt
    generalize l[i] = x at hx
    refine ok_bnd.2 (ok_mono (Q := fun r w' => r = Sum.inl () ∧ ∃ T' S' L', Tr en w (fun _ => none) w' T' ∧ SInv T' sb S' L' (A.call x).2) ?_ ?_)
    · refine ok_act H (bel C) hx rfl ?_
      refine ok_tnew C (.tms [⟨0, 0, 0⟩]) rfl fun c w4 hc C4 => ?_
      have h30 : ⟨c, 0, none⟩ = (⟨c, 3 * 0, none⟩ : Addr) := rfl
      rw [h30]
      refine ok_tmw C4 (put_eq _ _ _) (by simp) (⟨x.1, x.2.1, x.2.2⟩ : Tm) fun w5 C5 => ?_
      rw [put_put] at C5
      rw [← h30]
      have hsub : ∀ b p, T b = some p → put T c (.tms ([(⟨0, 0, 0⟩ : Tm)].set 0 ⟨x.1, x.2.1, x.2.2⟩)) b = some p := fun b p hb => put_new hb hc
      have hnew : w.heap.size ≤ c := by
        rcases C5.new c (by rw [put_eq]; simp) with h | h
        · exact absurd rfl h
        · exact h
      obtain ⟨C6, B6⟩ := C5.stash hsub hc (put_eq _ _ _) hnew
      have B6 : Hid w w5 T c [.int .i64 x.1, .int .i64 x.2.1, .int .i64 x.2.2] := B6
      refine ok_ldH B6 (x := x.2.1) (by rfl) ?_
      refine ok_bnd.2 (ok_mono (waiting_spec3 C6.th I F.1 x.2.1 0) ?_)
      rintro ⟨r9, e9⟩ w7 ⟨T7, C7, hr9, he9, hT7, hN7⟩
      simp only at hr9 he9 hN7
      subst he9
      have B7 := (B6.step C7).less hT7
      have C7' := C6.trans C7
      refine ok_ldH0 B7 (x := x) (by rfl) ?_
      have C7s := C7'.less hT7
      refine ok_bnd.2 (ok_mono (call_spec C7s.th I F.1 ⟨hm0, by omega⟩ x) ?_)
      rintro _ w8 ⟨T8, C8, rfl, S8, L8, I8⟩
      have B8 := B7.step C8
      have C8' := C7s.trans C8
      have FB := F.call x
      refine ok_ldH B8 (x := x.2.1) (by rfl) ?_
      -- the row that was handed out ahead of the call
      have hrow : ∃ T9, Tr en w (fun _ => none) w8 T9 ∧ (∀ b p, T8 b = some p → T9 b = some p) ∧ Rw T9 (Ob.ints (.out 0)) r9 (ns (A.waiting x.2.1).1) ∧ Hid w w8 T9 c [.int .i64 x.1, .int .i64 x.2.1, .int .i64 x.2.2] := by
        rcases hr9.at_ with ⟨h1, h2⟩ | ⟨fb, M, h1, h2, h3, h4⟩
        · exact ⟨T8, C8', fun _ _ h => h, ⟨hr9.len, hr9.le, hr9.max, .inl ⟨h1, h2⟩⟩, B8⟩
        · have hn := hN7 fb h1
          have hnew2 : w.heap.size ≤ fb := by
            rcases C7'.new fb (by rw [h2]; simp) with h | h
            · exact absurd rfl h
            · exact h
          obtain ⟨_, D7⟩ := C7'.stash hT7 hn h2 hnew2
          have D8 := D7.step C8
          have hne : fb ≠ c := by
            rintro rfl
            have := (B6.step C7).off
            rw [h2] at this; cases this
          exact ⟨put T8 fb (.ints (.out 0) M), C8'.unstash D8, fun b p hb => put_new hb D8.off, ⟨hr9.len, hr9.le, hr9.max, .inr ⟨fb, M, h1, put_eq _ _ _, h3, h4⟩⟩, B8.put hne⟩
      obtain ⟨T9, C9, hT9, hr9', B9⟩ := hrow
      clear hr9 hN7
      have I9 := I8.ext hT9
      refine ok_bnd.2 (ok_mono (waiting_spec C9.th I9 FB.1 x.2.1 1) ?_)
      rintro ⟨r13, e13⟩ w10 ⟨T10, C10, hr13, he13, hT10⟩
      simp only at hr13 he13
      subst he13
      have B10 := B9.step C10
      have C10' := C9.trans C10
      have I10 := I9.ext hT10
      have hr9'' := hr9'.mono (T' := T10) fun b L _ hb => hT10 _ _ hb
      refine ok_ldH B10 (x := x.1) (by rfl) ?_
      have fin : ∃ T' S' L', Tr en w (fun _ => none) w10 T' ∧ SInv T' sb S' L' (A.call x).2 := ⟨T10, S8, L8, C10', I10⟩
      by_cases hk : x.1 ≠ 5
      · exact ok_true (by simpa using hk) (ok_ret.2 ⟨rfl, fin⟩)
      have hk : x.1 = 5 := Classical.not_not.1 hk
      refine ok_false (by simp [hk]) ?_
      dsimp only
      have hcall : A.call x = A.signal x.2.1 := by
        unfold St.call
        rw [if_neg (by omega), if_neg (by omega), if_neg (by omega), if_neg (by omega), if_pos hk]
      rw [hcall] at hr13 I10 fin FB ⊢
      generalize x.2.1 = a at *
      cases hs : A.isSem a with
      | false =>
        obtain ⟨h1, h2⟩ := signals_none hs
        rw [waiting_no hs, waiting_no h2, h1]
        exact ok_true (by simp) (ok_false (by simp) (ok_ret.2 ⟨rfl, fin⟩))
      | true =>
        have hi := isSem_iff.1 hs
        obtain ⟨n, rfl⟩ : ∃ n : Nat, a = n := ⟨a.toNat, by omega⟩
        have ew := waiting_of hs
        rw [ew] at hr9'' ⊢
        refine ok_false (by simp) ?_
        rcases hq : (A.sm n).2 with _ | ⟨q, rest⟩
        · obtain ⟨h1, h2, h3⟩ := signals_free F (n := n) (by omega) (by omega) hq
          rw [hq] at hr9''
          have hex := F.1.exc n (by omega) (by omega)
          have ew2 := waiting_of h1
          rw [ew2, h2] at hr13
          rw [ew2, h2]
          have l9 : r9.len = 0 := hr9''.len
          have l13 : r13.len = 0 := hr13.len
          refine ok_true (by rw [l9]; rfl) ?_
          refine ok_false ?_ (ok_ret.2 ⟨rfl, fin⟩)
          rw [l13]
          simp only
          rcases h3 with ⟨h4, h5⟩ | ⟨h4, h5⟩
          · rw [h4, h5, wI (by omega)]; simp
          · rw [h4, h5]; simp
        · obtain ⟨h1, h2, h3, h4, h5, h6, h7⟩ := signals_wait F (n := n) (by omega) (by omega) hq
          rw [hq] at hr9''
          have hr9c : Rw T10 (Ob.ints (.out 0)) r9 ((q : Int) :: ns rest) := hr9''
          have ew2 := waiting_of h1
          rw [ew2, h4] at hr13
          rw [ew2, h4]
          have l9 : r9.len = rest.length + 1 := by rw [hr9c.len]; simp [ns]
          have hf := FB.1.few
          have hrest : rest.length ≤ 1000000 := by
            have := F.1.wl (i := n) (by omega) (by omega)
            have := F.1.few
            rw [hq] at *
            simp only [List.length_cons] at *
            omega
          refine ok_false (by rw [l9]; simp only [beq_eq_false_iff_ne, ne_eq]; omega) ?_
          refine ok_slc1 (by omega) hr9c.le ?_
          refine ok_same C10' (Rw.rd hr13) (rd_tail hr9c) (by rw [ns_length]; simp only; omega) fun w11 C11 => ?_
          refine ok_rdE C11 (Rw.rd hr9c) (i := 0) (v := (q : Int)) rfl rfl ?_
          refine ok_standing C11 I10 hf.1 fun w12 C12 => ?_
          rw [stand_of h5 h6, h2, h3]
          refine ok_false ?_ (ok_ret.2 ⟨rfl, T10, S8, L8, C12, I10⟩)
          simp only [decide_true]
          rcases h7 with h7 | h7 <;> rw [h7] <;> simp
    · rintro r w4 ⟨rfl, T4, S4, L4, C4, I4⟩
      have hcm := call_made A x
      exact ok_ret.2 ⟨l.length - (i + 1), by omega, i + 1, (A.call x).2, T4, S4, L4, by rw [wI (by omega)]; simp, by omega, rfl, C4, I4, F.call x, by omega, by omega⟩
  · exact ok_false (by rw [H.len]; simpa using hlt) (ok_ret.2 ⟨rfl, bel C⟩)
theorem signals_is {x0 : Sl} (h : Held w (.sl shAct) x0) (W : World) (hW : W = w := by rfl) : Ok (f4_palaverlaw26_SchedSignals x0) W fun r w' => r = true ∧ Below W.heap.size W w' := by
  subst hW
  obtain ⟨l, H⟩ := held_acts h
  exact signals_true H
end
end Go.Proofs.Ytkkdeljladihpaa

/-
  SchedFair.
-/
namespace Go.Proofs.Ytkkdeljladihpaa
set_option linter.unusedVariables false
open Go.Sh Go.RowKit
set_option maxRecDepth 100000
/-- Whoever runs yields: the queue turns. -/
theorem fair_step {A : St} (F : A.Fit) (h1 : 1 ≤ A.active) {p : Nat} (hp : (A.pr A.active).prio = p) {n : Nat} {r : List Nat} (hq : A.queues p ++ [A.active] = n :: r) :
    A.yield.1 = 0 ∧ A.yield.2.active = n ∧ A.yield.2.queues p = r ∧ (A.yield.2.pr n).prio = p := by
  have G := F.1
  have ha := G.rn.act
  have hpa := G.pr_ok h1 ha
  have hhi := F.2
  unfold St.Hi at hhi
  rw [if_neg (by omega)] at hhi
  have hpt : (A.pr A.active).prio.toNat = p := by omega
  unfold St.yield
  rw [if_neg (by omega)]
  have FC := G.off.ready (A := A.on 0) h1 ha
  have hCq : ∀ y, ((A.on 0).ready A.active).queues y = if y = p then n :: r else A.queues y := by
    intro y
    show (if y = (A.pr A.active).prio.toNat then A.queues (A.pr A.active).prio.toNat ++ [A.active] else A.queues y) = _
    rw [hpt, hq]
  have hCa : ((A.on 0).ready A.active).active = 0 := rfl
  generalize (A.on 0).ready A.active = C at FC hCq hCa
  have hq' : C.queues p = n :: r := by rw [hCq, if_pos rfl]
  have hhigh : C.highest = p := by
    have l1 : p ≤ C.highest := FC.le_high (by rw [hq']; simp)
    have l2 : C.highest ≤ p := highN_le 16 fun y _ _ hy => by
      rw [hCq] at hy
      split at hy
      · omega
      · have := G.le_high hy; omega
    omega
  have hrun : C.runs = C.takes p := by
    unfold St.runs
    rw [hhigh, if_neg (by omega), if_pos (by omega)]
  have hn := FC.que p n (by rw [hq']; exact List.mem_cons_self)
  simp only
  rw [hrun]
  refine ⟨trivial, takes_act hq', by rw [takes_q hq', if_pos rfl], ?_⟩
  rw [takes_pr hq' hn.1 hn.2.1 hn.1, if_pos rfl]
  exact hn.2.2.2.1
section
variable {w0 w : World} {T0 T : Hp} {sb : Nat} {S : Sk} {L : List Sm} {A : St} {α β : Type} {Q : α → World → Prop}
theorem readies_len (F : FitX A 0) : A.readies.length ≤ 1000000 := by
  have hf := F.few
  have key : ∀ k, (St.readyN A.queues k).length ≤ 4096 * k := by
    intro k
    induction k with
    | zero => exact Nat.le_refl _
    | succ k ih => unfold St.readyN; rw [List.length_append]; have := F.ql (k + 1); omega
  have := key 16
  unfold St.readies; omega
theorem fair_true {s : Sl} {l : List Act} (H : Acts w s l) : Ok (f5_palaverlaw26_SchedFair s) w fun r w' => r = true ∧ Below w.heap.size w w' := by
  unfold f5_palaverlaw26_SchedFair
  refine ok_bnd.2 (ok_mono (works_spec w) ?_)
  rintro _ w1 ⟨rfl, hb1⟩
  have C0 : Tr en w (fun _ => none) w1 (fun _ => none) := (Tr.refl fun b o h => by cases h).call hb1
  have hmx := H.max
  refine new_spec C0 fun sb w2 T2 _ _ C2 I2 => ok_false rfl ?_
  refine ok_loopN (fun m (i' : Int) w' => ∃ (i : Nat) (A : St) (T : Hp) (S : Sk) (L : List Sm), i' = i ∧ i ≤ l.length ∧ m = l.length - i ∧ Tr en w (fun _ => none) w' T ∧ SInv T sb S L A ∧ A.Fit ∧ 0 ≤ A.made ∧ A.made ≤ i) ?_ l.length 0 w2 ⟨0, _, T2, _, _, rfl, Nat.zero_le _, by omega, C2, I2, ⟨fit_new, hi_new⟩, by rw [new_made]; exact Int.le_refl _, by rw [new_made]; exact Int.le_refl _⟩
  clear C2 I2 C0 hb1
  rintro m i' w3 ⟨i, A, T, S, L, rfl, hi, rfl, C, I, F, hm0, hm1⟩
  by_cases hlt : i < l.length
  · refine ok_true (by rw [H.len]; simpa using hlt) ?_
    have hx : l[i]? = some l[i] := List.getElem?_eq_getElem hlt
    generalize l[i] = x at hx
    refine ok_act H (bel C) hx rfl ?_
    refine ok_scall C (call_spec C.th I F.1 ⟨hm0, by omega⟩ x) fun r w4 T4 C4 h => ?_
    obtain ⟨rfl, S4, L4, I4⟩ := h
    have hcm := call_made A x
    exact ok_ret.2 ⟨l.length - (i + 1), by omega, i + 1, (A.call x).2, T4, S4, L4, by rw [wI (by omega)]; simp, by omega, rfl, C4, I4, F.call x, by omega, by omega⟩
  · refine ok_false (by rw [H.len]; simpa using hlt) ?_
    refine ok_bnd.2 (ok_mono (Q := fun r w' => r = true ∧ Below w.heap.size w w') ?_ (fun r w' h => ok_ret.2 h))
    clear hlt hi hm0 hm1 H hmx
    refine active_spec C I ?_
    by_cases h0 : A.active = 0
    · exact ok_true (by simp [h0]) (ok_ret.2 ⟨rfl, bel C⟩)
    refine ok_false (by simpa using h0) ?_
    have G := F.1
    have hf := G.few
    have hact := G.rn.act
    have h1 : 1 ≤ A.active := by omega
    refine ok_standing C I hf.1 fun w4 C4 => ?_
    rw [stand_of h1 hact]
    have hpa := G.pr_ok h1 hact
    obtain ⟨p, hp⟩ : ∃ p : Nat, (A.pr A.active).prio = p := ⟨(A.pr A.active).prio.toNat, by omega⟩
    refine ok_scall C4 (readies_spec C4.th I G 0) fun r9 w5 T5 C5 h => ?_
    obtain ⟨hr, hT⟩ := h
    have I5 := I.extO (T' := T5) fun b p hb hne => hT b p hb (hne 0)
    have hrl : r9.len = A.readies.length := by rw [hr.len, ns_length]
    have hq16 := readies_len G
    have hfil := G.filter_readies (p := p) (by omega) (by omega)
    refine ok_loopN (fun m (st : Sl × Int) w' => ∃ (k : Nat) (T : Hp), st.2 = k ∧ k ≤ A.readies.length ∧ m = A.readies.length - k ∧ Tr en w (fun _ => none) w' T ∧ SInv T sb S L A ∧ Rw T (Ob.ints (.out 0)) r9 (ns A.readies) ∧ Rw T (Ob.ints (.out 1)) st.1 (ns ((A.readies.take k).filter fun n => (A.pr n).prio = p))) ?_ A.readies.length _ w5 ⟨0, T5, rfl, Nat.zero_le _, by omega, C5, I5, hr, rw_nil _ _⟩
    clear C5 I5 hT hr C4 C I
    rintro m ⟨s1, k'⟩ w6 ⟨k, T6, hk, hkl, rfl, C6, I6, hr, hw⟩
    simp only at hk hw
    subst hk
    dsimp only
    by_cases hklt : k < A.readies.length
    · refine ok_true (by rw [hrl]; simpa using hklt) ?_
      have hg := ns_get hklt
      have hmem := G.mem_readies (List.getElem_mem hklt)
      refine ok_rdE C6 (Rw.rd hr) hg rfl ?_
      refine ok_standing C6 I6 hf.1 fun w7 C7 => ?_
      rw [stand_of hmem.1 hmem.2.1, hp]
      have htk : A.readies.take (k + 1) = A.readies.take k ++ [A.readies[k]] := List.take_succ_eq_append_getElem hklt
      refine ok_bnd.2 ?_
      by_cases hpe : (A.pr A.readies[k]).prio = p
      · refine ok_true (by simpa using hpe) ?_
        refine ok_rdE C7 (Rw.rd hr) hg rfl ?_
        refine ok_new1 C7 row31 (by decide) (F := ((A.readies[k] : Nat) : Int)) rfl fun s8 w8 C8 K => ?_
        have hwl : ((A.readies.take k).filter fun n => (A.pr n).prio = p).length ≤ 1000000 := by
          have := List.length_filter_le (fun n => decide ((A.pr n).prio = p)) (A.readies.take k)
          rw [List.length_take] at this; omega
        refine ok_appI C8 hw K (by rw [ns_length]; simp only [List.length_singleton]; omega) fun r w9 T9 C9 hr9 hT9 => ?_
        have I9 := I6.extO (T' := T9) fun b p hb hne => hT9 b p hb (hne 1)
        have hr' := hr.mono (T' := T9) fun b L _ hb => hT9 _ _ hb (by simp)
        refine ok_ret.2 (ok_ret.2 ⟨A.readies.length - (k + 1), by omega, k + 1, T9, by show IntKind.wrap .i64 _ = _; rw [wI (by omega)]; simp, by omega, rfl, C9, I9, hr', ?_⟩)
        rw [htk, List.filter_append, List.filter_cons_of_pos (by simpa using hpe), List.filter_nil, ns_append]
        exact hr9
      · refine ok_false (by simpa using hpe) (ok_ret.2 (ok_ret.2 ⟨A.readies.length - (k + 1), by omega, k + 1, T6, by show IntKind.wrap .i64 _ = _; rw [wI (by omega)]; simp, by omega, rfl, C7, I6, hr, ?_⟩))
        rw [htk, List.filter_append, List.filter_cons_of_neg (by simpa using hpe), List.filter_nil, List.append_nil]
        exact hw
    · refine ok_false (by rw [hrl]; simpa using hklt) ?_
      have hke : k = A.readies.length := by omega
      rw [hke, List.take_length, hfil] at hw
      refine ok_bnd.2 (ok_mono (Q := fun r w' => r = true ∧ Below w.heap.size w w') ?_ (fun r w' h => ok_ret.2 h))
      generalize hW : A.queues p = want at hw
      have hwl : want.length ≤ 1000000 := by rw [← hW]; have := G.ql p; omega
      have hsl : s1.len = want.length := by rw [hw.len, ns_length]
      -- the row of those that are wanted is laid aside
      have hst : ∃ T7, Tr en w (fun _ => none) w6 T7 ∧ SInv T7 sb S L A ∧ ∀ (j : Nat) (v : Nat), want[j]? = some v → ∃ fb M, s1.a = some ⟨fb, 0, none⟩ ∧ Hid w w6 T7 fb (en (.ints (.out 1) M)) ∧ M[j]? = some (v : Int) := by
        rcases hw.at_ with ⟨g1, g2⟩ | ⟨fb, M, g1, g2, g3, g4⟩
        · refine ⟨T6, C6, I6, fun j v hv => ?_⟩
          have := hw.le
          have h0 : want = [] := List.eq_nil_of_length_eq_zero (by omega)
          rw [h0] at hv; simp at hv
        · have hnew : w.heap.size ≤ fb := by
            rcases C6.new fb (by rw [g2]; simp) with h | h
            · exact absurd rfl h
            · exact h
          obtain ⟨C7, D7⟩ := C6.stash (T := fun b => if b = fb then none else T6 b) (c := fb) (fun b p hb => by
            split at hb
            · cases hb
            · exact hb) (by simp) g2 hnew
          refine ⟨_, C7, I6.extO fun b p hb hne => ?_, fun j v hv => ⟨fb, M, g1, D7, ?_⟩⟩
          · show (if b = fb then none else T6 b) = some p
            rw [if_neg]
            · exact hb
            · rintro rfl
              rw [g2] at hb
              simp only [Option.some.injEq] at hb
              exact hne 1 M hb.symm
          · have hj : j < want.length := by
              rcases Nat.lt_or_ge j want.length with h | h
              · exact h
              · rw [List.getElem?_eq_none h] at hv; cases hv
            rw [← List.getElem?_take_of_lt (show j < (ns want).length by rw [ns_length]; exact hj), g4]
            unfold ns; rw [List.getElem?_map, hv]; rfl
      obtain ⟨T7, C7, I7, hD7⟩ := hst
      refine ok_loopN (fun m (st : Int) w' => ∃ (k : Nat) (B : St) (T : Hp) (S : Sk) (L : List Sm), st = k ∧ k ≤ want.length ∧ m = want.length - k ∧ Tr en w (fun _ => none) w' T ∧ SInv T sb S L B ∧ B.Fit ∧ (A.active :: want)[k]? = some B.active ∧ 1 ≤ B.active ∧ B.queues p = want.drop k ++ (A.active :: want).take k ∧ (B.pr B.active).prio = p ∧ ∀ (j : Nat) (v : Nat), want[j]? = some v → ∃ fb M, s1.a = some ⟨fb, 0, none⟩ ∧ Hid w w' T fb (en (.ints (.out 1) M)) ∧ M[j]? = some (v : Int)) ?_ want.length 0 w6 ⟨0, A, T7, S, L, rfl, Nat.zero_le _, by omega, C7, I7, F, rfl, h1, by rw [hW]; simp, hp, hD7⟩
      clear C7 I7 hD7 C6 I6 hr hw
      rintro m k' w7 ⟨k, B, T7, S7, L7, rfl, hkl, rfl, C7, I7, FB, hBa, hB1, hBq, hBp, hD⟩
      have hkB : k < (A.active :: want).length := by simp; omega
      have hBa' : (A.active :: want)[k] = B.active := by rw [List.getElem?_eq_getElem hkB] at hBa; simpa using hBa
      have hrot : B.queues p ++ [B.active] = want.drop k ++ (A.active :: want).take (k + 1) := by
        rw [hBq, List.append_assoc, List.take_succ_eq_append_getElem hkB, hBa']
      by_cases hklt : k < want.length
      · refine ok_true (by rw [hsl]; simpa using hklt) ?_
        have hdr : want.drop k = want[k] :: want.drop (k + 1) := List.drop_eq_getElem_cons hklt
        rw [hdr, List.cons_append] at hrot
        obtain ⟨y1, y2, y3, y4⟩ := fair_step FB hB1 hBp hrot
        refine ok_bnd.2 (ok_mono (yield_spec C7.th I7 FB.1) ?_)
        rintro r w8 ⟨T8, C8, rfl, S8, L8, I8⟩
        have C8' := C7.trans C8
        have FB8 := FB.1.yield FB.2
        rw [y1]
        have hD8 : ∀ (j : Nat) (v : Nat), want[j]? = some v → ∃ fb M, s1.a = some ⟨fb, 0, none⟩ ∧ Hid w w8 T8 fb (en (.ints (.out 1) M)) ∧ M[j]? = some (v : Int) := fun j v hv => by
          obtain ⟨fb, M, g1, g2, g3⟩ := hD j v hv
          exact ⟨fb, M, g1, g2.step C8, g3⟩
        have hwk : want[k]? = some want[k] := List.getElem?_eq_getElem hklt
        refine ok_bnd.2 (ok_mono (Q := fun r w' => r = false ∧ ∃ C : Tr en w8 T8 w' T8, True) ?_ ?_)
        · refine ok_tord (Tr.refl C8.th) fun o w9 C9 => ok_false (by simp) ?_
          obtain ⟨fb, M, g1, g2, g3⟩ := hD8 k _ hwk
          have g2' := g2.step C9
          refine ok_ixN g1 (by omega) (by omega) ?_
          rw [Int.toNat_natCast]
          refine ok_ldH0 g2' (elt (o := .out 1) g3) ?_
          refine active_spec C9 I8 ?_
          refine ok_bnd.2 (ok_bnd.2 (ok_chk g2'.blk (elt (o := .out 1) g3) (ok_ret.2 (ok_ret.2 ⟨?_, C9, trivial⟩))))
          rw [y2]; simp
        · rintro _ w9 ⟨rfl, C9, _⟩
          refine ok_false rfl (ok_ret.2 ⟨want.length - (k + 1), by omega, k + 1, B.yield.2, T8, S8, L8, by rw [wI (by omega)]; simp, by omega, rfl, C8'.trans C9, I8, FB8, ?_, ?_, ?_, ?_, fun j v hv => ?_⟩)
          · rw [List.getElem?_cons_succ, y2]; exact hwk
          · rw [y2]
            have := G.que p want[k] (by rw [hW]; exact List.getElem_mem hklt)
            exact this.1
          · exact y3
          · rw [y2]; exact y4
          · obtain ⟨fb, M, g1, g2, g3⟩ := hD8 j v hv
            exact ⟨fb, M, g1, g2.step C9, g3⟩
      · refine ok_false (by rw [hsl]; simpa using hklt) ?_
        have hke : k = want.length := by omega
        rw [hke, List.drop_length, List.nil_append, List.take_of_length_le (by simp)] at hrot
        obtain ⟨y1, y2, y3, y4⟩ := fair_step FB hB1 hBp hrot
        refine ok_bnd.2 (ok_mono (Q := fun r w' => r = true ∧ Below w.heap.size w w') ?_ (fun r w' h => ok_ret.2 h))
        refine ok_scall C7 (yield_spec C7.th I7 FB.1) fun r w8 T8 C8 h => ?_
        obtain ⟨rfl, S8, L8, I8⟩ := h
        rw [y1]
        refine ok_bnd.2 (ok_true rfl ?_)
        refine active_spec C8 I8 (ok_ret.2 (ok_ret.2 ⟨?_, bel C8⟩))
        rw [y2]; simp
theorem fair_is {x0 : Sl} (h : Held w (.sl shAct) x0) (W : World) (hW : W = w := by rfl) : Ok (f5_palaverlaw26_SchedFair x0) W fun r w' => r = true ∧ Below W.heap.size W w' := by
  subst hW
  obtain ⟨l, H⟩ := held_acts h
  exact fair_true H
end
end Go.Proofs.Ytkkdeljladihpaa
