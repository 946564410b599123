/-
  Parts of the proof: ZXB, ZXC, ZXD. It states what the functions do; no further condition.
-/
import Derived.Test.YtkkdeljladihpaaGreatZVG
import Derived.Test.YtkkdeljladihpaaGreatZPB
import Derived.Test.YtkkdeljladihpaaGreatZUE
set_option linter.unusedVariables false
set_option linter.unusedSimpArgs false
/-
  The package's scheduler and the document's are alike: what that says, and the single steps. No program in sight.
-/
namespace Go.Proofs.YtkkdeljladihpaaGreat
namespace R
/-- Timers: the package's, as they were made, are the document's. -/
def tsR (t : Tm) : Int × Int := (t.time, t.sem)
def TmS (l : List YtkkdeljladihpaaGreat.Tm) (made : Int) (r : List Tm) : Prop := ∃ u v : List YtkkdeljladihpaaGreat.Tm, YtkkdeljladihpaaGreat.St.Vw l u ∧ v.Perm u ∧ v.Pairwise (fun a b => a.made < b.made) ∧ (∀ t ∈ v, t.made ≤ made) ∧ v.map YtkkdeljladihpaaGreat.St.ts = r.map tsR
/-- Alike, but for one process (0: all). -/
structure SimX (A : YtkkdeljladihpaaGreat.St) (B : St) (x : Nat) : Prop where
  now : B.now = A.now
  events : B.events = A.events
  exc : B.excess = A.sems.map Prod.fst
  len : B.procs.length = A.procs.length
  prio : ∀ n, 1 ≤ n → n ≤ A.procs.length → (B.pr n).prio = (A.pr n).prio
  std : ∀ n, 1 ≤ n → n ≤ A.procs.length → n ≠ x → (B.pr n).standing = (A.pr n).standing ∧ (B.pr n).sem = (A.pr n).sem
  que : ∀ p, (A.queues p).Pairwise fun a b => (B.pr a).key < (B.pr b).key
  wqs : ∀ i, 1 ≤ i → i ≤ A.sems.length → (A.sm i).2.Pairwise fun a b => (B.pr a).key < (B.pr b).key
  qk : ∀ p n, n ∈ A.queues p → B.first ≤ (B.pr n).key ∧ (B.pr n).key ≤ B.last
  wk : ∀ i n, 1 ≤ i → i ≤ A.sems.length → n ∈ (A.sm i).2 → (B.pr n).key ≤ B.last
  tms : TmS A.timers A.made B.timers
  fl : B.first ≤ 0 ∧ 0 ≤ B.last
theorem pr_setR {B : St} {n m : Nat} {r : Pr} (h1 : 1 ≤ n) (h2 : n ≤ B.procs.length) (hm : 1 ≤ m) : (B.setPr n r).pr m = if m = n then r else B.pr m := by
  rw [pr_def _ hm, pr_def _ hm]
  unfold St.setPr
  simp only
  rw [List.getD_eq_getElem?_getD, List.getD_eq_getElem?_getD]
  by_cases e : m = n
  · subst e
    rw [if_pos rfl, List.getElem?_set_self (by omega)]; rfl
  · rw [if_neg e, List.getElem?_set_ne (by omega)]
theorem pr_setR_ne {B : St} {n m : Nat} {r : Pr} (h1 : 1 ≤ n) (hm : 1 ≤ m) (e : m ≠ n) : (B.setPr n r).pr m = B.pr m := by
  rw [pr_def _ hm, pr_def _ hm]
  unfold St.setPr
  simp only
  rw [List.getD_eq_getElem?_getD, List.getD_eq_getElem?_getD, List.getElem?_set_ne (by omega)]
theorem pr_setR_eq {B : St} {n : Nat} {r : Pr} (h1 : 1 ≤ n) (h2 : n ≤ B.procs.length) : (B.setPr n r).pr n = r := by rw [pr_setR h1 h2 h1, if_pos rfl]
theorem setR_self {B : St} {n : Nat} (h1 : 1 ≤ n) (h2 : n ≤ B.procs.length) {r : Pr} (h : r = B.pr n) : B.setPr n r = B := by
  subst h
  have hx := pr_get h1 h2
  rw [List.getElem?_eq_getElem (by omega), Option.some.injEq] at hx
  unfold St.setPr
  rw [← hx, List.set_getElem_self]
theorem setE_self {B : St} {n : Nat} (h1 : 1 ≤ n) (h2 : n ≤ B.excess.length) {e : Int} (h : e = B.ex n) : B.setE n e = B := by
  subst h
  unfold St.setE St.ex
  rw [List.getD_eq_getElem?_getD, List.getElem?_eq_getElem (by omega)]
  simp only [Option.getD_some]
  rw [List.set_getElem_self]
section
variable {A : YtkkdeljladihpaaGreat.St} {B : St} {x : Nat}
theorem SimX.ex (M : SimX A B x) (i : Nat) : B.ex i = (A.sm i).1 := by
  unfold St.ex YtkkdeljladihpaaGreat.St.sm
  rw [M.exc, List.getD_eq_getElem?_getD, List.getD_eq_getElem?_getD, List.getElem?_map]
  cases A.sems[i - 1]? <;> rfl
theorem SimX.elen (M : SimX A B x) : B.excess.length = A.sems.length := by rw [M.exc, List.length_map]
theorem SimX.isSem (M : SimX A B x) (n : Int) : B.isSem n = A.isSem n := by unfold St.isSem YtkkdeljladihpaaGreat.St.isSem; rw [M.elen]
/-- The one set aside is turned, in both. -/
theorem SimX.set (M : SimX A B x) (F : FitX A x) (h1 : 1 ≤ x) (h2 : x ≤ A.procs.length) {r : YtkkdeljladihpaaGreat.Pr} {r' : Pr} (hp : r'.prio = r.prio) : SimX (A.setPr x r) (B.setPr x r') x := by
  have e : ∀ m, 1 ≤ m → m ≠ x → (A.setPr x r).pr m = A.pr m := fun m hm hne => YtkkdeljladihpaaGreat.St.pr_setPr_ne h1 hm hne
  have e' : ∀ m, 1 ≤ m → m ≠ x → (B.setPr x r').pr m = B.pr m := fun m hm hne => pr_setR_ne h1 hm hne
  have el : (A.setPr x r).procs.length = A.procs.length := YtkkdeljladihpaaGreat.St.setPr_len _ _ _
  have el' : (B.setPr x r').procs.length = B.procs.length := List.length_set
  refine ⟨M.now, M.events, M.exc, by rw [el, el', M.len], ?_, ?_, ?_, ?_, ?_, ?_, M.tms, M.fl⟩
  · intro n g1 g2
    rw [el] at g2
    by_cases hn : n = x
    · subst hn
      rw [pr_setR_eq h1 (by rw [M.len]; exact h2), YtkkdeljladihpaaGreat.St.pr_setPr_eq h1 h2, hp]
    · rw [e n g1 hn, e' n g1 hn]; exact M.prio n g1 g2
  · intro n g1 g2 g3
    rw [el] at g2
    rw [e n g1 g3, e' n g1 g3]; exact M.std n g1 g2 g3
  · intro p
    refine List.Pairwise.imp_of_mem ?_ (M.que p)
    intro a b ha hb h
    have fa := F.que p a ha; have fb := F.que p b hb
    rw [e' a fa.1 fa.2.2.2.2, e' b fb.1 fb.2.2.2.2]; exact h
  · intro i g1 g2
    refine List.Pairwise.imp_of_mem ?_ (M.wqs i g1 g2)
    intro a b ha hb h
    have fa := F.wq i a g1 g2 ha; have fb := F.wq i b g1 g2 hb
    rw [e' a fa.1 fa.2.2.2.2, e' b fb.1 fb.2.2.2.2]; exact h
  · intro p n hn
    have fn := F.que p n hn
    rw [e' n fn.1 fn.2.2.2.2]; exact M.qk p n hn
  · intro i n g1 g2 hn
    have fn := F.wq i n g1 g2 hn
    rw [e' n fn.1 fn.2.2.2.2]; exact M.wk i n g1 g2 hn
theorem SimX.open (M : SimX A B 0) (x : Nat) : SimX A B x := { M with std := fun n g1 g2 _ => M.std n g1 g2 (by omega) }
theorem SimX.close (M : SimX A B x) (h : 1 ≤ x → x ≤ A.procs.length → (B.pr x).standing = (A.pr x).standing ∧ (B.pr x).sem = (A.pr x).sem) : SimX A B 0 := by
  refine ⟨M.now, M.events, M.exc, M.len, M.prio, fun n g1 g2 _ => ?_, M.que, M.wqs, M.qk, M.wk, M.tms, M.fl⟩
  by_cases e : n = x
  · rw [e] at g1 g2 ⊢; exact h g1 g2
  · exact M.std n g1 g2 e
theorem SimX.behind (M : SimX A B x) : SimX A B.behind x :=
  ⟨M.now, M.events, M.exc, M.len, M.prio, M.std, M.que, M.wqs, fun p n hn => by
    have := M.qk p n hn
    show B.first ≤ (B.pr n).key ∧ (B.pr n).key ≤ B.last + 1
    omega, fun i n g1 g2 hn => by
    have := M.wk i n g1 g2 hn
    show (B.pr n).key ≤ B.last + 1
    omega, M.tms, by have := M.fl; show B.first ≤ 0 ∧ 0 ≤ B.last + 1; omega⟩
theorem SimX.ahead (M : SimX A B x) : SimX A B.ahead x :=
  ⟨M.now, M.events, M.exc, M.len, M.prio, M.std, M.que, M.wqs, fun p n hn => by
    have := M.qk p n hn
    show B.first - 1 ≤ (B.pr n).key ∧ (B.pr n).key ≤ B.last
    omega, M.wk, M.tms, by have := M.fl; show B.first - 1 ≤ 0 ∧ 0 ≤ B.last; omega⟩
theorem SimX.on (M : SimX A B x) (n : Nat) : SimX (A.on n) B x := ⟨M.now, M.events, M.exc, M.len, M.prio, M.std, M.que, M.wqs, M.qk, M.wk, M.tms, M.fl⟩
theorem SimX.setQ (M : SimX A B x) {p : Nat} {l : List Nat} (hl : l.Pairwise fun a b => (B.pr a).key < (B.pr b).key) (hk : ∀ n ∈ l, B.first ≤ (B.pr n).key ∧ (B.pr n).key ≤ B.last) : SimX (A.setQ p l) B x := by
  refine ⟨M.now, M.events, M.exc, M.len, M.prio, M.std, fun q => ?_, M.wqs, fun q n hn => ?_, M.wk, M.tms, M.fl⟩
  · rw [YtkkdeljladihpaaGreat.St.q_setQ]
    split
    · exact hl
    · exact M.que q
  · rw [YtkkdeljladihpaaGreat.St.q_setQ] at hn
    split at hn
    · exact hk n hn
    · exact M.qk q n hn
theorem SimX.setSm (M : SimX A B x) {i : Nat} (i1 : 1 ≤ i) (i2 : i ≤ A.sems.length) {e : Int} {l : List Nat} (hl : l.Pairwise fun a b => (B.pr a).key < (B.pr b).key) (hk : ∀ n ∈ l, (B.pr n).key ≤ B.last) : SimX (A.setSm i (e, l)) (B.setE i e) x := by
  have el : (A.setSm i (e, l)).sems.length = A.sems.length := YtkkdeljladihpaaGreat.St.setSm_len _ _ _
  refine ⟨M.now, M.events, ?_, M.len, M.prio, M.std, M.que, fun k g1 g2 => ?_, M.qk, fun k n g1 g2 hn => ?_, M.tms, M.fl⟩
  · show B.excess.set (i - 1) e = (A.sems.set (i - 1) (e, l)).map Prod.fst
    rw [M.exc, List.map_set]
  · rw [el] at g2
    rw [YtkkdeljladihpaaGreat.St.sm_setSm i1 i2 g1]
    split
    · exact hl
    · exact M.wqs k g1 g2
  · rw [el] at g2
    rw [YtkkdeljladihpaaGreat.St.sm_setSm i1 i2 g1] at hn
    split at hn
    · exact hk n hn
    · exact M.wk k n g1 g2 hn
theorem SimX.setQm (M : SimX A B x) {i : Nat} (i1 : 1 ≤ i) (i2 : i ≤ A.sems.length) {l : List Nat} (hl : l.Pairwise fun a b => (B.pr a).key < (B.pr b).key) (hk : ∀ n ∈ l, (B.pr n).key ≤ B.last) : SimX (A.setSm i ((A.sm i).1, l)) B x := by
  have := M.setSm i1 i2 (e := (A.sm i).1) hl hk
  rwa [setE_self i1 (by rw [M.elen]; exact i2) (M.ex i).symm] at this
/-- Who is active. -/
theorem actL_spec : ∀ (l : List Pr) (i : Nat), (actL i l = 0 ∧ ∀ p ∈ l, p.standing ≠ 2) ∨ (∃ k p, actL i l = i + k + 1 ∧ l[k]? = some p ∧ p.standing = 2)
  | [], i => .inl ⟨rfl, by simp⟩
  | p :: r, i => by
    unfold actL
    by_cases h : p.standing = 2
    · rw [if_pos h]; exact .inr ⟨0, p, rfl, rfl, h⟩
    · rw [if_neg h]
      rcases actL_spec r (i + 1) with ⟨h1, h2⟩ | ⟨k, q, h1, h2, h3⟩
      · refine .inl ⟨h1, fun q hq => ?_⟩
        rcases List.mem_cons.1 hq with rfl | hq
        · exact h
        · exact h2 q hq
      · exact .inr ⟨k + 1, q, by omega, h2, h3⟩
theorem SimX.active (M : SimX A B 0) (F : FitX A 0) : B.active = A.active := by
  have hst : ∀ n, 1 ≤ n → n ≤ A.procs.length → (B.pr n).standing = (A.pr n).standing := fun n g1 g2 => (M.std n g1 g2 (by omega)).1
  unfold St.active
  rcases actL_spec B.procs 0 with ⟨h1, h2⟩ | ⟨k, p, h1, h2, h3⟩
  · rw [h1]
    rcases F.act with h | ⟨ha, hb, hc⟩
    · exact h.symm
    · exfalso
      have h4 := pr_get (A := B) (n := A.active) (by omega) (by rw [M.len]; exact ha)
      have := h2 _ (List.mem_of_getElem? h4)
      rw [hst _ (by omega) ha] at this
      exact this hb
  · have hk : k < B.procs.length := by
      rcases Nat.lt_or_ge k B.procs.length with h | h
      · exact h
      · rw [List.getElem?_eq_none h] at h2; cases h2
    rw [h1]
    have h4 := pr_get (A := B) (n := k + 1) (by omega) (by omega)
    rw [show k + 1 - 1 = k from rfl, h2, Option.some.injEq] at h4
    rw [h4, hst _ (by omega) (by rw [← M.len]; omega)] at h3
    have := F.only (k + 1) (by omega) (by rw [← M.len]; omega) (by omega) h3
    omega
/-- The queues are what the keys tell. -/
theorem SimX.quQ (M : SimX A B 0) (F : FitX A 0) {p : Nat} (hp : 1 ≤ p) : Qu B 1 p 0 (A.queues p) := by
  refine ⟨fun n => ⟨fun hn => ?_, fun ⟨g1, g2, g3⟩ => ?_⟩, M.que p⟩
  · obtain ⟨h1, h2, h3, h4, _⟩ := F.que p n hn
    have hs := M.std n h1 h2 (by omega)
    refine ⟨h1, by rw [M.len]; exact h2, by rw [hs.1, h3], .inr (by rw [M.prio n h1 h2, h4]), ?_⟩
    rw [hs.2]; exact F.nwt n h1 h2 (by omega) (by omega)
  · rw [M.len] at g2
    have hs := M.std n g1 g2 (by omega)
    have h1 := g3.1
    rw [hs.1] at h1
    have h2 := F.inq n g1 g2 (by omega) h1
    rcases g3.2.1 with h | h
    · omega
    · rw [M.prio n g1 g2] at h
      rw [h, Int.toNat_natCast] at h2
      exact h2
theorem SimX.quW (M : SimX A B 0) (F : FitX A 0) {i : Nat} (i1 : 1 ≤ i) (i2 : i ≤ A.sems.length) : Qu B 3 0 i (A.sm i).2 := by
  refine ⟨fun n => ⟨fun hn => ?_, fun ⟨g1, g2, g3⟩ => ?_⟩, M.wqs i i1 i2⟩
  · obtain ⟨h1, h2, h3, h4, _⟩ := F.wq i n i1 i2 hn
    have hs := M.std n h1 h2 (by omega)
    exact ⟨h1, by rw [M.len]; exact h2, by rw [hs.1, h3], .inl rfl, by rw [hs.2, h4]⟩
  · rw [M.len] at g2
    have hs := M.std n g1 g2 (by omega)
    have h1 := g3.1
    have h3 := g3.2.2
    rw [hs.1] at h1
    rw [hs.2] at h3
    have h2 := (F.wtg n g1 g2 (by omega) h1).2.2
    rw [h3, Int.toNat_natCast] at h2
    exact h2
/-- The first of the greatest priority. -/
theorem oneN_best (B : St) : ∀ i, i ≤ B.procs.length → (oneN B.procs i = -1 ∧ ∀ n, 1 ≤ n → n ≤ i → (B.pr n).standing ≠ 1) ∨
    (∃ b : Nat, oneN B.procs i = (b : Int) ∧ b < i ∧ (B.pr (b + 1)).standing = 1 ∧ ∀ n, 1 ≤ n → n ≤ i → (B.pr n).standing = 1 → (B.pr n).prio < (B.pr (b + 1)).prio ∨ ((B.pr n).prio = (B.pr (b + 1)).prio ∧ (B.pr (b + 1)).key ≤ (B.pr n).key))
  | 0, _ => .inl ⟨rfl, fun n h1 h2 => by omega⟩
  | i + 1, hi => by
    have ih := oneN_best B i (by omega)
    have e := pr_succ B i
    unfold oneN
    split
    · rename_i hc
      rw [← e] at hc
      refine .inr ⟨i, rfl, by omega, hc.1, fun n h1 h2 h3 => ?_⟩
      by_cases en : n = i + 1
      · rw [en]; exact .inr ⟨rfl, Int.le_refl _⟩
      rcases ih with ⟨_, g2⟩ | ⟨b, g1, g2, g3, g4⟩
      · exact absurd h3 (g2 n h1 (by omega))
      · have g5 := g4 n h1 (by omega) h3
        have hA := hc.2
        unfold ahd at hA
        rw [g1, ← pr_succ] at hA
        omega
    · rename_i hc
      rw [← e] at hc
      rcases ih with ⟨g1, g2⟩ | ⟨b, g1, g2, g3, g4⟩
      · refine .inl ⟨g1, fun n h1 h2 => ?_⟩
        by_cases en : n = i + 1
        · rw [en]; intro h3
          exact hc ⟨h3, by unfold ahd; left; omega⟩
        · exact g2 n h1 (by omega)
      · refine .inr ⟨b, g1, by omega, g3, fun n h1 h2 h3 => ?_⟩
        by_cases en : n = i + 1
        · rw [en] at h3 ⊢
          have hA : ¬ ahd B.procs (oneN B.procs i) (B.pr (i + 1)) := fun h => hc ⟨h3, h⟩
          unfold ahd at hA
          rw [g1, ← pr_succ] at hA
          omega
        · exact g4 n h1 (by omega) h3
theorem SimX.one (M : SimX A B 0) (F : FitX A 0) : (A.highest = 0 ∧ B.one = 0) ∨ (∃ n r, 0 < A.highest ∧ A.queues A.highest = n :: r ∧ B.one = (n : Int)) := by
  have hst : ∀ n, 1 ≤ n → n ≤ A.procs.length → (B.pr n).standing = (A.pr n).standing := fun n g1 g2 => (M.std n g1 g2 (by omega)).1
  unfold St.one
  rcases oneN_best B B.procs.length (Nat.le_refl _) with ⟨h1, h2⟩ | ⟨b, h1, h2, h3, h4⟩
  · left
    refine ⟨?_, by rw [h1]; rfl⟩
    rcases Nat.eq_zero_or_pos A.highest with h | h
    · exact h
    · exfalso
      obtain ⟨n, r, hq⟩ := high_pos h
      have := F.que A.highest n (by rw [hq]; exact List.mem_cons_self)
      exact h2 n this.1 (by rw [M.len]; exact this.2.1) (by rw [hst n this.1 this.2.1]; exact this.2.2.1)
  · right
    have hb : b + 1 ≤ A.procs.length := by rw [← M.len]; omega
    rw [hst (b + 1) (by omega) hb] at h3
    have hin := F.inq (b + 1) (by omega) hb (by omega) h3
    have hpr := F.pr_ok (n := b + 1) (by omega) hb
    have hne : A.queues (A.pr (b + 1)).prio.toNat ≠ [] := fun h => by rw [h] at hin; cases hin
    have hle := F.le_high hne
    have hpos : 0 < A.highest := by omega
    obtain ⟨n, r, hq⟩ := high_pos hpos
    have hn := F.que A.highest n (by rw [hq]; exact List.mem_cons_self)
    have g := h4 n hn.1 (by rw [M.len]; exact hn.2.1) (by rw [hst n hn.1 hn.2.1]; exact hn.2.2.1)
    rw [M.prio n hn.1 hn.2.1, M.prio (b + 1) (by omega) hb, hn.2.2.2.1] at g
    have heq : (A.pr (b + 1)).prio.toNat = A.highest := by omega
    refine ⟨n, r, hpos, hq, ?_⟩
    rw [h1]
    rw [heq, hq] at hin
    rcases List.mem_cons.1 hin with e | e
    · omega
    · have hp := M.que A.highest
      rw [hq] at hp
      have := (List.pairwise_cons.1 hp).1 _ e
      omega
end
end R
end Go.Proofs.YtkkdeljladihpaaGreat

/-
  The package's scheduler and the document's are alike: the calls. No program in sight.
-/
namespace Go.Proofs.YtkkdeljladihpaaGreat
namespace R
section
variable {A : YtkkdeljladihpaaGreat.St} {B : St} {x : Nat}
theorem SimX.ready (M : SimX A B x) (F : FitX A x) (h1 : 1 ≤ x) (h2 : x ≤ A.procs.length) : SimX (A.ready x) (B.ready x) 0 := by
  have hb2 : x ≤ B.procs.length := by rw [M.len]; exact h2
  have M1 := (M.set F h1 h2 (r := { A.pr x with standing := 1, sem := 0 }) (r' := { B.pr x with standing := 1, sem := 0, key := B.last + 1 }) (M.prio x h1 h2)).behind
  have hk : ∀ m, 1 ≤ m → m ≠ x → (B.ready x).pr m = B.pr m := fun m hm hne => pr_setR_ne h1 hm hne
  have hx : (B.ready x).pr x = { B.pr x with standing := 1, sem := 0, key := B.last + 1 } := pr_setR_eq h1 hb2
  have M2 : SimX ((A.setPr x { A.pr x with standing := 1, sem := 0 }).setQ (A.pr x).prio.toNat (A.queues (A.pr x).prio.toNat ++ [x])) (B.ready x) x := by
    refine SimX.setQ M1 ?_ ?_
    · rw [List.pairwise_append]
      refine ⟨M1.que _, List.pairwise_singleton _ _, fun a ha b hb => ?_⟩
      rw [List.mem_singleton] at hb
      subst hb
      have fa := F.que _ a ha
      have := (M.qk _ a ha).2
      show ((B.ready b).pr a).key < ((B.ready b).pr b).key
      rw [hk a fa.1 fa.2.2.2.2, hx]
      show (B.pr a).key < B.last + 1
      omega
    · intro n hn
      rcases List.mem_append.1 hn with hn | hn
      · exact M1.qk _ n hn
      · rw [List.mem_singleton] at hn
        subst hn
        show B.first ≤ ((B.ready n).pr n).key ∧ ((B.ready n).pr n).key ≤ B.last + 1
        rw [hx]
        show B.first ≤ B.last + 1 ∧ B.last + 1 ≤ B.last + 1
        have := M.fl; omega
  refine M2.close fun _ _ => ?_
  rw [hx]
  have e : ((A.setPr x { A.pr x with standing := 1, sem := 0 }).setQ (A.pr x).prio.toNat (A.queues (A.pr x).prio.toNat ++ [x])).pr x = { A.pr x with standing := 1, sem := 0 } := YtkkdeljladihpaaGreat.St.pr_setPr_eq h1 h2
  rw [e]
  exact ⟨rfl, rfl⟩
/-- The active one goes ahead of its queue. -/
theorem SimX.yields (M : SimX A B 0) (F : FitX A 0) (h : 0 < A.active) : SimX A.yields (B.yields A.active) 0 := by
  have ha := F.act.resolve_left (by omega)
  have hs := M.std A.active (by omega) ha.1 (by omega)
  have hm := F.nwt A.active (by omega) ha.1 (by omega) (by omega)
  generalize hx : A.active = x at *
  have h1 : 1 ≤ x := h
  have h2 : x ≤ A.procs.length := ha.1
  have hb2 : x ≤ B.procs.length := by rw [M.len]; exact h2
  have F0 : FitX (A.on 0) x := by have := F.off; rwa [hx] at this
  have M1 := ((((M.open x).on 0).set F0 h1 h2 (r := { A.pr x with standing := 1 }) (r' := { B.pr x with standing := 1, key := B.first - 1 }) (M.prio x h1 h2))).ahead
  have hk : ∀ m, 1 ≤ m → m ≠ x → (B.yields x).pr m = B.pr m := fun m hm hne => pr_setR_ne h1 hm hne
  have hxx : (B.yields x).pr x = { B.pr x with standing := 1, key := B.first - 1 } := pr_setR_eq h1 hb2
  have hnx : ∀ p n, n ∈ A.queues p → 1 ≤ n ∧ n ≠ x := fun p n hn => by
    have f := F.que p n hn
    refine ⟨f.1, ?_⟩
    rintro rfl
    have := f.2.2.1
    omega
  have M2 : SimX (((A.on 0).setPr x { A.pr x with standing := 1 }).setQ (A.pr x).prio.toNat (x :: A.queues (A.pr x).prio.toNat)) (B.yields x) x := by
    refine SimX.setQ M1 ?_ ?_
    · refine List.pairwise_cons.2 ⟨fun a ha => ?_, M1.que _⟩
      have fa := hnx _ a ha
      have := (M.qk _ a ha).1
      show ((B.yields x).pr x).key < ((B.yields x).pr a).key
      rw [hk a fa.1 fa.2, hxx]
      show B.first - 1 < (B.pr a).key
      omega
    · intro n hn
      rcases List.mem_cons.1 hn with rfl | hn
      · show B.first - 1 ≤ ((B.yields n).pr n).key ∧ ((B.yields n).pr n).key ≤ B.last
        rw [hxx]
        show B.first - 1 ≤ B.first - 1 ∧ B.first - 1 ≤ B.last
        have := M.fl; omega
      · exact M1.qk _ n hn
  have hy : A.yields = ((A.on 0).setPr x { A.pr x with standing := 1 }).setQ (A.pr x).prio.toNat (x :: A.queues (A.pr x).prio.toNat) := by
    unfold YtkkdeljladihpaaGreat.St.yields
    rw [hx]; rfl
  rw [hy]
  refine M2.close fun _ _ => ?_
  rw [hxx]
  have e : (((A.on 0).setPr x { A.pr x with standing := 1 }).setQ (A.pr x).prio.toNat (x :: A.queues (A.pr x).prio.toNat)).pr x = { A.pr x with standing := 1 } := YtkkdeljladihpaaGreat.St.pr_setPr_eq (A := A.on 0) h1 h2
  rw [e]
  exact ⟨rfl, hs.2⟩
theorem SimX.takes (M : SimX A B 0) (F : FitX A 0) {p n : Nat} {r : List Nat} (hq : A.queues p = n :: r) : SimX (A.takes p) (B.takes n) 0 := by
  have fn := F.que p n (by rw [hq]; exact List.mem_cons_self)
  have h1 := fn.1
  have h2 := fn.2.1
  have hb2 : n ≤ B.procs.length := by rw [M.len]; exact h2
  have hs := M.std n h1 h2 (by omega)
  have hnd := F.nodup p
  have hp := M.que p
  rw [hq] at hnd hp
  have F1 : FitX (A.setQ p r) n := by
    refine F.deq h1 fn.2.2.1 fn.2.2.2.1 (fun m => ?_) (List.nodup_cons.1 hnd).2
    rw [hq, List.mem_cons]
    constructor
    · intro hm
      exact ⟨.inr hm, by rintro rfl; exact (List.nodup_cons.1 hnd).1 hm⟩
    · rintro ⟨rfl | hm, hne⟩
      · exact absurd rfl hne
      · exact hm
  have M1 : SimX (A.setQ p r) B 0 := M.setQ (List.pairwise_cons.1 hp).2 fun m hm => M.qk p m (by rw [hq]; exact List.mem_cons_of_mem _ hm)
  have M2 := ((M1.open n).set F1 h1 h2 (r := { A.pr n with standing := 2 }) (r' := { B.pr n with standing := 2 }) (M.prio n h1 h2)).on n
  rw [takes_eq hq]
  refine M2.close fun _ _ => ?_
  have e : (((A.setQ p r).setPr n { A.pr n with standing := 2 }).on n).pr n = { A.pr n with standing := 2 } := YtkkdeljladihpaaGreat.St.pr_setPr_eq (A := A.setQ p r) h1 h2
  have e' : (B.takes n).pr n = { B.pr n with standing := 2 } := pr_setR_eq h1 hb2
  show ((B.takes n).pr n).standing = _ ∧ ((B.takes n).pr n).sem = _
  rw [e, e']
  exact ⟨rfl, hs.2⟩
theorem SimX.runs (M : SimX A B 0) (F : FitX A 0) : SimX A.runs B.runs 0 := by
  have hact := M.active F
  rcases M.one F with ⟨h1, h2⟩ | ⟨n, r, h1, h2, h3⟩
  · have eB : B.runs = B := by
      unfold St.runs
      rw [h2, if_neg (fun h => absurd h.2.1 (by decide)), if_neg (fun h => absurd h.2 (by decide))]
    have eA : A.runs = A := by
      unfold YtkkdeljladihpaaGreat.St.runs
      rw [h1]
      by_cases h0 : 0 < A.active
      · have ha := F.act.resolve_left (by omega)
        have := F.pr_ok (n := A.active) (by omega) ha.1
        rw [if_pos h0, if_pos (by omega)]
      · rw [if_neg h0, if_neg (by omega)]
    rw [eA, eB]; exact M
  · have fn := F.que A.highest n (by rw [h2]; exact List.mem_cons_self)
    have hpn : (B.pr n).prio = A.highest := by rw [M.prio n fn.1 fn.2.1, fn.2.2.2.1]
    by_cases h0 : 0 < A.active
    · have ha := F.act.resolve_left (by omega)
      have hpa := M.prio A.active (by omega) ha.1
      by_cases hp : (A.highest : Int) ≤ (A.pr A.active).prio
      · have eB : B.runs = B := by
          unfold St.runs
          rw [hact, h3, Int.toNat_natCast, hpn, hpa, if_neg (fun h => absurd h.2.2 (by omega)), if_neg (fun h => absurd h.1 (by omega))]
        have eA : A.runs = A := by
          unfold YtkkdeljladihpaaGreat.St.runs
          rw [if_pos h0, if_pos hp]
        rw [eA, eB]; exact M
      · have eB : B.runs = (B.yields A.active).takes n := by
          unfold St.runs
          rw [hact, h3, Int.toNat_natCast, hpn, hpa, if_pos ⟨h0, by omega, by omega⟩]
        have eA : A.runs = A.yields.takes A.highest := by
          unfold YtkkdeljladihpaaGreat.St.runs
          rw [if_pos h0, if_neg hp, if_pos h1]
        have hq : A.yields.queues A.highest = n :: r := by
          unfold YtkkdeljladihpaaGreat.St.yields
          show (if A.highest = (A.pr A.active).prio.toNat then _ else A.queues A.highest) = _
          rw [if_neg (by omega)]; exact h2
        rw [eA, eB]
        exact (M.yields F h0).takes (F.yields h0) hq
    · have eB : B.runs = B.takes n := by
        unfold St.runs
        rw [hact, h3, Int.toNat_natCast, if_neg (fun h => h0 h.1), if_pos ⟨by omega, by omega⟩]
      have eA : A.runs = A.takes A.highest := by
        unfold YtkkdeljladihpaaGreat.St.runs
        rw [if_neg h0, if_pos h1]
      rw [eA, eB]
      exact M.takes F h2
theorem SimX.yield (M : SimX A B 0) (F : FitX A 0) : B.yield.1 = A.yield.1 ∧ SimX A.yield.2 B.yield.2 0 := by
  unfold YtkkdeljladihpaaGreat.St.yield St.yield
  rw [M.active F]
  by_cases h0 : A.active = 0
  · rw [if_pos h0, if_pos h0]; exact ⟨rfl, M⟩
  rw [if_neg h0, if_neg h0]
  have ha := F.act.resolve_left h0
  have hs := M.std A.active (by omega) ha.1 (by omega)
  have hm := F.nwt A.active (by omega) ha.1 (by omega) (by omega)
  refine ⟨rfl, ?_⟩
  have e : B.back A.active = B.ready A.active := by
    unfold St.back St.ready
    have : (B.pr A.active).sem = 0 := by rw [hs.2, hm]
    rw [← this]
  show SimX ((A.on 0).ready A.active).runs (B.back A.active).runs 0
  rw [e]
  have F1 := F.off
  have M1 : SimX (A.on 0) B A.active := (M.open _).on 0
  exact (M1.ready F1 (by omega) ha.1).runs (F1.ready (by omega) ha.1)
theorem SimX.fork (M : SimX A B 0) (F : FitX A 0) (p : Int) : (B.fork p).1 = (A.fork p).1 ∧ SimX (A.fork p).2 (B.fork p).2 0 := by
  unfold YtkkdeljladihpaaGreat.St.fork St.fork
  rw [M.len]
  by_cases hp : p < 1 ∨ p > 16
  · rw [if_pos hp, if_pos hp]; exact ⟨rfl, M⟩
  rw [if_neg hp, if_neg hp]
  by_cases hl : A.procs.length ≥ 4096
  · rw [if_pos hl, if_pos hl]; exact ⟨rfl, M⟩
  rw [if_neg hl, if_neg hl]
  refine ⟨rfl, ?_⟩
  have F1 := F.new (p := p) ⟨by omega, by omega⟩ (by omega)
  obtain ⟨B', hB'⟩ : ∃ B' : St, B' = { B with procs := B.procs ++ [⟨p, 1, 0, B.last + 1⟩] } := ⟨_, rfl⟩
  have hA : ∀ n, 1 ≤ n → ({ A with procs := A.procs ++ [⟨p, 0, 0⟩] } : YtkkdeljladihpaaGreat.St).pr n = if n = A.procs.length + 1 then ⟨p, 0, 0⟩ else A.pr n := fun n h => pr_new h
  have hBp : ∀ n, 1 ≤ n → B'.pr n = if n = A.procs.length + 1 then ⟨p, 1, 0, B.last + 1⟩ else B.pr n := fun n h => by
    rw [hB', pr_def _ h, pr_def _ h, List.getD_eq_getElem?_getD, List.getD_eq_getElem?_getD]
    show ((B.procs ++ [_])[n - 1]?).getD _ = _
    split
    · rename_i e
      rw [List.getElem?_append_right (by rw [M.len]; omega), M.len, e]; simp
    · rename_i e
      rcases Nat.lt_or_ge (n - 1) B.procs.length with h' | h'
      · rw [List.getElem?_append_left h']
      · rw [M.len] at h'
        rw [List.getElem?_eq_none (by rw [List.length_append, M.len]; simp; omega), List.getElem?_eq_none (by rw [M.len]; exact h')]
  have M1 : SimX ({ A with procs := A.procs ++ [⟨p, 0, 0⟩] } : YtkkdeljladihpaaGreat.St) B' (A.procs.length + 1) := by
    have kq : ∀ q n, n ∈ A.queues q → 1 ≤ n ∧ n ≠ A.procs.length + 1 := fun q n hn => by
      have := F.que q n hn; exact ⟨this.1, by omega⟩
    have kw : ∀ i n, 1 ≤ i → i ≤ A.sems.length → n ∈ (A.sm i).2 → 1 ≤ n ∧ n ≠ A.procs.length + 1 := fun i n g1 g2 hn => by
      have := F.wq i n g1 g2 hn; exact ⟨this.1, by omega⟩
    have e : ∀ n, 1 ≤ n ∧ n ≠ A.procs.length + 1 → B'.pr n = B.pr n := fun n h => by rw [hBp n h.1, if_neg h.2]
    refine ⟨by rw [hB']; exact M.now, by rw [hB']; exact M.events, by rw [hB']; exact M.exc, by rw [hB']; simp [M.len], fun n g1 g2 => ?_, fun n g1 g2 g3 => ?_, fun q => ?_, fun i g1 g2 => ?_, fun q n hn => ?_, fun i n g1 g2 hn => ?_, by rw [hB']; exact M.tms, by rw [hB']; exact M.fl⟩
    · rw [hA n g1, hBp n g1]
      split
      · rfl
      · rename_i hne
        simp at g2
        exact M.prio n g1 (by omega)
    · rw [hA n g1, hBp n g1, if_neg g3, if_neg g3]
      simp at g2
      exact M.std n g1 (by omega) (by omega)
    · refine List.Pairwise.imp_of_mem ?_ (M.que q)
      intro a b ha hb h
      rw [e a (kq q a ha), e b (kq q b hb)]; exact h
    · refine List.Pairwise.imp_of_mem ?_ (M.wqs i g1 g2)
      intro a b ha hb h
      rw [e a (kw i a g1 g2 ha), e b (kw i b g1 g2 hb)]; exact h
    · rw [e n (kq q n hn), hB']; exact M.qk q n hn
    · rw [e n (kw i n g1 g2 hn), hB']; exact M.wk i n g1 g2 hn
  have hl1 : A.procs.length + 1 ≤ ({ A with procs := A.procs ++ [⟨p, 0, 0⟩] } : YtkkdeljladihpaaGreat.St).procs.length := by simp
  have M2 := M1.ready F1 (by omega) hl1
  have e : B'.ready (A.procs.length + 1) = B'.behind := by
    unfold St.ready
    rw [setR_self (by omega) (by rw [hB']; simp [M.len])]
    have := hBp (A.procs.length + 1) (by omega)
    rw [if_pos rfl] at this
    rw [this, hB']
  rw [e] at M2
  have := M2.runs (F1.ready (by omega) hl1)
  rw [hB'] at this
  exact this
theorem SimX.semaphore (M : SimX A B 0) (F : FitX A 0) : B.semaphore.1 = A.semaphore.1 ∧ SimX A.semaphore.2 B.semaphore.2 0 := by
  unfold YtkkdeljladihpaaGreat.St.semaphore St.semaphore
  rw [M.elen]
  by_cases hl : A.sems.length ≥ 4096
  · rw [if_pos hl, if_pos hl]; exact ⟨rfl, M⟩
  rw [if_neg hl, if_neg hl]
  refine ⟨rfl, ?_⟩
  have hsm : ∀ i, 1 ≤ i → i ≤ A.sems.length + 1 → ({ A with sems := A.sems ++ [(0, [])] } : YtkkdeljladihpaaGreat.St).sm i = if i ≤ A.sems.length then A.sm i else (0, []) := fun i g1 g2 => by
    unfold YtkkdeljladihpaaGreat.St.sm
    simp only
    rw [List.getD_eq_getElem?_getD, List.getD_eq_getElem?_getD]
    split
    · rename_i h; rw [List.getElem?_append_left (by omega)]
    · rename_i h
      rw [List.getElem?_append_right (by omega), show i - 1 - A.sems.length = 0 by omega]; rfl
  refine ⟨M.now, M.events, by show B.excess ++ [0] = _; rw [M.exc]; simp, M.len, M.prio, M.std, M.que, fun i g1 g2 => ?_, M.qk, fun i n g1 g2 hn => ?_, M.tms, M.fl⟩
  · simp at g2
    rw [hsm i g1 g2]
    split
    · rename_i h; exact M.wqs i g1 h
    · exact List.Pairwise.nil
  · simp at g2
    rw [hsm i g1 g2] at hn
    split at hn
    · rename_i h; exact M.wk i n g1 h hn
    · cases hn
theorem SimX.wait (M : SimX A B 0) (F : FitX A 0) (n : Int) : (B.wait n).1 = (A.wait n).1 ∧ SimX (A.wait n).2 (B.wait n).2 0 := by
  unfold YtkkdeljladihpaaGreat.St.wait St.wait
  rw [M.active F, M.isSem n]
  by_cases h0 : A.active = 0
  · rw [if_pos h0, if_pos h0]; exact ⟨rfl, M⟩
  rw [if_neg h0, if_neg h0]
  by_cases hs : A.isSem n = false
  · rw [if_pos hs, if_pos hs]; exact ⟨rfl, M⟩
  rw [if_neg hs, if_neg hs, M.ex]
  have hn := isSem_iff.1 (by simpa using hs : A.isSem n = true)
  have i1 : 1 ≤ n.toNat := by omega
  have i2 : n.toNat ≤ A.sems.length := by omega
  have hni : n = (n.toNat : Int) := by omega
  by_cases he : (A.sm n.toNat).1 > 0
  · rw [if_pos he, if_pos he]
    exact ⟨rfl, M.setSm i1 i2 (M.wqs _ i1 i2) fun m hm => M.wk _ m i1 i2 hm⟩
  rw [if_neg he, if_neg he]
  refine ⟨rfl, ?_⟩
  have ha := F.act.resolve_left h0
  have hx1 : 1 ≤ A.active := by omega
  have hb2 : A.active ≤ B.procs.length := by rw [M.len]; exact ha.1
  have he0 : (A.sm n.toNat).1 = 0 := by have := F.exc n.toNat i1 i2; omega
  have F1 : FitX ((A.on 0).setPr A.active { A.pr A.active with standing := 3, sem := n }) A.active := F.off.setPr hx1 ha.1 (by have := F.pr_ok hx1 ha.1; exact ⟨this.1, this.2.1, by show (0 : Int) ≤ 3; decide, by show (3 : Int) ≤ 5; decide⟩)
  have M1 : SimX ((A.on 0).setPr A.active { A.pr A.active with standing := 3, sem := n }) (B.setPr A.active { B.pr A.active with standing := 3, sem := n, key := B.last + 1 }) A.active := ((M.open A.active).on 0).set F.off hx1 ha.1 (M.prio A.active hx1 ha.1)
  have M2 := M1.behind
  have hBw : B.waits n.toNat = (B.setPr A.active { B.pr A.active with standing := 3, sem := n, key := B.last + 1 }).behind := by
    unfold St.waits; rw [M.active F, ← hni]
  rw [hBw]
  generalize hx : A.active = x at *
  have hk : ∀ m, 1 ≤ m → m ≠ x → (B.setPr x { B.pr x with standing := 3, sem := n, key := B.last + 1 }).behind.pr m = B.pr m := fun m hm hne => pr_setR_ne hx1 hm hne
  have hxx : (B.setPr x { B.pr x with standing := 3, sem := n, key := B.last + 1 }).behind.pr x = { B.pr x with standing := 3, sem := n, key := B.last + 1 } := pr_setR_eq hx1 hb2
  have hnx : ∀ m, m ∈ (A.sm n.toNat).2 → 1 ≤ m ∧ m ≠ x := fun m hm => by
    have := F.wq _ m i1 i2 hm
    refine ⟨this.1, ?_⟩
    rintro rfl
    have h3 := this.2.2.1
    omega
  have M3 : SimX (((A.on 0).setPr x { A.pr x with standing := 3, sem := n }).setSm n.toNat ((A.sm n.toNat).1, (A.sm n.toNat).2 ++ [x])) (B.setPr x { B.pr x with standing := 3, sem := n, key := B.last + 1 }).behind x := by
    refine M2.setQm i1 i2 ?_ ?_
    · rw [List.pairwise_append]
      refine ⟨M2.wqs _ i1 i2, List.pairwise_singleton _ _, fun a hm b hb => ?_⟩
      rw [List.mem_singleton] at hb
      subst hb
      have fa := hnx a hm
      have := M.wk _ a i1 i2 hm
      rw [hk a fa.1 fa.2, hxx]
      show (B.pr a).key < B.last + 1
      omega
    · intro m hm
      rcases List.mem_append.1 hm with hm | hm
      · exact M2.wk _ m i1 i2 hm
      · rw [List.mem_singleton] at hm
        subst hm
        rw [hxx]; exact Int.le_refl _
  have e : (((A.on 0).setPr x { A.pr x with standing := 3, sem := n }).setSm n.toNat ((A.sm n.toNat).1, (A.sm n.toNat).2 ++ [x])).pr x = { A.pr x with standing := 3, sem := n } := YtkkdeljladihpaaGreat.St.pr_setPr_eq (A := A.on 0) hx1 ha.1
  have M4 := M3.close fun _ _ => by rw [hxx, e]; exact ⟨rfl, rfl⟩
  have F2 : FitX (((A.on 0).setPr x { A.pr x with standing := 3, sem := n }).setSm n.toNat ((A.sm n.toNat).1, (A.sm n.toNat).2 ++ [x])) 0 := by
    have ep : ((A.on 0).setPr x { A.pr x with standing := 3, sem := n }).pr x = { A.pr x with standing := 3, sem := n } := YtkkdeljladihpaaGreat.St.pr_setPr_eq (A := A.on 0) hx1 ha.1
    have := F1.wai (i := n.toNat) hx1 (by rw [YtkkdeljladihpaaGreat.St.setPr_len]; exact ha.1) (by rw [ep]) (by rw [ep]; exact hni) i1 i2 he0
    rw [he0]; exact this
  exact M4.runs F2
theorem SimX.signal0 (M : SimX A B 0) (F : FitX A 0) (n : Int) : (B.signal0 n).1 = (A.signal0 n).1 ∧ SimX (A.signal0 n).2 (B.signal0 n).2 0 := by
  unfold YtkkdeljladihpaaGreat.St.signal0 St.signal0
  rw [M.isSem n]
  by_cases hs : A.isSem n = false
  · rw [if_pos hs, if_pos hs]; exact ⟨rfl, M⟩
  rw [if_neg hs, if_neg hs, M.ex]
  have hn := isSem_iff.1 (by simpa using hs : A.isSem n = true)
  have i1 : 1 ≤ n.toNat := by omega
  have i2 : n.toNat ≤ A.sems.length := by omega
  have hni : n = (n.toNat : Int) := by omega
  have hw := (M.quW F i1 i2).ord
  rw [← hni] at hw
  rw [hw]
  cases hq : (A.sm n.toNat).2 with
  | nil =>
    simp only
    by_cases h : (A.sm n.toNat).1 ≥ 1073741824
    · rw [if_pos h, if_pos h]; exact ⟨rfl, M⟩
    · rw [if_neg h, if_neg h]; exact ⟨rfl, M.setSm i1 i2 List.Pairwise.nil fun m hm => by cases hm⟩
  | cons q r =>
    refine ⟨rfl, ?_⟩
    show SimX ((A.setSm n.toNat ((A.sm n.toNat).1, r)).ready q) (B.ready q) 0
    have fq := F.wq n.toNat q i1 i2 (by rw [hq]; exact List.mem_cons_self)
    have hnd := F.wnd n.toNat i1 i2
    have hp := M.wqs n.toNat i1 i2
    rw [hq] at hnd hp
    have h0 := (F.exc n.toNat i1 i2).2.2 (by rw [hq]; simp)
    have F1 : FitX (A.setSm n.toNat ((A.sm n.toNat).1, r)) q := by
      refine F.swq fq.1 fq.2.2.1 fq.2.2.2.1 i1 i2 rfl (fun m => ?_) (List.nodup_cons.1 hnd).2 h0
      rw [hq, List.mem_cons]
      constructor
      · intro hm
        exact ⟨.inr hm, by rintro rfl; exact (List.nodup_cons.1 hnd).1 hm⟩
      · rintro ⟨rfl | hm, hne⟩
        · exact absurd rfl hne
        · exact hm
    have M1 : SimX (A.setSm n.toNat ((A.sm n.toNat).1, r)) B 0 := M.setQm i1 i2 (List.pairwise_cons.1 hp).2 fun m hm => M.wk _ m i1 i2 (by rw [hq]; exact List.mem_cons_of_mem _ hm)
    exact (M1.open q).ready F1 fq.1 fq.2.1
theorem SimX.signal (M : SimX A B 0) (F : FitX A 0) (n : Int) : (B.signal n).1 = (A.signal n).1 ∧ SimX (A.signal n).2 (B.signal n).2 0 :=
  ⟨(M.signal0 F n).1, (M.signal0 F n).2.runs (F.signal0 n)⟩
theorem SimX.alive (M : SimX A B 0) (n : Int) : B.alive n = A.alive n := by
  unfold St.alive YtkkdeljladihpaaGreat.St.alive
  rw [M.len]
  by_cases h : n < 1 ∨ n > A.procs.length
  · rw [if_pos h, if_pos h]
  · rw [if_neg h, if_neg h, (M.std n.toNat (by omega) (by omega) (by omega)).1]
theorem SimX.out (M : SimX A B 0) (F : FitX A 0) (h1 : 1 ≤ x) (h2 : x ≤ A.procs.length) : SimX (A.out x) B x := by
  unfold YtkkdeljladihpaaGreat.St.out
  by_cases s1 : (A.pr x).standing = 1
  · rw [if_pos s1]
    exact (M.setQ ((M.que _).sublist List.filter_sublist) fun n hn => M.qk _ n ((List.mem_filter.1 hn).1)).open x
  rw [if_neg s1]
  by_cases s3 : (A.pr x).standing = 3
  · rw [if_pos s3]
    obtain ⟨w1, w2, w3⟩ := F.wtg x h1 h2 (by omega) s3
    have i1 : 1 ≤ (A.pr x).sem.toNat := by omega
    have i2 : (A.pr x).sem.toNat ≤ A.sems.length := by omega
    have M1 : SimX (A.setSm (A.pr x).sem.toNat ((A.sm (A.pr x).sem.toNat).1, (A.sm (A.pr x).sem.toNat).2.filter (· ≠ x))) B x :=
      (M.setQm i1 i2 ((M.wqs _ i1 i2).sublist List.filter_sublist) fun n hn => M.wk _ n i1 i2 ((List.mem_filter.1 hn).1)).open x
    have F1 : FitX (A.setSm (A.pr x).sem.toNat ((A.sm (A.pr x).sem.toNat).1, (A.sm (A.pr x).sem.toNat).2.filter (· ≠ x))) x := by
      refine F.swq h1 s3 (by omega) i1 i2 rfl (fun m => mem_filter_ne) ((F.wnd _ i1 i2).sublist List.filter_sublist) ?_
      exact (F.exc _ i1 i2).2.2 (fun h => by rw [h] at w3; cases w3)
    have M2 := M1.set F1 h1 h2 (r := { A.pr x with sem := 0 }) (r' := B.pr x) (M.prio x h1 h2)
    rw [setR_self h1 (by rw [M.len]; exact h2) rfl] at M2
    exact M2
  rw [if_neg s3]
  split
  · exact (M.open x).on 0
  · exact M.open x
theorem SimX.stands (M : SimX A B 0) (F : FitX A 0) (h1 : 1 ≤ x) (h2 : x ≤ A.procs.length) (s : Int) : SimX ((A.out x).setPr x { (A.out x).pr x with standing := s }) (B.setPr x { B.pr x with standing := s, sem := 0 }) 0 := by
  have F1 := F.out h1 h2
  have M1 := M.out F h1 h2
  have hl : x ≤ (A.out x).procs.length := by rw [out_len]; exact h2
  have M2 := M1.set F1.1 h1 hl (r := { (A.out x).pr x with standing := s }) (r' := { B.pr x with standing := s, sem := 0 }) (M1.prio x h1 hl)
  refine M2.close fun _ _ => ?_
  rw [YtkkdeljladihpaaGreat.St.pr_setPr_eq h1 hl, pr_setR_eq h1 (by rw [M.len]; exact h2)]
  exact ⟨rfl, F1.2.symm⟩
theorem fit_stands (F : FitX A 0) (h1 : 1 ≤ x) (h2 : x ≤ A.procs.length) {s : Int} (hs : s = 4 ∨ s = 5) : FitX ((A.out x).setPr x { (A.out x).pr x with standing := s }) 0 := by
  have F1 := F.out h1 h2
  have hl : x ≤ (A.out x).procs.length := by rw [out_len]; exact h2
  have hp := F1.1.pr_ok h1 hl
  refine (F1.1.setPr h1 hl (r := { (A.out x).pr x with standing := s }) ⟨hp.1, hp.2.1, by show 0 ≤ s; omega, by show s ≤ 5; omega⟩).nowhere fun _ _ => ?_
  rw [YtkkdeljladihpaaGreat.St.pr_setPr_eq h1 hl]
  exact ⟨by show s ≠ 1; omega, by show s ≠ 2; omega, by show s ≠ 3; omega, F1.2⟩
theorem SimX.suspend (M : SimX A B 0) (F : FitX A 0) (n : Int) : (B.suspend n).1 = (A.suspend n).1 ∧ SimX (A.suspend n).2 (B.suspend n).2 0 := by
  unfold YtkkdeljladihpaaGreat.St.suspend St.suspend
  rw [M.alive n]
  by_cases h : A.alive n ≠ 0
  · rw [if_pos h, if_pos h]; exact ⟨rfl, M⟩
  obtain ⟨g1, g2, _⟩ := alive_ok h
  rw [if_neg h, if_neg h, (M.std n.toNat (by omega) (by omega) (by omega)).1]
  by_cases h4 : (A.pr n.toNat).standing = 4
  · rw [if_pos h4, if_pos h4]; exact ⟨rfl, M⟩
  rw [if_neg h4, if_neg h4]
  exact ⟨rfl, (M.stands F (by omega) (by omega) 4).runs (fit_stands F (by omega) (by omega) (.inl rfl))⟩
theorem SimX.terminate (M : SimX A B 0) (F : FitX A 0) (n : Int) : (B.terminate n).1 = (A.terminate n).1 ∧ SimX (A.terminate n).2 (B.terminate n).2 0 := by
  unfold YtkkdeljladihpaaGreat.St.terminate St.terminate
  rw [M.alive n]
  by_cases h : A.alive n ≠ 0
  · rw [if_pos h, if_pos h]; exact ⟨rfl, M⟩
  obtain ⟨g1, g2, _⟩ := alive_ok h
  rw [if_neg h, if_neg h]
  exact ⟨rfl, (M.stands F (by omega) (by omega) 5).runs (fit_stands F (by omega) (by omega) (.inr rfl))⟩
theorem SimX.resume (M : SimX A B 0) (F : FitX A 0) (n : Int) : (B.resume n).1 = (A.resume n).1 ∧ SimX (A.resume n).2 (B.resume n).2 0 := by
  unfold YtkkdeljladihpaaGreat.St.resume St.resume
  rw [M.alive n]
  by_cases h : A.alive n ≠ 0
  · rw [if_pos h, if_pos h]; exact ⟨rfl, M⟩
  obtain ⟨g1, g2, _⟩ := alive_ok h
  rw [if_neg h, if_neg h, (M.std n.toNat (by omega) (by omega) (by omega)).1]
  by_cases h4 : (A.pr n.toNat).standing ≠ 4
  · rw [if_pos h4, if_pos h4]; exact ⟨rfl, M⟩
  rw [if_neg h4, if_neg h4]
  have F1 : FitX A n.toNat := F.aside fun _ _ => ⟨by omega, by omega, by omega⟩
  exact ⟨rfl, ((M.open _).ready F1 (by omega) (by omega)).runs (F1.ready (by omega) (by omega))⟩
theorem SimX.setPrio (M : SimX A B 0) (h1 : 1 ≤ x) (h2 : x ≤ A.procs.length) (p : Int) : SimX (A.setPr x { A.pr x with prio := p }) (B.setPr x { B.pr x with prio := p }) 0 := by
  have hb2 : x ≤ B.procs.length := by rw [M.len]; exact h2
  have hA : ∀ m, 1 ≤ m → (A.setPr x { A.pr x with prio := p }).pr m = if m = x then { A.pr x with prio := p } else A.pr m := fun m hm => YtkkdeljladihpaaGreat.St.pr_setPr h1 h2 hm
  have hB : ∀ m, 1 ≤ m → (B.setPr x { B.pr x with prio := p }).pr m = if m = x then { B.pr x with prio := p } else B.pr m := fun m hm => pr_setR h1 hb2 hm
  have hk0 : ∀ m, 1 ≤ m → ((B.setPr x { B.pr x with prio := p }).pr m).key = (B.pr m).key := fun m hm => by
    rw [hB m hm]; split
    · rename_i e; rw [e]
    · rfl
  have hz : B.setPr x { B.pr x with prio := p } = B.setPr x { B.pr x with prio := p } := rfl
  have hk : ∀ m, ((B.setPr x { B.pr x with prio := p }).pr m).key = (B.pr m).key := fun m => by
    rcases Nat.eq_zero_or_pos m with h | h
    · subst h
      have e0 : ∀ X : St, X.pr 0 = X.pr 1 := fun X => rfl
      rw [e0, e0]; exact hk0 1 (Nat.le_refl _)
    · exact hk0 m h
  refine ⟨M.now, M.events, M.exc, by rw [YtkkdeljladihpaaGreat.St.setPr_len]; exact List.length_set.trans M.len, fun n g1 g2 => ?_, fun n g1 g2 g3 => ?_, fun q => ?_, fun i g1 g2 => ?_, fun q n hn => ?_, fun i n g1 g2 hn => ?_, M.tms, M.fl⟩
  · rw [YtkkdeljladihpaaGreat.St.setPr_len] at g2
    rw [hA n g1, hB n g1]
    split
    · rfl
    · exact M.prio n g1 g2
  · rw [YtkkdeljladihpaaGreat.St.setPr_len] at g2
    rw [hA n g1, hB n g1]
    split
    · rename_i e; subst e; exact M.std n g1 g2 g3
    · exact M.std n g1 g2 g3
  · exact (M.que q).imp fun h => by rw [hk, hk]; exact h
  · exact (M.wqs i g1 g2).imp fun h => by rw [hk, hk]; exact h
  · rw [hk]; exact M.qk q n hn
  · rw [hk]; exact M.wk i n g1 g2 hn
theorem SimX.setPriority (M : SimX A B 0) (F : FitX A 0) (n p : Int) : (B.setPriority n p).1 = (A.setPriority n p).1 ∧ SimX (A.setPriority n p).2 (B.setPriority n p).2 0 := by
  unfold YtkkdeljladihpaaGreat.St.setPriority St.setPriority
  rw [M.alive n]
  by_cases h : A.alive n ≠ 0
  · rw [if_pos h, if_pos h]; exact ⟨rfl, M⟩
  obtain ⟨g1, g2, _⟩ := alive_ok h
  rw [if_neg h, if_neg h]
  by_cases hp : p < 1 ∨ p > 16
  · rw [if_pos hp, if_pos hp]; exact ⟨rfl, M⟩
  rw [if_neg hp, if_neg hp]
  have h1 : 1 ≤ n.toNat := by omega
  have h2 : n.toNat ≤ A.procs.length := by omega
  have hb2 : n.toNat ≤ B.procs.length := by rw [M.len]; exact h2
  generalize n.toNat = x at *
  have hs := M.std x h1 h2 (by omega)
  unfold St.prioed
  rw [hs.1]
  by_cases s1 : (A.pr x).standing = 1
  · rw [if_pos s1, if_neg (fun h => h s1)]
    refine ⟨rfl, ?_⟩
    have F1 := F.out h1 h2
    have M1 := M.out F h1 h2
    have hl : x ≤ (A.out x).procs.length := by rw [out_len]; exact h2
    have hpr := F1.1.pr_ok h1 hl
    have M2 := M1.set F1.1 h1 hl (r := { (A.out x).pr x with prio := p }) (r' := { B.pr x with prio := p }) rfl
    have F2 := F1.1.setPr h1 hl (r := { (A.out x).pr x with prio := p }) ⟨by show 1 ≤ p; omega, by show p ≤ 16; omega, hpr.2.2.1, hpr.2.2.2⟩
    have hl2 : x ≤ ((A.out x).setPr x { (A.out x).pr x with prio := p }).procs.length := by rw [YtkkdeljladihpaaGreat.St.setPr_len]; exact hl
    have M3 := M2.ready F2 h1 hl2
    have e : (B.setPr x { B.pr x with prio := p }).ready x = (B.setPr x { B.pr x with prio := p, key := B.last + 1 }).behind := by
      have hm := F.nwt x h1 h2 (by omega) (by omega)
      unfold St.ready
      rw [pr_setR_eq h1 hb2]
      have e1 : (B.pr x).standing = 1 := by rw [hs.1, s1]
      have e2 : (B.pr x).sem = 0 := by rw [hs.2, hm]
      have e3 : ({ ({ B.pr x with prio := p } : Pr) with standing := 1, sem := 0, key := (B.setPr x { B.pr x with prio := p }).last + 1 } : Pr) = { B.pr x with prio := p, key := B.last + 1 } := by
        show Pr.mk p 1 0 (B.last + 1) = Pr.mk p (B.pr x).standing (B.pr x).sem (B.last + 1)
        rw [e1, e2]
      rw [e3]
      unfold St.setPr
      simp only [List.set_set]
    rw [e] at M3
    exact M3.runs (F2.ready h1 hl2)
  · rw [if_neg s1, if_pos s1]
    refine ⟨rfl, ?_⟩
    have F2 := F.setPrio h1 h2 s1 (p := p) ⟨by omega, by omega⟩
    have M2 : SimX (A.setPr x { A.pr x with prio := p }) (B.setPr x { B.pr x with prio := p }) 0 := M.setPrio h1 h2 p
    exact M2.runs F2
theorem SimX.listen (M : SimX A B 0) (e n : Int) : (B.listen e n).1 = (A.listen e n).1 ∧ SimX (A.listen e n).2 (B.listen e n).2 0 := by
  unfold YtkkdeljladihpaaGreat.St.listen St.listen
  rw [M.isSem n, M.events]
  split
  · exact ⟨rfl, M⟩
  split
  · exact ⟨rfl, M⟩
  exact ⟨rfl, M.now, rfl, M.exc, M.len, M.prio, M.std, M.que, M.wqs, M.qk, M.wk, M.tms, M.fl⟩
theorem SimX.event (M : SimX A B 0) (F : FitX A 0) (e : Int) : (B.event e).1 = (A.event e).1 ∧ SimX (A.event e).2 (B.event e).2 0 := by
  unfold YtkkdeljladihpaaGreat.St.event St.event
  rw [M.events]
  split
  · exact ⟨rfl, M⟩
  · exact ⟨rfl, (M.signal F _).2⟩
theorem SimX.standing (M : SimX A B 0) (n : Int) : B.standing n = A.standing n := by
  unfold St.standing YtkkdeljladihpaaGreat.St.standing
  rw [M.len]
  by_cases h : n < 1 ∨ n > A.procs.length
  · rw [if_pos h, if_pos h]
  · rw [if_neg h, if_neg h, (M.std n.toNat (by omega) (by omega) (by omega)).1, M.prio n.toNat (by omega) (by omega)]
theorem SimX.waiting (M : SimX A B 0) (F : FitX A 0) (n : Int) : B.waiting n = A.waiting n := by
  unfold St.waiting YtkkdeljladihpaaGreat.St.waiting
  rw [M.isSem n]
  by_cases hs : A.isSem n = false
  · rw [if_pos hs, if_pos hs]
  rw [if_neg hs, if_neg hs, M.ex]
  have hn := isSem_iff.1 (by simpa using hs : A.isSem n = true)
  have hw := (M.quW F (i := n.toNat) (by omega) (by omega)).ord
  rw [show ((n.toNat : Nat) : Int) = n by omega] at hw
  rw [hw]
theorem SimX.readies (M : SimX A B 0) (F : FitX A 0) : B.readies = A.readies := by
  have : ∀ p, B.readyN p = YtkkdeljladihpaaGreat.St.readyN A.queues p := by
    intro p
    induction p with
    | zero => rfl
    | succ p ih =>
      show B.ord 1 ((p : Int) + 1) 0 ++ B.readyN p = A.queues (p + 1) ++ YtkkdeljladihpaaGreat.St.readyN A.queues p
      have h := (M.quQ F (p := p + 1) (by omega)).ord
      rw [show (((p + 1 : Nat) : Int)) = (p : Int) + 1 by omega] at h
      rw [ih, h]
  exact this 16
end
end R
end Go.Proofs.YtkkdeljladihpaaGreat

/-
  The package's scheduler and the document's are alike: the timers. No program in sight.
-/
namespace Go.Proofs.YtkkdeljladihpaaGreat
namespace R
open YtkkdeljladihpaaGreat.St (Vw pushT popT ts lt lt_def)
theorem nthT_nat {r : List Tm} {i : Nat} (h : i < r.length) : St.nthT r (i : Int) = r[i] := by
  unfold St.nthT
  rw [Int.toNat_natCast, List.getD_eq_getElem?_getD, List.getElem?_eq_getElem h]; rfl
theorem nextN_spec (r : List Tm) : ∀ k, k ≤ r.length → (k = 0 ∧ St.nextN r k = -1) ∨ (∃ i : Nat, i < k ∧ St.nextN r k = (i : Int) ∧ (∀ j : Nat, j < k → (St.nthT r i).time ≤ (St.nthT r j).time) ∧ ∀ j : Nat, j < i → (St.nthT r i).time < (St.nthT r j).time)
  | 0, _ => .inl ⟨rfl, rfl⟩
  | k + 1, hk => by
    right
    unfold St.nextN
    rcases nextN_spec r k (by omega) with ⟨h1, h2⟩ | ⟨i, h1, h2, h3, h4⟩
    · rw [if_pos (by omega)]
      subst h1
      exact ⟨0, by omega, rfl, fun j hj => by rw [show j = 0 by omega]; exact Int.le_refl _, fun j hj => by omega⟩
    · rw [h2]
      split
      · rename_i hc
        have hlt := hc.resolve_left (by omega)
        refine ⟨k, by omega, rfl, fun j hj => ?_, fun j hj => ?_⟩
        · by_cases e : j = k
          · rw [e]; exact Int.le_refl _
          · have := h3 j (by omega); omega
        · have := h3 j hj; omega
      · rename_i hc
        refine ⟨i, by omega, rfl, fun j hj => ?_, h4⟩
        by_cases e : j = k
        · rw [e]; omega
        · exact h3 j (by omega)
theorem nextI_spec (r : List Tm) : (r = [] ∧ St.nextI r = -1) ∨ (∃ i : Nat, ∃ h : i < r.length, St.nextI r = (i : Int) ∧ (∀ j (hj : j < r.length), r[i].time ≤ r[j].time) ∧ ∀ j (hj : j < i), r[i].time < (r[j]'(by omega)).time) := by
  unfold St.nextI
  rcases nextN_spec r r.length (Nat.le_refl _) with ⟨h1, h2⟩ | ⟨i, h1, h2, h3, h4⟩
  · exact .inl ⟨List.eq_nil_of_length_eq_zero h1, h2⟩
  · refine .inr ⟨i, h1, h2, fun j hj => ?_, fun j hj => ?_⟩
    · have := h3 j hj
      rwa [nthT_nat h1, nthT_nat hj] at this
    · have := h4 j hj
      rwa [nthT_nat h1, nthT_nat (by omega)] at this
variable {l : List YtkkdeljladihpaaGreat.Tm} {made : Int} {r : List Tm}
theorem TmS.len (h : TmS l made r) : r.length = l.length := by
  obtain ⟨u, v, h1, h2, h3, h4, h5⟩ := h
  have := congrArg List.length h5
  rw [List.length_map, List.length_map, h2.length_eq, h1.perm.length_eq] at this
  exact this.symm
theorem less_perm {α : Type} (v : List α) {i : Nat} (h : i < v.length) : v.Perm (v[i] :: (v.take i ++ v.drop (i + 1))) := by
  conv => lhs; rw [← List.take_append_drop i v, List.drop_eq_getElem_cons h]
  exact List.perm_middle
/-- The one that goes first, in both. -/
theorem TmS.pop (h : TmS l made r) (hne : l ≠ []) : ∃ i : Nat, ∃ hi : i < r.length, St.nextI r = (i : Int) ∧ r[i].time = (popT l).1.time ∧ r[i].sem = (popT l).1.sem ∧ (popT l).1 = YtkkdeljladihpaaGreat.St.nth l 0 ∧ TmS (popT l).2 made (St.less r i) := by
  have hlen := h.len
  obtain ⟨u, v, h1, h2, h3, h4, h5⟩ := h
  have hlp := List.length_pos_iff.2 hne
  have hvl : v.length = r.length := by rw [h2.length_eq, h1.perm.length_eq, hlen]
  obtain ⟨u', hu, hV⟩ := h1.pop hne
  have hh := YtkkdeljladihpaaGreat.St.pop_heap hne h1.heap
  generalize hx : (popT l).1 = x at *
  rcases nextI_spec r with ⟨g1, _⟩ | ⟨i, hi, g2, g3, g4⟩
  · rw [g1] at hlen; simp at hlen; omega
  have het : ∀ j (hj : j < r.length), (v[j]'(by omega)).time = r[j].time ∧ (v[j]'(by omega)).sem = r[j].sem := fun j hj => by
    have : (v.map ts)[j]? = (r.map tsR)[j]? := by rw [h5]
    rw [List.getElem?_map, List.getElem?_map, List.getElem?_eq_getElem (by omega), List.getElem?_eq_getElem hj] at this
    simp only [Option.map_some, Option.some.injEq] at this
    exact ⟨congrArg Prod.fst this, congrArg Prod.snd this⟩
  have hiv : i < v.length := by omega
  have hvi : v[i] = x := by
    have hm : v[i] ∈ u := h2.mem_iff.1 (List.getElem_mem hiv)
    rw [hu] at hm
    rcases List.mem_cons.1 hm with e | hm
    · exact e
    exfalso
    have hs := h1.sorted
    rw [hu, List.pairwise_cons] at hs
    have hlt := hs.1 _ hm
    rw [lt_def] at hlt
    have hxm : x ∈ v := h2.mem_iff.2 (by rw [hu]; exact List.mem_cons_self)
    obtain ⟨j, hj, hjx⟩ := List.mem_iff_getElem.1 hxm
    have hjr : j < r.length := by omega
    have t1 := (het i hi).1
    have t2 := (het j hjr).1
    have t3 := g3 j hjr
    rw [hjx] at t2
    rcases hlt with hlt | ⟨e, hm2⟩
    · omega
    · rcases Nat.lt_or_ge j i with hji | hji
      · have := g4 j hji; omega
      · rcases Nat.lt_or_ge i j with hij | hij
        · have := (List.pairwise_iff_getElem.1 h3) i j hiv hj hij
          rw [hjx] at this; omega
        · have : i = j := by omega
          subst this
          rw [hjx] at hm2; omega
  have hp : (v[i] :: (v.take i ++ v.drop (i + 1))).Perm (x :: u') := by rw [← hu]; exact (less_perm v hiv).symm.trans h2
  rw [hvi] at hp
  have hsub : (v.take i ++ v.drop (i + 1)).Sublist v := by
    conv => rhs; rw [← List.take_append_drop i v]
    exact List.Sublist.append_left (List.drop_sublist_drop_left v (by omega)) _
  refine ⟨i, hi, g2, by rw [← hvi]; exact (het i hi).1.symm, by rw [← hvi]; exact (het i hi).2.symm, hh.2, u', v.take i ++ v.drop (i + 1), hV, hp.cons_inv, h3.sublist hsub, fun t ht => h4 t (hsub.subset ht), ?_⟩
  unfold St.less
  rw [List.map_append, List.map_append, List.map_take, List.map_drop, h5, List.map_take, List.map_drop]
theorem TmS.none (h : TmS l made r) (hl : l = []) : St.nextI r = -1 := by
  have := h.len
  rw [hl] at this
  rw [List.eq_nil_of_length_eq_zero this]; rfl
theorem TmS.push (h : TmS l made r) (t n k : Int) : TmS (pushT l ⟨t, made + 1, n⟩) (made + 1) (r ++ [⟨t, n, k⟩]) := by
  obtain ⟨u, v, h1, h2, h3, h4, h5⟩ := h
  have hm : ∀ x ∈ l, x.made < made + 1 := fun x hx => by
    have := h4 x (h2.mem_iff.2 (h1.perm.mem_iff.2 hx)); omega
  refine ⟨_, v ++ [⟨t, made + 1, n⟩], h1.push hm, ?_, ?_, ?_, ?_⟩
  · exact (List.perm_append_singleton _ _).trans ((h2.cons _).trans (YtkkdeljladihpaaGreat.St.ins_perm _ _).symm)
  · rw [List.pairwise_append]
    refine ⟨h3, List.pairwise_singleton _ _, fun a ha b hb => ?_⟩
    rw [List.mem_singleton] at hb
    subst hb
    have := h4 a ha
    show a.made < made + 1
    omega
  · intro x hx
    rcases List.mem_append.1 hx with hx | hx
    · have := h4 x hx; omega
    · rw [List.mem_singleton] at hx; subst hx; exact Int.le_refl _
  · rw [List.map_append, List.map_append, h5]; rfl
theorem TmS.new : TmS [] 0 [] := ⟨[], [], Vw.nil, List.Perm.refl _, List.Pairwise.nil, fun t h => (by cases h), rfl⟩
section
variable {A : YtkkdeljladihpaaGreat.St} {B : St}
theorem SimX.at_ (M : SimX A B 0) (n t : Int) : (B.at_ n t).1 = (A.at_ n t).1 ∧ SimX (A.at_ n t).2 (B.at_ n t).2 0 := by
  unfold St.at_ YtkkdeljladihpaaGreat.St.at_
  rw [M.isSem n, M.tms.len]
  by_cases h1 : A.isSem n = false
  · rw [if_pos h1, if_pos h1]; exact ⟨rfl, M⟩
  rw [if_neg h1, if_neg h1]
  by_cases h2 : t < 0 ∨ t > 1152921504606846976
  · rw [if_pos h2, if_pos h2]; exact ⟨rfl, M⟩
  rw [if_neg h2, if_neg h2]
  by_cases h3 : A.timers.length ≥ 4096
  · rw [if_pos h3, if_pos h3]; exact ⟨rfl, M⟩
  rw [if_neg h3, if_neg h3]
  refine ⟨rfl, ?_⟩
  have M1 : SimX ({ A with made := A.made + 1, timers := pushT A.timers ⟨t, A.made + 1, n⟩ } : YtkkdeljladihpaaGreat.St) ({ B with timers := B.timers ++ [⟨t, n, B.last + 1⟩] } : St) 0 :=
    ⟨M.now, M.events, M.exc, M.len, M.prio, M.std, M.que, M.wqs, M.qk, M.wk, M.tms.push t n _, M.fl⟩
  exact M1.behind
theorem SimX.next (M : SimX A B 0) : B.next = A.next := by
  unfold St.next YtkkdeljladihpaaGreat.St.next
  cases hl : A.timers with
  | nil => rw [M.tms.none hl]; rfl
  | cons x q =>
    obtain ⟨i, hi, h1, h2, h3, h4, _⟩ := M.tms.pop (by rw [hl]; simp)
    rw [h1, if_neg (by omega), nthT_nat hi, h2, h4, hl]; rfl
theorem SimX.ticks (now : Int) : ∀ (f : Nat) (A : YtkkdeljladihpaaGreat.St) (B : St) (n : Int), SimX A B 0 → FitX A 0 → (St.ticks now f B n).2 = (YtkkdeljladihpaaGreat.St.ticks now f A n).2 ∧ SimX (YtkkdeljladihpaaGreat.St.ticks now f A n).1 (St.ticks now f B n).1 0
  | 0, A, B, n, M, F => ⟨rfl, M⟩
  | f + 1, A, B, n, M, F => by
    unfold St.ticks YtkkdeljladihpaaGreat.St.ticks
    by_cases hl : A.timers = []
    · rw [M.tms.none hl, if_neg (by omega), if_neg (fun h => h.1 hl)]; exact ⟨rfl, M⟩
    obtain ⟨i, hi, h1, h2, h3, h4, h5⟩ := M.tms.pop hl
    rw [h1, nthT_nat hi, h2, h3, h4, Int.toNat_natCast]
    by_cases hc : (YtkkdeljladihpaaGreat.St.nth A.timers 0).time ≤ now
    · rw [if_pos ⟨by omega, hc⟩, if_pos ⟨hl, hc⟩]
      have F1 := F.pop hl
      have M1 : SimX ({ A with timers := (popT A.timers).2 } : YtkkdeljladihpaaGreat.St) ({ B with timers := St.less B.timers i } : St) 0 :=
        ⟨M.now, M.events, M.exc, M.len, M.prio, M.std, M.que, M.wqs, M.qk, M.wk, h5, M.fl⟩
      rw [← h4]
      exact SimX.ticks now f _ _ (n + 1) (M1.signal0 F1 _).2 (F1.signal0 _)
    · rw [if_neg (fun h => hc h.2), if_neg (fun h => hc h.2)]; exact ⟨rfl, M⟩
theorem SimX.tick (M : SimX A B 0) (F : FitX A 0) (n : Int) : (B.tick n).1 = (A.tick n).1 ∧ SimX (A.tick n).2 (B.tick n).2 0 := by
  unfold St.tick YtkkdeljladihpaaGreat.St.tick
  rw [M.now, M.tms.len]
  by_cases h : n < A.now ∨ n > 1152921504606846976
  · rw [if_pos h, if_pos h]; exact ⟨rfl, M⟩
  rw [if_neg h, if_neg h]
  have F1 : FitX ({ A with now := n } : YtkkdeljladihpaaGreat.St) 0 := ⟨F.act, F.prio, F.que, F.nodup, F.inq, F.only, F.wtg, F.nwt, F.wq, F.wnd, F.exc, F.tms, F.evs, F.few⟩
  have M1 : SimX ({ A with now := n } : YtkkdeljladihpaaGreat.St) ({ B with now := n } : St) 0 := ⟨rfl, M.events, M.exc, M.len, M.prio, M.std, M.que, M.wqs, M.qk, M.wk, M.tms, M.fl⟩
  have h := SimX.ticks n A.timers.length _ _ 0 M1 F1
  exact ⟨by rw [h.1], h.2.runs (FitX.ticks _ _ _ F1)⟩
/-- The timers as numbers, one that goes first behind the other. -/
def selL : Nat → List Tm → List Int
  | 0, _ => []
  | f + 1, r => if St.nextI r < 0 then [] else (St.nthT r (St.nextI r)).time :: (St.nthT r (St.nextI r)).sem :: selL f (St.less r (St.nextI r).toNat)
theorem TmS.sel : ∀ (f : Nat) {l : List YtkkdeljladihpaaGreat.Tm} {made : Int} {r : List Tm} {u : List YtkkdeljladihpaaGreat.Tm}, TmS l made r → Vw l u → f = l.length → selL f r = u.flatMap tmL
  | 0, l, made, r, u, h, hV, hf => by
    have hl : l = [] := List.eq_nil_of_length_eq_zero hf.symm
    have hu : u = [] := by have := hV.perm.length_eq; rw [hl] at this; exact List.eq_nil_of_length_eq_zero this
    rw [hu]; rfl
  | f + 1, l, made, r, u, h, hV, hf => by
    have hl : l ≠ [] := by rintro rfl; simp at hf
    obtain ⟨i, hi, h1, h2, h3, h4, h5⟩ := h.pop hl
    obtain ⟨u', hu, hV'⟩ := hV.pop hl
    have hp := (YtkkdeljladihpaaGreat.St.popT_perm hl).length_eq
    unfold selL
    rw [h1, if_neg (by omega), nthT_nat hi, h2, h3, Int.toNat_natCast, TmS.sel f h5 hV' (by simp at hp; omega), hu]
    rfl
end
end R
end Go.Proofs.YtkkdeljladihpaaGreat
