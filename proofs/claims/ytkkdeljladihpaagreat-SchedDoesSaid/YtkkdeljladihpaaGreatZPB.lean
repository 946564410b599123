/-
  Parts of the proof: ZPA, ZPB. It states what the functions do; no further condition.
-/
import Derived.Test.YtkkdeljladihpaaGreatZSY
set_option linter.unusedVariables false
set_option linter.unusedSimpArgs false
/-
  The heap of timers, in plain Lean: what is pushed, what is popped. No program in sight.
-/
namespace Go.Proofs.YtkkdeljladihpaaGreat
namespace St
theorem lt_def (x y : Tm) : lt x y = true ↔ x.time < y.time ∨ (x.time = y.time ∧ x.made < y.made) := by
  unfold lt
  split
  · rename_i h; simp only [decide_eq_true_eq]; omega
  · rename_i h; simp only [decide_eq_true_eq]; omega
/-- Not behind. -/
def le (x y : Tm) : Prop := x.time < y.time ∨ (x.time = y.time ∧ x.made ≤ y.made)
theorem lt_not {x y : Tm} : lt y x = false ↔ le x y := by
  rw [Bool.eq_false_iff, ne_eq, lt_def]; unfold le; omega
theorem lt_le {x y : Tm} (h : lt x y = true) : le x y := by rw [lt_def] at h; unfold le; omega
theorem le_trans {x y z : Tm} (h : le x y) (k : le y z) : le x z := by unfold le at *; omega
theorem le_refl (x : Tm) : le x x := .inr ⟨rfl, Int.le_refl _⟩
abbrev par (i : Nat) : Nat := (i - 1) / 2
def Heap (l : List Tm) (n : Nat) : Prop := ∀ i, 0 < i → i < n → le (nth l (par i)) (nth l i)
theorem nth_swap {l : List Tm} {i j k : Nat} (hi : i < l.length) (hj : j < l.length) : nth (swap l i j) k = if k = j then nth l i else if k = i then nth l j else nth l k := by
  unfold swap
  show ((l.set i (nth l j)).set j (nth l i)).getD k _ = _
  rw [List.getD_eq_getElem?_getD]
  by_cases h1 : k = j
  · subst h1
    rw [if_pos rfl, List.getElem?_set_self (by rw [List.length_set]; exact hj)]; rfl
  · rw [if_neg h1, List.getElem?_set_ne (Ne.symm h1)]
    by_cases h2 : k = i
    · subst h2
      rw [if_pos rfl, List.getElem?_set_self hi]; rfl
    · rw [if_neg h2, List.getElem?_set_ne (Ne.symm h2)]
      unfold nth; rw [List.getD_eq_getElem?_getD]
theorem up_heap : ∀ (f : Nat) (l : List Tm) (j : Nat), j < f → j < l.length → (∀ i, 0 < i → i < l.length → i ≠ j → le (nth l (par i)) (nth l i)) → (∀ c, 0 < j → c < l.length → 0 < c → par c = j → le (nth l (par j)) (nth l c)) → Heap (up f l j) l.length
  | 0, l, j, h, _, _, _ => absurd h (Nat.not_lt_zero _)
  | f + 1, l, j, h, hj, h1, h2 => by
    unfold up
    split
    · rename_i hc
      intro i hi hil
      by_cases e : i = j
      · subst e
        rcases hc with hc | hc
        · have : par i < i := by unfold par; omega
          omega
        · exact lt_not.1 hc
      · exact h1 i hi hil e
    · rename_i hc
      simp only [not_or, Bool.not_eq_false] at hc
      obtain ⟨hc1, hc2⟩ := hc
      have hj0 : 0 < j := by omega
      have hp : (j - 1) / 2 < l.length := by omega
      have hn := fun k => nth_swap (l := l) (i := (j - 1) / 2) (j := j) (k := k) hp hj
      have ih := up_heap f (swap l ((j - 1) / 2) j) ((j - 1) / 2) (by omega) (by rw [swap_length]; exact hp) ?_ ?_
      · rw [swap_length] at ih; exact ih
      · intro i hi hil hne
        rw [swap_length] at hil
        rw [hn i, hn (par i)]
        by_cases e : i = j
        · subst e
          have e1 : par i = (i - 1) / 2 := rfl
          rw [if_pos rfl, e1, if_neg (by omega), if_pos rfl]
          exact lt_le hc2
        · rw [if_neg e, if_neg hne]
          by_cases e1 : par i = j
          · rw [if_pos e1]; exact h2 i hj0 hil hi e1
          · rw [if_neg e1]
            by_cases e2 : par i = (j - 1) / 2
            · rw [if_pos e2]
              have := h1 i hi hil e
              rw [e2] at this
              exact le_trans (lt_le hc2) this
            · rw [if_neg e2]; exact h1 i hi hil e
      · intro c hp0 hcl hc0 hcp
        rw [swap_length] at hcl
        rw [hn c, hn (par ((j - 1) / 2))]
        have q1 : par ((j - 1) / 2) ≠ j := by unfold par; omega
        have q2 : par ((j - 1) / 2) ≠ (j - 1) / 2 := by unfold par; omega
        rw [if_neg q1, if_neg q2]
        have hpp := h1 ((j - 1) / 2) hp0 hp (by omega)
        by_cases e : c = j
        · rw [if_pos e]; exact hpp
        · rw [if_neg e]
          have e2 : c ≠ (j - 1) / 2 := by unfold par at hcp; omega
          rw [if_neg e2]
          have := h1 c hc0 hcl e
          rw [hcp] at this
          exact le_trans hpp this
theorem nth_append {l : List Tm} {t : Tm} {k : Nat} : nth (l ++ [t]) k = if k = l.length then t else nth l k := by
  unfold nth
  rw [List.getD_eq_getElem?_getD, List.getD_eq_getElem?_getD]
  by_cases h : k < l.length
  · rw [List.getElem?_append_left h, if_neg (by omega)]
  · rw [List.getElem?_append_right (by omega)]
    by_cases e : k = l.length
    · rw [if_pos e, e, Nat.sub_self]; rfl
    · rw [if_neg e, List.getElem?_eq_none (by simp; omega), List.getElem?_eq_none (by omega)]
theorem push_heap {l : List Tm} {t : Tm} (h : Heap l l.length) : Heap (pushT l t) (l.length + 1) := by
  unfold pushT
  have := up_heap (l.length + 1) (l ++ [t]) l.length (by omega) (by simp) ?_ ?_
  · simpa using this
  · intro i hi hil hne
    have hil' : i < l.length := by simp at hil; omega
    rw [nth_append, nth_append, if_neg (by unfold par; omega), if_neg hne]
    exact h i hi hil'
  · intro c _ hcl hc0 hcp
    simp at hcl
    unfold par at hcp
    omega
theorem down_keep : ∀ (f : Nat) (l : List Tm) (i n k : Nat), i < l.length → n ≤ l.length → n ≤ k → i < n ∨ n ≤ 2 * i + 1 → nth (down f l i n) k = nth l k
  | 0, l, i, n, k, _, _, _, _ => rfl
  | f + 1, l, i, n, k, hi, hn, hk, hin => by
    unfold down
    split
    · rfl
    split
    · rfl
    · rename_i h1 h2
      have hkid := kid_lt (l := l) (i := i) (n := n) (by omega)
      rw [down_keep f _ _ _ _ (by rw [swap_length]; omega) (by rw [swap_length]; exact hn) hk (.inl hkid), nth_swap hi (by omega), if_neg (by omega), if_neg (by omega)]
theorem down_heap : ∀ (f : Nat) (l : List Tm) (i n : Nat), n ≤ i + f → i < l.length → n ≤ l.length → (∀ c, 0 < c → c < n → par c ≠ i → le (nth l (par c)) (nth l c)) → (∀ c, 0 < i → 0 < c → c < n → par c = i → le (nth l (par i)) (nth l c)) → Heap (down f l i n) n
  | 0, l, i, n, hf, hi, hn, h1, h2 => by
    intro c hc hcn
    exact h1 c hc hcn (by unfold par; omega)
  | f + 1, l, i, n, hf, hi, hn, h1, h2 => by
    unfold down
    split
    · rename_i hd
      intro c hc hcn
      exact h1 c hc hcn (by unfold par; omega)
    rename_i hd
    have hk := kid_lt (l := l) (i := i) (n := n) (by omega)
    have hkc : par (kid l i n) = i ∧ kid l i n ≠ i ∧ 0 < kid l i n := by unfold kid par; split <;> omega
    have hkm : ∀ c, 0 < c → c < n → par c = i → le (nth l (kid l i n)) (nth l c) := by
      intro c hc hcn hcp
      have hc2 : c = 2 * i + 1 ∨ c = 2 * i + 2 := by unfold par at hcp; omega
      unfold kid
      split
      · rename_i h
        rcases hc2 with rfl | rfl
        · exact lt_le h.2
        · exact le_refl _
      · rename_i h
        rcases hc2 with rfl | rfl
        · exact le_refl _
        · simp only [not_and, Bool.not_eq_true] at h
          exact lt_not.1 (h hcn)
    split
    · rename_i hlt
      intro c hc hcn
      by_cases e : par c = i
      · rw [e]; exact le_trans (lt_not.1 hlt) (hkm c hc hcn e)
      · exact h1 c hc hcn e
    · rename_i hlt
      have hlt : lt (nth l (kid l i n)) (nth l i) = true := by simpa using hlt
      have hns := fun k => nth_swap (l := l) (i := i) (j := kid l i n) (k := k) hi (by omega)
      have hk1 : i + 1 ≤ kid l i n := by unfold kid; split <;> omega
      refine down_heap f _ _ _ (by omega) (by rw [swap_length]; omega) (by rw [swap_length]; exact hn) ?_ ?_
      · intro c hc hcn hcp
        rw [hns c, hns (par c)]
        by_cases e : c = kid l i n
        · rw [if_pos e, e, hkc.1, if_neg (fun h => hkc.2.1 h.symm), if_pos rfl]
          exact lt_le hlt
        · rw [if_neg e, if_neg hcp]
          by_cases e1 : c = i
          · subst e1
            have hpc : par c ≠ c := by unfold par; omega
            rw [if_pos rfl, if_neg hpc]
            exact h2 _ hc hkc.2.2 hk hkc.1
          · rw [if_neg e1]
            by_cases e2 : par c = i
            · rw [if_pos e2]; exact hkm c hc hcn e2
            · rw [if_neg e2]; exact h1 c hc hcn e2
      · intro c _ hc hcn hcp
        rw [hkc.1, hns i, hns c, if_neg (fun h => hkc.2.1 h.symm), if_pos rfl]
        have e1 : c ≠ kid l i n := by unfold par at hcp; omega
        have e2 : c ≠ i := by
          have := hkc.1
          unfold par at hcp this; omega
        rw [if_neg e1, if_neg e2]
        have := h1 c hc hcn (by rw [hcp]; exact hkc.2.1)
        rw [hcp] at this; exact this
theorem heap_min {l : List Tm} {n : Nat} (h : Heap l n) : ∀ i, i < n → le (nth l 0) (nth l i) := by
  intro i
  induction i using Nat.strongRecOn with
  | _ i ih =>
    intro hi
    by_cases h0 : i = 0
    · subst h0; exact le_refl _
    · have hp : par i < i := by unfold par; omega
      exact le_trans (ih _ hp (by omega)) (h i (by omega) hi)
theorem nth_take {l : List Tm} {n k : Nat} (h : k < n) : nth (l.take n) k = nth l k := by
  unfold nth
  rw [List.getD_eq_getElem?_getD, List.getD_eq_getElem?_getD, List.getElem?_take_of_lt h]
theorem pop_heap {l : List Tm} (hne : l ≠ []) (h : Heap l l.length) : Heap (popT l).2 (popT l).2.length ∧ (popT l).1 = nth l 0 := by
  have hp := List.length_pos_iff.2 hne
  have hlast : l.length - 1 < l.length := by omega
  have hns := fun k => nth_swap (l := l) (i := 0) (j := l.length - 1) (k := k) hp hlast
  have hsl := swap_length l 0 (l.length - 1)
  have hd := down_heap l.length (swap l 0 (l.length - 1)) 0 (l.length - 1) (by omega) (by omega) (by omega) (fun c hc hcn hcp => by
    have hpc : par c < c := by unfold par; omega
    rw [hns c, hns (par c), if_neg (show ¬ c = l.length - 1 by omega), if_neg (show ¬ c = 0 by omega), if_neg (show ¬ par c = l.length - 1 by omega), if_neg hcp]
    exact h c hc (by omega)) (fun c h0 => absurd h0 (Nat.lt_irrefl _))
  have hk := down_keep l.length (swap l 0 (l.length - 1)) 0 (l.length - 1) (l.length - 1) (by omega) (by omega) (Nat.le_refl _) (by omega)
  have hlen : (down l.length (swap l 0 (l.length - 1)) 0 (l.length - 1)).length = l.length := by
    rw [(down_perm _ _ _ _ (by omega) (by omega)).length_eq, hsl]
  constructor
  · intro i hi hil
    have e : (popT l).2 = (down l.length (swap l 0 (l.length - 1)) 0 (l.length - 1)).take (l.length - 1) := rfl
    rw [e] at hil ⊢
    rw [List.length_take, hlen] at hil
    have hpi : par i < i := by unfold par; omega
    rw [nth_take (by omega), nth_take (by omega)]
    exact hd i hi (by omega)
  · show nth (down l.length (swap l 0 (l.length - 1)) 0 (l.length - 1)) (l.length - 1) = _
    rw [hk, hns, if_pos rfl]
/-- The timers in their order. -/
structure Vw (l v : List Tm) : Prop where
  perm : v.Perm l
  sorted : v.Pairwise fun x y => lt x y = true
  heap : Heap l l.length
def ins (t : Tm) : List Tm → List Tm
  | [] => [t]
  | x :: r => if x.time ≤ t.time then x :: ins t r else t :: x :: r
theorem ins_perm (t : Tm) : ∀ l, (ins t l).Perm (t :: l)
  | [] => List.Perm.refl _
  | x :: r => by
    unfold ins
    split
    · exact ((ins_perm t r).cons x).trans (List.Perm.swap t x r)
    · exact List.Perm.refl _
theorem ins_sorted {t : Tm} : ∀ {v : List Tm}, v.Pairwise (fun x y => lt x y = true) → (∀ x ∈ v, x.made < t.made) → (ins t v).Pairwise fun x y => lt x y = true
  | [], _, _ => by simp [ins]
  | x :: r, h, hm => by
    rw [List.pairwise_cons] at h
    unfold ins
    split
    · rename_i hx
      rw [List.pairwise_cons]
      refine ⟨fun y hy => ?_, ins_sorted h.2 fun z hz => hm z (List.mem_cons_of_mem _ hz)⟩
      rcases List.mem_cons.1 ((ins_perm t r).mem_iff.1 hy) with rfl | hy
      · rw [lt_def]
        have := hm x List.mem_cons_self
        omega
      · exact h.1 y hy
    · rename_i hx
      rw [List.pairwise_cons, List.pairwise_cons]
      refine ⟨fun y hy => ?_, h.1, h.2⟩
      rw [lt_def]
      rcases List.mem_cons.1 hy with rfl | hy
      · omega
      · have := h.1 y hy
        rw [lt_def] at this; omega
theorem Vw.push {l v : List Tm} {t : Tm} (h : Vw l v) (hm : ∀ x ∈ l, x.made < t.made) : Vw (pushT l t) (ins t v) := by
  have hp := pushT_perm l t
  refine ⟨?_, ins_sorted h.sorted fun x hx => hm x (h.perm.mem_iff.1 hx), ?_⟩
  · exact (ins_perm t v).trans ((h.perm.cons t).trans ((List.perm_append_singleton t l).symm.trans hp.symm))
  · rw [hp.length_eq, List.length_append]; exact push_heap h.heap
theorem Vw.pop {l v : List Tm} (h : Vw l v) (hne : l ≠ []) : ∃ v', v = (popT l).1 :: v' ∧ Vw (popT l).2 v' := by
  have hp := popT_perm hne
  have hh := pop_heap hne h.heap
  cases hv : v with
  | nil =>
    have := h.perm.length_eq
    rw [hv] at this
    have := List.length_pos_iff.2 hne
    simp at *; omega
  | cons a v' =>
    have hs := h.sorted
    rw [hv, List.pairwise_cons] at hs
    have hperm : ((popT l).1 :: (popT l).2).Perm (a :: v') := by rw [← hv]; exact hp.trans h.perm.symm
    have hxa : (popT l).1 = a := by
      rcases List.mem_cons.1 (hperm.mem_iff.1 List.mem_cons_self) with e | hx
      · exact e
      · have h1 := hs.1 _ hx
        have ha : a ∈ l := h.perm.mem_iff.1 (by rw [hv]; exact List.mem_cons_self)
        obtain ⟨i, hi, rfl⟩ := List.mem_iff_getElem.1 ha
        have h2 := heap_min h.heap i hi
        rw [nth_get hi, ← hh.2] at h2
        rw [lt_def] at h1
        unfold le at h2
        omega
    refine ⟨v', by rw [hxa], ?_, hs.2, hh.1⟩
    rw [hxa] at hperm
    exact hperm.cons_inv.symm
theorem Vw.nil : Vw [] [] := ⟨List.Perm.refl _, List.Pairwise.nil, fun i h1 h2 => by simp at h2⟩
theorem Vw.head {l v : List Tm} (h : Vw l v) (hne : l ≠ []) : ∃ v', v = nth l 0 :: v' := by
  obtain ⟨v', h1, _⟩ := h.pop hne
  exact ⟨v', by rw [h1, (pop_heap hne h.heap).2]⟩
end St
end Go.Proofs.YtkkdeljladihpaaGreat

/-
  Two states that differ in their timers alone: what goes on of one goes on of the other. No program in sight.
-/
namespace Go.Proofs.YtkkdeljladihpaaGreat
namespace St
/-- The same, but for the time and the timers. -/
def wt (A : St) (t : Int) (l : List Tm) (m : Int) : St := { A with now := t, timers := l, made := m }
theorem wt_self (A : St) : A.wt A.now A.timers A.made = A := rfl
theorem wt_takes (A : St) (t : Int) (l : List Tm) (m : Int) (p : Nat) : (A.wt t l m).takes p = (A.takes p).wt t l m := by
  unfold takes
  show (match A.queues p with | [] => _ | n :: r => _) = _
  cases A.queues p <;> rfl
theorem wt_runs (A : St) (t : Int) (l : List Tm) (m : Int) : (A.wt t l m).runs = A.runs.wt t l m := by
  unfold runs
  show (if 0 < A.active then (if (A.highest : Int) ≤ (A.pr A.active).prio then A.wt t l m else if 0 < A.highest then (A.yields.wt t l m).takes A.highest else A.yields.wt t l m) else if 0 < A.highest then (A.wt t l m).takes A.highest else A.wt t l m) = _
  by_cases h1 : 0 < A.active
  · rw [if_pos h1, if_pos h1]
    by_cases h2 : (A.highest : Int) ≤ (A.pr A.active).prio
    · rw [if_pos h2, if_pos h2]
    · rw [if_neg h2, if_neg h2]
      by_cases h3 : 0 < A.highest
      · rw [if_pos h3, if_pos h3, wt_takes]
      · rw [if_neg h3, if_neg h3]
  · rw [if_neg h1, if_neg h1]
    by_cases h3 : 0 < A.highest
    · rw [if_pos h3, if_pos h3, wt_takes]
    · rw [if_neg h3, if_neg h3]
theorem wt_signal0 (A : St) (t : Int) (l : List Tm) (m : Int) (n : Int) : (A.wt t l m).signal0 n = ((A.signal0 n).1, (A.signal0 n).2.wt t l m) := by
  unfold signal0
  show (if A.isSem n = false then _ else match (A.sm n.toNat).2 with | q :: r => _ | [] => if (A.sm n.toNat).1 ≥ 1073741824 then _ else _) = _
  by_cases h2 : A.isSem n = false
  · rw [if_pos h2, if_pos h2]
  rw [if_neg h2, if_neg h2]
  cases h : (A.sm n.toNat).2 with
  | cons q r => rfl
  | nil =>
    simp only
    by_cases h3 : (A.sm n.toNat).1 ≥ 1073741824
    · rw [if_pos h3, if_pos h3]
    · rw [if_neg h3, if_neg h3]; rfl
/-- What is not a clock's. -/
theorem wt_keeps {A A' : St} (h : A' = A'.wt A.now A.timers A.made) : A'.now = A.now ∧ A'.timers = A.timers ∧ A'.made = A.made :=
  ⟨by have := congrArg St.now h; exact this, by have := congrArg St.timers h; exact this, by have := congrArg St.made h; exact this⟩
/-! The timers of both. -/
def ts (t : Tm) : Int × Int := (t.time, t.sem)
structure Tmr (la : List Tm) (ma : Int) (lb : List Tm) (mb : Int) : Prop where
  views : ∃ va vb, Vw la va ∧ Vw lb vb ∧ va.map ts = vb.map ts
  a : ∀ t ∈ la, t.made ≤ ma
  b : ∀ t ∈ lb, t.made ≤ mb
variable {la lb : List Tm} {ma mb : Int}
theorem Tmr.len (h : Tmr la ma lb mb) : la.length = lb.length := by
  obtain ⟨va, vb, h1, h2, h3⟩ := h.views
  have := congrArg List.length h3
  rw [List.length_map, List.length_map, h1.perm.length_eq, h2.perm.length_eq] at this
  exact this
theorem ins_ts {t u : Tm} (h : ts t = ts u) : ∀ {va vb : List Tm}, va.map ts = vb.map ts → (ins t va).map ts = (ins u vb).map ts
  | [], [], _ => by simp [ins, h]
  | [], _ :: _, h => by simp at h
  | _ :: _, [], h => by simp at h
  | x :: r, y :: q, hm => by
    simp only [List.map_cons, List.cons.injEq] at hm
    have ht : t.time = u.time := congrArg Prod.fst h
    have hx : x.time = y.time := congrArg Prod.fst hm.1
    unfold ins
    by_cases h1 : x.time ≤ t.time
    · rw [if_pos h1, if_pos (by omega), List.map_cons, List.map_cons, ins_ts h hm.2, hm.1]
    · rw [if_neg h1, if_neg (by omega), List.map_cons, List.map_cons, List.map_cons, List.map_cons, h, hm.1, hm.2]
theorem Tmr.push (h : Tmr la ma lb mb) (t n : Int) : Tmr (pushT la ⟨t, ma + 1, n⟩) (ma + 1) (pushT lb ⟨t, mb + 1, n⟩) (mb + 1) := by
  obtain ⟨va, vb, h1, h2, h3⟩ := h.views
  refine ⟨⟨_, _, h1.push (t := ⟨t, ma + 1, n⟩) fun x hx => ?_, h2.push (t := ⟨t, mb + 1, n⟩) fun x hx => ?_, ins_ts (t := ⟨t, ma + 1, n⟩) (u := ⟨t, mb + 1, n⟩) rfl h3⟩, fun x hx => ?_, fun x hx => ?_⟩
  · have := h.a x hx; show _ < ma + 1; omega
  · have := h.b x hx; show _ < mb + 1; omega
  · rcases List.mem_append.1 ((pushT_perm la ⟨t, ma + 1, n⟩).mem_iff.1 hx) with hx | hx
    · have := h.a x hx; omega
    · simp only [List.mem_singleton] at hx; subst hx; exact Int.le_refl _
  · rcases List.mem_append.1 ((pushT_perm lb ⟨t, mb + 1, n⟩).mem_iff.1 hx) with hx | hx
    · have := h.b x hx; omega
    · simp only [List.mem_singleton] at hx; subst hx; exact Int.le_refl _
theorem Tmr.head (h : Tmr la ma lb mb) (hne : la ≠ []) : (nth la 0).time = (nth lb 0).time := by
  obtain ⟨va, vb, h1, h2, h3⟩ := h.views
  have hnb : lb ≠ [] := by
    intro e; have := h.len; rw [e] at this; exact hne (List.eq_nil_of_length_eq_zero this)
  obtain ⟨va', e1⟩ := h1.head hne
  obtain ⟨vb', e2⟩ := h2.head hnb
  rw [e1, e2, List.map_cons, List.map_cons, List.cons.injEq] at h3
  exact congrArg Prod.fst h3.1
theorem Tmr.pop (h : Tmr la ma lb mb) (hne : la ≠ []) : (popT la).1.sem = (popT lb).1.sem ∧ Tmr (popT la).2 ma (popT lb).2 mb := by
  obtain ⟨va, vb, h1, h2, h3⟩ := h.views
  have hnb : lb ≠ [] := by
    intro e; have := h.len; rw [e] at this; exact hne (List.eq_nil_of_length_eq_zero this)
  obtain ⟨va', e1, w1⟩ := h1.pop hne
  obtain ⟨vb', e2, w2⟩ := h2.pop hnb
  rw [e1, e2, List.map_cons, List.map_cons, List.cons.injEq] at h3
  refine ⟨congrArg Prod.snd h3.1, ⟨va', vb', w1, w2, h3.2⟩, fun x hx => h.a x ((popT_perm hne).mem_iff.1 (List.mem_cons_of_mem _ hx)), fun x hx => h.b x ((popT_perm hnb).mem_iff.1 (List.mem_cons_of_mem _ hx))⟩
/-- Two that go on alike. -/
structure Rel (A B : St) : Prop where
  eq : B = A.wt A.now B.timers B.made
  tm : Tmr A.timers A.made B.timers B.made
theorem Rel.same {A B : St} (R : Rel A B) {A' : St} (h : A' = A'.wt A.now A.timers A.made) : Rel A' (A'.wt A.now B.timers B.made) := by
  obtain ⟨h1, h2, h3⟩ := wt_keeps h
  refine ⟨by rw [h1]; rfl, ?_⟩
  rw [h2, h3]; exact R.tm
/-- An operation that knows no clock. -/
theorem Rel.op {β : Type} {f : St → β × St} (hf : ∀ A t l m, f (A.wt t l m) = ((f A).1, (f A).2.wt t l m)) {A B : St} (R : Rel A B) : (f A).1 = (f B).1 ∧ Rel (f A).2 (f B).2 := by
  have h1 := hf A A.now A.timers A.made
  rw [wt_self] at h1
  have h2 := hf A A.now B.timers B.made
  rw [← R.eq] at h2
  rw [h2]
  exact ⟨rfl, R.same (congrArg Prod.snd h1)⟩
theorem Rel.at_ {A B : St} (R : Rel A B) (n t : Int) : (A.at_ n t).1 = (B.at_ n t).1 ∧ Rel (A.at_ n t).2 (B.at_ n t).2 := by
  have hl := R.tm.len
  have he := R.eq
  have hs : B.isSem n = A.isSem n := by rw [he]; rfl
  unfold St.at_
  rw [hs, ← hl]
  by_cases h1 : A.isSem n = false
  · rw [if_pos h1, if_pos h1]; exact ⟨rfl, R⟩
  rw [if_neg h1, if_neg h1]
  by_cases h2 : t < 0 ∨ t > 1152921504606846976
  · rw [if_pos h2, if_pos h2]; exact ⟨rfl, R⟩
  rw [if_neg h2, if_neg h2]
  by_cases h3 : A.timers.length ≥ 4096
  · rw [if_pos h3, if_pos h3]; exact ⟨rfl, R⟩
  rw [if_neg h3, if_neg h3]
  refine ⟨rfl, ?_, R.tm.push t n⟩
  show ({ B with made := B.made + 1, timers := pushT B.timers ⟨t, B.made + 1, n⟩ } : St) = A.wt A.now (pushT B.timers ⟨t, B.made + 1, n⟩) (B.made + 1)
  conv => lhs; rw [he]
  rfl
theorem Rel.ticks (now : Int) : ∀ (f : Nat) {A B : St} (n : Int), Rel A B → (St.ticks now f A n).2 = (St.ticks now f B n).2 ∧ Rel (St.ticks now f A n).1 (St.ticks now f B n).1
  | 0, A, B, n, R => ⟨rfl, R⟩
  | f + 1, A, B, n, R => by
    have hl := R.tm.len
    unfold St.ticks
    by_cases hne : A.timers = []
    · have hb : B.timers = [] := by rw [hne] at hl; exact List.eq_nil_of_length_eq_zero hl.symm
      rw [if_neg (fun h => h.1 hne), if_neg (fun h => h.1 hb)]; exact ⟨rfl, R⟩
    have hnb : B.timers ≠ [] := by
      intro e; rw [e] at hl; exact hne (List.eq_nil_of_length_eq_zero hl)
    have hh := R.tm.head hne
    by_cases ht : (nth A.timers 0).time ≤ now
    · rw [if_pos ⟨hne, ht⟩, if_pos ⟨hnb, by rw [← hh]; exact ht⟩]
      have hp := R.tm.pop hne
      rw [← hp.1]
      have R1 : Rel ({ A with timers := (popT A.timers).2 } : St) ({ B with timers := (popT B.timers).2 } : St) := by
        refine ⟨?_, hp.2⟩
        show ({ B with timers := (popT B.timers).2 } : St) = A.wt A.now (popT B.timers).2 B.made
        conv => lhs; rw [R.eq]
        rfl
      exact Rel.ticks now f (n + 1) (Rel.op (f := fun X => X.signal0 (popT A.timers).1.sem) (fun A t l m => wt_signal0 A t l m _) R1).2
    · rw [if_neg (fun h => ht h.2), if_neg (fun h => ht (by rw [hh]; exact h.2))]; exact ⟨rfl, R⟩
theorem Rel.runs {A B : St} (R : Rel A B) : Rel A.runs B.runs := (Rel.op (f := fun X => ((), X.runs)) (fun A t l m => by rw [wt_runs]) R).2
theorem Rel.tick {A B : St} (R : Rel A B) (x : Int) : (A.tick x).1 = (B.tick x).1 ∧ Rel (A.tick x).2 (B.tick x).2 := by
  have hl := R.tm.len
  have hn : B.now = A.now := by have := congrArg St.now R.eq; exact this
  unfold St.tick
  rw [hn, ← hl]
  by_cases h1 : x < A.now ∨ x > 1152921504606846976
  · rw [if_pos h1, if_pos h1]; exact ⟨rfl, R⟩
  rw [if_neg h1, if_neg h1]
  have R1 : Rel ({ A with now := x } : St) ({ B with now := x } : St) := by
    refine ⟨?_, R.tm⟩
    show ({ B with now := x } : St) = ({ A with now := x } : St).wt x B.timers B.made
    conv => lhs; rw [R.eq]
    rfl
  have h := Rel.ticks x A.timers.length 0 R1
  exact ⟨by rw [h.1], h.2.runs⟩
/-- One sorted row there is. -/
theorem sorted_eq : ∀ {v u : List Tm}, v.Perm u → v.Pairwise (fun x y => lt y x = false) → u.Pairwise (fun x y => lt x y = true) → v = u
  | [], u, hp, _, _ => (hp.symm.eq_nil).symm
  | x :: r, [], hp, _, _ => by have := hp.length_eq; simp at this
  | x :: r, a :: q, hp, h1, h2 => by
    rw [List.pairwise_cons] at h1 h2
    have hxa : x = a := by
      rcases List.mem_cons.1 (hp.mem_iff.1 List.mem_cons_self) with e | hx
      · exact e
      · have h3 := h2.1 x hx
        rcases List.mem_cons.1 (hp.mem_iff.2 (List.mem_cons_self (a := a))) with e | ha
        · exact e.symm
        · have := h1.1 a ha
          rw [h3] at this; cases this
    subst hxa
    rw [sorted_eq hp.cons_inv h1.2 h2.2]
end St
end Go.Proofs.YtkkdeljladihpaaGreat
