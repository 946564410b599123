/-
  A region that draws, along the very order that is drawn: that what evDrawO computes is what the region does.
-/
import Derived.Test.YtckfidopkajpaaaShG2
set_option linter.unusedVariables false
set_option linter.unusedSimpArgs false
namespace Go.Sh
set_option linter.unusedVariables false
/-! ### Orders -/
/-- What an order that is drawn is. -/
structure OrdOk (ops : Array Oper) (o : List Nat) : Prop where
  nodup : o.Nodup
  lt : ∀ j ∈ o, j < ops.size
  req : ∀ p j s, o = p ++ j :: s → ∀ oj, ops[j]? = some oj → ∀ e ∈ oj.after, Region.binds .any e = true → e.on ∈ p
  all : ∀ i oi, ops[i]? = some oi → (∀ e ∈ oi.after, Region.binds .any e = true → e.on ∈ o) → i ∈ o
/-- The same, behind what is listed. -/
structure OrdIn (ops : Array Oper) (listed : Array Bool) (o : List Nat) : Prop where
  nodup : o.Nodup
  un : ∀ j ∈ o, j < ops.size ∧ listed.getD j true = false
  req : ∀ p j s, o = p ++ j :: s → ∀ oj, ops[j]? = some oj → ∀ e ∈ oj.after, Region.binds .any e = true → listed.getD e.on false = true ∨ e.on ∈ p
  all : ∀ i oi, ops[i]? = some oi → listed.getD i true = false → (∀ e ∈ oi.after, Region.binds .any e = true → listed.getD e.on false = true ∨ e.on ∈ o) → i ∈ o
def unl (n : Nat) (listed : Array Bool) : Nat := (List.range n).countP fun j => !listed.getD j true
theorem getD_set_self {listed : Array Bool} {i : Nat} (d : Bool) (h : i < listed.size) : (listed.setIfInBounds i true).getD i d = true := by
  simp [Array.getD_eq_getD_getElem?, h]
theorem lt_of_un {listed : Array Bool} {i : Nat} (h : listed.getD i true = false) : i < listed.size := by
  rcases Nat.lt_or_ge i listed.size with h' | h'
  · exact h'
  · simp [h'] at h
theorem unl_set {n : Nat} {listed : Array Bool} {i : Nat} (hn : i < n) (h : listed.getD i true = false) : unl n listed = unl n (listed.setIfInBounds i true) + 1 := by
  unfold unl
  refine countP_one (i := i) ?_ ?_ ?_ _ List.nodup_range (List.mem_range.2 hn)
  · rw [getD_set_self true (lt_of_un h)]; rfl
  · rw [h]; rfl
  · intro j hj
    rw [getD_set_ne true (Ne.symm hj)]
theorem ordIn_go (ops : Array Oper) : ∀ (fuel t : Nat) (listed : Array Bool), unl ops.size listed ≤ fuel → OrdIn ops listed (Region.linearise.go .any ops fuel t listed []) := by
  intro fuel
  induction fuel with
  | zero =>
    intro t listed hu
    simp only [Region.linearise.go, List.reverse_nil]
    refine ⟨.nil, by simp, fun p j s h => by simp at h, fun i oi hi hl _ => ?_⟩
    have hlt := (Array.getElem?_eq_some_iff.1 hi).1
    have := unl_set hlt hl
    omega
  | succ fuel ih =>
    intro t listed hu
    have hgo : Region.linearise.go .any ops (fuel + 1) t listed [] = (match (Region.ready .any ops listed)[t % (Region.ready .any ops listed).length]? with
      | some i => Region.linearise.go .any ops fuel (t / (Region.ready .any ops listed).length) (listed.setIfInBounds i true) [i]
      | none => [].reverse) := rfl
    rw [hgo]
    cases hi : (Region.ready .any ops listed)[t % (Region.ready .any ops listed).length]? with
    | none =>
      have hnil : Region.ready .any ops listed = [] := by
        cases hr : Region.ready .any ops listed with
        | nil => rfl
        | cons x xs =>
          rw [hr] at hi
          have hlt : t % (x :: xs).length < (x :: xs).length := Nat.mod_lt _ (by simp)
          rw [List.getElem?_eq_getElem hlt] at hi
          cases hi
      simp only [List.reverse_nil]
      refine ⟨.nil, by simp, fun p j s h => by simp at h, fun i oi hoi hl hreq => ?_⟩
      have : i ∈ Region.ready .any ops listed := mem_ready.2 ⟨hl, oi, hoi, fun e he hb => (hreq e he hb).elim id (by simp)⟩
      rw [hnil] at this
      cases this
    | some i =>
      simp only []
      rw [linearise_go_acc, List.reverse_singleton, List.singleton_append]
      have hmem := List.mem_of_getElem? hi
      obtain ⟨hun, oi, hoi, hri⟩ := mem_ready.1 hmem
      have hlt := (Array.getElem?_eq_some_iff.1 hoi).1
      have hu' := unl_set hlt hun
      obtain ⟨h1, h2, h3, h4⟩ := ih (t / (Region.ready .any ops listed).length) (listed.setIfInBounds i true) (by omega)
      generalize Region.linearise.go .any ops fuel (t / (Region.ready .any ops listed).length) (listed.setIfInBounds i true) [] = o at h1 h2 h3 h4 ⊢
      have hset : ∀ k, (listed.setIfInBounds i true).getD k false = true → k = i ∨ listed.getD k false = true := fun k hk => by
        by_cases hik : i = k
        · exact .inl hik.symm
        · rw [getD_set_ne false hik] at hk; exact .inr hk
      refine ⟨List.nodup_cons.2 ⟨fun hm => ?_, h1⟩, ?_, ?_, ?_⟩
      · have := (h2 i hm).2
        rw [getD_set_self true (lt_of_un hun)] at this
        cases this
      · intro j hj
        rcases List.mem_cons.1 hj with rfl | hj
        · exact ⟨hlt, hun⟩
        · have := h2 j hj
          refine ⟨this.1, ?_⟩
          by_cases hij : i = j
          · subst hij; exact hun
          · rw [← getD_set_ne true hij]; exact this.2
      · intro p j s he oj hoj e hea hb
        cases p with
        | nil =>
          simp only [List.nil_append, List.cons.injEq] at he
          obtain ⟨rfl, rfl⟩ := he
          rw [hoi] at hoj; cases hoj
          exact .inl (hri e hea hb)
        | cons x p =>
          simp only [List.cons_append, List.cons.injEq] at he
          obtain ⟨rfl, he⟩ := he
          rcases h3 p j s he oj hoj e hea hb with h | h
          · rcases hset _ h with h | h
            · exact .inr (by simp [h])
            · exact .inl h
          · exact .inr (.tail _ h)
      · intro j oj hoj hl hreq
        by_cases hij : i = j
        · subst hij; simp
        · refine .tail _ (h4 j oj hoj (by rw [getD_set_ne true hij]; exact hl) fun e he hb => ?_)
          rcases hreq e he hb with h | h
          · exact .inl (by
              by_cases hie : i = e.on
              · rw [← hie]; exact getD_set_self false (lt_of_un hun)
              · rw [getD_set_ne false hie]; exact h)
          · rcases List.mem_cons.1 h with h | h
            · exact .inl (by rw [h]; exact getD_set_self false (lt_of_un hun))
            · exact .inr h
theorem ordOk_schedule (ops : Array Oper) (t : Nat) : OrdOk ops (Region.schedule true ops t) := by
  have hs : Region.schedule true ops t = Region.linearise.go .any ops ops.size t (Array.replicate ops.size false) [] := by
    simp [Region.schedule, Region.linearise]
  have hu : unl ops.size (Array.replicate ops.size false) ≤ ops.size := by
    have : unl ops.size (Array.replicate ops.size false) ≤ (List.range ops.size).length := List.countP_le_length
    simpa using this
  obtain ⟨h1, h2, h3, h4⟩ := ordIn_go ops ops.size t _ hu
  rw [hs]
  have hf : ∀ k, (Array.replicate ops.size false).getD k false = false := fun k => by
    rw [Array.getD_eq_getD_getElem?, Array.getElem?_replicate]; split <;> rfl
  refine ⟨h1, fun j hj => (h2 j hj).1, fun p j s he oj hoj e hea hb => ?_, fun i oi hoi hreq => ?_⟩
  · rcases h3 p j s he oj hoj e hea hb with h | h
    · rw [hf] at h; cases h
    · exact h
  · have hlt := (Array.getElem?_eq_some_iff.1 hoi).1
    exact h4 i oi hoi (by simp [hlt]) fun e he hb => .inr (hreq e he hb)
/-! ### The table -/
theorem tabB_spec {ops : Array Oper} {tab : List (Nat × Nat)} (h : tabB ops tab = true) {i : Nat} {oi : Oper} (hi : ops[i]? = some oi) :
    (∀ e ∈ oi.after, e.on < ops.size) ∧ ∀ j oj, ops[j]? = some oj → (nthT tab i).1.testBit j = reqs oi j ∧ ((nthT tab i).2.testBit j = true → reqs oj i = true ∨ oi.apart ops oj = true) := by
  have hlt := (Array.getElem?_eq_some_iff.1 hi).1
  unfold tabB at h
  have h1 := List.all_eq_true.1 h i (List.mem_range.2 hlt)
  simp only [hi, Bool.and_eq_true] at h1
  refine ⟨fun e he => ?_, fun j oj hj => ?_⟩
  · have := Array.all_eq_true'.1 h1.1 e he
    exact Nat.le_of_ble_eq_true this
  · have hjl := (Array.getElem?_eq_some_iff.1 hj).1
    have h2 := List.all_eq_true.1 h1.2 j (List.mem_range.2 hjl)
    simp only [hj, Bool.and_eq_true, beq_iff_eq, Bool.or_eq_true, Bool.not_eq_true'] at h2
    refine ⟨h2.1, fun hb => ?_⟩
    rcases h2.2 with (h3 | h3) | h3
    · rw [hb] at h3; cases h3
    · exact .inl h3
    · exact .inr h3
theorem reqs_true {o : Oper} {k : Nat} (h : reqs o k = true) : ∃ e ∈ o.after, Region.binds .any e = true ∧ e.on = k := by
  unfold reqs at h
  obtain ⟨e, he, hb⟩ := Array.any_eq_true'.1 h
  simp only [Bool.and_eq_true] at hb
  exact ⟨e, he, hb.1, Nat.eq_of_beq_eq_true hb.2⟩
theorem reqs_of {o : Oper} {e : Edge} (he : e ∈ o.after) (hb : Region.binds .any e = true) : reqs o e.on = true := by
  unfold reqs
  exact Array.any_eq_true'.2 ⟨e, he, by simp [hb]⟩
theorem testBit_del (rm i k : Nat) (h : rm.testBit i = true) : (del rm i).testBit k = (rm.testBit k && !decide (k = i)) := by
  unfold del
  rw [Nat.testBit_xor, Nat.testBit_two_pow]
  by_cases hk : k = i
  · subst hk; simp [h]
  · have : ¬ i = k := fun h => hk h.symm
    simp [hk, this]
theorem and_zero {a b : Nat} (h : Nat.beq (a &&& b) 0 = true) (k : Nat) : a.testBit k = true → b.testBit k = false := by
  intro ha
  have h0 := Nat.eq_of_beq_eq_true h
  have : (a &&& b).testBit k = false := by rw [h0]; simp
  rw [Nat.testBit_and, ha, Bool.true_and] at this
  exact this
theorem and_nonzero {a b : Nat} (h : Nat.beq (a &&& b) 0 = false) : ∃ k, a.testBit k = true ∧ b.testBit k = true := by
  have h0 : a &&& b ≠ 0 := fun e => by rw [e] at h; cases h
  obtain ⟨k, hk⟩ := Nat.exists_testBit_of_ne_zero h0
  rw [Nat.testBit_and, Bool.and_eq_true] at hk
  exact ⟨k, hk⟩
theorem and_self_sub {a b : Nat} (h : Nat.beq (a &&& b) b = true) (k : Nat) (hk : b.testBit k = true) : a.testBit k = true := by
  have h0 := Nat.eq_of_beq_eq_true h
  have : (a &&& b).testBit k = true := by rw [h0]; exact hk
  rw [Nat.testBit_and, Bool.and_eq_true] at this
  exact this.1
/-- What is left of an order. -/
abbrev left (o : List Nat) (rm : Nat) : List Nat := o.filter fun j => rm.testBit j
structure Inv (ops : Array Oper) (o : List Nat) (rm : Nat) : Prop where
  lt : ∀ j, rm.testBit j = true → j < ops.size
  gone : ∀ j, j < ops.size → rm.testBit j = false → j ∈ o
theorem Inv.del {ops : Array Oper} {o : List Nat} {rm i : Nat} (h : Inv ops o rm) (hi : rm.testBit i = true) (hm : i ∈ o) : Inv ops o (Go.Sh.del rm i) := by
  refine ⟨fun j hj => ?_, fun j hj hf => ?_⟩
  · rw [testBit_del _ _ _ hi, Bool.and_eq_true] at hj; exact h.lt j hj.1
  · rw [testBit_del _ _ _ hi] at hf
    by_cases hji : j = i
    · subst hji; exact hm
    · simp only [hji, decide_false, Bool.not_false, Bool.and_true] at hf
      exact h.gone j hj hf
section
variable {ops : Array Oper} {tab : List (Nat × Nat)} {o : List Nat} {rm i : Nat}
theorem in_order (hO : OrdOk ops o) (hI : Inv ops o rm) (ht : tabB ops tab = true) (hi : rm.testBit i = true) (hr : Nat.beq ((nthT tab i).1 &&& rm) 0 = true) : i ∈ o := by
  have hlt := hI.lt i hi
  obtain ⟨oi, hoi⟩ : ∃ oi, ops[i]? = some oi := ⟨_, Array.getElem?_eq_getElem hlt⟩
  refine hO.all i oi hoi fun e he hb => ?_
  obtain ⟨t1, t2⟩ := tabB_spec ht hoi
  have hel := t1 e he
  obtain ⟨oe, hoe⟩ : ∃ oe, ops[e.on]? = some oe := ⟨_, Array.getElem?_eq_getElem hel⟩
  refine hI.gone _ hel (and_zero hr _ ?_)
  rw [(t2 _ oe hoe).1]
  exact reqs_of he hb
theorem filter_off {l : List Nat} (h : i ∉ l) (hi : rm.testBit i = true) : left l (del rm i) = left l rm := by
  refine List.filter_congr fun j hj => ?_
  have : j ≠ i := fun e => h (e ▸ hj)
  rw [testBit_del _ _ _ hi]
  simp [this]
/-- A quiet one, ahead. -/
theorem quiet_at (hO : OrdOk ops o) (hI : Inv ops o rm) (ht : tabB ops tab = true) (hq : quietOk tab rm i = true) :
    rm.testBit i = true ∧ i ∈ o ∧ ∃ p s, left o rm = p ++ i :: s ∧ left o (del rm i) = p ++ s ∧ i ∉ p ∧
      ∀ j ∈ p, j < ops.size ∧ ∀ oi oj, ops[i]? = some oi → ops[j]? = some oj → oi.apart ops oj = true ∧ (nthT tab j).1.testBit i = false := by
  unfold quietOk at hq
  simp only [Bool.and_eq_true] at hq
  obtain ⟨⟨h1, h2⟩, h3⟩ := hq
  have hm := in_order hO hI ht h1 h2
  obtain ⟨p0, s0, rfl⟩ := List.append_of_mem hm
  have hnd := hO.nodup
  rw [List.nodup_append] at hnd
  obtain ⟨n1, n2, n3⟩ := hnd
  have hip : i ∉ p0 := fun h => n3 i h i (by simp) rfl
  have his : i ∉ s0 := (List.nodup_cons.1 n2).1
  refine ⟨h1, hm, left p0 rm, left s0 rm, ?_, ?_, ?_, ?_⟩
  · simp [left, List.filter_append, List.filter_cons, h1]
  · have : (del rm i).testBit i = false := by rw [testBit_del _ _ _ h1]; simp
    show ((p0 ++ i :: s0).filter _) = _
    rw [List.filter_append, List.filter_cons, this]
    simp only [Bool.false_eq_true, if_false]
    exact congr (congrArg _ (filter_off hip h1)) (filter_off his h1)
  · exact fun h => hip (List.mem_filter.1 h).1
  · intro j hj
    obtain ⟨hj1, hj2⟩ := List.mem_filter.1 hj
    have hjl := hI.lt j hj2
    refine ⟨hjl, fun oi oj hoi hoj => ?_⟩
    have hji : j ≠ i := fun e => hip (e ▸ hj1)
    obtain ⟨pa, pb, rfl⟩ := List.append_of_mem hj1
    have hno : reqs oj i = false := by
      cases hh : reqs oj i with
      | false => rfl
      | true =>
        obtain ⟨e, he, hb, hon⟩ := reqs_true hh
        have := hO.req pa j (pb ++ i :: s0) (by simp) oj hoj e he hb
        rw [hon] at this
        exact absurd (List.mem_append_left _ this) hip
    have hA := and_self_sub h3 j hj2
    rw [Nat.testBit_or, Nat.testBit_two_pow, decide_eq_false (fun e => hji e.symm), Bool.or_false] at hA
    obtain ⟨_, t2⟩ := tabB_spec ht hoi
    obtain ⟨_, t2'⟩ := tabB_spec ht hoj
    refine ⟨?_, by rw [(t2' i oi hoi).1]; exact hno⟩
    rcases (t2 j oj hoj).2 hA with h | h
    · rw [hno] at h; cases h
    · exact h
/-- A loud one, next. -/
theorem loud_at {j : Nat} (hO : OrdOk ops o) (hI : Inv ops o rm) (ht : tabB ops tab = true) (hq : loudOk ops.size tab rm i j = true) (hj : rm.testBit j = true) :
    rm.testBit i = true ∧ ∃ h s, (h = i ∨ h = j) ∧ h ∈ o ∧ left o rm = h :: s ∧ left o (del rm h) = s ∧ (i ≠ j → bef o i j = decide (h = i)) := by
  unfold loudOk at hq
  simp only [Bool.and_eq_true] at hq
  obtain ⟨⟨h1, h2⟩, h3⟩ := hq
  have hm := in_order hO hI ht h1 h2
  have key : ∀ (l : List Nat), (∃ x ∈ l, rm.testBit x = true) → ∃ p h s, l = p ++ h :: s ∧ (∀ x ∈ p, rm.testBit x = false) ∧ rm.testBit h = true := by
    intro l
    induction l with
    | nil => rintro ⟨x, hx, _⟩; cases hx
    | cons y l ih =>
      rintro ⟨x, hx, hb⟩
      cases hy : rm.testBit y with
      | true => exact ⟨[], y, l, rfl, by simp, hy⟩
      | false =>
        have hx' : x ∈ l := by
          rcases List.mem_cons.1 hx with rfl | h
          · rw [hy] at hb; cases hb
          · exact h
        obtain ⟨p, h, s, e1, e2, e3⟩ := ih ⟨x, hx', hb⟩
        exact ⟨y :: p, h, s, by rw [e1]; rfl, fun z hz => (List.mem_cons.1 hz).elim (fun e => e ▸ hy) (e2 z), e3⟩
  obtain ⟨p, h, s, rfl, hp, hh⟩ := key o ⟨i, hm, h1⟩
  have hhl := hI.lt h hh
  obtain ⟨oh, hoh⟩ : ∃ oh, ops[h]? = some oh := ⟨_, Array.getElem?_eq_getElem hhl⟩
  have hij : h = i ∨ h = j := by
    have h4 := List.all_eq_true.1 h3 h (List.mem_range.2 hhl)
    simp only [Bool.or_eq_true, Bool.not_eq_true'] at h4
    rcases h4 with ((h4 | h4) | h4) | h4
    · exact .inl (Nat.eq_of_beq_eq_true h4)
    · exact .inr (Nat.eq_of_beq_eq_true h4)
    · rw [hh] at h4; cases h4
    · obtain ⟨k, k1, k2⟩ := and_nonzero h4
      obtain ⟨_, t2⟩ := tabB_spec ht hoh
      have hkl := hI.lt k k2
      obtain ⟨ok, hok⟩ : ∃ ok, ops[k]? = some ok := ⟨_, Array.getElem?_eq_getElem hkl⟩
      rw [(t2 k ok hok).1] at k1
      obtain ⟨e, he, hb, hon⟩ := reqs_true k1
      have := hO.req p h s rfl oh hoh e he hb
      rw [hon] at this
      rw [hp k this] at k2
      cases k2
  have hnd := hO.nodup
  rw [List.nodup_append] at hnd
  obtain ⟨n1, n2, n3⟩ := hnd
  have hhs : h ∉ s := (List.nodup_cons.1 n2).1
  have hpf : ∀ rm' : Nat, (∀ x ∈ p, rm'.testBit x = false) → p.filter (fun j => rm'.testBit j) = [] := fun rm' hx => List.filter_eq_nil_iff.2 fun a ha => by rw [hx a ha]; simp
  refine ⟨h1, h, left s rm, hij, by simp, ?_, ?_, ?_⟩
  · show ((p ++ h :: s).filter _) = _
    rw [List.filter_append, hpf rm hp, List.filter_cons, hh]; rfl
  · have hd : (del rm h).testBit h = false := by rw [testBit_del _ _ _ hh]; simp
    show ((p ++ h :: s).filter _) = _
    rw [List.filter_append, hpf _ (fun x hx => by rw [testBit_del _ _ _ hh, hp x hx]; rfl), List.filter_cons, hd]
    simp only [Bool.false_eq_true, if_false, List.nil_append]
    exact filter_off hhs hh
  · intro hne
    clear hO hI hm n1 n2 n3 hpf
    induction p with
    | nil =>
      rw [List.nil_append]
      unfold bef
      rcases hij with rfl | rfl
      · simp
      · rw [show Nat.beq h i = false from beq_ne (Ne.symm hne)]; simp [Ne.symm hne]
    | cons y p ih =>
      have hy := hp y (by simp)
      have y1 : y ≠ i := fun e => by rw [e, h1] at hy; cases hy
      have y2 : y ≠ j := fun e => by rw [e, hj] at hy; cases hy
      rw [List.cons_append]
      unfold bef
      rw [beq_ne y1, beq_ne y2]
      exact ih (fun x hx => hp x (.tail _ hx))
end
/-! ### Along the order -/
section
variable {P : Program} {ops : Array Oper} {Q : Exit → Act → World → Prop}
def lo (P : Program) (ops : Array Oper) (i : Nat) : Nat := if loudAt P ops i then 1 else 0
def lou (P : Program) (ops : Array Oper) : List Nat → Nat
  | [] => 0
  | i :: l => lo P ops i + lou P ops l
theorem lou_append (l l' : List Nat) : lou P ops (l ++ l') = lou P ops l + lou P ops l' := by
  induction l with
  | nil => simp [lou]
  | cons i l ih => simp only [List.cons_append, lou, ih]; omega
def VO (P : Program) (ops : Array Oper) (Q : Exit → Act → World → Prop) : (Nat → World) → List Nat → Act → Prop
  | ws, [], a => Q .normal a (ws 0)
  | ws, i :: l, a => wpOp P ops Q i (fun a' w' => w' = ws (lo P ops i) ∧ VO P ops Q (fun n => ws (lo P ops i + n)) l a') a (ws 0)
theorem wpOps_of_VO : ∀ (l : List Nat) (ws : Nat → World) (a : Act), VO P ops Q ws l a → wpOps P ops Q l a (ws 0)
  | [], _, _, h => h
  | i :: l, ws, a, h => by
    rw [wpOps_cons]
    exact wpOp_mono (fun a' w' h' => by rw [h'.1]; exact wpOps_of_VO l _ a' h'.2) h
theorem VO_first {i : Nat} {oi : Oper} {v : Value} (hi : ops[i]? = some oi) (hq : loudAt P ops i = false)
    (hsel : ∀ (j : Nat) (o : Oper) cs b, ops[j]? = some o → o.op ≠ .select cs b) (hQ : ∀ c a w, Q (.panic c) (a.put oi.dst v) w → Q (.panic c) a w) :
    ∀ (p s : List Nat) (ws : Nat → World) (a : Act), (∀ j ∈ p, j < ops.size ∧ ∀ oj, ops[j]? = some oj → oi.apart ops oj = true) →
      YieldsIf P ops (fun w => ∃ q1 q2, p = q1 ++ q2 ∧ w = ws (lou P ops q1)) oi v a → VO P ops Q ws (p ++ s) (a.put oi.dst v) → VO P ops Q ws (p ++ i :: s) a := by
  intro p
  induction p with
  | nil =>
    intro s ws a _ hy H
    have h0 : lo P ops i = 0 := by simp [lo, hq]
    refine hy.wpOp hi ⟨[], [], rfl, rfl⟩ ⟨by rw [h0], ?_⟩
    have : (fun n => ws (lo P ops i + n)) = ws := by funext n; rw [h0, Nat.zero_add]
    rw [this]
    exact H
  | cons j p ih =>
    intro s ws a hap hy H
    obtain ⟨hjl, hja⟩ := hap j (by simp)
    obtain ⟨oj, hoj⟩ : ∃ oj, ops[j]? = some oj := ⟨_, Array.getElem?_eq_getElem hjl⟩
    have h2 := wpOp_putIf hoj (hja oj hoj) (fun cs b => hsel i oi cs b hi) (fun cs b => hsel j oj cs b hoj) hQ hy H
    refine wpOp_mono (fun a' w' h3 => ?_) h2
    obtain ⟨hy', hw', hv'⟩ := h3
    refine ⟨hw', ih s _ a' (fun k hk => hap k (.tail _ hk)) ?_ hv'⟩
    exact hy'.imp (fun ⟨h4, h5⟩ => ⟨h4, fun w ⟨q1, q2, e1, e2⟩ => h5 w ⟨j :: q1, q2, by rw [e1]; rfl, e2⟩⟩) id
end
theorem chkO_some : ∀ (l : List FlO) {w w' : World} {u : Unit}, chkO l w = some (u, w') → w' = w ∧ ∀ f ∈ l, ld f.t f.p w = some (f.x, w)
  | [], w, w', u, h => by
    simp only [chkO, ret, Option.some.injEq, Prod.mk.injEq] at h
    exact ⟨h.2.symm, by simp⟩
  | f :: l, w, w', u, h => by
    simp only [chkO, bnd_some] at h
    obtain ⟨x, w1, h1, h2⟩ := h
    obtain ⟨rfl, h3⟩ := chk_some h1
    obtain ⟨rfl, h4⟩ := chkO_some l h2
    exact ⟨rfl, fun g hg => (List.mem_cons.1 hg).elim (fun e => e ▸ h3) (h4 g)⟩
theorem keepO_mem {tab : List (Nat × Nat)} {i : Nat} {f : FlO} : ∀ {l : List FlO}, f ∈ l → (nthT tab i).1.testBit f.i = false → f ∈ keepO tab i l
  | g :: l, h, hb => by
    simp only [keepO]
    rcases List.mem_cons.1 h with rfl | h
    · rw [hb]; simp
    · cases hg : (nthT tab i).1.testBit g.i with
      | true => exact keepO_mem h hb
      | false => exact .tail _ (keepO_mem h hb)
/-- What was read ahead of its time reads so till then. -/
def FlOk (P : Program) (ops : Array Oper) (tab : List (Nat × Nat)) (ws : Nat → World) (fl : List FlO) (o : List Nat) : Prop :=
  ∀ f ∈ fl, ∀ q s, o = q ++ s → 0 < lou P ops q → (∀ j ∈ q, (nthT tab j).1.testBit f.i = false) → ld f.t f.p (ws (lou P ops q)) = some (f.x, ws (lou P ops q))
section
variable {C : Ctx} {N : Nat} {ops : Array Oper} {tab : List (Nat × Nat)} {Q : Exit → Act → World → Prop} {o : List Nat}
theorem flOk_quiet {P : Program} {ws : Nat → World} {fl : List FlO} {p s : List Nat} {i : Nat} (hla : loudAt P ops i = false) (h : FlOk P ops tab ws fl (p ++ s)) : FlOk P ops tab ws fl (p ++ i :: s) := by
  intro f hf q t e hpos hq
  rcases List.append_eq_append_iff.1 e with ⟨c, e1, e2⟩ | ⟨c, e1, e2⟩
  · -- q = p ++ c, i :: s = c ++ t
    cases c with
    | nil => simp only [List.append_nil] at e1; subst e1; exact h f hf q s rfl hpos hq
    | cons x c =>
      simp only [List.cons_append, List.cons.injEq] at e2
      obtain ⟨rfl, e2⟩ := e2
      subst e1
      have hl : lou P ops (p ++ i :: c) = lou P ops (p ++ c) := by rw [lou_append, lou_append]; simp [lou, lo, hla]
      rw [hl] at hpos ⊢
      refine h f hf (p ++ c) t (by rw [e2, List.append_assoc]) hpos fun j hj => hq j ?_
      rcases List.mem_append.1 hj with hj | hj
      · exact List.mem_append_left _ hj
      · exact List.mem_append_right _ (.tail _ hj)
  · -- p = q ++ c
    subst e1
    exact h f hf q (c ++ s) (by rw [List.append_assoc]) hpos hq
/-- Behind a loud one. -/
def cons1 (w : World) (ws : Nat → World) : Nat → World
  | 0 => w
  | n + 1 => ws n
theorem flOk_loud {P : Program} {w w1 : World} {ws : Nat → World} {fl : List FlO} {s : List Nat} {i : Nat} (hla : loudAt P ops i = true) (hw : ws 0 = w1)
    (hc : ∀ f ∈ keepO tab i fl, ld f.t f.p w1 = some (f.x, w1)) (h : FlOk P ops tab ws (keepO tab i fl) s) : FlOk P ops tab (cons1 w ws) fl (i :: s) := by
  intro f hf q t e hpos hq
  cases q with
  | nil => simp [lou] at hpos
  | cons x q =>
    simp only [List.cons_append, List.cons.injEq] at e
    obtain ⟨rfl, e⟩ := e
    have hk := keepO_mem hf (hq i (by simp))
    have hl : lou P ops (i :: q) = lou P ops q + 1 := by simp [lou, lo, hla, Nat.add_comm]
    rw [hl]
    show ld f.t f.p (ws (lou P ops q)) = some (f.x, ws (lou P ops q))
    by_cases hz : lou P ops q = 0
    · rw [hz, hw]; exact hc f hk
    · exact h f hk q t e (by omega) fun j hj => hq j (.tail _ hj)
/-- A loud one is carried out. -/
theorem loudO_V (hC : C.Ok) {ρ : Type} {i : Nat} {fl : List FlO} {E : Env} {k : Env → M ρ} {w : World} {r : ρ × World} {a : Act} {s : List Nat} (h : loudO C N ops tab i fl E k w = some r) (hF : Fits N E a)
    (hk : ∀ E' a' w', E'.bd = E.bd → Fits N E' a' → k E' w' = some r → ∃ ws : Nat → World, ws 0 = w' ∧ FlOk C.P ops tab ws (keepO tab i fl) s ∧ VO C.P ops (NP Q) ws s a') :
    ∃ ws : Nat → World, ws 0 = w ∧ FlOk C.P ops tab ws fl (i :: s) ∧ VO C.P ops (NP Q) ws (i :: s) a := by
  unfold loudO at h
  cases ho : ops[i]? with
  | none => simp only [ho] at h; cases h
  | some o =>
    simp only [ho] at h
    have hla := loudAt_of C.P ho
    cases hl : loud C.P o.op with
    | false => simp only [hl, cond_false] at h; cases h
    | true =>
      simp only [hl, cond_true] at h
      rw [hl] at hla
      have hlo : lo C.P ops i = 1 := by simp [lo, hla]
      have fin : ∀ {E' : Env} {a' : Act} {w' : World}, E'.bd = E.bd → Fits N E' a' → bnd (chkO (keepO tab i fl)) (fun _ => k E') w' = some r →
          ∃ ws : Nat → World, ws 0 = w' ∧ FlOk C.P ops tab (cons1 w ws) fl (i :: s) ∧ VO C.P ops (NP Q) ws s a' := by
        intro E' a' w' hb hF' h1
        simp only [bnd_some] at h1
        obtain ⟨u, w2, h2, h3⟩ := h1
        obtain ⟨rfl, h4⟩ := chkO_some _ h2
        obtain ⟨ws, e1, e2, e3⟩ := hk E' a' w2 hb hF' h3
        exact ⟨ws, e1, flOk_loud hla e1 h4 e2, e3⟩
      have shift : ∀ ws : Nat → World, (fun n => cons1 w ws (lo C.P ops i + n)) = ws := fun ws => by funext n; rw [hlo, Nat.add_comm]; rfl
      cases hg : wantedE ops E o.guard with
      | none => simp only [hg] at h; cases h
      | some wd =>
      cases wd with
      | false =>
        simp only [hg] at h
        have hwd : Region.wanted o (yielded ops a.tmps) = false := wantedE_spec hF hg rfl
        cases hdr : dropD N E o.dst with
        | none => simp only [hdr] at h; cases h
        | some E' =>
          simp only [hdr] at h
          obtain ⟨hF', hb'⟩ := dropD_fits hF hdr
          obtain ⟨ws, e1, e2, e3⟩ := fin hb' hF' h
          refine ⟨cons1 w ws, rfl, e2, ?_⟩
          unfold VO wpOp
          simp only [ho]
          rw [if_neg (by simp [hwd])]
          exact ⟨by rw [hlo]; exact e1.symm, by rw [shift]; exact e3⟩
      | true =>
        simp only [hg] at h
        have hwd : Region.wanted o (yielded ops a.tmps) = true := wantedE_spec hF hg rfl
        obtain ⟨E1, a1, w1, hs1, hF1, h1, hgo, _⟩ := evOp_wp hC hF h
        obtain ⟨ws, e1, e2, e3⟩ := fin hs1.1 hF1 h1
        refine ⟨cons1 w ws, rfl, e2, ?_⟩
        unfold VO wpOp
        simp only [ho]
        rw [if_pos hwd]
        exact .inl (hgo _ _ ⟨by rw [hlo]; exact e1.symm, by rw [shift]; exact e3⟩)
theorem evDrawO_V (hC : C.Ok) (hsel : Region.noSelect ops = true) (ht : tabB ops tab = true) (hO : OrdOk ops o) {ρ : Type} {k : Env → M ρ} {r : ρ × World} {base : ((Nat → Option TV) × List Deferred) × List Df}
    (hk : ∀ E1 a1 w1, E1.bd = base → Fits N E1 a1 → k E1 w1 = some r → Q .normal a1 w1) :
    ∀ (T : DT) (rm : Nat) (fl : List FlO) (E : Env) (a : Act) (w : World), evDrawO C N ops tab T rm fl E o k w = some r → Fits N E a → E.bd = base → Inv ops o rm →
      ∃ ws : Nat → World, ws 0 = w ∧ FlOk C.P ops tab ws fl (left o rm) ∧ VO C.P ops (NP Q) ws (left o rm) a := by
  intro T
  induction T with
  | done =>
    intro rm fl E a w h hF hb hI
    simp only [evDrawO] at h
    cases hz : Nat.beq rm 0 with
    | false => rw [hz] at h; cases h
    | true =>
      simp only [hz, cond_true] at h
      have h0 := Nat.eq_of_beq_eq_true hz
      have hnil : left o rm = [] := List.filter_eq_nil_iff.2 fun j _ => by rw [h0]; simp
      rw [hnil]
      refine ⟨fun _ => w, rfl, fun f _ q s e hpos _ => ?_, hk E a w hb hF h⟩
      have : q = [] := by cases q with
        | nil => rfl
        | cons _ _ => simp at e
      subst this
      simp [lou] at hpos
  | s d t f iht ihf =>
    intro rm fl E a w h hF hb hI
    simp only [evDrawO] at h
    change Runs _ _ _ at h
    split at h
    · rename_i b hd
      have hslot := slot_get hF hd
      cases b with
      | true =>
        have h' : evDrawO C N ops tab t rm fl (E.set d (some ⟨.bool, true⟩)) o k w = some r := h
        exact iht rm fl _ a w h' (hF.alias (by rw [Array.getD_eq_getD_getElem?, hslot]; rfl)) hb hI
      | false =>
        have h' : evDrawO C N ops tab f rm fl (E.set d (some ⟨.bool, false⟩)) o k w = some r := h
        exact ihf rm fl _ a w h' (hF.alias (by rw [Array.getD_eq_getD_getElem?, hslot]; rfl)) hb hI
    · cases h
  | f i j t u iht ihu =>
    intro rm fl E a w h hF hb hI
    simp only [evDrawO] at h
    cases hl : (loudOk ops.size tab rm i j && loudOk ops.size tab rm j i) with
    | false => rw [hl] at h; cases h
    | true =>
      simp only [hl, cond_true] at h
      simp only [Bool.and_eq_true] at hl
      have hbj : rm.testBit j = true := by have := hl.2; unfold loudOk at this; simp only [Bool.and_eq_true] at this; exact this.1.1
      obtain ⟨hbi, hd, s, hor, hmem, e1, e2, hbef⟩ := loud_at hO hI ht hl.1 hbj
      have goI : left o rm = i :: left o (del rm i) → i ∈ o → loudO C N ops tab i fl E (fun E' => evDrawO C N ops tab t (del rm i) (keepO tab i fl) E' o k) w = some r →
          ∃ ws : Nat → World, ws 0 = w ∧ FlOk C.P ops tab ws fl (left o rm) ∧ VO C.P ops (NP Q) ws (left o rm) a := by
        intro e hm h1
        rw [e]
        exact loudO_V hC h1 hF fun E' a' w' hb' hF' h2 => iht _ _ E' a' w' h2 hF' (hb'.trans hb) (hI.del hbi hm)
      have goJ : left o rm = j :: left o (del rm j) → j ∈ o → loudO C N ops tab j fl E (fun E' => evDrawO C N ops tab u (del rm j) (keepO tab j fl) E' o k) w = some r →
          ∃ ws : Nat → World, ws 0 = w ∧ FlOk C.P ops tab ws fl (left o rm) ∧ VO C.P ops (NP Q) ws (left o rm) a := by
        intro e hm h1
        rw [e]
        exact loudO_V hC h1 hF fun E' a' w' hb' hF' h2 => ihu _ _ E' a' w' h2 hF' (hb'.trans hb) (hI.del hbj hm)
      by_cases hij : i = j
      · subst hij
        have hdi : hd = i := hor.elim id id
        subst hdi
        cases hb2 : bef o hd hd with
        | true => rw [hb2] at h; exact goI (by rw [e1, e2]) hmem h
        | false => rw [hb2] at h; exact goJ (by rw [e1, e2]) hmem h
      · have hb2 := hbef hij
        rcases hor with rfl | rfl
        · rw [hb2, decide_eq_true rfl] at h
          exact goI (by rw [e1, e2]) hmem h
        · rw [hb2, decide_eq_false (fun e => hij e.symm)] at h
          exact goJ (by rw [e1, e2]) hmem h
  | o i t ih =>
    intro rm fl E a w h hF hb hI
    simp only [evDrawO] at h
    cases ho : ops[i]? with
    | none => simp only [ho] at h; cases h
    | some op =>
      simp only [ho] at h
      have hla := loudAt_of C.P ho
      cases hl : loud C.P op.op with
      | true =>
        simp only [hl, cond_true] at h
        cases hq : loudOk ops.size tab rm i i with
        | false => rw [hq] at h; cases h
        | true =>
          simp only [hq, cond_true] at h
          have hbi : rm.testBit i = true := by have := hq; unfold loudOk at this; simp only [Bool.and_eq_true] at this; exact this.1.1
          obtain ⟨_, hd, s, hor, hmem, e1, e2, _⟩ := loud_at hO hI ht hq hbi
          have hdi : hd = i := hor.elim id id
          subst hdi
          rw [e1]
          rw [← e2]
          exact loudO_V hC h hF fun E' a' w' hb' hF' h2 => ih _ _ E' a' w' h2 hF' (hb'.trans hb) (hI.del hbi hmem)
      | false =>
        simp only [hl, cond_false] at h
        rw [hl] at hla
        cases hq : quietOk tab rm i with
        | false => rw [hq] at h; cases h
        | true =>
          simp only [hq, cond_true] at h
          obtain ⟨hbi, hmem, p, s, e1, e2, hip, hap⟩ := quiet_at hO hI ht hq
          rw [e1]
          have hap' : ∀ j ∈ p, j < ops.size ∧ ∀ oj, ops[j]? = some oj → op.apart ops oj = true := fun j hj => ⟨(hap j hj).1, fun oj hoj => ((hap j hj).2 op oj ho hoj).1⟩
          have hnb : ∀ j ∈ p, (nthT tab j).1.testBit i = false := fun j hj => by
            obtain ⟨oj, hoj⟩ : ∃ oj, ops[j]? = some oj := ⟨_, Array.getElem?_eq_getElem (hap j hj).1⟩
            exact ((hap j hj).2 op oj ho hoj).2
          have hI' := hI.del hbi hmem
          cases hg : wantedE ops E op.guard with
          | none => simp only [hg] at h; cases h
          | some wd =>
          cases wd with
          | false =>
            simp only [hg] at h
            have hwd : Region.wanted op (yielded ops a.tmps) = false := wantedE_spec hF hg rfl
            cases hdr : dropD N E op.dst with
            | none => simp only [hdr] at h; cases h
            | some E' =>
              simp only [hdr] at h
              obtain ⟨hF', hb'⟩ := dropD_fits hF hdr
              obtain ⟨ws, q1, q2, q3⟩ := ih _ fl E' _ w h hF' (hb'.trans hb) hI'
              rw [e2] at q2 q3
              exact ⟨ws, q1, flOk_quiet hla q2, VO_first ho hla (Region.noSelect_spec hsel) (fun c a w hx => hx) p s ws a hap' (.inr ⟨hwd, rfl⟩) q3⟩
          | true =>
            simp only [hg] at h
            have hwd : Region.wanted op (yielded ops a.tmps) = true := wantedE_spec hF hg rfl
            by_cases hld : ∃ T x, op.op = .load T x
            · obtain ⟨T, x, hop⟩ := hld
              simp only [hop] at h
              obtain ⟨b, hb', h⟩ := opM_some h
              cases hty : C.ty T with
              | none => simp only [hty] at h; cases h
              | some ty =>
                simp only [hty] at h
                obtain ⟨pa, hp, h⟩ := adrM_some h
                simp only [bnd_some] at h
                obtain ⟨y, w1, h1, h2⟩ := h
                obtain ⟨rfl, _⟩ := ld_run hC hty h1
                obtain ⟨E1, hs1, hF1, h3⟩ := setD_next (o := op) hF h2
                obtain ⟨ws, q1, q2, q3⟩ := ih _ _ E1 _ w1 h3 hF1 (hs1.1.trans hb) hI'
                rw [e2] at q2 q3
                refine ⟨ws, q1, flOk_quiet hla fun f hf => q2 f (.tail _ hf), VO_first ho hla (Region.noSelect_spec hsel) (fun c a w hx => hx) p s ws a hap' ?_ q3⟩
                refine .inl ⟨hwd, fun w0 hw0 => ?_⟩
                obtain ⟨c1, c2, hc, rfl⟩ := hw0
                have hldm : ld ty pa (ws (lou C.P ops c1)) = some (y, ws (lou C.P ops c1)) := by
                  by_cases hz : lou C.P ops c1 = 0
                  · rw [hz, q1]; exact h1
                  · exact q2 ⟨i, ty, pa, y⟩ List.mem_cons_self c1 (c2 ++ s) (by rw [hc, List.append_assoc]) (by omega) fun j hj => hnb j (by rw [hc]; exact List.mem_append_left _ hj)
                obtain ⟨_, hr⟩ := ld_run hC hty hldm
                simp only [execOp, hop, Sem.run_bind, Instr.loadAt, opd_fits hF hb', hp, Instr.sureAddr, Sem.run_pure, Result.andThen_ok, hr]
                rfl
            · have h' : evOp C N E op (fun E' => evDrawO C N ops tab t (del rm i) fl E' o k) w = some r := by
                revert h
                cases hop : op.op <;> intro h <;> first | exact h | exact absurd ⟨_, _, hop⟩ hld
              obtain ⟨E1, a1, w1, hs1, hF1, h3, _, hqq⟩ := evOp_wp hC hF h'
              obtain ⟨v, rfl, rfl, hr, hall⟩ := hqq hl
              obtain ⟨ws, q1, q2, q3⟩ := ih _ fl E1 _ w1 h3 hF1 (hs1.1.trans hb) hI'
              rw [e2] at q2 q3
              have hallw := hall fun T x hop => hld ⟨T, x, hop⟩
              exact ⟨ws, q1, flOk_quiet hla q2, VO_first ho hla (Region.noSelect_spec hsel) (fun c a w hx => hx) p s ws a hap' (.inl ⟨hwd, fun w0 _ => hallw w0⟩) q3⟩
theorem evDrawO_wpOps (hC : C.Ok) (hsel : Region.noSelect ops = true) (ht : tabB ops tab = true) {t : Nat} {T : DT} {ρ : Type} {k : Env → M ρ} {r : ρ × World} {E : Env} {a : Act} {w : World}
    (h : evDrawO C N ops tab T (2 ^ ops.size - 1) [] E (Region.schedule true ops t) k w = some r) (hF : Fits N E a) (hk : ∀ E1 a1 w1, E1.bd = E.bd → Fits N E1 a1 → k E1 w1 = some r → Q .normal a1 w1) :
    wpOps C.P ops (NP Q) (Region.schedule true ops t) a w := by
  have hO := ordOk_schedule ops t
  have hb : ∀ j, (2 ^ ops.size - 1).testBit j = decide (j < ops.size) := fun j => Nat.testBit_two_pow_sub_one ..
  have hI : Inv ops (Region.schedule true ops t) (2 ^ ops.size - 1) := ⟨fun j hj => by rw [hb] at hj; exact of_decide_eq_true hj, fun j hj hf => by rw [hb, decide_eq_true hj] at hf; cases hf⟩
  obtain ⟨ws, h1, _, h3⟩ := evDrawO_V hC hsel ht hO hk T _ [] E a w h hF rfl hI
  have hall : left (Region.schedule true ops t) (2 ^ ops.size - 1) = Region.schedule true ops t := List.filter_eq_self.2 fun j hj => by rw [hb, decide_eq_true (hO.lt j hj)]
  rw [hall] at h3
  have := wpOps_of_VO _ _ _ h3
  rw [h1] at this
  exact this
end
/-! ### In one frame -/
/-- What a text does in that frame. -/
def WpB (P : Program) (b : Frame) (c : Code) (Q : Exit → Act → World → Prop) (a : Act) (w : World) : Prop :=
  ∀ (k : List Item) (cs : List Frame), ∃ e a' w', Q e a' w' ∧ Arrives P (lone (b.at a (.code c :: k)) cs w) b k cs e a' w'
section
variable {P : Program} {b : Frame} {Q : Exit → Act → World → Prop} {a : Act} {w : World}
theorem WpB.of {c : Code} (h : c.wp P Q a w) : WpB P b c Q a w := fun k cs => h b k cs
theorem WpB.mono {c : Code} {Q' : Exit → Act → World → Prop} (h : WpB P b c Q a w) (hq : ∀ e a w, Q e a w → Q' e a w) : WpB P b c Q' a w :=
  fun k cs => let ⟨e, a', w', q, r⟩ := h k cs; ⟨e, a', w', hq _ _ _ q, r⟩
theorem WpB.seq {x y : Code} (h : WpB P b x (Exit.then (WpB P b y Q) Q) a w) : WpB P b (.seq x y) Q a w := by
  intro k cs
  obtain ⟨e, a₁, w₁, hq, harr⟩ := h (.code y :: k) cs
  cases e with
  | normal =>
    obtain ⟨e₂, a₂, w₂, hq₂, harr₂⟩ := hq k cs
    exact ⟨e₂, a₂, w₂, hq₂, .of_steps (.head step_seq harr) harr₂⟩
  | _ => exact ⟨_, a₁, w₁, hq, .of_steps (.one step_seq) (.pass (x := .code y) rfl (fun _ _ => .inl (by simp)) harr)⟩
theorem WpB.cond {c : Operand} {x y : Code} {t : Bool} (hc : a.eval c = .bool t) (h : WpB P b (if t then x else y) Q a w) : WpB P b (.cond c x y) Q a w :=
  fun k cs => let ⟨e, a', w', q, r⟩ := h k cs; ⟨e, a', w', q, .of_steps (.one (step_cond hc)) r⟩
theorem WpB.block {id : Nat} {c : Code} (h : WpB P b c (Exit.inBlock id Q) a w) : WpB P b (.block id c) Q a w := by
  intro k cs
  obtain ⟨e, a₁, w₁, hq, harr⟩ := h (.inBlock id :: k) cs
  cases e with
  | normal => exact ⟨.normal, a₁, w₁, hq, .head step_block (Steps.trans harr (.one step_inBlock))⟩
  | exit id' =>
    by_cases hid : id' = id
    · simp only [Exit.inBlock, hid, if_true] at hq
      exact ⟨.normal, a₁, w₁, hq, .head step_block (harr k (by simp [exitTo, hid]))⟩
    · simp only [Exit.inBlock, hid, if_false] at hq
      refine ⟨.exit id', a₁, w₁, hq, fun k' hk => .head step_block (harr k' ?_)⟩
      have : (id == id') = false := by simp; exact fun h => hid h.symm
      simp [exitTo, this, hk]
  | goto l => exact ⟨_, a₁, w₁, hq, fun k' hk => .head step_block (harr k' (by simp [gotoIn, hk]))⟩
  | ret => exact ⟨_, a₁, w₁, hq, .of_steps (.one step_block) harr⟩
  | panic ch => exact ⟨_, a₁, w₁, hq, .of_steps (.one step_block) harr⟩
  | outgrown => exact ⟨_, a₁, w₁, hq, .of_steps (b := b) (k := k) (cs := cs) (e := .outgrown) (.one step_block) harr⟩
theorem WpB.draw {id : Nat} {ops : Array Oper} (hm : P.follows .mixedOrders = true) (h : wpOps P ops Q (Region.schedule true ops (w.tape w.drawn (.order b.fn id))) a w.drew) : WpB P b (.region id ops true) Q a w := by
  intro k cs
  have hs := step_region_draw (P := P) (b := b) (a := a) (w := w) (k := k) (cs := cs) (ops := ops) (id := id)
  rw [hm] at hs
  obtain ⟨e, a', w', q, r⟩ := wp_ops _ a _ h b k cs
  exact ⟨e, a', w', q, .of_steps (.one hs) r⟩
end
end Go.Sh
