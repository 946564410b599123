/-
  Parts of the proof: UK, UL, UM. It states what the functions do; no further condition.
-/
import Derived.Test.YtkkdeljladihpaaUJ
set_option linter.unusedVariables false
set_option linter.unusedSimpArgs false
/-
  Numbers read back: each process stands in one place. The plain part, and one place.
-/
namespace Go.Proofs.Ytkkdeljladihpaa
set_option linter.unusedVariables false
open Go.Sh Go.RowKit X
set_option maxRecDepth 100000
/-- In how many places each of k stands, if those of P were placed. -/
def cntL (k : Nat) (P : List Nat) : List Int := (List.range k).map fun i => if (i + 1) ∈ P then 1 else 0
theorem cntL_len (k : Nat) (P : List Nat) : (cntL k P).length = k := by simp [cntL]
theorem cntL_get {k : Nat} {P : List Nat} {i : Nat} (h : i < k) : (cntL k P)[i]? = some (if (i + 1) ∈ P then 1 else 0) := by
  simp [cntL, h]
theorem cntL_nil (k : Nat) : cntL k [] = List.replicate k 0 := by
  refine List.ext_getElem? fun i => ?_
  by_cases h : i < k
  · rw [cntL_get h, List.getElem?_replicate, if_pos h]; simp
  · rw [List.getElem?_eq_none (by rw [cntL_len]; omega), List.getElem?_eq_none (by simp; omega)]
theorem cntL_set {k : Nat} {P : List Nat} {n : Nat} (h1 : 1 ≤ n) (h2 : n ≤ k) : (cntL k P).set (n - 1) 1 = cntL k (P ++ [n]) := by
  refine List.ext_getElem? fun i => ?_
  by_cases h : i < k
  · by_cases e : i = n - 1
    · subst e
      rw [List.getElem?_set_self (by rw [cntL_len]; exact h), cntL_get h, if_pos]
      rw [Nat.sub_add_cancel h1]; simp
    · rw [List.getElem?_set_ne (Ne.symm e), cntL_get h, cntL_get h]
      have : (i + 1 ∈ P ++ [n]) ↔ i + 1 ∈ P := by simp; omega
      simp only [this]
  · rw [List.getElem?_eq_none (by rw [List.length_set, cntL_len]; omega), List.getElem?_eq_none (by rw [cntL_len]; omega)]
/-- The processes, if those of W know what they wait for. -/
def psD (l : List Pr) (W : List Nat) : List Pr := l.mapIdx fun i p => if (i + 1) ∈ W then p else p.z
theorem psD_len (l : List Pr) (W : List Nat) : (psD l W).length = l.length := by simp [psD]
theorem psD_get {l : List Pr} {W : List Nat} {i : Nat} (h : i < l.length) : (psD l W)[i]? = some (if (i + 1) ∈ W then l[i] else l[i].z) := by
  simp [psD, h]
theorem psD_nil (l : List Pr) : psD l [] = l.map Pr.z := by
  refine List.ext_getElem? fun i => ?_
  by_cases h : i < l.length
  · rw [psD_get h]; simp [h]
  · rw [List.getElem?_eq_none (by rw [psD_len]; omega), List.getElem?_eq_none (by simp; omega)]
theorem psD_set {l : List Pr} {W : List Nat} {n : Nat} (h1 : 1 ≤ n) (h2 : n ≤ l.length) {p : Pr} (hp : l[n - 1]? = some p) : (psD l W).set (n - 1) p = psD l (W ++ [n]) := by
  refine List.ext_getElem? fun i => ?_
  by_cases h : i < l.length
  · by_cases e : i = n - 1
    · subst e
      rw [List.getElem?_set_self (by rw [psD_len]; exact h), psD_get h, if_pos]
      · rw [List.getElem?_eq_getElem h] at hp; exact hp.symm
      · rw [Nat.sub_add_cancel h1]; simp
    · rw [List.getElem?_set_ne (Ne.symm e), psD_get h, psD_get h]
      have : (i + 1 ∈ W ++ [n]) ↔ i + 1 ∈ W := by simp; omega
      simp only [this]
  · rw [List.getElem?_eq_none (by rw [List.length_set, psD_len]; omega), List.getElem?_eq_none (by rw [psD_len]; omega)]
/-- What is read, where those of W know what they wait for. -/
def St.backW (A : St) (v : List Tm) (W : List Nat) : St := { A.back0 v with procs := psD A.procs W }
theorem backW_rest (A : St) (v : List Tm) (W : List Nat) : (A.backW v W).now = A.now ∧ (A.backW v W).active = A.active ∧ (A.backW v W).sems = A.sems ∧ (A.backW v W).queues = A.queues ∧ (A.backW v W).events = A.events ∧ (A.backW v W).procs.length = A.procs.length := by
  have h := laters_rest v ({ A with procs := A.procs.map Pr.z, timers := [], made := 0 } : St)
  exact ⟨h.2.2.2.2.2.2.1, h.2.2.2.2.2.2.2, h.2.2.1, h.2.2.2.2.1, h.2.2.2.2.2.1, psD_len _ _⟩
theorem back0_W (A : St) (v : List Tm) : A.back0 v = A.backW v [] := by
  have h := laters_rest v ({ A with procs := A.procs.map Pr.z, timers := [], made := 0 } : St)
  unfold St.backW
  rw [psD_nil]
  have e : A.procs.map Pr.z = (A.back0 v).procs := h.2.2.2.1.symm
  rw [e]
theorem pr_get {A : St} {n : Nat} (h1 : 1 ≤ n) (h2 : n ≤ A.procs.length) : A.procs[n - 1]? = some (A.pr n) := by
  unfold St.pr
  rw [List.getD_eq_getElem?_getD, List.getElem?_eq_getElem (by omega)]; rfl
theorem backW_pr {A : St} {v : List Tm} {W : List Nat} {n : Nat} (h1 : 1 ≤ n) (h2 : n ≤ A.procs.length) : (A.backW v W).pr n = if n ∈ W then A.pr n else (A.pr n).z := by
  have h : n - 1 < A.procs.length := by omega
  have h3 := pr_get h1 h2
  rw [List.getElem?_eq_getElem h, Option.some.injEq] at h3
  show (psD A.procs W).getD (n - 1) _ = _
  rw [List.getD_eq_getElem?_getD, psD_get h, Nat.sub_add_cancel h1, h3]; rfl
theorem backW_stand {A : St} {v : List Tm} {W : List Nat} {n : Nat} (h1 : 1 ≤ n) (h2 : n ≤ A.procs.length) : ((A.backW v W).pr n).standing = (A.pr n).standing ∧ ((A.backW v W).pr n).prio = (A.pr n).prio := by
  rw [backW_pr h1 h2]
  split
  · exact ⟨rfl, rfl⟩
  · exact ⟨rfl, rfl⟩
theorem backW_set {A : St} {v : List Tm} {W : List Nat} {n : Nat} (h1 : 1 ≤ n) (h2 : n ≤ A.procs.length) : (A.backW v W).setPr n (A.pr n) = A.backW v (W ++ [n]) := by
  show ({ A.back0 v with procs := (psD A.procs W).set (n - 1) (A.pr n) } : St) = { A.back0 v with procs := psD A.procs (W ++ [n]) }
  rw [psD_set h1 h2 (pr_get h1 h2)]
/-- What is read. -/
def St.back (A : St) (v : List Tm) : St := ({ A with timers := [], made := 0 } : St).laters v
theorem laters_procs : ∀ (v : List Tm) (A : St) (e : List Pr), ({ A.laters v with procs := e } : St) = ({ A with procs := e } : St).laters v
  | [], A, e => rfl
  | t :: r, A, e => by
    simp only [St.laters]
    rw [laters_procs r]; rfl
theorem backW_all {A : St} (F : FitX A 0) {v : List Tm} {W : List Nat} (h : ∀ n, 1 ≤ n → n ≤ A.procs.length → (A.pr n).standing = 3 → n ∈ W) : A.backW v W = A.back v := by
  have e : psD A.procs W = A.procs := by
    refine List.ext_getElem? fun i => ?_
    by_cases hi : i < A.procs.length
    · rw [psD_get hi, List.getElem?_eq_getElem hi]
      split
      · rfl
      · rename_i hn
        have h3 := pr_get (A := A) (n := i + 1) (by omega) (by omega)
        rw [Nat.add_sub_cancel, List.getElem?_eq_getElem hi, Option.some.injEq] at h3
        have hs : (A.pr (i + 1)).sem = 0 := F.nwt (i + 1) (by omega) (by omega) (by omega) fun h' => hn (h _ (by omega) (by omega) h')
        rw [h3]
        have : (A.pr (i + 1)).z = A.pr (i + 1) := by
          unfold Pr.z; rw [← hs]
        rw [this]
    · rw [List.getElem?_eq_none (by rw [psD_len]; omega), List.getElem?_eq_none (by omega)]
  show ({ A.back0 v with procs := psD A.procs W } : St) = _
  rw [e]
  unfold St.back0
  rw [laters_procs]; rfl
/-- While sound looks. -/
structure Snd (T : Hp) (sb c1 sc : Nat) (S : Sk) (L : List Sm) (B : St) (M : List Int) : Prop where
  I : SInv T sb S L B
  c : T c1 = some (.box [.pointer (some ⟨sb, 0, none⟩)])
  m : ∃ s, T sc = some (.box [slV s]) ∧ Rw T (Ob.ints (.out 2)) s M
  len : M.length = B.procs.length
section
variable {w0 w : World} {T0 T : Hp} {sb c1 sc : Nat} {S : Sk} {L : List Sm} {A B : St} {α β : Type} {Q : α → World → Prop} {M : List Int}
theorem Snd.putB {b : Nat} {o : Ob} (D : Snd T sb c1 sc S L B M) (h : T b = none) : Snd (Sh.put T b o) sb c1 sc S L B M :=
  ⟨D.I.newB h, put_new D.c h, D.m.imp fun s ⟨h1, h2⟩ => ⟨put_new h1 h, h2.mono fun b M _ hb => put_new hb h⟩, D.len⟩
theorem place_spec (C : Tr en w0 T0 w T) (D : Snd T sb c1 sc S L B M) {n : Nat} (h1 : 1 ≤ n) (h2 : n ≤ B.procs.length) (h4 : B.procs.length ≤ 4096) (hv : M[n - 1]? = some 0) {x st pr : Int} (hx : x = n) (hs : (B.pr n).standing = st) (hp : pr = 0 ∨ (B.pr n).prio = pr) {f : Bool → Go.Sh.M α}
    (hq : ∀ w' T', Tr en w0 T0 w' T' → Snd T' sb c1 sc S L B (M.set (n - 1) 1) → (∀ b p, T b = some p → (∀ l, p ≠ .ints (.out 2) l) → T' b = some p) → Ok (f true) w' Q) : Ok (bnd (f60_sched_Sched_sound_1 x st pr ⟨sc, 0, none⟩ ⟨c1, 0, none⟩) f) w Q := by
  obtain ⟨I, hc1, ⟨s, hsc, hr⟩, hml⟩ := D
  subst hx
  unfold f60_sched_Sched_sound_1
  simp only [bnd_as, bnd_ret]
  refine ok_tld0 C hsc (x := s) (rdv_sl (by rfl)) ?_
  have hlen := hr.len
  refine ok_fB (by simp only [gt_iff_lt, decide_eq_false_iff_not]; omega) ?_
  simp only [bnd_as, bnd_ret]
  refine ok_tld0 C hsc (x := s) (rdv_sl (by rfl)) ?_
  have e : IntKind.wrap .i64 ((n : Int) - 1) = ((n - 1 : Nat) : Int) := by rw [wI (by omega)]; omega
  rw [e]
  refine ok_rdE C (Rw.rd hr) hv rfl ?_
  obtain ⟨b, M', g1, g2, g3, g4⟩ := hr.blk (by omega)
  refine ok_ixN (n := 1) g1 (by omega) (by omega) ?_
  rw [Int.toNat_natCast]
  have hin : n - 1 < M'.length := by
    have := congrArg List.length g4
    rw [List.length_take] at this; omega
  refine ok_wrE C g2 hin fun w1 C1 => ?_
  have e1 : IntKind.wrap .i64 ((0 : Int) + 1) = 1 := by decide
  rw [e1] at C1
  have hx1 : ∀ b' p, T b' = some p → (∀ l, p ≠ .ints (.out 2) l) → Sh.put T b (.ints (.out 2) (M'.set (n - 1) 1)) b' = some p := fun b' p h hne => put_other h g2 (hne _)
  have I1 : SInv (Sh.put T b (.ints (.out 2) (M'.set (n - 1) 1))) sb S L B := I.extO fun b' p h hne => hx1 b' p h (hne 2)
  have hr1 : Rw (Sh.put T b (.ints (.out 2) (M'.set (n - 1) 1))) (Ob.ints (.out 2)) s (M.set (n - 1) 1) :=
    ⟨by rw [List.length_set]; exact hr.len, hr.le, hr.max, .inr ⟨b, _, g1, put_eq _ _ _, by rw [List.length_set]; exact g3, by rw [List.length_set, List.take_set, g4]⟩⟩
  refine ok_tld0 C1 (hx1 _ _ hc1 (by simp)) (t := .ptr) (x := some ⟨sb, 0, none⟩) (by rfl) ?_
  obtain ⟨pb, L', pat, g6, g7⟩ := I1.pat h1 h2
  refine of_spec C1 I1.sch pat h1 (by omega) rfl ?_
  refine ok_drfS (ok_pld C1 pat (j := 1) (t := .int .u8) (x := (B.pr n).standing) (by decide) (by rfl) ?_)
  refine ok_tB (by rw [hs]; exact beq_self_eq_true _) ?_
  have hfin := hq w1 _ C1 ⟨I1, hx1 _ _ hc1 (by simp), ⟨s, hx1 _ _ hsc (by simp), hr1⟩, by rw [List.length_set]; exact hml⟩ hx1
  rcases hp with hp | hp
  · simp only [bnd_as, bnd_ret]
    refine ok_tB (by rw [hp]; rfl) ?_
    simp only [bnd_as, bnd_ret]
    exact hfin
  · simp only [bnd_as, bnd_ret]
    by_cases h0 : pr = 0
    · refine ok_tB (by rw [h0]; rfl) ?_
      simp only [bnd_as, bnd_ret]
      exact hfin
    · refine ok_fB (by rw [beq_eq_false_iff_ne]; exact h0) ?_
      simp only [bnd_as, bnd_ret]
      refine ok_drfS (ok_pld C1 pat (j := 0) (t := .int .i64) (x := (B.pr n).prio) (by decide) (by rfl) ?_)
      rw [hp, beq_self_eq_true]
      exact hfin
end
end Go.Proofs.Ytkkdeljladihpaa

/-
  Numbers read back: sound says yes.
-/
namespace Go.Proofs.Ytkkdeljladihpaa
set_option linter.unusedVariables false
open Go.Sh Go.RowKit X
set_option maxRecDepth 100000
/-- Who runs. -/
def paL (A : St) : List Nat := if A.active = 0 then [] else [A.active]
def smW (A : St) (i : Nat) : List Nat := (A.sems.take i).flatMap fun s => s.2
def quW (A : St) (p : Nat) : List Nat := (List.range p).flatMap A.queues
section
variable {A : St}
theorem sm_get {i : Nat} (h : i < A.sems.length) : A.sm (i + 1) = A.sems[i] := by
  unfold St.sm
  rw [Nat.add_sub_cancel, List.getD_eq_getElem?_getD, List.getElem?_eq_getElem h]; rfl
theorem mem_paL (F : FitX A 0) {n : Nat} (h : n ∈ paL A) : (A.pr n).standing = 2 := by
  unfold paL at h
  split at h
  · cases h
  · simp only [List.mem_singleton] at h
    subst h
    rcases F.act with h | h
    · omega
    · exact h.2.1
theorem mem_smW (F : FitX A 0) {n i : Nat} (hi : i ≤ A.sems.length) (h : n ∈ smW A i) : ∃ i', i' < i ∧ 1 ≤ n ∧ n ≤ A.procs.length ∧ (A.pr n).standing = 3 ∧ (A.pr n).sem = ((i' + 1 : Nat) : Int) := by
  unfold smW at h
  obtain ⟨s, hs, hn⟩ := List.mem_flatMap.1 h
  obtain ⟨i', h1, rfl⟩ := List.mem_iff_getElem.1 hs
  rw [List.length_take] at h1
  rw [List.getElem_take] at hn
  have h2 : i' < A.sems.length := by omega
  have := F.wq (i' + 1) n (by omega) (by omega) (by rw [sm_get h2]; exact hn)
  exact ⟨i', by omega, this.1, this.2.1, this.2.2.1, this.2.2.2.1⟩
theorem mem_quW (F : FitX A 0) {n p : Nat} (h : n ∈ quW A p) : ∃ p', p' < p ∧ 1 ≤ n ∧ n ≤ A.procs.length ∧ (A.pr n).standing = 1 ∧ (A.pr n).prio = p' := by
  unfold quW at h
  obtain ⟨p', hp, hn⟩ := List.mem_flatMap.1 h
  have := F.que p' n hn
  exact ⟨p', List.mem_range.1 hp, this.1, this.2.1, this.2.2.1, this.2.2.2.1⟩
theorem take_not {l : List Nat} (h : l.Nodup) {j : Nat} (hj : j < l.length) : l[j] ∉ l.take j := by
  intro hm
  obtain ⟨k, hk, he⟩ := List.mem_iff_getElem.1 hm
  rw [List.length_take] at hk
  rw [List.getElem_take] at he
  exact (List.pairwise_iff_getElem.1 h) k j (by omega) hj (by omega) he
theorem sem_not (F : FitX A 0) {i j : Nat} (hi : i < A.sems.length) (hj : j < A.sems[i].2.length) : A.sems[i].2[j] ∉ paL A ++ (smW A i ++ A.sems[i].2.take j) := by
  have hm := List.getElem_mem hj
  have hq := F.wq (i + 1) _ (by omega) (by omega) (by rw [sm_get hi]; exact hm)
  have hnd := F.wnd (i + 1) (by omega) (by omega)
  rw [sm_get hi] at hnd
  intro h
  rcases List.mem_append.1 h with h | h
  · have := mem_paL F h; omega
  rcases List.mem_append.1 h with h | h
  · obtain ⟨i', h1, _, _, _, h5⟩ := mem_smW F (by omega) h
    have := hq.2.2.2.1
    omega
  · exact take_not hnd hj h
theorem que_not (F : FitX A 0) {p j : Nat} (hj : j < (A.queues p).length) : (A.queues p)[j] ∉ paL A ++ smW A A.sems.length ++ (quW A p ++ (A.queues p).take j) := by
  have hm := List.getElem_mem hj
  have hq := F.que p _ hm
  intro h
  rcases List.mem_append.1 h with h | h
  · rcases List.mem_append.1 h with h | h
    · have := mem_paL F h; omega
    · obtain ⟨i', _, _, _, h4, _⟩ := mem_smW F (Nat.le_refl _) h
      omega
  rcases List.mem_append.1 h with h | h
  · obtain ⟨p', h1, _, _, _, h5⟩ := mem_quW F h
    have := hq.2.2.2.1
    omega
  · exact take_not (F.nodup p) hj h
theorem all_mem (F : FitX A 0) {n : Nat} (h1 : 1 ≤ n) (h2 : n ≤ A.procs.length) (hs : 1 ≤ (A.pr n).standing) : n ∈ paL A ++ smW A A.sems.length ++ quW A 17 ↔ ¬ ((A.pr n).standing = 4 ∨ (A.pr n).standing = 5) := by
  constructor
  · intro h
    rcases List.mem_append.1 h with h | h
    · rcases List.mem_append.1 h with h | h
      · have := mem_paL F h; omega
      · obtain ⟨i', _, _, _, h4, _⟩ := mem_smW F (Nat.le_refl _) h
        omega
    · obtain ⟨p', h1, _, _, h4, h5⟩ := mem_quW F h
      omega
  · intro h
    have hp := F.prio _ (St.pr_mem h1 h2)
    have h3 : (A.pr n).standing = 1 ∨ (A.pr n).standing = 2 ∨ (A.pr n).standing = 3 := by omega
    rcases h3 with h3 | h3 | h3
    · refine List.mem_append_right _ (List.mem_flatMap.2 ⟨(A.pr n).prio.toNat, List.mem_range.2 (by omega), F.inq n h1 h2 (by omega) h3⟩)
    · refine List.mem_append_left _ (List.mem_append_left _ ?_)
      have := F.only n h1 h2 (by omega) h3
      unfold paL
      rw [if_neg (by omega), ← this]; exact List.mem_singleton_self _
    · refine List.mem_append_left _ (List.mem_append_right _ ?_)
      have h4 := F.wtg n h1 h2 (by omega) h3
      have h5 : (A.pr n).sem.toNat - 1 < A.sems.length := by omega
      have h6 := sm_get h5
      rw [Nat.sub_add_cancel (by omega)] at h6
      unfold smW
      rw [List.take_length]
      exact List.mem_flatMap.2 ⟨_, List.getElem_mem h5, by rw [← h6]; exact h4.2.2⟩
end
def aggS : Nat → Ty
  | 0 => .sl
  | n + 1 => .pair .sl (aggS n)
def tupS : (n : Nat) → List Sl → (aggS n).den
  | 0, l => (l.headD ⟨none, 0, 0⟩ : Sl)
  | n + 1, l => ((l.headD ⟨none, 0, 0⟩ : Sl), tupS n l.tail)
def flatS : (n : Nat) → (aggS n).den → List Value
  | 0, x => [slV (x : Sl)]
  | n + 1, x => slV x.1 :: flatS n x.2
theorem flat_tupS : ∀ (n : Nat) (l : List Sl), l.length = n + 1 → flatS n (tupS n l) = l.map slV
  | 0, l, h => by
    match l, h with
    | [x], _ => rfl
  | n + 1, l, h => by
    match l, h with
    | x :: r, h => 
      have ih := flat_tupS n r (by simpa using h)
      show slV x :: flatS n (tupS n r) = _
      rw [ih]; rfl
theorem size_aggS : ∀ n, (aggS n).size = n + 1
  | 0 => rfl
  | n + 1 => by
    show 1 + (aggS n).size = _
    rw [size_aggS n]; omega
theorem dec_aggS : ∀ (n : Nat) (l : List Sl) (r : List Value), l.length = n + 1 → dec (aggS n) true (l.map slV ++ r) = some (tupS n l, r)
  | 0, l, r, h => by
    match l, h with
    | [x], _ => rfl
  | n + 1, l, r, h => by
    match l, h with
    | x :: l', h =>
      have ih := dec_aggS n l' r (by simpa using h)
      simp only [aggS, List.map_cons, List.cons_append]
      have e1 : ∀ R : List Value, dec .sl true (slV x :: R) = some (x, R) := fun R => by
        simp only [dec, dSl]
      unfold dec
      rw [e1]
      simp only [ih]
      rfl
section
variable {w0 w : World} {T0 T : Hp} {sb c1 sc : Nat} {S : Sk} {L : List Sm} {A B : St} {α β : Type} {Q : α → World → Prop} {M : List Int}
theorem rd_queues (hq : S.queues.length = 17) : rdv (.agg (aggS 16)) (en (.sch S)).toArray (0 + 4) = some (tupS 16 S.queues) := by
  have hz : (Ty.agg (aggS 16)).size = 17 := size_aggS 16
  refine rdv_of (l := S.queues.map slV) (by rw [hz]; simpa using hq) (by omega) (fun k hk => ?_) ?_
  · rw [hz] at hk
    show (Sk.en S).toArray[0 + 4 + k]? = _
    rw [List.getElem?_toArray]
    unfold Sk.en
    rw [List.append_assoc, List.append_assoc, List.getElem?_append_right (by simp), List.getElem?_append_left (by simp; omega)]
    congr 1
    simp
  · unfold decs
    have := dec_aggS 16 S.queues [] hq
    rw [List.append_nil] at this
    have e : dec (Ty.agg (aggS 16)) true (S.queues.map slV) = some (tupS 16 S.queues, []) := by
      rw [← this]; simp only [dec]
    rw [e]
theorem ok_ixQs {l : List Sl} {i : Nat} {n : Sl} (h : l[i]? = some n) (hi : i < 17) {vs : List Value} (hv : vs = l.map slV) {y : Int} (hy : y = i) {f : Sl → Go.Sh.M α} (hq : Ok (f n) w Q) : Ok (bnd (ixG .sl vs 17 y) f) w Q := by
  subst hv; subst hy
  unfold ixG
  have e : (bif decide (0 ≤ (i : Int)) && decide ((i : Int) < ((17 : Nat) : Int)) then match (l.map slV)[(i : Int).toNat]? with
    | some v => optM (dec1 .sl v)
    | none => fail
    else fail : Go.Sh.M Sl) = ret n := by
    have h1 : (decide (0 ≤ (i : Int)) && decide ((i : Int) < ((17 : Nat) : Int))) = true := by simp; omega
    rw [h1, cond_true, Int.toNat_natCast, List.getElem?_map, h]
    rfl
  have hq' := ok_bnd.2 (ok_ret.2 hq)
  rw [← e] at hq'
  exact hq'
end
end Go.Proofs.Ytkkdeljladihpaa

/-
  Numbers read back: the walk through sound.
-/
namespace Go.Proofs.Ytkkdeljladihpaa
set_option linter.unusedVariables false
open Go.Sh Go.RowKit X
set_option maxRecDepth 100000
section
variable {w0 w : World} {T0 T : Hp} {sb c1 sc : Nat} {S : Sk} {L : List Sm} {A B : St} {α β : Type} {Q : α → World → Prop} {M : List Int}
theorem ok_makeI (C : Tr en w0 T0 w T) (o : Ow) {n : Nat} (hn : n ≤ 1000000) {f : Sl → Go.Sh.M α} (hq : ∀ s w' T', Tr en w0 T0 w' T' → Rw T' (Ob.ints o) s (List.replicate n 0) → (∀ b p, T b = some p → T' b = some p) → Ok (f s) w' Q) :
    Ok (bnd (runV Try.prog .sl (Instr.makeSlice 31 (.int .i64 (n : Int)) (.int .i64 (n : Int)))) f) w Q := by
  refine ok_bnd.2 (ok_make slt31 (by omega) (Int.le_refl _) (by omega) (by omega) ?_)
  have C1 := C.alloc (.ints o (List.replicate n 0)) 3
  have e : (en (.ints o (List.replicate n 0))).toArray = (List.replicate n (Value.int .i64 0)).toArray := by
    show ((List.replicate n (0 : Int)).flatMap iV).toArray = _
    rw [flat_iV, List.map_replicate]
  rw [e] at C1
  rw [Int.toNat_natCast]
  have hml : maxLen = 9223372036854775807 := by decide
  exact hq _ _ _ C1 ⟨by simp, Nat.le_refl _, by show n ≤ maxLen; omega, .inr ⟨_, _, rfl, put_eq _ _ _, by simp, by simp⟩⟩ fun b p hb => put_new hb C.none_at
theorem sound_spec (C : Tr en w0 T0 w T) {v : List Tm} (I : SInv T sb S L (A.back0 v)) (F : FitX A 0) (E : Ext A) (hH : A.Hi) {f : Bool → Go.Sh.M α}
    (hq : ∀ w' T' S' L', Tr en w0 T0 w' T' → SInv T' sb S' L' (A.back v) → Ok (f true) w' Q) : Ok (bnd (f42_sched_Sched_sound (some ⟨sb, 0, none⟩)) f) w Q := by
  have hf := F.few
  rw [back0_W] at I
  have hr0 := fun W => backW_rest A v W
  unfold f42_sched_Sched_sound
  rw [bnd_as]
  refine ok_tnew C (.box [.pointer (some ⟨sb, 0, none⟩)]) rfl fun c1 w1 hc1 C1 => ?_
  have I1 := I.newB (o := .box [.pointer (some ⟨sb, 0, none⟩)]) hc1
  have hcc : Sh.put T c1 (.box [.pointer (some ⟨sb, 0, none⟩)]) c1 = some (.box [.pointer (some ⟨sb, 0, none⟩)]) := put_eq _ _ _
  generalize Sh.put T c1 (.box [.pointer (some ⟨sb, 0, none⟩)]) = T1 at C1 I1 hcc
  refine ok_bnd.2 (ok_mono (Q := fun r w' => r = true ∧ ∃ T', Tr en w0 T0 w' T' ∧ SInv T' sb S L (A.back v)) ?_ ?_)
  rotate_left
  · rintro r w' ⟨rfl, T', h1, h2⟩
    exact hq w' T' S L h1 h2
  refine ok_tld0 C1 hcc (t := .ptr) (x := some ⟨sb, 0, none⟩) (by rfl) ?_
  refine ok_drfS (ok_tld C1 I1.sch (x := S.procs) (rdv_sl (by rfl)) ?_)
  have hpl : S.procs.len = A.procs.length := by rw [I1.procs.len]; exact (hr0 []).2.2.2.2.2
  rw [hpl]
  refine ok_makeI C1 (.out 2) (n := A.procs.length) (by omega) fun s w2 T2 C2 R2 hx2 => ?_
  have I2 := I1.ext hx2
  refine ok_tbox C2 rfl rfl fun sc w3 hsc C3 => ?_
  have D3 : Snd (Sh.put T2 sc (.box [slV s])) sb c1 sc S L (A.backW v []) (cntL A.procs.length []) :=
    ⟨I2.newB hsc, put_new (hx2 _ _ hcc) hsc, ⟨s, put_eq _ _ _, by rw [cntL_nil]; exact R2.mono fun b M _ hb => put_new hb hsc⟩, by rw [cntL_len]; exact (hr0 []).2.2.2.2.2.symm⟩
  generalize Sh.put T2 sc (.box [slV s]) = T3 at C3 D3
  refine ok_tld0 C3 D3.c (t := .ptr) (x := some ⟨sb, 0, none⟩) (by rfl) ?_
  refine ok_drfS (ok_tld C3 D3.I.sch (x := S.active) rfl ?_)
  have hSa : S.active = (A.active : Int) := by rw [I.active, (hr0 []).2.1]
  rw [hSa]
  have hact := F.rn.act
  refine ok_bnd.2 (ok_mono (Q := fun r w' => r = false ∧ ∃ T', Tr en w0 T0 w' T' ∧ Snd T' sb c1 sc S L (A.backW v []) (cntL A.procs.length (paL A))) ?_ ?_)
  · by_cases h0 : A.active = 0
    · refine ok_false (by simp [h0]) (ok_ret.2 ⟨rfl, T3, C3, ?_⟩)
      have : paL A = [] := by unfold paL; rw [if_pos h0]
      rw [this]; exact D3
    · refine ok_true (by simp; omega) ?_
      refine ok_tld0 C3 D3.c (t := .ptr) (x := some ⟨sb, 0, none⟩) (by rfl) ?_
      refine ok_drfS (ok_tld C3 D3.I.sch (x := S.active) rfl ?_)
      rw [hSa]
      have hst := backW_stand (v := v) (W := []) (n := A.active) (by omega) hact
      have hs2 : (A.pr A.active).standing = 2 := by
        rcases F.act with h | h
        · omega
        · exact h.2.1
      refine place_spec C3 D3 (n := A.active) (by omega) (by rw [(hr0 []).2.2.2.2.2]; exact hact) (by rw [(hr0 []).2.2.2.2.2]; exact hf.1) (by rw [cntL_get (by omega)]; simp) rfl (by rw [hst.1]; exact hs2) (.inl rfl) fun w4 T4 C4 D4 _ => ?_
      rw [cntL_set (by omega) hact] at D4
      refine ok_ret.2 ⟨rfl, T4, C4, ?_⟩
      have : paL A = [] ++ [A.active] := by unfold paL; rw [if_neg h0]; rfl
      rw [this]; exact D4
  rintro r w4 ⟨rfl, T4, C4, D4⟩
  refine ok_false rfl ?_
  clear D3 C3 R2 C2 I2 hx2 hcc I1 C1
  refine ok_tld0 C4 D4.c (t := .ptr) (x := some ⟨sb, 0, none⟩) (by rfl) ?_
  refine ok_drfS (ok_tld C4 D4.I.sch (x := S.sems) (rdv_sl (by rfl)) ?_)
  have hSs : S.sems.len = A.sems.length := by rw [I.sems.len, I.slen, (hr0 []).2.2.1]
  refine ok_loopN (fun m (i' : Int) w' => ∃ (i : Nat) (T' : Hp), i' = i ∧ i ≤ A.sems.length ∧ m = A.sems.length - i ∧ Tr en w0 T0 w' T' ∧ Snd T' sb c1 sc S L (A.backW v (smW A i)) (cntL A.procs.length (paL A ++ smW A i))) ?_ A.sems.length 0 w4 ⟨0, T4, rfl, Nat.zero_le _, rfl, C4, by simpa [smW] using D4⟩
  clear D4 C4
  rintro m i' w5 ⟨i, T5, rfl, hi, rfl, C5, D5⟩
  by_cases hlt : i < A.sems.length
  · refine ok_true (by rw [hSs]; simpa using hlt) ?_
    have hsi : (A.backW v (smW A i)).sems = A.sems := (hr0 _).2.2.1
    obtain ⟨r, hr1, hr2, hr3⟩ := sems_get D5.I (i := i) (by rw [hsi]; exact hlt)
    simp only [hsi] at hr2 hr3
    refine ok_rowld C5 (g := Sm.en) (n := 2) (mk := Ob.sems) (fun _ => rfl) (fun _ => rfl) D5.I.sems hr1 (v := (r.excess, r.queue)) (by decide) (by rfl) rfl ?_
    refine ok_tbox C5 rfl rfl fun pb w6 hpb C6 => ?_
    have D6 := D5.putB (o := .box [Value.int .i64 r.excess, slV r.queue]) hpb
    have hp6 : Sh.put T5 pb (.box [Value.int .i64 r.excess, slV r.queue]) pb = some (.box [Value.int .i64 r.excess, slV r.queue]) := put_eq _ _ _
    have hpp : pb ≠ sc := by
      obtain ⟨s, h1, _⟩ := D5.m
      rintro rfl; rw [hpb] at h1; cases h1
    refine ok_tld C6 hp6 (m := 0) (k := 1) (t := .sl) (x := r.queue) (rdv_sl (by rfl)) ?_
    have hql : r.queue.len = A.sems[i].2.length := by rw [hr3.len, ns_length]
    have hexc := F.exc (i + 1) (by omega) (by omega)
    have hwl := F.wl (i := i + 1) (by omega) (by omega)
    rw [sm_get hlt] at hexc hwl
    have D6' : Snd (Sh.put T5 pb (.box [Value.int .i64 r.excess, slV r.queue])) sb c1 sc S L (A.backW v (smW A i ++ A.sems[i].2.take 0)) (cntL A.procs.length (paL A ++ (smW A i ++ A.sems[i].2.take 0))) := by
      rw [List.take_zero, List.append_nil]; exact D6
    refine ok_loopN (fun m (j' : Int) w' => ∃ (j : Nat) (T' : Hp), j' = j ∧ j ≤ A.sems[i].2.length ∧ m = A.sems[i].2.length - j ∧ Tr en w0 T0 w' T' ∧ Snd T' sb c1 sc S L (A.backW v (smW A i ++ A.sems[i].2.take j)) (cntL A.procs.length (paL A ++ (smW A i ++ A.sems[i].2.take j))) ∧ T' pb = some (.box [Value.int .i64 r.excess, slV r.queue])) ?_ A.sems[i].2.length 0 w6 ⟨0, _, rfl, Nat.zero_le _, rfl, C6, D6', hp6⟩
    clear D6' D6 C6 hp6 D5 C5 hpb hr3
    rintro m j' w7 ⟨j, T7, rfl, hj, rfl, C7, D7, hp7⟩
    obtain ⟨r', hr1', _, hr3'⟩ := sems_get D7.I (i := i) (by rw [(hr0 _).2.2.1]; exact hlt)
    have : r' = r := by rw [hr1] at hr1'; simpa using hr1'.symm
    subst this
    simp only [(hr0 (smW A i ++ A.sems[i].2.take j)).2.2.1] at hr3'
    by_cases hjl : j < A.sems[i].2.length
    · refine ok_true (by rw [hql]; simpa using hjl) ?_
      have hg := ns_get hjl
      refine ok_rdE C7 (Rw.rd hr3') hg rfl ?_
      have hwq := F.wq (i + 1) _ (by omega) (by omega) (by rw [sm_get hlt]; exact List.getElem_mem hjl)
      have hst := backW_stand (A := A) (v := v) (W := smW A i ++ A.sems[i].2.take j) hwq.1 hwq.2.1
      have hnot := sem_not F hlt hjl
      have hnotW : A.sems[i].2[j] ∉ smW A i ++ A.sems[i].2.take j := fun h => hnot (List.mem_append_right _ h)
      refine place_spec C7 D7 (n := A.sems[i].2[j]) hwq.1 (by rw [(hr0 _).2.2.2.2.2]; exact hwq.2.1) (by rw [(hr0 _).2.2.2.2.2]; exact hf.1) (by rw [cntL_get (by omega), if_neg (by rw [Nat.sub_add_cancel hwq.1]; exact hnot)]) rfl (by rw [hst.1]; exact hwq.2.2.1) (.inl rfl) fun w8 T8 C8 D8 hx8 => ?_
      rw [cntL_set hwq.1 hwq.2.1] at D8
      have hp8 := hx8 _ _ hp7 (by simp)
      refine ok_fB rfl ?_
      simp only [bnd_as, bnd_ret]
      refine ok_tld C8 hp8 (m := 0) (k := 0) (t := .int .i64) (x := r'.excess) (by rfl) ?_
      have hex0 : r'.excess = 0 := by
        rw [hr2]
        exact hexc.2.2 (by intro h; rw [h] at hjl; simp at hjl)
      refine ok_false (by rw [hex0]; rfl) ?_
      refine ok_tld0 C8 D8.c (t := .ptr) (x := some ⟨sb, 0, none⟩) (by rfl) ?_
      obtain ⟨b, L', pat, g6, g7⟩ := D8.I.pat hwq.1 (by rw [(hr0 _).2.2.2.2.2]; exact hwq.2.1)
      refine of_spec C8 D8.I.sch pat hwq.1 (by omega) rfl ?_
      have hprz : (A.backW v (smW A i ++ A.sems[i].2.take j)).pr A.sems[i].2[j] = (A.pr A.sems[i].2[j]).z := by
        rw [backW_pr hwq.1 hwq.2.1, if_neg hnotW]
      have ei : IntKind.wrap .i64 ((i : Int) + 1) = (A.pr A.sems[i].2[j]).sem := by rw [wI (by omega), hwq.2.2.2.1]; simp
      rw [ei]
      refine ok_drfS (ok_pwr C8 pat (A.pr A.sems[i].2[j]) (j := 2) (by show 2 + 1 ≤ 3; decide) rfl (by rw [hprz]; rfl) fun w9 C9 => ?_)
      have I9 := D8.I.setPr pat g6 g7 (A.pr A.sems[i].2[j])
      rw [backW_set hwq.1 hwq.2.1] at I9
      have etk : A.sems[i].2.take (j + 1) = A.sems[i].2.take j ++ [A.sems[i].2[j]] := List.take_succ_eq_append_getElem hjl
      have hkeep : ∀ c o, T8 c = some o → (∀ l, o ≠ .procs l) → Sh.put T8 b (.procs (L'.set (A.sems[i].2[j] - 1) (A.pr A.sems[i].2[j]))) c = some o := fun c o hc hne => put_other hc pat.at_ (hne _)
      have D9 : Snd (Sh.put T8 b (.procs (L'.set (A.sems[i].2[j] - 1) (A.pr A.sems[i].2[j])))) sb c1 sc S L (A.backW v (smW A i ++ A.sems[i].2.take (j + 1))) (cntL A.procs.length (paL A ++ (smW A i ++ A.sems[i].2.take (j + 1)))) := by
        have e8 : smW A i ++ A.sems[i].2.take (j + 1) = smW A i ++ A.sems[i].2.take j ++ [A.sems[i].2[j]] := by rw [etk, List.append_assoc]
        rw [e8, ← List.append_assoc (paL A)]
        exact ⟨I9, hkeep _ _ D8.c (by simp), D8.m.imp fun s ⟨h1, h2⟩ => ⟨hkeep _ _ h1 (by simp), h2.mono fun c M _ hc => hkeep _ _ hc (by simp)⟩, by rw [cntL_len]; exact (hr0 _).2.2.2.2.2.symm⟩
      exact ok_ret.2 ⟨A.sems[i].2.length - (j + 1), by omega, j + 1, _, by rw [wI (by omega)]; simp, by omega, rfl, C9, D9, hkeep _ _ hp8 (by simp)⟩
    · refine ok_false (by rw [hql]; simpa using hjl) ?_
      rw [List.take_of_length_le (by omega)] at D7
      have e : smW A (i + 1) = smW A i ++ A.sems[i].2 := by unfold smW; rw [flat_take _ hlt]
      exact ok_ret.2 ⟨A.sems.length - (i + 1), by omega, i + 1, T7, by rw [wI (by omega)]; simp, by omega, rfl, C7, by rw [e]; exact D7⟩
  refine ok_false (by rw [hSs]; simpa using hlt) ?_
  have : i = A.sems.length := by omega
  subst this
  clear hlt hi
  refine ok_bnd.2 (ok_mono (Q := fun r w' => r = true ∧ ∃ T', Tr en w0 T0 w' T' ∧ SInv T' sb S L (A.back v)) ?_ fun r w' h => ok_ret.2 h)
  have hall : A.backW v (smW A A.sems.length) = A.back v := backW_all F fun n h1 h2 h3 => by
    have h := (all_mem F h1 h2 (by omega)).2 (by omega)
    rcases List.mem_append.1 h with h | h
    · rcases List.mem_append.1 h with h | h
      · have := mem_paL F h; omega
      · exact h
    · obtain ⟨_, _, _, _, h4, _⟩ := mem_quW F h
      omega
  have hrb := hr0 (smW A A.sems.length)
  refine ok_tld0 C5 D5.c (t := .ptr) (x := some ⟨sb, 0, none⟩) (by rfl) ?_
  refine ok_drfS (ok_tld C5 D5.I.sch (x := tupS 16 S.queues) (t := .agg (aggS 16)) (rd_queues D5.I.qlen) ?_)
  refine ok_loopN (fun m (i' : Int) w' => ∃ (p : Nat) (T' : Hp), i' = p ∧ p ≤ 17 ∧ m = 17 - p ∧ Tr en w0 T0 w' T' ∧ Snd T' sb c1 sc S L (A.backW v (smW A A.sems.length)) (cntL A.procs.length (paL A ++ smW A A.sems.length ++ quW A p))) ?_ 17 0 w5 ⟨0, T5, rfl, Nat.zero_le _, rfl, C5, by simpa [quW] using D5⟩
  clear D5 C5
  rintro m i' w5 ⟨p, T5, rfl, hp, rfl, C5, D5⟩
  by_cases hlt : p < 17
  · refine ok_true (by simp; omega) ?_
    obtain ⟨q, hq1, hq2⟩ := D5.I.q (p := p) hlt
    refine ok_ixQs (l := S.queues) hq1 hlt (flat_tupS 16 S.queues D5.I.qlen) rfl ?_
    rw [hrb.2.2.2.1] at hq2
    have hql := F.ql p
    have hqn : q.len = (A.queues p).length := by rw [hq2.len, ns_length]
    have D5' : Snd T5 sb c1 sc S L (A.backW v (smW A A.sems.length)) (cntL A.procs.length (paL A ++ smW A A.sems.length ++ (quW A p ++ (A.queues p).take 0))) := by
      rw [List.take_zero, List.append_nil]; exact D5
    refine ok_loopN (fun m (j' : Int) w' => ∃ (j : Nat) (T' : Hp), j' = j ∧ j ≤ (A.queues p).length ∧ m = (A.queues p).length - j ∧ Tr en w0 T0 w' T' ∧ Snd T' sb c1 sc S L (A.backW v (smW A A.sems.length)) (cntL A.procs.length (paL A ++ smW A A.sems.length ++ (quW A p ++ (A.queues p).take j)))) ?_ (A.queues p).length 0 w5 ⟨0, T5, rfl, Nat.zero_le _, rfl, C5, D5'⟩
    clear D5' D5 C5 hq2
    rintro m j' w7 ⟨j, T7, rfl, hj, rfl, C7, D7⟩
    obtain ⟨q', hq1', hq2⟩ := D7.I.q (p := p) hlt
    have : q' = q := by rw [hq1] at hq1'; simpa using hq1'.symm
    subst this
    rw [hrb.2.2.2.1] at hq2
    by_cases hjl : j < (A.queues p).length
    · refine ok_true (by rw [hqn]; simpa using hjl) ?_
      refine ok_rdE C7 (Rw.rd hq2) (ns_get hjl) rfl ?_
      have hwq := F.que p _ (List.getElem_mem hjl)
      have hst := backW_stand (A := A) (v := v) (W := smW A A.sems.length) hwq.1 hwq.2.1
      have hnot := que_not F hjl
      refine place_spec C7 D7 (n := (A.queues p)[j]) hwq.1 (by rw [hrb.2.2.2.2.2]; exact hwq.2.1) (by rw [hrb.2.2.2.2.2]; exact hf.1) (by rw [cntL_get (by omega), if_neg (by rw [Nat.sub_add_cancel hwq.1]; exact hnot)]) rfl (by rw [hst.1]; exact hwq.2.2.1) (.inr (by rw [hst.2]; exact hwq.2.2.2.1)) fun w8 T8 C8 D8 hx8 => ?_
      rw [cntL_set hwq.1 hwq.2.1] at D8
      refine ok_false rfl ?_
      have etk : (A.queues p).take (j + 1) = (A.queues p).take j ++ [(A.queues p)[j]] := List.take_succ_eq_append_getElem hjl
      have e8 : paL A ++ smW A A.sems.length ++ (quW A p ++ (A.queues p).take (j + 1)) = paL A ++ smW A A.sems.length ++ (quW A p ++ (A.queues p).take j) ++ [(A.queues p)[j]] := by rw [etk]; simp only [List.append_assoc]
      exact ok_ret.2 ⟨(A.queues p).length - (j + 1), by omega, j + 1, T8, by rw [wI (by omega)]; simp, by omega, rfl, C8, by rw [e8]; exact D8⟩
    · refine ok_false (by rw [hqn]; simpa using hjl) ?_
      rw [List.take_of_length_le (by omega)] at D7
      have e : quW A (p + 1) = quW A p ++ A.queues p := by unfold quW; rw [List.range_succ, List.flatMap_append]; simp
      exact ok_ret.2 ⟨17 - (p + 1), by omega, p + 1, T7, by rw [wI (by omega)]; simp, by omega, rfl, C7, by rw [e]; exact D7⟩
  refine ok_false (by simp; omega) ?_
  have : p = 17 := by omega
  subst this
  clear hlt hp
  refine ok_bnd.2 (ok_mono (Q := fun r w' => r = true ∧ ∃ T', Tr en w0 T0 w' T' ∧ SInv T' sb S L (A.back v)) ?_ fun r w' h => ok_ret.2 h)
  refine ok_tld0 C5 D5.c (t := .ptr) (x := some ⟨sb, 0, none⟩) (by rfl) ?_
  refine ok_drfS (ok_tld C5 D5.I.sch (x := S.procs) (rdv_sl (by rfl)) ?_)
  refine ok_loopN (fun m (i' : Int) w' => ∃ (i : Nat) (T' : Hp), i' = i ∧ i ≤ A.procs.length ∧ m = A.procs.length - i ∧ Tr en w0 T0 w' T' ∧ Snd T' sb c1 sc S L (A.backW v (smW A A.sems.length)) (cntL A.procs.length (paL A ++ smW A A.sems.length ++ quW A 17))) ?_ A.procs.length 0 w5 ⟨0, T5, rfl, Nat.zero_le _, rfl, C5, D5⟩
  clear D5 C5
  rintro m i' w5 ⟨i, T5, rfl, hi, rfl, C5, D5⟩
  by_cases hlt : i < A.procs.length
  · refine ok_true (by rw [hpl]; simpa using hlt) ?_
    have hg := pr_get (A := A.backW v (smW A A.sems.length)) (n := i + 1) (by omega) (by rw [hrb.2.2.2.2.2]; omega)
    rw [Nat.add_sub_cancel] at hg
    have hst := backW_stand (A := A) (v := v) (W := smW A A.sems.length) (n := i + 1) (by omega) (by omega)
    generalize (A.backW v (smW A A.sems.length)).pr (i + 1) = r at hg hst
    refine ok_rowld C5 (g := Pr.en) (n := 3) (mk := Ob.procs) (fun _ => rfl) (fun _ => rfl) D5.I.procs hg (v := (r.prio, r.standing, r.sem)) (by decide) (by rfl) rfl ?_
    refine ok_tbox C5 rfl rfl fun pb w6 hpb C6 => ?_
    have D6 := D5.putB (o := .box [Value.int .i64 r.prio, .int .u8 r.standing, .int .i64 r.sem]) hpb
    have hstd := E.std _ (St.pr_mem (A := A) (n := i + 1) (by omega) (by omega))
    have ham := all_mem F (n := i + 1) (by omega) (by omega) hstd
    rw [← hst.1] at ham
    refine ok_tld C6 (put_eq _ _ _) (m := 0) (k := 1) (t := .int .u8) (x := r.standing) (by rfl) ?_
    refine ok_bnd.2 (ok_mono (Q := fun b w' => w' = w6 ∧ b = decide (r.standing = 4 ∨ r.standing = 5)) ?_ ?_)
    · by_cases h4 : r.standing = 4
      · exact ok_true (by rw [h4]; rfl) (ok_ret.2 ⟨rfl, by simp [h4]⟩)
      · refine ok_false (by rw [beq_eq_false_iff_ne]; exact h4) ?_
        refine ok_tld C6 (put_eq _ _ _) (m := 0) (k := 1) (t := .int .u8) (x := r.standing) (by rfl) (ok_ret.2 ⟨rfl, ?_⟩)
        rw [Bool.eq_iff_iff]; simp [h4]
    rintro b w7 ⟨hw, rfl⟩
    rw [hw]
    refine ok_bnd.2 (ok_mono (Q := fun x w' => w' = w6 ∧ x = if (r.standing = 4 ∨ r.standing = 5) then (0 : Int) else 1) ?_ ?_)
    · by_cases h4 : r.standing = 4 ∨ r.standing = 5
      · exact ok_true (by simpa using h4) (ok_ret.2 ⟨rfl, by rw [if_pos h4]⟩)
      · exact ok_false (by simpa using h4) (ok_ret.2 ⟨rfl, by rw [if_neg h4]⟩)
    rintro x w8 ⟨hw8, rfl⟩
    rw [hw8]
    obtain ⟨s6, hs6, hr6⟩ := D6.m
    refine ok_tld0 C6 hs6 (x := s6) (rdv_sl (by rfl)) ?_
    refine ok_rdE C6 (Rw.rd hr6) (cntL_get hlt) rfl ?_
    refine ok_false ?_ (ok_ret.2 ⟨A.procs.length - (i + 1), by omega, i + 1, _, by rw [wI (by omega)]; simp, by omega, rfl, C6, D6⟩)
    by_cases h4 : r.standing = 4 ∨ r.standing = 5
    · rw [if_neg (fun h => ham.1 h h4), if_pos h4]; rfl
    · rw [if_pos (ham.2 h4), if_neg h4]; rfl
  refine ok_false (by rw [hpl]; simpa using hlt) ?_
  refine ok_bnd.2 (ok_mono (Q := fun r w' => r = true ∧ ∃ T', Tr en w0 T0 w' T' ∧ SInv T' sb S L (A.back v)) ?_ fun r w' h => ok_ret.2 h)
  simp only [bnd_as, bnd_ret]
  refine ok_tld0 C5 D5.c (t := .ptr) (x := some ⟨sb, 0, none⟩) (by rfl) ?_
  refine ok_scall C5 (highest_spec C5.th D5.I) fun r w6 T6 C6 h => ?_
  obtain ⟨rfl, rfl⟩ := h
  have hhi : (A.backW v (smW A A.sems.length)).highest = A.highest := by unfold St.highest; rw [hrb.2.2.2.1]
  rw [hhi]
  have hIf := D5.I
  rw [hall] at hIf
  unfold St.Hi at hH
  refine ok_tord C6 fun o w7 C7 => ?_
  refine ok_tld0 C7 D5.c (t := .ptr) (x := some ⟨sb, 0, none⟩) (by rfl) ?_
  refine ok_drfS (ok_tld C7 D5.I.sch (x := S.active) rfl ?_)
  rw [hSa]
  by_cases h0 : A.active = 0
  · rw [if_pos h0] at hH
    refine ok_tB (by rw [h0]; rfl) ?_
    refine ok_tB (by rw [hH]; rfl) ?_
    simp only [bnd_as, bnd_ret]
    refine ok_tchk (m := 0) (k := 1) (t := .int .i64) (x := (A.active : Int)) C7 D5.I.sch (by rw [← hSa]; rfl) ?_
    refine ok_tchk0 C7 D5.c (t := .ptr) (x := some ⟨sb, 0, none⟩) (by rfl) ?_
    exact ok_ret.2 ⟨rfl, _, C7, hIf⟩
  · rw [if_neg h0] at hH
    refine ok_fB (by rw [beq_eq_false_iff_ne]; omega) ?_
    simp only [bnd_as, bnd_ret]
    refine ok_tld0 C7 D5.c (t := .ptr) (x := some ⟨sb, 0, none⟩) (by rfl) ?_
    refine ok_drfS (ok_tld C7 D5.I.sch (x := S.active) rfl ?_)
    rw [hSa]
    refine ok_tB (by simp; omega) ?_
    simp only [bnd_as, bnd_ret]
    refine ok_tld0 C7 D5.c (t := .ptr) (x := some ⟨sb, 0, none⟩) (by rfl) ?_
    refine ok_tld0 C7 D5.c (t := .ptr) (x := some ⟨sb, 0, none⟩) (by rfl) ?_
    refine ok_drfS (ok_tld C7 D5.I.sch (x := S.active) rfl ?_)
    rw [hSa]
    obtain ⟨b, L', pat, g6, g7⟩ := D5.I.pat (n := A.active) (by omega) (by rw [hrb.2.2.2.2.2]; exact hact)
    refine of_spec C7 D5.I.sch pat (by omega) (by omega) rfl ?_
    have ea : rdv (.int .i64) (en (.sch S)).toArray (0 + 1) = some (A.active : Int) := by rw [← hSa]; rfl
    refine ok_tchk0 C7 D5.c (t := .ptr) (x := some ⟨sb, 0, none⟩) (by rfl) ?_
    refine ok_tchk (m := 0) (k := 1) (t := .int .i64) (x := (A.active : Int)) C7 D5.I.sch ea ?_
    refine ok_tchk0 C7 D5.c (t := .ptr) (x := some ⟨sb, 0, none⟩) (by rfl) ?_
    refine ok_tchk (m := 0) (k := 1) (t := .int .i64) (x := (A.active : Int)) C7 D5.I.sch ea ?_
    refine ok_tchk0 C7 D5.c (t := .ptr) (x := some ⟨sb, 0, none⟩) (by rfl) ?_
    refine ok_drfS (ok_pld C7 pat (j := 0) (t := .int .i64) (x := ((A.backW v (smW A A.sems.length)).pr A.active).prio) (by decide) (by rfl) ?_)
    rw [(backW_stand (A := A) (v := v) (W := smW A A.sems.length) (n := A.active) (by omega) hact).2]
    exact ok_ret.2 ⟨by simpa using hH, _, C7, hIf⟩
end
end Go.Proofs.Ytkkdeljladihpaa
