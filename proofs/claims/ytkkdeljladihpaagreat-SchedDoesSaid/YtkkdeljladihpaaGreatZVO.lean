/-
  Parts of the proof: ZXE, ZVL, ZVM, ZVN, ZVO. It states what the functions do; no further condition.
-/
import Derived.Test.YtkkdeljladihpaaGreatZVK
import Derived.Test.YtkkdeljladihpaaGreatZUE
import Derived.Test.YtkkdeljladihpaaGreatShQ
import Derived.Deep.Slices
set_option linter.unusedVariables false
set_option linter.unusedSimpArgs false
/-
  The package's scheduler and the document's are alike: any call; all of it as numbers. No program in sight.
-/
namespace Go.Proofs.YtkkdeljladihpaaGreat
namespace R
noncomputable def St.call (A : St) (x : Act) : Int × St :=
  if x.1 = 1 then ((A.fork x.2.1).1.2, (A.fork x.2.1).2) else if x.1 = 2 then A.yield else if x.1 = 3 then (A.semaphore.1.2, A.semaphore.2)
  else if x.1 = 4 then A.wait x.2.1 else if x.1 = 5 then A.signal x.2.1 else if x.1 = 6 then A.suspend x.2.1 else if x.1 = 7 then A.resume x.2.1
  else if x.1 = 8 then A.terminate x.2.1 else if x.1 = 9 then A.setPriority x.2.1 x.2.2 else if x.1 = 10 then A.at_ x.2.1 x.2.2
  else if x.1 = 11 then ((A.tick x.2.1).1.2, (A.tick x.2.1).2) else if x.1 = 12 then A.listen x.2.1 x.2.2 else if x.1 = 13 then (0, (A.event x.2.1).2) else (0, A)
theorem SimX.call {A : YtkkdeljladihpaaGreat.St} {B : St} (M : SimX A B 0) (F : FitX A 0) (x : Act) : SimX (A.call x).2 (B.call x).2 0 := by
  unfold YtkkdeljladihpaaGreat.St.call St.call
  by_cases e : x.1 = 1
  · rw [if_pos e, if_pos e]; exact (M.fork F _).2
  rw [if_neg e, if_neg e]; clear e
  by_cases e : x.1 = 2
  · rw [if_pos e, if_pos e]; exact (M.yield F).2
  rw [if_neg e, if_neg e]; clear e
  by_cases e : x.1 = 3
  · rw [if_pos e, if_pos e]; exact (M.semaphore F).2
  rw [if_neg e, if_neg e]; clear e
  by_cases e : x.1 = 4
  · rw [if_pos e, if_pos e]; exact (M.wait F _).2
  rw [if_neg e, if_neg e]; clear e
  by_cases e : x.1 = 5
  · rw [if_pos e, if_pos e]; exact (M.signal F _).2
  rw [if_neg e, if_neg e]; clear e
  by_cases e : x.1 = 6
  · rw [if_pos e, if_pos e]; exact (M.suspend F _).2
  rw [if_neg e, if_neg e]; clear e
  by_cases e : x.1 = 7
  · rw [if_pos e, if_pos e]; exact (M.resume F _).2
  rw [if_neg e, if_neg e]; clear e
  by_cases e : x.1 = 8
  · rw [if_pos e, if_pos e]; exact (M.terminate F _).2
  rw [if_neg e, if_neg e]; clear e
  by_cases e : x.1 = 9
  · rw [if_pos e, if_pos e]; exact (M.setPriority F _ _).2
  rw [if_neg e, if_neg e]; clear e
  by_cases e : x.1 = 10
  · rw [if_pos e, if_pos e]; exact (M.at_ _ _).2
  rw [if_neg e, if_neg e]; clear e
  by_cases e : x.1 = 11
  · rw [if_pos e, if_pos e]; exact (M.tick F _).2
  rw [if_neg e, if_neg e]; clear e
  by_cases e : x.1 = 12
  · rw [if_pos e, if_pos e]; exact (M.listen _ _).2
  rw [if_neg e, if_neg e]; clear e
  by_cases e : x.1 = 13
  · rw [if_pos e, if_pos e]; exact (M.event F _).2
  rw [if_neg e, if_neg e]; exact M
theorem gr_fork (A : St) (p : Int) : Gr A (A.fork p).2 2 := by
  unfold St.fork
  split
  · exact (Gr.refl A).mono (by decide)
  split
  · exact (Gr.refl A).mono (by decide)
  · have h1 : Gr A ({ A with procs := A.procs ++ [⟨p, 1, 0, A.last + 1⟩] } : St).behind 1 := Gr.behind_ (A := A) (B := ({ A with procs := A.procs ++ [⟨p, 1, 0, A.last + 1⟩] } : St).behind) rfl rfl (by decide)
    exact h1.trans (gr_runs _)
theorem gr_yield (A : St) : Gr A A.yield.2 2 := by
  unfold St.yield
  split
  · exact (Gr.refl A).mono (by decide)
  · have h1 : Gr A (A.back A.active) 1 := Gr.behind_ (A := A) (B := A.back A.active) rfl rfl (by decide)
    exact h1.trans (gr_runs _)
theorem gr_semaphore (A : St) : Gr A A.semaphore.2 2 := by
  unfold St.semaphore
  split
  · exact (Gr.refl A).mono (by decide)
  · exact Gr.of (A := A) (B := { A with excess := A.excess ++ [0] }) rfl rfl (by decide)
theorem gr_wait (A : St) (n : Int) : Gr A (A.wait n).2 2 := by
  unfold St.wait
  split
  · exact (Gr.refl A).mono (by decide)
  split
  · exact (Gr.refl A).mono (by decide)
  split
  · exact Gr.of (A := A) (B := A.setE _ _) rfl rfl (by decide)
  · have h1 : Gr A (A.waits n.toNat) 1 := Gr.behind_ (A := A) (B := A.waits n.toNat) rfl rfl (by decide)
    exact h1.trans (gr_runs _)
theorem gr_signal (A : St) (n : Int) : Gr A (A.signal n).2 2 := (gr_signal0 A n).trans (gr_runs _)
theorem gr_stand (A : St) (n : Nat) (r : Pr) : Gr A (A.setPr n r).runs 2 := by
  have h1 : Gr A (A.setPr n r) 1 := Gr.of (A := A) (B := A.setPr n r) rfl rfl (by decide)
  exact h1.trans (gr_runs _)
theorem gr_suspend (A : St) (n : Int) : Gr A (A.suspend n).2 2 := by
  unfold St.suspend
  split
  · exact (Gr.refl A).mono (by decide)
  split
  · exact (Gr.refl A).mono (by decide)
  · exact gr_stand A _ _
theorem gr_terminate (A : St) (n : Int) : Gr A (A.terminate n).2 2 := by
  unfold St.terminate
  split
  · exact (Gr.refl A).mono (by decide)
  · exact gr_stand A _ _
theorem gr_resume (A : St) (n : Int) : Gr A (A.resume n).2 2 := by
  unfold St.resume
  split
  · exact (Gr.refl A).mono (by decide)
  split
  · exact (Gr.refl A).mono (by decide)
  · have h1 : Gr A (A.ready n.toNat) 1 := Gr.behind_ (A := A) (B := A.ready n.toNat) rfl rfl (by decide)
    exact h1.trans (gr_runs _)
theorem gr_setPriority (A : St) (n p : Int) : Gr A (A.setPriority n p).2 2 := by
  unfold St.setPriority
  split
  · exact (Gr.refl A).mono (by decide)
  split
  · exact (Gr.refl A).mono (by decide)
  · have h1 : Gr A (A.prioed n.toNat p) 1 := by
      unfold St.prioed
      split
      · exact Gr.behind_ (A := A) (B := (A.setPr _ _).behind) rfl rfl (by decide)
      · exact Gr.of (A := A) (B := A.setPr _ _) rfl rfl (by decide)
    exact h1.trans (gr_runs _)
theorem gr_at (A : St) (n t : Int) : Gr A (A.at_ n t).2 2 := by
  unfold St.at_
  split
  · exact (Gr.refl A).mono (by decide)
  split
  · exact (Gr.refl A).mono (by decide)
  split
  · exact (Gr.refl A).mono (by decide)
  · exact Gr.behind_ (A := A) (B := ({ A with timers := A.timers ++ [⟨t, n, A.last + 1⟩] } : St).behind) rfl rfl (by decide)
theorem gr_ticks (now : Int) : ∀ (f : Nat) (A : St) (n : Int), Gr A (St.ticks now f A n).1 f
  | 0, A, n => Gr.refl A
  | f + 1, A, n => by
    unfold St.ticks
    split
    · have h1 : Gr A ({ A with timers := St.less A.timers (St.nextI A.timers).toNat } : St) 0 := Gr.of (A := A) (B := { A with timers := St.less A.timers (St.nextI A.timers).toNat }) rfl rfl (by decide)
      exact ((h1.trans (gr_signal0 _ _)).trans (gr_ticks now f _ (n + 1))).mono (by omega)
    · exact (Gr.refl A).mono (by omega)
theorem gr_tick (A : St) (hl : A.timers.length ≤ 4096) (n : Int) : Gr A (A.tick n).2 4098 := by
  unfold St.tick
  split
  · exact (Gr.refl A).mono (by decide)
  · have h1 : Gr A ({ A with now := n } : St) 0 := Gr.of (A := A) (B := { A with now := n }) rfl rfl (by decide)
    exact ((h1.trans (gr_ticks n A.timers.length _ 0)).trans (gr_runs _)).mono (by omega)
theorem gr_listen (A : St) (e n : Int) : Gr A (A.listen e n).2 2 := by
  unfold St.listen
  split
  · exact (Gr.refl A).mono (by decide)
  split
  · exact (Gr.refl A).mono (by decide)
  · exact Gr.of (A := A) (B := { A with events := A.events.set e.toNat n }) rfl rfl (by decide)
theorem gr_event (A : St) (e : Int) : Gr A (A.event e).2 2 := by
  unfold St.event
  split
  · exact (Gr.refl A).mono (by decide)
  · exact gr_signal A _
theorem gr_call (A : St) (hl : A.timers.length ≤ 4096) (x : Act) : Gr A (A.call x).2 4098 := by
  unfold St.call
  by_cases e : x.1 = 1
  · rw [if_pos e]; exact (gr_fork A _).mono (by decide)
  rw [if_neg e]; clear e
  by_cases e : x.1 = 2
  · rw [if_pos e]; exact (gr_yield A).mono (by decide)
  rw [if_neg e]; clear e
  by_cases e : x.1 = 3
  · rw [if_pos e]; exact (gr_semaphore A).mono (by decide)
  rw [if_neg e]; clear e
  by_cases e : x.1 = 4
  · rw [if_pos e]; exact (gr_wait A _).mono (by decide)
  rw [if_neg e]; clear e
  by_cases e : x.1 = 5
  · rw [if_pos e]; exact (gr_signal A _).mono (by decide)
  rw [if_neg e]; clear e
  by_cases e : x.1 = 6
  · rw [if_pos e]; exact (gr_suspend A _).mono (by decide)
  rw [if_neg e]; clear e
  by_cases e : x.1 = 7
  · rw [if_pos e]; exact (gr_resume A _).mono (by decide)
  rw [if_neg e]; clear e
  by_cases e : x.1 = 8
  · rw [if_pos e]; exact (gr_terminate A _).mono (by decide)
  rw [if_neg e]; clear e
  by_cases e : x.1 = 9
  · rw [if_pos e]; exact (gr_setPriority A _ _).mono (by decide)
  rw [if_neg e]; clear e
  by_cases e : x.1 = 10
  · rw [if_pos e]; exact (gr_at A _ _).mono (by decide)
  rw [if_neg e]; clear e
  by_cases e : x.1 = 11
  · rw [if_pos e]; exact gr_tick A hl _
  rw [if_neg e]; clear e
  by_cases e : x.1 = 12
  · rw [if_pos e]; exact (gr_listen A _ _).mono (by decide)
  rw [if_neg e]; clear e
  by_cases e : x.1 = 13
  · rw [if_pos e]; exact (gr_event A _).mono (by decide)
  rw [if_neg e]; exact (Gr.refl A).mono (by decide)
section
variable {A : YtkkdeljladihpaaGreat.St} {B : St}
theorem SimX.new : SimX YtkkdeljladihpaaGreat.St.new St.new 0 :=
  ⟨rfl, rfl, rfl, rfl, fun n h1 h2 => absurd h2 (by show ¬ n ≤ 0; omega), fun n h1 h2 => absurd h2 (by show ¬ n ≤ 0; omega), fun p => List.Pairwise.nil, fun i h1 h2 => absurd h2 (by show ¬ i ≤ 0; omega), fun p n h => (by cases h), fun i n h1 h2 => absurd h2 (by show ¬ i ≤ 0; omega), TmS.new, Int.le_refl _, Int.le_refl _⟩
theorem SimX.rsm (M : SimX A B 0) (F : FitX A 0) : ∀ i, i ≤ A.sems.length → R.rsm B i = (A.sems.take i).flatMap smL
  | 0, _ => by rw [List.take_zero]; rfl
  | i + 1, h => by
    have ih := SimX.rsm M F i (by omega)
    have hw := (M.quW F (i := i + 1) (by omega) h).ord
    rw [List.take_succ_eq_append_getElem (by omega), List.flatMap_append, ← ih]
    show R.rsm B i ++ (B.ex (i + 1) :: qL (B.ord 3 0 ((i + 1 : Nat) : Int))) = _
    rw [hw, M.ex]
    have e : A.sm (i + 1) = A.sems[i]'(by omega) := by
      unfold YtkkdeljladihpaaGreat.St.sm
      rw [List.getD_eq_getElem?_getD, show i + 1 - 1 = i from rfl, List.getElem?_eq_getElem (by omega)]; rfl
    rw [e]
    simp [smL]
theorem SimX.rqs (M : SimX A B 0) (F : FitX A 0) : ∀ p, R.rqs B p = qsL A p
  | 0 => rfl
  | p + 1 => by
    have ih := SimX.rqs M F p
    have hw := (M.quQ F (p := p + 1) (by omega)).ord
    show R.rqs B p ++ qL (B.ord 1 ((p + 1 : Nat) : Int) 0) = qsL A p ++ qL (A.queues (p + 1))
    rw [ih, hw]
theorem SimX.prs (M : SimX A B 0) : ∀ i, i ≤ A.procs.length → (B.procs.take i).flatMap prR = (A.procs.take i).flatMap prL
  | 0, _ => by rw [List.take_zero, List.take_zero]; rfl
  | i + 1, h => by
    have ih := SimX.prs M i (by omega)
    have hl := M.len
    have h1 := M.prio (i + 1) (by omega) h
    have h2 := (M.std (i + 1) (by omega) h (by omega)).1
    have e1 : B.pr (i + 1) = B.procs[i]'(by omega) := by
      have := pr_get (A := B) (n := i + 1) (by omega) (by omega)
      rw [show i + 1 - 1 = i from rfl, List.getElem?_eq_getElem (by omega), Option.some.injEq] at this
      exact this.symm
    have e2 : A.pr (i + 1) = A.procs[i]'(by omega) := by
      unfold YtkkdeljladihpaaGreat.St.pr
      rw [List.getD_eq_getElem?_getD, show i + 1 - 1 = i from rfl, List.getElem?_eq_getElem (by omega)]; rfl
    rw [e1, e2] at h1 h2
    rw [List.take_succ_eq_append_getElem (by omega), List.take_succ_eq_append_getElem (by omega), List.flatMap_append, List.flatMap_append, ih]
    simp [prR, prL, h1, h2]
theorem SimX.state (M : SimX A B 0) (F : FitX A 0) {v : List YtkkdeljladihpaaGreat.Tm} (hv : v.Perm A.timers) (hs : v.Pairwise fun x y => YtkkdeljladihpaaGreat.St.lt y x = false) : rstateL B = stateL A v := by
  obtain ⟨u, x, k1, k2, k3, k4, k5⟩ := M.tms
  have hvu : v = u := YtkkdeljladihpaaGreat.St.sorted_eq (hv.trans k1.perm.symm) hs k1.sorted
  have hsel := TmS.sel A.timers.length M.tms k1 rfl
  have h1 := M.rsm F A.sems.length (Nat.le_refl _)
  have h2 := M.rqs F 16
  have h3 := M.prs A.procs.length (Nat.le_refl _)
  rw [List.take_length] at h1
  rw [List.take_length, List.take_of_length_le (by rw [M.len]; exact Nat.le_refl _)] at h3
  unfold rstateL hd3 hd2 hd1 hd0 stateL headL
  rw [M.events, M.tms.len, M.elen, h1, h2, h3, hsel, M.active F, M.now, M.len, hvu, k1.perm.length_eq]
end
end R
end Go.Proofs.YtkkdeljladihpaaGreat

/-
  SchedDoes: the package's heap, the document's and the law's own side by side; one act of both.
-/
namespace Go.Proofs.YtkkdeljladihpaaGreat
open Go.Sh Go.RowKit X Y
set_option maxRecDepth 100000
inductive VOb where
  | box (l : List Value)
  | row (l : List Sl)
  | out (k : Nat) (l : List Int)
def ven : VOb → List Value
  | .box l => l
  | .row l => l.flatMap fun s => [slV s]
  | .out _ l => l.flatMap iV
abbrev Vp := Nat → Option VOb
structure Tri (w0 w : World) (T : Hp) (U : R.Hp) (V : Vp) : Prop where
  t : Tr en w0 (fun _ => none) w T
  u : Tr R.en w0 (fun _ => none) w U
  v : Tr ven w0 (fun _ => none) w V
  tu : ∀ b, T b ≠ none → U b = none
  tv : ∀ b, T b ≠ none → V b = none
  uv : ∀ b, U b ≠ none → V b = none
section
variable {O O2 O3 : Type} {en1 : O → List Value} {en2 : O2 → List Value} {en3 : O3 → List Value} {w0 w w' : World} {X : Nat → Option O2} {Y Y' : Nat → Option O3}
theorem dj_new (h : ∀ b, X b ≠ none → Y b = none) (D : Tr en3 w Y w' Y') (hX : Th en2 w X) : ∀ b, X b ≠ none → Y' b = none := by
  intro b hb
  cases hV : Y' b with
  | none => rfl
  | some o =>
    rcases D.new b (by rw [hV]; simp) with h' | h'
    · exact absurd (h b hb) h'
    · cases hU : X b with
      | none => exact absurd hU hb
      | some o => have := hX.lt hU; omega
theorem dj_old (h : ∀ b, Y b ≠ none → X b = none) (D : Tr en3 w Y w' Y') (hX : Th en2 w X) : ∀ b, Y' b ≠ none → X b = none := by
  intro b hb
  rcases D.new b hb with h' | h'
  · exact h b h'
  · cases hU : X b with
    | none => rfl
    | some o => have := hX.lt hU; omega
theorem dj_swap (h : ∀ b, X b ≠ none → Y b = none) : ∀ b, Y b ≠ none → X b = none := fun b hb => by
  cases hU : X b with
  | none => rfl
  | some o => exact absurd (h b (by rw [hU]; simp)) hb
/-- One heap goes on; another one does not mind. -/
theorem Tr.other (C : Tr en2 w0 (fun _ => none) w X) (B : Tr en3 w0 (fun _ => none) w Y) (D : Tr en3 w Y w' Y') (hd : ∀ b, X b ≠ none → Y b = none) : Tr en2 w0 (fun _ => none) w' X := by
  refine ⟨fun b o hb => ?_, (B.trans D).keep.mono fun i _ hs => absurd rfl hs, C.new⟩
  have hlt := C.th.lt hb
  have hk := D.keep.block b hlt (by simpa using hd b (by rw [hb]; simp))
  obtain ⟨g1, g2⟩ := C.th b o hb
  exact ⟨(blk_of hk).trans g1, by unfold cln; rw [hk]; exact g2⟩
end
section
variable {w0 w w' : World} {T T' : Hp} {U U' : R.Hp} {V V' : Vp}
theorem Tri.stepT (h : Tri w0 w T U V) (C : Tr en w T w' T') : Tri w0 w' T' U V :=
  ⟨h.t.trans C, Tr.other h.u h.t C (dj_swap h.tu), Tr.other h.v h.t C (dj_swap h.tv), dj_old h.tu C h.u.th, dj_old h.tv C h.v.th, h.uv⟩
theorem Tri.stepU (h : Tri w0 w T U V) (C : Tr R.en w U w' U') : Tri w0 w' T U' V :=
  ⟨Tr.other h.t h.u C h.tu, h.u.trans C, Tr.other h.v h.u C (dj_swap h.uv), dj_new h.tu C h.t.th, h.tv, dj_old h.uv C h.v.th⟩
theorem Tri.stepV (h : Tri w0 w T U V) (C : Tr ven w V w' V') : Tri w0 w' T U V' :=
  ⟨Tr.other h.t h.v C h.tv, Tr.other h.u h.v C h.uv, h.v.trans C, h.tu, dj_new h.tv C h.t.th, dj_new h.uv C h.u.th⟩
theorem Tri.call (h : Tri w0 w T U V) (k : Below w.heap.size w w') : Tri w0 w' T U V := ⟨h.t.call k, h.u.call k, h.v.call k, h.tu, h.tv, h.uv⟩
theorem Tri.start (w : World) : Tri w w (fun _ => none) (fun _ => none) (fun _ => none) :=
  ⟨Tr.refl fun b o h => by (cases h), Tr.refl fun b o h => by (cases h), Tr.refl fun b o h => by (cases h), fun _ _ => rfl, fun _ _ => rfl, fun _ _ => rfl⟩
theorem Tri.below (h : Tri w0 w T U V) : Below w0.heap.size w0 w := bel h.t
end
abbrev nums (k : IntKind) (l : List Int) : List Value := l.map (Value.int k)
section
variable {O : Type} {en1 : O → List Value} {w0 w : World} {T0 T : Nat → Option O}
theorem rw_arr {mk : List Int → O} (h : Th en1 w T) (hmk : ∀ l, en1 (mk l) = l.flatMap iV) {s : Sl} {l : List Int} (hr : Rw T mk s l) : Arr w.heap.size w s (nums .i64 l) := by
  refine ⟨by rw [hr.len]; simp [nums], hr.le, hr.max, ?_⟩
  rcases hr.at_ with ⟨g1, g2⟩ | ⟨b, M, g1, g2, g3, g4⟩
  · left
    have h1 := hr.len; have h2 := hr.le
    have : l = [] := List.eq_nil_of_length_eq_zero (by omega)
    rw [this]; rfl
  · right
    have hB := h b _ g2
    refine ⟨b, 0, _, g1, h.lt g2, hB.1, fun j hj => ?_⟩
    rw [Nat.zero_add, List.getElem?_toArray, hmk, flat_iV]
    have hj' : j < l.length := by simpa [nums] using hj
    rw [List.getElem?_map, ← List.getElem?_take_of_lt hj', g4]
    simp [nums]
end
section
variable {w : World} {α : Type} {Q : α → World → Prop}
theorem same_spec {s1 s2 : Sl} {l1 l2 : List Int} (h1 : Arr w.heap.size w s1 (nums .i64 l1)) (h2 : Arr w.heap.size w s2 (nums .i64 l2)) (hl : l1.length ≤ 1000000000) : Ok (f11_SameInts s1 s2) w fun r w' => r = decide (l1 = l2) ∧ Below w.heap.size w w' := by
  unfold f11_SameInts
  have e1 : s1.len = l1.length := by have := h1.1; simpa [nums] using this
  have e2 : s2.len = l2.length := by have := h2.1; simpa [nums] using this
  by_cases hn : l1.length = l2.length
  · refine ok_false (by rw [e1, e2, hn]; simp) ?_
    refine ok_loopN (fun m (i' : Int) w' => ∃ i : Nat, i' = i ∧ i ≤ l1.length ∧ m = l1.length - i ∧ l1.take i = l2.take i ∧ Below w.heap.size w w') ?_ l1.length 0 w ⟨0, rfl, Nat.zero_le _, by omega, by simp, Below.refl _ _⟩
    rintro m i' w' ⟨i, rfl, hi, rfl, ht, hb⟩
    by_cases hlt : i < l1.length
    · refine ok_true (by rw [e1]; simpa using hlt) ?_
      refine ok_bnd.2 (ok_drawM.2 ?_)
      have hb2 : Below w.heap.size w w'.drew := hb.drew
      refine ok_get (arr_below h1 hb2) (Int.natCast_nonneg _) (n := l1[i]) (by rw [Int.toNat_natCast]; exact List.getElem?_eq_getElem hlt) ?_
      refine ok_get (arr_below h2 hb2) (Int.natCast_nonneg _) (n := l2[i]'(by omega)) (by rw [Int.toNat_natCast]; exact List.getElem?_eq_getElem (by omega)) ?_
      by_cases hv : l1[i] = l2[i]'(by omega)
      · refine ok_false (by simp [hv]) (ok_ret.2 ⟨l1.length - (i + 1), by omega, i + 1, by rw [wI (by omega)]; omega, hlt, rfl, ?_, hb2⟩)
        rw [List.take_succ_eq_append_getElem hlt, List.take_succ_eq_append_getElem (by omega), ht, hv]
      · refine ok_true (by simpa using hv) (ok_ret.2 ⟨?_, hb2⟩)
        have : l1 ≠ l2 := by rintro rfl; exact hv rfl
        rw [decide_eq_false this]
    · refine ok_false (by rw [e1]; simpa using hlt) (ok_ret.2 ⟨?_, hb⟩)
      have : l1 = l2 := by
        rw [List.take_of_length_le (by omega), List.take_of_length_le (by omega)] at ht; exact ht
      rw [decide_eq_true this]
  · refine ok_true (by rw [e1, e2]; simpa using fun h => hn (by omega)) (ok_ret.2 ⟨?_, Below.refl _ _⟩)
    have : l1 ≠ l2 := by rintro rfl; exact hn rfl
    rw [decide_eq_false this]
end
section
variable {w0 w : World} {T0 T : Hp} {U : R.Hp} {V : Vp} {sb rb : Nat} {S : Sk} {L : List Sm} {A : St} {K : R.Sk} {B : R.St} {α β : Type} {Q : α → World → Prop}
theorem Next_spec (C : Tr en w0 T0 w T) (I : SInv T sb S L A) {f : (Int × Bool) → M α} (hq : Ok (f A.next) w Q) : Ok (bnd (f80_Next (some ⟨sb, 0, none⟩)) f) w Q := by
  unfold f80_Next
  have htl := I.timers.len
  simp only [bnd_as, bnd_ret]
  refine ok_drfS (ok_tld C I.sch (rd_timers I.qlen) ?_)
  unfold St.next at hq
  cases hA : A.timers with
  | nil =>
    rw [hA] at hq htl
    exact ok_tB (by rw [htl]; rfl) (ok_retB hq)
  | cons t r =>
    rw [hA] at hq htl
    refine ok_fB (by rw [htl]; simp; omega) ?_
    simp only [bnd_as, bnd_ret]
    refine ok_drfS (ok_tld C I.sch (rd_timers I.qlen) ?_)
    have hR := I.timers
    rw [hA] at hR
    rcases hR.at_ with ⟨h1, h2⟩ | ⟨b, M, h1, h2, h3, h4⟩
    · have := hR.le; simp at htl; omega
    refine ok_ixN h1 (Int.le_refl _) (by rw [htl]; simp) ?_
    have hM : M[0]? = some t := by
      have : (M.take (t :: r).length)[0]? = some t := by rw [h4]; rfl
      rwa [List.getElem?_take_of_lt (by simp)] at this
    refine ok_tld C h2 (t := .int .i64) (x := t.time) ?_ hq
    exact flat_rdv (g := Tm.en) (n := 3) (fun _ => rfl) hM (i := 0) (k := 0) (by decide) (by rfl)
theorem looks_spec (D : Tri w0 w T U V) (I : SInv T sb S L A) (J : R.Inv U rb K B) (F : FitX A 0) (M : R.SimX A B 0) (n : Int) : Ok (f42_looks (some ⟨sb, 0, none⟩) (some ⟨rb, 0, none⟩) n) w fun r w' => r = true ∧ ∃ T' U', Tri w0 w' T' U' V ∧ SInv T' sb S L A ∧ R.Inv U' rb K B := by
  have hf := F.few
  have G : R.Good B := ⟨A, M, F⟩
  unfold f42_looks
  refine ok_standing (Tr.refl D.t.th) I hf.1 fun w1 C1 => ?_
  have D1 := D.stepT C1
  refine R.standing_spec (Tr.refl D1.u.th) J G.pl n fun w2 C2 => ?_
  have D2 := D1.stepU C2
  refine ok_bnd.2 (ok_mono (waiting_spec D2.t.th I F n 1) ?_)
  rintro ⟨r3, x3⟩ w3 ⟨T3, C3, R3, hx3, hT3⟩
  simp only at R3 hx3
  subst hx3
  have D3 := D2.stepT C3
  have I3 := I.ext hT3
  refine R.waiting_spec (Tr.refl D3.u.th) J G n fun r4 w4 U4 C4 E4 R4 => ?_
  have D4 := D3.stepU C4
  have J4 := J.ext E4
  have hwl : (ns (A.waiting n).1).length ≤ 1000000000 := by
    rw [ns_length]
    unfold St.waiting
    split
    · simp
    · rename_i hs
      have hn := isSem_iff.1 (by simpa using hs : A.isSem n = true)
      have := F.wl (i := n.toNat) (by omega) (by omega)
      show (A.sm n.toNat).2.length ≤ _
      omega
  refine ok_bnd.2 (ok_mono (same_spec (rw_arr D4.t.th (fun _ => rfl) R3) (rw_arr D4.u.th (fun _ => rfl) R4) hwl) ?_)
  rintro r5 w5 ⟨rfl, hb5⟩
  have D5 := D4.call hb5
  refine ok_bnd.2 (ok_mono (readies_spec D5.t.th I3 F 2) ?_)
  rintro r6 w6 ⟨T6, C6, R6, hT6⟩
  have D6 := D5.stepT C6
  have I6 := I3.extB (T' := T6) fun b p hb hne hnb => hT6 b p hb (hne 2)
  refine R.readies_spec (Tr.refl D6.u.th) J4 G fun r7 w7 U7 C7 E7 R7 => ?_
  have D7 := D6.stepU C7
  have J7 := J4.ext E7
  have hrl : (ns A.readies).length ≤ 1000000000 := by
    rw [ns_length]
    have : ∀ p, (St.readyN A.queues p).length ≤ 4096 * p := by
      intro p
      induction p with
      | zero => simp [St.readyN]
      | succ p ih =>
        have := F.ql (p + 1)
        unfold St.readyN
        rw [List.length_append]; omega
    have := this 16
    show (St.readyN A.queues 16).length ≤ _
    omega
  refine ok_bnd.2 (ok_mono (same_spec (rw_arr D7.t.th (fun _ => rfl) R6) (rw_arr D7.u.th (fun _ => rfl) R7) hrl) ?_)
  rintro r8 w8 ⟨rfl, hb8⟩
  have D8 := D7.call hb8
  refine Next_spec (Tr.refl D8.t.th) I6 ?_
  refine R.Next_spec (Tr.refl D8.u.th) J7 G.tl fun w9 C9 => ?_
  have D9 := D8.stepU C9
  refine ok_bnd.2 ?_
  rw [M.standing n, M.waiting F n, M.readies F, M.next]
  refine ok_true (by simp) ?_
  refine active_spec (Tr.refl D9.t.th) I6 ?_
  refine R.active_spec (Tr.refl D9.u.th) J7 G.pl ?_
  rw [M.active F]
  exact ok_ret.2 (ok_ret.2 ⟨by simp, T6, U7, D9, I6, J7⟩)
theorem ok_pk (D : Tri w0 w T U V) {m : M β} {r0 : β} {A' : St} {f : β → M α} (h : Sr m w T fun r _ T' => r = r0 ∧ ∃ S' L', SInv T' sb S' L' A') (hq : ∀ w' T' S' L', Tri w0 w' T' U V → SInv T' sb S' L' A' → Ok (f r0) w' Q) : Ok (bnd m f) w Q := by
  refine ok_bnd.2 (ok_mono h ?_)
  rintro r w' ⟨T', C', rfl, S', L', I'⟩
  exact hq w' T' S' L' (D.stepT C') I'
theorem ok_rk (D : Tri w0 w T U V) {m : M β} {r0 : β} {B' : R.St} {f : β → M α} (h : Ok m w (R.Rq w U rb r0 B')) (hq : ∀ w' U' K', Tri w0 w' T U' V → R.Inv U' rb K' B' → Ok (f r0) w' Q) : Ok (bnd m f) w Q := by
  refine ok_bnd.2 (ok_mono h ?_)
  rintro r w' ⟨rfl, U', K', C', J'⟩
  exact hq w' U' K' (D.stepU C') J'
theorem Tri.ord (D : Tri w0 w T U V) : Tri w0 w.drew T U V := D.call ((Below.refl _ _).drew)
theorem ok_ord3 (D : Tri w0 w T U V) {F : FuncId} {n : Nat} {ops : Array Oper} {f : List Nat → M α} (h : ∀ o w', Tri w0 w' T U V → Ok (f o) w' Q) : Ok (bnd (ordM F n ops) f) w Q :=
  ok_bnd.2 ⟨_, _, rfl, h _ _ D.ord⟩
set_option maxHeartbeats 4000000 in
theorem does_spec (D : Tri w0 w T U V) (I : SInv T sb S L A) (J : R.Inv U rb K B) (F : FitX A 0) (M : R.SimX A B 0) (hm : 0 ≤ A.made ∧ A.made < 9223372036854775807) (hr : B.Room 4098) (x : Act) : Ok (f6_does (some ⟨sb, 0, none⟩) (some ⟨rb, 0, none⟩) x) w fun r w' => r = true ∧ ∃ T' U' V' S' L' K', Tri w0 w' T' U' V' ∧ (∀ b p, V b = some p → V' b = some p) ∧ SInv T' sb S' L' (A.call x).2 ∧ R.Inv U' rb K' (B.call x).2 := by
  have G : R.Good B := ⟨A, M, F⟩
  have hl := G.pl
  have hr2 : B.Room 2 := by unfold R.St.Room at *; omega
  have hr1 : B.Room 1 := by unfold R.St.Room at *; omega
  unfold f6_does
  refine ok_tnew (Tr.refl D.v.th) (.box [.int .i64 x.1, .int .i64 x.2.1, .int .i64 x.2.2]) rfl fun c w1 hc C1 => ?_
  have D1 := D.stepV C1
  have hc1 : put V c (.box [.int .i64 x.1, .int .i64 x.2.1, .int .i64 x.2.2]) c = some (.box [.int .i64 x.1, .int .i64 x.2.1, .int .i64 x.2.2]) := put_eq _ _ _
  have hV : ∀ b p, V b = some p → put V c (.box [.int .i64 x.1, .int .i64 x.2.1, .int .i64 x.2.2]) b = some p := fun b p hb => by
    rw [put_ne]
    · exact hb
    · rintro rfl; rw [hc] at hb; cases hb
  generalize put V c (.box [.int .i64 x.1, .int .i64 x.2.1, .int .i64 x.2.2]) = V1 at D1 hc1 hV
  clear C1 D
  have k0 : ∀ {α : Type} {Q : α → World → Prop} {w' : World} {T' : Hp} {U' : R.Hp} {f : Int → Go.Sh.M α}, Tri w0 w' T' U' V1 → Ok (f x.1) w' Q → Ok (bnd (ld (.int .i64) (Addr.add ⟨c, 0, none⟩ 0)) f) w' Q := fun D hq => ok_tld D.v hc1 (x := x.1) (by rfl) hq
  have k1 : ∀ {α : Type} {Q : α → World → Prop} {w' : World} {T' : Hp} {U' : R.Hp} {f : Int → Go.Sh.M α}, Tri w0 w' T' U' V1 → Ok (f x.2.1) w' Q → Ok (bnd (ld (.int .i64) (Addr.add ⟨c, 0, none⟩ 1)) f) w' Q := fun D hq => ok_tld D.v hc1 (x := x.2.1) (by rfl) hq
  have k2 : ∀ {α : Type} {Q : α → World → Prop} {w' : World} {T' : Hp} {U' : R.Hp} {f : Int → Go.Sh.M α}, Tri w0 w' T' U' V1 → Ok (f x.2.2) w' Q → Ok (bnd (ld (.int .i64) (Addr.add ⟨c, 0, none⟩ 2)) f) w' Q := fun D hq => ok_tld D.v hc1 (x := x.2.2) (by rfl) hq
  have c1 : ∀ {α : Type} {Q : α → World → Prop} {w' : World} {T' : Hp} {U' : R.Hp} {f : Unit → Go.Sh.M α}, Tri w0 w' T' U' V1 → Ok (f ()) w' Q → Ok (bnd (chk (.int .i64) (Addr.add ⟨c, 0, none⟩ 1) x.2.1) f) w' Q := fun D hq => ok_tchk D.v hc1 (m := 0) (k := 1) (t := .int .i64) (x := x.2.1) (by rfl) hq
  have c2 : ∀ {α : Type} {Q : α → World → Prop} {w' : World} {T' : Hp} {U' : R.Hp} {f : Unit → Go.Sh.M α}, Tri w0 w' T' U' V1 → Ok (f ()) w' Q → Ok (bnd (chk (.int .i64) (Addr.add ⟨c, 0, none⟩ 2) x.2.2) f) w' Q := fun D hq => ok_tchk D.v hc1 (m := 0) (k := 2) (t := .int .i64) (x := x.2.2) (by rfl) hq
  refine k0 D1 ?_
  unfold St.call R.St.call
  by_cases e : x.1 = 1
  · rw [if_pos e, if_pos e]
    refine ok_true (by simp [e]) (k1 D1 (ok_pk D1 (fork_spec D1.t.th I F _) fun w2 T2 S2 L2 D2 I2 => k1 D2 (ok_rk D2 (R.fork_spec (Tr.refl D2.u.th) J hl hr2 _) fun w3 U3 K3 D3 J3 => ok_ret.2 ⟨?_, T2, U3, V1, S2, L2, K3, D3, hV, I2, J3⟩)))
    rw [(M.fork F _).1]; simp
  rw [if_neg e, if_neg e]; refine ok_false (by simp [e]) ?_; clear e
  by_cases e : x.1 = 2
  · rw [if_pos e, if_pos e]
    refine ok_true (by simp [e]) (ok_pk D1 (yield_spec D1.t.th I F) fun w2 T2 S2 L2 D2 I2 => ok_rk D2 (R.yield_spec (Tr.refl D2.u.th) J hl hr2) fun w3 U3 K3 D3 J3 => ok_ret.2 ⟨?_, T2, U3, V1, S2, L2, K3, D3, hV, I2, J3⟩)
    rw [(M.yield F).1]; simp
  rw [if_neg e, if_neg e]; refine ok_false (by simp [e]) ?_; clear e
  by_cases e : x.1 = 3
  · rw [if_pos e, if_pos e]
    refine ok_true (by simp [e]) (ok_pk D1 (semaphore_spec D1.t.th I F) fun w2 T2 S2 L2 D2 I2 => ok_rk D2 (R.semaphore_spec (Tr.refl D2.u.th) J) fun w3 U3 K3 D3 J3 => ok_ret.2 ⟨?_, T2, U3, V1, S2, L2, K3, D3, hV, I2, J3⟩)
    rw [(M.semaphore F).1]; simp
  rw [if_neg e, if_neg e]; refine ok_false (by simp [e]) ?_; clear e
  by_cases e : x.1 = 4
  · rw [if_pos e, if_pos e]
    refine ok_true (by simp [e]) ?_
    refine ok_bnd.2 ?_
    refine ok_ord3 D1 fun o w2 D2 => ?_
    refine k1 D2 (k1 D2 (?_))
    refine ok_pk D2 (wait_spec D2.t.th I F _) fun w3 T3 S3 L3 D3 I3 => ?_
    simp only [bnd_as, bnd_ret]
    refine c1 D3 ?_
    refine ok_rk D3 (R.wait_spec (Tr.refl D3.u.th) J G hr2 _) fun w4 U4 K4 D4 J4 => ?_
    refine ok_ret.2 (ok_ret.2 ⟨?_, T3, U4, V1, S3, L3, K4, D4, hV, I3, J4⟩)
    rw [(M.wait F _).1]; simp
  rw [if_neg e, if_neg e]; refine ok_false (by simp [e]) ?_; clear e
  by_cases e : x.1 = 5
  · rw [if_pos e, if_pos e]
    refine ok_true (by simp [e]) ?_
    refine ok_bnd.2 ?_
    refine ok_ord3 D1 fun o w2 D2 => ?_
    refine k1 D2 (k1 D2 (?_))
    refine ok_pk D2 (signal_spec D2.t.th I F _) fun w3 T3 S3 L3 D3 I3 => ?_
    simp only [bnd_as, bnd_ret]
    refine c1 D3 ?_
    refine ok_rk D3 (R.signal_spec (Tr.refl D3.u.th) J G hr2 _) fun w4 U4 K4 D4 J4 => ?_
    refine ok_ret.2 (ok_ret.2 ⟨?_, T3, U4, V1, S3, L3, K4, D4, hV, I3, J4⟩)
    rw [(M.signal F _).1]; simp
  rw [if_neg e, if_neg e]; refine ok_false (by simp [e]) ?_; clear e
  by_cases e : x.1 = 6
  · rw [if_pos e, if_pos e]
    refine ok_true (by simp [e]) ?_
    refine ok_bnd.2 ?_
    refine ok_ord3 D1 fun o w2 D2 => ?_
    refine k1 D2 (k1 D2 (?_))
    refine ok_pk D2 (suspend_spec D2.t.th I F _) fun w3 T3 S3 L3 D3 I3 => ?_
    simp only [bnd_as, bnd_ret]
    refine c1 D3 ?_
    refine ok_rk D3 (R.suspend_spec (Tr.refl D3.u.th) J hl hr1 _) fun w4 U4 K4 D4 J4 => ?_
    refine ok_ret.2 (ok_ret.2 ⟨?_, T3, U4, V1, S3, L3, K4, D4, hV, I3, J4⟩)
    rw [(M.suspend F _).1]; simp
  rw [if_neg e, if_neg e]; refine ok_false (by simp [e]) ?_; clear e
  by_cases e : x.1 = 7
  · rw [if_pos e, if_pos e]
    refine ok_true (by simp [e]) ?_
    refine ok_bnd.2 ?_
    refine ok_ord3 D1 fun o w2 D2 => ?_
    refine k1 D2 (k1 D2 (?_))
    refine ok_pk D2 (resume_spec D2.t.th I F _) fun w3 T3 S3 L3 D3 I3 => ?_
    simp only [bnd_as, bnd_ret]
    refine c1 D3 ?_
    refine ok_rk D3 (R.resume_spec (Tr.refl D3.u.th) J hl hr2 _) fun w4 U4 K4 D4 J4 => ?_
    refine ok_ret.2 (ok_ret.2 ⟨?_, T3, U4, V1, S3, L3, K4, D4, hV, I3, J4⟩)
    rw [(M.resume F _).1]; simp
  rw [if_neg e, if_neg e]; refine ok_false (by simp [e]) ?_; clear e
  by_cases e : x.1 = 8
  · rw [if_pos e, if_pos e]
    refine ok_true (by simp [e]) ?_
    refine ok_bnd.2 ?_
    refine ok_ord3 D1 fun o w2 D2 => ?_
    refine k1 D2 (k1 D2 (?_))
    refine ok_pk D2 (terminate_spec D2.t.th I F _) fun w3 T3 S3 L3 D3 I3 => ?_
    simp only [bnd_as, bnd_ret]
    refine c1 D3 ?_
    refine ok_rk D3 (R.terminate_spec (Tr.refl D3.u.th) J hl hr1 _) fun w4 U4 K4 D4 J4 => ?_
    refine ok_ret.2 (ok_ret.2 ⟨?_, T3, U4, V1, S3, L3, K4, D4, hV, I3, J4⟩)
    rw [(M.terminate F _).1]; simp
  rw [if_neg e, if_neg e]; refine ok_false (by simp [e]) ?_; clear e
  by_cases e : x.1 = 9
  · rw [if_pos e, if_pos e]
    refine ok_true (by simp [e]) ?_
    refine ok_bnd.2 ?_
    refine ok_ord3 D1 fun o w2 D2 => ?_
    refine k1 D2 (k2 D2 (k1 D2 (k2 D2 (?_))))
    refine ok_pk D2 (setPriority_spec D2.t.th I F _ _) fun w3 T3 S3 L3 D3 I3 => ?_
    simp only [bnd_as, bnd_ret]
    refine c2 D3 (c1 D3 ?_)
    refine ok_rk D3 (R.setPriority_spec (Tr.refl D3.u.th) J hl hr2 _ _) fun w4 U4 K4 D4 J4 => ?_
    refine ok_ret.2 (ok_ret.2 ⟨?_, T3, U4, V1, S3, L3, K4, D4, hV, I3, J4⟩)
    rw [(M.setPriority F _ _).1]; simp
  rw [if_neg e, if_neg e]; refine ok_false (by simp [e]) ?_; clear e
  by_cases e : x.1 = 10
  · rw [if_pos e, if_pos e]
    refine ok_true (by simp [e]) ?_
    refine ok_bnd.2 ?_
    refine ok_ord3 D1 fun o w2 D2 => ?_
    refine k1 D2 (k2 D2 (k1 D2 (k2 D2 (?_))))
    refine ok_pk D2 (at_spec D2.t.th I F hm _ _) fun w3 T3 S3 L3 D3 I3 => ?_
    simp only [bnd_as, bnd_ret]
    refine c2 D3 (c1 D3 ?_)
    refine ok_rk D3 (R.at_spec (Tr.refl D3.u.th) J hr1 _ _) fun w4 U4 K4 D4 J4 => ?_
    refine ok_ret.2 (ok_ret.2 ⟨?_, T3, U4, V1, S3, L3, K4, D4, hV, I3, J4⟩)
    rw [(M.at_ _ _).1]; simp
  rw [if_neg e, if_neg e]; refine ok_false (by simp [e]) ?_; clear e
  by_cases e : x.1 = 11
  · rw [if_pos e, if_pos e]
    refine ok_true (by simp [e]) (k1 D1 (ok_pk D1 (tick_spec D1.t.th I F _) fun w2 T2 S2 L2 D2 I2 => k1 D2 (ok_rk D2 (R.tick_spec (Tr.refl D2.u.th) J G hr _) fun w3 U3 K3 D3 J3 => ok_ret.2 ⟨?_, T2, U3, V1, S2, L2, K3, D3, hV, I2, J3⟩)))
    rw [(M.tick F _).1]; simp
  rw [if_neg e, if_neg e]; refine ok_false (by simp [e]) ?_; clear e
  by_cases e : x.1 = 12
  · rw [if_pos e, if_pos e]
    refine ok_true (by simp [e]) ?_
    refine ok_bnd.2 ?_
    refine ok_ord3 D1 fun o w2 D2 => ?_
    refine k1 D2 (k2 D2 (k1 D2 (k2 D2 (?_))))
    refine ok_pk D2 (listen_spec D2.t.th I F _ _) fun w3 T3 S3 L3 D3 I3 => ?_
    simp only [bnd_as, bnd_ret]
    refine c2 D3 (c1 D3 ?_)
    refine ok_rk D3 (R.listen_spec (Tr.refl D3.u.th) J _ _) fun w4 U4 K4 D4 J4 => ?_
    refine ok_ret.2 (ok_ret.2 ⟨?_, T3, U4, V1, S3, L3, K4, D4, hV, I3, J4⟩)
    rw [(M.listen _ _).1]; simp
  rw [if_neg e, if_neg e]; refine ok_false (by simp [e]) ?_; clear e
  by_cases e : x.1 = 13
  · rw [if_pos e, if_pos e]
    refine ok_true (by simp [e]) ?_
    refine ok_bnd.2 ?_
    refine ok_ord3 D1 fun o w2 D2 => ?_
    refine k1 D2 (k1 D2 (?_))
    refine ok_pk D2 (event_spec D2.t.th I F _) fun w3 T3 S3 L3 D3 I3 => ?_
    simp only [bnd_as, bnd_ret]
    refine c1 D3 ?_
    refine ok_rk D3 (R.event_spec (Tr.refl D3.u.th) J G hr2 _) fun w4 U4 K4 D4 J4 => ?_
    refine ok_ret.2 (ok_ret.2 ⟨?_, T3, U4, V1, S3, L3, K4, D4, hV, I3, J4⟩)
    rw [(M.event F _).1]; simp
  rw [if_neg e, if_neg e]; refine ok_false (by simp [e]) ?_; clear e
  refine k1 D1 ?_
  refine ok_bnd.2 (ok_mono (looks_spec D1 I J F M x.2.1) ?_)
  rintro r w2 ⟨hr, T2, U2, D2, I2, J2⟩
  exact ok_ret.2 ⟨hr, T2, U2, V1, S, L, K, D2, hV, I2, J2⟩
end
end Go.Proofs.YtkkdeljladihpaaGreat

/-
  SchedDoes: whose is what (the book).
-/
namespace Go.Proofs.YtkkdeljladihpaaGreat
namespace W
open Go.Sh Go.RowKit X Y
set_option maxRecDepth 100000
/-! ### The book: whose is what -/
theorem slt40 : SlT Tryz.prog 40 28 (.slice none 0 0) 24 := ⟨Tryz.underlying40, ⟨_, (by kernel_rfl : Tryz.prog.info? 28 = some Tryz.t28), rfl, rfl, rfl⟩, rfl⟩
theorem loop_none2 {σ ρ : Type} {s : σ} {w : World} {Q : ρ → World → Prop} {body : σ → M (σ ⊕ ρ)} (h : Ok (body s) w fun r w' => ∃ x, r = .inr x ∧ Q x w') : Ok (loopM body s) w Q := by
  rw [loopM_eq]
  refine ok_bnd.2 (ok_mono h ?_)
  rintro _ w' ⟨x, rfl, hq⟩
  exact ok_ret.2 hq
abbrev nilS : Sl := ⟨none, 0, 0⟩
theorem ownBits0 (w : World) : Ok (f61_ownBits nilS) w fun r w' => r = true ∧ w = w' := by
  unfold f61_ownBits
  refine loop_none2 (ok_false rfl (ok_bnd.2 (loop_none2 (ok_false rfl (ok_bnd.2 (loop_none2 (ok_false rfl (ok_ret.2 ⟨true, rfl, ok_ret.2 ⟨_, rfl, ok_ret.2 ⟨_, rfl, rfl, rfl⟩⟩⟩)))))))) 
theorem ownNumbers0 (w : World) : Ok (f55_ownNumbers nilS) w fun r w' => r = true ∧ w = w' := by
  unfold f55_ownNumbers
  refine loop_none2 (ok_false rfl (ok_bnd.2 (loop_none2 (ok_false rfl (ok_bnd.2 (loop_none2 (ok_false rfl (ok_ret.2 ⟨true, rfl, ok_ret.2 ⟨_, rfl, ok_ret.2 ⟨_, rfl, rfl, rfl⟩⟩⟩))))))))
theorem ownOops0 (w : World) : Ok (f56_ownOops nilS) w fun r w' => r = true ∧ w = w' := by
  unfold f56_ownOops
  refine loop_none2 (ok_false rfl (ok_bnd.2 (loop_none2 (ok_false rfl (ok_bnd.2 (loop_none2 (ok_false rfl (ok_ret.2 ⟨true, rfl, ok_ret.2 ⟨_, rfl, ok_ret.2 ⟨_, rfl, rfl, rfl⟩⟩⟩))))))))
theorem ownDeeds0 (w : World) : Ok (f57_ownDeeds nilS) w fun r w' => r = true ∧ w = w' := by
  unfold f57_ownDeeds
  refine loop_none2 (ok_false rfl (ok_bnd.2 (loop_none2 (ok_false rfl (ok_bnd.2 (loop_none2 (ok_false rfl (ok_ret.2 ⟨true, rfl, ok_ret.2 ⟨_, rfl, ok_ret.2 ⟨_, rfl, rfl, rfl⟩⟩⟩))))))))
theorem ownFiles0 (w : World) : Ok (f58_ownFiles nilS) w fun r w' => r = true ∧ w = w' := by
  unfold f58_ownFiles
  refine loop_none2 (ok_false rfl (ok_bnd.2 (loop_none2 (ok_false rfl (ok_bnd.2 (loop_none2 (ok_false rfl (ok_ret.2 ⟨true, rfl, ok_ret.2 ⟨_, rfl, ok_ret.2 ⟨_, rfl, rfl, rfl⟩⟩⟩))))))))
theorem ownChoices0 (w : World) : Ok (f59_ownChoices nilS) w fun r w' => r = true ∧ w = w' := by
  unfold f59_ownChoices
  refine loop_none2 (ok_false rfl (ok_bnd.2 (loop_none2 (ok_false rfl (ok_bnd.2 (loop_none2 (ok_false rfl (ok_ret.2 ⟨true, rfl, ok_ret.2 ⟨_, rfl, ok_ret.2 ⟨_, rfl, rfl, rfl⟩⟩⟩))))))))
theorem ownTexts0 (w : World) : Ok (f60_ownTexts nilS) w fun r w' => r = true ∧ w = w' := by
  unfold f60_ownTexts
  refine loop_none2 (ok_false rfl (ok_bnd.2 (loop_none2 (ok_false rfl (ok_bnd.2 (loop_none2 (ok_false rfl (ok_ret.2 ⟨true, rfl, ok_ret.2 ⟨_, rfl, ok_ret.2 ⟨_, rfl, rfl, rfl⟩⟩⟩))))))))
def mk (i t : Int) : Int := IntKind.wrap .i64 ((IntKind.wrap .i64 (i * (1000 : Int))) + t)
def bk (i t : Int) : Int := IntKind.wrap .i64 ((IntKind.wrap .i64 ((IntKind.wrap .i64 ((-1 : Int) - i)) * (1000 : Int))) - t)
theorem wrapI_in {n : Int} (h : -9223372036854775808 ≤ n ∧ n ≤ 9223372036854775807) : IntKind.wrap .i64 n = n := wI h
abbrev wds (l : List Int) : List Value := nums .i64 l
theorem wds_one (l : List Int) : ∀ u ∈ wds l, u.oneCell' = true := by
  intro u hu
  obtain ⟨n, _, rfl⟩ := List.mem_map.1 hu
  rfl
abbrev items (ss : List Sl) (ls : List (List Int)) : List It := List.zipWith (fun s l => It.own s (wds l)) ss ls
theorem items_get {ss : List Sl} {ls : List (List Int)} {i : Nat} {s : Sl} {l : List Int} (h1 : ss[i]? = some s) (h2 : ls[i]? = some l) : (items ss ls)[i]? = some (.own s (wds l)) := by
  simp [items, List.getElem?_zipWith, h1, h2]
theorem items_set {ss : List Sl} {ls : List (List Int)} {i : Nat} {s : Sl} (h1 : ss[i]? = some s) (x : List Int) : (items ss ls).set i (.own s (wds x)) = items ss (ls.set i x) := by
  refine List.ext_getElem? fun j => ?_
  simp only [items, List.getElem?_set, List.getElem?_zipWith, List.length_zipWith]
  by_cases hij : i = j
  · subst hij
    simp only [if_true]
    have hss : i < ss.length := by
      rcases Nat.lt_or_ge i ss.length with h | h
      · exact h
      · rw [List.getElem?_eq_none h] at h1; cases h1
    by_cases hl : i < ls.length
    · rw [if_pos (by omega), if_pos hl, h1]
    · rw [if_neg (by omega), if_neg hl, h1]
  · simp [hij]
theorem nth_lt {α : Type} {l : List α} {i : Nat} {x : α} (h : l[i]? = some x) : i < l.length := by
  rcases Nat.lt_or_ge i l.length with h' | h'
  · exact h'
  · rw [List.getElem?_eq_none h'] at h; cases h
/-- Same lengths. -/
def Like (a b : List (List Int)) : Prop := a.length = b.length ∧ ∀ (j : Nat) (x y : List Int), a[j]? = some x → b[j]? = some y → x.length = y.length
theorem Like.set {a b : List (List Int)} (h : Like a b) {i : Nat} {x y : List Int} (hx : a[i]? = some x) (hy : y.length = x.length) : Like (a.set i y) b := by
  refine ⟨by rw [List.length_set]; exact h.1, fun j u v hu hv => ?_⟩
  rw [List.getElem?_set] at hu
  split at hu
  · rename_i hij; subst hij
    split at hu
    · cases hu; rw [hy]; exact h.2 i x v hx hv
    · cases hu
  · exact h.2 j u v hu hv
theorem drop_cons {α : Type} {l : List α} {i : Nat} {x : α} (h : l[i]? = some x) : l.drop i = x :: l.drop (i + 1) := by
  have hi := nth_lt h
  rw [List.drop_eq_getElem_cons hi]
  rw [List.getElem?_eq_getElem hi] at h
  rw [Option.some.inj h]
/-- What is known of a list that has grown. -/
def Views (A : List It) (s : Sl) (l : List Int) (r : Sl) (x : List Int) : Prop := It.own r (wds x) ∈ A ∧ ((r.a = s.a ∧ r.cap = s.cap ∧ ∃ m, x = l ++ m) ∨ It.own s (wds l) ∈ A)
theorem Views.mono {A A' : List It} {s : Sl} {l : List Int} {r : Sl} {x : List Int} (h : Views A s l r x) (hs : ∀ y ∈ A, y ∈ A') : Views A' s l r x := ⟨hs _ h.1, h.2.imp id (hs _)⟩
def backs (i : Nat) (n : Nat) : List Int := (List.range n).map fun (t : Nat) => bk i t
set_option maxHeartbeats 1000000 in
theorem ownInts_spec (S : Nat → Prop) (w0 w : World) (v : Sl) (ss : List Sl) (ls : List (List Int)) (R : List It) (C : Cx S w0 w (.own v (ss.map slV) :: (items ss ls ++ R))) (hls : ss.length = ls.length) (hss : ss.length ≤ 1000) (hbig : ∀ (j : Nat) (l : List Int), ls[j]? = some l → l.length ≤ 30000000) :
    Ok (f54_ownInts v) w fun r w' => r = true ∧ Keep S w0 w' := by
  have hvl : v.len = ss.length := by have := (C.get (i := 0) rfl).1; simpa using this
  have book : ∀ {w' : World} {L : List It} {i : Nat} {s : Sl} {K : Sl → M (Int ⊕ Int ⊕ Bool)} {Q : (Int ⊕ Int ⊕ Bool) → World → Prop}, Cx S w0 w' (.own v (ss.map slV) :: L) → ss[i]? = some s → Ok (K s) w' Q → Ok (bnd (ix 1 v (i : Int)) fun p => bnd (ld .sl p) K) w' Q :=
    fun C hs hq => ok_getSl (C.arr (i := 0) rfl) (Int.natCast_nonneg _) (by rw [Int.toNat_natCast]; exact hs) hq
  unfold f54_ownInts
  refine ok_loop (fun (i : Int) w' => 0 ≤ i ∧ i ≤ ss.length ∧ ∃ ls', Like ls' ls ∧ (∀ (j : Nat) (l : List Int), (j : Int) < i → ls'[j]? = some l → ∀ t : Nat, t < l.length → l[t]? = some (mk j t)) ∧ Cx S w0 w' (.own v (ss.map slV) :: (items ss ls' ++ R)))
    (fun i _ => (ss.length - i).toNat) ?_ _ _ ⟨Int.le_refl _, by omega, ls, ⟨rfl, fun j x y h1 h2 => by rw [h1] at h2; cases h2; rfl⟩, fun j l h => by omega, C⟩
  clear C
  rintro i w1 ⟨hi0, hi1, ls', hlike, hmark, C⟩
  obtain ⟨n, rfl⟩ := Int.eq_ofNat_of_zero_le hi0
  by_cases hin : n < ss.length
  · -- marks
    refine ok_true (by rw [hvl]; simpa using hin) ?_
    obtain ⟨s, hs⟩ : ∃ s, ss[n]? = some s := ⟨_, List.getElem?_eq_getElem hin⟩
    refine ok_loop (fun (k : Int) w' => 0 ≤ k ∧ k ≤ s.len ∧ ∃ ls', Like ls' ls ∧ (∀ (j : Nat) (l : List Int), (j : Int) < n → ls'[j]? = some l → ∀ t : Nat, t < l.length → l[t]? = some (mk j t)) ∧ (∀ l, ls'[n]? = some l → ∀ t : Nat, (t : Int) < k → t < l.length → l[t]? = some (mk n t)) ∧ Cx S w0 w' (.own v (ss.map slV) :: (items ss ls' ++ R)))
      (fun k _ => (s.len - k).toNat) ?_ _ _ ⟨Int.le_refl _, by omega, ls', hlike, hmark, fun l _ t ht => by omega, C⟩
    clear C hmark hlike
    rintro k w2 ⟨hk0, hk1, ls2, hlike, hmark, hm2, C⟩
    obtain ⟨t, rfl⟩ := Int.eq_ofNat_of_zero_le hk0
    refine book C hs ?_
    obtain ⟨l, hl⟩ : ∃ l, ls2[n]? = some l := ⟨_, List.getElem?_eq_getElem (by rw [hlike.1]; omega)⟩
    have hit : (It.own v (ss.map slV) :: (items ss ls2 ++ R))[n + 1]? = some (.own s (wds l)) := by
      rw [List.getElem?_cons_succ, List.getElem?_append_left (by simp [items, hlike.1]; omega)]
      exact items_get hs hl
    have hsl : s.len = l.length := by have := (C.get hit).1; simpa using this
    obtain ⟨l0, hl0⟩ : ∃ l0, ls[n]? = some l0 := ⟨_, List.getElem?_eq_getElem (by omega)⟩
    have hb0 := hbig n l0 hl0
    have hll := hlike.2 n l l0 hl hl0
    by_cases hts : t < s.len
    · refine ok_true (by simpa using hts) ?_
      refine book C hs ?_
      obtain ⟨b, hb⟩ := own_block (k := .i64) (C.get hit) (n := t) (by omega)
      refine ok_ixO hb hk0 (by omega) ?_
      rw [Int.toNat_natCast]
      refine ok_wrO C hit hb (by omega) fun w3 C => ok_ret.2 ?_
      rw [wrapI_in (n := (t : Int) + 1) (by omega)]
      refine ⟨⟨by omega, by omega, ls2.set n (l.set t (mk n t)), hlike.set hl (by simp), ?_, ?_, ?_⟩, by omega⟩
      · intro j x hj hx
        rw [List.getElem?_set, if_neg (by omega)] at hx
        exact hmark j x hj hx
      · intro x hx u hu hux
        rw [List.getElem?_set, if_pos rfl, if_pos (nth_lt hl)] at hx
        cases hx
        rw [List.getElem?_set]
        simp only [List.length_set] at hux
        by_cases htu : t = u
        · subst htu; rw [if_pos rfl, if_pos hux]
        · rw [if_neg htu]; exact hm2 l hl u (by omega) hux
      · have e : (It.own v (ss.map slV) :: (items ss ls2 ++ R)).set (n + 1) (.own s (wds (l.set t (mk n t)))) = It.own v (ss.map slV) :: (items ss (ls2.set n (l.set t (mk n t))) ++ R) := by
          rw [List.set_cons_succ, List.set_append_left _ _ (by simp [items, hlike.1]; omega), items_set hs]
        rw [← e]
        exact C
    · refine ok_false (by simpa using hts) (ok_ret.2 ?_)
      rw [wrapI_in (n := (n : Int) + 1) (by omega)]
      refine ⟨⟨by omega, by omega, ls2, hlike, fun j x hj hx u hu => ?_, C⟩, by omega⟩
      by_cases hjn : (j : Int) < n
      · exact hmark j x hjn hx u hu
      · have : j = n := by omega
        subst this
        rw [hl] at hx; cases hx
        exact hm2 l hl u (by omega) hu
  · have hnl : n = ss.length := by omega
    subst hnl
    refine ok_false (by rw [hvl]; simp) (ok_bnd.2 ?_)
    -- grow
    have hmark : ∀ (j : Nat) (l : List Int), ls'[j]? = some l → ∀ t : Nat, t < l.length → l[t]? = some (mk j t) := fun j l hl t ht => hmark j l (by have := nth_lt hl; rw [hlike.1] at this; omega) hl t ht
    have hbig' : ∀ (j : Nat) (l : List Int), ls'[j]? = some l → l.length ≤ 30000000 := fun j l hl => by
      obtain ⟨l0, hl0⟩ : ∃ l0, ls[j]? = some l0 := ⟨_, List.getElem?_eq_getElem (by have := nth_lt hl; rw [hlike.1] at this; exact this)⟩
      rw [hlike.2 j l l0 hl hl0]; exact hbig j l0 hl0
    have hsl : ∀ (j : Nat) (s : Sl) (l : List Int), ss[j]? = some s → ls'[j]? = some l → s.len = l.length ∧ s.len ≤ s.cap := fun j s l hs hl => by
      have hit : (It.own v (ss.map slV) :: (items ss ls' ++ R))[j + 1]? = some (.own s (wds l)) := by
        rw [List.getElem?_cons_succ, List.getElem?_append_left (by simp [items, hlike.1]; have := nth_lt hs; omega)]
        exact items_get hs hl
      have O := C.get hit
      exact ⟨by have := O.1; simpa using this, O.2.1⟩
    have hls' : ls'.length = ss.length := by rw [hlike.1, hls]
    refine ok_mono (Q := fun (r : Bool) w' => r = true ∧ Keep S w0 w') ?_ (fun r w' h => ok_ret.2 h)
    refine ok_loop (fun (s8 : Sl × Int) w' => 0 ≤ s8.2 ∧ s8.2 ≤ ss.length ∧ ∃ (A : List It) (rs : List Sl), (rs.length : Int) = s8.2 ∧
        (∀ (j : Nat) (s r : Sl) (l : List Int), rs[j]? = some r → ss[j]? = some s → ls'[j]? = some l → Views A s l r (l ++ backs j 16)) ∧
        Cx S w0 w' (.own s8.1 (rs.map slV) :: .own v (ss.map slV) :: (items (ss.drop s8.2.toNat) (ls'.drop s8.2.toNat) ++ (A ++ R))))
      (fun s8 _ => (ss.length - s8.2).toNat) ?_ _ _ ⟨Int.le_refl _, by show (0 : Int) ≤ _; omega, [], [], rfl, fun j s r l h => by simp at h, by
        have := C.addNil
        simpa using this⟩
    clear C
    rintro ⟨lg, i⟩ w2 ⟨hi0, hi1, A, rs, hrs, hV, C⟩
    simp only at hi0 hi1 hrs hV C ⊢
    obtain ⟨n, rfl⟩ := Int.eq_ofNat_of_zero_le hi0
    rw [Int.toNat_natCast] at C
    by_cases hin : n < ss.length
    · refine ok_true (by rw [hvl]; simpa using hin) ?_
      obtain ⟨s, hs⟩ : ∃ s, ss[n]? = some s := ⟨_, List.getElem?_eq_getElem hin⟩
      obtain ⟨l, hl⟩ : ∃ l, ls'[n]? = some l := ⟨_, List.getElem?_eq_getElem (by omega)⟩
      obtain ⟨h1, h2⟩ := hsl n s l hs hl
      have hlb := hbig' n l hl
      refine ok_getSl (C.arr (i := 1) rfl) (Int.natCast_nonneg _) (by rw [Int.toNat_natCast]; exact hs) ?_
      rw [drop_cons hs, drop_cons hl] at C
      obtain ⟨Rx, hRx⟩ : ∃ Rx, Rx = It.own lg (rs.map slV) :: .own v (ss.map slV) :: (items (ss.drop (n + 1)) (ls'.drop (n + 1)) ++ (A ++ R)) := ⟨_, rfl⟩
      have hC : Go.Sh.St S w0 w2 s (wds l) s (wds (l ++ backs n 0)) Rx := by
        refine .inl ⟨rfl, rfl, ⟨[], by simp [backs]⟩, ?_⟩
        rw [hRx]
        have e : wds (l ++ backs n 0) = wds l := by simp [backs]
        rw [e]
        refine Cx.perm ?_ C
        show (It.own lg (rs.map slV) :: It.own v (ss.map slV) :: (It.own s (wds l) :: items (ss.drop (n + 1)) (ls'.drop (n + 1)) ++ (A ++ R))).Perm _
        exact (List.Perm.cons _ (List.Perm.swap _ _ _)).trans (List.Perm.swap _ _ _)
      refine ok_loop (fun (x : Sl × Int) w' => 0 ≤ x.2 ∧ x.2 ≤ 16 ∧ (x.1.len : Int) = l.length + x.2 ∧ Go.Sh.St S w0 w' s (wds l) x.1 (wds (l ++ backs n x.2.toNat)) Rx) (fun x _ => (16 - x.2).toNat) ?_ _ _ ⟨Int.le_refl _, by show (0 : Int) ≤ 16; decide, by show (s.len : Int) = _ + 0; omega, hC⟩
      clear C hC
      rintro ⟨x, k⟩ w3 ⟨hk0, hk1, hxl, C⟩
      simp only at hk0 hk1 hxl C ⊢
      obtain ⟨t, rfl⟩ := Int.eq_ofNat_of_zero_le hk0
      rw [Int.toNat_natCast] at C
      by_cases ht : t < 16
      · refine ok_true (by simp; omega) ?_
        refine Go.Sh.St.push slt31 C (by simpa using h1) h2 (wds_one _) (.int .i64 (bk n t)) rfl rfl (by omega) (by simp only [maxLen]; omega) fun r' w4 C' hr => ok_ret.2 ?_
        rw [wrapI_in (n := (t : Int) + 1) (by omega)]
        refine ⟨⟨by show (0 : Int) ≤ (t : Int) + 1; omega, by show (t : Int) + 1 ≤ 16; omega, by show (r'.len : Int) = l.length + ((t : Int) + 1); omega, ?_⟩, by show (16 - ((t : Int) + 1)).toNat < _; omega⟩
        show Go.Sh.St S w0 w4 s (wds l) r' (wds (l ++ backs n ((t : Int) + 1).toNat)) Rx
        rw [show ((t : Int) + 1).toNat = t + 1 by omega]
        have e : wds (l ++ backs n (t + 1)) = wds (l ++ backs n t) ++ [.int .i64 (bk n t)] := by
          simp [backs, List.range_succ]
        rw [e]; exact C'
      · have : t = 16 := by omega
        subst this
        refine ok_false (by simp) (ok_bnd.2 ?_)
        have hRl : rs.length = n := by omega
        have hlgl : ∀ {w' : World} {L : List It} {i : Nat}, Cx S w0 w' L → L[i]? = some (.own lg (rs.map slV)) → lg.len = n := fun C hi => by have := (C.get hi).1; simp only [List.length_map] at this; omega
        -- both ways
        have fin : ∀ (r' : Sl) (w4 : World) (B : List It), Views B s l x (l ++ backs n 16) → Cx S w0 w4 (B ++ (.own r' ((rs ++ [x]).map slV) :: .own v (ss.map slV) :: (items (ss.drop (n + 1)) (ls'.drop (n + 1)) ++ (A ++ R)))) →
            (0 ≤ IntKind.wrap .i64 ((n : Int) + 1) ∧ IntKind.wrap .i64 ((n : Int) + 1) ≤ ss.length ∧ ∃ (A : List It) (rs : List Sl), (rs.length : Int) = IntKind.wrap .i64 ((n : Int) + 1) ∧
              (∀ (j : Nat) (s r : Sl) (l : List Int), rs[j]? = some r → ss[j]? = some s → ls'[j]? = some l → Views A s l r (l ++ backs j 16)) ∧
              Cx S w0 w4 (.own r' (rs.map slV) :: .own v (ss.map slV) :: (items (ss.drop (IntKind.wrap .i64 ((n : Int) + 1)).toNat) (ls'.drop (IntKind.wrap .i64 ((n : Int) + 1)).toNat) ++ (A ++ R)))) ∧ (ss.length - IntKind.wrap .i64 ((n : Int) + 1)).toNat < (ss.length - (n : Int)).toNat := by
          intro r' w4 B hB C
          rw [wrapI_in (n := (n : Int) + 1) (by omega), show ((n : Int) + 1).toNat = n + 1 by omega]
          refine ⟨⟨by omega, by omega, B ++ A, rs ++ [x], by simp; omega, fun j s2 r2 l2 h1 h2 h3 => ?_, ?_⟩, by omega⟩
          · rcases Nat.lt_or_ge j n with hj | hj
            · rw [List.getElem?_append_left (by omega)] at h1
              exact (hV j s2 r2 l2 h1 h2 h3).mono fun y hy => List.mem_append_right _ hy
            · rw [List.getElem?_append_right (by omega)] at h1
              have hj0 : j - rs.length = 0 := by have := nth_lt h1; simp at this; omega
              have hjn : j = n := by omega
              subst hjn
              rw [hj0] at h1
              simp only [List.getElem?_cons_zero, Option.some.injEq] at h1
              subst h1
              rw [hs] at h2; cases h2
              rw [hl] at h3; cases h3
              exact hB.mono fun y hy => List.mem_append_left _ hy
          · refine Cx.perm ?_ C
            refine List.perm_append_comm.trans ?_
            show (It.own r' ((rs ++ [x]).map slV) :: It.own v (ss.map slV) :: (items (ss.drop (n + 1)) (ls'.drop (n + 1)) ++ (A ++ R)) ++ B).Perm _
            rw [List.cons_append, List.cons_append]
            refine List.Perm.cons _ (List.Perm.cons _ ?_)
            rw [List.append_assoc]
            refine List.Perm.append_left _ ?_
            refine List.perm_append_comm.trans ?_
            rw [List.append_assoc]
        rw [hRx] at C
        rcases C with ⟨ha, hc, hm, C⟩ | C
        · have hl0 := hlgl C (i := 1) rfl
          refine ok_push1 slt40 C (i := 1) rfl (slV_one _) (slV x) rfl rfl (by omega) (by simp only [maxLen]; omega) fun r' w4 C hr => ok_ret.2 (ok_ret.2 ?_)
          refine fin r' w4 [.own x (wds (l ++ backs n 16))] ⟨by simp, .inl ⟨ha, hc, _, rfl⟩⟩ ?_
          rw [List.map_append]
          exact C
        · have hl0 := hlgl C (i := 2) rfl
          refine ok_push1 slt40 C (i := 2) rfl (slV_one _) (slV x) rfl rfl (by omega) (by simp only [maxLen]; omega) fun r' w4 C hr => ok_ret.2 (ok_ret.2 ?_)
          refine fin r' w4 [.own x (wds (l ++ backs n 16)), .own s (wds l)] ⟨by simp, .inr (by simp)⟩ ?_
          rw [List.map_append]
          exact C
    · have hnl : n = ss.length := by omega
      subst hnl
      refine ok_false (by rw [hvl]; simp) (ok_bnd.2 ?_)
      -- look
      have hrl : rs.length = ss.length := by omega
      have hin1 : It.own v (ss.map slV) ∈ (It.own lg (rs.map slV) :: .own v (ss.map slV) :: (items (ss.drop ss.length) (ls'.drop ss.length) ++ (A ++ R))) := by simp
      have vA : Arr w2.heap.size w2 v (ss.map slV) := own_arr (C.held _ hin1)
      have gA : Arr w2.heap.size w2 lg (rs.map slV) := C.arr (i := 0) rfl
      have sA : ∀ (j : Nat) (s r : Sl) (l : List Int), rs[j]? = some r → ss[j]? = some s → ls'[j]? = some l → Arr w2.heap.size w2 s (wds l) ∧ Arr w2.heap.size w2 r (wds (l ++ backs j 16)) := by
        intro j s r l h1 h2 h3
        obtain ⟨v1, v2⟩ := hV j s r l h1 h2 h3
        have O := C.held _ (show It.own r (wds (l ++ backs j 16)) ∈ (It.own lg (rs.map slV) :: .own v (ss.map slV) :: (items (ss.drop ss.length) (ls'.drop ss.length) ++ (A ++ R))) from List.mem_cons_of_mem _ (List.mem_cons_of_mem _ (List.mem_append_right _ (List.mem_append_left _ v1))))
        refine ⟨?_, own_arr O⟩
        rcases v2 with ⟨ha, hc, m, hm⟩ | h
        · obtain ⟨q1, q2⟩ := hsl j s l h2 h3
          exact own_arr (own_view O (ys := wds l) (m := wds m) (by rw [hm]; simp) ha hc (by simpa using q1) q2)
        · exact own_arr (C.held _ (show It.own s (wds l) ∈ (It.own lg (rs.map slV) :: .own v (ss.map slV) :: (items (ss.drop ss.length) (ls'.drop ss.length) ++ (A ++ R))) from List.mem_cons_of_mem _ (List.mem_cons_of_mem _ (List.mem_append_right _ (List.mem_append_left _ h)))))
      have hkeep := C.keep
      clear C
      refine ok_mono (Q := fun (r : Bool) w' => r = true ∧ Keep S w0 w') ?_ (fun r w' h => ok_ret.2 h)
      refine ok_loop (fun (j : Int) w' => w' = w2 ∧ 0 ≤ j ∧ j ≤ ss.length) (fun j _ => (ss.length - j).toNat) ?_ _ _ ⟨rfl, Int.le_refl _, by omega⟩
      rintro j w3 ⟨rfl, hj0, hj1⟩
      obtain ⟨m, rfl⟩ := Int.eq_ofNat_of_zero_le hj0
      by_cases hm : m < ss.length
      rotate_left
      · exact ok_false (by rw [hvl]; simpa using hm) (ok_ret.2 ⟨rfl, hkeep⟩)
      refine ok_true (by rw [hvl]; simpa using hm) ?_
      obtain ⟨s, hs⟩ : ∃ s, ss[m]? = some s := ⟨_, List.getElem?_eq_getElem hm⟩
      obtain ⟨l, hl⟩ : ∃ l, ls'[m]? = some l := ⟨_, List.getElem?_eq_getElem (by omega)⟩
      obtain ⟨r, hr⟩ : ∃ r, rs[m]? = some r := ⟨_, List.getElem?_eq_getElem (by omega)⟩
      obtain ⟨a1, a2⟩ := sA m s r l hr hs hl
      obtain ⟨h1, h2⟩ := hsl m s l hs hl
      have hlb := hbig' m l hl
      have hmk := hmark m l hl
      refine ok_getSl vA (Int.natCast_nonneg _) (by rw [Int.toNat_natCast]; exact hs) ?_
      refine ok_loop (fun (k : Int) w' => w' = w3 ∧ 0 ≤ k ∧ k ≤ l.length) (fun k _ => (l.length - k).toNat) ?_ _ _ ⟨rfl, Int.le_refl _, by omega⟩
      rintro k w4 ⟨rfl, hk0, hk1⟩
      obtain ⟨t, rfl⟩ := Int.eq_ofNat_of_zero_le hk0
      by_cases ht : t < l.length
      · refine ok_true (by rw [h1]; simpa using ht) ?_
        refine ok_getSl vA (Int.natCast_nonneg _) (by rw [Int.toNat_natCast]; exact hs) ?_
        refine ok_get a1 (Int.natCast_nonneg _) (by rw [Int.toNat_natCast]; exact hmk t ht) ?_
        refine ok_bnd.2 (ok_false (by simp [mk]) ?_)
        refine ok_getSl gA (Int.natCast_nonneg _) (by rw [Int.toNat_natCast]; exact hr) ?_
        refine ok_get a2 (Int.natCast_nonneg _) (n := mk m t) (by rw [Int.toNat_natCast, List.getElem?_append_left ht]; exact hmk t ht) (ok_ret.2 ?_)
        refine ok_false (by simp [mk]) (ok_ret.2 ?_)
        rw [wrapI_in (n := (t : Int) + 1) (by omega)]
        exact ⟨⟨rfl, by omega, by omega⟩, by omega⟩
      · have : t = l.length := by omega
        subst this
        refine ok_false (by rw [h1]; simp) (ok_bnd.2 ?_)
        refine ok_mono (Q := fun r w' => r = .inl (IntKind.wrap .i64 ((m : Int) + 1)) ∧ w' = w4) ?_ (fun r w' h => by
          obtain ⟨rfl, rfl⟩ := h
          refine ok_ret.2 ?_
          show (_ ∧ _) ∧ _
          rw [wrapI_in (n := (m : Int) + 1) (by omega)]
          exact ⟨⟨rfl, by omega, by omega⟩, by omega⟩)
        refine ok_loop (fun (q : Int) w' => w' = w4 ∧ 0 ≤ q ∧ q ≤ 16) (fun q _ => (16 - q).toNat) ?_ _ _ ⟨rfl, Int.le_refl _, by decide⟩
        rintro q w5 ⟨rfl, hq0, hq1⟩
        obtain ⟨u, rfl⟩ := Int.eq_ofNat_of_zero_le hq0
        by_cases hu : u < 16
        · refine ok_true (by simp; omega) ?_
          refine ok_getSl gA (Int.natCast_nonneg _) (by rw [Int.toNat_natCast]; exact hr) ?_
          rw [wrapI_in (n := (s.len : Int) + u) (by omega)]
          refine ok_get a2 (by omega) (n := bk m u) (by
            rw [h1, show ((l.length : Int) + u).toNat = l.length + u by omega, List.getElem?_append_right (by omega), Nat.add_sub_cancel_left]
            simp [backs, hu]) ?_
          refine ok_false (by simp [bk]) (ok_ret.2 ?_)
          rw [wrapI_in (n := (u : Int) + 1) (by omega)]
          exact ⟨⟨rfl, by omega, by omega⟩, by omega⟩
        · exact ok_false (by simp; omega) (ok_ret.2 ⟨rfl, rfl⟩)
end W
end Go.Proofs.YtkkdeljladihpaaGreat

/-
  SchedDoes: the book in a heap of its own: what is put into it; it is asked.
-/
namespace Go.Proofs.YtkkdeljladihpaaGreat
open Go.Sh Go.RowKit X Y
set_option maxRecDepth 100000
abbrev bookC (v : Sl) : List Value := [.slice v.a v.len v.cap, .slice none 0 0, .slice none 0 0, .slice none 0 0, .slice none 0 0, .slice none 0 0, .slice none 0 0, .slice none 0 0]
theorem flat_slV : ∀ l : List Sl, ven (.row l) = l.map slV
  | [] => rfl
  | s :: l => by
    have := flat_slV l
    show slV s :: ven (.row l) = _
    rw [this]; rfl
theorem row40 : RowT Tryz.prog 40 28 (fun s => [slV s]) 1 ⟨none, 0, 0⟩ 24 :=
  ⟨by kernel_rfl, ⟨Tryz.t28, .slice none 0 0, by kernel_rfl, rfl, rfl, rfl, rfl⟩, by decide, fun _ => rfl, fun b u hu => by
    simp only [List.mem_cons, List.not_mem_nil, or_false] at hu
    subst hu; rfl⟩
section
variable {O A' : Type} {T T' : Nat → Option O} {mk : List A' → O} {s r : Sl} {ys : List A'}
theorem app_keepG (hT : T' = T ∧ r = s ∧ ys = [] ∨ ∃ fb L', T' = put T fb (mk L') ∧ r.a = some ⟨fb, 0, none⟩ ∧ (T fb = none ∨ s.a = some ⟨fb, 0, none⟩ ∧ ∃ L, T fb = some (mk L))) : ∀ c p, T c = some p → (∀ l, p ≠ mk l) → T' c = some p := by
  intro c p hc hne
  rcases hT with ⟨rfl, _, _⟩ | ⟨fb, M, rfl, hra, hfb⟩
  · exact hc
  have hcb : c ≠ fb := by
    rintro rfl
    rcases hfb with h0 | ⟨_, M0, hM⟩
    · rw [h0] at hc; cases hc
    · rw [hM, Option.some.injEq] at hc; exact hne _ hc.symm
  rw [put_ne _ hcb]; exact hc
end
section
variable {w0 w : World} {T0 V : Vp} {α β : Type} {Q : α → World → Prop}
theorem ints_spec (C : Tr ven w0 T0 w V) {pb : Nat} {v : Sl} {ss : List Sl} (hp : V pb = some (.box (bookC v))) (hv : Rw V VOb.row v ss) (hs : ss.length ≤ 1000) (x : Sl) {f : Unit → M α}
    (hq : ∀ v' w' V', Tr ven w0 T0 w' V' → V' pb = some (.box (bookC v')) → Rw V' VOb.row v' (ss ++ [x]) → (∀ b k l, V b = some (.out k l) → V' b = some (.out k l)) → (∀ b l, b ≠ pb → V b = some (.box l) → V' b = some (.box l)) → Ok (f ()) w' Q) : Ok (bnd (f12_Book_Ints (some ⟨pb, 0, none⟩) x) f) w Q := by
  unfold f12_Book_Ints
  simp only [bnd_as, bnd_ret]
  refine ok_drfS (ok_tld C hp (m := 0) (k := 0) (x := v) (rdv_sl (by rfl)) ?_)
  refine ok_bnd.2 (ok_build1R row40 (by decide) (F := x) (v := .slice x.a x.len x.cap) rfl ?_)
  have C1 := C.alloc (.row [x]) 28
  have hno := C.none_at
  have E : ∀ b p, V b = some p → put V w.heap.size (.row [x]) b = some p := fun b p hb => by
    rw [put_ne]
    · exact hb
    · rintro rfl; rw [hno] at hb; cases hb
  have R1 : Rw (put V w.heap.size (.row [x])) VOb.row ⟨some ⟨w.heap.size, 0, none⟩, 1, 1⟩ [x] := ⟨rfl, Nat.le_refl _, by show 1 ≤ maxLen; decide, .inr ⟨_, _, rfl, put_eq _ _ _, rfl, rfl⟩⟩
  have hv1 : Rw (put V w.heap.size (.row [x])) VOb.row v ss := hv.mono fun b L _ hb => E _ _ hb
  refine ok_appR C1 row40 (mk := VOb.row) (fun _ => rfl) hv1 (Rw.src row40 (en := ven) (mk := VOb.row) (fun _ => rfl) C1.th R1) (by simp; omega) (by simp only [maxLen]; simp; omega) fun r w2 V2 C2 R2 hT => ?_
  have K2 := app_keepG hT
  have hp2 := K2 _ _ (E _ _ hp) (by simp)
  refine ok_drfS (ok_twr C2 (m := 0) (k := 0) (.box (bookC r)) hp2 (by simp [ven]) rfl rfl fun w3 C3 => ?_)
  refine hq r w3 _ C3 (put_eq _ _ _) (R2.mono fun b L _ hb => ?_) (fun b k l hb => ?_) fun b l hne hb => ?_
  · rw [put_ne]
    · exact hb
    · rintro rfl; rw [hp2] at hb; cases hb
  · rw [put_ne]
    · exact K2 _ _ (E _ _ hb) (by simp)
    · rintro rfl; rw [hp] at hb; cases hb
  · rw [put_ne _ hne]; exact K2 _ _ (E _ _ hb) (by simp)
theorem rw_own {O A' : Type} {en1 : O → List Value} {T : Nat → Option O} {mk : List A' → O} {g : A' → Value} (h : Th en1 w T) (hmk : ∀ l, en1 (mk l) = l.map g) {s : Sl} {l : List A'} (hr : Rw T mk s l) : Own 0 w s (l.map g) := by
  refine ⟨by rw [hr.len]; simp, hr.le, hr.max, hr.at_.imp id ?_⟩
  rintro ⟨b, L, g1, g2, g3, g4⟩
  have hB := h b _ g2
  refine ⟨b, _, g1, Nat.zero_le _, hB.1, cln_fre hB.2, by rw [hmk]; simpa using g3, fun i hi => ?_⟩
  rw [List.getElem?_toArray, hmk, List.getElem?_map, List.getElem?_map]
  rw [List.length_map] at hi
  rw [← List.getElem?_take_of_lt hi, g4]
theorem rw_at {O A' : Type} {T : Nat → Option O} {mk : List A' → O} {s : Sl} {l : List A'} (hr : Rw T mk s l) {b : Nat} (hb : s.a.map (·.block) = some b) : ∃ L, T b = some (mk L) := by
  rcases hr.at_ with ⟨h1, _⟩ | ⟨c, L, h1, h2, _⟩
  · rw [h1] at hb; cases hb
  · rw [h1] at hb
    simp only [Option.map_some, Option.some.injEq] at hb
    subst hb
    exact ⟨L, h2⟩
set_option maxHeartbeats 1000000 in
theorem own_spec (hV : Th ven w V) {pb : Nat} {v : Sl} {ss : List Sl} {ls : List (List Int)} (hp : V pb = some (.box (bookC v))) (hv : Rw V VOb.row v ss) (hls : ss.length = ls.length) (hss : ss.length ≤ 1000)
    (hrow : ∀ (j : Nat) s l, ss[j]? = some s → ls[j]? = some l → Rw V (VOb.out j) s l) (hbig : ∀ (j : Nat) (l : List Int), ls[j]? = some l → l.length ≤ 30000000) :
    Ok (f15_Book_Own (some ⟨pb, 0, none⟩)) w fun r w' => r = true ∧ Keep (fun b => V b ≠ none ∧ ∀ l, V b ≠ some (.box l)) w w' := by
  have hitem : ∀ (j : Nat) it, (W.items ss ls)[j]? = some it → ∃ s l, ss[j]? = some s ∧ ls[j]? = some l ∧ it = .own s (nums .i64 l) := fun j it h => by
    simp only [W.items, List.getElem?_zipWith] at h
    cases h1 : ss[j]? with
    | none => rw [h1] at h; cases h
    | some s =>
      cases h2 : ls[j]? with
      | none => rw [h1, h2] at h; cases h
      | some l =>
        rw [h1, h2] at h
        simp only [Option.some.injEq] at h
        exact ⟨s, l, rfl, rfl, h.symm⟩
  have hvat : ∀ b, (It.own v (ss.map slV)).at_ = some b → ∃ L, V b = some (.row L) := fun b hb => rw_at hv hb
  have hiat : ∀ (j : Nat) it b, (W.items ss ls)[j]? = some it → it.at_ = some b → ∃ L, V b = some (.out j L) := fun j it b h hb => by
    obtain ⟨s, l, h1, h2, rfl⟩ := hitem j it h
    exact rw_at (hrow j s l h1 h2) hb
  have C : Cx (fun b => V b ≠ none ∧ ∀ l, V b ≠ some (.box l)) w w (.own v (ss.map slV) :: (W.items ss ls ++ [])) := by
    rw [List.append_nil]
    refine ⟨Keep.refl _ _, fun it hit => ?_, fun it hit b hb => .inl ?_, List.pairwise_cons.2 ⟨fun y hy b h1 h2 => ?_, List.pairwise_iff_getElem.2 fun i j hi hj hij b h1 h2 => ?_⟩⟩
    · rcases List.mem_cons.1 hit with rfl | hit
      · exact rw_own (mk := VOb.row) hV (g := slV) flat_slV hv
      · obtain ⟨j, hj⟩ := List.getElem?_of_mem hit
        obtain ⟨s, l, g1, g2, rfl⟩ := hitem j it hj
        exact rw_own (mk := VOb.out j) hV (g := Value.int .i64) (fun l => flat_iV l) (hrow j s l g1 g2)
    · rcases List.mem_cons.1 hit with rfl | hit
      · obtain ⟨M, hM⟩ := hvat b hb
        exact ⟨by rw [hM]; simp, fun l => by rw [hM]; simp⟩
      · obtain ⟨j, hj⟩ := List.getElem?_of_mem hit
        obtain ⟨M, hM⟩ := hiat j it b hj hb
        exact ⟨by rw [hM]; simp, fun l => by rw [hM]; simp⟩
    · obtain ⟨j, hj⟩ := List.getElem?_of_mem hy
      obtain ⟨M, hM⟩ := hvat b h1
      obtain ⟨M', hM'⟩ := hiat j y b hj h2
      rw [hM] at hM'; cases hM'
    · obtain ⟨M, hM⟩ := hiat i _ b (List.getElem?_eq_getElem hi) h1
      obtain ⟨M', hM'⟩ := hiat j _ b (List.getElem?_eq_getElem hj) h2
      rw [hM] at hM'
      simp only [Option.some.injEq, VOb.out.injEq] at hM'
      omega
  unfold f15_Book_Own
  refine ok_drfS (ok_tld (Tr.refl hV) hp (m := 0) (k := 0) (x := v) (rdv_sl (by rfl)) ?_)
  refine ok_bnd.2 (ok_mono (W.ownInts_spec _ w w v ss ls [] C hls hss hbig) ?_)
  rintro r w1 ⟨rfl, hk⟩
  have hpb := hV pb _ hp
  have hlt := hV.lt hp
  have hsame := hk.block pb hlt (fun h => h.2 _ hp)
  have C1 : Tr ven w1 (fun b => if b = pb then some (.box (bookC v)) else none) w1 (fun b => if b = pb then some (.box (bookC v)) else none) := Tr.refl fun b o hb => by
    by_cases e : b = pb
    · simp only [if_pos e, Option.some.injEq] at hb
      subst hb
      rw [e]
      exact ⟨(blk_of hsame).trans hpb.1, by unfold cln; rw [hsame]; exact hpb.2⟩
    · simp only [if_neg e] at hb; cases hb
  have h1 : (fun b => if b = pb then some (VOb.box (bookC v)) else none) pb = some (.box (bookC v)) := if_pos rfl
  generalize (fun b => if b = pb then some (VOb.box (bookC v)) else none) = V1 at C1 h1
  refine ok_drfS (ok_tld C1 h1 (m := 0) (k := 1) (x := (⟨none, 0, 0⟩ : Sl)) (rdv_sl (by rfl)) (ok_bnd.2 (ok_mono (W.ownNumbers0 w1) ?_)))
  rintro r _ ⟨rfl, rfl⟩
  refine ok_drfS (ok_tld C1 h1 (m := 0) (k := 2) (x := (⟨none, 0, 0⟩ : Sl)) (rdv_sl (by rfl)) (ok_bnd.2 (ok_mono (W.ownOops0 w1) ?_)))
  rintro r _ ⟨rfl, rfl⟩
  refine ok_drfS (ok_tld C1 h1 (m := 0) (k := 3) (x := (⟨none, 0, 0⟩ : Sl)) (rdv_sl (by rfl)) (ok_bnd.2 (ok_mono (W.ownDeeds0 w1) ?_)))
  rintro r _ ⟨rfl, rfl⟩
  refine ok_drfS (ok_tld C1 h1 (m := 0) (k := 4) (x := (⟨none, 0, 0⟩ : Sl)) (rdv_sl (by rfl)) (ok_bnd.2 (ok_mono (W.ownFiles0 w1) ?_)))
  rintro r _ ⟨rfl, rfl⟩
  refine ok_drfS (ok_tld C1 h1 (m := 0) (k := 5) (x := (⟨none, 0, 0⟩ : Sl)) (rdv_sl (by rfl)) (ok_bnd.2 (ok_mono (W.ownChoices0 w1) ?_)))
  rintro r _ ⟨rfl, rfl⟩
  refine ok_drfS (ok_tld C1 h1 (m := 0) (k := 6) (x := (⟨none, 0, 0⟩ : Sl)) (rdv_sl (by rfl)) (ok_bnd.2 (ok_mono (W.ownTexts0 w1) ?_)))
  rintro r _ ⟨rfl, rfl⟩
  refine ok_drfS (ok_tld C1 h1 (m := 0) (k := 7) (x := (⟨none, 0, 0⟩ : Sl)) (rdv_sl (by rfl)) (ok_bnd.2 (ok_mono (W.ownBits0 w1) ?_)))
  rintro r _ ⟨rfl, rfl⟩
  exact ok_ret.2 ⟨rfl, hk⟩
end
section
variable {w0 w : World} {T : Hp} {U : R.Hp} {V : Vp}
/-- A row that came out goes over into the law's own heap. -/
theorem Tri.move (D : Tri w0 w T U V) {o : Ow} {s : Sl} {l : List Int} (hr : Rw T (Ob.ints o) s l) (j : Nat) : ∃ T' V', Tri w0 w T' U V' ∧ Rw V' (VOb.out j) s l ∧ (∀ c p, T c = some p → (∀ M, p ≠ .ints o M) → T' c = some p) ∧ (∀ c p, V c = some p → V' c = some p) := by
  rcases hr.at_ with ⟨h1, h2⟩ | ⟨b, M, h1, h2, h3, h4⟩
  · exact ⟨T, V, D, ⟨hr.len, hr.le, hr.max, .inl ⟨h1, h2⟩⟩, fun _ _ h _ => h, fun _ _ h => h⟩
  have hVb := D.tv b (by rw [h2]; simp)
  have hUb := D.tu b (by rw [h2]; simp)
  have hnew := (D.t.new b (by rw [h2]; simp)).resolve_left fun h => h rfl
  have hB := D.t.th b _ h2
  refine ⟨fun x => if x = b then none else T x, put V b (.out j M), ⟨⟨fun x q hx => ?_, D.t.keep, fun x hx => ?_⟩, D.u, ⟨fun x q hx => ?_, D.v.keep, fun x hx => ?_⟩, fun x hx => ?_, fun x hx => ?_, fun x hx => ?_⟩, ⟨hr.len, hr.le, hr.max, .inr ⟨b, M, h1, put_eq _ _ _, h3, h4⟩⟩, fun c p hc hne => ?_, fun c p hc => ?_⟩
  · by_cases e : x = b
    · simp only [if_pos e] at hx; cases hx
    · simp only [if_neg e] at hx; exact D.t.th x q hx
  · by_cases e : x = b
    · simp only [if_pos e] at hx; exact absurd rfl hx
    · simp only [if_neg e] at hx; exact D.t.new x hx
  · by_cases e : x = b
    · subst e; rw [put_eq, Option.some.injEq] at hx; subst hx; exact hB
    · rw [put_ne _ e] at hx; exact D.v.th x q hx
  · by_cases e : x = b
    · subst e; exact .inr hnew
    · rw [put_ne _ e] at hx; exact D.v.new x hx
  · by_cases e : x = b
    · simp only [if_pos e] at hx; exact absurd rfl hx
    · simp only [if_neg e] at hx; exact D.tu x hx
  · by_cases e : x = b
    · simp only [if_pos e] at hx; exact absurd rfl hx
    · simp only [if_neg e] at hx; rw [put_ne _ e]; exact D.tv x hx
  · have e : x ≠ b := by rintro rfl; exact hx hUb
    rw [put_ne _ e]; exact D.uv x hx
  · have e : c ≠ b := by
      rintro rfl; rw [h2, Option.some.injEq] at hc; exact hne _ hc.symm
    simp only [if_neg e]; exact hc
  · have e : c ≠ b := by
      rintro rfl; rw [hVb] at hc; cases hc
    rw [put_ne _ e]; exact hc
/-- What is in boxes alone. -/
def boxes (V : Vp) : Vp := fun b => match V b with
  | some (.box l) => some (.box l)
  | _ => none
theorem boxes_box {b : Nat} {l : List Value} (h : V b = some (.box l)) : boxes V b = some (.box l) := by unfold boxes; rw [h]
theorem boxes_some {b : Nat} {p : VOb} (h : boxes V b = some p) : V b = some p ∧ ∃ l, p = .box l := by
  unfold boxes at h
  split at h
  · rename_i l hl; rw [Option.some.injEq] at h; subst h; exact ⟨hl, l, rfl⟩
  · cases h
/-- Rows of the law's own have turned. -/
theorem Tri.spoil {w' : World} (D : Tri w0 w T U V) (k : Keep (fun b => V b ≠ none ∧ ∀ l, V b ≠ some (.box l)) w w') : Tri w0 w' T U (boxes V) := by
  have hbx : ∀ b, boxes V b ≠ none → V b ≠ none := fun b hb => by
    cases h : boxes V b with
    | none => exact absurd h hb
    | some p => rw [(boxes_some h).1]; simp
  have hk : Keep (fun _ => False) w0 w' := (D.t.keep.mono (S' := fun _ => False) fun i _ hs => absurd rfl hs).trans k fun i hi => .inr ((D.v.new i hi.1).resolve_left fun h => h rfl)
  refine ⟨⟨fun b o hb => ?_, hk.mono fun _ _ h => h.elim, D.t.new⟩, ⟨fun b o hb => ?_, hk.mono fun _ _ h => h.elim, D.u.new⟩, ⟨fun b o hb => ?_, hk.mono fun _ _ h => h.elim, fun b hb => D.v.new b (hbx b hb)⟩, D.tu, fun b hb => ?_, fun b hb => ?_⟩
  · have hv := D.tv b (by rw [hb]; simp)
    have hs := k.block b (D.t.th.lt hb) (fun h => h.1 hv)
    obtain ⟨g1, g2⟩ := D.t.th b o hb
    exact ⟨(blk_of hs).trans g1, by unfold cln; rw [hs]; exact g2⟩
  · have hv := D.uv b (by rw [hb]; simp)
    have hs := k.block b (D.u.th.lt hb) (fun h => h.1 hv)
    obtain ⟨g1, g2⟩ := D.u.th b o hb
    exact ⟨(blk_of hs).trans g1, by unfold cln; rw [hs]; exact g2⟩
  · obtain ⟨h1, l, rfl⟩ := boxes_some hb
    have hs := k.block b (D.v.th.lt h1) (fun h => h.2 _ h1)
    obtain ⟨g1, g2⟩ := D.v.th b _ h1
    exact ⟨(blk_of hs).trans g1, by unfold cln; rw [hs]; exact g2⟩
  · unfold boxes; rw [D.tv b hb]
  · unfold boxes; rw [D.uv b hb]
end
end Go.Proofs.YtkkdeljladihpaaGreat

/-
  SchedDoes: who runs, who waits and who is signalled is just what the document says, under any calls.
-/
namespace Go.Proofs.YtkkdeljladihpaaGreat
open Go.Sh Go.RowKit X Y
set_option maxRecDepth 100000
/-- What the book holds. -/
structure Bk (V : Vp) (ob pb : Nat) (v : Sl) (ss : List Sl) (ls : List (List Int)) : Prop where
  oth : V ob = some (.box Sk.new.en)
  rec_ : V pb = some (.box (bookC v))
  ne : ob ≠ pb
  row : Rw V VOb.row v ss
  len : ss.length = ls.length
  out : ∀ (j : Nat) s l, ss[j]? = some s → ls[j]? = some l → Rw V (VOb.out j) s l
  big : ∀ (j : Nat) (l : List Int), ls[j]? = some l → l.length ≤ 30000000
section
variable {w0 w : World} {T : Hp} {U : R.Hp} {V : Vp} {sb rb : Nat} {S : Sk} {L : List Sm} {A : St} {K : R.Sk} {B : R.St} {α β : Type} {Q : α → World → Prop}
theorem nth_snoc {γ : Type} {l : List γ} {x y : γ} {j : Nat} (h : (l ++ [x])[j]? = some y) : l[j]? = some y ∨ (j = l.length ∧ y = x) := by
  rcases Nat.lt_or_ge j l.length with h1 | h1
  · rw [List.getElem?_append_left h1] at h; exact .inl h
  · rw [List.getElem?_append_right h1] at h
    have : j - l.length = 0 := by
      rcases Nat.eq_zero_or_pos (j - l.length) with h2 | h2
      · exact h2
      · rw [List.getElem?_eq_none (by simp; omega)] at h; cases h
    rw [this] at h
    simp only [List.getElem?_cons_zero, Option.some.injEq] at h
    exact .inr ⟨by omega, h.symm⟩
/-- A row that came out is put into the book. -/
theorem ok_book (D : Tri w0 w T U V) (I : SInv T sb S L A) {o : Nat} {s : Sl} {l : List Int} (hr : Rw T (Ob.ints (.out o)) s l) (hll : l.length ≤ 30000000) {ob pb : Nat} {v : Sl} {ss : List Sl} {ls : List (List Int)} (H : Bk V ob pb v ss ls) (hss : ss.length ≤ 1000) {f : Unit → M α}
    (hq : ∀ v' w' T' V', Tri w0 w' T' U V' → SInv T' sb S L A → Bk V' ob pb v' (ss ++ [s]) (ls ++ [l]) → Ok (f ()) w' Q) : Ok (bnd (f12_Book_Ints (some ⟨pb, 0, none⟩) s) f) w Q := by
  obtain ⟨T1, V1, D1, R1, hT1, hV1⟩ := D.move hr ss.length
  have I1 := I.extB (T' := T1) fun b p hb hne _ => hT1 b p hb (hne o)
  refine ints_spec (Tr.refl D1.v.th) (hV1 _ _ H.rec_) (H.row.mono fun b M _ hb => hV1 _ _ hb) hss s fun v' w' V' C' h1 h2 h3 h4 => ?_
  refine hq v' w' T1 V' (D1.stepV C') I1 ⟨h4 _ _ H.ne (hV1 _ _ H.oth), h1, H.ne, h2, by simp [H.len], fun j s' l' hs' hl' => ?_, fun j l' hl' => ?_⟩
  · have hlen := H.len
    rcases nth_snoc hs' with g1 | ⟨g1, g2⟩
    · rcases nth_snoc hl' with k1 | ⟨k1, k2⟩
      · exact (H.out j s' l' g1 k1).mono fun b M _ hb => h3 _ _ _ (hV1 _ _ hb)
      · have : j < ss.length := by
          rcases Nat.lt_or_ge j ss.length with h | h
          · exact h
          · rw [List.getElem?_eq_none h] at g1; cases g1
        omega
    · rcases nth_snoc hl' with k1 | ⟨k1, k2⟩
      · have : j < ls.length := by
          rcases Nat.lt_or_ge j ls.length with h | h
          · exact h
          · rw [List.getElem?_eq_none h] at k1; cases k1
        omega
      · subst g2 k2 g1
        exact R1.mono fun b M _ hb => h3 _ _ _ hb
  · rcases nth_snoc hl' with k1 | ⟨k1, k2⟩
    · exact H.big j l' k1
    · subst k2; exact hll
theorem stateL_len (F : FitX A 0) {v : List Tm} (hv : v.Perm A.timers) : (stateL A v).length ≤ 30000000 := by
  have hf := F.few
  have h1 : (A.procs.flatMap prL).length = 2 * A.procs.length := prL_len A.procs
  have h2 := smL_len (n := 4096) A.sems F.sml
  have h3 : (4096 + 2) * A.sems.length ≤ 4098 * 4096 := Nat.mul_le_mul_left _ hf.2.1
  have h4 := qsL_len F 16
  have h5 := tmL_len v
  have h6 := hv.length_eq
  have h7 := (evK_len A.events 0).1
  have h8 := F.evs.1
  unfold stateL headL
  simp only [List.length_append, List.length_cons, List.length_nil]
  omega
/-- All of both as numbers, and the same. -/
theorem ok_states (D : Tri w0 w T U V) (I : SInv T sb S L A) (J : R.Inv U rb K B) (F : FitX A 0) (M : R.SimX A B 0) {f : Sl → Bool → Go.Sh.M α}
    (hq : ∀ a w' T' U' v, Tri w0 w' T' U' V → SInv T' sb S L A → R.Inv U' rb K B → v.Perm A.timers → Rw T' (Ob.ints (.out 0)) a (stateL A v) → Ok (f a true) w' Q) :
    Ok (bnd (f9_State (some ⟨sb, 0, none⟩)) fun (a : Sl) => bnd (f10_State (some ⟨rb, 0, none⟩)) fun (b : Sl) => bnd (f11_SameInts a b) (f a)) w Q := by
  refine ok_bnd.2 (ok_mono (state_spec D.t.th I F) ?_)
  rintro a w1 ⟨T1, C1, v, hv1, hv2, hr, Kk⟩
  have D1 := D.stepT C1
  have I1 := I.ko Kk
  refine R.state_spec (Tr.refl D1.u.th) J ⟨A, M, F⟩ fun b w2 U2 C2 E2 R2 => ?_
  have D2 := D1.stepU C2
  have J2 := J.ext E2
  have hl := stateL_len F hv1
  refine ok_bnd.2 (ok_mono (same_spec (rw_arr D2.t.th (fun _ => rfl) hr) (rw_arr D2.u.th (fun _ => rfl) R2) (by omega)) ?_)
  rintro r w3 ⟨hr3, hb3⟩
  rw [M.state F hv1 hv2] at hr3
  subst hr3
  rw [decide_eq_true rfl]
  exact hq a w3 T1 U2 v (D2.call hb3) I1 J2 hv1 hr
set_option maxHeartbeats 4000000 in
theorem does_true {s : Sl} {l : List Act} (H : Acts w s l) (hs : s.len ≤ 6000000000000) : Ok (f3_SchedDoes s) w fun r w' => r = true ∧ Below w.heap.size w w' := by
  unfold f3_SchedDoes
  refine ok_bnd.2 (ok_mono (works_spec w) ?_)
  rintro _ w1 ⟨rfl, hb1⟩
  have D0 := (Tri.start w).call hb1
  have hl := H.len
  refine new_spec (Tr.refl D0.t.th) fun sb w2 T2 _ _ C2 I2 => ?_
  have D2 := D0.stepT C2
  clear C2
  refine ok_bnd.2 ?_
  unfold f5_sched_New
  refine ok_tnew (Tr.refl D2.v.th) (.box Sk.new.en) rfl fun ob w3 hob C3 => ok_ret.2 ?_
  have D3 := D2.stepV C3
  have hob3 : put (fun _ => none) ob (VOb.box Sk.new.en) ob = some (.box Sk.new.en) := put_eq _ _ _
  generalize put (fun _ => none) ob (VOb.box Sk.new.en) = V3 at D3 hob3
  clear C3
  refine ok_false rfl ?_
  refine ok_tnew (Tr.refl D3.u.th) (.sch R.Sk0) rfl fun rb w4 hrb C4 => ?_
  have D4 := D3.stepU C4
  have J4 : R.Inv (put (fun _ => none) rb (R.Ob.sch R.Sk0)) rb R.Sk0 R.St.new := ⟨put_eq _ _ _, rfl, rfl, rfl, rfl, rfl, rw_nil _ _, rw_nil _ _, rw_nil _ _⟩
  generalize put (fun _ => none) rb (R.Ob.sch R.Sk0) = U4 at D4 J4
  clear C4
  refine ok_loopN (fun m (i' : Int) w' => ∃ (i : Nat) (A : St) (B : R.St) (T : Hp) (U : R.Hp) (V : Vp) (S : Sk) (L : List Sm) (K : R.Sk), i' = i ∧ i ≤ l.length ∧ m = l.length - i ∧ Tri w w' T U V ∧ V ob = some (.box Sk.new.en) ∧ SInv T sb S L A ∧ R.Inv U rb K B ∧ A.Fit ∧ R.SimX A B 0 ∧ 0 ≤ A.made ∧ A.made ≤ i ∧ (0 ≤ B.last ∧ B.last ≤ 4098 * i) ∧ (B.first ≤ 0 ∧ -4098 * i ≤ B.first)) ?_ l.length 0 w4 ⟨0, St.new, R.St.new, T2, U4, V3, _, _, _, rfl, Nat.zero_le _, rfl, D4, hob3, I2, J4, ⟨fit_new, hi_new⟩, R.SimX.new, by show (0 : Int) ≤ 0; exact Int.le_refl _, by show (0 : Int) ≤ 0; exact Int.le_refl _, ⟨Int.le_refl _, Int.le_refl _⟩, Int.le_refl _, Int.le_refl _⟩
  clear D0 D2 D3 D4 I2 J4 hob3 hb1
  rintro m i' w1 ⟨i, A, B, T, U, V, S, L, K, rfl, hi, rfl, D, hob, I, J, F, M, hm0, hm1, hlast, hfirst⟩
  by_cases hlt : i < l.length
  · refine ok_true (by rw [hl]; simpa using hlt) ?_
    have hx : l[i]? = some l[i] := List.getElem?_eq_getElem hlt
    generalize l[i] = x at hx
    refine ok_act H D.below hx rfl ?_
    refine ok_bnd.2 (ok_mono (does_spec D I J F.1 M ⟨hm0, by omega⟩ (by unfold R.St.Room; omega) x) ?_)
    rintro r w2 ⟨rfl, T2, U2, V2, S2, L2, K2, D2, hV2, I2, J2⟩
    have F2 := F.call x
    have M2 := M.call F.1 x
    have G : R.Good B := ⟨A, M, F.1⟩
    have hg := R.gr_call B G.tl x
    have hg1 := hg.last; have hg2 := hg.first
    have hcm := call_made A x
    refine ok_bnd.2 (ok_false rfl ?_)
    refine active_spec (Tr.refl D2.t.th) I2 ?_
    refine R.active_spec (Tr.refl D2.u.th) J2 (R.Good.pl ⟨_, M2, F2.1⟩) (ok_ret.2 ?_)
    refine ok_false (by rw [M2.active F2.1]; simp) (ok_ret.2 ⟨l.length - (i + 1), by omega, i + 1, (A.call x).2, (B.call x).2, T2, U2, V2, S2, L2, K2, by rw [wI (by omega)]; simp, by omega, rfl, D2, hV2 _ _ hob, I2, J2, F2, M2, by omega, by omega, by omega, by omega⟩)
  refine ok_false (by rw [hl]; simpa using hlt) ?_
  refine ok_bnd.2 (ok_mono (Q := fun r w' => r = true ∧ Below w.heap.size w w') ?_ (fun r w' h => ok_ret.2 h))
  have hel : B.excess.length ≤ 4096 := R.Good.el ⟨A, M, F.1⟩
  refine ok_states D I J F.1 M fun a w2 T2 U2 v D2 I2 J2 hv Ra => ?_
  have hla := stateL_len F.1 hv
  refine ok_tnew (Tr.refl D2.v.th) (.box (bookC ⟨none, 0, 0⟩)) rfl fun pb w3 hpb C3 => ?_
  have D3 := D2.stepV C3
  have H3 : Bk (put V pb (.box (bookC ⟨none, 0, 0⟩))) ob pb ⟨none, 0, 0⟩ [] [] := by
    have hne : ob ≠ pb := by rintro rfl; rw [hob] at hpb; cases hpb
    exact ⟨by rw [put_ne _ hne]; exact hob, put_eq _ _ _, hne, rw_nil _ _, rfl, fun j s l h => by simp at h, fun j l h => by simp at h⟩
  generalize put V pb (VOb.box (bookC ⟨none, 0, 0⟩)) = V3 at D3 H3
  clear C3
  refine ok_book D3 I2 Ra hla H3 (by simp) fun v1 w4 T4 V4 D4 I4 H4 => ?_
  refine ok_bnd.2 (ok_mono (state_spec D4.t.th I4 F.1) ?_)
  rintro r17 w5 ⟨T5, C5, u5, hu5, _, R5, K5⟩
  have D5 := D4.stepT C5
  have I5 := I4.ko K5
  refine ok_book D5 I5 R5 (stateL_len F.1 hu5) H4 (by simp) fun v2 w6 T6 V6 D6 I6 H6 => ?_
  refine ok_bnd.2 (ok_mono (readies_spec D6.t.th I6 F.1 2) ?_)
  rintro r19 w7 ⟨T7, C7, R7, hT7⟩
  have D7 := D6.stepT C7
  have I7 := I6.extB (T' := T7) fun b p hb hne hnb => hT7 b p hb (hne 2)
  have hrl : (ns A.readies).length ≤ 30000000 := by
    rw [ns_length]
    have : ∀ p, (St.readyN A.queues p).length ≤ 4096 * p := by
      intro p
      induction p with
      | zero => simp [St.readyN]
      | succ p ih =>
        have := F.1.ql (p + 1)
        have := F.1.few.1
        unfold St.readyN
        rw [List.length_append]; omega
    have := this 16
    show (St.readyN A.queues 16).length ≤ _
    omega
  refine ok_book D7 I7 R7 hrl H6 (by simp) fun v3 w8 T8 V8 D8 I8 H8 => ?_
  refine ok_loopN (fun m (i' : Int) w' => ∃ (n : Nat) (T : Hp) (V : Vp) (v : Sl) (ss : List Sl) (ls : List (List Int)), i' = (n : Int) + 1 ∧ n ≤ 49 ∧ n ≤ A.sems.length ∧ m = 49 - n ∧ ss.length = 3 + n ∧ Tri w w' T U2 V ∧ SInv T sb S L A ∧ Bk V ob pb v ss ls) ?_ 49 1 w8 ⟨0, T8, V8, v3, _, _, rfl, by decide, Nat.zero_le _, rfl, rfl, D8, I8, H8⟩
  clear D D2 D3 D4 D5 D6 D7 D8 I I2 I4 I5 I6 I7 I8 H3 H4 H6 H8 Ra R5 R7 C5 C7 K5 hT7 J
  rintro m i' w1 ⟨n, T, V, v, ss, ls, rfl, hn, hns, rfl, hss, D, I, H⟩
  have hel2 := J2.excess.len
  have helA := M.elen
  refine ok_tld D.u J2.sch (m := 0) (k := 2) (x := K.excess) (rdv_sl (by rfl)) ?_
  by_cases hc : n + 1 ≤ A.sems.length ∧ n + 1 < 50
  · refine ok_true ?_ ?_
    · rw [Bool.cond_false_right, Bool.and_eq_true, decide_eq_true_eq, decide_eq_true_eq, hel2]
      omega
    refine ok_bnd.2 (ok_mono (waiting_spec D.t.th I F.1 ((n : Int) + 1) 2) ?_)
    rintro ⟨r23, x23⟩ w2 ⟨T3, C3, R3, _, hT3⟩
    simp only at R3
    have D3 := D.stepT C3
    have I3 := I.ext hT3
    have hwl : (ns (A.waiting ((n : Int) + 1)).1).length ≤ 30000000 := by
      rw [ns_length]
      unfold St.waiting
      split
      · simp
      · have := F.1.wl (i := n + 1) (by omega) (by omega)
        have := F.1.few.1
        rw [show ((n : Int) + 1).toNat = n + 1 by omega]
        show (A.sm (n + 1)).2.length ≤ _
        omega
    refine ok_book D3 I3 R3 hwl H (by omega) fun v4 w4 T4 V4 D4 I4 H4 => ok_ret.2 ⟨49 - (n + 1), by omega, n + 1, T4, V4, v4, _, _, by rw [wI (by omega)]; omega, by omega, by omega, rfl, by rw [List.length_append, hss]; simp; omega, D4, I4, H4⟩
  refine ok_false ?_ ?_
  · rw [Bool.cond_false_right, Bool.and_eq_false_iff, decide_eq_false_iff_not, decide_eq_false_iff_not, hel2]
    omega
  refine ok_bnd.2 (ok_mono (Q := fun r w' => r = true ∧ Below w.heap.size w w') ?_ (fun r w' h => ok_ret.2 h))
  refine ok_bnd.2 (ok_mono (own_spec D.v.th H.rec_ H.row H.len (by omega) H.out H.big) ?_)
  rintro r25 w2 ⟨rfl, hk⟩
  have D2 := D.spoil hk
  have hob2 := boxes_box H.oth
  refine ok_states D2 I J2 F.1 M fun c w3 T3 U3 v3 D3 I3 J3 _ _ => ?_
  unfold f7_Active
  simp only [bnd_as, bnd_ret]
  refine ok_drfS (ok_tld D3.v hob2 (m := 0) (k := 1) (t := .int .i64) (x := 0) (by rfl) (ok_ret.2 ⟨rfl, D3.below⟩))
/-- SchedDoes. -/
theorem does_is {x0 : Sl} (h0 : Held w (.sl shAct) x0) (hs0 : x0.len ≤ 6000000000000) (W : World) (hW : W = w := by rfl) : Ok (f3_SchedDoes x0) W fun r w' => r = true ∧ Below W.heap.size W w' := by
  subst hW
  obtain ⟨l0, H0⟩ := held_acts h0
  exact does_true H0 hs0
end
end Go.Proofs.YtkkdeljladihpaaGreat
namespace Go.Sh
open Go.RowKit Go.ChangeShapes Go.WideShapes
/-- A slice that was read weighs what its room weighs. -/
theorem trod_room {H : Type} {en : TypeId × Value → H} {P : Program} {w : World} {T E : TypeId} {x : Sl} {d : DataW H} {ps : List MemPlace} (ht : P.underlying T = some (.slice E)) (hd : DataW.Trod en P w 0 (fun _ => true) true T (inj .sl x) d ps) :
    x.len = 0 ∨ ∃ elems spare, d = .slice elems spare ∧ x.len ≤ elems.length + spare.length := by
  obtain ⟨fuel, hf⟩ := hd
  rcases Deep.open_slice ht hf with ⟨h1, _⟩ | ⟨a, len, cap, m, n, D, Pl, h1, hb, hl, hm, hmm, h2, hi⟩
  · left
    have h1 : [Value.slice x.a x.len x.cap] = [.slice none 0 0] := h1
    simp only [List.cons.injEq, Value.slice.injEq, and_true] at h1
    exact h1.2.1
  · right
    have h1 : [Value.slice x.a x.len x.cap] = [.slice (some a) len cap] := h1
    simp only [List.cons.injEq, Value.slice.injEq, and_true] at h1
    simp only [Prod.mk.injEq] at h2
    refine ⟨_, _, h2.1, ?_⟩
    rw [h1.2.1]
    simp
end Go.Sh
