/-
  Parts of the proof: ZSN, ZSO, ZSP. It states what the functions do; no further condition.
-/
import Derived.Test.YtkkdeljladihpaaGreatZSM
import Derived.Lib.SliceRun
set_option linter.unusedVariables false
set_option linter.unusedSimpArgs false
/-
  The scheduler: semaphores in memory; signal.
-/
namespace Go.Proofs.YtkkdeljladihpaaGreat
open Go.Sh Go.RowKit
set_option maxRecDepth 100000
/-- A semaphore's place. -/
structure SAt (T : Hp) (S : Sk) (n : Nat) (r : Sm) (b : Nat) (L' : List Sm) : Prop where
  a : S.sems.a = some ⟨b, 0, none⟩
  at_ : T b = some (.sems L')
  get : L'[n - 1]? = some r
  lt : n - 1 < S.sems.len
section
variable {w0 w : World} {T0 T : Hp} {sb : Nat} {S : Sk} {L : List Sm} {A : St} {α β : Type} {Q : α → World → Prop}
theorem SAt.ext {n b : Nat} {r : Sm} {L' : List Sm} (h : SAt T S n r b L') {T' : Hp} (hT : T' b = some (.sems L')) : SAt T' S n r b L' := ⟨h.a, hT, h.get, h.lt⟩
theorem SInv.sat (I : SInv T sb S L A) {n : Nat} (h1 : 1 ≤ n) (h2 : n ≤ A.sems.length) : ∃ b L' r, SAt T S n r b L' ∧ L'.take L.length = L ∧ L'.length = S.sems.cap ∧ L[n - 1]? = some r ∧ r.excess = (A.sm n).1 ∧ Rw T (Ob.ints (.sem (n - 1))) r.queue (ns (A.sm n).2) := by
  have hs := I.slen
  obtain ⟨b, L', g1, g2, g3, g4⟩ := I.sems.blk (by omega)
  have hlt : n - 1 < L.length := by omega
  have hlt2 : n - 1 < A.sems.length := by omega
  have hL : L[n - 1]? = some L[n - 1] := List.getElem?_eq_getElem hlt
  have hA : A.sems[n - 1]? = some (A.sm n) := by
    unfold St.sm; rw [List.getD_eq_getElem?_getD, List.getElem?_eq_getElem hlt2]; rfl
  have hh := I.sem (n - 1) _ _ hA hL
  refine ⟨b, L', L[n - 1], ⟨g1, g2, ?_, by rw [I.sems.len]; exact hlt⟩, g4, g3, hL, hh.1, hh.2⟩
  rw [← hL, ← List.getElem?_take_of_lt hlt, g4]
theorem ok_sld {n b : Nat} {r : Sm} {L' : List Sm} (C : Tr en w0 T0 w T) (at_ : SAt T S n r b L') {j : Nat} {t : Ty} {x : t.den} (hj : j + t.size ≤ 2) (hx : rdv t (Sm.en r).toArray j = some x) {f : t.den → M α} (hq : Ok (f x) w Q) : Ok (bnd (ld t (Addr.add ⟨b, 2 * (n - 1), none⟩ j)) f) w Q :=
  ok_tld C at_.at_ (flat_rdv (g := Sm.en) (fun _ => rfl) at_.get hj hx) hq
theorem ok_swr {n b : Nat} {r : Sm} {L' : List Sm} (C : Tr en w0 T0 w T) (at_ : SAt T S n r b L') (r' : Sm) {j : Nat} {vs : List Value} (hj : j + vs.length ≤ 2) (ha : vs.all single = true) (hs : spl (Sm.en r) j vs = Sm.en r') {f : Unit → M α} (hq : ∀ w', Tr en w0 T0 w' (put T b (.sems (L'.set (n - 1) r'))) → Ok (f ()) w' Q) : Ok (bnd (wrs (Addr.add ⟨b, 2 * (n - 1), none⟩ j) 0 vs) f) w Q := by
  have hlt : n - 1 < L'.length := by
    rcases Nat.lt_or_ge (n - 1) L'.length with h | h
    · exact h
    · have := at_.get; rw [List.getElem?_eq_none h] at this; cases this
  refine ok_twr C (.sems (L'.set (n - 1) r')) at_.at_ ?_ ha (flat_spl (g := Sm.en) (fun _ => rfl) at_.get hj hs) hq
  show _ ≤ (L'.flatMap Sm.en).length
  rw [flat_length (g := Sm.en) (n := 2) (fun _ => rfl)]
  have : 2 * (n - 1) + 2 ≤ 2 * L'.length := by rw [← Nat.mul_succ]; exact Nat.mul_le_mul_left _ hlt
  omega
theorem SInv.setSm (I : SInv T sb S L A) {n b : Nat} {r : Sm} {L' : List Sm} (h1 : 1 ≤ n) (h2 : n ≤ A.sems.length) (at_ : SAt T S n r b L') (h4 : L'.take L.length = L) (h3 : L'.length = S.sems.cap) {T2 : Hp} (k2 : ∀ c o, T c = some o → (∀ l, o ≠ .ints (.sem (n - 1)) l) → T2 c = some o) {r' : Sm} {l : List Nat} (hr : Rw T2 (Ob.ints (.sem (n - 1))) r'.queue (ns l)) :
    SInv (put T2 b (.sems (L'.set (n - 1) r'))) sb S (L.set (n - 1) r') (A.setSm n (r'.excess, l)) := by
  have hb2 := k2 _ _ at_.at_ (by simp)
  have keep : ∀ c o, T c = some o → (∀ l, o ≠ .ints (.sem (n - 1)) l) → (∀ l, o ≠ .sems l) → put T2 b (.sems (L'.set (n - 1) r')) c = some o := fun c o hc n1 n2 => put_other (k2 _ _ hc n1) hb2 (n2 _)
  refine { I with sch := keep _ _ I.sch (by simp) (by simp), procs := I.procs.mono fun c l _ hc => keep _ _ hc (by simp) (by simp), sems := ?_, slen := ?_, sem := ?_, queue := fun p q hq => (I.queue p q hq).mono fun c l _ hc => keep _ _ hc (by simp) (by simp), timers := I.timers.mono fun c l _ hc => keep _ _ hc (by simp) (by simp) }
  · refine ⟨by rw [List.length_set]; exact I.sems.len, I.sems.le, I.sems.max, .inr ⟨b, _, at_.a, put_eq _ _ _, by rw [List.length_set]; exact h3, ?_⟩⟩
    rw [List.length_set, List.take_set, h4]
  · rw [List.length_set]; show _ = (A.sems.set _ _).length; rw [List.length_set]; exact I.slen
  · intro i s t hs ht
    have hs' : (A.sems.set (n - 1) (r'.excess, l))[i]? = some s := hs
    have hsl := I.slen
    by_cases e : i = n - 1
    · subst e
      rw [List.getElem?_set_self (by omega)] at hs' ht
      simp only [Option.some.injEq] at hs' ht
      subst hs' ht
      exact ⟨rfl, hr.mono fun c l _ hc => put_other hc hb2 (by simp)⟩
    · rw [List.getElem?_set_ne (Ne.symm e)] at hs' ht
      have := I.sem i s t hs' ht
      exact ⟨this.1, this.2.mono fun c l _ hc => keep _ _ hc (by simp [e]) (by simp)⟩
theorem sem_spec (C : Tr en w0 T0 w T) (I : SInv T sb S L A) (hf : A.sems.length ≤ 4096) {x : Int} {f : Option Addr → M α} (hq0 : A.isSem x = false → Ok (f none) w Q)
    (hq1 : ∀ n b L' r, x = ((n : Nat) : Int) → A.isSem x = true → 1 ≤ n → n ≤ A.sems.length → SAt T S n r b L' → L'.take L.length = L → L'.length = S.sems.cap → L[n - 1]? = some r → r.excess = (A.sm n).1 → Rw T (Ob.ints (.sem (n - 1))) r.queue (ns (A.sm n).2) → Ok (f (some ⟨b, 2 * (n - 1), none⟩)) w Q) : Ok (bnd (f52_sem (some ⟨sb, 0, none⟩) x) f) w Q := by
  unfold f52_sem
  have hsl := I.slen
  have hll : S.sems.len = A.sems.length := by rw [I.sems.len, hsl]
  refine ok_bnd.2 (ok_bnd.2 ?_)
  have key : Ok (cnd (decide (x < (1 : Int))) (ret true) (bnd (drf (some ⟨sb, 0, none⟩)) fun (p1 : Addr) => bnd (ld .sl (Addr.add p1 3)) fun (v2 : Sl) => ret (decide (x > (v2.len : Int))))) w fun r w' => w' = w ∧ r = !A.isSem x := by
    by_cases h : x < 1
    · refine ok_true (by simpa using h) (ok_ret.2 ⟨rfl, ?_⟩)
      have : A.isSem x = false := isSem_not.2 (by omega)
      rw [this]; rfl
    · refine ok_false (by simpa using h) (ok_drfS (ok_tld C I.sch (x := S.sems) rfl (ok_ret.2 ⟨rfl, ?_⟩)))
      rw [hll]
      by_cases h2 : x > A.sems.length
      · have : A.isSem x = false := isSem_not.2 (by omega)
        rw [this]; simpa using h2
      · have : A.isSem x = true := isSem_iff.2 (by omega)
        rw [this]; simpa using h2
  refine ok_mono key ?_
  rintro r w' ⟨rfl, rfl⟩
  cases hx : A.isSem x with
  | false => exact ok_true rfl (ok_ret.2 (hq0 hx))
  | true =>
    have hi := isSem_iff.1 hx
    obtain ⟨n, rfl⟩ : ∃ n : Nat, x = n := ⟨x.toNat, by omega⟩
    obtain ⟨b, L', r, sat, g1, g2, g3, g4, g5⟩ := I.sat (n := n) (by omega) (by omega)
    refine ok_false rfl (ok_drfS (ok_tld C I.sch (x := S.sems) rfl ?_))
    have e : IntKind.wrap .i64 ((n : Int) - 1) = ((n - 1 : Nat) : Int) := by rw [wrapI]; omega
    rw [e]
    refine ok_ixN sat.a (by omega) (by have := sat.lt; omega) ?_
    rw [Int.toNat_natCast]
    exact ok_ret.2 (hq1 n b L' r rfl hx (by omega) (by omega) sat g1 g2 g3 g4 g5)
theorem row_hd {o : Ow} {q : Sl} {n : Int} {r : List Int} (hq : Rw T (Ob.ints o) q (n :: r)) : ∃ fb M, q.a = some ⟨fb, 0, none⟩ ∧ T fb = some (Ob.ints o M) ∧ rdv (.int .i64) (en (.ints o M)).toArray 0 = some n := by
  obtain ⟨fb, M, g1, g2, g3, g4⟩ := hq.blk (by simp)
  refine ⟨fb, M, g1, g2, ?_⟩
  have hg0 : M[0]? = some n := by
    have : (M.take (n :: r).length)[0]? = (n :: r)[0]? := by rw [g4]
    rw [List.getElem?_take_of_lt (by simp)] at this
    rw [this]; rfl
  exact flat_rdv (g := iV) (n := 1) (i := 0) (k := 0) (t := .int .i64) (x := n) (fun _ => rfl) hg0 (by decide) rfl
theorem signal0_spec (h : Th en w T) (I : SInv T sb S L A) (F : FitX A 0) (x : Int) : Sr (f65_signal (some ⟨sb, 0, none⟩) x) w T fun r _ T' => r = (A.signal0 x).1 ∧ ∃ S' L', SInv T' sb S' L' (A.signal0 x).2 := by
  unfold f65_signal
  have C := Tr.refl h
  have hf := F.few
  refine sem_spec C I hf.2.1 (fun hx => ?_) fun n b M r hn hx h1 h2 sat g1 g2 g3 g4 g5 => ?_
  · refine ok_true rfl (ok_ret.2 ⟨T, C, ?_⟩)
    unfold St.signal0
    rw [if_pos hx]
    exact ⟨rfl, S, L, I⟩
  subst hn
  refine ok_false rfl ?_
  have hsg0 : (A.sm n).2 = [] → A.signal0 (n : Int) = if (A.sm n).1 ≥ 1073741824 then (264, A) else (0, A.setSm n ((A.sm n).1 + 1, [])) := by
    intro h0
    unfold St.signal0
    rw [if_neg (by rw [hx]; simp), Int.toNat_natCast, h0]
  have hsg1 : ∀ q r, (A.sm n).2 = q :: r → A.signal0 (n : Int) = (0, (A.setSm n ((A.sm n).1, r)).ready q) := by
    intro q r h0
    unfold St.signal0
    rw [if_neg (by rw [hx]; simp), Int.toNat_natCast, h0]
  have hwl := F.wl (i := n) h1 h2
  have hex := F.exc n h1 h2
  refine ok_drfS ?_
  refine ok_sld C sat (x := r.queue) (by decide) (rdv_sl (by rfl)) ?_
  have hql : r.queue.len = (A.sm n).2.length := by rw [g5.len, ns_length]
  rcases hq : (A.sm n).2 with _ | ⟨q, rest⟩
  · have hsg := hsg0 hq
    rw [hq] at hql
    refine ok_bnd.2 (ok_false (by rw [hql]; rfl) ?_)
    refine ok_drfS ?_
    refine ok_sld C sat (x := r.excess) (by decide) rfl ?_
    rw [g4]
    by_cases hfull : (A.sm n).1 ≥ 1073741824
    · rw [if_pos hfull] at hsg
      refine ok_true (by simpa using hfull) (ok_ret.2 (ok_ret.2 ⟨T, C, ?_⟩))
      rw [hsg]; exact ⟨rfl, S, L, I⟩
    · rw [if_neg hfull] at hsg
      refine ok_false (by simpa using hfull) ?_
      refine ok_drfS ?_
      refine ok_sld C sat (x := r.excess) (by decide) rfl ?_
      refine ok_drfS ?_
      rw [g4, wI (by omega)]
      refine ok_swr C sat ⟨(A.sm n).1 + 1, r.queue⟩ (by show 0 + 1 ≤ 2; decide) rfl rfl fun w1 C1 => ?_
      refine ok_ret.2 (ok_ret.2 ⟨_, C1, ?_⟩)
      rw [hsg]
      refine ⟨rfl, S, _, I.setSm (T2 := T) (r' := ⟨(A.sm n).1 + 1, r.queue⟩) (l := []) h1 h2 sat g1 g2 (fun c o hc _ => hc) (by rw [← hq]; exact g5)⟩
  · have hsg := hsg1 q rest hq
    rw [hq] at hql g5 hwl
    simp only [List.length_cons] at hql hwl
    refine ok_bnd.2 (ok_true (by rw [hql]; simp only [gt_iff_lt, decide_eq_true_eq]; omega) ?_)
    obtain ⟨fb, M2, k1, k2, k3⟩ := row_hd (n := (q : Int)) (r := ns rest) g5
    refine ok_drfS ?_
    refine ok_sld C sat (x := r.queue) (by decide) (rdv_sl (by rfl)) ?_
    refine ok_ixN k1 (by decide) (by omega) ?_
    rw [show 1 * Int.toNat 0 = 0 from rfl]
    refine ok_tld0 C k2 (x := (q : Int)) k3 ?_
    refine ok_drfS ?_
    refine ok_sld C sat (x := r.queue) (by decide) (rdv_sl (by rfl)) ?_
    refine ok_slc1 (by omega) g5.le ?_
    refine ok_scall C (clone_spec C.th (l := ns rest) (src_tail (n := (q : Int)) (r := ns rest) C.th g5 ((Below.refl w.heap.size w).alloc (Nat.le_refl _) (.cells #[] 3))) (fun hn => by
      exfalso
      unfold cut at hn; rw [k1] at hn; split at hn <;> cases hn) (by rw [ns_length]; omega) (.sem (n - 1))) fun r4 w4 T4 C4 h4 => ?_
    obtain ⟨hr4, hT4⟩ := h4
    have sat4 := sat.ext (hT4 _ _ sat.at_)
    refine ok_drfS ?_
    refine ok_swr C4 sat4 ⟨r.excess, r4⟩ (by show 1 + 1 ≤ 2; decide) rfl rfl fun w5 C5 => ?_
    have I5 := I.setSm (T2 := T4) (r' := ⟨r.excess, r4⟩) (l := rest) h1 h2 sat g1 g2 (fun c o hc _ => hT4 _ _ hc) hr4
    have hw := F.wq n q h1 h2 (by rw [hq]; exact List.mem_cons_self)
    have hp := F.pr_ok hw.1 hw.2.1
    have hqq := F.ql (A.pr q).prio.toNat
    simp only at I5
    rw [g4] at C5 I5
    refine ok_scall C5 (ready_spec C5.th I5 hw.1 hw.2.1 hf.1 ⟨hp.1, hp.2.1⟩ (by show (A.queues (A.pr q).prio.toNat).length ≤ 4096; omega) rfl) fun _ w6 T6 C6 h6 => ?_
    refine ok_ret.2 (ok_ret.2 ⟨T6, C6, ?_⟩)
    rw [hsg]
    exact ⟨rfl, h6⟩
theorem signal_spec (h : Th en w T) (I : SInv T sb S L A) (F : FitX A 0) (x : Int) : Sr (f19_Signal (some ⟨sb, 0, none⟩) x) w T fun r _ T' => r = (A.signal x).1 ∧ ∃ S' L', SInv T' sb S' L' (A.signal x).2 := by
  unfold f19_Signal
  have C := Tr.refl h
  refine ok_scall C (signal0_spec C.th I F x) fun r w1 T1 C1 h1 => ?_
  obtain ⟨rfl, S1, L1, I1⟩ := h1
  refine ok_scall C1 (runs_spec C1.th I1 (F.signal0 x).rn) fun _ w2 T2 C2 h2 => ?_
  exact ok_ret.2 ⟨T2, C2, rfl, h2⟩
end
end Go.Proofs.YtkkdeljladihpaaGreat

/-
  The scheduler: slices.DeleteFunc of numbers.
-/
namespace Go.Proofs.YtkkdeljladihpaaGreat
open Go.Sh Go.RowKit
set_option maxRecDepth 100000
section
variable {w0 w : World} {T0 T : Hp} {sb : Nat} {S : Sk} {L : List Sm} {A : St} {α β : Type} {Q : α → World → Prop}
theorem ok_clear0 {a : Option Addr} {c : Nat} {f : Unit → M α} (hq : Ok (f ()) w Q) : Ok (bnd (runV Tryz.prog (.tup .unit) (Builtin.clear_ #[28] 0 #[.slice a 0 c])) f) w Q := by
  refine ok_bnd.2 (ok_runV (v := .tuple #[]) (w' := w) (x := ()) ?_ rfl hq)
  cases a <;> simp [Builtin.clear_, run_underlying row31.und]
theorem ok_clearI (C : Tr en w0 T0 w T) {b o n c : Nat} {O : Ow} {M : List Int} (hb : T b = some (.ints O M)) (hn : o + n ≤ M.length) (h0 : 0 < n) {f : Unit → Go.Sh.M α} (hq : ∀ w', Tr en w0 T0 w' (put T b (.ints O (M.take o ++ List.replicate n 0 ++ M.drop (o + n)))) → Ok (f ()) w' Q) :
    Ok (bnd (runV Tryz.prog (.tup .unit) (Builtin.clear_ #[28] 0 #[.slice (some ⟨b, o, none⟩) n c])) f) w Q := by
  have hB := C.th b _ hb
  have hlen : (en (.ints O M)).length = M.length := by show (M.flatMap iV).length = _; rw [flat_iV, List.length_map]
  obtain ⟨j, zv, i1, i2, i3, i4, i5⟩ := row31.inf
  have hz : ∀ w, (zeroValue 3).run Tryz.prog w = .ok zv w := fun w => by
    simp [zeroValue, typeInfo, i1, i3]
  have hzv : zv.cells = #[.int .i64 0] := i4
  have hz1 : zv = .int .i64 0 := by
    have h5 : (Tryz.prog.info? 3) = some Tryz.t3 := by kernel_rfl
    rw [h5, Option.some.injEq] at i1
    subst i1
    have : Tryz.t3.zero = some (.int .i64 0) := rfl
    rw [this, Option.some.injEq] at i3
    exact i3.symm
  subst hz1
  have hr := Lib.run_clear_slice (P := Tryz.prog) w 28 3 0 (.int .i64 0) row31.und hz rfl rfl b o n c h0
    (fun j hj => by rw [cell_blk hB.1, List.getElem?_toArray, List.getElem?_eq_getElem (by omega)]; rfl)
    (fun j hj => frozen_blk hB.1 (cln_fre hB.2) (by simp only [List.size_toArray]; omega))
  rw [setCells_setBlk _ _ _ _ hB.1, splice_spl _ _ _ (by simp; omega)] at hr
  have e1 : spl (en (.ints O M)) o (List.replicate n (.int .i64 0)) = en (.ints O (M.take o ++ List.replicate n 0 ++ M.drop (o + n))) := by
    show spl (M.flatMap iV) o _ = (_ : List Int).flatMap iV
    rw [flat_iV, flat_iV]
    simp [spl]
  rw [e1] at hr
  refine ok_bnd.2 (ok_runV hr rfl (hq _ (C.set hb _ ?_)))
  show ((_ : List Int).flatMap iV).length = (M.flatMap iV).length
  rw [flat_iV, flat_iV]
  simp; omega
theorem elt {o : Ow} {M : List Int} {i : Nat} {v : Int} (h : M[i]? = some v) : rdv (.int .i64) (en (.ints o M)).toArray (1 * i) = some v :=
  flat_rdv (g := iV) (n := 1) (i := i) (k := 0) (t := .int .i64) (x := v) (fun _ => rfl) h (by decide) rfl
theorem ok_wrE (C : Tr en w0 T0 w T) {b : Nat} {o : Ow} {M : List Int} (hb : T b = some (.ints o M)) {i : Nat} (hi : i < M.length) {v : Int} {f : Unit → Go.Sh.M α} (hq : ∀ w', Tr en w0 T0 w' (put T b (.ints o (M.set i v))) → Ok (f ()) w' Q) : Ok (bnd (wrs ⟨b, 1 * i, none⟩ 0 [.int .i64 v]) f) w Q := by
  refine ok_twr0 C (.ints o (M.set i v)) hb ?_ rfl ?_ hq
  · show _ ≤ (M.flatMap iV).length; rw [flat_iV, List.length_map]; simp; omega
  · exact flat_spl (g := iV) (n := 1) (k := 0) (fun _ => rfl) (List.getElem?_eq_getElem hi) (by show 0 + 1 ≤ 1; decide) rfl
theorem ok_cell (C : Tr en w0 T0 w T) {c : Nat} {n : Int} (hc : T c = some (.cell n)) {v : Int} {f : Bool → Go.Sh.M α} (hq : Ok (f (v == n)) w Q) : Ok (bnd (f88_out_1 v ⟨c, 0, none⟩) f) w Q := by
  unfold f88_out_1
  exact ok_bnd.2 (ok_tld0 C hc (x := n) rfl (ok_ret.2 hq))
theorem idx_spec (h : Th en w T) {o : Ow} {s : Sl} {l : List Int} (hr : Rw T (Ob.ints o) s l) {c : Nat} {n : Int} (hc : T c = some (.cell n)) (hl : l.length ≤ 1000000) :
    Sr (f104_slices_IndexFuncint_int s ⟨c, 0, none⟩) w T fun r _ T' => T' = T ∧ ((n ∉ l ∧ r = -1) ∨ ∃ k : Nat, r = k ∧ l[k]? = some n ∧ n ∉ l.take k) := by
  unfold f104_slices_IndexFuncint_int
  have hlen := hr.len
  refine ok_loopN (fun m (i' : Int) w' => ∃ i : Nat, i' = i ∧ i ≤ l.length ∧ m = l.length - i ∧ n ∉ l.take i ∧ Tr en w T w' T) ?_ l.length 0 w ⟨0, rfl, Nat.zero_le _, by omega, by simp, Tr.refl h⟩
  rintro m i' w' ⟨i, rfl, hi, rfl, hni, C⟩
  by_cases hlt : i < l.length
  · refine ok_true (by rw [hlen]; simpa using hlt) ?_
    obtain ⟨b, M, g1, g2, g3, g4⟩ := hr.blk (by omega)
    have hM : M[i]? = some l[i] := by rw [← List.getElem?_take_of_lt hlt, g4, List.getElem?_eq_getElem hlt]
    refine ok_ixN g1 (by omega) (by omega) ?_
    rw [Int.toNat_natCast]
    refine ok_tld0 C g2 (x := l[i]) (elt hM) ?_
    refine ok_cell C hc ?_
    by_cases hv : l[i] = n
    · refine ok_true (by simpa using hv) (ok_ret.2 ⟨T, C, rfl, .inr ⟨i, rfl, by rw [List.getElem?_eq_getElem hlt, hv], hni⟩⟩)
    · refine ok_false (by simpa using hv) (ok_ret.2 ⟨l.length - (i + 1), by omega, i + 1, by rw [wI (by omega)]; omega, hlt, rfl, ?_, C⟩)
      rw [List.take_succ_eq_append_getElem hlt]
      simp only [List.mem_append, List.mem_singleton, not_or]
      exact ⟨hni, fun e => hv e.symm⟩
  · refine ok_false (by rw [hlen]; simpa using hlt) (ok_ret.2 ⟨T, C, rfl, .inl ⟨?_, rfl⟩⟩)
    rw [List.take_of_length_le (by omega)] at hni
    exact hni
theorem del_spec (h : Th en w T) {o : Ow} {s : Sl} {l : List Int} (hr : Rw T (Ob.ints o) s l) {c : Nat} {n : Int} (hc : T c = some (.cell n)) (hl : l.length ≤ 1000000) :
    Sr (f89_slices_DeleteFuncint_int s ⟨c, 0, none⟩) w T fun r _ T' => Rw T' (Ob.ints o) r (l.filter (· ≠ n)) ∧ (∀ c p, T c = some p → (∀ l, p ≠ .ints o l) → T' c = some p) := by
  unfold f89_slices_DeleteFuncint_int
  have hlen := hr.len
  have hle := hr.le
  have C0 := Tr.refl h
  refine ok_scall C0 (idx_spec h hr hc hl) fun r1 w1 T1 C1 h1 => ?_
  obtain ⟨rfl, h1⟩ := h1
  rcases h1 with ⟨hn, rfl⟩ | ⟨k, rfl, hk, hnk⟩
  · refine ok_true rfl (ok_ret.2 ⟨T1, C1, ?_, fun _ _ h _ => h⟩)
    rw [List.filter_eq_self.2 (fun a ha => by simp only [decide_not, Bool.not_eq_eq_eq_not, Bool.not_true, decide_eq_false_iff_not]; rintro rfl; exact hn ha)]
    exact hr
  refine ok_false (by simp) ?_
  have hkl : k < l.length := by
    rcases Nat.lt_or_ge k l.length with h | h
    · exact h
    · rw [List.getElem?_eq_none h] at hk; cases hk
  obtain ⟨b, M, g1, g2, g3, g4⟩ := hr.blk (by omega)
  have hcb : c ≠ b := by rintro rfl; rw [g2] at hc; cases hc
  rw [wI (by omega)]
  refine ok_loopN (fun m (s : Int × Int) w' => ∃ i j : Nat, s = ((i : Int), (j : Int)) ∧ j ≤ l.length ∧ m = l.length - j ∧ i ≤ j ∧ ∃ M', Tr en w T1 w' (put T1 b (.ints o M')) ∧ M'.length = M.length ∧ M'.take i = (l.take j).filter (· ≠ n) ∧ M'.drop j = M.drop j) ?_ (l.length - (k + 1)) _ w1 ⟨k, k + 1, by simp, hkl, rfl, by omega, M, by rw [put_same g2]; exact C1, rfl, ?_, rfl⟩
  rotate_left
  · rw [List.take_succ_eq_append_getElem hkl, List.filter_append]
    have e1 : l[k] = n := by rw [List.getElem?_eq_getElem hkl] at hk; simpa using hk
    have e2 : [l[k]].filter (· ≠ n) = [] := by rw [e1]; simp
    have e3 : (l.take k).filter (· ≠ n) = l.take k := List.filter_eq_self.2 (fun a ha => by simp only [decide_not, Bool.not_eq_eq_eq_not, Bool.not_true, decide_eq_false_iff_not]; rintro rfl; exact hnk ha)
    rw [e2, e3, List.append_nil, ← g4, List.take_take, Nat.min_eq_left (by omega)]
  rintro m s' w' ⟨i, j, rfl, hj, rfl, hij, M', C, hM1, hM2, hM3⟩
  have hb' := put_eq T1 b (.ints o M')
  have hc' : put T1 b (.ints o M') c = some (.cell n) := by rw [put_ne _ hcb]; exact hc
  have hi : i = ((l.take j).filter (· ≠ n)).length := by rw [← hM2, List.length_take]; omega
  have hdd : ∀ X : List Int, X.drop (j + 1) = (X.drop j).drop 1 := fun X => by rw [List.drop_drop]
  dsimp only
  by_cases hlt : j < l.length
  · refine ok_true (by rw [hlen]; simpa using hlt) ?_
    have hMj : M'[j]? = some l[j] := by
      have e : (M'.drop j)[0]? = (M.drop j)[0]? := by rw [hM3]
      rw [List.getElem?_drop, List.getElem?_drop, Nat.add_zero] at e
      rw [e, ← List.getElem?_take_of_lt hlt, g4, List.getElem?_eq_getElem hlt]
    refine ok_ixN g1 (by omega) (by omega) ?_
    rw [Int.toNat_natCast]
    refine ok_tld0 C hb' (x := l[j]) (elt hMj) ?_
    refine ok_cell C hc' ?_
    refine ok_bnd.2 ?_
    by_cases hv : l[j] = n
    · refine ok_false (by simp [hv]) (ok_ret.2 (ok_ret.2 ⟨l.length - (j + 1), by omega, i, j + 1, ?_, hlt, rfl, by omega, M', C, hM1, ?_, ?_⟩))
      · rw [wI (by omega)]; simp
      · rw [List.take_succ_eq_append_getElem hlt, List.filter_append, hM2, hv]; simp
      · rw [hdd, hdd, hM3]
    · refine ok_true (by simp [hv]) ?_
      refine ok_ixN g1 (by omega) (by omega) ?_
      rw [Int.toNat_natCast]
      refine ok_wrE C hb' (by omega) fun w2 C2 => ?_
      rw [put_put] at C2
      refine ok_ret.2 (ok_ret.2 ⟨l.length - (j + 1), by omega, i + 1, j + 1, ?_, hlt, rfl, by omega, M'.set i l[j], C2, by rw [List.length_set]; exact hM1, ?_, ?_⟩)
      · rw [wI (by omega), wI (by omega)]; simp
      · have e1 : [l[j]].filter (· ≠ n) = [l[j]] := by simp [hv]
        rw [List.take_succ_eq_append_getElem hlt, List.filter_append, e1, ← hM2, List.take_succ_eq_append_getElem (by rw [List.length_set]; omega), List.getElem_set_self, List.take_set_of_le (Nat.le_refl _)]
      · rw [List.drop_set_of_lt (by omega), hdd, hdd, hM3]
  · refine ok_false (by rw [hlen]; simpa using hlt) ?_
    have hjl : j = l.length := by omega
    subst hjl
    rw [List.take_length] at hM2 hi
    have hlen2 : s.len ≤ M'.length := by omega
    refine ok_bnd.2 (ok_mono (Q := fun x w2 => ∃ T', Tr en w T1 w2 T' ∧ Rw T' (Ob.ints o) x (l.filter (· ≠ n)) ∧ (∀ c p, T1 c = some p → (∀ l, p ≠ .ints o l) → T' c = some p)) ?_ (fun x w2 h => ok_ret.2 h))
    refine ok_bnd.2 (ok_slc (by simp) (by show ((i : Int)) ≤ (s.len : Int); omega) (by show ((s.len : Int)) ≤ (s.cap : Int); omega) ?_)
    have e0 : ((some (i : Int)).getD 0).toNat = i := rfl
    have e00 : ((none : Option Int).getD (s.len : Int)).toNat = s.len := rfl
    rw [e0, e00]
    have fin : ∀ w' M2, Tr en w T1 w' (put T1 b (.ints o M2)) → M2.length = M.length → M2.take i = l.filter (· ≠ n) → Ok (bnd (slc 1 s none (some (i : Int)) none) fun (v10 : Sl) => ret v10) w' fun x w2 => ∃ T', Tr en w T1 w2 T' ∧ Rw T' (Ob.ints o) x (l.filter (· ≠ n)) ∧ (∀ c p, T1 c = some p → (∀ l, p ≠ .ints o l) → T' c = some p) := by
      intro w' M2 C2 hl2 ht2
      refine ok_bnd.2 (ok_slc (by simp) (by show (0 : Int) ≤ ((i : Int)); omega) (by show ((i : Int)) ≤ (s.cap : Int); omega) ?_)
      refine ok_ret.2 ⟨_, C2, ?_, fun c p hc hne => put_other hc g2 (hne _)⟩
      have e1 : cut s ((none : Option Int).getD 0).toNat ((some (i : Int)).getD (s.len : Int)).toNat = ⟨s.a, i, s.cap⟩ := by
        show cut s 0 i = _
        unfold cut
        rw [g1]
        by_cases hcap : s.cap = 0
        · rw [if_pos hcap]; simp
        · rw [if_neg hcap]; rfl
      rw [e1]
      refine ⟨hi, by show i ≤ s.cap; omega, hr.max, .inr ⟨b, M2, g1, put_eq _ _ _, by rw [hl2]; exact g3, ?_⟩⟩
      rw [← hi]; exact ht2
    by_cases hz : s.len - i = 0
    · have e1 : cut s i s.len = ⟨(cut s i s.len).a, 0, (cut s i s.len).cap⟩ := by unfold cut; simp only; rw [hz]
      rw [e1]
      exact ok_clear0 (fin w' M' C hM1 hM2)
    · have e1 : cut s i s.len = ⟨some ⟨b, i, none⟩, s.len - i, s.cap - i⟩ := by
        unfold cut
        rw [g1, if_neg (by omega), Option.map_some, Nat.mul_one, addr_add, Nat.zero_add]
      rw [e1]
      refine ok_clearI C hb' (by simp only; omega) (by simp only; omega) fun w2 C2 => ?_
      rw [put_put] at C2
      simp only at C2
      refine fin w2 _ C2 ?_ ?_
      · simp; omega
      · rw [List.append_assoc, List.take_append_of_le_length (by simp; omega), List.take_take, Nat.min_self, hM2]
end
end Go.Proofs.YtkkdeljladihpaaGreat

/-
  The scheduler: out.
-/
namespace Go.Proofs.YtkkdeljladihpaaGreat
open Go.Sh Go.RowKit
set_option maxRecDepth 100000
theorem ns_filter (l : List Nat) (n : Nat) : (ns l).filter (· ≠ (n : Int)) = ns (l.filter (· ≠ n)) := by
  unfold ns
  rw [List.filter_map]
  congr 1
  apply List.filter_congr
  intro a _
  simp only [Function.comp, ne_eq, decide_not]
  congr 1
  exact decide_eq_decide.2 Int.ofNat_inj
section
variable {w0 w : World} {T0 T : Hp} {sb : Nat} {S : Sk} {L : List Sm} {A : St} {α β : Type} {Q : α → World → Prop}
theorem out_spec (h : Th en w T) (I : SInv T sb S L A) (F : FitX A 0) {n : Nat} (h1 : 1 ≤ n) (h2 : n ≤ A.procs.length) {x : Int} (hx : x = n) : Sr (f67_out (some ⟨sb, 0, none⟩) x) w T fun _ _ T' => ∃ S' L', SInv T' sb S' L' (A.out n) ∧ S'.procs = S.procs := by
  unfold f67_out
  subst hx
  have hf := F.few
  have hpr := F.pr_ok h1 h2
  refine ok_tnew (Tr.refl h) (.cell (n : Int)) rfl fun c w1 hc C => ?_
  have I1 := I.ext (T' := put T c (.cell (n : Int))) fun b p hb => put_new hb hc
  have hc1 := put_eq T c (.cell (n : Int))
  generalize put T c (.cell (n : Int)) = T1 at C I1 hc1
  obtain ⟨b, M, at_, h4, h5⟩ := I1.pat h1 h2
  refine ok_tld0 C hc1 (x := (n : Int)) rfl ?_
  refine of_spec C I1.sch at_ h1 (by omega) rfl ?_
  refine ok_drfS ?_
  refine ok_pld C at_ (x := (A.pr n).standing) (by decide) rfl ?_
  unfold St.out
  by_cases hs1 : (A.pr n).standing = 1
  · rw [if_pos hs1]
    refine ok_bnd.2 (ok_true (by simpa using hs1) ?_)
    obtain ⟨pn, hpn⟩ : ∃ pn : Nat, (A.pr n).prio = pn := ⟨(A.pr n).prio.toNat, by omega⟩
    have hp17 : pn < 17 := by omega
    have hpt : (A.pr n).prio.toNat = pn := by omega
    rw [hpt]
    obtain ⟨q, hq1, hq2⟩ := I1.q hp17
    have hql := F.ql pn
    have hqs := I1.qlen
    simp only [bnd_as, bnd_ret]
    refine ok_tord C fun o w3 C => ?_
    refine ok_drfS ?_
    refine ok_pld C at_ (x := (A.pr n).prio) (by decide) rfl ?_
    refine ok_drfS ?_
    refine ok_pld C at_ (x := (A.pr n).prio) (by decide) rfl ?_
    refine ok_drfS ?_
    rw [addr_add]
    refine ok_qix hpn hp17 ?_
    rw [Nat.zero_add]
    refine ok_tld0 C I1.sch (x := q) (rd_queue hq1) ?_
    refine ok_drfS ?_
    refine ok_scall C (del_spec C.th hq2 hc1 (by rw [ns_length]; omega)) fun r w4 T4 C4 h4' => ?_
    obtain ⟨hr4, hT4⟩ := h4'
    have at4 := at_.ext (hT4 _ _ at_.at_ (by simp))
    refine ok_tchk C4 at4.at_ (flat_rdv (g := Pr.en) (t := .int .i64) (x := (A.pr n).prio) (fun _ => rfl) at4.get (by decide) rfl) ?_
    refine ok_tchk C4 at4.at_ (flat_rdv (g := Pr.en) (t := .int .i64) (x := (A.pr n).prio) (fun _ => rfl) at4.get (by decide) rfl) ?_
    rw [addr_add]
    refine ok_qix hpn hp17 ?_
    rw [Nat.zero_add]
    refine ok_wrQ C4 (hT4 _ _ I1.sch (by simp)) (by omega) r fun w6 C6 => ?_
    rw [ns_filter] at hr4
    exact ok_ret.2 (ok_ret.2 ⟨_, C6, _, _, I1.setQ hT4 hr4, rfl⟩)
  rw [if_neg hs1]
  refine ok_bnd.2 (ok_false (by simpa using hs1) ?_)
  by_cases hs3 : (A.pr n).standing = 3
  · rw [if_pos hs3]
    have hw := F.wtg n h1 h2 (by omega) hs3
    obtain ⟨i, hi⟩ : ∃ i : Nat, (A.pr n).sem = i := ⟨(A.pr n).sem.toNat, by omega⟩
    have hit : (A.pr n).sem.toNat = i := by omega
    rw [hit]
    obtain ⟨b2, L', r, sat, g1, g2, g3, g4, g5⟩ := I1.sat (n := i) (by omega) (by omega)
    have hwl := F.wl (i := i) (by omega) (by omega)
    have hsl := I1.slen
    have hll : S.sems.len = A.sems.length := by rw [I1.sems.len, hsl]
    refine ok_bnd.2 (ok_true (by simpa using hs3) ?_)
    refine ok_tdraw C fun w2 C => ?_
    refine ok_drfS ?_
    refine ok_tld C I1.sch (x := S.sems) rfl ?_
    refine ok_drfS ?_
    refine ok_pld C at_ (x := (A.pr n).sem) (by decide) rfl ?_
    have e : IntKind.wrap .i64 ((A.pr n).sem - 1) = ((i - 1 : Nat) : Int) := by rw [wrapI]; omega
    rw [e]
    refine ok_ixN sat.a (by omega) (by have := sat.lt; omega) ?_
    rw [Int.toNat_natCast]
    refine ok_sld C sat (x := r.queue) (by decide) (rdv_sl (by rfl)) ?_
    refine ok_scall C (del_spec C.th g5 hc1 (by rw [ns_length]; omega)) fun r4 w4 T4 C4 h4' => ?_
    obtain ⟨hr4, hT4⟩ := h4'
    rw [ns_filter] at hr4
    have sat4 := sat.ext (hT4 _ _ sat.at_ (by simp))
    refine ok_swr C4 sat4 ⟨r.excess, r4⟩ (by show 1 + 1 ≤ 2; decide) rfl rfl fun w5 C5 => ?_
    have I5 := I1.setSm (r' := ⟨r.excess, r4⟩) (by omega) (by omega) sat g1 g2 hT4 hr4
    simp only at I5
    rw [g4] at C5 I5
    obtain ⟨b6, M6, at6, h46, h56⟩ := I5.pat h1 (by exact h2)
    have e6 : b6 = b := by
      have e1 := at6.a
      rw [at_.a] at e1
      simp only [Option.some.injEq, Addr.mk.injEq, and_true] at e1
      exact e1.symm
    subst e6
    refine ok_drfS ?_
    refine ok_pwr C5 at6 { A.pr n with sem := 0 } (by show 2 + 1 ≤ 3; decide) rfl rfl fun w6 C6 => ?_
    exact ok_ret.2 (ok_ret.2 (ok_ret.2 ⟨_, C6, _, _, I5.setPr at6 h46 h56 { A.pr n with sem := 0 }, rfl⟩))
  rw [if_neg hs3]
  refine ok_bnd.2 (ok_false (by simpa using hs3) ?_)
  by_cases hs2 : (A.pr n).standing = 2
  · rw [if_pos hs2]
    refine ok_bnd.2 (ok_true (by simpa using hs2) ?_)
    refine ok_drfS ?_
    refine ok_active C I1 (n := 0) rfl fun w2 C2 => ?_
    exact ok_ret.2 (ok_ret.2 (ok_ret.2 (ok_ret.2 ⟨_, C2, _, _, I1.on 0, rfl⟩)))
  · rw [if_neg hs2]
    exact ok_bnd.2 (ok_false (by simpa using hs2) (ok_ret.2 (ok_ret.2 (ok_ret.2 (ok_ret.2 ⟨_, C, _, _, I1, rfl⟩)))))
end
end Go.Proofs.YtkkdeljladihpaaGreat
