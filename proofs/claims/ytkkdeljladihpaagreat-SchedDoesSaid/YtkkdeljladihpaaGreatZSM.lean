/-
  Parts of the proof: ZSI, ZSJ, ZSK, ZSL, ZSM. It states what the functions do; no further condition.
-/
import Derived.Test.YtkkdeljladihpaaGreatZSH
import Derived.Test.YtkkdeljladihpaaGreatShM
set_option linter.unusedVariables false
set_option linter.unusedSimpArgs false
/-
  The scheduler: small steps on its memory.
-/
namespace Go.Proofs.YtkkdeljladihpaaGreat
open Go.Sh Go.RowKit
set_option maxRecDepth 100000
section
variable {w0 w : World} {T0 T : Hp} {sb : Nat} {S : Sk} {L : List Sm} {A : St} {α β : Type} {Q : α → World → Prop}
theorem SInv.ext (I : SInv T sb S L A) {T' : Hp} (h : ∀ b p, T b = some p → T' b = some p) : SInv T' sb S L A :=
  { I with sch := h _ _ I.sch, procs := I.procs.mono fun _ _ _ hc => h _ _ hc, sems := I.sems.mono fun _ _ _ hc => h _ _ hc, sem := fun i s r hs hr => ⟨(I.sem i s r hs hr).1, (I.sem i s r hs hr).2.mono fun _ _ _ hc => h _ _ hc⟩, queue := fun p q hq => (I.queue p q hq).mono fun _ _ _ hc => h _ _ hc, timers := I.timers.mono fun _ _ _ hc => h _ _ hc }
theorem PAt.ext {n b : Nat} {r : Pr} {L' : List Pr} (h : PAt T S n r b L') {T' : Hp} (hT : T' b = some (.procs L')) : PAt T' S n r b L' := ⟨h.a, hT, h.get, h.lt⟩
theorem ns_length (l : List Nat) : (ns l).length = l.length := by simp [ns]
theorem ns_append (l m : List Nat) : ns (l ++ m) = ns l ++ ns m := by simp [ns]
theorem flat_iV (l : List Int) : l.flatMap iV = l.map (Value.int .i64) := by
  induction l with
  | nil => rfl
  | cons n l ih => rw [List.flatMap_cons, ih]; rfl
theorem ok_appI (C : Tr en w0 T0 w T) {o : Ow} {s : Sl} {l ys : List Int} (hr : Rw T (Ob.ints o) s l) {x : Value} {k : Nat} (K : Src Tryz.prog 1 28 x k (ys.flatMap iV) w) (hl : l.length + ys.length ≤ 1000000000) {f : Sl → M α}
    (hq : ∀ r w' T', Tr en w0 T0 w' T' → Rw T' (Ob.ints o) r (l ++ ys) → (∀ c p, T c = some p → (∀ l, p ≠ .ints o l) → T' c = some p) → Ok (f r) w' Q) : Ok (bnd (runV Tryz.prog .sl (Builtin.append_ #[28, 28] 28 #[.slice s.a s.len s.cap, x])) f) w Q := by
  have hml : maxLen = 9223372036854775807 := by decide
  refine ok_appR C row31 (mk := Ob.ints o) (fun _ => rfl) hr K (by omega) (by omega) fun r w' T' C' hr' hT => hq r w' T' C' hr' ?_
  intro c p hc hne
  rcases hT with ⟨rfl, _, _⟩ | ⟨fb, M, rfl, hra, hfb⟩
  · exact hc
  rcases hfb with h0 | ⟨_, M0, hM⟩
  · exact put_new hc h0
  · exact put_other hc hM (hne _)
theorem ok_oneI (C : Tr en w0 T0 w T) (o : Ow) {n : Int} {f : Sl → M α} (hq : ∀ b w', T b = none → Tr en w0 T0 w' (put T b (.ints o [n])) → Rw (put T b (.ints o [n])) (Ob.ints o) ⟨some ⟨b, 0, none⟩, 1, 1⟩ [n] → Ok (f ⟨some ⟨b, 0, none⟩, 1, 1⟩) w' Q) : Ok (bnd (runV Tryz.prog .sl (Instr.buildSlice 28 1 #[(0, .int .i64 n)])) f) w Q := by
  refine ok_bnd.2 (ok_build1R row31 (by decide) (F := n) (v := .int .i64 n) rfl ?_)
  exact hq _ _ C.none_at (C.alloc (.ints o [n]) 3) ⟨rfl, Nat.le_refl _, by show 1 ≤ maxLen; decide, .inr ⟨_, [n], rfl, put_eq _ _ _, rfl, rfl⟩⟩
theorem srcI (h : Th en w T) {o : Ow} {s : Sl} {l : List Int} (hr : Rw T (Ob.ints o) s l) : Src Tryz.prog 1 28 (.slice s.a s.len s.cap) l.length (l.flatMap iV) w := Rw.src row31 (en := en) (mk := Ob.ints o) (fun _ => rfl) h hr
theorem ok_wrQ (C : Tr en w0 T0 w T) (hs : T sb = some (.sch S)) {p : Nat} (hp : p < S.queues.length) (q' : Sl) {f : Unit → M α} (hq : ∀ w', Tr en w0 T0 w' (put T sb (.sch { S with queues := S.queues.set p q' })) → Ok (f ()) w' Q) : Ok (bnd (wrs ⟨sb, 4 + p, none⟩ 0 [.slice q'.a q'.len q'.cap]) f) w Q :=
  ok_twr0 C (.sch { S with queues := S.queues.set p q' }) hs (by rw [sch_len]; simp; omega) rfl (spl_queue hp q') hq
theorem src_tail (h : Th en w T) {o : Ow} {q : Sl} {n : Int} {r : List Int} (hq : Rw T (Ob.ints o) q (n :: r)) {w' : World} (hb : Below w.heap.size w w') : Src Tryz.prog 1 28 (.slice (cut q 1 q.len).a (cut q 1 q.len).len (cut q 1 q.len).cap) r.length (r.flatMap iV) w' := by
  obtain ⟨b, M, g1, g2, g3, g4⟩ := hq.blk (by simp)
  have hlen := hq.len
  have hle := hq.le
  simp only [List.length_cons] at hlen g4
  have e1 : (cut q 1 q.len).len = r.length := by simp only [cut]; omega
  rw [e1]
  obtain ⟨a, ha⟩ : ∃ a, (cut q 1 q.len).a = some a := by
    unfold cut; rw [g1]; split
    · exact ⟨_, rfl⟩
    · exact ⟨_, rfl⟩
  rw [ha]
  refine Src.ofSlice w' row31.und a r.length _ _ (by rw [flat_length row31.len]; omega) (fun j u hj => ?_) (flat_one' row31.one)
  rw [flat_iV, List.getElem?_map] at hj
  have hjl : j < r.length := by
    rcases Nat.lt_or_ge j r.length with h | h
    · exact h
    · rw [List.getElem?_eq_none h] at hj; cases hj
  have ha2 : a = ⟨b, 1, none⟩ := by
    unfold cut at ha
    rw [g1] at ha
    simp only at ha
    rw [if_neg (by omega)] at ha
    simp only [Option.map_some, Option.some.injEq] at ha
    rw [← ha]; rfl
  subst ha2
  have hbl := h b _ g2
  rw [addr_add, cell_blk (c := (en (.ints o M)).toArray) (by rw [Go.Sh.Below.blk hb (h.lt g2)]; exact hbl.1)]
  rw [List.getElem?_toArray]
  show (M.flatMap iV)[1 + j]? = _
  rw [flat_iV, List.getElem?_map, ← hj]
  have : (M.take (r.length + 1))[1 + j]? = (n :: r)[1 + j]? := by rw [g4]
  rw [List.getElem?_take_of_lt (by omega)] at this
  rw [this, Nat.add_comm, List.getElem?_cons_succ]
theorem ok_slc1 {q : Sl} {f : Sl → M α} (h1 : 1 ≤ q.len) (h2 : q.len ≤ q.cap) (hq : Ok (f (cut q 1 q.len)) w Q) : Ok (bnd (slc 1 q (some (1 : Int)) none none) f) w Q := by
  refine ok_bnd.2 (ok_slc (by decide) (by show (1 : Int) ≤ (q.len : Int); omega) (by show (q.len : Int) ≤ (q.cap : Int); omega) ?_)
  exact hq
/-- A process's standing turned. -/
theorem ok_stand (C : Tr en w0 T0 w T) (I : SInv T sb S L A) {n b : Nat} {r : Pr} {L' : List Pr} (at_ : PAt T S n r b L') (h4 : L'.take A.procs.length = A.procs) (h3 : L'.length = S.procs.cap) (s : Int) {f : Unit → M α}
    (hq : ∀ w' T' L'', Tr en w0 T0 w' T' → SInv T' sb S L (A.setPr n { r with standing := s }) → PAt T' S n { r with standing := s } b L'' → L''.take A.procs.length = (A.setPr n { r with standing := s }).procs → L''.length = S.procs.cap → Ok (f ()) w' Q) : Ok (bnd (wrs (Addr.add ⟨b, 3 * (n - 1), none⟩ 1) 0 [.int .u8 s]) f) w Q := by
  refine ok_pwr C at_ { r with standing := s } (by show 1 + 1 ≤ 3; decide) rfl rfl fun w1 C1 => ?_
  have hlt : n - 1 < L'.length := by
    rcases Nat.lt_or_ge (n - 1) L'.length with h | h
    · exact h
    · have := at_.get; rw [List.getElem?_eq_none h] at this; cases this
  refine hq _ _ _ C1 (I.setPr at_ h4 h3 _) ⟨at_.a, put_eq _ _ _, List.getElem?_set_self hlt, at_.lt⟩ ?_ (by rw [List.length_set]; exact h3)
  rw [List.take_set, h4]; rfl
end
end Go.Proofs.YtkkdeljladihpaaGreat

/-
  The scheduler: runs.
-/
namespace Go.Proofs.YtkkdeljladihpaaGreat
open Go.Sh Go.RowKit
set_option maxRecDepth 100000
theorem highN_spec (q : Nat → List Nat) : ∀ k, St.highN q k ≤ k ∧ (0 < St.highN q k → q (St.highN q k) ≠ [])
  | 0 => ⟨Nat.le_refl _, fun h => absurd h (Nat.lt_irrefl _)⟩
  | k + 1 => by
    unfold St.highN
    split
    · exact ⟨Nat.le_succ_of_le (highN_spec q k).1, (highN_spec q k).2⟩
    · rename_i h; exact ⟨Nat.le_refl _, fun _ => h⟩
/-- What `runs` needs. -/
structure Rn (A : St) : Prop where
  np : A.procs.length ≤ 4096
  act : A.active ≤ A.procs.length
  prio : 0 < A.active → 1 ≤ (A.pr A.active).prio ∧ (A.pr A.active).prio ≤ 16
  que : ∀ p n, n ∈ A.queues p → 1 ≤ n ∧ n ≤ A.procs.length
  qlen : ∀ p, (A.queues p).length ≤ 5000
section
variable {w0 w : World} {T0 T : Hp} {sb : Nat} {S : Sk} {L : List Sm} {A : St} {α β : Type} {Q : α → World → Prop}
theorem runs_spec (h : Th en w T) (I : SInv T sb S L A) (F : Rn A) : Sr (f62_runs (some ⟨sb, 0, none⟩)) w T fun _ _ T' => ∃ S' L', SInv T' sb S' L' A.runs := by
  have hml : maxLen = 9223372036854775807 := by decide
  unfold f62_runs
  have C := Tr.refl h
  have hnp := F.np
  have hact := F.act
  have hh := highN_spec A.queues 16
  refine ok_scall C (highest_spec h I) fun r1 w1 T1 C1 h1 => ?_
  obtain ⟨rfl, rfl⟩ := h1
  replace C := C1; clear C1
  refine ok_drfS ?_
  refine ok_tld C I.sch (x := S.active) rfl ?_
  rw [I.active]
  refine ok_bnd.2 (ok_mono (Q := fun r w2 => (r = .inr () ∧ ∃ T', Tr en w T1 w2 T' ∧ SInv T' sb S L A ∧ A.runs = A) ∨ (r = .inl () ∧ ∃ T2 S2 B, Tr en w T1 w2 T2 ∧ SInv T2 sb S2 L B ∧ A.runs = (if 0 < A.highest then B.takes A.highest else B) ∧ B.procs.length = A.procs.length ∧ (0 < A.highest → B.queues A.highest = A.queues A.highest))) ?_ ?_)
  · by_cases ha : 0 < A.active
    · refine ok_true (by simp only [gt_iff_lt, decide_eq_true_eq]; omega) ?_
      obtain ⟨b, M, at_, h4, h5⟩ := I.pat ha hact
      have hpr := F.prio ha
      refine ok_drfS ?_
      refine ok_tld C I.sch (x := S.active) rfl ?_
      rw [I.active]
      refine of_spec C I.sch at_ ha (by omega) rfl ?_
      refine ok_drfS ?_
      refine ok_pld C at_ (x := (A.pr A.active).prio) (by decide) rfl ?_
      by_cases hle : (A.highest : Int) ≤ (A.pr A.active).prio
      · refine ok_true (by simpa using hle) (ok_ret.2 (.inl ⟨rfl, T1, C, I, ?_⟩))
        unfold St.runs
        rw [if_pos ha, if_pos hle]
      refine ok_false (by simpa using hle) ?_
      refine ok_drfS ?_
      refine ok_stand C I at_ h4 h5 1 fun w2 T2 M2 C2 I2 at2 h42 h52 => ?_
      obtain ⟨pn, hpn⟩ : ∃ pn : Nat, (A.pr A.active).prio = pn := ⟨(A.pr A.active).prio.toNat, by omega⟩
      have hp17 : pn < 17 := by omega
      have hpt : (A.pr A.active).prio.toNat = pn := by omega
      obtain ⟨q, hq1, hq2⟩ := I2.q hp17
      have hqa : (A.setPr A.active { A.pr A.active with standing := 1 }).queues pn = A.queues pn := rfl
      rw [hqa] at hq2
      have hql := F.qlen pn
      have hqs := I.qlen
      simp only [bnd_as, bnd_ret]
      refine ok_tord C2 fun o w3 C => ?_
      refine ok_drfS ?_
      refine ok_pld C at2 (x := (A.pr A.active).prio) (by decide) rfl ?_
      refine ok_drfS ?_
      refine ok_tld C I2.sch (x := S.active) rfl ?_
      rw [I.active]
      refine ok_drfS ?_
      refine ok_pld C at2 (x := (A.pr A.active).prio) (by decide) rfl ?_
      refine ok_drfS ?_
      rw [addr_add]
      refine ok_qix hpn hp17 ?_
      rw [Nat.zero_add]
      refine ok_tld0 C I2.sch (x := q) (rd_queue hq1) ?_
      refine ok_drfS ?_
      refine ok_oneI C (.queue pn) fun b1 w4 hb1 C4 hr4 => ?_
      have I4 := I2.ext (T' := put T2 b1 (.ints (.queue pn) [(A.active : Int)])) fun c p hc => put_new hc hb1
      have at4 := at2.ext (T' := put T2 b1 (.ints (.queue pn) [(A.active : Int)])) (put_new at2.at_ hb1)
      have hq4 := hq2.mono (T' := put T2 b1 (.ints (.queue pn) [(A.active : Int)])) fun c l _ hc => put_new hc hb1
      refine ok_bnd.2 (ok_chk (C4.th _ _ I4.sch).1 (rd_queue hq1) ?_)
      refine ok_tchk C4 at4.at_ (flat_rdv (g := Pr.en) (t := .int .i64) (x := (A.pr A.active).prio) (fun _ => rfl) at4.get (by decide) rfl) ?_
      refine ok_tchk C4 at4.at_ (flat_rdv (g := Pr.en) (t := .int .i64) (x := (A.pr A.active).prio) (fun _ => rfl) at4.get (by decide) rfl) ?_
      refine ok_appI C4 hr4 (srcI C4.th hq4) (by rw [ns_length]; simp; omega) fun q' w5 T5 C5 hq5 hT => ?_
      have at5 := at4.ext (hT _ _ at4.at_ (by simp))
      refine ok_tchk C5 at5.at_ (flat_rdv (g := Pr.en) (t := .int .i64) (x := (A.pr A.active).prio) (fun _ => rfl) at5.get (by decide) rfl) ?_
      refine ok_tchk C5 at5.at_ (flat_rdv (g := Pr.en) (t := .int .i64) (x := (A.pr A.active).prio) (fun _ => rfl) at5.get (by decide) rfl) ?_
      rw [addr_add]
      refine ok_qix hpn hp17 ?_
      rw [Nat.zero_add]
      refine ok_wrQ C5 (hT _ _ I4.sch (by simp)) (by omega) q' fun w6 C6 => ?_
      have I6 := I4.setQ (l := A.active :: A.queues pn) hT hq5
      refine ok_drfS ?_
      refine ok_active C6 I6 (n := 0) rfl fun w7 C7 => ?_
      refine ok_ret.2 (.inr ⟨rfl, _, _, _, C7, I6.on 0, ?_, ?_, fun h0 => ?_⟩)
      · unfold St.runs
        rw [if_pos ha, if_neg hle]
        have e : ((A.setPr A.active { A.pr A.active with standing := 1 }).setQ pn (A.active :: A.queues pn)).on 0 = A.yields := by unfold St.yields; rw [hpt]
        rw [e]
      · show (A.procs.set _ _).length = _; rw [List.length_set]
      · show (if A.highest = pn then _ else A.queues A.highest) = _
        rw [if_neg (by omega)]
    · refine ok_false (by simp only [gt_iff_lt, decide_eq_false_iff_not]; omega) (ok_ret.2 (.inr ⟨rfl, T1, S, A, C, I, ?_, rfl, fun _ => rfl⟩))
      unfold St.runs
      rw [if_neg ha]
  · rintro r w2 (⟨rfl, T', C', I', e'⟩ | ⟨rfl, T2, S2, B, C2, I2, e2, hBl, hBq⟩)
    · exact ok_ret.2 ⟨T', C', S, L, by rw [e']; exact I'⟩
    · dsimp only
      by_cases h0 : 0 < A.highest
      · refine ok_bnd.2 (ok_true (by simp only [gt_iff_lt, decide_eq_true_eq]; omega) ?_)
        rw [e2, if_pos h0]
        obtain ⟨n, r, hnr⟩ : ∃ n r, A.queues A.highest = n :: r := by
          cases e : A.queues A.highest with
          | nil => exact absurd e (hh.2 h0)
          | cons n r => exact ⟨n, r, rfl⟩
        have hBq' := hBq h0
        rw [hnr] at hBq'
        have hn := F.que A.highest n (by rw [hnr]; exact List.mem_cons_self)
        have hrl := F.qlen A.highest
        rw [hnr, List.length_cons] at hrl
        have hp17 : A.highest < 17 := by have := hh.1; unfold St.highest; omega
        obtain ⟨q, hq1, hq2⟩ := I2.q hp17
        rw [hBq'] at hq2
        have hqb := hq2.blk (by simp [ns])
        obtain ⟨fb, M, g1, g2, g3, g4⟩ := hqb
        have hql : q.len = r.length + 1 := by rw [hq2.len]; simp [ns]
        have hqs := I2.qlen
        have hg0 : M[0]? = some (n : Int) := by
          have : (M.take (ns (n :: r)).length)[0]? = (ns (n :: r))[0]? := by rw [g4]
          rw [List.getElem?_take_of_lt (by simp [ns])] at this
          rw [this]; rfl
        have hx0 : rdv (.int .i64) (en (.ints (.queue A.highest) M)).toArray 0 = some (n : Int) := by
          have := flat_rdv (g := iV) (n := 1) (k := 0) (t := .int .i64) (x := (n : Int)) (fun _ => rfl) hg0 (by decide) rfl
          exact this
        refine ok_bnd.2 ?_
        simp only [bnd_as, bnd_ret]
        refine ok_tord C2 fun o w3 C => ?_
        refine ok_drfS ?_
        rw [addr_add]
        refine ok_qix rfl hp17 ?_
        rw [Nat.zero_add]
        refine ok_tld0 C I2.sch (x := q) (rd_queue hq1) ?_
        refine ok_ixN g1 (by decide) (by omega) ?_
        rw [show 1 * Int.toNat 0 = 0 from rfl]
        refine ok_tld0 C g2 (x := (n : Int)) hx0 ?_
        refine ok_drfS ?_
        refine ok_qix rfl hp17 ?_
        rw [Nat.zero_add]
        refine ok_tld0 C I2.sch (x := q) (rd_queue hq1) ?_
        refine ok_slc1 (by omega) hq2.le ?_
        refine ok_drfS ?_
        refine ok_scall C (clone_spec C.th (l := ns r) (src_tail (n := (n : Int)) (r := ns r) C.th hq2 ((Below.refl w3.heap.size w3).alloc (Nat.le_refl _) (.cells #[] 3))) (fun hn => by
          exfalso
          unfold cut at hn; rw [g1] at hn; split at hn <;> cases hn) (by rw [ns_length]; omega) (.queue A.highest)) fun r4 w4 T4 C4 h4 => ?_
        obtain ⟨hr4, hT4⟩ := h4
        have I4 := I2.ext hT4
        refine ok_bnd.2 (ok_chk (C4.th _ _ I4.sch).1 (rd_queue hq1) ?_)
        refine ok_bnd.2 (ok_chk (C4.th _ _ (hT4 _ _ g2)).1 hx0 ?_)
        refine ok_bnd.2 (ok_chk (C4.th _ _ I4.sch).1 (rd_queue hq1) ?_)
        refine ok_drfS ?_
        refine ok_active C4 I4 (n := n) rfl fun w5 C5 => ?_
        have I5 := I4.on n
        refine ok_qix rfl hp17 ?_
        rw [Nat.zero_add]
        have hr5 : Rw (put T4 sb (.sch { S2 with active := (n : Int) })) (Ob.ints (.queue A.highest)) r4 (ns r) := hr4.mono fun c l _ hc => put_other hc I4.sch (by simp)
        refine ok_wrQ C5 I5.sch (by show _ < S2.queues.length; omega) r4 fun w6 C6 => ?_
        have I6 := I5.setQ (p := A.highest) (l := r) (fun c o hc _ => hc) hr5
        refine ok_ret.2 ?_
        refine ok_drfS ?_
        refine ok_tld C6 I6.sch (x := (n : Int)) rfl ?_
        obtain ⟨b, M7, at7, h47, h57⟩ := I6.pat (n := n) hn.1 (by show _ ≤ B.procs.length; omega)
        refine of_spec C6 I6.sch at7 hn.1 (by omega) rfl ?_
        refine ok_drfS ?_
        refine ok_stand C6 I6 at7 h47 h57 2 fun w8 T8 M8 C8 I8 at8 h48 h58 => ?_
        have e : B.takes A.highest = ((B.setQ A.highest r).on n).setPr n { B.pr n with standing := 2 } := by unfold St.takes; rw [hBq']
        exact ok_ret.2 (ok_ret.2 ⟨T8, C8, by rw [e]; exact ⟨_, _, I8⟩⟩)
      · refine ok_bnd.2 (ok_false (by simp only [gt_iff_lt, decide_eq_false_iff_not]; omega) (ok_ret.2 (ok_ret.2 ⟨T2, C2, S2, L, ?_⟩)))
        rw [e2, if_neg h0]
        exact I2
end
end Go.Proofs.YtkkdeljladihpaaGreat

/-
  The scheduler's state: what is so of it stays so. No program in sight.
-/
namespace Go.Proofs.YtkkdeljladihpaaGreat
namespace St
theorem pr_setPr {A : St} {n m : Nat} {r : Pr} (h1 : 1 ≤ n) (h2 : n ≤ A.procs.length) (hm : 1 ≤ m) : (A.setPr n r).pr m = if m = n then r else A.pr m := by
  unfold pr setPr
  simp only
  rw [List.getD_eq_getElem?_getD, List.getD_eq_getElem?_getD]
  by_cases e : m = n
  · subst e
    rw [if_pos rfl, List.getElem?_set_self (by omega)]; rfl
  · rw [if_neg e, List.getElem?_set_ne (by omega)]
theorem pr_setPr_ne {A : St} {n m : Nat} {r : Pr} (h1 : 1 ≤ n) (hm : 1 ≤ m) (e : m ≠ n) : (A.setPr n r).pr m = A.pr m := by
  unfold pr setPr
  simp only
  rw [List.getD_eq_getElem?_getD, List.getD_eq_getElem?_getD, List.getElem?_set_ne (by omega)]
theorem pr_setPr_eq {A : St} {n : Nat} {r : Pr} (h1 : 1 ≤ n) (h2 : n ≤ A.procs.length) : (A.setPr n r).pr n = r := by rw [pr_setPr h1 h2 h1, if_pos rfl]
theorem sm_setSm {A : St} {n m : Nat} {r : Int × List Nat} (h1 : 1 ≤ n) (h2 : n ≤ A.sems.length) (hm : 1 ≤ m) : (A.setSm n r).sm m = if m = n then r else A.sm m := by
  unfold sm setSm
  simp only
  rw [List.getD_eq_getElem?_getD, List.getD_eq_getElem?_getD]
  by_cases e : m = n
  · subst e
    rw [if_pos rfl, List.getElem?_set_self (by omega)]; rfl
  · rw [if_neg e, List.getElem?_set_ne (by omega)]
theorem setPr_len (A : St) (n : Nat) (r : Pr) : (A.setPr n r).procs.length = A.procs.length := List.length_set
theorem setSm_len (A : St) (n : Nat) (r : Int × List Nat) : (A.setSm n r).sems.length = A.sems.length := List.length_set
theorem q_setQ (A : St) (p : Nat) (l : List Nat) (x : Nat) : (A.setQ p l).queues x = if x = p then l else A.queues x := rfl
theorem pr_mem {A : St} {n : Nat} (h1 : 1 ≤ n) (h2 : n ≤ A.procs.length) : A.pr n ∈ A.procs := by
  unfold pr
  rw [List.getD_eq_getElem?_getD, List.getElem?_eq_getElem (by omega)]
  exact List.getElem_mem _
end St
open St
variable {A : St} {x : Nat}
theorem FitX.setPr (F : FitX A x) (h1 : 1 ≤ x) (h2 : x ≤ A.procs.length) {r : Pr} (hr : 1 ≤ r.prio ∧ r.prio ≤ 16 ∧ 0 ≤ r.standing ∧ r.standing ≤ 5) : FitX (A.setPr x r) x := by
  have e : ∀ m, 1 ≤ m → m ≠ x → (A.setPr x r).pr m = A.pr m := fun m hm hne => pr_setPr_ne h1 hm hne
  have el : (A.setPr x r).procs.length = A.procs.length := setPr_len _ _ _
  refine ⟨?_, ?_, ?_, F.nodup, ?_, ?_, ?_, ?_, ?_, F.wnd, F.exc, F.tms, F.evs, ?_⟩
  · rcases F.act with h | ⟨ha, hb, hc⟩
    · exact .inl h
    · by_cases h0 : A.active = 0
      · exact .inl h0
      · refine .inr ⟨by rw [el]; exact ha, ?_, hc⟩
        show ((A.setPr x r).pr A.active).standing = 2
        rw [e _ (by omega) hc]; exact hb
  · intro p hp
    rcases List.mem_or_eq_of_mem_set hp with hp | rfl
    · exact F.prio p hp
    · exact hr
  · intro p n hn
    have := F.que p n hn
    rw [el, e n this.1 this.2.2.2.2]; exact this
  · intro n g1 g2 g3 g4
    rw [el] at g2
    rw [e n g1 g3] at g4 ⊢
    exact F.inq n g1 g2 g3 g4
  · intro n g1 g2 g3 g4
    rw [el] at g2
    rw [e n g1 g3] at g4
    exact F.only n g1 g2 g3 g4
  · intro n g1 g2 g3 g4
    rw [el] at g2
    rw [e n g1 g3] at g4 ⊢
    exact F.wtg n g1 g2 g3 g4
  · intro n g1 g2 g3 g4
    rw [el] at g2
    rw [e n g1 g3] at g4 ⊢
    exact F.nwt n g1 g2 g3 g4
  · intro i n g1 g2 g3
    have := F.wq i n g1 g2 g3
    rw [el, e n this.1 this.2.2.2.2]; exact this
  · rw [el]; exact F.few
/-- One that stands nowhere. -/
theorem FitX.nowhere (F : FitX A x) (h : 1 ≤ x → x ≤ A.procs.length → (A.pr x).standing ≠ 1 ∧ (A.pr x).standing ≠ 2 ∧ (A.pr x).standing ≠ 3 ∧ (A.pr x).sem = 0) : FitX A 0 := by
  refine ⟨?_, F.prio, ?_, F.nodup, ?_, ?_, ?_, ?_, ?_, F.wnd, F.exc, F.tms, F.evs, F.few⟩
  · rcases F.act with h | ⟨ha, hb, hc⟩
    · exact .inl h
    · by_cases h0 : A.active = 0
      · exact .inl h0
      · exact .inr ⟨ha, hb, h0⟩
  · intro p n hn
    have := F.que p n hn
    exact ⟨this.1, this.2.1, this.2.2.1, this.2.2.2.1, by omega⟩
  · intro n g1 g2 g3 g4
    exact F.inq n g1 g2 (by rintro rfl; exact (h g1 g2).1 g4) g4
  · intro n g1 g2 g3 g4
    exact F.only n g1 g2 (by rintro rfl; exact (h g1 g2).2.1 g4) g4
  · intro n g1 g2 g3 g4
    exact F.wtg n g1 g2 (by rintro rfl; exact (h g1 g2).2.2.1 g4) g4
  · intro n g1 g2 g3 g4
    by_cases e : n = x
    · subst e; exact (h g1 g2).2.2.2
    · exact F.nwt n g1 g2 e g4
  · intro i n g1 g2 g3
    have := F.wq i n g1 g2 g3
    exact ⟨this.1, this.2.1, this.2.2.1, this.2.2.2.1, by omega⟩
/-- One comes into a queue. -/
theorem FitX.enq (F : FitX A x) (h1 : 1 ≤ x) (h2 : x ≤ A.procs.length) (hs : (A.pr x).standing = 1) (hm : (A.pr x).sem = 0) {p : Nat} (hp : (A.pr x).prio = p) {l : List Nat} (hl : ∀ m, m ∈ l ↔ m = x ∨ m ∈ A.queues p) (hn : l.Nodup) : FitX (A.setQ p l) 0 := by
  refine ⟨?_, F.prio, ?_, ?_, ?_, ?_, ?_, ?_, ?_, F.wnd, F.exc, F.tms, F.evs, F.few⟩
  · rcases F.act with h | ⟨ha, hb, hc⟩
    · exact .inl h
    · by_cases h0 : A.active = 0
      · exact .inl h0
      · exact .inr ⟨ha, hb, h0⟩
  · intro q n hq
    rw [q_setQ] at hq
    split at hq
    · rename_i e; subst e
      rcases (hl n).1 hq with rfl | hq
      · exact ⟨h1, h2, hs, hp, by omega⟩
      · have := F.que q n hq
        exact ⟨this.1, this.2.1, this.2.2.1, this.2.2.2.1, by omega⟩
    · have := F.que q n hq
      exact ⟨this.1, this.2.1, this.2.2.1, this.2.2.2.1, by omega⟩
  · intro q
    rw [q_setQ]
    split
    · exact hn
    · exact F.nodup q
  · intro n g1 g2 g3 g4
    show n ∈ (A.setQ p l).queues (A.pr n).prio.toNat
    rw [q_setQ]
    by_cases e : n = x
    · subst e
      rw [hp, Int.toNat_natCast, if_pos rfl]
      exact (hl n).2 (.inl rfl)
    · have := F.inq n g1 g2 e g4
      split
      · rename_i ep
        exact (hl n).2 (.inr (by rw [← ep]; exact this))
      · exact this
  · intro n g1 g2 g3 g4
    have g4' : (A.pr n).standing = 2 := g4
    exact F.only n g1 g2 (by rintro rfl; omega) g4
  · intro n g1 g2 g3 g4
    have g4' : (A.pr n).standing = 3 := g4
    exact F.wtg n g1 g2 (by rintro rfl; omega) g4
  · intro n g1 g2 g3 g4
    by_cases e : n = x
    · subst e; exact hm
    · exact F.nwt n g1 g2 e g4
  · intro i n g1 g2 g3
    have := F.wq i n g1 g2 g3
    exact ⟨this.1, this.2.1, this.2.2.1, this.2.2.2.1, by omega⟩
/-- One goes out of a queue. -/
theorem FitX.deq (F : FitX A 0) (hx : 1 ≤ x) (hs : (A.pr x).standing = 1) {p : Nat} (hp : (A.pr x).prio = p) {l : List Nat} (hl : ∀ m, m ∈ l ↔ m ∈ A.queues p ∧ m ≠ x) (hn : l.Nodup) : FitX (A.setQ p l) x := by
  refine ⟨?_, F.prio, ?_, ?_, ?_, ?_, ?_, ?_, ?_, F.wnd, F.exc, F.tms, F.evs, F.few⟩
  · rcases F.act with h | ⟨ha, hb, hc⟩
    · exact .inl h
    · exact .inr ⟨ha, hb, by
        show A.active ≠ x
        intro e
        have hb' : (A.pr A.active).standing = 2 := hb
        rw [e] at hb'; omega⟩
  · intro q n hq
    rw [q_setQ] at hq
    split at hq
    · rename_i e; subst e
      have h2 := (hl n).1 hq
      have := F.que q n h2.1
      exact ⟨this.1, this.2.1, this.2.2.1, this.2.2.2.1, h2.2⟩
    · rename_i ne
      have := F.que q n hq
      exact ⟨this.1, this.2.1, this.2.2.1, this.2.2.2.1, by
        rintro rfl
        have := this.2.2.2.1
        rw [hp] at this
        exact ne (by omega)⟩
  · intro q
    rw [q_setQ]
    split
    · exact hn
    · exact F.nodup q
  · intro n g1 g2 g3 g4
    show n ∈ (A.setQ p l).queues (A.pr n).prio.toNat
    rw [q_setQ]
    have := F.inq n g1 g2 (by omega) g4
    split
    · rename_i ep
      exact (hl n).2 ⟨by rw [← ep]; exact this, g3⟩
    · exact this
  · intro n g1 g2 g3 g4
    exact F.only n g1 g2 (by omega) g4
  · intro n g1 g2 g3 g4
    exact F.wtg n g1 g2 (by omega) g4
  · intro n g1 g2 g3 g4
    exact F.nwt n g1 g2 (by omega) g4
  · intro i n g1 g2 g3
    have := F.wq i n g1 g2 g3
    exact ⟨this.1, this.2.1, this.2.2.1, this.2.2.2.1, by
      rintro rfl
      have h3 : (A.pr n).standing = 3 := this.2.2.1
      omega⟩
/-- The active one stands aside. -/
theorem FitX.off (F : FitX A 0) : FitX (A.on 0) A.active := by
  refine ⟨.inl rfl, F.prio, ?_, F.nodup, ?_, ?_, ?_, ?_, ?_, F.wnd, F.exc, F.tms, F.evs, F.few⟩
  · intro p n hn
    have := F.que p n hn
    refine ⟨this.1, this.2.1, this.2.2.1, this.2.2.2.1, ?_⟩
    rintro rfl
    rcases F.act with h | ⟨ha, hb, hc⟩
    · omega
    · have h1 : (A.pr A.active).standing = 1 := this.2.2.1
      omega
  · intro n g1 g2 g3 g4
    exact F.inq n g1 g2 (by omega) g4
  · intro n g1 g2 g3 g4
    exact absurd (F.only n g1 g2 (by omega) g4) g3
  · intro n g1 g2 g3 g4
    exact F.wtg n g1 g2 (by omega) g4
  · intro n g1 g2 g3 g4
    exact F.nwt n g1 g2 (by omega) g4
  · intro i n g1 g2 g3
    have := F.wq i n g1 g2 g3
    refine ⟨this.1, this.2.1, this.2.2.1, this.2.2.2.1, ?_⟩
    rintro rfl
    rcases F.act with h | ⟨ha, hb, hc⟩
    · omega
    · have h1 : (A.pr A.active).standing = 3 := this.2.2.1
      omega
/-- One becomes active. -/
theorem FitX.act_ (F : FitX A x) (h1 : 1 ≤ x) (h2 : x ≤ A.procs.length) (h0 : A.active = 0) (hs : (A.pr x).standing = 2) (hm : (A.pr x).sem = 0) : FitX (A.on x) 0 := by
  refine ⟨.inr ⟨h2, hs, by show x ≠ 0; omega⟩, F.prio, ?_, F.nodup, ?_, ?_, ?_, ?_, ?_, F.wnd, F.exc, F.tms, F.evs, F.few⟩
  · intro p n hn
    have := F.que p n hn
    exact ⟨this.1, this.2.1, this.2.2.1, this.2.2.2.1, by omega⟩
  · intro n g1 g2 g3 g4
    have g4' : (A.pr n).standing = 1 := g4
    exact F.inq n g1 g2 (by rintro rfl; omega) g4
  · intro n g1 g2 g3 g4
    by_cases e : n = x
    · exact e
    · have := F.only n g1 g2 e g4; omega
  · intro n g1 g2 g3 g4
    have g4' : (A.pr n).standing = 3 := g4
    exact F.wtg n g1 g2 (by rintro rfl; omega) g4
  · intro n g1 g2 g3 g4
    by_cases e : n = x
    · subst e; exact hm
    · exact F.nwt n g1 g2 e g4
  · intro i n g1 g2 g3
    have := F.wq i n g1 g2 g3
    exact ⟨this.1, this.2.1, this.2.2.1, this.2.2.2.1, by omega⟩
/-- One goes out of a semaphore's queue. -/
theorem FitX.swq (F : FitX A 0) (hx : 1 ≤ x) (hs : (A.pr x).standing = 3) {i : Nat} (hi : (A.pr x).sem = i) (i1 : 1 ≤ i) (i2 : i ≤ A.sems.length) {e : Int} (he : (A.sm i).1 = e) {l : List Nat} (hl : ∀ m, m ∈ l ↔ m ∈ (A.sm i).2 ∧ m ≠ x) (hn : l.Nodup) (h0 : e = 0) : FitX (A.setSm i (e, l)) x := by
  have es : ∀ j, 1 ≤ j → (A.setSm i (e, l)).sm j = if j = i then (e, l) else A.sm j := fun j hj => sm_setSm i1 i2 hj
  have el : (A.setSm i (e, l)).sems.length = A.sems.length := setSm_len _ _ _
  refine ⟨?_, F.prio, ?_, F.nodup, ?_, ?_, ?_, ?_, ?_, ?_, ?_, ?_, ?_, ?_⟩
  · rcases F.act with h | ⟨ha, hb, hc⟩
    · exact .inl h
    · exact .inr ⟨ha, hb, by
        show A.active ≠ x
        intro e
        rw [e] at hb; omega⟩
  · intro p n hn
    have := F.que p n hn
    exact ⟨this.1, this.2.1, this.2.2.1, this.2.2.2.1, by
      rintro rfl
      have h1 : (A.pr n).standing = 1 := this.2.2.1
      omega⟩
  · intro n g1 g2 g3 g4
    exact F.inq n g1 g2 (by omega) g4
  · intro n g1 g2 g3 g4
    exact F.only n g1 g2 (by omega) g4
  · intro n g1 g2 g3 g4
    have := F.wtg n g1 g2 (by omega) g4
    rw [el, es _ (by show 1 ≤ (A.pr n).sem.toNat; omega)]
    refine ⟨this.1, this.2.1, ?_⟩
    split
    · rename_i ei
      have h3 : (A.pr n).sem.toNat = i := ei
      rw [h3] at this
      exact (hl n).2 ⟨this.2.2, g3⟩
    · exact this.2.2
  · intro n g1 g2 g3 g4
    exact F.nwt n g1 g2 (by omega) g4
  · intro j n g1 g2 g3
    rw [el] at g2
    rw [es j g1] at g3
    split at g3
    · rename_i ej; subst ej
      have h4 := (hl n).1 g3
      have := F.wq j n g1 g2 h4.1
      exact ⟨this.1, this.2.1, this.2.2.1, this.2.2.2.1, h4.2⟩
    · rename_i nj
      have := F.wq j n g1 g2 g3
      exact ⟨this.1, this.2.1, this.2.2.1, this.2.2.2.1, by
        rintro rfl
        have h5 : (A.pr n).sem = j := this.2.2.2.1
        omega⟩
  · intro j g1 g2
    rw [el] at g2
    rw [es j g1]
    split
    · exact hn
    · exact F.wnd j g1 g2
  · intro j g1 g2
    rw [el] at g2
    rw [es j g1]
    split
    · exact ⟨by simp only; omega, by simp only; omega, fun _ => h0⟩
    · exact F.exc j g1 g2
  · rw [el]; exact F.tms
  · rw [el]; exact F.evs
  · rw [el]; exact F.few
/-- One waits. -/
theorem FitX.wai (F : FitX A x) (h1 : 1 ≤ x) (h2 : x ≤ A.procs.length) (hs : (A.pr x).standing = 3) {i : Nat} (hi : (A.pr x).sem = i) (i1 : 1 ≤ i) (i2 : i ≤ A.sems.length) (he : (A.sm i).1 = 0) : FitX (A.setSm i (0, (A.sm i).2 ++ [x])) 0 := by
  have es : ∀ j, 1 ≤ j → (A.setSm i (0, (A.sm i).2 ++ [x])).sm j = if j = i then (0, (A.sm i).2 ++ [x]) else A.sm j := fun j hj => sm_setSm i1 i2 hj
  have el : (A.setSm i (0, (A.sm i).2 ++ [x])).sems.length = A.sems.length := setSm_len _ _ _
  refine ⟨?_, F.prio, ?_, F.nodup, ?_, ?_, ?_, ?_, ?_, ?_, ?_, ?_, ?_, ?_⟩
  · rcases F.act with h | ⟨ha, hb, hc⟩
    · exact .inl h
    · by_cases h0 : A.active = 0
      · exact .inl h0
      · exact .inr ⟨ha, hb, h0⟩
  · intro p n hn
    have := F.que p n hn
    exact ⟨this.1, this.2.1, this.2.2.1, this.2.2.2.1, by omega⟩
  · intro n g1 g2 g3 g4
    have g4' : (A.pr n).standing = 1 := g4
    exact F.inq n g1 g2 (by rintro rfl; omega) g4
  · intro n g1 g2 g3 g4
    have g4' : (A.pr n).standing = 2 := g4
    exact F.only n g1 g2 (by rintro rfl; omega) g4
  · intro n g1 g2 g3 g4
    show 1 ≤ (A.pr n).sem ∧ (A.pr n).sem ≤ _ ∧ n ∈ ((A.setSm i (0, (A.sm i).2 ++ [x])).sm (A.pr n).sem.toNat).2
    rw [el]
    by_cases e : n = x
    · subst e
      rw [hi, es _ (by omega), Int.toNat_natCast, if_pos rfl]
      exact ⟨by omega, by omega, by simp⟩
    · have := F.wtg n g1 g2 e g4
      rw [es _ (by omega)]
      refine ⟨this.1, this.2.1, ?_⟩
      split
      · rename_i ei
        rw [ei] at this
        simp [this.2.2]
      · exact this.2.2
  · intro n g1 g2 g3 g4
    have g4' : (A.pr n).standing ≠ 3 := g4
    exact F.nwt n g1 g2 (by rintro rfl; omega) g4
  · intro j n g1 g2 g3
    rw [el] at g2
    rw [es j g1] at g3
    split at g3
    · rename_i ej; subst ej
      simp only [List.mem_append, List.mem_singleton] at g3
      rcases g3 with g3 | rfl
      · have := F.wq j n g1 g2 g3
        exact ⟨this.1, this.2.1, this.2.2.1, this.2.2.2.1, by omega⟩
      · exact ⟨h1, h2, hs, hi, by omega⟩
    · have := F.wq j n g1 g2 g3
      exact ⟨this.1, this.2.1, this.2.2.1, this.2.2.2.1, by omega⟩
  · intro j g1 g2
    rw [el] at g2
    rw [es j g1]
    split
    · rename_i ej; subst ej
      simp only
      rw [List.nodup_append]
      refine ⟨F.wnd j g1 g2, by simp, fun a ha b hb => ?_⟩
      simp only [List.mem_singleton] at hb
      subst hb
      exact (F.wq j a g1 g2 ha).2.2.2.2
    · exact F.wnd j g1 g2
  · intro j g1 g2
    rw [el] at g2
    rw [es j g1]
    split
    · exact ⟨by simp, by simp, fun _ => rfl⟩
    · exact F.exc j g1 g2
  · rw [el]; exact F.tms
  · rw [el]; exact F.evs
  · rw [el]; exact F.few
/-- A semaphore counts. -/
theorem FitX.cnt (F : FitX A x) {i : Nat} (i1 : 1 ≤ i) (i2 : i ≤ A.sems.length) {e : Int} (h0 : 0 ≤ e) (h1 : e ≤ 1073741824) (hq : (A.sm i).2 = []) : FitX (A.setSm i (e, [])) x := by
  have es : ∀ j, 1 ≤ j → (A.setSm i (e, [])).sm j = if j = i then (e, []) else A.sm j := fun j hj => sm_setSm i1 i2 hj
  have el : (A.setSm i (e, [])).sems.length = A.sems.length := setSm_len _ _ _
  refine ⟨F.act, F.prio, F.que, F.nodup, F.inq, F.only, ?_, F.nwt, ?_, ?_, ?_, ?_, ?_, ?_⟩
  · intro n g1 g2 g3 g4
    have := F.wtg n g1 g2 g3 g4
    rw [el, es _ (by show 1 ≤ (A.pr n).sem.toNat; omega)]
    refine ⟨this.1, this.2.1, ?_⟩
    split
    · rename_i ei
      have h3 : (A.pr n).sem.toNat = i := ei
      rw [h3, hq] at this
      exact absurd this.2.2 (by simp)
    · exact this.2.2
  · intro j n g1 g2 g3
    rw [el] at g2
    rw [es j g1] at g3
    split at g3
    · simp at g3
    · exact F.wq j n g1 g2 g3
  · intro j g1 g2
    rw [el] at g2
    rw [es j g1]
    split
    · exact List.nodup_nil
    · exact F.wnd j g1 g2
  · intro j g1 g2
    rw [el] at g2
    rw [es j g1]
    split
    · exact ⟨h0, h1, fun h => absurd rfl h⟩
    · exact F.exc j g1 g2
  · rw [el]; exact F.tms
  · rw [el]; exact F.evs
  · rw [el]; exact F.few
end Go.Proofs.YtkkdeljladihpaaGreat

/-
  The scheduler's state: each call leaves it fit. No program in sight.
-/
namespace Go.Proofs.YtkkdeljladihpaaGreat
open St
variable {A : St} {x : Nat}
theorem nodup_len : ∀ (N : Nat) (l : List Nat), l.Nodup → (∀ m ∈ l, 1 ≤ m ∧ m ≤ N) → l.length ≤ N
  | 0, l, _, h => by
    cases l with
    | nil => simp
    | cons a l => have := h a List.mem_cons_self; omega
  | N + 1, l, hn, h => by
    have := nodup_len N (l.erase (N + 1)) (hn.erase _) fun m hm => by
      have := (hn.mem_erase_iff).1 hm
      have h2 := h m this.2
      have := this.1
      omega
    rw [List.length_erase] at this
    split at this <;> omega
theorem FitX.ql (F : FitX A x) (p : Nat) : (A.queues p).length ≤ A.procs.length := nodup_len _ _ (F.nodup p) fun m hm => ⟨(F.que p m hm).1, (F.que p m hm).2.1⟩
theorem FitX.wl (F : FitX A x) {i : Nat} (h1 : 1 ≤ i) (h2 : i ≤ A.sems.length) : (A.sm i).2.length ≤ A.procs.length := nodup_len _ _ (F.wnd i h1 h2) fun m hm => ⟨(F.wq i m h1 h2 hm).1, (F.wq i m h1 h2 hm).2.1⟩
theorem FitX.pr_ok (F : FitX A x) {n : Nat} (h1 : 1 ≤ n) (h2 : n ≤ A.procs.length) : 1 ≤ (A.pr n).prio ∧ (A.pr n).prio ≤ 16 ∧ 0 ≤ (A.pr n).standing ∧ (A.pr n).standing ≤ 5 := F.prio _ (pr_mem h1 h2)
theorem FitX.rn (F : FitX A 0) : Rn A := by
  refine ⟨F.few.1, ?_, ?_, fun p n hn => ⟨(F.que p n hn).1, (F.que p n hn).2.1⟩, fun p => by have := F.ql p; have := F.few.1; omega⟩
  · rcases F.act with h | h
    · omega
    · exact h.1
  · intro h
    rcases F.act with h' | h'
    · omega
    · have := F.pr_ok h h'.1
      exact ⟨this.1, this.2.1⟩
theorem FitX.ready (F : FitX A x) (h1 : 1 ≤ x) (h2 : x ≤ A.procs.length) : FitX (A.ready x) 0 := by
  have hp := F.pr_ok h1 h2
  have F1 := F.setPr h1 h2 (r := { A.pr x with standing := 1, sem := 0 }) ⟨hp.1, hp.2.1, by simp, by simp⟩
  have e := pr_setPr_eq (A := A) (r := { A.pr x with standing := 1, sem := 0 }) h1 h2
  refine F1.enq (p := (A.pr x).prio.toNat) h1 (by rw [setPr_len]; exact h2) (by rw [e]) (by rw [e]) (by rw [e]; simp only; omega) (fun m => ?_) ?_
  · show m ∈ A.queues _ ++ [x] ↔ m = x ∨ m ∈ A.queues _
    simp [or_comm]
  · rw [List.nodup_append]
    refine ⟨F.nodup _, by simp, fun a ha b hb => ?_⟩
    simp only [List.mem_singleton] at hb
    subst hb
    exact (F.que _ a ha).2.2.2.2
theorem FitX.yields (F : FitX A 0) (h : 0 < A.active) : FitX A.yields 0 := by
  have ha : A.active ≤ A.procs.length := F.rn.act
  have hp := F.pr_ok h ha
  have F1 := F.off.setPr (A := A.on 0) h ha (r := { A.pr A.active with standing := 1 }) ⟨hp.1, hp.2.1, by simp, by simp⟩
  have e := pr_setPr_eq (A := A.on 0) (r := { A.pr A.active with standing := 1 }) h ha
  have hact : (A.pr A.active).standing = 2 := by
    rcases F.act with h' | h'
    · omega
    · exact h'.2.1
  refine F1.enq (p := (A.pr A.active).prio.toNat) (l := A.active :: A.queues (A.pr A.active).prio.toNat) h (by rw [setPr_len]; exact ha) (by rw [e]) (by rw [e]; exact F.nwt _ h ha (by omega) (by omega)) (by rw [e]; simp only; omega) (fun m => ?_) ?_
  · show m ∈ A.active :: A.queues _ ↔ m = A.active ∨ m ∈ A.queues _
    simp
  · refine List.nodup_cons.2 ⟨fun hm => ?_, F.nodup _⟩
    have := (F.que _ _ hm).2.2.1
    omega
theorem takes_eq {p n : Nat} {r : List Nat} (hq : A.queues p = n :: r) : A.takes p = ((A.setQ p r).setPr n { A.pr n with standing := 2 }).on n := by
  unfold St.takes; rw [hq]; rfl
theorem FitX.takes (F : FitX A 0) (h0 : A.active = 0) {p n : Nat} {r : List Nat} (hq : A.queues p = n :: r) : FitX (A.takes p) 0 := by
  have hn := F.que p n (by rw [hq]; exact List.mem_cons_self)
  have hp := F.pr_ok hn.1 hn.2.1
  have hnd := F.nodup p
  rw [hq] at hnd
  have hnd' := List.nodup_cons.1 hnd
  rw [takes_eq hq]
  have F1 := F.deq (l := r) hn.1 hn.2.2.1 hn.2.2.2.1 (fun m => by
    rw [hq]
    constructor
    · intro hm; exact ⟨List.mem_cons_of_mem _ hm, by rintro rfl; exact hnd'.1 hm⟩
    · rintro ⟨hm, hne⟩
      rcases List.mem_cons.1 hm with rfl | hm
      · exact absurd rfl hne
      · exact hm) hnd'.2
  have F2 := F1.setPr hn.1 hn.2.1 (r := { A.pr n with standing := 2 }) ⟨hp.1, hp.2.1, by simp, by simp⟩
  have e := pr_setPr_eq (A := A.setQ p r) (r := { A.pr n with standing := 2 }) hn.1 hn.2.1
  exact F2.act_ hn.1 (by rw [setPr_len]; exact hn.2.1) h0 (by rw [e]) (by rw [e]; exact F.nwt n hn.1 hn.2.1 (by omega) (by rw [hn.2.2.1]; decide))
theorem highN_le {q : Nat → List Nat} {h : Nat} : ∀ k, (∀ p, 1 ≤ p → p ≤ k → q p ≠ [] → p ≤ h) → highN q k ≤ h
  | 0, _ => Nat.zero_le _
  | k + 1, hq => by
    unfold highN
    split
    · exact highN_le k fun p h1 h2 h3 => hq p h1 (by omega) h3
    · rename_i hne; exact hq (k + 1) (by omega) (Nat.le_refl _) hne
theorem le_highN {q : Nat → List Nat} {p : Nat} : ∀ k, 1 ≤ p → p ≤ k → q p ≠ [] → p ≤ highN q k
  | 0, h1, h2, _ => by omega
  | k + 1, h1, h2, h3 => by
    unfold highN
    split
    · rename_i he
      rcases Nat.lt_or_ge k p with h | h
      · have : p = k + 1 := by omega
        subst this; exact absurd he h3
      · exact le_highN k h1 h h3
    · exact h2
theorem FitX.que16 (F : FitX A x) {p : Nat} (h : A.queues p ≠ []) : 1 ≤ p ∧ p ≤ 16 := by
  obtain ⟨n, r, e⟩ := List.exists_cons_of_ne_nil h
  have hn := F.que p n (by rw [e]; exact List.mem_cons_self)
  have := F.pr_ok hn.1 hn.2.1
  have := hn.2.2.2.1
  omega
theorem FitX.le_high (F : FitX A x) {p : Nat} (h : A.queues p ≠ []) : p ≤ A.highest := le_highN 16 (F.que16 h).1 (F.que16 h).2 h
theorem high_pos (h : 0 < A.highest) : ∃ n r, A.queues A.highest = n :: r := List.exists_cons_of_ne_nil ((highN_spec A.queues 16).2 h)
/-- Who runs. -/
inductive Runs (A : St) : St → Prop where
  | stay (h : A.active = 0 ∧ A.highest = 0 ∨ 0 < A.active ∧ (A.highest : Int) ≤ (A.pr A.active).prio) : Runs A A
  | take {n : Nat} {r : List Nat} (h : A.active = 0) (hh : 0 < A.highest) (hq : A.queues A.highest = n :: r) : Runs A (A.takes A.highest)
  | swap {n : Nat} {r : List Nat} (h : 0 < A.active) (hh : (A.pr A.active).prio < A.highest) (h0 : 0 < A.highest) (hq : A.queues A.highest = n :: r) (hq' : A.yields.queues A.highest = n :: r) : Runs A (A.yields.takes A.highest)
theorem FitX.runs' (F : FitX A 0) : Runs A A.runs := by
  unfold St.runs
  by_cases ha : 0 < A.active
  · rw [if_pos ha]
    by_cases hle : (A.highest : Int) ≤ (A.pr A.active).prio
    · rw [if_pos hle]; exact .stay (.inr ⟨ha, hle⟩)
    · have hp := F.pr_ok ha F.rn.act
      have h0 : 0 < A.highest := by omega
      rw [if_neg hle, if_pos h0]
      obtain ⟨n, r, hq⟩ := high_pos h0
      refine .swap ha (by omega) h0 hq ?_
      unfold St.yields
      show (if A.highest = _ then _ else A.queues A.highest) = _
      rw [if_neg (by omega), hq]
  · rw [if_neg ha]
    by_cases h0 : 0 < A.highest
    · rw [if_pos h0]
      obtain ⟨n, r, hq⟩ := high_pos h0
      exact .take (by omega) h0 hq
    · rw [if_neg h0]; exact .stay (.inl ⟨by omega, by omega⟩)
theorem takes_hi (F : FitX A 0) (h0 : A.active = 0) {p n : Nat} {r : List Nat} (hq : A.queues p = n :: r) (hp : ∀ q, A.queues q ≠ [] → q ≤ p) : (A.takes p).Hi := by
  have hn := F.que p n (by rw [hq]; exact List.mem_cons_self)
  rw [takes_eq hq]
  unfold St.Hi
  rw [if_neg (by show ¬ n = 0; omega)]
  have e : (((A.setQ p r).setPr n { A.pr n with standing := 2 }).on n).pr n = { A.pr n with standing := 2 } := pr_setPr_eq (A := A.setQ p r) hn.1 hn.2.1
  show ((highN (A.setQ p r).queues 16 : Nat) : Int) ≤ ((((A.setQ p r).setPr n { A.pr n with standing := 2 }).on n).pr n).prio
  rw [e]
  simp only
  rw [hn.2.2.2.1]
  have : highN (A.setQ p r).queues 16 ≤ p := highN_le 16 fun q h1 h2 h3 => by
    rw [q_setQ] at h3
    split at h3
    · omega
    · exact hp q h3
  omega
theorem FitX.runs (F : FitX A 0) : A.runs.Fit := by
  have h := F.runs'
  generalize A.runs = B at h
  cases h with
  | stay h =>
    refine ⟨F, ?_⟩
    unfold St.Hi
    rcases h with ⟨h1, h2⟩ | ⟨h1, h2⟩
    · rw [if_pos h1]; exact h2
    · rw [if_neg (by omega)]; exact h2
  | take h hh hq => exact ⟨F.takes h hq, takes_hi F h hq fun q hq' => F.le_high hq'⟩
  | swap h hh h0 hq hq' =>
    have F1 := F.yields h
    refine ⟨F1.takes rfl hq', takes_hi F1 rfl hq' fun q hne => ?_⟩
    have hne' : (if q = (A.pr A.active).prio.toNat then A.active :: A.queues (A.pr A.active).prio.toNat else A.queues q) ≠ [] := hne
    split at hne'
    · rename_i e; omega
    · exact F.le_high hne'
end Go.Proofs.YtkkdeljladihpaaGreat

/-
  The scheduler's state: the timers' heap, and each call, leave it fit. No program in sight.
-/
namespace Go.Proofs.YtkkdeljladihpaaGreat
open St
variable {A : St} {x : Nat}
namespace St
theorem nth_get {l : List Tm} {i : Nat} (h : i < l.length) : nth l i = l[i] := by
  unfold nth; rw [List.getD_eq_getElem?_getD, List.getElem?_eq_getElem h]; rfl
theorem swap_length (l : List Tm) (i j : Nat) : (swap l i j).length = l.length := by unfold swap; simp
theorem swap_perm {l : List Tm} {i j : Nat} (hi : i < l.length) (hj : j < l.length) : (swap l i j).Perm l := by
  unfold swap
  rw [nth_get hi, nth_get hj]
  exact List.set_set_perm hi hj
theorem up_perm : ∀ (f : Nat) (l : List Tm) (j : Nat), j < l.length → (up f l j).Perm l
  | 0, l, j, _ => List.Perm.refl _
  | f + 1, l, j, h => by
    unfold up
    split
    · exact List.Perm.refl _
    · have hi : (j - 1) / 2 < l.length := by omega
      exact (up_perm f _ _ (by rw [swap_length]; exact hi)).trans (swap_perm hi h)
theorem kid_lt {l : List Tm} {i n : Nat} (h : 2 * i + 1 < n) : kid l i n < n := by
  unfold kid; split
  · rename_i h'; exact h'.1
  · exact h
theorem down_perm : ∀ (f : Nat) (l : List Tm) (i n : Nat), i < l.length → n ≤ l.length → (down f l i n).Perm l
  | 0, l, i, n, _, _ => List.Perm.refl _
  | f + 1, l, i, n, hi, hn => by
    unfold down
    split
    · exact List.Perm.refl _
    rename_i h1
    split
    · exact List.Perm.refl _
    · have hk := kid_lt (l := l) (i := i) (n := n) (by omega)
      exact (down_perm f _ _ _ (by rw [swap_length]; omega) (by rw [swap_length]; exact hn)).trans (swap_perm hi (by omega))
theorem pushT_perm (l : List Tm) (t : Tm) : (pushT l t).Perm (l ++ [t]) := up_perm _ _ _ (by simp)
theorem popT_perm {l : List Tm} (h : l ≠ []) : ((popT l).1 :: (popT l).2).Perm l := by
  have hp := List.length_pos_iff.2 h
  unfold popT
  have hd := down_perm l.length (swap l 0 (l.length - 1)) 0 (l.length - 1) (by rw [swap_length]; exact hp) (by rw [swap_length]; omega)
  have hs := swap_perm (l := l) (i := 0) (j := l.length - 1) hp (by omega)
  have hl := hd.length_eq
  rw [swap_length] at hl
  generalize down l.length (swap l 0 (l.length - 1)) 0 (l.length - 1) = m at hd hl
  simp only
  refine List.Perm.trans ?_ (hd.trans hs)
  have hlt : l.length - 1 < m.length := by omega
  rw [nth_get hlt]
  have e : m = m.take (l.length - 1) ++ [m[l.length - 1]] := by
    conv => lhs; rw [← List.take_append_drop (l.length - 1) m, List.drop_eq_getElem_cons hlt, List.drop_of_length_le (by omega)]
  conv => rhs; rw [e]
  exact (List.perm_append_singleton _ _).symm
end St
theorem FitX.aside (F : FitX A 0) (h : 1 ≤ x → x ≤ A.procs.length → (A.pr x).standing ≠ 1 ∧ (A.pr x).standing ≠ 2 ∧ (A.pr x).standing ≠ 3) : FitX A x := by
  refine ⟨?_, F.prio, ?_, F.nodup, ?_, ?_, ?_, ?_, ?_, F.wnd, F.exc, F.tms, F.evs, F.few⟩
  · rcases F.act with h' | ⟨ha, hb, hc⟩
    · exact .inl h'
    · exact .inr ⟨ha, hb, by rintro rfl; exact (h (by omega) ha).2.1 hb⟩
  · intro p n hn
    have := F.que p n hn
    exact ⟨this.1, this.2.1, this.2.2.1, this.2.2.2.1, by rintro rfl; exact (h this.1 this.2.1).1 this.2.2.1⟩
  · intro n g1 g2 g3 g4; exact F.inq n g1 g2 (by omega) g4
  · intro n g1 g2 g3 g4; exact F.only n g1 g2 (by omega) g4
  · intro n g1 g2 g3 g4; exact F.wtg n g1 g2 (by omega) g4
  · intro n g1 g2 g3 g4; exact F.nwt n g1 g2 (by omega) g4
  · intro i n g1 g2 g3
    have := F.wq i n g1 g2 g3
    exact ⟨this.1, this.2.1, this.2.2.1, this.2.2.2.1, by rintro rfl; exact (h this.1 this.2.1).2.2 this.2.2.1⟩
theorem mem_filter_ne {l : List Nat} {m : Nat} : m ∈ l.filter (· ≠ x) ↔ m ∈ l ∧ m ≠ x := by simp
theorem out_len (A : St) (x : Nat) : (A.out x).procs.length = A.procs.length := by
  unfold St.out
  split
  · rfl
  split
  · rw [setPr_len]; rfl
  split <;> rfl
theorem FitX.out (F : FitX A 0) (h1 : 1 ≤ x) (h2 : x ≤ A.procs.length) : FitX (A.out x) x ∧ ((A.out x).pr x).sem = 0 := by
  have hp := F.pr_ok h1 h2
  unfold St.out
  split
  · rename_i hs
    exact ⟨F.deq h1 hs (by omega) (fun m => mem_filter_ne) ((F.nodup _).filter _), F.nwt x h1 h2 (by omega) (by omega)⟩
  split
  · rename_i hs
    have hw := F.wtg x h1 h2 (by omega) hs
    have he := F.exc (A.pr x).sem.toNat (by omega) (by omega)
    have h0 := he.2.2 (by intro e; rw [e] at hw; exact absurd hw.2.2 (by simp))
    refine ⟨(F.swq h1 hs (i := (A.pr x).sem.toNat) (by omega) (by omega) (by omega) rfl (fun m => mem_filter_ne) ((F.wnd _ (by omega) (by omega)).filter _) h0).setPr h1 h2 ⟨hp.1, hp.2.1, hp.2.2.1, hp.2.2.2⟩, ?_⟩
    have key : ∀ (B : St) (r : Pr), B.procs = A.procs → (B.setPr x r).pr x = r := fun B r h => pr_setPr_eq h1 (by rw [h]; exact h2)
    rw [key (A.setSm _ _) _ rfl]
  split
  · rename_i hs
    have := F.only x h1 h2 (by omega) hs
    subst this
    exact ⟨F.off, F.nwt _ h1 h2 (by omega) (by omega)⟩
  · exact ⟨F.aside fun _ _ => ⟨by assumption, by assumption, by assumption⟩, F.nwt x h1 h2 (by omega) (by assumption)⟩
theorem pr_new {A : St} {r : Pr} {n : Nat} (h1 : 1 ≤ n) : ({ A with procs := A.procs ++ [r] } : St).pr n = if n = A.procs.length + 1 then r else A.pr n := by
  unfold St.pr
  simp only
  rw [List.getD_eq_getElem?_getD, List.getD_eq_getElem?_getD]
  split
  · rename_i e
    rw [List.getElem?_append_right (by omega), show n - 1 - A.procs.length = 0 by omega]; rfl
  · rename_i e
    by_cases hl : n - 1 < A.procs.length
    · rw [List.getElem?_append_left hl]
    · rw [List.getElem?_eq_none (by simp; omega), List.getElem?_eq_none (by omega)]
theorem FitX.new (F : FitX A 0) {p : Int} (hp : 1 ≤ p ∧ p ≤ 16) (hl : A.procs.length < 4096) : FitX ({ A with procs := A.procs ++ [⟨p, 0, 0⟩] } : St) (A.procs.length + 1) := by
  have el : (A.procs ++ [(⟨p, 0, 0⟩ : Pr)]).length = A.procs.length + 1 := by simp
  have e : ∀ n, 1 ≤ n → n ≠ A.procs.length + 1 → ({ A with procs := A.procs ++ [⟨p, 0, 0⟩] } : St).pr n = A.pr n := fun n h1 h2 => by rw [pr_new h1, if_neg h2]
  refine ⟨?_, ?_, ?_, F.nodup, ?_, ?_, ?_, ?_, ?_, F.wnd, F.exc, F.tms, F.evs, ?_⟩
  · rcases F.act with h' | ⟨ha, hb, hc⟩
    · exact .inl h'
    · refine .inr ⟨by show A.active ≤ _; simp only; omega, ?_, by show A.active ≠ _; omega⟩
      show (({ A with procs := A.procs ++ [⟨p, 0, 0⟩] } : St).pr A.active).standing = 2
      rw [e _ (by omega) (by omega)]; exact hb
  · intro r hr
    rcases List.mem_append.1 hr with hr | hr
    · exact F.prio r hr
    · simp only [List.mem_singleton] at hr; subst hr; exact ⟨hp.1, hp.2, by simp, by simp⟩
  · intro q n hn
    have := F.que q n hn
    rw [e n this.1 (by omega)]
    exact ⟨this.1, by simp only; omega, this.2.2.1, this.2.2.2.1, by omega⟩
  · intro n g1 g2 g3 g4
    simp only at g2; rw [el] at g2
    rw [e n g1 g3] at g4 ⊢
    exact F.inq n g1 (by omega) (by omega) g4
  · intro n g1 g2 g3 g4
    simp only at g2; rw [el] at g2
    rw [e n g1 g3] at g4
    exact F.only n g1 (by omega) (by omega) g4
  · intro n g1 g2 g3 g4
    simp only at g2; rw [el] at g2
    rw [e n g1 g3] at g4 ⊢
    exact F.wtg n g1 (by omega) (by omega) g4
  · intro n g1 g2 g3 g4
    simp only at g2; rw [el] at g2
    rw [e n g1 g3] at g4 ⊢
    exact F.nwt n g1 (by omega) (by omega) g4
  · intro i n g1 g2 g3
    have := F.wq i n g1 g2 g3
    rw [e n this.1 (by omega)]
    exact ⟨this.1, by simp only; omega, this.2.2.1, this.2.2.2.1, by omega⟩
  · have := F.few; simp only; omega
theorem FitX.fork (F : FitX A 0) (hh : A.Hi) (p : Int) : (A.fork p).2.Fit := by
  unfold St.fork
  split
  · exact ⟨F, hh⟩
  split
  · exact ⟨F, hh⟩
  · exact ((F.new (p := p) (by omega) (by omega)).ready (by omega) (by simp)).runs
theorem FitX.yield (F : FitX A 0) (hh : A.Hi) : A.yield.2.Fit := by
  unfold St.yield
  split
  · exact ⟨F, hh⟩
  · exact (F.off.ready (A := A.on 0) (by omega) F.rn.act).runs
theorem FitX.semaphore (F : FitX A 0) (hh : A.Hi) : A.semaphore.2.Fit := by
  unfold St.semaphore
  split
  · exact ⟨F, hh⟩
  rename_i hl
  have el : (A.sems ++ [((0 : Int), ([] : List Nat))]).length = A.sems.length + 1 := by simp
  have e : ∀ i, 1 ≤ i → i ≠ A.sems.length + 1 → ({ A with sems := A.sems ++ [(0, [])] } : St).sm i = A.sm i := by
    intro i h1 h2
    unfold St.sm
    simp only
    rw [List.getD_eq_getElem?_getD, List.getD_eq_getElem?_getD]
    by_cases hl : i - 1 < A.sems.length
    · rw [List.getElem?_append_left hl]
    · rw [List.getElem?_eq_none (by simp; omega), List.getElem?_eq_none (by omega)]
  have e' : ({ A with sems := A.sems ++ [(0, [])] } : St).sm (A.sems.length + 1) = (0, []) := by
    unfold St.sm
    simp
  refine ⟨⟨F.act, F.prio, F.que, F.nodup, F.inq, F.only, ?_, F.nwt, ?_, ?_, ?_, ?_, ?_, ?_⟩, hh⟩
  · intro n g1 g2 g3 g4
    have := F.wtg n g1 g2 g3 g4
    refine ⟨this.1, by simp only; rw [el]; have := this.2.1; show (A.pr n).sem ≤ _; omega, ?_⟩
    show n ∈ (({ A with sems := A.sems ++ [(0, [])] } : St).sm (A.pr n).sem.toNat).2
    rw [e _ (by omega) (by omega)]; exact this.2.2
  · intro i n g1 g2 g3
    simp only at g2; rw [el] at g2
    by_cases h : i = A.sems.length + 1
    · subst h; simp only at g3; rw [e'] at g3; simp at g3
    · rw [e i g1 h] at g3; exact F.wq i n g1 (by omega) g3
  · intro i g1 g2
    simp only at g2; rw [el] at g2
    by_cases h : i = A.sems.length + 1
    · subst h; simp only; rw [e']; simp
    · rw [e i g1 h]; exact F.wnd i g1 (by omega)
  · intro i g1 g2
    simp only at g2; rw [el] at g2
    by_cases h : i = A.sems.length + 1
    · subst h; simp only; rw [e']; simp
    · rw [e i g1 h]; exact F.exc i g1 (by omega)
  · intro t ht; have := F.tms t ht; simp only; rw [el]; omega
  · refine ⟨F.evs.1, fun t ht => ?_⟩
    have := F.evs.2 t ht; simp only; rw [el]; omega
  · have := F.few; simp only; rw [el]; omega
theorem isSem_iff {n : Int} : A.isSem n = true ↔ 1 ≤ n ∧ n ≤ A.sems.length := by unfold St.isSem; simp
theorem isSem_not {n : Int} : A.isSem n = false ↔ ¬ (1 ≤ n ∧ n ≤ A.sems.length) := by
  rw [← isSem_iff]; simp
theorem FitX.wait (F : FitX A 0) (hh : A.Hi) (n : Int) : (A.wait n).2.Fit := by
  unfold St.wait
  split
  · exact ⟨F, hh⟩
  rename_i h0
  split
  · exact ⟨F, hh⟩
  rename_i hs
  have hi : 1 ≤ n ∧ n ≤ A.sems.length := isSem_iff.1 (by simpa using hs)
  have he := F.exc n.toNat (by omega) (by omega)
  split
  · rename_i hx
    have hq : (A.sm n.toNat).2 = [] := Classical.byContradiction fun h => by have := he.2.2 h; omega
    simp only [hq]
    exact ⟨F.cnt (by omega) (by omega) (by omega) (by omega) hq, hh⟩
  · rename_i hx
    have ha := F.rn.act
    have hp := F.pr_ok (n := A.active) (by omega) ha
    have F1 := F.off.setPr (A := A.on 0) (by omega) ha (r := { A.pr A.active with standing := 3, sem := n }) ⟨hp.1, hp.2.1, by simp, by simp⟩
    have e := pr_setPr_eq (A := A.on 0) (r := { A.pr A.active with standing := 3, sem := n }) (n := A.active) (by omega) ha
    have hx0 : (A.sm n.toNat).1 = 0 := by omega
    have F2 := F1.wai (i := n.toNat) (by omega) (by rw [setPr_len]; exact ha) (by rw [e]) (by rw [e]; simp only; omega) (by omega) (by show _ ≤ A.sems.length; omega) hx0
    rw [← hx0] at F2
    exact F2.runs
theorem FitX.signal0 (F : FitX A 0) (n : Int) : FitX (A.signal0 n).2 0 := by
  unfold St.signal0
  split
  · exact F
  rename_i hs
  have hi : 1 ≤ n ∧ n ≤ A.sems.length := isSem_iff.1 (by simpa using hs)
  have he := F.exc n.toNat (by omega) (by omega)
  split
  · rename_i q r hq
    have hw := F.wq n.toNat q (by omega) (by omega) (by rw [hq]; exact List.mem_cons_self)
    have h0 := he.2.2 (by rw [hq]; simp)
    have hnd := F.wnd n.toNat (by omega) (by omega)
    rw [hq] at hnd
    have hnd' := List.nodup_cons.1 hnd
    refine (F.swq hw.1 hw.2.2.1 hw.2.2.2.1 (by omega) (by omega) rfl (fun m => ?_) hnd'.2 h0).ready hw.1 hw.2.1
    rw [hq]
    constructor
    · intro hm; exact ⟨List.mem_cons_of_mem _ hm, by rintro rfl; exact hnd'.1 hm⟩
    · rintro ⟨hm, hne⟩
      rcases List.mem_cons.1 hm with rfl | hm
      · exact absurd rfl hne
      · exact hm
  · rename_i hq
    split
    · exact F
    · exact F.cnt (by omega) (by omega) (by omega) (by omega) hq
theorem FitX.signal (F : FitX A 0) (n : Int) : (A.signal n).2.Fit := (F.signal0 n).runs
theorem alive_ok {n : Int} (h : ¬ A.alive n ≠ 0) : 1 ≤ n ∧ n ≤ A.procs.length ∧ (A.pr n.toNat).standing ≠ 5 := by
  unfold St.alive at h
  split at h
  · omega
  · split at h
    · omega
    · refine ⟨by omega, by omega, by assumption⟩
theorem FitX.suspend (F : FitX A 0) (hh : A.Hi) (n : Int) : (A.suspend n).2.Fit := by
  unfold St.suspend
  split
  · exact ⟨F, hh⟩
  rename_i ha
  have ha := alive_ok ha
  split
  · exact ⟨F, hh⟩
  have F1 := F.out (x := n.toNat) (by omega) (by omega)
  have hp := F1.1.pr_ok (n := n.toNat) (by omega) (by rw [out_len]; omega)
  have el := out_len A n.toNat
  refine ((F1.1.setPr (by omega) (by omega) (r := { (A.out n.toNat).pr n.toNat with standing := 4 }) ⟨hp.1, hp.2.1, by simp, by simp⟩).nowhere fun h1 h2 => ?_).runs
  rw [pr_setPr_eq h1 (by omega)]
  exact ⟨by simp, by simp, by simp, F1.2⟩
theorem FitX.resume (F : FitX A 0) (hh : A.Hi) (n : Int) : (A.resume n).2.Fit := by
  unfold St.resume
  split
  · exact ⟨F, hh⟩
  rename_i ha
  have ha := alive_ok ha
  split
  · exact ⟨F, hh⟩
  rename_i hs
  exact ((F.aside (x := n.toNat) fun _ _ => by omega).ready (by omega) (by omega)).runs
theorem FitX.terminate (F : FitX A 0) (hh : A.Hi) (n : Int) : (A.terminate n).2.Fit := by
  unfold St.terminate
  split
  · exact ⟨F, hh⟩
  rename_i ha
  have ha := alive_ok ha
  have F1 := F.out (x := n.toNat) (by omega) (by omega)
  have hp := F1.1.pr_ok (n := n.toNat) (by omega) (by rw [out_len]; omega)
  have el := out_len A n.toNat
  refine ((F1.1.setPr (by omega) (by omega) (r := { (A.out n.toNat).pr n.toNat with standing := 5 }) ⟨hp.1, hp.2.1, by simp, by simp⟩).nowhere fun h1 h2 => ?_).runs
  rw [pr_setPr_eq h1 (by omega)]
  exact ⟨by simp, by simp, by simp, F1.2⟩
/-- A priority turned, of one that is not ready. -/
theorem FitX.setPrio (F : FitX A 0) (h1 : 1 ≤ x) (h2 : x ≤ A.procs.length) (hs : (A.pr x).standing ≠ 1) {p : Int} (hp : 1 ≤ p ∧ p ≤ 16) : FitX (A.setPr x { A.pr x with prio := p }) 0 := by
  have hk := F.pr_ok h1 h2
  have el : (A.setPr x { A.pr x with prio := p }).procs.length = A.procs.length := setPr_len _ _ _
  have e : ∀ m, 1 ≤ m → ((A.setPr x { A.pr x with prio := p }).pr m).standing = (A.pr m).standing ∧ ((A.setPr x { A.pr x with prio := p }).pr m).sem = (A.pr m).sem ∧ (m ≠ x → ((A.setPr x { A.pr x with prio := p }).pr m).prio = (A.pr m).prio) := by
    intro m hm
    rw [pr_setPr h1 h2 hm]
    split
    · rename_i e; subst e; exact ⟨rfl, rfl, fun h => absurd rfl h⟩
    · exact ⟨rfl, rfl, fun _ => rfl⟩
  refine ⟨?_, ?_, ?_, F.nodup, ?_, ?_, ?_, ?_, ?_, F.wnd, F.exc, F.tms, F.evs, ?_⟩
  · rcases F.act with h | ⟨ha, hb, hc⟩
    · exact .inl h
    · refine .inr ⟨by rw [el]; exact ha, ?_, hc⟩
      show ((A.setPr x { A.pr x with prio := p }).pr A.active).standing = 2
      rw [(e _ (by omega)).1]; exact hb
  · intro q hq
    rcases List.mem_or_eq_of_mem_set hq with hq | rfl
    · exact F.prio q hq
    · exact ⟨hp.1, hp.2, hk.2.2.1, hk.2.2.2⟩
  · intro q n hn
    have := F.que q n hn
    have e1 := e n this.1
    have hne : n ≠ x := by rintro rfl; exact hs this.2.2.1
    rw [el, e1.1, e1.2.2 hne]; exact this
  · intro n g1 g2 g3 g4
    rw [el] at g2
    have e1 := e n g1
    rw [e1.1] at g4
    rw [e1.2.2 (by rintro rfl; exact hs g4)]
    exact F.inq n g1 g2 g3 g4
  · intro n g1 g2 g3 g4
    rw [el] at g2
    rw [(e n g1).1] at g4
    exact F.only n g1 g2 g3 g4
  · intro n g1 g2 g3 g4
    rw [el] at g2
    rw [(e n g1).1] at g4
    rw [(e n g1).2.1]
    exact F.wtg n g1 g2 g3 g4
  · intro n g1 g2 g3 g4
    rw [el] at g2
    rw [(e n g1).1] at g4
    rw [(e n g1).2.1]
    exact F.nwt n g1 g2 g3 g4
  · intro i n g1 g2 g3
    have := F.wq i n g1 g2 g3
    rw [el, (e n this.1).1, (e n this.1).2.1]; exact this
  · rw [el]; exact F.few
theorem FitX.setPriority (F : FitX A 0) (hh : A.Hi) (n p : Int) : (A.setPriority n p).2.Fit := by
  unfold St.setPriority
  split
  · exact ⟨F, hh⟩
  rename_i ha
  have ha := alive_ok ha
  split
  · exact ⟨F, hh⟩
  split
  · rename_i hs
    exact (F.setPrio (by omega) (by omega) hs (by omega)).runs
  · rename_i hs
    have F1 := F.out (x := n.toNat) (by omega) (by omega)
    have el := out_len A n.toNat
    have hp := F1.1.pr_ok (n := n.toNat) (by omega) (by omega)
    exact ((F1.1.setPr (by omega) (by omega) (r := { (A.out n.toNat).pr n.toNat with prio := p }) ⟨by simp only; omega, by simp only; omega, hp.2.2.1, hp.2.2.2⟩).ready (by omega) (by rw [setPr_len]; omega)).runs
theorem FitX.timers (F : FitX A x) {l : List Tm} {m : Int} {now : Int} (h : ∀ t ∈ l, 1 ≤ t.sem ∧ t.sem ≤ A.sems.length) (hl : l.length ≤ 4096) : FitX ({ A with timers := l, made := m, now := now } : St) x :=
  ⟨F.act, F.prio, F.que, F.nodup, F.inq, F.only, F.wtg, F.nwt, F.wq, F.wnd, F.exc, h, F.evs, ⟨F.few.1, F.few.2.1, hl⟩⟩
theorem FitX.at_ (F : FitX A 0) (hh : A.Hi) (n t : Int) : (A.at_ n t).2.Fit := by
  unfold St.at_
  split
  · exact ⟨F, hh⟩
  rename_i hs
  have hi : 1 ≤ n ∧ n ≤ A.sems.length := isSem_iff.1 (by simpa using hs)
  split
  · exact ⟨F, hh⟩
  split
  · exact ⟨F, hh⟩
  · have hp := pushT_perm A.timers ⟨t, A.made + 1, n⟩
    refine ⟨F.timers (fun u hu => ?_) (by rw [hp.length_eq]; simp; omega), hh⟩
    have := hp.mem_iff.1 hu
    simp only [List.mem_append, List.mem_singleton] at this
    rcases this with h | rfl
    · exact F.tms u h
    · exact hi
theorem popT_mem {l : List Tm} (h : l ≠ []) : (popT l).1 ∈ l ∧ (∀ t ∈ (popT l).2, t ∈ l) ∧ (popT l).2.length + 1 = l.length := by
  have hp := popT_perm h
  refine ⟨hp.mem_iff.1 List.mem_cons_self, fun t ht => hp.mem_iff.1 (List.mem_cons_of_mem _ ht), ?_⟩
  have := hp.length_eq; simpa using this
theorem FitX.pop (F : FitX A 0) (h : A.timers ≠ []) : FitX ({ A with timers := (popT A.timers).2 } : St) 0 := by
  have hp := popT_mem h
  have := F.few.2.2
  exact F.timers (m := A.made) (now := A.now) (fun t ht => F.tms t (hp.2.1 t ht)) (by omega)
theorem FitX.ticks {now : Int} : ∀ (f : Nat) (A : St) (n : Int), FitX A 0 → FitX (St.ticks now f A n).1 0
  | 0, A, n, F => F
  | f + 1, A, n, F => by
    unfold St.ticks
    split
    · rename_i h
      exact FitX.ticks f _ _ ((F.pop h.1).signal0 _)
    · exact F
theorem FitX.tick (F : FitX A 0) (hh : A.Hi) (n : Int) : (A.tick n).2.Fit := by
  unfold St.tick
  split
  · exact ⟨F, hh⟩
  · exact (FitX.ticks _ _ _ (F.timers (m := A.made) F.tms F.few.2.2)).runs
theorem FitX.listen (F : FitX A 0) (hh : A.Hi) (e n : Int) : (A.listen e n).2.Fit := by
  unfold St.listen
  split
  · exact ⟨F, hh⟩
  split
  · exact ⟨F, hh⟩
  · rename_i h1 h2
    refine ⟨⟨F.act, F.prio, F.que, F.nodup, F.inq, F.only, F.wtg, F.nwt, F.wq, F.wnd, F.exc, F.tms, ⟨?_, ?_⟩, F.few⟩, hh⟩
    · show (A.events.set _ _).length = 64; rw [List.length_set]; exact F.evs.1
    · intro u hu
      rcases List.mem_or_eq_of_mem_set hu with hu | rfl
      · exact F.evs.2 u hu
      · by_cases h0 : u = 0
        · exact .inl h0
        · exact .inr (isSem_iff (A := A).1 (by simpa [h0] using h2))
theorem FitX.event (F : FitX A 0) (hh : A.Hi) (e : Int) : (A.event e).2.Fit := by
  unfold St.event
  split
  · exact ⟨F, hh⟩
  · exact F.signal _
end Go.Proofs.YtkkdeljladihpaaGreat
