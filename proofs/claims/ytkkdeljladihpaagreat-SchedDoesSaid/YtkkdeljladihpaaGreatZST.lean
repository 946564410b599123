/-
  Parts of the proof: ZSQ, ZSR, ZSS, ZST. It states what the functions do; no further condition.
-/
import Derived.Test.YtkkdeljladihpaaGreatZSP
set_option linter.unusedVariables false
set_option linter.unusedSimpArgs false
/-
  The scheduler: parts of its record turned.
-/
namespace Go.Proofs.YtkkdeljladihpaaGreat
open Go.Sh Go.RowKit
set_option maxRecDepth 100000
section
variable {w0 w : World} {T0 T : Hp} {sb : Nat} {S : Sk} {L : List Sm} {A : St} {α β : Type} {Q : α → World → Prop}
/-- One new thing as a slice of its own. -/
theorem ok_new1 {B : Type} {U e : TypeId} {g : B → List Value} {n by_ : Nat} {z : B} (C : Tr en w0 T0 w T) (R : RowT Tryz.prog U e g n z by_) (hb : n ≤ 2 ^ 24) {F : B} {v : Value} (hv : v.cells = (g F).toArray) {f : Sl → M α} (hq : ∀ s w', Tr en w0 T0 w' T → Src Tryz.prog n U (.slice s.a s.len s.cap) 1 ([F].flatMap g) w' → Ok (f s) w' Q) : Ok (bnd (runV Tryz.prog .sl (Instr.buildSlice U 1 #[(0, v)])) f) w Q := by
  refine ok_bnd.2 (ok_build1R R hb (F := F) (v := v) hv ?_)
  have C4 := C.call ((Below.refl w.heap.size w).alloc (Nat.le_refl _) (.cells (g F).toArray e))
  have hnb : blk (w.alloc (.cells (g F).toArray e)) w.heap.size = some (g F).toArray := by rw [blk_alloc, if_pos rfl]
  refine hq _ _ C4 (Src.ofSlice _ R.und ⟨w.heap.size, 0, none⟩ 1 1 _ ?_ (fun j u hj => ?_) (flat_one' R.one))
  · rw [flat_length R.len]; simp
  · rw [addr_add, cell_blk hnb, Nat.zero_add, List.getElem?_toArray]
    simpa using hj
theorem ok_appG {B : Type} {U V Y e : TypeId} {g : B → List Value} {n by_ : Nat} {z : B} {mk : List B → Ob} (C : Tr en w0 T0 w T) (R : RowT Tryz.prog U e g n z by_) (hmk : ∀ l, en (mk l) = l.flatMap g) {s : Sl} {l ys : List B} (hr : Rw T mk s l) {x : Value} {k : Nat} (K : Src Tryz.prog n V x k (ys.flatMap g) w) (hby : (l.length + ys.length) * by_ ≤ 140737488355328) (hmx : l.length + ys.length ≤ 1000000) {f : Sl → M α}
    (hq : ∀ r w' T', Tr en w0 T0 w' T' → Rw T' mk r (l ++ ys) → (∀ c o, T c = some o → (∀ l, o ≠ mk l) → T' c = some o) → Ok (f r) w' Q) : Ok (bnd (runV Tryz.prog .sl (Builtin.append_ #[U, V] Y #[.slice s.a s.len s.cap, x])) f) w Q := by
  have hml : maxLen = 9223372036854775807 := by decide
  refine ok_appR C R hmk hr K hby (by omega) fun r w' T' C' hr' hT => hq r w' T' C' hr' ?_
  intro c p hc hne
  rcases hT with ⟨rfl, _, _⟩ | ⟨fb, M, rfl, hra, hfb⟩
  · exact hc
  rcases hfb with h0 | ⟨_, M0, hM⟩
  · exact put_new hc h0
  · exact put_other hc hM (hne _)
theorem rd_cell (h : S.queues.length = 17) (k : Nat) : (en (.sch S)).toArray[21 + k]? = ([slV S.timers, .int .i64 S.made] ++ S.events.map (.int .i64))[k]? := by
  show (Sk.en S).toArray[21 + k]? = _
  rw [List.getElem?_toArray]
  unfold Sk.en
  rw [List.append_assoc, List.getElem?_append_right (by simp; omega)]
  congr 1
  simp; omega
theorem rd_timers (h : S.queues.length = 17) : rdv .sl (en (.sch S)).toArray (0 + 21) = some S.timers := rdv_sl (by rw [Nat.zero_add]; exact rd_cell h 0)
theorem rd_made (h : S.queues.length = 17) : rdv (.int .i64) (en (.sch S)).toArray (0 + 22) = some S.made := rdv_int (by rw [Nat.zero_add]; exact rd_cell h 1)
theorem rd_event (h : S.queues.length = 17) {e : Nat} {v : Int} (hv : S.events[e]? = some v) : rdv (.int .i64) (en (.sch S)).toArray (23 + e) = some v := rdv_int (by
  rw [show 23 + e = 21 + (2 + e) by omega, rd_cell h]
  rw [List.getElem?_append_right (by simp)]
  simp [hv])
theorem Sk.en_split (s : Sk) : Sk.en s = ([.int .i64 s.now, .int .i64 s.active, slV s.procs, slV s.sems] ++ s.queues.map slV) ++ ([slV s.timers, .int .i64 s.made] ++ s.events.map (.int .i64)) := by
  unfold Sk.en; simp
theorem spl_tail {X Y Z : List Value} {k : Nat} {vs : List Value} (hX : X.length = 21) (h : spl Y k vs = Z) : spl (X ++ Y) (21 + k) vs = X ++ Z := by
  rw [← h, ← hX]
  unfold spl
  rw [List.take_append, List.take_of_length_le (by omega), Nat.add_sub_cancel_left, List.drop_append, List.drop_of_length_le (by omega), List.nil_append, show X.length + k + vs.length - X.length = k + vs.length by omega]
  simp
theorem ok_wrT (C : Tr en w0 T0 w T) (hs : T sb = some (.sch S)) (hl : S.queues.length = 17) (q' : Sl) {f : Unit → M α} (hq : ∀ w', Tr en w0 T0 w' (put T sb (.sch { S with timers := q' })) → Ok (f ()) w' Q) : Ok (bnd (wrs ⟨sb, 21, none⟩ 0 [.slice q'.a q'.len q'.cap]) f) w Q := by
  refine ok_twr0 C (.sch { S with timers := q' }) hs (by rw [sch_len]; simp; omega) rfl ?_ hq
  show spl (Sk.en S) 21 _ = Sk.en { S with timers := q' }
  rw [Sk.en_split, Sk.en_split]
  exact spl_tail (k := 0) (by simp; omega) rfl
theorem ok_wrM (C : Tr en w0 T0 w T) (hs : T sb = some (.sch S)) (hl : S.queues.length = 17) (m : Int) {f : Unit → M α} (hq : ∀ w', Tr en w0 T0 w' (put T sb (.sch { S with made := m })) → Ok (f ()) w' Q) : Ok (bnd (wrs (Addr.add ⟨sb, 0, none⟩ 22) 0 [.int .i64 m]) f) w Q := by
  refine ok_twr C (.sch { S with made := m }) hs (by rw [sch_len]; simp; omega) rfl ?_ hq
  show spl (Sk.en S) (0 + 22) _ = Sk.en { S with made := m }
  rw [Nat.zero_add, Sk.en_split, Sk.en_split]
  exact spl_tail (k := 1) (by simp; omega) rfl
theorem ok_wrV (C : Tr en w0 T0 w T) (hs : T sb = some (.sch S)) (hl : S.queues.length = 17) {e : Nat} (he : e < S.events.length) (m : Int) {f : Unit → M α} (hq : ∀ w', Tr en w0 T0 w' (put T sb (.sch { S with events := S.events.set e m })) → Ok (f ()) w' Q) : Ok (bnd (wrs ⟨sb, 23 + e, none⟩ 0 [.int .i64 m]) f) w Q := by
  refine ok_twr0 C (.sch { S with events := S.events.set e m }) hs (by rw [sch_len]; simp; omega) rfl ?_ hq
  show spl (Sk.en S) (23 + e) _ = Sk.en { S with events := S.events.set e m }
  rw [show 23 + e = 21 + (2 + e) by omega, Sk.en_split, Sk.en_split]
  refine spl_tail (by simp; omega) ?_
  have e1 : S.events = S.events.take e ++ S.events[e] :: S.events.drop (e + 1) := by
    conv => lhs; rw [← List.take_append_drop e S.events, List.drop_eq_getElem_cons he]
  have e2 : S.events.set e m = S.events.take e ++ m :: S.events.drop (e + 1) := by rw [List.set_eq_take_append_cons_drop, if_pos he]
  rw [e2]
  conv => lhs; rw [e1]
  rw [List.map_append, List.map_cons, List.map_append, List.map_cons, ← List.append_assoc, ← List.append_assoc, spl_at (by simp; omega)]
theorem ok_wrN (C : Tr en w0 T0 w T) (hs : T sb = some (.sch S)) (m : Int) {f : Unit → M α} (hq : ∀ w', Tr en w0 T0 w' (put T sb (.sch { S with now := m })) → Ok (f ()) w' Q) : Ok (bnd (wrs (Addr.add ⟨sb, 0, none⟩ 0) 0 [.int .i64 m]) f) w Q := by
  refine ok_twr C (.sch { S with now := m }) hs (by rw [sch_len]; simp; omega) rfl ?_ hq
  show spl (Sk.en S) 0 _ = Sk.en { S with now := m }
  unfold Sk.en spl; rfl
theorem ok_wrP (C : Tr en w0 T0 w T) (hs : T sb = some (.sch S)) (q' : Sl) {f : Unit → M α} (hq : ∀ w', Tr en w0 T0 w' (put T sb (.sch { S with procs := q' })) → Ok (f ()) w' Q) : Ok (bnd (wrs (Addr.add ⟨sb, 0, none⟩ 2) 0 [.slice q'.a q'.len q'.cap]) f) w Q := by
  refine ok_twr C (.sch { S with procs := q' }) hs (by rw [sch_len]; simp; omega) rfl ?_ hq
  show spl (Sk.en S) 2 _ = Sk.en { S with procs := q' }
  unfold Sk.en spl; rfl
theorem ok_wrS (C : Tr en w0 T0 w T) (hs : T sb = some (.sch S)) (q' : Sl) {f : Unit → M α} (hq : ∀ w', Tr en w0 T0 w' (put T sb (.sch { S with sems := q' })) → Ok (f ()) w' Q) : Ok (bnd (wrs (Addr.add ⟨sb, 0, none⟩ 3) 0 [.slice q'.a q'.len q'.cap]) f) w Q := by
  refine ok_twr C (.sch { S with sems := q' }) hs (by rw [sch_len]; simp; omega) rfl ?_ hq
  show spl (Sk.en S) 3 _ = Sk.en { S with sems := q' }
  unfold Sk.en spl; rfl
theorem SInv.setProcs (I : SInv T sb S L A) {q' : Sl} {l : List Pr} {T2 : Hp} (k2 : ∀ c o, T c = some o → (∀ l, o ≠ .procs l) → T2 c = some o) (hq : Rw T2 Ob.procs q' l) :
    SInv (put T2 sb (.sch { S with procs := q' })) sb { S with procs := q' } L { A with procs := l } := by
  have hs2 : T2 sb = some (.sch S) := k2 _ _ I.sch (by simp)
  have keep : ∀ c o, T c = some o → (∀ l, o ≠ .procs l) → (∀ s, o ≠ .sch s) → put T2 sb (.sch { S with procs := q' }) c = some o := fun c o hc n1 n2 => put_other (k2 _ _ hc n1) hs2 (n2 _)
  exact { I with sch := put_eq _ _ _, procs := hq.mono fun c l _ hc => put_other hc hs2 (by simp), sems := I.sems.mono fun c l _ hc => keep _ _ hc (by simp) (by simp), sem := fun i s r hs hr => ⟨(I.sem i s r hs hr).1, (I.sem i s r hs hr).2.mono fun c l _ hc => keep _ _ hc (by simp) (by simp)⟩, queue := fun p q hq => (I.queue p q hq).mono fun c l _ hc => keep _ _ hc (by simp) (by simp), timers := I.timers.mono fun c l _ hc => keep _ _ hc (by simp) (by simp) }
theorem SInv.addSem (I : SInv T sb S L A) {q' : Sl} {T2 : Hp} (k2 : ∀ c o, T c = some o → (∀ l, o ≠ .sems l) → T2 c = some o) (hq : Rw T2 Ob.sems q' (L ++ [⟨0, ⟨none, 0, 0⟩⟩])) :
    SInv (put T2 sb (.sch { S with sems := q' })) sb { S with sems := q' } (L ++ [⟨0, ⟨none, 0, 0⟩⟩]) { A with sems := A.sems ++ [(0, [])] } := by
  have hs2 : T2 sb = some (.sch S) := k2 _ _ I.sch (by simp)
  have keep : ∀ c o, T c = some o → (∀ l, o ≠ .sems l) → (∀ s, o ≠ .sch s) → put T2 sb (.sch { S with sems := q' }) c = some o := fun c o hc n1 n2 => put_other (k2 _ _ hc n1) hs2 (n2 _)
  have hsl := I.slen
  refine { I with sch := put_eq _ _ _, procs := I.procs.mono fun c l _ hc => keep _ _ hc (by simp) (by simp), sems := hq.mono fun c l _ hc => put_other hc hs2 (by simp), slen := by simp [hsl], sem := fun i s r hs hr => ?_, queue := fun p q hq => (I.queue p q hq).mono fun c l _ hc => keep _ _ hc (by simp) (by simp), timers := I.timers.mono fun c l _ hc => keep _ _ hc (by simp) (by simp) }
  simp only at hs
  rcases Nat.lt_or_ge i L.length with hi | hi
  · rw [List.getElem?_append_left (by omega)] at hs hr
    exact ⟨(I.sem i s r hs hr).1, (I.sem i s r hs hr).2.mono fun c l _ hc => keep _ _ hc (by simp) (by simp)⟩
  · have he : i = L.length := by
      rcases Nat.lt_or_ge L.length i with h | h
      · rw [List.getElem?_eq_none (by simp; omega)] at hr; cases hr
      · omega
    subst he
    rw [List.getElem?_append_right (by omega), hsl, Nat.sub_self] at hs
    rw [List.getElem?_append_right (by omega), Nat.sub_self] at hr
    simp only [List.getElem?_cons_zero, Option.some.injEq] at hs hr
    subst hs hr
    exact ⟨rfl, rw_nil _ _⟩
theorem SInv.setMade (I : SInv T sb S L A) (m : Int) : SInv (put T sb (.sch { S with made := m })) sb { S with made := m } L { A with made := m } := by
  have keep : ∀ c o, T c = some o → (∀ s, o ≠ .sch s) → put T sb (.sch { S with made := m }) c = some o := fun c o hc n2 => put_other hc I.sch (n2 _)
  exact { I with sch := put_eq _ _ _, made := rfl, procs := I.procs.mono fun c l _ hc => keep _ _ hc (by simp), sems := I.sems.mono fun c l _ hc => keep _ _ hc (by simp), sem := fun i s r hs hr => ⟨(I.sem i s r hs hr).1, (I.sem i s r hs hr).2.mono fun c l _ hc => keep _ _ hc (by simp)⟩, queue := fun p q hq => (I.queue p q hq).mono fun c l _ hc => keep _ _ hc (by simp), timers := I.timers.mono fun c l _ hc => keep _ _ hc (by simp) }
theorem SInv.setNow (I : SInv T sb S L A) (m : Int) : SInv (put T sb (.sch { S with now := m })) sb { S with now := m } L { A with now := m } := by
  have keep : ∀ c o, T c = some o → (∀ s, o ≠ .sch s) → put T sb (.sch { S with now := m }) c = some o := fun c o hc n2 => put_other hc I.sch (n2 _)
  exact { I with sch := put_eq _ _ _, now := rfl, procs := I.procs.mono fun c l _ hc => keep _ _ hc (by simp), sems := I.sems.mono fun c l _ hc => keep _ _ hc (by simp), sem := fun i s r hs hr => ⟨(I.sem i s r hs hr).1, (I.sem i s r hs hr).2.mono fun c l _ hc => keep _ _ hc (by simp)⟩, queue := fun p q hq => (I.queue p q hq).mono fun c l _ hc => keep _ _ hc (by simp), timers := I.timers.mono fun c l _ hc => keep _ _ hc (by simp) }
theorem SInv.setEvent (I : SInv T sb S L A) (e : Nat) (m : Int) : SInv (put T sb (.sch { S with events := S.events.set e m })) sb { S with events := S.events.set e m } L { A with events := A.events.set e m } := by
  have keep : ∀ c o, T c = some o → (∀ s, o ≠ .sch s) → put T sb (.sch { S with events := S.events.set e m }) c = some o := fun c o hc n2 => put_other hc I.sch (n2 _)
  exact { I with sch := put_eq _ _ _, events := by show S.events.set e m = A.events.set e m; rw [I.events], procs := I.procs.mono fun c l _ hc => keep _ _ hc (by simp), sems := I.sems.mono fun c l _ hc => keep _ _ hc (by simp), sem := fun i s r hs hr => ⟨(I.sem i s r hs hr).1, (I.sem i s r hs hr).2.mono fun c l _ hc => keep _ _ hc (by simp)⟩, queue := fun p q hq => (I.queue p q hq).mono fun c l _ hc => keep _ _ hc (by simp), timers := I.timers.mono fun c l _ hc => keep _ _ hc (by simp) }
end
end Go.Proofs.YtkkdeljladihpaaGreat

/-
  The scheduler: the calls, but for those of time.
-/
namespace Go.Proofs.YtkkdeljladihpaaGreat
open Go.Sh Go.RowKit
set_option maxRecDepth 100000
section
variable {w0 w : World} {T0 T : Hp} {sb : Nat} {S : Sk} {L : List Sm} {A : St} {α β : Type} {Q : α → World → Prop}
theorem FitX.ready_ok {x : Nat} (F : FitX A x) {n : Nat} (h1 : 1 ≤ n) (h2 : n ≤ A.procs.length) : (1 ≤ (A.pr n).prio ∧ (A.pr n).prio ≤ 16) ∧ (A.queues (A.pr n).prio.toNat).length ≤ 4096 := by
  have := F.pr_ok h1 h2
  have := F.ql (A.pr n).prio.toNat
  have := F.few
  exact ⟨by omega, by omega⟩
/-- Somebody is ready, then who runs is asked. -/
theorem ready_runs (C : Tr en w0 T0 w T) (I : SInv T sb S L A) {n : Nat} (F : FitX A n) (h1 : 1 ≤ n) (h2 : n ≤ A.procs.length) {x : Int} (hx : x = n) {f : M α} (hq : ∀ w' T' S' L', Tr en w0 T0 w' T' → SInv T' sb S' L' (A.ready n).runs → Ok f w' Q) : Ok (bnd (f63_ready (some ⟨sb, 0, none⟩) x) fun _ => bnd (f62_runs (some ⟨sb, 0, none⟩)) fun _ => f) w Q := by
  have hr := F.ready_ok h1 h2
  refine ok_scall C (ready_spec C.th I h1 h2 F.few.1 hr.1 hr.2 hx) fun _ w1 T1 C1 h => ?_
  obtain ⟨S1, L1, I1⟩ := h
  refine ok_scall C1 (runs_spec C1.th I1 (F.ready h1 h2).rn) fun _ w2 T2 C2 h => ?_
  obtain ⟨S2, L2, I2⟩ := h
  exact hq _ _ _ _ C2 I2
theorem ok_runs (C : Tr en w0 T0 w T) (I : SInv T sb S L A) (F : FitX A 0) {f : M α} (hq : ∀ w' T' S' L', Tr en w0 T0 w' T' → SInv T' sb S' L' A.runs → Ok f w' Q) : Ok (bnd (f62_runs (some ⟨sb, 0, none⟩)) fun _ => f) w Q := by
  refine ok_scall C (runs_spec C.th I F.rn) fun _ w2 T2 C2 h => ?_
  obtain ⟨S2, L2, I2⟩ := h
  exact hq _ _ _ _ C2 I2
theorem fork_spec (h : Th en w T) (I : SInv T sb S L A) (F : FitX A 0) (x : Int) : Sr (f16_Fork (some ⟨sb, 0, none⟩) x) w T fun r _ T' => r = (A.fork x).1 ∧ ∃ S' L', SInv T' sb S' L' (A.fork x).2 := by
  unfold f16_Fork St.fork
  have C := Tr.refl h
  have hpl := I.procs.len
  by_cases hx : x < 1 ∨ x > 16
  · rw [if_pos hx]
    exact ok_true (by rcases hx with h | h <;> simp [h]) (ok_ret.2 ⟨T, C, rfl, S, L, I⟩)
  rw [if_neg hx]
  refine ok_false (by simp only [not_or] at hx; simp [hx.1, hx.2]) ?_
  refine ok_drfS (ok_tld C I.sch (x := S.procs) rfl ?_)
  by_cases hl : A.procs.length ≥ 4096
  · rw [if_pos hl]
    exact ok_true (by rw [hpl]; simp only [ge_iff_le, decide_eq_true_eq]; omega) (ok_ret.2 ⟨T, C, rfl, S, L, I⟩)
  rw [if_neg hl]
  refine ok_false (by rw [hpl]; simp only [ge_iff_le, decide_eq_false_iff_not]; omega) ?_
  refine ok_drfS (ok_tld C I.sch (x := S.procs) rfl ?_)
  refine ok_new1 C row49 (by decide) (F := ⟨x, 0, 0⟩) rfl fun s5 w1 C1 K => ?_
  refine ok_appG C1 row49 (mk := Ob.procs) (fun _ => rfl) I.procs K (by simp; omega) (by simp; omega) fun r w2 T2 C2 hr2 hT2 => ?_
  refine ok_drfS (ok_wrP C2 (hT2 _ _ I.sch (by simp)) r fun w3 C3 => ?_)
  have I3 := I.setProcs hT2 hr2
  have F3 := F.new (p := x) (by omega) (by omega)
  refine ok_drfS (ok_tld C3 I3.sch (x := r) rfl ?_)
  have hrl : r.len = A.procs.length + 1 := by rw [hr2.len]; simp
  have hr := F3.ready_ok (n := A.procs.length + 1) (by omega) (by simp)
  refine ok_scall C3 (ready_spec C3.th I3 (n := A.procs.length + 1) (by omega) (by simp) F3.few.1 hr.1 hr.2 (by rw [hrl])) fun _ w4 T4 C4 h => ?_
  obtain ⟨S4, L4, I4⟩ := h
  refine ok_drfS (ok_tld C4 I4.sch (x := S4.procs) rfl ?_)
  refine ok_runs C4 I4 (F3.ready (by omega) (by simp)) fun w5 T5 S5 L5 C5 I5 => ?_
  have e : (S4.procs.len : Int) = (A.procs.length : Int) + 1 := by
    rw [I4.procs.len]
    have : (({ A with procs := A.procs ++ [⟨x, 0, 0⟩] } : St).ready (A.procs.length + 1)).procs.length = A.procs.length + 1 := by
      unfold St.ready
      show (({ A with procs := A.procs ++ [⟨x, 0, 0⟩] } : St).setPr _ _).procs.length = _
      rw [St.setPr_len]; simp
    rw [this]; simp
  exact ok_ret.2 ⟨T5, C5, by rw [e], S5, L5, I5⟩
theorem active_spec (C : Tr en w0 T0 w T) (I : SInv T sb S L A) {f : Int → M α} (hq : Ok (f (A.active : Int)) w Q) : Ok (bnd (f7_Active (some ⟨sb, 0, none⟩)) f) w Q := by
  unfold f7_Active
  refine ok_bnd.2 (ok_drfS (ok_tld C I.sch (x := S.active) rfl (ok_ret.2 ?_)))
  rw [I.active]; exact hq
theorem yield_spec (h : Th en w T) (I : SInv T sb S L A) (F : FitX A 0) : Sr (f21_Yield (some ⟨sb, 0, none⟩)) w T fun r _ T' => r = A.yield.1 ∧ ∃ S' L', SInv T' sb S' L' A.yield.2 := by
  unfold f21_Yield St.yield
  have C := Tr.refl h
  refine ok_drfS (ok_tld C I.sch (x := S.active) rfl ?_)
  rw [I.active]
  by_cases h0 : A.active = 0
  · rw [if_pos h0]
    exact ok_true (by simpa using h0) (ok_ret.2 ⟨T, C, rfl, S, L, I⟩)
  rw [if_neg h0]
  refine ok_false (by simpa using h0) ?_
  refine ok_drfS (ok_tld C I.sch (x := S.active) rfl ?_)
  refine ok_drfS (ok_active C I (n := 0) rfl fun w1 C1 => ?_)
  refine ready_runs C1 (I.on 0) F.off (by omega) F.rn.act (by rw [I.active]) fun w2 T2 S2 L2 C2 I2 => ?_
  exact ok_ret.2 ⟨T2, C2, rfl, S2, L2, I2⟩
theorem semaphore_spec (h : Th en w T) (I : SInv T sb S L A) (F : FitX A 0) : Sr (f17_Semaphore (some ⟨sb, 0, none⟩)) w T fun r _ T' => r = A.semaphore.1 ∧ ∃ S' L', SInv T' sb S' L' A.semaphore.2 := by
  unfold f17_Semaphore St.semaphore
  have C := Tr.refl h
  have hsl := I.slen
  have hpl := I.sems.len
  refine ok_drfS (ok_tld C I.sch (x := S.sems) rfl ?_)
  by_cases hl : A.sems.length ≥ 4096
  · rw [if_pos hl]
    exact ok_true (by rw [hpl]; simp only [ge_iff_le, decide_eq_true_eq]; omega) (ok_ret.2 ⟨T, C, rfl, S, L, I⟩)
  rw [if_neg hl]
  refine ok_false (by rw [hpl]; simp only [ge_iff_le, decide_eq_false_iff_not]; omega) ?_
  refine ok_drfS (ok_tld C I.sch (x := S.sems) rfl ?_)
  refine ok_new1 C row50 (by decide) (F := ⟨0, ⟨none, 0, 0⟩⟩) rfl fun s5 w1 C1 K => ?_
  refine ok_appG C1 row50 (mk := Ob.sems) (fun _ => rfl) I.sems K (by simp; omega) (by simp; omega) fun r w2 T2 C2 hr2 hT2 => ?_
  refine ok_drfS (ok_wrS C2 (hT2 _ _ I.sch (by simp)) r fun w3 C3 => ?_)
  have I3 := I.addSem hT2 hr2
  refine ok_drfS (ok_tld C3 I3.sch (x := r) rfl ?_)
  have hrl : r.len = A.sems.length + 1 := by rw [hr2.len]; simp [hsl]
  exact ok_ret.2 ⟨_, C3, by rw [hrl]; simp, _, _, I3⟩
theorem wait_spec (h : Th en w T) (I : SInv T sb S L A) (F : FitX A 0) (x : Int) : Sr (f18_Wait (some ⟨sb, 0, none⟩) x) w T fun r _ T' => r = (A.wait x).1 ∧ ∃ S' L', SInv T' sb S' L' (A.wait x).2 := by
  unfold f18_Wait
  have C := Tr.refl h
  have hf := F.few
  have hact := F.rn.act
  refine sem_spec C I hf.2.1 (fun hx => ?_) fun n b M r hn hx h1 h2 sat g1 g2 g3 g4 g5 => ?_
  · refine ok_drfS (ok_tld C I.sch (x := S.active) rfl ?_)
    rw [I.active]
    unfold St.wait
    by_cases h0 : A.active = 0
    · rw [if_pos h0]
      exact ok_true (by simpa using h0) (ok_ret.2 ⟨T, C, rfl, S, L, I⟩)
    · rw [if_neg h0, if_pos hx]
      exact ok_false (by simpa using h0) (ok_true rfl (ok_ret.2 ⟨T, C, rfl, S, L, I⟩))
  subst hn
  have hex := F.exc n h1 h2
  have hwl := F.wl (i := n) h1 h2
  unfold St.wait
  rw [hx]
  refine ok_drfS (ok_tld C I.sch (x := S.active) rfl ?_)
  rw [I.active]
  by_cases h0 : A.active = 0
  · rw [if_pos h0]
    exact ok_true (by simpa using h0) (ok_ret.2 ⟨T, C, rfl, S, L, I⟩)
  rw [if_neg h0, if_neg (by simp), Int.toNat_natCast]
  refine ok_false (by simpa using h0) (ok_false rfl ?_)
  refine ok_drfS (ok_sld C sat (x := r.excess) (by decide) rfl ?_)
  rw [g4]
  by_cases hp : (A.sm n).1 > 0
  · rw [if_pos hp]
    refine ok_true (by simpa using hp) ?_
    refine ok_drfS (ok_sld C sat (x := r.excess) (by decide) rfl ?_)
    rw [g4, wI (by omega)]
    refine ok_drfS ?_
    refine ok_swr C sat ⟨(A.sm n).1 - 1, r.queue⟩ (by show 0 + 1 ≤ 2; decide) rfl rfl fun w1 C1 => ?_
    exact ok_ret.2 ⟨_, C1, rfl, S, _, I.setSm (T2 := T) (r' := ⟨(A.sm n).1 - 1, r.queue⟩) (l := (A.sm n).2) h1 h2 sat g1 g2 (fun c o hc _ => hc) g5⟩
  rw [if_neg hp]
  refine ok_false (by simpa using hp) ?_
  have ha1 : 1 ≤ A.active := by omega
  obtain ⟨b3, M3, at3, h43, h53⟩ := I.pat ha1 hact
  refine ok_drfS (ok_tld C I.sch (x := S.active) rfl ?_)
  rw [I.active]
  refine of_spec C I.sch at3 ha1 (by omega) rfl ?_
  refine ok_drfS ?_
  refine ok_stand C I at3 h43 h53 3 fun w4 T4 M4 C4 I4 at4 h44 h54 => ?_
  have hlt : A.active - 1 < M4.length := by
    rcases Nat.lt_or_ge (A.active - 1) M4.length with h | h
    · exact h
    · have := at4.get; rw [List.getElem?_eq_none h] at this; cases this
  refine ok_drfS ?_
  refine ok_pwr C4 at4 { A.pr A.active with standing := 3, sem := (n : Int) } (by show 2 + 1 ≤ 3; decide) rfl rfl fun w5 C5 => ?_
  have I5 := I4.setPr at4 (by rw [St.setPr_len]; exact h44) h54 { A.pr A.active with standing := 3, sem := (n : Int) }
  have hss : (A.setPr A.active { A.pr A.active with standing := 3 }).setPr A.active { A.pr A.active with standing := 3, sem := (n : Int) } = A.setPr A.active { A.pr A.active with standing := 3, sem := (n : Int) } := by
    unfold St.setPr; simp only [List.set_set]
  rw [hss] at I5
  generalize put T4 b3 (.procs (M4.set (A.active - 1) { A.pr A.active with standing := 3, sem := (n : Int) })) = T5 at C5 I5
  obtain ⟨b6, L6, r6, sat6, k1, k2, k3, k4, k5⟩ := I5.sat (n := n) h1 h2
  have e6 : b6 = b := by
    have e1 := sat6.a
    rw [sat.a] at e1
    simp only [Option.some.injEq, Addr.mk.injEq, and_true] at e1
    exact e1.symm
  subst e6
  have er : r6 = r := by rw [g3] at k3; simpa using k3.symm
  subst er
  have k5' : Rw T5 (Ob.ints (.sem (n - 1))) r6.queue (ns (A.sm n).2) := k5
  simp only [bnd_as, bnd_ret]
  refine ok_tord C5 fun o w6 C6 => ?_
  refine ok_drfS (ok_sld C6 sat6 (x := r6.queue) (by decide) (rdv_sl (by rfl)) ?_)
  refine ok_drfS (ok_tld C6 I5.sch (x := S.active) rfl ?_)
  rw [I.active]
  refine ok_new1 C6 row31 (by decide) (F := (A.active : Int)) rfl fun s7 w7 C7 K => ?_
  refine ok_tchk C7 sat6.at_ (flat_rdv (g := Sm.en) (t := .sl) (x := r6.queue) (fun _ => rfl) sat6.get (by decide) (rdv_sl (by rfl))) ?_
  refine ok_appI C7 k5' K (by rw [ns_length]; simp; omega) fun q' w8 T8 C8 hq8 hT8 => ?_
  have sat8 := sat6.ext (hT8 _ _ sat6.at_ (by simp))
  refine ok_drfS ?_
  refine ok_swr C8 sat8 ⟨r6.excess, q'⟩ (by show 1 + 1 ≤ 2; decide) rfl rfl fun w9 C9 => ?_
  have I9 := I5.setSm (r' := ⟨r6.excess, q'⟩) (l := (A.sm n).2 ++ [A.active]) h1 h2 sat6 k1 k2 hT8 (by
    have : ns ((A.sm n).2 ++ [A.active]) = ns (A.sm n).2 ++ [(A.active : Int)] := by simp [ns]
    rw [this]; exact hq8)
  simp only at I9
  rw [g4] at C9 I9
  refine ok_drfS (ok_active C9 I9 (n := 0) rfl fun w10 C10 => ?_)
  have hp' := F.pr_ok ha1 hact
  have F1 := F.off.setPr (A := A.on 0) ha1 hact (r := { A.pr A.active with standing := 3, sem := (n : Int) }) ⟨hp'.1, hp'.2.1, by simp, by simp⟩
  have e := St.pr_setPr_eq (A := A.on 0) (r := { A.pr A.active with standing := 3, sem := (n : Int) }) (n := A.active) ha1 hact
  have hx0 : (A.sm n).1 = 0 := by omega
  have F2 := F1.wai (i := n) ha1 (by rw [St.setPr_len]; exact hact) (by rw [e]) (by rw [e]) h1 h2 hx0
  rw [← hx0] at F2
  refine ok_runs C10 (I9.on 0) F2 fun w11 T11 S11 L11 C11 I11 => ?_
  exact ok_ret.2 ⟨T11, C11, rfl, S11, L11, I11⟩
end
end Go.Proofs.YtkkdeljladihpaaGreat

/-
  The scheduler: more calls; what can be asked.
-/
namespace Go.Proofs.YtkkdeljladihpaaGreat
open Go.Sh Go.RowKit
set_option maxRecDepth 100000
section
variable {w0 w : World} {T0 T : Hp} {sb : Nat} {S : Sk} {L : List Sm} {A : St} {α β : Type} {Q : α → World → Prop}
/-- A number of a process, or not. -/
theorem ok_inP (C : Tr en w0 T0 w T) (I : SInv T sb S L A) {x : Int} {f : Bool → M α} (hq : Ok (f (decide (x < 1 ∨ x > A.procs.length))) w Q) : Ok (bnd (cnd (decide (x < (1 : Int))) (ret true) (bnd (drf (some ⟨sb, 0, none⟩)) fun (p1 : Addr) => bnd (ld .sl (Addr.add p1 2)) fun (v2 : Sl) => ret (decide (x > (v2.len : Int))))) f) w Q := by
  refine ok_bnd.2 ?_
  by_cases h : x < 1
  · refine ok_true (by simpa using h) (ok_ret.2 ?_)
    rw [decide_eq_true (show x < 1 ∨ x > A.procs.length from .inl h)] at hq; exact hq
  · refine ok_false (by simpa using h) (ok_drfS (ok_tld C I.sch (x := S.procs) rfl (ok_ret.2 ?_)))
    rw [I.procs.len]
    have : decide (x > (A.procs.length : Int)) = decide (x < 1 ∨ x > A.procs.length) := decide_eq_decide.2 (by omega)
    rw [this]; exact hq
theorem ok_alive (C : Tr en w0 T0 w T) (I : SInv T sb S L A) (hf : A.procs.length ≤ 4096) {x : Int} {f : Int → M α} (hq : Ok (f (A.alive x)) w Q) : Ok (bnd (f66_alive (some ⟨sb, 0, none⟩) x) f) w Q := by
  unfold f66_alive
  refine ok_bnd.2 (ok_inP C I ?_)
  unfold St.alive at hq
  by_cases h : x < 1 ∨ x > A.procs.length
  · rw [if_pos h] at hq
    exact ok_true (by simpa using h) (ok_ret.2 hq)
  rw [if_neg h] at hq
  refine ok_false (by simpa using h) ?_
  obtain ⟨n, rfl⟩ : ∃ n : Nat, x = n := ⟨x.toNat, by omega⟩
  rw [Int.toNat_natCast] at hq
  obtain ⟨b, M, at_, h4, h5⟩ := I.pat (n := n) (by omega) (by omega)
  refine of_spec C I.sch at_ (by omega) (by omega) rfl ?_
  refine ok_drfS (ok_pld C at_ (x := (A.pr n).standing) (by decide) rfl ?_)
  by_cases h5 : (A.pr n).standing = 5
  · rw [if_pos h5] at hq
    exact ok_true (by simpa using h5) (ok_ret.2 hq)
  · rw [if_neg h5] at hq
    exact ok_false (by simpa using h5) (ok_ret.2 hq)
theorem suspend_spec (h : Th en w T) (I : SInv T sb S L A) (F : FitX A 0) (x : Int) : Sr (f30_Suspend (some ⟨sb, 0, none⟩) x) w T fun r _ T' => r = (A.suspend x).1 ∧ ∃ S' L', SInv T' sb S' L' (A.suspend x).2 := by
  unfold f30_Suspend St.suspend
  have C := Tr.refl h
  have hf := F.few
  refine ok_alive C I hf.1 ?_
  by_cases ha : A.alive x ≠ 0
  · rw [if_pos ha]
    exact ok_true (by simpa using ha) (ok_ret.2 ⟨T, C, rfl, S, L, I⟩)
  rw [if_neg ha]
  refine ok_false (by simpa using ha) ?_
  have ha := alive_ok ha
  obtain ⟨n, rfl⟩ : ∃ n : Nat, x = n := ⟨x.toNat, by omega⟩
  rw [Int.toNat_natCast] at ha ⊢
  obtain ⟨b, M, at_, h4, h5⟩ := I.pat (n := n) (by omega) (by omega)
  refine of_spec C I.sch at_ (by omega) (by omega) rfl ?_
  refine ok_drfS (ok_pld C at_ (x := (A.pr n).standing) (by decide) rfl ?_)
  by_cases hs : (A.pr n).standing = 4
  · rw [if_pos hs]
    exact ok_true (by simpa using hs) (ok_ret.2 ⟨T, C, rfl, S, L, I⟩)
  rw [if_neg hs]
  refine ok_false (by simpa using hs) ?_
  refine ok_scall C (out_spec C.th I F (n := n) (by omega) (by omega) rfl) fun _ w1 T1 C1 h => ?_
  obtain ⟨S1, L1, I1, _⟩ := h
  have F1 := F.out (x := n) (by omega) (by omega)
  have el := out_len A n
  have hp := F1.1.pr_ok (n := n) (by omega) (by omega)
  obtain ⟨b2, M2, at2, h42, h52⟩ := I1.pat (n := n) (by omega) (by omega)
  refine of_spec C1 I1.sch at2 (by omega) (by omega) rfl ?_
  refine ok_drfS ?_
  refine ok_stand C1 I1 at2 h42 h52 4 fun w3 T3 M3 C3 I3 at3 h43 h53 => ?_
  refine ok_runs C3 I3 ((F1.1.setPr (by omega) (by omega) (r := { (A.out n).pr n with standing := 4 }) ⟨hp.1, hp.2.1, by simp, by simp⟩).nowhere fun h1 h2 => ?_) fun w4 T4 S4 L4 C4 I4 => ok_ret.2 ⟨T4, C4, rfl, S4, L4, I4⟩
  rw [St.pr_setPr_eq h1 (by omega)]
  exact ⟨by simp, by simp, by simp, F1.2⟩
theorem resume_spec (h : Th en w T) (I : SInv T sb S L A) (F : FitX A 0) (x : Int) : Sr (f24_Resume (some ⟨sb, 0, none⟩) x) w T fun r _ T' => r = (A.resume x).1 ∧ ∃ S' L', SInv T' sb S' L' (A.resume x).2 := by
  unfold f24_Resume St.resume
  have C := Tr.refl h
  have hf := F.few
  refine ok_alive C I hf.1 ?_
  by_cases ha : A.alive x ≠ 0
  · rw [if_pos ha]
    exact ok_true (by simpa using ha) (ok_ret.2 ⟨T, C, rfl, S, L, I⟩)
  rw [if_neg ha]
  refine ok_false (by simpa using ha) ?_
  have ha := alive_ok ha
  obtain ⟨n, rfl⟩ : ∃ n : Nat, x = n := ⟨x.toNat, by omega⟩
  rw [Int.toNat_natCast] at ha ⊢
  obtain ⟨b, M, at_, h4, h5⟩ := I.pat (n := n) (by omega) (by omega)
  refine of_spec C I.sch at_ (by omega) (by omega) rfl ?_
  refine ok_drfS (ok_pld C at_ (x := (A.pr n).standing) (by decide) rfl ?_)
  by_cases hs : (A.pr n).standing ≠ 4
  · rw [if_pos hs]
    exact ok_true (by simpa using hs) (ok_ret.2 ⟨T, C, rfl, S, L, I⟩)
  rw [if_neg hs]
  refine ok_false (by simpa using hs) ?_
  exact ready_runs C I (F.aside (x := n) fun _ _ => by omega) (by omega) (by omega) rfl fun w2 T2 S2 L2 C2 I2 => ok_ret.2 ⟨T2, C2, rfl, S2, L2, I2⟩
theorem terminate_spec (h : Th en w T) (I : SInv T sb S L A) (F : FitX A 0) (x : Int) : Sr (f20_Terminate (some ⟨sb, 0, none⟩) x) w T fun r _ T' => r = (A.terminate x).1 ∧ ∃ S' L', SInv T' sb S' L' (A.terminate x).2 := by
  unfold f20_Terminate St.terminate
  have C := Tr.refl h
  have hf := F.few
  refine ok_alive C I hf.1 ?_
  by_cases ha : A.alive x ≠ 0
  · rw [if_pos ha]
    exact ok_true (by simpa using ha) (ok_ret.2 ⟨T, C, rfl, S, L, I⟩)
  rw [if_neg ha]
  refine ok_false (by simpa using ha) ?_
  have ha := alive_ok ha
  obtain ⟨n, rfl⟩ : ∃ n : Nat, x = n := ⟨x.toNat, by omega⟩
  rw [Int.toNat_natCast] at ha ⊢
  refine ok_scall C (out_spec C.th I F (n := n) (by omega) (by omega) rfl) fun _ w1 T1 C1 h => ?_
  obtain ⟨S1, L1, I1, _⟩ := h
  have F1 := F.out (x := n) (by omega) (by omega)
  have el := out_len A n
  have hp := F1.1.pr_ok (n := n) (by omega) (by omega)
  obtain ⟨b2, M2, at2, h42, h52⟩ := I1.pat (n := n) (by omega) (by omega)
  refine of_spec C1 I1.sch at2 (by omega) (by omega) rfl ?_
  refine ok_drfS ?_
  refine ok_stand C1 I1 at2 h42 h52 5 fun w3 T3 M3 C3 I3 at3 h43 h53 => ?_
  refine ok_runs C3 I3 ((F1.1.setPr (by omega) (by omega) (r := { (A.out n).pr n with standing := 5 }) ⟨hp.1, hp.2.1, by simp, by simp⟩).nowhere fun h1 h2 => ?_) fun w4 T4 S4 L4 C4 I4 => ok_ret.2 ⟨T4, C4, rfl, S4, L4, I4⟩
  rw [St.pr_setPr_eq h1 (by omega)]
  exact ⟨by simp, by simp, by simp, F1.2⟩
/-- A process's priority turned. -/
theorem ok_prio (C : Tr en w0 T0 w T) (I : SInv T sb S L A) {n b : Nat} {r : Pr} {L' : List Pr} (at_ : PAt T S n r b L') (h4 : L'.take A.procs.length = A.procs) (h3 : L'.length = S.procs.cap) (s : Int) {f : Unit → M α}
    (hq : ∀ w' T', Tr en w0 T0 w' T' → SInv T' sb S L (A.setPr n { r with prio := s }) → Ok (f ()) w' Q) : Ok (bnd (wrs (Addr.add ⟨b, 3 * (n - 1), none⟩ 0) 0 [.int .i64 s]) f) w Q := by
  refine ok_pwr C at_ { r with prio := s } (by show 0 + 1 ≤ 3; decide) rfl rfl fun w1 C1 => ?_
  exact hq _ _ C1 (I.setPr at_ h4 h3 _)
theorem setPriority_spec (h : Th en w T) (I : SInv T sb S L A) (F : FitX A 0) (x p : Int) : Sr (f34_SetPriority (some ⟨sb, 0, none⟩) x p) w T fun r _ T' => r = (A.setPriority x p).1 ∧ ∃ S' L', SInv T' sb S' L' (A.setPriority x p).2 := by
  unfold f34_SetPriority St.setPriority
  have C := Tr.refl h
  have hf := F.few
  refine ok_alive C I hf.1 ?_
  by_cases ha : A.alive x ≠ 0
  · rw [if_pos ha]
    exact ok_true (by simpa using ha) (ok_ret.2 ⟨T, C, rfl, S, L, I⟩)
  rw [if_neg ha]
  refine ok_false (by simpa using ha) ?_
  have ha := alive_ok ha
  by_cases hp : p < 1 ∨ p > 16
  · rw [if_pos hp]
    exact ok_true (by rcases hp with h | h <;> simp [h]) (ok_ret.2 ⟨T, C, rfl, S, L, I⟩)
  rw [if_neg hp]
  refine ok_false (by simp only [not_or] at hp; simp [hp.1, hp.2]) ?_
  obtain ⟨n, rfl⟩ : ∃ n : Nat, x = n := ⟨x.toNat, by omega⟩
  rw [Int.toNat_natCast] at ha ⊢
  obtain ⟨b, M, at_, h4, h5⟩ := I.pat (n := n) (by omega) (by omega)
  refine of_spec C I.sch at_ (by omega) (by omega) rfl ?_
  refine ok_drfS (ok_pld C at_ (x := (A.pr n).standing) (by decide) rfl ?_)
  by_cases hs : (A.pr n).standing ≠ 1
  · rw [if_pos hs]
    refine ok_true (by simpa using hs) ?_
    refine ok_drfS (ok_prio C I at_ h4 h5 p fun w1 T1 C1 I1 => ?_)
    exact ok_runs C1 I1 (F.setPrio (by omega) (by omega) hs (by omega)) fun w4 T4 S4 L4 C4 I4 => ok_ret.2 ⟨T4, C4, rfl, S4, L4, I4⟩
  rw [if_neg hs]
  refine ok_false (by simpa using hs) ?_
  refine ok_scall C (out_spec C.th I F (n := n) (by omega) (by omega) rfl) fun _ w1 T1 C1 h => ?_
  obtain ⟨S1, L1, I1, eS⟩ := h
  have F1 := F.out (x := n) (by omega) (by omega)
  have el := out_len A n
  have hpp := F1.1.pr_ok (n := n) (by omega) (by omega)
  obtain ⟨b2, M2, at2, h42, h52⟩ := I1.pat (n := n) (by omega) (by omega)
  have e2 : b2 = b := by
    have e1 := at2.a
    rw [eS, at_.a] at e1
    simp only [Option.some.injEq, Addr.mk.injEq, and_true] at e1
    exact e1.symm
  subst e2
  refine ok_drfS (ok_prio C1 I1 at2 h42 h52 p fun w3 T3 C3 I3 => ?_)
  exact ready_runs C3 I3 (F1.1.setPr (by omega) (by omega) (r := { (A.out n).pr n with prio := p }) ⟨by simp only; omega, by simp only; omega, hpp.2.2.1, hpp.2.2.2⟩) (by omega) (by rw [St.setPr_len]; omega) rfl fun w4 T4 S4 L4 C4 I4 => ok_ret.2 ⟨T4, C4, rfl, S4, L4, I4⟩
theorem ok_eix {b o : Nat} {i : Int} {p : Nat} (hi : i = p) (hp : p < 64) {f : Addr → M α} (hq : Ok (f ⟨b, o + p, none⟩) w Q) : Ok (bnd (ixA 64 1 ⟨b, o, none⟩ i) f) w Q := by
  subst hi
  refine ok_bnd.2 ?_
  unfold ixA
  rw [if_pos ⟨by omega, by omega⟩]
  refine ok_ret.2 ?_
  rw [addr_add, Int.toNat_natCast, Nat.mul_one]
  exact hq
theorem listen_spec (h : Th en w T) (I : SInv T sb S L A) (F : FitX A 0) (x n : Int) : Sr (f38_Listen (some ⟨sb, 0, none⟩) x n) w T fun r _ T' => r = (A.listen x n).1 ∧ ∃ S' L', SInv T' sb S' L' (A.listen x n).2 := by
  unfold f38_Listen St.listen
  have C := Tr.refl h
  have hf := F.few
  by_cases hx : x < 0 ∨ x ≥ 64
  · rw [if_pos hx]
    exact ok_true (by rcases hx with h | h <;> simp [h]) (ok_ret.2 ⟨T, C, rfl, S, L, I⟩)
  rw [if_neg hx]
  refine ok_false (by simp only [not_or] at hx; simp only [hx.1, hx.2, decide_false, cond_false]) ?_
  have key : ∀ {f : Bool → M Int} {Q : Int → World → Prop}, Ok (f (decide (n ≠ 0 ∧ A.isSem n = false))) w Q → Ok (bnd (cnd (n != (0 : Int)) (bnd (f52_sem (some ⟨sb, 0, none⟩) n) fun (r1 : Option Addr) => ret (Option.isNone r1)) (ret false)) f) w Q := by
    intro f Q hq
    refine ok_bnd.2 ?_
    by_cases h0 : n = 0
    · refine ok_false (by simpa using h0) (ok_ret.2 ?_)
      rw [decide_eq_false (by simp [h0])] at hq; exact hq
    · refine ok_true (by simpa using h0) ?_
      refine sem_spec C I hf.2.1 (fun hs => ok_ret.2 ?_) fun m b M r hn hs _ _ _ _ _ _ _ _ => ok_ret.2 ?_
      · rw [decide_eq_true ⟨h0, hs⟩] at hq; exact hq
      · rw [decide_eq_false (by simp [hs])] at hq; exact hq
  refine key ?_
  by_cases hs : n ≠ 0 ∧ A.isSem n = false
  · rw [if_pos hs]
    exact ok_true (by simpa using hs) (ok_ret.2 ⟨T, C, rfl, S, L, I⟩)
  rw [if_neg hs]
  refine ok_false (decide_eq_false hs) ?_
  obtain ⟨e, rfl⟩ : ∃ e : Nat, x = e := ⟨x.toNat, by omega⟩
  rw [Int.toNat_natCast]
  refine ok_drfS ?_
  rw [addr_add]
  refine ok_eix rfl (by omega) ?_
  rw [Nat.zero_add]
  have he : S.events.length = 64 := by rw [I.events]; exact F.evs.1
  refine ok_wrV C I.sch I.qlen (by omega) n fun w1 C1 => ?_
  exact ok_ret.2 ⟨_, C1, rfl, _, _, I.setEvent e n⟩
theorem event_spec (h : Th en w T) (I : SInv T sb S L A) (F : FitX A 0) (x : Int) : Sr (f40_Event (some ⟨sb, 0, none⟩) x) w T fun r _ T' => r = (A.event x).1 ∧ ∃ S' L', SInv T' sb S' L' (A.event x).2 := by
  unfold f40_Event St.event
  have C := Tr.refl h
  by_cases hx : x < 0 ∨ x ≥ 64
  · rw [if_pos (by rcases hx with h | h; exact .inl h; exact .inr (.inl h))]
    refine ok_bnd.2 (ok_true (by rcases hx with h | h <;> simp [h]) (ok_ret.2 ?_))
    exact ok_true rfl (ok_ret.2 ⟨T, C, rfl, S, L, I⟩)
  refine ok_bnd.2 (ok_false (by simp only [not_or] at hx; simp only [hx.1, hx.2, decide_false, cond_false]) ?_)
  obtain ⟨e, rfl⟩ : ∃ e : Nat, x = e := ⟨x.toNat, by omega⟩
  rw [Int.toNat_natCast]
  have he : S.events.length = 64 := by rw [I.events]; exact F.evs.1
  have hv : S.events[e]? = some (A.events.getD e 0) := by
    rw [List.getD_eq_getElem?_getD, ← I.events, List.getElem?_eq_getElem (by omega)]; rfl
  refine ok_drfS ?_
  rw [addr_add]
  refine ok_eix rfl (by omega) ?_
  rw [Nat.zero_add]
  refine ok_tld0 C I.sch (rd_event I.qlen hv) (ok_ret.2 ?_)
  by_cases h0 : A.events.getD e 0 = 0
  · rw [if_pos (.inr (.inr h0))]
    exact ok_true (by simpa using h0) (ok_ret.2 ⟨T, C, rfl, S, L, I⟩)
  rw [if_neg (by omega)]
  refine ok_false (by simpa using h0) ?_
  refine ok_drfS ?_
  rw [addr_add]
  refine ok_eix rfl (by omega) ?_
  rw [Nat.zero_add]
  refine ok_tld0 C I.sch (rd_event I.qlen hv) ?_
  refine ok_scall C (signal_spec C.th I F _) fun r w1 T1 C1 h => ?_
  obtain ⟨_, S1, L1, I1⟩ := h
  exact ok_ret.2 ⟨T1, C1, rfl, S1, L1, I1⟩
theorem ok_standing (C : Tr en w0 T0 w T) (I : SInv T sb S L A) (hf : A.procs.length ≤ 4096) {x : Int} {f : (Int × (Int × Int)) → M α} (hq : ∀ w', Tr en w0 T0 w' T → Ok (f (A.standing x)) w' Q) : Ok (bnd (f76_Standing (some ⟨sb, 0, none⟩) x) f) w Q := by
  unfold f76_Standing
  refine ok_bnd.2 (ok_inP C I ?_)
  unfold St.standing at hq
  by_cases h : x < 1 ∨ x > A.procs.length
  · rw [if_pos h] at hq
    exact ok_true (by simpa using h) (ok_ret.2 (hq w C))
  rw [if_neg h] at hq
  refine ok_false (by simpa using h) ?_
  obtain ⟨n, rfl⟩ : ∃ n : Nat, x = n := ⟨x.toNat, by omega⟩
  rw [Int.toNat_natCast] at hq
  obtain ⟨b, M, at_, h4, h5⟩ := I.pat (n := n) (by omega) (by omega)
  refine of_spec C I.sch at_ (by omega) (by omega) rfl ?_
  refine ok_tdraw C fun w1 C1 => ?_
  refine ok_drfS (ok_pld C1 at_ (x := (A.pr n).standing) (by decide) rfl ?_)
  refine ok_drfS (ok_pld C1 at_ (x := (A.pr n).prio) (by decide) rfl ?_)
  exact ok_ret.2 (hq w1 C1)
end
end Go.Proofs.YtkkdeljladihpaaGreat

/-
  The scheduler: who is ready, who waits; rows held against each other; a new one.
-/
namespace Go.Proofs.YtkkdeljladihpaaGreat
open Go.Sh Go.RowKit
set_option maxRecDepth 100000
section
variable {w0 w : World} {T0 T : Hp} {sb : Nat} {S : Sk} {L : List Sm} {A : St} {α β : Type} {Q : α → World → Prop}
theorem SInv.extO (I : SInv T sb S L A) {T' : Hp} (h : ∀ b p, T b = some p → (∀ k l, p ≠ .ints (.out k) l) → T' b = some p) : SInv T' sb S L A :=
  { I with sch := h _ _ I.sch (by simp), procs := I.procs.mono fun _ _ _ hc => h _ _ hc (by simp), sems := I.sems.mono fun _ _ _ hc => h _ _ hc (by simp), sem := fun i s r hs hr => ⟨(I.sem i s r hs hr).1, (I.sem i s r hs hr).2.mono fun _ _ _ hc => h _ _ hc (by simp)⟩, queue := fun p q hq => (I.queue p q hq).mono fun _ _ _ hc => h _ _ hc (by simp), timers := I.timers.mono fun _ _ _ hc => h _ _ hc (by simp) }
/-- A slice that reads as these numbers. -/
def Rd (T : Hp) (s : Sl) (l : List Int) : Prop := s.len = l.length ∧ (l = [] ∨ ∃ b k o M, s.a = some ⟨b, k, none⟩ ∧ T b = some (.ints o M) ∧ ∀ (i : Nat) v, l[i]? = some v → M[k + i]? = some v)
theorem Rw.rd {o : Ow} {s : Sl} {l : List Int} (h : Rw T (Ob.ints o) s l) : Rd T s l := by
  refine ⟨h.len, ?_⟩
  rcases h.at_ with ⟨h1, h2⟩ | ⟨b, L', h1, h2, h3, h4⟩
  · left
    have := h.len; have := h.le
    exact List.eq_nil_of_length_eq_zero (by omega)
  · right
    refine ⟨b, 0, o, L', h1, h2, fun i v hv => ?_⟩
    have hi : i < l.length := by
      rcases Nat.lt_or_ge i l.length with h | h
      · exact h
      · rw [List.getElem?_eq_none h] at hv; cases hv
    rw [Nat.zero_add, ← List.getElem?_take_of_lt hi, h4]; exact hv
theorem ok_rdE (C : Tr en w0 T0 w T) {s : Sl} {l : List Int} (h : Rd T s l) {i : Nat} {v : Int} (hv : l[i]? = some v) {x : Int} (hx : x = i) {f : Int → M α} (hq : Ok (f v) w Q) : Ok (bnd (ix 1 s x) fun (p : Addr) => bnd (ld (.int .i64) p) f) w Q := by
  subst hx
  have hi : i < l.length := by
    rcases Nat.lt_or_ge i l.length with h | h
    · exact h
    · rw [List.getElem?_eq_none h] at hv; cases hv
  rcases h.2 with rfl | ⟨b, k, o, M, g1, g2, g3⟩
  · simp at hi
  refine ok_bnd.2 ?_
  unfold ix
  rw [g1]
  simp only
  rw [if_pos ⟨by omega, by rw [h.1]; omega⟩]
  refine ok_ret.2 ?_
  rw [addr_add, Int.toNat_natCast, Nat.mul_one]
  have hg := elt (o := o) (g3 i v hv)
  rw [Nat.one_mul] at hg
  exact ok_tld0 C g2 hg hq
theorem ok_same (C : Tr en w0 T0 w T) {s1 s2 : Sl} {l1 l2 : List Int} (h1 : Rd T s1 l1) (h2 : Rd T s2 l2) (hl : l1.length ≤ 1000000000000000000) {f : Bool → M α} (hq : ∀ w', Tr en w0 T0 w' T → Ok (f (decide (l1 = l2))) w' Q) : Ok (bnd (f11_SameInts s1 s2) f) w Q := by
  unfold f11_SameInts
  refine ok_bnd.2 ?_
  by_cases hn : l1.length = l2.length
  · refine ok_false (by rw [h1.1, h2.1, hn]; simp) ?_
    refine ok_loopN (fun m (i' : Int) w' => ∃ i : Nat, i' = i ∧ i ≤ l1.length ∧ m = l1.length - i ∧ l1.take i = l2.take i ∧ Tr en w0 T0 w' T) ?_ l1.length 0 w ⟨0, rfl, Nat.zero_le _, by omega, by simp, C⟩
    rintro m i' w' ⟨i, rfl, hi, rfl, ht, C'⟩
    by_cases hlt : i < l1.length
    · refine ok_true (by rw [h1.1]; simpa using hlt) ?_
      refine ok_tdraw C' fun w2 C2 => ?_
      refine ok_rdE C2 h1 (List.getElem?_eq_getElem hlt) rfl ?_
      refine ok_rdE C2 h2 (List.getElem?_eq_getElem (show i < l2.length by omega)) rfl ?_
      by_cases hv : l1[i] = l2[i]
      · refine ok_false (by simp [hv]) (ok_ret.2 ⟨l1.length - (i + 1), by omega, i + 1, by rw [wI (by omega)]; omega, hlt, rfl, ?_, C2⟩)
        rw [List.take_succ_eq_append_getElem hlt, List.take_succ_eq_append_getElem (by omega), ht, hv]
      · refine ok_true (by simpa using hv) (ok_ret.2 ?_)
        have : l1 ≠ l2 := by rintro rfl; exact hv rfl
        have hq' := hq w2 C2
        rw [decide_eq_false this] at hq'; exact hq'
    · refine ok_false (by rw [h1.1]; simpa using hlt) (ok_ret.2 ?_)
      have : l1 = l2 := by
        rw [List.take_of_length_le (by omega), List.take_of_length_le (by omega)] at ht; exact ht
      have hq' := hq w' C'
      rw [decide_eq_true this] at hq'; exact hq'
  · refine ok_true (by rw [h1.1, h2.1]; simpa using fun h => hn (by omega)) (ok_ret.2 ?_)
    have : l1 ≠ l2 := by rintro rfl; exact hn rfl
    have hq' := hq w C
    rw [decide_eq_false this] at hq'; exact hq'
theorem readies_spec (h : Th en w T) (I : SInv T sb S L A) (F : FitX A 0) (k : Nat) : Sr (f13_Ready (some ⟨sb, 0, none⟩)) w T fun r _ T' => Rw T' (Ob.ints (.out k)) r (ns A.readies) ∧ (∀ c p, T c = some p → (∀ l, p ≠ .ints (.out k) l) → T' c = some p) := by
  unfold f13_Ready
  have hf := F.few
  refine ok_loopN (fun m (s : Sl × Int) w' => ∃ p : Nat, s.2 = p ∧ p ≤ 16 ∧ m = p ∧ ∃ l T', l ++ St.readyN A.queues p = A.readies ∧ l.length ≤ 4096 * (16 - p) ∧ Tr en w T w' T' ∧ Rw T' (Ob.ints (.out k)) s.1 (ns l) ∧ (∀ c p, T c = some p → (∀ l, p ≠ .ints (.out k) l) → T' c = some p)) ?_ 16 _ w ⟨16, rfl, Nat.le_refl _, rfl, [], T, rfl, by simp, Tr.refl h, rw_nil _ _, fun _ _ h _ => h⟩
  rintro m ⟨s, x⟩ w' ⟨p, hx, hp, rfl, l, T', hl, hll, C, hr, hT⟩
  simp only at hx hr
  subst hx
  by_cases h0 : 0 < m
  · refine ok_true (by simpa using h0) ?_
    have I' := I.extO (T' := T') fun b p hb hne => hT b p hb (hne k)
    obtain ⟨q, hq1, hq2⟩ := I'.q (p := m) (by omega)
    refine ok_drfS ?_
    rw [addr_add]
    refine ok_qix rfl (by omega) ?_
    rw [Nat.zero_add]
    refine ok_tld0 C I'.sch (x := q) (rd_queue hq1) ?_
    have hql := F.ql m
    refine ok_appI C hr (srcI C.th hq2) (by rw [ns_length, ns_length]; omega) fun r w2 T2 C2 hr2 hT2 => ?_
    obtain ⟨p, rfl⟩ : ∃ p, m = p + 1 := ⟨m - 1, by omega⟩
    refine ok_ret.2 ⟨p, by omega, p, by show IntKind.wrap .i64 _ = _; rw [wI (by omega)]; simp, by omega, rfl, l ++ A.queues (p + 1), T2, ?_, ?_, C2, by rw [ns_append]; exact hr2, fun c o hc hne => hT2 _ _ (hT _ _ hc hne) hne⟩
    · rw [List.append_assoc]; exact hl
    · rw [List.length_append]; omega
  · have : m = 0 := by omega
    subst this
    refine ok_false rfl (ok_ret.2 ⟨T', C, ?_, hT⟩)
    have : l = A.readies := by rw [← hl]; simp [St.readyN]
    rw [← this]; exact hr
theorem waiting_spec3 (h : Th en w T) (I : SInv T sb S L A) (F : FitX A 0) (x : Int) (k : Nat) : Sr (f14_Waiting (some ⟨sb, 0, none⟩) x) w T fun r _ T' => Rw T' (Ob.ints (.out k)) r.1 (ns (A.waiting x).1) ∧ r.2 = (A.waiting x).2 ∧ (∀ c p, T c = some p → T' c = some p) ∧ ∀ b, r.1.a = some ⟨b, 0, none⟩ → T b = none := by
  unfold f14_Waiting St.waiting
  have C := Tr.refl h
  have hf := F.few
  refine sem_spec C I hf.2.1 (fun hx => ?_) fun n b M r hn hx h1 h2 sat g1 g2 g3 g4 g5 => ?_
  · rw [if_pos hx]
    exact ok_true rfl (ok_ret.2 ⟨T, C, rw_nil _ _, rfl, fun _ _ h => h, fun b h => by cases h⟩)
  subst hn
  rw [hx, if_neg (by simp), Int.toNat_natCast]
  refine ok_false rfl ?_
  have hwl := F.wl (i := n) h1 h2
  simp only [bnd_as, bnd_ret]
  refine ok_tord C fun o w3 C => ?_
  refine ok_drfS (ok_sld C sat (x := r.queue) (by decide) (rdv_sl (by rfl)) ?_)
  refine ok_drfS (ok_sld C sat (x := r.excess) (by decide) rfl ?_)
  have C4 := C.call ((Below.refl w3.heap.size w3).alloc (Nat.le_refl _) (.cells #[] 3))
  refine ok_scall C (clone_spec3 C.th (l := ns (A.sm n).2) (srcI C4.th g5) (fun hn => ?_) (by rw [ns_length]; omega) (.out k)) fun r4 w4 T4 C4 h4 => ?_
  · rcases g5.at_ with ⟨h1, h2⟩ | ⟨b, L', h1, h2, h3, h4⟩
    · have := g5.len; have := g5.le
      exact List.eq_nil_of_length_eq_zero (by omega)
    · rw [hn] at h1; cases h1
  obtain ⟨hr4, hT4, hN4⟩ := h4
  have sat4 := sat.ext (hT4 _ _ sat.at_)
  refine ok_tchk C4 sat4.at_ (flat_rdv (g := Sm.en) (t := .int .i64) (x := r.excess) (fun _ => rfl) sat4.get (by decide) rfl) ?_
  exact ok_ret.2 ⟨T4, C4, hr4, by show (r.excess, (0 : Int)) = _; rw [g4], hT4, hN4⟩
theorem waiting_spec (h : Th en w T) (I : SInv T sb S L A) (F : FitX A 0) (x : Int) (k : Nat) : Sr (f14_Waiting (some ⟨sb, 0, none⟩) x) w T fun r _ T' => Rw T' (Ob.ints (.out k)) r.1 (ns (A.waiting x).1) ∧ r.2 = (A.waiting x).2 ∧ (∀ c p, T c = some p → T' c = some p) :=
  ok_mono (waiting_spec3 h I F x k) fun r w' ⟨T', C, h1, h2, h3, _⟩ => ⟨T', C, h1, h2, h3⟩
def Sk.new : Sk := ⟨0, 0, ⟨none, 0, 0⟩, ⟨none, 0, 0⟩, List.replicate 17 ⟨none, 0, 0⟩, ⟨none, 0, 0⟩, 0, List.replicate 64 0⟩
theorem new_spec (C : Tr en w0 T0 w T) {f : Option Addr → M α} (hq : ∀ b w' T', T b = none → T' = put T b (.sch Sk.new) → Tr en w0 T0 w' T' → SInv T' b Sk.new [] St.new → Ok (f (some ⟨b, 0, none⟩)) w' Q) : Ok (bnd f5_sched_New f) w Q := by
  unfold f5_sched_New
  refine ok_bnd.2 (ok_tnew C (.sch Sk.new) rfl fun b w1 hb C1 => ok_ret.2 (hq b w1 _ hb rfl C1 ?_))
  refine ⟨put_eq _ _ _, rfl, rfl, rfl, rfl, rw_nil _ _, rw_nil _ _, rfl, fun i s r hs => by simp [St.new] at hs, rfl, fun p q hq => ?_, rx_nil _ _⟩
  have : q = ⟨none, 0, 0⟩ := by
    have := List.mem_of_getElem? hq
    exact List.eq_of_mem_replicate this
  subst this
  exact rw_nil _ _
theorem fit_new : FitX St.new 0 := by
  refine ⟨.inl rfl, ?_, ?_, ?_, ?_, ?_, ?_, ?_, ?_, ?_, ?_, ?_, ?_, ?_⟩
  · intro p hp; simp [St.new] at hp
  · intro p n hn; simp [St.new] at hn
  · intro p; simp [St.new]
  · intro n h1 h2; simp [St.new] at h2; omega
  · intro n h1 h2; simp [St.new] at h2; omega
  · intro n h1 h2; simp [St.new] at h2; omega
  · intro n h1 h2; simp [St.new] at h2; omega
  · intro i n h1 h2; simp [St.new] at h2; omega
  · intro i h1 h2; simp [St.new] at h2; omega
  · intro i h1 h2; simp [St.new] at h2; omega
  · intro t ht; simp [St.new] at ht
  · refine ⟨by simp [St.new], fun e he => .inl ?_⟩
    simp only [St.new] at he
    exact List.eq_of_mem_replicate he
  · simp [St.new]
theorem hi_new : St.new.Hi := by
  unfold St.Hi
  rw [if_pos (show St.new.active = 0 from rfl)]
  rfl
end
end Go.Proofs.YtkkdeljladihpaaGreat
