/-
  Parts of the proof: UF, UG, UH, UI, UJ. It states what the functions do; no further condition.
-/
import Derived.Test.YtkkdeljladihpaaUE
set_option linter.unusedVariables false
set_option linter.unusedSimpArgs false
/-
  Numbers read back: the reader.
-/
namespace Go.Proofs.Ytkkdeljladihpaa
set_option linter.unusedVariables false
open Go.Sh Go.RowKit X
set_option maxRecDepth 100000
/-- Boxes stay. -/
def Bx (T T' : Hp) : Prop := ∀ b l, T b = some (.box l) → T' b = some (.box l)
theorem Bx.trans {T1 T2 T3 : Hp} (h : Bx T1 T2) (k : Bx T2 T3) : Bx T1 T3 := fun b l hb => k b l (h b l hb)
/-- What is read: the scheduler's cell, the reader's cell, the reader; what it has left. -/
structure Rdr (w0 : World) (T : Hp) (sb c1 c2 rp : Nat) (l : List Int) : Prop where
  s : T c1 = some (.box [.pointer (some ⟨sb, 0, none⟩)])
  r : T c2 = some (.box [.pointer (some ⟨rp, 0, none⟩)])
  l : ∃ x, T rp = some (.box [slV x, .bool false]) ∧ Arr w0.heap.size w0 x (nums .i64 l)
theorem Rdr.bx {w0 : World} {T T' : Hp} {sb c1 c2 rp : Nat} {l : List Int} (R : Rdr w0 T sb c1 c2 rp l) (h : Bx T T') : Rdr w0 T' sb c1 c2 rp l :=
  ⟨h _ _ R.s, h _ _ R.r, R.l.imp fun x ⟨h1, h2⟩ => ⟨h _ _ h1, h2⟩⟩
/-- All but the reader is kept. -/
def Nx (rp : Nat) (T T' : Hp) : Prop := ∀ b o, T b = some o → b ≠ rp → T' b = some o
section
variable {w0 w : World} {T0 T : Hp} {sb c1 c2 rp : Nat} {S : Sk} {L : List Sm} {A : St} {α β : Type} {Q : α → World → Prop} {l : List Int}
theorem Nx.other {T' : Hp} (h : Nx rp T T') {l0 : List Value} (hr : T rp = some (.box l0)) {b : Nat} {o : Ob} (hb : T b = some o) (ho : o ≠ .box l0) : T' b = some o :=
  h b o hb (by rintro rfl; rw [hr, Option.some.injEq] at hb; exact ho hb.symm)
theorem SInv.nx (I : SInv T sb S L A) {T' : Hp} {l0 : List Value} (hr : T rp = some (.box l0)) (h : Nx rp T T') : SInv T' sb S L A :=
  I.extB fun b p hb hne hnb => h.other hr hb (hnb _)
theorem SInv.nr (I : SInv T sb S L A) {T' : Hp} (R : Rdr w0 T sb c1 c2 rp l) (h : Nx rp T T') : SInv T' sb S L A := by
  obtain ⟨x, h1, _⟩ := R.l
  exact I.nx h1 h
theorem Nx.rw {A' : Type} {mk : List A' → Ob} {T' : Hp} (h : Nx rp T T') (R : Rdr w0 T sb c1 c2 rp l) {s : Sl} {l' : List A'} (hr : Rw T mk s l') (h1 : ∀ M l, mk M ≠ .box l) : Rw T' mk s l' := by
  obtain ⟨x, h2, _⟩ := R.l
  exact hr.mono fun b M _ hb => h.other h2 hb (h1 _ _)
theorem Rdr.no (R : Rdr w0 T sb c1 c2 rp l) : c1 ≠ rp ∧ c2 ≠ rp := by
  obtain ⟨x, h1, _⟩ := R.l
  constructor
  · rintro rfl; have := R.s; rw [h1] at this; cases this
  · rintro rfl; have := R.r; rw [h1] at this; cases this
theorem read_spec (C : Tr en w0 (fun _ => none) w T) {n : Int} (R : Rdr w0 T sb c1 c2 rp (n :: l)) {lo hi : Int} (h1 : lo ≤ n) (h2 : n ≤ hi) {f : Int → Go.Sh.M α}
    (hq : ∀ w' T', Tr en w0 (fun _ => none) w' T' → Rdr w0 T' sb c1 c2 rp l → Nx rp T T' → Ok (f n) w' Q) : Ok (bnd (f52_sched_reader_next (some ⟨rp, 0, none⟩) lo hi) f) w Q := by
  obtain ⟨x, hb, H⟩ := R.l
  have H' : Arr w0.heap.size w x (nums .i64 (n :: l)) := arr_below H (bel C)
  have hlen := H.1
  simp only [nums, List.map_cons, List.length_cons, List.length_map] at hlen
  unfold f52_sched_reader_next
  simp only [bnd_as, bnd_ret]
  refine ok_drfS (ok_tld C hb (x := x) (rdv_sl (by rfl)) ?_)
  refine ok_fB (by rw [beq_eq_false_iff_ne]; omega) ?_
  simp only [bnd_as, bnd_ret]
  refine ok_drfS (ok_tld C hb (x := x) (rdv_sl (by rfl)) ?_)
  refine ok_get H' (by decide) (n := n) rfl ?_
  refine ok_fB (by simpa using h1) ?_
  simp only [bnd_as, bnd_ret]
  refine ok_drfS (ok_tld C hb (x := x) (rdv_sl (by rfl)) ?_)
  refine ok_get H' (by decide) (n := n) rfl ?_
  refine ok_fB (by simpa using h2) ?_
  simp only [bnd_as, bnd_ret]
  refine ok_drfS (ok_tld C hb (t := .bool) (x := false) (by rfl) ?_)
  refine ok_fB rfl ?_
  simp only [bnd_as, bnd_ret]
  refine ok_drfS (ok_tld C hb (x := x) (rdv_sl (by rfl)) ?_)
  refine ok_get H' (by decide) (n := n) rfl ?_
  refine ok_drfS (ok_tld C hb (x := x) (rdv_sl (by rfl)) ?_)
  refine ok_slc1 (by omega) H.2.1 ?_
  refine ok_drfS (ok_twr C (.box [slV (cut x 1 x.len), .bool false]) hb (by simp [en]) rfl rfl fun w1 C1 => ?_)
  have hc := arr_cut H (lo := 1) (hi := x.len) (by omega) (Nat.le_refl _)
  have e : ((nums .i64 (n :: l)).drop 1).take (x.len - 1) = nums .i64 l := by
    simp only [nums, List.map_cons, List.drop_one, List.tail_cons]
    rw [List.take_of_length_le (by simp; omega)]
  rw [e] at hc
  exact hq w1 _ C1 ⟨by rw [put_ne _ R.no.1]; exact R.s, by rw [put_ne _ R.no.2]; exact R.r, _, put_eq _ _ _, hc⟩ fun b o hb' hne => by rw [put_ne _ hne]; exact hb'
/-- So often as a number says. -/
theorem manyR_spec (C : Tr en w0 (fun _ => none) w T) {k : Nat} (R : Rdr w0 T sb c1 c2 rp ((k : Int) :: l)) {most : Int} (hk : (k : Int) ≤ most) (hsm : k ≤ 1000000) (J : Nat → Hp → Prop) (hJ : ∀ i T', J i T' → ∃ l', Rdr w0 T' sb c1 c2 rp l') {g : Int → Go.Sh.M Unit}
    (h0 : ∀ T', Rdr w0 T' sb c1 c2 rp l → Nx rp T T' → J 0 T') (step : ∀ i w1 T1, i < k → Tr en w0 (fun _ => none) w1 T1 → J i T1 → Ok (g i) w1 fun _ w' => ∃ T', Tr en w0 (fun _ => none) w' T' ∧ J (i + 1) T') {f : Unit → Go.Sh.M α}
    (hq : ∀ w' T', Tr en w0 (fun _ => none) w' T' → J k T' → Ok (f ()) w' Q) :
    Ok (bnd (bnd (f52_sched_reader_next (some ⟨rp, 0, none⟩) (0 : Int) most) fun (r1 : Int) =>
  loopM (fun (s2 : Int) =>
  bnd (
  cnd (decide (s2 < r1)) (
  bnd (drf (some ⟨rp, 0, none⟩)) fun (p3 : Addr) =>
  bnd (ld .bool (Addr.add p3 1)) fun (v4 : Bool) =>
  ret (!v4)) (
  ret false)) fun (b5 : Bool) =>
  cnd b5 (
  bnd (g s2) fun (r6 : Unit) =>
  ret (Sum.inl (IntKind.wrap .i64 (s2 + (1 : Int))))) (
  ret (Sum.inr ()))) (0 : Int)) f) w Q := by
  rw [bnd_as]
  refine read_spec C R (by omega) hk fun w1 T1 C1 R1 N1 => ?_
  refine ok_bnd.2 (ok_mono (Q := fun _ w' => ∃ T', Tr en w0 (fun _ => none) w' T' ∧ J k T') ?_ fun _ w' ⟨T', h1, h2⟩ => hq w' T' h1 h2)
  refine ok_loopN (fun m (i' : Int) w' => ∃ (i : Nat) (T' : Hp), i' = i ∧ i ≤ k ∧ m = k - i ∧ Tr en w0 (fun _ => none) w' T' ∧ J i T') ?_ k 0 w1 ⟨0, T1, rfl, Nat.zero_le _, rfl, C1, h0 _ R1 N1⟩
  rintro m i' w2 ⟨i, T2, rfl, hi, rfl, C2, J2⟩
  by_cases hlt : i < k
  · refine ok_tB (by simpa using hlt) ?_
    obtain ⟨l', R2⟩ := hJ _ _ J2
    obtain ⟨x, hb, _⟩ := R2.l
    simp only [bnd_as, bnd_ret]
    refine ok_drfS (ok_tld C2 hb (t := .bool) (x := false) (by rfl) ?_)
    refine ok_true rfl ?_
    refine ok_bnd.2 (ok_mono (step i w2 T2 hlt C2 J2) fun _ w3 ⟨T3, C3, J3⟩ => ok_ret.2 ?_)
    exact ⟨k - (i + 1), by omega, i + 1, T3, by rw [wI (by omega)]; simp, by omega, rfl, C3, J3⟩
  · refine ok_fB (by simpa using hlt) ?_
    simp only [bnd_as, bnd_ret]
    have : i = k := by omega
    subst this
    exact ok_false rfl (ok_ret.2 ⟨T2, C2, J2⟩)
theorem ok_tchk0 (C : Tr en w0 T0 w T) {b m : Nat} {o : Ob} {t : Ty} {x : t.den} {f : Unit → Go.Sh.M α} (hb : T b = some o) (hx : rdv t (en o).toArray m = some x) (hq : Ok (f ()) w Q) : Ok (bnd (chk t ⟨b, m, none⟩ x) f) w Q :=
  ok_bnd.2 (ok_chk (C.th b o hb).1 hx hq)
theorem SInv.addSem2 (I : SInv T sb S L A) {q' : Sl} {T2 : Hp} {r : Sm} {e : Int} {l : List Nat} (he : r.excess = e) (hl : Rw T (Ob.ints (.sem A.sems.length)) r.queue (ns l)) (k2 : ∀ c o, T c = some o → (∀ l, o ≠ .sems l) → T2 c = some o) (hq : Rw T2 Ob.sems q' (L ++ [r])) :
    SInv (put T2 sb (.sch { S with sems := q' })) sb { S with sems := q' } (L ++ [r]) { A with sems := A.sems ++ [(e, l)] } := by
  have hs2 : T2 sb = some (.sch S) := k2 _ _ I.sch (by simp)
  have keep : ∀ c o, T c = some o → (∀ l, o ≠ .sems l) → (∀ s, o ≠ .sch s) → put T2 sb (.sch { S with sems := q' }) c = some o := fun c o hc n1 n2 => put_other (k2 _ _ hc n1) hs2 (n2 _)
  have hsl := I.slen
  refine { I with sch := put_eq _ _ _, procs := I.procs.mono fun c l _ hc => keep _ _ hc (by simp) (by simp), sems := hq.mono fun c l _ hc => put_other hc hs2 (by simp), slen := by simp [hsl], sem := fun i s r hs hr => ?_, queue := fun p q hq => (I.queue p q hq).mono fun c l _ hc => keep _ _ hc (by simp) (by simp), timers := I.timers.mono fun c l _ hc => keep _ _ hc (by simp) (by simp) }
  simp only at hs
  rcases Nat.lt_or_ge i L.length with hi | hi
  · rw [List.getElem?_append_left (by omega)] at hs hr
    exact ⟨(I.sem i s r hs hr).1, (I.sem i s r hs hr).2.mono fun c l _ hc => keep _ _ hc (by simp) (by simp)⟩
  · have hei : i = L.length := by
      rcases Nat.lt_or_ge L.length i with h | h
      · rw [List.getElem?_eq_none (by simp; omega)] at hr; cases hr
      · omega
    subst hei
    rw [List.getElem?_append_right (by omega), hsl, Nat.sub_self] at hs
    rw [List.getElem?_append_right (by omega), Nat.sub_self] at hr
    simp only [List.getElem?_cons_zero, Option.some.injEq] at hs hr
    subst hs hr
    rw [hsl]
    exact ⟨he, hl.mono fun c l _ hc => keep _ _ hc (by simp) (by simp)⟩
/-- A process. -/
theorem read1_spec (C : Tr en w0 (fun _ => none) w T) {p s : Int} (R : Rdr w0 T sb c1 c2 rp (p :: s :: l)) (I : SInv T sb S L A) (hp : 1 ≤ p ∧ p ≤ 16) (hs : 1 ≤ s ∧ s ≤ 5) (hl : A.procs.length ≤ 4096) (x : Int) :
    Ok (f54_sched_Sched_read_1 x ⟨c2, 0, none⟩ ⟨c1, 0, none⟩) w fun _ w' => ∃ T', Tr en w0 (fun _ => none) w' T' ∧ Rdr w0 T' sb c1 c2 rp l ∧ ∃ S', SInv T' sb S' L { A with procs := A.procs ++ [⟨p, s, 0⟩] } := by
  unfold f54_sched_Sched_read_1
  simp only [bnd_as, bnd_ret]
  refine ok_tld0 C R.r (t := .ptr) (x := some ⟨rp, 0, none⟩) (by rfl) ?_
  refine read_spec C R (by omega) (by omega) fun w1 T1 C1 R1 N1 => ?_
  have I1 := I.nr R N1
  refine ok_tord C1 fun o w1 C1 => ?_
  refine ok_tld0 C1 R1.s (t := .ptr) (x := some ⟨sb, 0, none⟩) (by rfl) ?_
  refine ok_tld0 C1 R1.s (t := .ptr) (x := some ⟨sb, 0, none⟩) (by rfl) ?_
  refine ok_drfS (ok_tld C1 I1.sch (x := S.procs) (rdv_sl (by rfl)) ?_)
  refine ok_tld0 C1 R1.r (t := .ptr) (x := some ⟨rp, 0, none⟩) (by rfl) ?_
  refine read_spec C1 R1 (by omega) (by omega) fun w2 T2 C2 R2 N2 => ?_
  have I2 := I1.nr R1 N2
  refine ok_tchk (m := 0) (k := 2) (t := .sl) (x := S.procs) C2 I2.sch (rdv_sl (by rfl)) ?_
  refine ok_tchk0 C2 R2.s (t := .ptr) (x := some ⟨sb, 0, none⟩) (by rfl) ?_
  refine ok_tchk0 C2 R2.s (t := .ptr) (x := some ⟨sb, 0, none⟩) (by rfl) ?_
  have e : IntKind.wrap .u8 s = s := by rw [wrapU8]; omega
  rw [e]
  refine ok_new1 C2 row49 (by decide) (F := ⟨p, s, 0⟩) rfl fun s5 w3 C3 K => ?_
  refine ok_tchk (m := 0) (k := 2) (t := .sl) (x := S.procs) C3 I2.sch (rdv_sl (by rfl)) ?_
  refine ok_tchk0 C3 R2.s (t := .ptr) (x := some ⟨sb, 0, none⟩) (by rfl) ?_
  refine ok_tchk0 C3 R2.s (t := .ptr) (x := some ⟨sb, 0, none⟩) (by rfl) ?_
  refine ok_appG C3 row49 (mk := Ob.procs) (fun _ => rfl) I2.procs K (by simp; omega) (by simp; omega) fun r w4 T4 C4 hr4 hT4 => ?_
  have R4 : Rdr w0 T4 sb c1 c2 rp l := R2.bx fun b l hb => hT4 _ _ hb (by simp)
  refine ok_tchk0 C4 R4.s (t := .ptr) (x := some ⟨sb, 0, none⟩) (by rfl) ?_
  refine ok_tchk0 C4 R4.s (t := .ptr) (x := some ⟨sb, 0, none⟩) (by rfl) ?_
  have hsch := hT4 _ _ I2.sch (by simp)
  refine ok_drfS (ok_wrP C4 hsch r fun w5 C5 => ?_)
  exact ok_ret.2 ⟨_, C5, R4.bx fun b l hb => put_other hb hsch (by simp), _, I2.setProcs hT4 hr4⟩
end
end Go.Proofs.Ytkkdeljladihpaa

/-
  Numbers read back: processes, a queue, semaphores.
-/
namespace Go.Proofs.Ytkkdeljladihpaa
set_option linter.unusedVariables false
open Go.Sh Go.RowKit X
set_option maxRecDepth 100000
/-- All is kept but the reader and rows that come out. -/
def Kq (rp : Nat) (T T' : Hp) : Prop := ∀ b o, T b = some o → b ≠ rp → (∀ l, o ≠ .ints (.out 0) l) → T' b = some o
theorem Kq.trans {rp : Nat} {T1 T2 T3 : Hp} (h : Kq rp T1 T2) (k : Kq rp T2 T3) : Kq rp T1 T3 := fun b o hb hn ho => k b o (h b o hb hn ho) hn ho
theorem Nx.kq {rp : Nat} {T T' : Hp} (h : Nx rp T T') : Kq rp T T' := fun b o hb hn _ => h b o hb hn
section
variable {w0 w : World} {T0 T : Hp} {sb c1 c2 rp : Nat} {S : Sk} {L : List Sm} {A : St} {α β : Type} {Q : α → World → Prop} {l : List Int}
theorem SInv.kq (I : SInv T sb S L A) (R : Rdr w0 T sb c1 c2 rp l) {T' : Hp} (h : Kq rp T T') : SInv T' sb S L A := by
  obtain ⟨x, hx, _⟩ := R.l
  exact I.extB fun b p hb hne hnb => h b p hb (by rintro rfl; rw [hx] at hb; cases hb; exact hnb _ rfl) (hne 0)
theorem ns_drop_cons {l' : List Nat} {i : Nat} (h : i < l'.length) : ns (l'.drop i) = ((l'[i] : Nat) : Int) :: ns (l'.drop (i + 1)) := by
  rw [List.drop_eq_getElem_cons h]; rfl
/-- One of a queue. -/
theorem readQ_spec (C : Tr en w0 (fun _ => none) w T) {n : Nat} {qc : Nat} {acc : List Int} (R : Rdr w0 T sb c1 c2 rp ((n : Int) :: l)) (I : SInv T sb S L A) (O : Ou T qc acc) (hl : acc.length ≤ 100000) (h1 : 1 ≤ n) (h2 : n ≤ A.procs.length) (x : Int) :
    Ok (f56_sched_Sched_read_2_1 x ⟨qc, 0, none⟩ ⟨c2, 0, none⟩ ⟨c1, 0, none⟩) w fun _ w' => ∃ T', Tr en w0 (fun _ => none) w' T' ∧ Rdr w0 T' sb c1 c2 rp l ∧ Ou T' qc (acc ++ [(n : Int)]) ∧ ∀ b o, T b = some o → b ≠ rp → b ≠ qc → (∀ l, o ≠ .ints (.out 0) l) → T' b = some o := by
  obtain ⟨s, hc, hr⟩ := O
  obtain ⟨y, hy, _⟩ := R.l
  have hcr : qc ≠ rp := by rintro rfl; rw [hc] at hy; simp at hy
  unfold f56_sched_Sched_read_2_1
  simp only [bnd_as, bnd_ret]
  refine ok_tord C fun o w1 C => ?_
  refine ok_tld0 C hc (x := s) (rdv_sl (by rfl)) ?_
  refine ok_tld0 C R.r (t := .ptr) (x := some ⟨rp, 0, none⟩) (by rfl) ?_
  refine ok_tld0 C R.s (t := .ptr) (x := some ⟨sb, 0, none⟩) (by rfl) ?_
  refine ok_drfS (ok_tld C I.sch (x := S.procs) (rdv_sl (by rfl)) ?_)
  rw [I.procs.len]
  refine read_spec C R (by omega) (by omega) fun w2 T2 C2 R2 N2 => ?_
  have I2 := I.nr R N2
  have hc2 := N2 _ _ hc hcr
  have hr2 : Rw T2 (Ob.ints (.out 0)) s acc := N2.rw R hr (by simp)
  refine ok_tchk (m := 0) (k := 2) (t := .sl) (x := S.procs) C2 I2.sch (rdv_sl (by rfl)) ?_
  refine ok_tchk0 C2 R2.s (t := .ptr) (x := some ⟨sb, 0, none⟩) (by rfl) ?_
  refine ok_tchk0 C2 hc2 (t := .sl) (x := s) (rdv_sl (by rfl)) ?_
  refine ok_oneI C2 (.out 9) fun b w3 hb C3 R3 => ?_
  refine ok_tchk (m := 0) (k := 2) (t := .sl) (x := S.procs) C3 (put_new I2.sch hb) (rdv_sl (by rfl)) ?_
  refine ok_tchk0 C3 (put_new R2.s hb) (t := .ptr) (x := some ⟨sb, 0, none⟩) (by rfl) ?_
  refine ok_tchk0 C3 (put_new hc2 hb) (t := .sl) (x := s) (rdv_sl (by rfl)) ?_
  refine ok_outA C3 (put_new hc2 hb) (hr2.mono fun b' M _ h => put_new h hb) (srcI C3.th R3) (by simp; omega) fun r w4 T4 C4 R4 hc4 K4 => ?_
  have hx4 : ∀ b' o', T2 b' = some o' → b' ≠ qc → (∀ l, o' ≠ .ints (.out 0) l) → T4 b' = some o' := fun b' o' h n1 n2 => K4 _ _ (put_new h hb) n1 n2
  have hn1 : c1 ≠ qc := by rintro rfl; have := R2.s; rw [hc2, Option.some.injEq] at this; cases this
  have hn2 : c2 ≠ qc := by rintro rfl; have := R2.r; rw [hc2, Option.some.injEq] at this; cases this
  have hnS : sb ≠ qc := by rintro rfl; have := I2.sch; rw [hc2, Option.some.injEq] at this; cases this
  refine ok_tchk (m := 0) (k := 2) (t := .sl) (x := S.procs) C4 (hx4 _ _ I2.sch hnS (by simp)) (rdv_sl (by rfl)) ?_
  refine ok_tchk0 C4 (hx4 _ _ R2.s hn1 (by simp)) (t := .ptr) (x := some ⟨sb, 0, none⟩) (by rfl) ?_
  refine ok_outW C4 hc4 R4 fun w5 T5 C5 O5 K5 => ok_ret.2 ?_
  have hx5 : ∀ b' o', T2 b' = some o' → b' ≠ qc → (∀ l, o' ≠ .ints (.out 0) l) → T5 b' = some o' := fun b' o' h n1 n2 => K5 _ _ (hx4 _ _ h n1 n2) n1 n2
  refine ⟨T5, C5, ⟨hx5 _ _ R2.s hn1 (by simp), hx5 _ _ R2.r hn2 (by simp), R2.l.imp fun z ⟨g1, g2⟩ => ⟨hx5 _ _ g1 (Ne.symm hcr) (by simp), g2⟩⟩, O5, fun b' o' h n0 n1 n2 => hx5 _ _ (N2 _ _ h n0) n1 n2⟩
/-- A queue. -/
theorem queueR_spec (C : Tr en w0 (fun _ => none) w T) {l' : List Nat} (R : Rdr w0 T sb c1 c2 rp (qL l' ++ l)) (I : SInv T sb S L A) (hp : A.procs.length ≤ 4096) (hl : l'.length ≤ A.procs.length) (hm : ∀ n ∈ l', 1 ≤ n ∧ n ≤ A.procs.length) {f : Sl → Go.Sh.M α}
    (hq : ∀ r w' T', Tr en w0 (fun _ => none) w' T' → Rdr w0 T' sb c1 c2 rp l → Rw T' (Ob.ints (.out 0)) r (ns l') → Kq rp T T' → Ok (f r) w' Q) : Ok (bnd (f55_sched_Sched_read_2 ⟨c2, 0, none⟩ ⟨c1, 0, none⟩) f) w Q := by
  unfold f55_sched_Sched_read_2
  simp only [bnd_as, bnd_ret]
  refine ok_tnew C (.box [slV ⟨none, 0, 0⟩]) rfl fun qc w1 hqc C1 => ?_
  have hx1 : ∀ b o, T b = some o → put T qc (.box [slV ⟨none, 0, 0⟩]) b = some o := fun b o h => put_new h hqc
  have R1 : Rdr w0 (put T qc (.box [slV ⟨none, 0, 0⟩])) sb c1 c2 rp (qL l' ++ l) := R.bx fun b l h => hx1 _ _ h
  have I1 := I.ext hx1
  have hc1 : put T qc (.box [slV ⟨none, 0, 0⟩]) qc = some (.box [slV ⟨none, 0, 0⟩]) := put_eq _ _ _
  generalize put T qc (.box [slV ⟨none, 0, 0⟩]) = T1 at C1 hx1 R1 I1 hc1
  refine ok_tord C1 fun o w2 C2 => ?_
  refine ok_tld0 C2 R1.r (t := .ptr) (x := some ⟨rp, 0, none⟩) (by rfl) ?_
  refine ok_tld0 C2 R1.s (t := .ptr) (x := some ⟨sb, 0, none⟩) (by rfl) ?_
  refine ok_drfS (ok_tld C2 I1.sch (x := S.procs) (rdv_sl (by rfl)) ?_)
  rw [I1.procs.len]
  unfold f53e_many
  have hnrp : qc ≠ rp := by
    obtain ⟨y, hy, _⟩ := R1.l
    rintro rfl; rw [hc1] at hy; simp at hy
  refine manyR_spec C2 (k := l'.length) (l := ns l' ++ l) R1 (by omega) (by omega) (fun i T' => i ≤ l'.length ∧ Rdr w0 T' sb c1 c2 rp (ns (l'.drop i) ++ l) ∧ Ou T' qc (ns (l'.take i)) ∧ ∀ b o, T1 b = some o → b ≠ rp → b ≠ qc → (∀ l, o ≠ .ints (.out 0) l) → T' b = some o) (fun i T' h => ⟨_, h.2.1⟩) (fun T' R' N' => ⟨Nat.zero_le _, by simpa using R', ?_, fun b o h1 h2 _ _ => N' _ _ h1 h2⟩) (fun i w3 T3 hi C3 ⟨hi', R3, O3, K3⟩ => ?_) fun w3 T3 C3 ⟨_, R3, O3, K3⟩ => ?_
  · exact ⟨⟨none, 0, 0⟩, N' _ _ hc1 hnrp, rw_nil _ _⟩
  · rw [ns_drop_cons hi, List.cons_append] at R3
    have hmi := hm _ (List.getElem_mem hi)
    have hnb : ∀ b o, T1 b = some o → (∀ l, o ≠ .box l) → b ≠ rp ∧ b ≠ qc := fun b o h hno => by
      obtain ⟨y, hy, _⟩ := R1.l
      constructor
      · rintro rfl; rw [hy] at h; cases h; exact hno _ rfl
      · rintro rfl; rw [hc1] at h; cases h; exact hno _ rfl
    have I3 : SInv T3 sb S L A := I1.extB fun b o h n1 n2 => K3 b o h (hnb b o h n2).1 (hnb b o h n2).2 (n1 0)
    refine ok_mono (readQ_spec C3 R3 I3 O3 (by rw [ns_length, List.length_take]; omega) hmi.1 hmi.2 _) fun _ w4 ⟨T4, C4, R4, O4, K4⟩ => ⟨T4, C4, by omega, R4, ?_, fun b o h1 h2 h3 h4 => K4 _ _ (K3 _ _ h1 h2 h3 h4) h2 h3 h4⟩
    have e : ns (l'.take (i + 1)) = ns (l'.take i) ++ [((l'[i] : Nat) : Int)] := by
      rw [List.take_succ_eq_append_getElem hi, ns_append]; rfl
    rw [e]; exact O4
  · rw [List.drop_length] at R3
    rw [List.take_length] at O3
    have hnb : ∀ b o, T1 b = some o → (∀ l, o ≠ .box l) → b ≠ rp ∧ b ≠ qc := fun b o h hno => by
      obtain ⟨y, hy, _⟩ := R1.l
      constructor
      · rintro rfl; rw [hy] at h; cases h; exact hno _ rfl
      · rintro rfl; rw [hc1] at h; cases h; exact hno _ rfl
    have I3 : SInv T3 sb S L A := I1.extB fun b o h n1 n2 => K3 b o h (hnb b o h n2).1 (hnb b o h n2).2 (n1 0)
    refine ok_tchk (m := 0) (k := 2) (t := .sl) (x := S.procs) C3 I3.sch (rdv_sl (by rfl)) ?_
    refine ok_tchk0 C3 R3.s (t := .ptr) (x := some ⟨sb, 0, none⟩) (by rfl) ?_
    obtain ⟨s, hc, hr⟩ := O3
    refine ok_tld0 C3 hc (x := s) (rdv_sl (by rfl)) ?_
    refine ok_twr0 C3 (.box [slV s]) hc (by simp [en]) rfl rfl fun w4 C4 => ?_
    rw [put_same hc] at C4
    refine ok_tld0 C4 hc (x := s) (rdv_sl (by rfl)) ?_
    refine hq s w4 T3 C4 R3 hr fun b o h h2 h3 => K3 b o (hx1 _ _ h) h2 ?_ h3
    rintro rfl
    rw [hqc] at h; cases h
theorem Tr.recast' (C : Tr en w0 T0 w T) {o o' : Ow} {s : Sl} {m : List Int} (hr : Rw T (Ob.ints o) s m) : ∃ T', Tr en w0 T0 w T' ∧ Rw T' (Ob.ints o') s m ∧ ∀ b p, T b = some p → (∀ l, p ≠ .ints o l) → T' b = some p := by
  rcases hr.at_ with h1 | ⟨b, M, h1, h2, h3, h4⟩
  · exact ⟨T, C, ⟨hr.len, hr.le, hr.max, .inl h1⟩, fun _ _ h _ => h⟩
  · refine ⟨put T b (.ints o' M), ⟨fun c p hc => ?_, C.keep, fun c hc => ?_⟩, ⟨hr.len, hr.le, hr.max, .inr ⟨b, M, h1, put_eq _ _ _, h3, h4⟩⟩, fun c p hc hne => put_other hc h2 (hne _)⟩
    · by_cases e : c = b
      · subst e
        rw [put_eq, Option.some.injEq] at hc; subst hc
        have h5 := C.th c _ h2
        exact h5
      · rw [put_ne _ e] at hc; exact C.th c p hc
    · by_cases e : c = b
      · subst e; exact C.new c (by rw [h2]; simp)
      · rw [put_ne _ e] at hc; exact C.new c hc
end
end Go.Proofs.Ytkkdeljladihpaa

/-
  Numbers read back: all processes, all semaphores, all queues.
-/
namespace Go.Proofs.Ytkkdeljladihpaa
set_option linter.unusedVariables false
open Go.Sh Go.RowKit X
set_option maxRecDepth 100000
def Pr.z (p : Pr) : Pr := ⟨p.prio, p.standing, 0⟩
/-- The cell of the closure that reads a queue. -/
def Qf (T : Hp) (qf c1 c2 : Nat) : Prop := T qf = some (.box [.func (.func 55) #[] #[.pointer (some ⟨c2, 0, none⟩), .pointer (some ⟨c1, 0, none⟩)]])
section
variable {w0 w : World} {T0 T : Hp} {sb c1 c2 rp qf : Nat} {S : Sk} {L : List Sm} {A : St} {α β : Type} {Q : α → World → Prop} {l : List Int}
theorem flat_drop_cons {A' B' : Type} (g : A' → List B') {m : List A'} {i : Nat} (h : i < m.length) : (m.drop i).flatMap g = g m[i] ++ (m.drop (i + 1)).flatMap g := by
  rw [List.drop_eq_getElem_cons h]; rfl
theorem procsR_spec (C : Tr en w0 (fun _ => none) w T) {ps : List Pr} (R : Rdr w0 T sb c1 c2 rp ((ps.length : Int) :: (ps.flatMap prL ++ l))) (I : SInv T sb S L A) (h0 : A.procs = []) (hp : ∀ p ∈ ps, (1 ≤ p.prio ∧ p.prio ≤ 16) ∧ 1 ≤ p.standing ∧ p.standing ≤ 5) (hlen : ps.length ≤ 4096) {f : Unit → Go.Sh.M α}
    (hq : ∀ w' T' S', Tr en w0 (fun _ => none) w' T' → Rdr w0 T' sb c1 c2 rp l → SInv T' sb S' L { A with procs := ps.map Pr.z } → Ok (f ()) w' Q) : Ok (bnd (f53a_many (some ⟨rp, 0, none⟩) 4096 (⟨c2, 0, none⟩, ⟨c1, 0, none⟩)) f) w Q := by
  unfold f53a_many
  refine manyR_spec C (k := ps.length) (l := ps.flatMap prL ++ l) R (by omega) (by omega) (fun i T' => Rdr w0 T' sb c1 c2 rp ((ps.drop i).flatMap prL ++ l) ∧ ∃ S', SInv T' sb S' L { A with procs := (ps.take i).map Pr.z }) (fun i T' h => ⟨_, h.1⟩) (fun T' R' N' => ⟨by simpa using R', S, ?_⟩) (fun i w3 T3 hi C3 ⟨R3, S3, I3⟩ => ?_) fun w3 T3 C3 ⟨R3, S3, I3⟩ => ?_
  · have : ({ A with procs := (ps.take 0).map Pr.z } : St) = A := by
      show ({ A with procs := [] } : St) = A
      rw [← h0]
    rw [this]; exact I.nr R N'
  · rw [flat_drop_cons _ hi] at R3
    have hpi := hp _ (List.getElem_mem hi)
    refine ok_mono (read1_spec C3 (p := ps[i].prio) (s := ps[i].standing) (l := (ps.drop (i + 1)).flatMap prL ++ l) (by simpa [prL] using R3) I3 hpi.1 hpi.2 (by show ((ps.take i).map Pr.z).length ≤ 4096; simp; omega) _) fun _ w4 ⟨T4, C4, R4, S4, I4⟩ => ⟨T4, C4, R4, S4, ?_⟩
    have e : (ps.take (i + 1)).map Pr.z = (ps.take i).map Pr.z ++ [⟨ps[i].prio, ps[i].standing, 0⟩] := by
      rw [List.take_succ_eq_append_getElem hi, List.map_append]; rfl
    rw [e]; exact I4
  · rw [List.drop_length] at R3
    rw [List.take_length] at I3
    exact hq w3 T3 S3 C3 R3 I3
/-- A semaphore. -/
theorem read3_spec (C : Tr en w0 (fun _ => none) w T) {e : Int} {q : List Nat} (R : Rdr w0 T sb c1 c2 rp (e :: (qL q ++ l))) (hqf : Qf T qf c1 c2) (I : SInv T sb S L A) (he : 0 ≤ e ∧ e ≤ 1073741824) (hp : A.procs.length ≤ 4096) (hl : q.length ≤ A.procs.length) (hm : ∀ n ∈ q, 1 ≤ n ∧ n ≤ A.procs.length) (hs : A.sems.length ≤ 4096) (x : Int) :
    Ok (f57_sched_Sched_read_3 x ⟨c2, 0, none⟩ ⟨qf, 0, none⟩ ⟨c1, 0, none⟩) w fun _ w' => ∃ T', Tr en w0 (fun _ => none) w' T' ∧ Rdr w0 T' sb c1 c2 rp l ∧ Qf T' qf c1 c2 ∧ ∃ S' L', SInv T' sb S' L' { A with sems := A.sems ++ [(e, q)] } := by
  unfold f57_sched_Sched_read_3
  simp only [bnd_as, bnd_ret]
  have hnq : ∀ {T : Hp} {l}, Rdr w0 T sb c1 c2 rp l → Qf T qf c1 c2 → qf ≠ rp := fun R h => by
    obtain ⟨y, hy, _⟩ := R.l
    rintro rfl; unfold Qf at h; rw [hy] at h; simp at h
  refine ok_tld0 C R.r (t := .ptr) (x := some ⟨rp, 0, none⟩) (by rfl) ?_
  refine read_spec C R (by omega) (by omega) fun w1 T1 C1 R1 N1 => ?_
  have I1 := I.nr R N1
  have hqf1 : Qf T1 qf c1 c2 := N1 _ _ hqf (hnq R hqf)
  refine ok_tbox C1 rfl rfl fun pb w2 hpb C2 => ?_
  have hx2 : ∀ b o, T1 b = some o → put T1 pb (.box [Value.int .i64 e, Value.slice none 0 0]) b = some o := fun b o h => put_new h hpb
  have R2 : Rdr w0 (put T1 pb (.box [Value.int .i64 e, Value.slice none 0 0])) sb c1 c2 rp (qL q ++ l) := R1.bx fun b l h => hx2 _ _ h
  have I2 := I1.ext hx2
  have hqf2 : Qf (put T1 pb (.box [Value.int .i64 e, Value.slice none 0 0])) qf c1 c2 := hx2 _ _ hqf1
  have hpb2 : put T1 pb (.box [Value.int .i64 e, Value.slice none 0 0]) pb = some (.box [Value.int .i64 e, Value.slice none 0 0]) := put_eq _ _ _
  have hpr : pb ≠ rp := by
    obtain ⟨y, hy, _⟩ := R1.l
    rintro rfl; rw [hpb] at hy; cases hy
  have hpq : qf ≠ pb := by rintro rfl; unfold Qf at hqf1; rw [hpb] at hqf1; cases hqf1
  have hp1 : c1 ≠ pb := by rintro rfl; have := R1.s; rw [hpb] at this; cases this
  have hp2 : c2 ≠ pb := by rintro rfl; have := R1.r; rw [hpb] at this; cases this
  have hpS : sb ≠ pb := by rintro rfl; have := I1.sch; rw [hpb] at this; cases this
  generalize put T1 pb (.box [Value.int .i64 e, Value.slice none 0 0]) = T2 at C2 hx2 R2 I2 hqf2 hpb2
  refine ok_tld0 C2 hqf2 (t := .clo 55 (.pair .adr .adr)) (x := ((⟨c2, 0, none⟩ : Addr), (⟨c1, 0, none⟩ : Addr))) (by rfl) ?_
  refine queueR_spec C2 R2 I2 hp hl hm fun r w3 T3 C3 R3 hr3 K3 => ?_
  have I3 := I2.kq R2 K3
  have hpb3 := K3 _ _ hpb2 hpr (by simp)
  have hqf3 : Qf T3 qf c1 c2 := K3 _ _ hqf2 (hnq R2 hqf2) (by simp)
  refine ok_twr C3 (m := 0) (k := 1) (.box [Value.int .i64 e, slV r]) hpb3 (by simp [en]) rfl rfl fun w4 C4 => ?_
  have hx4 : ∀ b o, T3 b = some o → b ≠ pb → put T3 pb (.box [Value.int .i64 e, slV r]) b = some o := fun b o h n => by rw [put_ne _ n]; exact h
  have R4 : Rdr w0 (put T3 pb (.box [Value.int .i64 e, slV r])) sb c1 c2 rp l := ⟨hx4 _ _ R3.s hp1, hx4 _ _ R3.r hp2, R3.l.imp fun z ⟨g1, g2⟩ => ⟨hx4 _ _ g1 (Ne.symm hpr), g2⟩⟩
  have I4 : SInv (put T3 pb (.box [Value.int .i64 e, slV r])) sb S L A := I3.extB fun b o h n1 n2 => hx4 b o h (by rintro rfl; rw [hpb3] at h; cases h; exact n2 _ rfl)
  have hqf4 : Qf (put T3 pb (.box [Value.int .i64 e, slV r])) qf c1 c2 := hx4 _ _ hqf3 hpq
  have hr4 : Rw (put T3 pb (.box [Value.int .i64 e, slV r])) (Ob.ints (.out 0)) r (ns q) := hr3.mono fun b M _ h => put_other h hpb3 (by simp)
  have hpb4 : put T3 pb (.box [Value.int .i64 e, slV r]) pb = some (.box [Value.int .i64 e, slV r]) := put_eq _ _ _
  generalize put T3 pb (.box [Value.int .i64 e, slV r]) = T4 at C4 R4 I4 hqf4 hr4 hpb4
  obtain ⟨T5, C5, hr5, K5⟩ := Tr.recast' (o' := .sem A.sems.length) C4 hr4
  have R5 : Rdr w0 T5 sb c1 c2 rp l := R4.bx fun b l h => K5 _ _ h (by simp)
  have I5 : SInv T5 sb S L A := I4.extO fun b p h hne => K5 _ _ h (hne 0)
  have hqf5 : Qf T5 qf c1 c2 := K5 _ _ hqf4 (by simp)
  have hpb5 := K5 _ _ hpb4 (by simp)
  refine ok_tord C5 fun o w5 C5 => ?_
  refine ok_tld0 C5 R5.s (t := .ptr) (x := some ⟨sb, 0, none⟩) (by rfl) ?_
  refine ok_tld0 C5 R5.s (t := .ptr) (x := some ⟨sb, 0, none⟩) (by rfl) ?_
  refine ok_drfS (ok_tld C5 I5.sch (x := S.sems) (rdv_sl (by rfl)) ?_)
  refine ok_tld0 C5 hpb5 (t := .agg (.pair (.int .i64) .sl)) (x := (e, r)) (by rfl) ?_
  refine ok_new1 C5 row50 (by decide) (F := ⟨e, r⟩) rfl fun s5 w6 C6 K => ?_
  refine ok_tchk (m := 0) (k := 3) (t := .sl) (x := S.sems) C6 I5.sch (rdv_sl (by rfl)) ?_
  refine ok_tchk0 C6 R5.s (t := .ptr) (x := some ⟨sb, 0, none⟩) (by rfl) ?_
  refine ok_tchk0 C6 R5.s (t := .ptr) (x := some ⟨sb, 0, none⟩) (by rfl) ?_
  have hLl := I5.slen
  refine ok_appG C6 row50 (mk := Ob.sems) (fun _ => rfl) I5.sems K (by simp; omega) (by simp; omega) fun r6 w7 T7 C7 hr7 hT7 => ?_
  have R7 : Rdr w0 T7 sb c1 c2 rp l := R5.bx fun b l hb => hT7 _ _ hb (by simp)
  have hqf7 : Qf T7 qf c1 c2 := hT7 _ _ hqf5 (by simp)
  refine ok_tchk0 C7 R7.s (t := .ptr) (x := some ⟨sb, 0, none⟩) (by rfl) ?_
  refine ok_tchk0 C7 R7.s (t := .ptr) (x := some ⟨sb, 0, none⟩) (by rfl) ?_
  have hsch := hT7 _ _ I5.sch (by simp)
  refine ok_drfS (ok_wrS C7 hsch r6 fun w8 C8 => ?_)
  exact ok_ret.2 ⟨_, C8, R7.bx fun b l hb => put_other hb hsch (by simp), put_other hqf7 hsch (by simp), _, _, I5.addSem2 rfl hr5 hT7 hr7⟩
theorem semsR_spec (C : Tr en w0 (fun _ => none) w T) {ss : List (Int × List Nat)} (R : Rdr w0 T sb c1 c2 rp ((ss.length : Int) :: (ss.flatMap smL ++ l))) (hqf : Qf T qf c1 c2) (I : SInv T sb S L A) (h0 : A.sems = []) (hp : A.procs.length ≤ 4096) (hs : ∀ s ∈ ss, (0 ≤ s.1 ∧ s.1 ≤ 1073741824) ∧ s.2.length ≤ A.procs.length ∧ ∀ n ∈ s.2, 1 ≤ n ∧ n ≤ A.procs.length) (hlen : ss.length ≤ 4096) {f : Unit → Go.Sh.M α}
    (hq : ∀ w' T' S' L', Tr en w0 (fun _ => none) w' T' → Rdr w0 T' sb c1 c2 rp l → Qf T' qf c1 c2 → SInv T' sb S' L' { A with sems := ss } → Ok (f ()) w' Q) : Ok (bnd (f53b_many (some ⟨rp, 0, none⟩) 4096 (⟨c2, 0, none⟩, ⟨qf, 0, none⟩, ⟨c1, 0, none⟩)) f) w Q := by
  unfold f53b_many
  refine manyR_spec C (k := ss.length) (l := ss.flatMap smL ++ l) R (by omega) (by omega) (fun i T' => Rdr w0 T' sb c1 c2 rp ((ss.drop i).flatMap smL ++ l) ∧ Qf T' qf c1 c2 ∧ ∃ S' L', SInv T' sb S' L' { A with sems := ss.take i }) (fun i T' h => ⟨_, h.1⟩) (fun T' R' N' => ⟨by simpa using R', ?_, S, L, ?_⟩) (fun i w3 T3 hi C3 ⟨R3, Q3, S3, L3, I3⟩ => ?_) fun w3 T3 C3 ⟨R3, Q3, S3, L3, I3⟩ => ?_
  · refine N' _ _ hqf ?_
    obtain ⟨y, hy, _⟩ := R.l
    rintro rfl; unfold Qf at hqf; rw [hy] at hqf; simp at hqf
  · have : ({ A with sems := ss.take 0 } : St) = A := by
      show ({ A with sems := [] } : St) = A
      rw [← h0]
    rw [this]; exact I.nr R N'
  · rw [flat_drop_cons _ hi] at R3
    have hsi := hs _ (List.getElem_mem hi)
    refine ok_mono (read3_spec C3 (e := ss[i].1) (q := ss[i].2) (l := (ss.drop (i + 1)).flatMap smL ++ l) (by simpa [smL] using R3) Q3 I3 hsi.1 hp hsi.2.1 hsi.2.2 (by show (ss.take i).length ≤ 4096; simp; omega) _) fun _ w4 ⟨T4, C4, R4, Q4, S4, L4, I4⟩ => ⟨T4, C4, R4, Q4, S4, L4, ?_⟩
    have e : ss.take (i + 1) = ss.take i ++ [(ss[i].1, ss[i].2)] := List.take_succ_eq_append_getElem hi
    rw [e]; exact I4
  · rw [List.drop_length] at R3
    rw [List.take_length] at I3
    exact hq w3 T3 S3 L3 C3 R3 Q3 I3
end
end Go.Proofs.Ytkkdeljladihpaa

/-
  Numbers read back: timers, events.
-/
namespace Go.Proofs.Ytkkdeljladihpaa
set_option linter.unusedVariables false
open Go.Sh Go.RowKit X
set_option maxRecDepth 100000
/-- One timer more. -/
def St.later (A : St) (t n : Int) : St := { A with made := A.made + 1, timers := St.pushT A.timers ⟨t, A.made + 1, n⟩ }
def St.laters (A : St) : List Tm → St
  | [] => A
  | t :: r => (A.later t.time t.sem).laters r
theorem laters_snoc : ∀ (v : List Tm) (A : St) (t : Tm), A.laters (v ++ [t]) = (A.laters v).later t.time t.sem
  | [], A, t => rfl
  | x :: r, A, t => laters_snoc r (A.later x.time x.sem) t
theorem laters_rest : ∀ (v : List Tm) (A : St), (A.laters v).made = A.made + v.length ∧ (A.laters v).timers.length = A.timers.length + v.length ∧ (A.laters v).sems = A.sems ∧ (A.laters v).procs = A.procs ∧ (A.laters v).queues = A.queues ∧ (A.laters v).events = A.events ∧ (A.laters v).now = A.now ∧ (A.laters v).active = A.active
  | [], A => by simp [St.laters]
  | x :: r, A => by
    have ih := laters_rest r (A.later x.time x.sem)
    have hl : (A.later x.time x.sem).timers.length = A.timers.length + 1 := by
      have := (St.pushT_perm A.timers ⟨x.time, A.made + 1, x.sem⟩).length_eq
      rw [List.length_append] at this
      exact this
    have hm : (A.later x.time x.sem).made = A.made + 1 := rfl
    simp only [St.laters, List.length_cons]
    refine ⟨by rw [ih.1, hm]; omega, by rw [ih.2.1, hl]; omega, ih.2.2.1, ih.2.2.2.1, ih.2.2.2.2.1, ih.2.2.2.2.2.1, ih.2.2.2.2.2.2.1, ih.2.2.2.2.2.2.2⟩
section
variable {w0 w : World} {T0 T : Hp} {sb c1 c2 rp lc : Nat} {S : Sk} {L : List Sm} {A : St} {α β : Type} {Q : α → World → Prop} {l : List Int}
theorem later_spec (C : Tr en w0 T0 w T) (I : SInv T sb S L A) (hl : A.timers.length ≤ 4096) (hm : 0 ≤ A.made ∧ A.made < 9223372036854775807) (t x : Int) {f : Unit → Go.Sh.M α}
    (hq : ∀ w' T' S', Tr en w0 T0 w' T' → SInv T' sb S' L (A.later t x) → Bx T T' → Ok (f ()) w' Q) : Ok (bnd (f46_sched_Sched_later (some ⟨sb, 0, none⟩) t x) f) w Q := by
  unfold f46_sched_Sched_later
  simp only [bnd_as, bnd_ret]
  refine ok_drfS (ok_tld C I.sch (rd_made I.qlen) ?_)
  rw [I.made, wI (by omega)]
  refine ok_drfS (ok_wrM C I.sch I.qlen _ fun w1 C1 => ?_)
  have I1 := I.setMade (A.made + 1)
  refine ok_tord C1 fun o w2 C2 => ?_
  refine ok_drfS (ok_drfS (ok_tld C2 I1.sch (rd_made I1.qlen) ?_))
  rw [addr_add, Nat.zero_add]
  refine ok_scall C2 (push_spec C2.th I1.ht (by show A.timers.length ≤ 4096; omega) ⟨t, A.made + 1, x⟩) fun _ w3 T3 C3 h3 => ?_
  obtain ⟨q, H3, K3⟩ := h3
  have I3 := I1.ofHT rfl H3 K3
  refine ok_tchk C3 I3.sch (rd_made I3.qlen) ?_
  exact hq w3 T3 _ C3 I3 fun b l h => K3 _ _ (put_other h I.sch (by simp)) (by simp) (by simp)
/-- A timer. -/
theorem read4_spec (C : Tr en w0 (fun _ => none) w T) {last t n : Int} (R : Rdr w0 T sb c1 c2 rp (t :: n :: l)) (hlc : T lc = some (.box [.int .i64 last])) (I : SInv T sb S L A) (ht : last ≤ t ∧ t ≤ 1152921504606846976) (hn : 1 ≤ n ∧ n ≤ A.sems.length) (hl : A.timers.length ≤ 4096) (hm : 0 ≤ A.made ∧ A.made < 9223372036854775807) (x : Int) :
    Ok (f58_sched_Sched_read_4 x ⟨c2, 0, none⟩ ⟨lc, 0, none⟩ ⟨c1, 0, none⟩) w fun _ w' => ∃ T', Tr en w0 (fun _ => none) w' T' ∧ Rdr w0 T' sb c1 c2 rp l ∧ T' lc = some (.box [.int .i64 t]) ∧ ∃ S', SInv T' sb S' L (A.later t n) := by
  unfold f58_sched_Sched_read_4
  simp only [bnd_as, bnd_ret]
  have hnq : ∀ {T : Hp} {l} {z : Int}, Rdr w0 T sb c1 c2 rp l → T lc = some (.box [.int .i64 z]) → lc ≠ rp ∧ lc ≠ c1 ∧ lc ≠ c2 := fun R h => by
    obtain ⟨y, hy, _⟩ := R.l
    refine ⟨?_, ?_, ?_⟩
    · rintro rfl; rw [hy] at h; simp at h
    · rintro rfl; have := R.s; rw [h] at this; cases this
    · rintro rfl; have := R.r; rw [h] at this; cases this
  refine ok_tld0 C R.r (t := .ptr) (x := some ⟨rp, 0, none⟩) (by rfl) ?_
  refine ok_tld0 C hlc (t := .int .i64) (x := last) (by rfl) ?_
  refine read_spec C R ht.1 ht.2 fun w1 T1 C1 R1 N1 => ?_
  have I1 := I.nr R N1
  have hlc1 := N1 _ _ hlc (hnq R hlc).1
  refine ok_twr0 C1 (.box [.int .i64 t]) hlc1 (by simp [en]) rfl rfl fun w2 C2 => ?_
  have hx2 : ∀ b o, T1 b = some o → b ≠ lc → put T1 lc (.box [.int .i64 t]) b = some o := fun b o h n => by rw [put_ne _ n]; exact h
  have hn1 := hnq R1 hlc1
  have R2 : Rdr w0 (put T1 lc (.box [.int .i64 t])) sb c1 c2 rp (n :: l) := ⟨hx2 _ _ R1.s (Ne.symm hn1.2.1), hx2 _ _ R1.r (Ne.symm hn1.2.2), R1.l.imp fun z ⟨g1, g2⟩ => ⟨hx2 _ _ g1 (Ne.symm hn1.1), g2⟩⟩
  have I2 : SInv (put T1 lc (.box [.int .i64 t])) sb S L A := I1.extB fun b o h n1 n2 => hx2 b o h (by rintro rfl; rw [hlc1] at h; cases h; exact n2 _ rfl)
  have hlc2 : put T1 lc (.box [.int .i64 t]) lc = some (.box [.int .i64 t]) := put_eq _ _ _
  generalize put T1 lc (.box [.int .i64 t]) = T2 at C2 R2 I2 hlc2
  refine ok_tord C2 fun o w2 C2 => ?_
  refine ok_tld0 C2 R2.r (t := .ptr) (x := some ⟨rp, 0, none⟩) (by rfl) ?_
  refine ok_tld0 C2 R2.s (t := .ptr) (x := some ⟨sb, 0, none⟩) (by rfl) ?_
  refine ok_drfS (ok_tld C2 I2.sch (x := S.sems) (rdv_sl (by rfl)) ?_)
  rw [I2.sems.len, I2.slen]
  refine read_spec C2 R2 hn.1 hn.2 fun w3 T3 C3 R3 N3 => ?_
  have I3 := I2.nr R2 N3
  have hlc3 := N3 _ _ hlc2 (hnq R2 hlc2).1
  have e3 : rdv .sl (en (.sch S)).toArray (0 + 3) = some S.sems := rdv_sl (by rfl)
  have hsl : (S.sems.len : Int) = A.sems.length := by rw [I2.sems.len, I2.slen]
  refine ok_tchk (m := 0) (k := 3) (t := .sl) (x := S.sems) C3 I3.sch (rdv_sl (by rfl)) ?_
  refine ok_tchk0 C3 R3.s (t := .ptr) (x := some ⟨sb, 0, none⟩) (by rfl) ?_
  refine ok_tld0 C3 R3.r (t := .ptr) (x := some ⟨rp, 0, none⟩) (by rfl) ?_
  obtain ⟨y, hy, _⟩ := R3.l
  refine ok_drfS (ok_tld C3 hy (t := .bool) (x := false) (by rfl) ?_)
  refine ok_tB rfl ?_
  simp only [bnd_as, bnd_ret]
  refine ok_tld0 C3 R3.s (t := .ptr) (x := some ⟨sb, 0, none⟩) (by rfl) ?_
  refine ok_tld0 C3 hlc3 (t := .int .i64) (x := t) (by rfl) ?_
  refine later_spec C3 I3 hl hm t n fun w4 T4 S4 C4 I4 B4 => ?_
  exact ok_ret.2 ⟨T4, C4, R3.bx B4, B4 _ _ hlc3, S4, I4⟩
theorem timersR_spec (C : Tr en w0 (fun _ => none) w T) {v : List Tm} (R : Rdr w0 T sb c1 c2 rp ((v.length : Int) :: (v.flatMap tmL ++ l))) (hlc : T lc = some (.box [.int .i64 0])) (I : SInv T sb S L A) (hv : v.Pairwise fun x y => x.time ≤ y.time) (ht : ∀ t ∈ v, (0 ≤ t.time ∧ t.time ≤ 1152921504606846976) ∧ 1 ≤ t.sem ∧ t.sem ≤ A.sems.length) (h0 : A.timers = []) (hm : A.made = 0) (hlen : v.length ≤ 4096) {f : Unit → Go.Sh.M α}
    (hq : ∀ w' T' S', Tr en w0 (fun _ => none) w' T' → Rdr w0 T' sb c1 c2 rp l → SInv T' sb S' L (A.laters v) → Ok (f ()) w' Q) : Ok (bnd (f53c_many (some ⟨rp, 0, none⟩) 4096 (⟨c2, 0, none⟩, ⟨lc, 0, none⟩, ⟨c1, 0, none⟩)) f) w Q := by
  unfold f53c_many
  refine manyR_spec C (k := v.length) (l := v.flatMap tmL ++ l) R (by omega) (by omega) (fun i T' => Rdr w0 T' sb c1 c2 rp ((v.drop i).flatMap tmL ++ l) ∧ (∃ last, T' lc = some (.box [.int .i64 last]) ∧ ∀ t ∈ v.drop i, last ≤ t.time) ∧ ∃ S', SInv T' sb S' L (A.laters (v.take i))) (fun i T' h => ⟨_, h.1⟩) (fun T' R' N' => ⟨by simpa using R', ⟨0, ?_, fun t h => (ht t (by simpa using h)).1.1⟩, S, ?_⟩) (fun i w3 T3 hi C3 ⟨R3, ⟨last, hl3, hla⟩, S3, I3⟩ => ?_) fun w3 T3 C3 ⟨R3, _, S3, I3⟩ => ?_
  · refine N' _ _ hlc ?_
    obtain ⟨y, hy, _⟩ := R.l
    rintro rfl; rw [hy] at hlc; simp at hlc
  · exact I.nr R N'
  · rw [flat_drop_cons _ hi] at R3
    have hti := ht _ (List.getElem_mem hi)
    have hr := laters_rest (v.take i) A
    have htl : (v.take i).length = i := by rw [List.length_take]; omega
    have hmem : v[i] ∈ v.drop i := by rw [List.drop_eq_getElem_cons hi]; exact List.mem_cons_self
    rw [h0, hm, htl] at hr
    simp only [List.length_nil] at hr
    refine ok_mono (read4_spec C3 (t := v[i].time) (n := v[i].sem) (l := (v.drop (i + 1)).flatMap tmL ++ l) (by simpa [tmL] using R3) hl3 I3 ⟨hla _ hmem, hti.1.2⟩ (by rw [hr.2.2.1]; exact hti.2) (by omega) (by omega) _) fun _ w4 ⟨T4, C4, R4, hl4, S4, I4⟩ => ⟨T4, C4, R4, ⟨_, hl4, fun t h => ?_⟩, S4, ?_⟩
    · have hp : (v.drop i).Pairwise fun x y => x.time ≤ y.time := hv.sublist (List.drop_sublist _ _)
      rw [List.drop_eq_getElem_cons hi, List.pairwise_cons] at hp
      exact hp.1 t h
    · have e : v.take (i + 1) = v.take i ++ [v[i]] := List.take_succ_eq_append_getElem hi
      rw [e, laters_snoc]; exact I4
  · rw [List.drop_length] at R3
    rw [List.take_length] at I3
    exact hq w3 T3 S3 C3 R3 I3
/-- An event. -/
theorem read5_spec (C : Tr en w0 (fun _ => none) w T) {first n : Int} {k : Nat} (R : Rdr w0 T sb c1 c2 rp ((k : Int) :: n :: l)) (hlc : T lc = some (.box [.int .i64 first])) (I : SInv T sb S L A) (hk : first ≤ (k : Int) ∧ k ≤ 63) (hn : 1 ≤ n ∧ n ≤ A.sems.length) (he : A.events.length = 64) (x : Int) :
    Ok (f59_sched_Sched_read_5 x ⟨c2, 0, none⟩ ⟨lc, 0, none⟩ ⟨c1, 0, none⟩) w fun _ w' => ∃ T', Tr en w0 (fun _ => none) w' T' ∧ Rdr w0 T' sb c1 c2 rp l ∧ T' lc = some (.box [.int .i64 ((k : Int) + 1)]) ∧ ∃ S', SInv T' sb S' L { A with events := A.events.set k n } := by
  unfold f59_sched_Sched_read_5
  simp only [bnd_as, bnd_ret]
  have hnq : ∀ {T : Hp} {l} {z : Int}, Rdr w0 T sb c1 c2 rp l → T lc = some (.box [.int .i64 z]) → lc ≠ rp ∧ lc ≠ c1 ∧ lc ≠ c2 := fun R h => by
    obtain ⟨y, hy, _⟩ := R.l
    refine ⟨?_, ?_, ?_⟩
    · rintro rfl; rw [hy] at h; simp at h
    · rintro rfl; have := R.s; rw [h] at this; cases this
    · rintro rfl; have := R.r; rw [h] at this; cases this
  refine ok_tld0 C R.r (t := .ptr) (x := some ⟨rp, 0, none⟩) (by rfl) ?_
  refine ok_tld0 C hlc (t := .int .i64) (x := first) (by rfl) ?_
  refine read_spec C R hk.1 (by omega) fun w1 T1 C1 R1 N1 => ?_
  have I1 := I.nr R N1
  have hlc1 := N1 _ _ hlc (hnq R hlc).1
  rw [wI (n := (k : Int) + 1) (by omega)]
  refine ok_twr0 C1 (.box [.int .i64 ((k : Int) + 1)]) hlc1 (by simp [en]) rfl rfl fun w2 C2 => ?_
  have hx2 : ∀ b o, T1 b = some o → b ≠ lc → put T1 lc (.box [.int .i64 ((k : Int) + 1)]) b = some o := fun b o h n => by rw [put_ne _ n]; exact h
  have hn1 := hnq R1 hlc1
  have R2 : Rdr w0 (put T1 lc (.box [.int .i64 ((k : Int) + 1)])) sb c1 c2 rp (n :: l) := ⟨hx2 _ _ R1.s (Ne.symm hn1.2.1), hx2 _ _ R1.r (Ne.symm hn1.2.2), R1.l.imp fun z ⟨g1, g2⟩ => ⟨hx2 _ _ g1 (Ne.symm hn1.1), g2⟩⟩
  have I2 : SInv (put T1 lc (.box [.int .i64 ((k : Int) + 1)])) sb S L A := I1.extB fun b o h n1 n2 => hx2 b o h (by rintro rfl; rw [hlc1] at h; cases h; exact n2 _ rfl)
  have hlc2 : put T1 lc (.box [.int .i64 ((k : Int) + 1)]) lc = some (.box [.int .i64 ((k : Int) + 1)]) := put_eq _ _ _
  generalize put T1 lc (.box [.int .i64 ((k : Int) + 1)]) = T2 at C2 R2 I2 hlc2
  refine ok_tord C2 fun o w2 C2 => ?_
  refine ok_tld0 C2 R2.r (t := .ptr) (x := some ⟨rp, 0, none⟩) (by rfl) ?_
  refine ok_tld0 C2 R2.s (t := .ptr) (x := some ⟨sb, 0, none⟩) (by rfl) ?_
  refine ok_drfS (ok_tld C2 I2.sch (x := S.sems) (rdv_sl (by rfl)) ?_)
  rw [I2.sems.len, I2.slen]
  refine read_spec C2 R2 hn.1 hn.2 fun w3 T3 C3 R3 N3 => ?_
  have I3 := I2.nr R2 N3
  have hlc3 := N3 _ _ hlc2 (hnq R2 hlc2).1
  refine ok_tchk (m := 0) (k := 3) (t := .sl) (x := S.sems) C3 I3.sch (rdv_sl (by rfl)) ?_
  refine ok_tchk0 C3 R3.s (t := .ptr) (x := some ⟨sb, 0, none⟩) (by rfl) ?_
  refine ok_tld0 C3 R3.r (t := .ptr) (x := some ⟨rp, 0, none⟩) (by rfl) ?_
  obtain ⟨y, hy, _⟩ := R3.l
  refine ok_drfS (ok_tld C3 hy (t := .bool) (x := false) (by rfl) ?_)
  refine ok_tB rfl ?_
  simp only [bnd_as, bnd_ret]
  refine ok_tld0 C3 R3.s (t := .ptr) (x := some ⟨sb, 0, none⟩) (by rfl) ?_
  refine ok_drfS ?_
  rw [addr_add]
  refine ok_eix rfl (by omega) ?_
  rw [Nat.zero_add]
  have he3 : S.events.length = 64 := by rw [I3.events]; exact he
  refine ok_wrV C3 I3.sch I3.qlen (by omega) n fun w4 C4 => ?_
  have B4 : Bx T3 (put T3 sb (.sch { S with events := S.events.set k n })) := fun b l h => put_other h I3.sch (by simp)
  exact ok_ret.2 ⟨_, C4, R3.bx B4, B4 _ _ hlc3, _, I3.setEvent k n⟩
/-- The events that are heard. -/
def evP : Nat → List Int → List (Nat × Int)
  | _, [] => []
  | i, n :: r => (if n > 0 then [(i, n)] else []) ++ evP (i + 1) r
def evF (p : Nat × Int) : List Int := [(p.1 : Int), p.2]
theorem evK_evP : ∀ (l : List Int) (i : Nat), evK i l = (evP i l).flatMap evF ∧ (evK i l).length = 2 * (evP i l).length
  | [], i => by simp [evK, evP]
  | x :: r, i => by
    have ih := evK_evP r (i + 1)
    simp only [evK, evP]
    split
    · simp only [List.flatMap_append, List.length_append, ih.2, ← ih.1]
      exact ⟨rfl, by simp; omega⟩
    · exact ih
theorem evP_lt : ∀ (l : List Int) (i : Nat), ∀ p ∈ evP i l, i ≤ p.1 ∧ p.1 < i + l.length ∧ p.2 ∈ l
  | [], i => by simp [evP]
  | x :: r, i => fun p hp => by
    simp only [evP, List.mem_append] at hp
    rcases hp with hp | hp
    · split at hp
      · simp only [List.mem_singleton] at hp; subst hp; exact ⟨Nat.le_refl _, by simp, List.mem_cons_self⟩
      · cases hp
    · have := evP_lt r (i + 1) p hp
      simp only [List.length_cons]
      exact ⟨by omega, by omega, List.mem_cons_of_mem _ this.2.2⟩
theorem evP_sorted : ∀ (l : List Int) (i : Nat), (evP i l).Pairwise fun p q => p.1 < q.1
  | [], i => by simp [evP]
  | x :: r, i => by
    simp only [evP]
    rw [List.pairwise_append]
    refine ⟨by split <;> simp, evP_sorted r (i + 1), fun p hp q hq => ?_⟩
    have := evP_lt r (i + 1) q hq
    split at hp
    · simp only [List.mem_singleton] at hp; subst hp; show i < _; omega
    · cases hp
def sets : List (Nat × Int) → List Int → List Int
  | [], l => l
  | p :: r, l => sets r (l.set p.1 p.2)
theorem sets_snoc : ∀ (r : List (Nat × Int)) (l : List Int) (p : Nat × Int), sets (r ++ [p]) l = (sets r l).set p.1 p.2
  | [], l, p => rfl
  | x :: r, l, p => sets_snoc r _ p
theorem sets_len : ∀ (r : List (Nat × Int)) (l : List Int), (sets r l).length = l.length
  | [], l => rfl
  | x :: r, l => by rw [sets, sets_len r, List.length_set]
theorem sets_evP : ∀ (es pre : List Int), (∀ e ∈ es, e = 0 ∨ 1 ≤ e) → sets (evP pre.length es) (pre ++ List.replicate es.length 0) = pre ++ es
  | [], pre, _ => by simp [evP, sets]
  | e :: r, pre, h => by
    have ih := sets_evP r (pre ++ [e]) fun x hx => h x (List.mem_cons_of_mem _ hx)
    rw [List.length_append, List.length_singleton, List.append_assoc, List.append_assoc] at ih
    simp only [List.singleton_append] at ih
    simp only [evP, List.length_cons, List.replicate_succ]
    have he := h e List.mem_cons_self
    split
    · rw [List.singleton_append, sets]
      rw [List.set_append_right _ _ (Nat.le_refl _), Nat.sub_self, List.set_cons_zero]
      exact ih
    · rename_i h0
      have : e = 0 := by omega
      subst this
      exact ih
theorem eventsR_spec (C : Tr en w0 (fun _ => none) w T) {es : List Int} (R : Rdr w0 T sb c1 c2 rp ((((evK 0 es).length / 2 : Nat) : Int) :: (evK 0 es ++ l))) (hlc : T lc = some (.box [.int .i64 0])) (I : SInv T sb S L A) (hes : es.length = 64) (he : ∀ e ∈ es, e = 0 ∨ (1 ≤ e ∧ e ≤ A.sems.length)) (h0 : A.events = List.replicate 64 0) {f : Unit → Go.Sh.M α}
    (hq : ∀ w' T' S', Tr en w0 (fun _ => none) w' T' → Rdr w0 T' sb c1 c2 rp l → SInv T' sb S' L { A with events := es } → Ok (f ()) w' Q) : Ok (bnd (f53d_many (some ⟨rp, 0, none⟩) 64 (⟨c2, 0, none⟩, ⟨lc, 0, none⟩, ⟨c1, 0, none⟩)) f) w Q := by
  have hk := evK_evP es 0
  have hkl := (evK_len es 0).1
  have hd : (evK 0 es).length / 2 = (evP 0 es).length := by omega
  rw [hd, hk.1] at R
  generalize hv : evP 0 es = v at R hd hk
  have hvl : v.length ≤ 64 := by omega
  have hva := evP_lt es 0
  have hvs := evP_sorted es 0
  rw [hv] at hva hvs
  unfold f53d_many
  refine manyR_spec C (k := v.length) (l := v.flatMap evF ++ l) R (by omega) (by omega) (fun i T' => Rdr w0 T' sb c1 c2 rp ((v.drop i).flatMap evF ++ l) ∧ (∃ first : Int, T' lc = some (.box [.int .i64 first]) ∧ ∀ p ∈ v.drop i, first ≤ (p.1 : Int)) ∧ ∃ S', SInv T' sb S' L { A with events := sets (v.take i) A.events }) (fun i T' h => ⟨_, h.1⟩) (fun T' R' N' => ⟨by simpa using R', ⟨0, ?_, fun t h => by omega⟩, S, ?_⟩) (fun i w3 T3 hi C3 ⟨R3, ⟨last, hl3, hla⟩, S3, I3⟩ => ?_) fun w3 T3 C3 ⟨R3, _, S3, I3⟩ => ?_
  · refine N' _ _ hlc ?_
    obtain ⟨y, hy, _⟩ := R.l
    rintro rfl; rw [hy] at hlc; simp at hlc
  · exact I.nr R N'
  · rw [flat_drop_cons _ hi] at R3
    have hti := hva _ (List.getElem_mem hi)
    have hei := he _ hti.2.2
    have hmem : v[i] ∈ v.drop i := by rw [List.drop_eq_getElem_cons hi]; exact List.mem_cons_self
    have hpos : 1 ≤ v[i].2 := by
      have : ∀ (l : List Int) (i : Nat), ∀ p ∈ evP i l, p.2 > 0 := by
        intro l
        induction l with
        | nil => intro i p hp; simp [evP] at hp
        | cons x r ih =>
          intro i p hp
          simp only [evP, List.mem_append] at hp
          rcases hp with hp | hp
          · split at hp
            · simp only [List.mem_singleton] at hp; subst hp; assumption
            · cases hp
          · exact ih _ p hp
      have := this es 0 v[i] (by rw [hv]; exact List.getElem_mem hi)
      omega
    refine ok_mono (read5_spec C3 (k := v[i].1) (n := v[i].2) (l := (v.drop (i + 1)).flatMap evF ++ l) (by simpa [evF] using R3) hl3 I3 ⟨hla _ hmem, by omega⟩ ⟨hpos, by show _ ≤ (A.sems.length : Int); omega⟩ (by show (sets (v.take i) A.events).length = 64; rw [sets_len, h0]; rfl) _) fun _ w4 ⟨T4, C4, R4, hl4, S4, I4⟩ => ⟨T4, C4, R4, ⟨_, hl4, fun t h => ?_⟩, S4, ?_⟩
    · have hp : (v.drop i).Pairwise fun p q => p.1 < q.1 := hvs.sublist (List.drop_sublist _ _)
      rw [List.drop_eq_getElem_cons hi, List.pairwise_cons] at hp
      have := hp.1 t h
      omega
    · have e : v.take (i + 1) = v.take i ++ [v[i]] := List.take_succ_eq_append_getElem hi
      rw [e, sets_snoc]; exact I4
  · rw [List.drop_length] at R3
    rw [List.take_length] at I3
    refine hq w3 T3 S3 C3 R3 ?_
    have e := sets_evP es [] fun e h => (he e h).imp id fun h => h.1
    rw [List.nil_append, List.nil_append, hes, List.length_nil, hv, ← h0] at e
    rw [e] at I3; exact I3
end
end Go.Proofs.Ytkkdeljladihpaa

/-
  Numbers read back: all of them.
-/
namespace Go.Proofs.Ytkkdeljladihpaa
set_option linter.unusedVariables false
open Go.Sh Go.RowKit X
set_option maxRecDepth 100000
theorem qsL_range (A : St) : ∀ n, qsL A n = (List.range n).flatMap fun j => qL (A.queues (j + 1))
  | 0 => rfl
  | n + 1 => by
    rw [List.range_succ, List.flatMap_append, ← qsL_range A n]
    simp [qsL]
/-- What a state's numbers say between calls, besides. -/
structure Ext (A : St) : Prop where
  now : 0 ≤ A.now ∧ A.now ≤ 1152921504606846976
  tms : ∀ t ∈ A.timers, 0 ≤ t.time ∧ t.time ≤ 1152921504606846976
  std : ∀ p ∈ A.procs, 1 ≤ p.standing
/-- What is read, ahead of sound. -/
def St.back0 (A : St) (v : List Tm) : St := ({ A with procs := A.procs.map Pr.z, timers := [], made := 0 } : St).laters v
theorem laters_events : ∀ (v : List Tm) (A : St) (e : List Int), ({ A.laters v with events := e } : St) = ({ A with events := e } : St).laters v
  | [], A, e => rfl
  | t :: r, A, e => by
    simp only [St.laters]
    rw [laters_events r]; rfl
theorem FitX.q_out {A : St} (F : FitX A 0) {p : Nat} (h : p = 0 ∨ 16 < p) : A.queues p = [] := by
  cases hq : A.queues p with
  | nil => rfl
  | cons n r =>
    have := F.que p n (by rw [hq]; exact List.mem_cons_self)
    have hp := F.prio _ (St.pr_mem this.1 this.2.1)
    omega
section
variable {w0 w : World} {T0 T : Hp} {sb c1 c2 rp lc qf : Nat} {S : Sk} {L : List Sm} {A B : St} {α β : Type} {Q : α → World → Prop} {l : List Int}
theorem Rdr.put {b : Nat} {o : Ob} (R : Rdr w0 T sb c1 c2 rp l) (h : T b = none) : Rdr w0 (put T b o) sb c1 c2 rp l := R.bx fun _ _ hb => put_new hb h
theorem Rdr.sch {o : Ob} (R : Rdr w0 T sb c1 c2 rp l) (h : T sb = some (.sch S)) : Rdr w0 (Sh.put T sb o) sb c1 c2 rp l := R.bx fun _ _ hb => put_other hb h (by simp)
theorem SInv.newB {b : Nat} {o : Ob} (I : SInv T sb S L A) (h : T b = none) : SInv (Sh.put T b o) sb S L A := I.ext fun _ _ hb => put_new hb h
/-- The two numbers ahead. -/
theorem headR_spec (C : Tr en w0 (fun _ => none) w T) {now act : Int} {a : Nat} (ha : act = a) (R : Rdr w0 T sb c1 c2 rp (now :: act :: l)) (I : SInv T sb S L A) (hn : 0 ≤ now ∧ now ≤ 1152921504606846976) (h2 : a ≤ 4096) {f : Unit → Go.Sh.M α}
    (hq : ∀ w' T' S', Tr en w0 (fun _ => none) w' T' → Rdr w0 T' sb c1 c2 rp l → SInv T' sb S' L { A with now := now, active := a } → Ok (f ()) w' Q) :
    Ok (bnd (
  bnd (ordM 41 1 (regionIn 1 Try.f41)) fun (o4 : List Nat) =>
  bnd (ld .ptr ⟨c1, 0, none⟩) fun (v5 : Option Addr) =>
  bnd (ld .ptr ⟨c1, 0, none⟩) fun (v6 : Option Addr) =>
  bnd (ld .ptr ⟨c2, 0, none⟩) fun (v7 : Option Addr) =>
  bnd (ld .ptr ⟨c2, 0, none⟩) fun (v8 : Option Addr) =>
  bnd (f52_sched_reader_next v7 (0 : Int) (1152921504606846976 : Int)) fun (r9 : Int) =>
  bnd (
  bnd (chk .ptr ⟨c2, 0, none⟩ v8) fun _ =>
  bnd (chk .ptr ⟨c1, 0, none⟩ v6) fun _ =>
  bnd (chk .ptr ⟨c1, 0, none⟩ v5) fun _ =>
  ret ()) fun _ =>
  bnd (f52_sched_reader_next v8 (0 : Int) (4096 : Int)) fun (r10 : Int) =>
  bnd (
  bnd (chk .ptr ⟨c1, 0, none⟩ v6) fun _ =>
  bnd (chk .ptr ⟨c1, 0, none⟩ v5) fun _ =>
  ret ()) fun _ =>
  bnd (drf v5) fun (p11 : Addr) =>
  bnd (wrs (Addr.add p11 0) 0 [.int .i64 r9]) fun _ =>
  bnd (
  bnd (chk .ptr ⟨c1, 0, none⟩ v6) fun _ =>
  ret ()) fun _ =>
  bnd (drf v6) fun (p12 : Addr) =>
  bnd (wrs (Addr.add p12 1) 0 [.int .i64 r10]) fun _ =>
  bnd (ret ()) fun _ =>
  ret ()) f) w Q := by
  simp only [bnd_as, bnd_ret]
  refine ok_tord C fun o w1 C => ?_
  refine ok_tld0 C R.s (t := .ptr) (x := some ⟨sb, 0, none⟩) (by rfl) ?_
  refine ok_tld0 C R.s (t := .ptr) (x := some ⟨sb, 0, none⟩) (by rfl) ?_
  refine ok_tld0 C R.r (t := .ptr) (x := some ⟨rp, 0, none⟩) (by rfl) ?_
  refine ok_tld0 C R.r (t := .ptr) (x := some ⟨rp, 0, none⟩) (by rfl) ?_
  refine read_spec C R hn.1 hn.2 fun w2 T2 C2 R2 N2 => ?_
  have I2 := I.nr R N2
  refine ok_tchk0 C2 R2.r (t := .ptr) (x := some ⟨rp, 0, none⟩) (by rfl) ?_
  refine ok_tchk0 C2 R2.s (t := .ptr) (x := some ⟨sb, 0, none⟩) (by rfl) ?_
  refine ok_tchk0 C2 R2.s (t := .ptr) (x := some ⟨sb, 0, none⟩) (by rfl) ?_
  refine read_spec C2 R2 (by omega) (by omega) fun w3 T3 C3 R3 N3 => ?_
  have I3 := I2.nr R2 N3
  refine ok_tchk0 C3 R3.s (t := .ptr) (x := some ⟨sb, 0, none⟩) (by rfl) ?_
  refine ok_tchk0 C3 R3.s (t := .ptr) (x := some ⟨sb, 0, none⟩) (by rfl) ?_
  refine ok_drfS (ok_wrN C3 I3.sch now fun w4 C4 => ?_)
  have I4 := I3.setNow now
  have R4 := R3.sch (o := .sch { S with now := now }) I3.sch
  refine ok_tchk0 C4 R4.s (t := .ptr) (x := some ⟨sb, 0, none⟩) (by rfl) ?_
  refine ok_drfS (ok_active C4 I4 ha fun w5 C5 => ?_)
  exact hq w5 _ _ C5 (R4.sch I4.sch) (I4.on a)
/-- One queue of the ready. -/
theorem queueSet_spec (C : Tr en w0 (fun _ => none) w T) {q : List Nat} {p : Nat} (R : Rdr w0 T sb c1 c2 rp (qL q ++ l)) (hqf : Qf T qf c1 c2) (I : SInv T sb S L A) (hp : A.procs.length ≤ 4096) (hl : q.length ≤ A.procs.length) (hm : ∀ n ∈ q, 1 ≤ n ∧ n ≤ A.procs.length) (hp16 : p < 17) {x : Int} (hx : x = p) {f : Unit → Go.Sh.M α}
    (hq : ∀ w' T' S', Tr en w0 (fun _ => none) w' T' → Rdr w0 T' sb c1 c2 rp l → Qf T' qf c1 c2 → SInv T' sb S' L (A.setQ p q) → Ok (f ()) w' Q) :
    Ok (bnd (ordM 41 8 (regionIn 8 Try.f41)) fun (o20 : List Nat) =>
  bnd (ld .ptr ⟨c1, 0, none⟩) fun (v21 : Option Addr) =>
  bnd (ld (.clo 55 (.pair .adr .adr)) ⟨qf, 0, none⟩) fun (v22 : (Addr × Addr)) =>
  bnd (drf v21) fun (p23 : Addr) =>
  bnd (f55_sched_Sched_read_2 v22.1 v22.2) fun (r24 : Sl) =>
  bnd (chk .ptr ⟨c1, 0, none⟩ v21) fun _ =>
  bnd (ixA 17 1 (Addr.add p23 4) x) fun (p25 : Addr) =>
  bnd (wrs p25 0 [.slice r24.a r24.len r24.cap]) f) w Q := by
  refine ok_tord C fun o w1 C => ?_
  refine ok_tld0 C R.s (t := .ptr) (x := some ⟨sb, 0, none⟩) (by rfl) ?_
  refine ok_tld0 C hqf (t := .clo 55 (.pair .adr .adr)) (x := ((⟨c2, 0, none⟩ : Addr), (⟨c1, 0, none⟩ : Addr))) (by rfl) ?_
  refine ok_drfS ?_
  refine queueR_spec C R I hp hl hm fun r w3 T3 C3 R3 hr3 K3 => ?_
  have I3 := I.kq R K3
  have hqr : qf ≠ rp := by
    obtain ⟨y, hy, _⟩ := R.l
    rintro rfl; unfold Qf at hqf; rw [hy] at hqf; simp at hqf
  have hqf3 : Qf T3 qf c1 c2 := K3 _ _ hqf hqr (by simp)
  refine ok_tchk0 C3 R3.s (t := .ptr) (x := some ⟨sb, 0, none⟩) (by rfl) ?_
  rw [addr_add]
  refine ok_qix hx hp16 ?_
  rw [Nat.zero_add]
  obtain ⟨T5, C5, hr5, K5⟩ := Tr.recast' (o' := .queue p) C3 hr3
  have R5 : Rdr w0 T5 sb c1 c2 rp l := R3.bx fun b l h => K5 _ _ h (by simp)
  have I5 : SInv T5 sb S L A := I3.extO fun b p h hne => K5 _ _ h (hne 0)
  have hqf5 : Qf T5 qf c1 c2 := K5 _ _ hqf3 (by simp)
  refine ok_wrQ C5 I5.sch (by rw [I5.qlen]; exact hp16) r fun w6 C6 => ?_
  exact hq w6 _ _ C6 (R5.sch I5.sch) (put_other hqf5 I5.sch (by simp)) (I5.setQ (fun _ _ h _ => h) hr5)
theorem readR_spec (C : Tr en w0 (fun _ => none) w T) {x : Sl} {v : List Tm} (hrp : T rp = some (.box [slV x, .bool false])) (H : Arr w0.heap.size w0 x (nums .i64 (stateL A v))) (I : SInv T sb Sk.new [] St.new) (F : FitX A 0) (E : Ext A) (hv1 : v.Perm A.timers) (hv2 : v.Pairwise fun x y => St.lt y x = false) {f : Unit → Go.Sh.M α}
    (hq : ∀ w' T' S' L', Tr en w0 (fun _ => none) w' T' → (∃ x, T' rp = some (.box [slV x, .bool false]) ∧ x.len = 0) → SInv T' sb S' L' (A.back0 v) → Ok (f ()) w' Q) : Ok (bnd (f41_sched_Sched_read (some ⟨sb, 0, none⟩) (some ⟨rp, 0, none⟩)) f) w Q := by
  have hf := F.few
  unfold f41_sched_Sched_read
  rw [bnd_as]
  refine ok_tnew C (.box [.pointer (some ⟨sb, 0, none⟩)]) rfl fun c1 w1 hc1 C1 => ?_
  rw [bnd_as]
  refine ok_tnew C1 (.box [.pointer (some ⟨rp, 0, none⟩)]) rfl fun c2 w2 hc2 C2 => ?_
  have R2 : Rdr w0 (Sh.put (Sh.put T c1 (.box [.pointer (some ⟨sb, 0, none⟩)])) c2 (.box [.pointer (some ⟨rp, 0, none⟩)])) sb c1 c2 rp (stateL A v) := ⟨put_new (put_eq _ _ _) hc2, put_eq _ _ _, x, put_new (put_new hrp hc1) hc2, H⟩
  have I2 := (I.newB (o := .box [.pointer (some ⟨sb, 0, none⟩)]) hc1).newB (o := .box [.pointer (some ⟨rp, 0, none⟩)]) hc2
  generalize Sh.put (Sh.put T c1 (.box [.pointer (some ⟨sb, 0, none⟩)])) c2 (.box [.pointer (some ⟨rp, 0, none⟩)]) = T2 at C2 R2 I2
  have hact := F.rn.act
  have e1 : stateL A v = A.now :: (A.active : Int) :: ((A.procs.length : Int) :: (A.procs.flatMap prL ++ ((A.sems.length : Int) :: (A.sems.flatMap smL ++ ((List.range 16).flatMap (fun j => qL (A.queues (j + 1))) ++ ((v.length : Int) :: (v.flatMap tmL ++ ((((evK 0 A.events).length / 2 : Nat) : Int) :: (evK 0 A.events ++ []))))))))) := by
    simp only [stateL, headL, qsL_range, List.append_assoc, List.cons_append, List.nil_append, List.append_nil]
  rw [e1] at R2
  rw [bnd_as]
  refine headR_spec C2 rfl R2 I2 E.now (by omega) fun w3 T3 S3 C3 R3 I3 => ?_
  rw [bnd_as]
  refine ok_tld0 C3 R3.r (t := .ptr) (x := some ⟨rp, 0, none⟩) (by rfl) ?_
  rw [bnd_as]
  refine procsR_spec C3 R3 I3 rfl (fun p hp => ⟨⟨(F.prio p hp).1, (F.prio p hp).2.1⟩, E.std p hp, (F.prio p hp).2.2.2⟩) hf.1 fun w4 T4 S4 C4 R4 I4 => ?_
  simp only [bnd_as, bnd_ret]
  refine ok_tbox C4 rfl rfl fun qf w5 hqf C5 => ?_
  have R5 := R4.put (o := .box [.func (.func 55) #[] #[.pointer (some ⟨c2, 0, none⟩), .pointer (some ⟨c1, 0, none⟩)]]) hqf
  have I5 := I4.newB (o := .box [.func (.func 55) #[] #[.pointer (some ⟨c2, 0, none⟩), .pointer (some ⟨c1, 0, none⟩)]]) hqf
  have Q5 : Qf (Sh.put T4 qf (.box [.func (.func 55) #[] #[.pointer (some ⟨c2, 0, none⟩), .pointer (some ⟨c1, 0, none⟩)]])) qf c1 c2 := put_eq _ _ _
  generalize Sh.put T4 qf (.box [.func (.func 55) #[] #[.pointer (some ⟨c2, 0, none⟩), .pointer (some ⟨c1, 0, none⟩)]]) = T5 at C5 R5 I5 Q5
  refine ok_tld0 C5 R5.r (t := .ptr) (x := some ⟨rp, 0, none⟩) (by rfl) ?_
  have hmz : (A.procs.map Pr.z).length = A.procs.length := List.length_map _
  refine semsR_spec C5 R5 Q5 I5 rfl (by show (A.procs.map Pr.z).length ≤ 4096; omega) (fun s hs => ?_) hf.2.1 fun w6 T6 S6 L6 C6 R6 Q6 I6 => ?_
  · obtain ⟨i, hi, rfl⟩ := List.mem_iff_getElem.1 hs
    have h1 := F.exc (i + 1) (by omega) (by omega)
    have h2 := F.wl (i := i + 1) (by omega) (by omega)
    have h3 := fun n => F.wq (i + 1) n (by omega) (by omega)
    have e : A.sm (i + 1) = A.sems[i] := by
      unfold St.sm
      rw [Nat.add_sub_cancel, List.getD_eq_getElem?_getD, List.getElem?_eq_getElem hi]; rfl
    rw [e] at h1 h2
    refine ⟨⟨h1.1, h1.2.1⟩, by show _ ≤ (A.procs.map Pr.z).length; omega, fun n hn => ?_⟩
    have := h3 n (by rw [e]; exact hn)
    exact ⟨this.1, by show _ ≤ (A.procs.map Pr.z).length; omega⟩
  generalize hB : (({ now := A.now, active := A.active, procs := A.procs.map Pr.z, sems := A.sems, queues := fun _ => [], timers := [], made := 0, events := List.replicate 64 0 } : St)) = B0
  have I6 : SInv T6 sb S6 L6 B0 := by rw [← hB]; exact I6
  have hBp : B0.procs.length = A.procs.length := by rw [← hB]; exact hmz
  refine ok_bnd.2 (ok_mono (Q := fun _ w' => ∃ T' S', Tr en w0 (fun _ => none) w' T' ∧ (∃ x, T' rp = some (.box [slV x, .bool false]) ∧ x.len = 0) ∧ SInv T' sb S' L6 (A.back0 v)) ?_ fun _ w' ⟨T', S', h1, h2, h3⟩ => hq w' T' S' L6 h1 h2 h3)
  refine ok_loopN (fun m (i' : Int) w' => ∃ (p : Nat) (T' : Hp) (S' : Sk), i' = ((p + 1 : Nat) : Int) ∧ p ≤ 16 ∧ m = 16 - p ∧ Tr en w0 (fun _ => none) w' T' ∧ Rdr w0 T' sb c1 c2 rp (((List.range 16).drop p).flatMap (fun j => qL (A.queues (j + 1))) ++ ((v.length : Int) :: (v.flatMap tmL ++ ((((evK 0 A.events).length / 2 : Nat) : Int) :: (evK 0 A.events ++ []))))) ∧ Qf T' qf c1 c2 ∧ SInv T' sb S' L6 { B0 with queues := fun x => if 1 ≤ x ∧ x ≤ p then A.queues x else [] }) ?_ 16 1 w6 ⟨0, T6, S6, rfl, Nat.zero_le _, rfl, C6, R6, Q6, ?_⟩
  rotate_left
  · have : (fun x => if 1 ≤ x ∧ x ≤ 0 then A.queues x else []) = B0.queues := by
      rw [← hB]; funext x; rw [if_neg (by omega)]
    rw [this]; exact I6
  clear I6 Q6 R6 C6 R5 I5 Q5 C5
  rintro m i' w7 ⟨p, T7, S7, rfl, hp, rfl, C7, R7, Q7, I7⟩
  by_cases hlt : p < 16
  · refine ok_true (by simp; omega) ?_
    rw [flat_drop_cons _ (by rw [List.length_range]; exact hlt), List.append_assoc, List.getElem_range] at R7
    have hql := F.ql (p + 1)
    refine queueSet_spec C7 (q := A.queues (p + 1)) (p := p + 1) R7 Q7 I7 (by show B0.procs.length ≤ _; omega) (by show _ ≤ B0.procs.length; omega) (fun n hn => ?_) (by omega) rfl fun w8 T8 S8 C8 R8 Q8 I8 => ?_
    · have := F.que _ n hn
      exact ⟨this.1, by show _ ≤ B0.procs.length; omega⟩
    refine ok_ret.2 ⟨16 - (p + 1), by omega, p + 1, T8, S8, by rw [wI (by omega)]; simp, by omega, rfl, C8, R8, Q8, ?_⟩
    have : (fun x => if x = p + 1 then A.queues (p + 1) else (if 1 ≤ x ∧ x ≤ p then A.queues x else [])) = fun x => if 1 ≤ x ∧ x ≤ p + 1 then A.queues x else [] := by
      funext x
      by_cases e : x = p + 1
      · rw [if_pos e, if_pos (by omega), e]
      · rw [if_neg e]
        by_cases h : 1 ≤ x ∧ x ≤ p
        · rw [if_pos h, if_pos (by omega)]
        · rw [if_neg h, if_neg (by omega)]
    rw [← this]; exact I8
  refine ok_false (by simp; omega) ?_
  have : p = 16 := by omega
  subst this
  rw [List.drop_of_length_le (by rw [List.length_range]; omega)] at R7
  have hqs : (fun x => if 1 ≤ x ∧ x ≤ 16 then A.queues x else []) = A.queues := by
    funext x
    by_cases h : 1 ≤ x ∧ x ≤ 16
    · rw [if_pos h]
    · rw [if_neg h, F.q_out (by omega)]
  rw [hqs] at I7
  simp only [List.flatMap_nil, List.nil_append] at R7
  refine ok_tbox C7 rfl rfl fun lc w8 hlc C8 => ?_
  have R8 := R7.put (o := .box [.int .i64 0]) hlc
  have I8 := I7.newB (o := .box [.int .i64 0]) hlc
  refine ok_tld0 C8 R8.r (t := .ptr) (x := some ⟨rp, 0, none⟩) (by rfl) ?_
  have hvt : v.Pairwise fun x y => x.time ≤ y.time := hv2.imp fun {x y} h => by
    rw [St.lt_not] at h; unfold St.le at h; omega
  have hBs : B0.sems = A.sems := by rw [← hB]
  refine timersR_spec C8 R8 (put_eq _ _ _) I8 hvt (fun t ht => ?_) (by rw [← hB]) (by rw [← hB]) (by rw [hv1.length_eq]; exact hf.2.2) fun w9 T9 S9 C9 R9 I9 => ?_
  · have hm := hv1.mem_iff.1 ht
    have := F.tms t hm
    exact ⟨E.tms t hm, by rw [hBs]; exact this⟩
  refine ok_tbox C9 rfl rfl fun fc w10 hfc C10 => ?_
  have R10 := R9.put (o := .box [.int .i64 0]) hfc
  have I10 := I9.newB (o := .box [.int .i64 0]) hfc
  refine ok_tld0 C10 R10.r (t := .ptr) (x := some ⟨rp, 0, none⟩) (by rfl) ?_
  have hr := laters_rest v ({ B0 with queues := A.queues } : St)
  refine eventsR_spec C10 R10 (put_eq _ _ _) I10 F.evs.1 (fun e he => ?_) (by rw [hr.2.2.2.2.2.1, ← hB]) fun w11 T11 S11 C11 R11 I11 => ?_
  · rw [hr.2.2.1, hBs]; exact F.evs.2 e he
  refine ok_ret.2 ⟨T11, S11, C11, R11.l.imp fun x h => ⟨h.1, by have := h.2.1; simpa [nums] using this⟩, ?_⟩
  have e : ({ ({ B0 with queues := A.queues } : St).laters v with events := A.events } : St) = A.back0 v := by
    rw [laters_events, ← hB]; rfl
  rw [← e]; exact I11
end
end Go.Proofs.Ytkkdeljladihpaa
