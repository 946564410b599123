/-
  Parts of the proof: ZVH, ZVI. It states what the functions do; no further condition.
-/
import Derived.Test.YtkkdeljladihpaaGreatZVG
import Derived.Test.YtkkdeljladihpaaGreatZXD
set_option linter.unusedVariables false
set_option linter.unusedSimpArgs false
/-
  The document's scheduler: processes and counts written; who runs, walked.
-/
namespace Go.Proofs.YtkkdeljladihpaaGreat
namespace R
open Go.Sh Go.RowKit X Y
set_option maxRecDepth 100000
/-- What a call answers, and what memory holds behind it. -/
def Rq {β : Type} (w0 : World) (T0 : Hp) (sb : Nat) (r0 : β) (A' : St) : β → World → Prop := fun r w' => r = r0 ∧ ∃ T' S', Tr en w0 T0 w' T' ∧ Inv T' sb S' A'
section
variable {w0 w : World} {T0 T U : Hp} {sb : Nat} {S : Sk} {A : St} {α β : Type} {Q : α → World → Prop}
theorem ok_rc {m : Go.Sh.M β} {r0 : β} {A' : St} {f : β → Go.Sh.M α} (h : Ok m w (Rq w0 T0 sb r0 A')) (hq : ∀ w' T' S', Tr en w0 T0 w' T' → Inv T' sb S' A' → Ok (f r0) w' Q) : Ok (bnd m f) w Q := by
  refine ok_bnd.2 (ok_mono h ?_)
  rintro r w' ⟨rfl, T', S', h1, h2⟩
  exact hq w' T' S' h1 h2
theorem ok_pix (I : Inv T sb S A) {n : Nat} (h1 : 1 ≤ n) (h2 : n ≤ A.procs.length) {y : Int} (hy : y = n - 1) {f : Addr → Go.Sh.M α} (hq : ∀ b, S.procs.a = some ⟨b, 0, none⟩ → Ok (f ⟨b, 4 * (n - 1), none⟩) w Q) : Ok (bnd (ix 4 S.procs y) f) w Q := by
  obtain ⟨b, M, g1, g2, g3, g4⟩ := I.procs.blk (by omega)
  subst hy
  refine ok_ixN g1 (by omega) (by rw [I.procs.len]; omega) ?_
  rw [show ((n : Int) - 1).toNat = n - 1 by omega]
  exact hq b g1
theorem ok_pld (C : Tr en w0 T0 w T) (I : Inv T sb S A) {n b : Nat} (h1 : 1 ≤ n) (h2 : n ≤ A.procs.length) (hb : S.procs.a = some ⟨b, 0, none⟩) {j : Nat} {t : Ty} {x : t.den} (hj : j + t.size ≤ 4) (hx : rdv t (Pr.en (A.pr n)).toArray j = some x) {f : t.den → Go.Sh.M α} (hq : Ok (f x) w Q) : Ok (bnd (ld t (Addr.add ⟨b, 4 * (n - 1), none⟩ j)) f) w Q := by
  obtain ⟨b', M, g1, g2, g3, g4⟩ := I.procs.blk (by omega)
  rw [hb] at g1
  simp only [Option.some.injEq, Addr.mk.injEq, and_true] at g1
  subst g1
  have hM : M[n - 1]? = some (A.pr n) := by rw [← List.getElem?_take_of_lt (j := A.procs.length) (by omega), g4]; exact pr_get h1 h2
  exact ok_tld C g2 (flat_rdv (g := Pr.en) (fun _ => rfl) hM hj hx) hq
theorem Inv.ne (I : Inv T sb S A) {b : Nat} {o : Ob} (hb : T b = some o) (ho : ∀ s, o ≠ .sch s) : sb ≠ b := by
  rintro rfl
  rw [I.sch, Option.some.injEq] at hb
  exact ho _ hb.symm
theorem ok_pw (C : Tr en w0 T0 w T) (I : Inv T sb S A) {n b : Nat} (h1 : 1 ≤ n) (h2 : n ≤ A.procs.length) (hb : S.procs.a = some ⟨b, 0, none⟩) (r' : Pr) {j : Nat} {vs : List Value} (hj : j + vs.length ≤ 4) (ha : vs.all single = true) (hs : spl (Pr.en (A.pr n)) j vs = Pr.en r') {f : Unit → Go.Sh.M α}
    (hq : ∀ w' T', Tr en w0 T0 w' T' → Inv T' sb S (A.setPr n r') → Ok (f ()) w' Q) : Ok (bnd (wrs (Addr.add ⟨b, 4 * (n - 1), none⟩ j) 0 vs) f) w Q := by
  obtain ⟨b', M, g1, g2, g3, g4⟩ := I.procs.blk (by omega)
  rw [hb] at g1
  simp only [Option.some.injEq, Addr.mk.injEq, and_true] at g1
  subst g1
  have hM : M[n - 1]? = some (A.pr n) := by rw [← List.getElem?_take_of_lt (j := A.procs.length) (by omega), g4]; exact pr_get h1 h2
  have hlt : n - 1 < M.length := by
    rcases Nat.lt_or_ge (n - 1) M.length with h | h
    · exact h
    · rw [List.getElem?_eq_none h] at hM; cases hM
  refine ok_twr C (.procs (M.set (n - 1) r')) g2 ?_ ha (flat_spl (g := Pr.en) (fun _ => rfl) hM hj hs) fun w' C' => ?_
  · show _ ≤ (M.flatMap Pr.en).length
    rw [flat_length (g := Pr.en) (n := 4) (fun _ => rfl)]
    have : 4 * (n - 1) + 4 ≤ 4 * M.length := by rw [← Nat.mul_succ]; exact Nat.mul_le_mul_left _ hlt
    omega
  have keep : ∀ c o, T c = some o → (∀ l, o ≠ .procs l) → put T b (.procs (M.set (n - 1) r')) c = some o := fun c o hc hne => by
    rw [put_ne]
    · exact hc
    · rintro rfl; rw [g2, Option.some.injEq] at hc; exact hne _ hc.symm
  have hl := I.procs.len
  refine hq w' _ C' ⟨keep _ _ I.sch (by simp), I.now, I.events, I.elen, I.last, I.first, ?_, I.excess.mono fun c l _ hc => keep _ _ hc (by simp), I.timers.mono fun c l _ hc => keep _ _ hc (by simp)⟩
  refine ⟨by show _ = (A.procs.set (n - 1) r').length; rw [List.length_set]; exact hl, I.procs.le, I.procs.max, .inr ⟨b, _, hb, put_eq _ _ _, by rw [List.length_set]; exact g3, ?_⟩⟩
  show (M.set (n - 1) r').take (A.procs.set (n - 1) r').length = A.procs.set (n - 1) r'
  rw [List.length_set, List.take_set, g4]
/-- A process's number, read. -/
theorem ok_prd (C : Tr en w0 T0 w T) (I : Inv T sb S A) {n : Nat} (h1 : 1 ≤ n) (h2 : n ≤ A.procs.length) {y : Int} (hy : y = n - 1) {j : Nat} {t : Ty} {x : t.den} (hj : j + t.size ≤ 4) (hx : rdv t (Pr.en (A.pr n)).toArray j = some x) {f : t.den → Go.Sh.M α} (hq : Ok (f x) w Q) :
    Ok (bnd (drf (some ⟨sb, 0, none⟩)) fun (p : Addr) => bnd (ld .sl (Addr.add p 1)) fun (v : Sl) => bnd (ix 4 v y) fun (a : Addr) => bnd (ld t (Addr.add a j)) f) w Q :=
  ok_drfS (ok_tld C I.sch (x := S.procs) (rdv_sl (by rfl)) (ok_pix I h1 h2 hy fun b hb => ok_pld C I h1 h2 hb hj hx hq))
/-- Counts. -/
theorem ok_eld (C : Tr en w0 T0 w T) (I : Inv T sb S A) {n : Nat} (h1 : 1 ≤ n) (h2 : n ≤ A.excess.length) {y : Int} (hy : y = n - 1) {f : Int → Go.Sh.M α} (hq : Ok (f (A.ex n)) w Q) : Ok (bnd (ix 1 S.excess y) fun (p : Addr) => bnd (ld (.int .i64) p) f) w Q := by
  have hx : A.excess[n - 1]? = some (A.ex n) := by
    unfold St.ex
    rw [List.getD_eq_getElem?_getD, List.getElem?_eq_getElem (by omega)]; rfl
  exact ok_rowR C (g := iV) (n := 1) (mk := Ob.exc) (fun _ => rfl) (fun _ => rfl) I.excess hx (t := .int .i64) (v := A.ex n) (by decide) (by rfl) (by omega) hq
theorem ok_ewr (C : Tr en w0 T0 w T) (I : Inv T sb S A) {n : Nat} (h1 : 1 ≤ n) (h2 : n ≤ A.excess.length) {y : Int} (hy : y = n - 1) (e : Int) {f : Unit → Go.Sh.M α}
    (hq : ∀ w' T', Tr en w0 T0 w' T' → Inv T' sb S (A.setE n e) → Ok (f ()) w' Q) : Ok (bnd (ix 1 S.excess y) fun (p : Addr) => bnd (wrs p 0 [.int .i64 e]) f) w Q := by
  obtain ⟨b, M, g1, g2, g3, g4⟩ := I.excess.blk (by omega)
  subst hy
  refine ok_ixN g1 (by omega) (by rw [I.excess.len]; omega) ?_
  rw [show ((n : Int) - 1).toNat = n - 1 by omega]
  have hle : A.excess.length ≤ M.length := by have := congrArg List.length g4; rw [List.length_take] at this; omega
  have hM : M[n - 1]? = some M[n - 1] := List.getElem?_eq_getElem (by omega)
  refine ok_twr0 C (.exc (M.set (n - 1) e)) g2 ?_ rfl ?_ fun w' C' => ?_
  · show _ ≤ (M.flatMap iV).length
    rw [flat_length (g := iV) (n := 1) (fun _ => rfl)]
    simp; omega
  · have := flat_spl (g := iV) (n := 1) (fun _ => rfl) hM (k := 0) (vs := [.int .i64 e]) (a' := e) (by simp) rfl
    rw [Nat.add_zero] at this; exact this
  have keep : ∀ c o, T c = some o → (∀ l, o ≠ .exc l) → put T b (.exc (M.set (n - 1) e)) c = some o := fun c o hc hne => by
    rw [put_ne]
    · exact hc
    · rintro rfl; rw [g2, Option.some.injEq] at hc; exact hne _ hc.symm
  have hl := I.excess.len
  refine hq w' _ C' ⟨keep _ _ I.sch (by simp), I.now, I.events, I.elen, I.last, I.first, I.procs.mono fun c l _ hc => keep _ _ hc (by simp), ?_, I.timers.mono fun c l _ hc => keep _ _ hc (by simp)⟩
  refine ⟨by show _ = (A.excess.set (n - 1) e).length; rw [List.length_set]; exact hl, I.excess.le, I.excess.max, .inr ⟨b, _, g1, put_eq _ _ _, by rw [List.length_set]; exact g3, ?_⟩⟩
  show (M.set (n - 1) e).take (A.excess.set (n - 1) e).length = A.excess.set (n - 1) e
  rw [List.length_set, List.take_set, g4]
theorem setPr_twice (A : St) (n : Nat) (r r' : Pr) : (A.setPr n r).setPr n r' = A.setPr n r' := by
  unfold St.setPr
  simp only [List.set_set]
theorem ahead_set (A : St) (n : Nat) (r r' : Pr) : (A.setPr n r).ahead.setPr n r' = (A.setPr n r').ahead := by
  unfold St.setPr St.ahead
  simp only [List.set_set]
theorem pr_setR' {B : St} {n : Nat} {r : Pr} (h1 : 1 ≤ n) (h2 : n ≤ B.procs.length) : (B.setPr n r).pr n = r := by
  have := pr_get (A := B.setPr n r) h1 (by show n ≤ (B.procs.set (n - 1) r).length; rw [List.length_set]; exact h2)
  have e : (B.setPr n r).procs[n - 1]? = some r := by
    show (B.procs.set (n - 1) r)[n - 1]? = _
    rw [List.getElem?_set_self (by omega)]
  rw [e, Option.some.injEq] at this
  exact this.symm
theorem actL_le : ∀ (l : List Pr) (i : Nat), actL i l ≤ i + l.length
  | [], i => Nat.zero_le _
  | p :: r, i => by
    have := actL_le r (i + 1)
    unfold actL
    split
    · simp
    · simp; omega
theorem active_le (A : St) : A.active ≤ A.procs.length := by have := actL_le A.procs 0; unfold St.active; omega
theorem one_le (A : St) : 0 ≤ A.one ∧ A.one ≤ A.procs.length := by have := oneN_lt A.procs A.procs.length; unfold St.one; omega
theorem len_setPr (A : St) (n : Nat) (r : Pr) : (A.setPr n r).procs.length = A.procs.length := List.length_set
/-- One becomes active. -/
theorem takes_step (C : Tr en w0 T0 w T) (I : Inv T sb S A) {n : Nat} (h1 : 1 ≤ n) (h2 : n ≤ A.procs.length) {y : Int} (hy : y = n - 1) {f : Unit → Go.Sh.M α} (hq : ∀ w' T', Tr en w0 T0 w' T' → Inv T' sb S (A.takes n) → Ok (f ()) w' Q) :
    Ok (bnd (drf (some ⟨sb, 0, none⟩)) fun (p : Addr) => bnd (ld .sl (Addr.add p 1)) fun (v : Sl) => bnd (ix 4 v y) fun (a : Addr) => bnd (wrs (Addr.add a 1) 0 [.int .u8 (2 : Int)]) f) w Q := by
  refine ok_drfS (ok_tld C I.sch (x := S.procs) (rdv_sl (by rfl)) (ok_pix I h1 h2 hy fun b hb => ?_))
  exact ok_pw C I h1 h2 hb { A.pr n with standing := 2 } (by decide) rfl rfl fun w1 T1 C1 I1 => hq w1 T1 C1 I1
theorem runs_spec (C : Tr en w0 T0 w T) (I : Inv T sb S A) (hl : A.procs.length ≤ 4096) (hr : A.Room 1) : Ok (f71_runs (some ⟨sb, 0, none⟩)) w (Rq w0 T0 sb () A.runs) := by
  unfold f71_runs
  refine one_spec C I hl fun w1 T1 C1 E1 => ?_
  have I1 := I.ext E1
  have ho := one_le A
  have ha := active_le A
  refine active_spec C1 I1 hl ?_
  refine ok_tdraw C1 fun w2 C2 => ?_
  refine ok_bnd.2 (ok_mono (Q := fun b w' => w' = w2 ∧ b = decide (0 < A.active ∧ 0 < A.one ∧ (A.pr A.one.toNat).prio > (A.pr A.active).prio)) ?_ ?_)
  · by_cases h : 0 < A.active ∧ 0 < A.one
    · refine ok_true (by simp; omega) ?_
      refine ok_prd C2 I1 (n := A.one.toNat) (by omega) (by omega) (by rw [wI (by omega)]; omega) (j := 0) (t := .int .i64) (x := (A.pr A.one.toNat).prio) (by decide) (by rfl) ?_
      refine ok_prd C2 I1 (n := A.active) (by omega) (by omega) (by rw [wI (by omega)]) (j := 0) (t := .int .i64) (x := (A.pr A.active).prio) (by decide) (by rfl) ?_
      refine ok_ret.2 ⟨rfl, ?_⟩
      rw [decide_eq_decide]
      exact ⟨fun g => ⟨h.1, h.2, g⟩, fun g => g.2.2⟩
    · refine ok_false ?_ (ok_ret.2 ⟨rfl, ?_⟩)
      · rw [Bool.cond_false_right]; simp; omega
      · rw [eq_comm, decide_eq_false_iff_not]; exact fun g => h ⟨g.1, g.2.1⟩
  rintro b w3 ⟨hw, hb⟩
  rw [hw]
  unfold St.runs
  by_cases h : 0 < A.active ∧ 0 < A.one ∧ (A.pr A.one.toNat).prio > (A.pr A.active).prio
  · rw [if_pos h]
    refine ok_bnd.2 (ok_mono (Q := fun r w' => r = 0 ∧ ∃ T' S', Tr en w0 T0 w' T' ∧ Inv T' sb S' (A.yields A.active)) ?_ ?_)
    · refine ok_true (by rw [hb]; simpa using h) ?_
      refine ok_drfS (ok_tld C2 I1.sch (x := S.procs) (rdv_sl (by rfl)) ?_)
      refine ok_pix I1 (n := A.active) (by omega) (by omega) (by rw [wI (by omega)]) fun b hb => ?_
      refine ok_pw C2 I1 (n := A.active) (by omega) (by omega) hb { A.pr A.active with standing := 1 } (by decide) rfl rfl fun w4 T4 C4 I4 => ?_
      refine ok_bnd.2 ?_
      refine ok_tord C4 fun o w5 C5 => ?_
      refine ok_drfS (ok_tld C5 I4.sch (x := S.procs) (rdv_sl (by rfl)) ?_)
      refine ahead_spec C5 I4 hr fun w6 C6 I6 => ?_
      simp only [bnd_as, bnd_ret]
      refine ok_tchk C6 I6.sch (m := 0) (k := 1) (x := S.procs) (rdv_sl (by rfl)) ?_
      have hl2 : A.active ≤ (A.setPr A.active { A.pr A.active with standing := 1 }).ahead.procs.length := by show _ ≤ (A.setPr _ _).procs.length; rw [len_setPr]; omega
      have e : (A.setPr A.active { A.pr A.active with standing := 1 }).ahead.pr A.active = { A.pr A.active with standing := 1 } := pr_setR' (B := A) (by omega) (by omega)
      refine ok_pix I6 (n := A.active) (by omega) hl2 (by rw [wI (by omega)]) fun b2 hb2 => ?_
      refine ok_pw C6 I6 (n := A.active) (by omega) hl2 hb2 { A.pr A.active with standing := 1, key := A.first - 1 } (by simp) rfl (by rw [e]; rfl) fun w7 T7 C7 I7 => ?_
      refine ok_ret.2 (ok_ret.2 ⟨rfl, T7, { S with first := A.first - 1 }, C7, ?_⟩)
      rw [ahead_set] at I7
      exact I7
    · rintro r w4 ⟨rfl, T4, S4, C4, I4⟩
      refine ok_bnd.2 (ok_mono (Q := Rq w0 T0 sb () ((A.yields A.active).takes A.one.toNat)) ?_ fun r w' h => ok_ret.2 h)
      refine ok_true (by simp; omega) ?_
      have hl4 : A.one.toNat ≤ (A.yields A.active).procs.length := by show _ ≤ (A.setPr _ _).procs.length; rw [len_setPr]; omega
      exact takes_step C4 I4 (n := A.one.toNat) (by omega) hl4 (by rw [wI (by omega)]; omega) fun w5 T5 C5 I5 => ok_ret.2 ⟨rfl, T5, S4, C5, I5⟩
  · rw [if_neg h]
    refine ok_bnd.2 (ok_false (by rw [hb]; simpa using h) (ok_ret.2 ?_))
    by_cases h2 : A.active = 0 ∧ 0 < A.one
    · rw [if_pos h2]
      refine ok_bnd.2 (ok_mono (Q := Rq w0 T0 sb () (A.takes A.one.toNat)) ?_ fun r w' h => ok_ret.2 h)
      refine ok_true (by simp; omega) ?_
      exact takes_step C2 I1 (n := A.one.toNat) (by omega) (by omega) (by rw [wI (by omega)]; omega) fun w5 T5 C5 I5 => ok_ret.2 ⟨rfl, T5, S, C5, I5⟩
    · rw [if_neg h2]
      refine ok_bnd.2 (ok_mono (Q := Rq w0 T0 sb () A) ?_ fun r w' h => ok_ret.2 h)
      refine ok_false ?_ (ok_ret.2 ⟨rfl, T1, S, C2, I1⟩)
      rw [Bool.cond_false_right]; simp; omega
end
end R
end Go.Proofs.YtkkdeljladihpaaGreat

/-
  The document's scheduler: the calls walked.
-/
namespace Go.Proofs.YtkkdeljladihpaaGreat
namespace R
open Go.Sh Go.RowKit X Y
set_option maxRecDepth 100000
/-- Alike to some state of the package's. -/
def Good (B : St) : Prop := ∃ A : YtkkdeljladihpaaGreat.St, SimX A B 0 ∧ FitX A 0
theorem Good.pl {B : St} (G : Good B) : B.procs.length ≤ 4096 := by obtain ⟨A, M, F⟩ := G; rw [M.len]; exact F.few.1
theorem Good.el {B : St} (G : Good B) : B.excess.length ≤ 4096 := by obtain ⟨A, M, F⟩ := G; rw [M.elen]; exact F.few.2.1
theorem Good.tl {B : St} (G : Good B) : B.timers.length ≤ 4096 := by obtain ⟨A, M, F⟩ := G; rw [M.tms.len]; exact F.few.2.2
theorem Good.ex {B : St} (G : Good B) {i : Nat} (h1 : 1 ≤ i) (h2 : i ≤ B.excess.length) : 0 ≤ B.ex i ∧ B.ex i ≤ 1073741824 := by
  obtain ⟨A, M, F⟩ := G
  rw [M.elen] at h2
  rw [M.ex]
  have := F.exc i h1 h2
  omega
theorem Good.wq {B : St} (G : Good B) {i : Nat} (h1 : 1 ≤ i) (h2 : i ≤ B.excess.length) : Qu B 3 0 i (B.ord 3 0 i) := by
  obtain ⟨A, M, F⟩ := G
  rw [M.elen] at h2
  have := M.quW F h1 h2
  rw [this.ord]; exact this
theorem Good.rq {B : St} (G : Good B) {p : Nat} (h1 : 1 ≤ p) : Qu B 1 p 0 (B.ord 1 p 0) := by
  obtain ⟨A, M, F⟩ := G
  have := M.quQ F h1
  rw [this.ord]; exact this
theorem isSemR {A : St} {n : Int} : A.isSem n = true ↔ 1 ≤ n ∧ n ≤ A.excess.length := by unfold St.isSem; simp
section
variable {w0 w : World} {T0 T U : Hp} {sb : Nat} {S : Sk} {A : St} {α β : Type} {Q : α → World → Prop}
theorem is_spec (C : Tr en w0 T0 w T) (I : Inv T sb S A) (n : Int) {f : Bool → Go.Sh.M α} (hq : Ok (f (A.isSem n)) w Q) : Ok (bnd (f72_is (some ⟨sb, 0, none⟩) n) f) w Q := by
  unfold f72_is
  simp only [bnd_as, bnd_ret]
  have hl := I.excess.len
  by_cases h : n ≥ 1
  · refine ok_tB (by simpa using h) ?_
    simp only [bnd_as, bnd_ret]
    refine ok_drfS (ok_tld C I.sch (x := S.excess) (rdv_sl (by rfl)) ?_)
    have e : decide (n ≤ (S.excess.len : Int)) = A.isSem n := by unfold St.isSem; rw [hl, decide_eq_true h, Bool.true_and]
    rw [e]; exact hq
  · refine ok_fB (by simpa using h) ?_
    simp only [bnd_ret]
    have e : A.isSem n = false := by unfold St.isSem; rw [decide_eq_false h]; rfl
    rw [← e]; exact hq
theorem alive_spec (C : Tr en w0 T0 w T) (I : Inv T sb S A) (hl : A.procs.length ≤ 4096) (n : Int) {f : Int → Go.Sh.M α} (hq : Ok (f (A.alive n)) w Q) : Ok (bnd (f74_alive (some ⟨sb, 0, none⟩) n) f) w Q := by
  have hpl := I.procs.len
  refine ok_bnd.2 (ok_mono (Q := fun r w' => r = A.alive n ∧ w' = w) ?_ fun r w' ⟨h1, h2⟩ => by rw [h1, h2]; exact hq)
  unfold f74_alive
  refine ok_bnd.2 (ok_mono (Q := fun b w' => w' = w ∧ b = decide (n < 1 ∨ n > A.procs.length)) ?_ ?_)
  · by_cases h : n < 1
    · exact ok_true (by simpa using h) (ok_ret.2 ⟨rfl, by simp [h]⟩)
    · refine ok_false (by simpa using h) ?_
      refine ok_drfS (ok_tld C I.sch (x := S.procs) (rdv_sl (by rfl)) (ok_ret.2 ⟨rfl, ?_⟩))
      rw [hpl, decide_eq_decide]
      exact ⟨fun g => .inr g, fun g => g.resolve_left h⟩
  rintro b w1 ⟨hw, hb⟩
  rw [hw]
  unfold St.alive
  by_cases h : n < 1 ∨ n > A.procs.length
  · rw [if_pos h]
    exact ok_true (by rw [hb]; simpa using h) (ok_ret.2 ⟨rfl, rfl⟩)
  rw [if_neg h]
  refine ok_false (by rw [hb]; simpa using h) ?_
  refine ok_prd C I (n := n.toNat) (by omega) (by omega) (by rw [wI (by omega)]; omega) (j := 1) (t := .int .u8) (x := (A.pr n.toNat).standing) (by decide) (by rfl) ?_
  by_cases h5 : (A.pr n.toNat).standing = 5
  · rw [if_pos h5]; exact ok_true (by rw [h5]; rfl) (ok_ret.2 ⟨rfl, rfl⟩)
  · rw [if_neg h5]; exact ok_false (by simpa using h5) (ok_ret.2 ⟨rfl, rfl⟩)
theorem behind_set (A : St) (n : Nat) (r r' : Pr) : (A.setPr n r).behind.setPr n r' = (A.setPr n r').behind := by
  unfold St.setPr St.behind
  simp only [List.set_set]
theorem ready_spec (C : Tr en w0 T0 w T) (I : Inv T sb S A) (hr : A.Room 1) {n : Nat} (h1 : 1 ≤ n) (h2 : n ≤ A.procs.length) (hl : A.procs.length ≤ 4096) : Ok (f75_ready (some ⟨sb, 0, none⟩) (n : Int)) w (Rq w0 T0 sb () (A.ready n)) := by
  unfold f75_ready
  refine ok_drfS (ok_tld C I.sch (x := S.procs) (rdv_sl (by rfl)) ?_)
  refine ok_pix I h1 h2 (by rw [wI (by omega)]) fun b hb => ?_
  refine ok_pw C I h1 h2 hb { A.pr n with standing := 1 } (by decide) rfl rfl fun w1 T1 C1 I1 => ?_
  have e1 : (A.setPr n { A.pr n with standing := 1 }).pr n = { A.pr n with standing := 1 } := pr_setR' h1 h2
  refine ok_pw C1 I1 h1 (by rw [len_setPr]; exact h2) hb { A.pr n with standing := 1, sem := 0 } (by decide) rfl (by rw [e1]; rfl) fun w2 T2 C2 I2 => ?_
  rw [setPr_twice] at I2
  refine behind_spec C2 I2 hr fun w3 C3 I3 => ?_
  have e2 : (A.setPr n { A.pr n with standing := 1, sem := 0 }).behind.pr n = { A.pr n with standing := 1, sem := 0 } := pr_setR' (B := A) h1 h2
  refine ok_pw C3 I3 h1 (by show n ≤ (A.setPr n _).procs.length; rw [len_setPr]; exact h2) hb { A.pr n with standing := 1, sem := 0, key := A.last + 1 } (by simp) rfl (by rw [e2]; rfl) fun w4 T4 C4 I4 => ?_
  rw [behind_set] at I4
  exact ok_ret.2 ⟨rfl, T4, _, C4, I4⟩
/-- Rows that are appended to leave all else. -/
theorem app_keep {A' : Type} {mk : List A' → Ob} {T' : Hp} {s r : Sl} {ys : List A'} (hT : T' = T ∧ r = s ∧ ys = [] ∨ ∃ fb L', T' = put T fb (mk L') ∧ r.a = some ⟨fb, 0, none⟩ ∧ (T fb = none ∨ s.a = some ⟨fb, 0, none⟩ ∧ ∃ L, T fb = some (mk L))) : ∀ c p, T c = some p → (∀ l, p ≠ mk l) → T' c = some p := by
  intro c p hc hne
  rcases hT with ⟨rfl, _, _⟩ | ⟨fb, M, rfl, hra, hfb⟩
  · exact hc
  rcases hfb with h0 | ⟨_, M0, hM⟩
  · exact put_new hc h0
  · exact put_other hc hM (hne _)
theorem room_behind {n : Int} (h : A.Room (n + 1)) : A.behind.Room n := by
  unfold St.Room at *
  show 0 ≤ A.last + 1 ∧ A.last + 1 + n ≤ _ ∧ A.first ≤ 0 ∧ _ ≤ A.first - n
  omega
theorem sch_keep {S' : Sk} (hs : T sb = some (.sch S)) : ∀ c q, T c = some q → (∀ s, q ≠ .sch s) → put T sb (.sch S') c = some q := fun c q hc hne => by
  rw [put_ne]
  · exact hc
  · rintro rfl; rw [hs, Option.some.injEq] at hc; exact hne _ hc.symm
theorem fork_spec (C : Tr en w0 T0 w T) (I : Inv T sb S A) (hl : A.procs.length ≤ 4096) (hr : A.Room 2) (p : Int) : Ok (f25_Fork (some ⟨sb, 0, none⟩) p) w (Rq w0 T0 sb (A.fork p).1 (A.fork p).2) := by
  unfold f25_Fork St.fork
  have hpl := I.procs.len
  by_cases hp : p < 1 ∨ p > 16
  · rw [if_pos hp]
    exact ok_true (by rw [Bool.cond_true_left]; simpa using hp) (ok_ret.2 ⟨rfl, T, S, C, I⟩)
  rw [if_neg hp]
  refine ok_false (by rw [Bool.cond_true_left]; simp; omega) ?_
  refine ok_drfS (ok_tld C I.sch (x := S.procs) (rdv_sl (by rfl)) ?_)
  by_cases h : A.procs.length ≥ 4096
  · rw [if_pos h]
    exact ok_true (by rw [hpl]; simp; omega) (ok_ret.2 ⟨rfl, T, S, C, I⟩)
  rw [if_neg h]
  refine ok_false (by rw [hpl]; simp; omega) ?_
  have hr1 : A.Room 1 := by unfold St.Room at *; omega
  refine ok_bnd.2 (ok_mono (Q := fun _ w' => ∃ T' S', Tr en w0 T0 w' T' ∧ Inv T' sb S' ({ A with procs := A.procs ++ [⟨p, 1, 0, A.last + 1⟩] } : St).behind) ?_ ?_)
  · refine ok_tord C fun o w1 C1 => ?_
    refine ok_drfS (ok_tld C1 I.sch (x := S.procs) (rdv_sl (by rfl)) ?_)
    refine behind_spec C1 I hr1 fun w2 C2 I2 => ?_
    simp only [bnd_as, bnd_ret]
    refine ok_tchk C2 I2.sch (m := 0) (k := 1) (x := S.procs) (rdv_sl (by rfl)) ?_
    refine ok_bnd.2 (ok_build1R row27 (by decide) (F := ⟨p, 1, 0, A.last + 1⟩) (v := .agg #[.int .i64 p, .int .u8 (1 : Int), .int .i64 (0 : Int), .int .i64 (A.last + 1)]) rfl ?_)
    have C3 := C2.alloc (.procs [⟨p, 1, 0, A.last + 1⟩]) 72
    have E3 := Ex.put (o := .procs [⟨p, 1, 0, A.last + 1⟩]) C2.none_at
    have R3 : Rw (put (put T sb (.sch { S with last := A.last + 1 })) w2.heap.size (.procs [⟨p, 1, 0, A.last + 1⟩])) Ob.procs ⟨some ⟨w2.heap.size, 0, none⟩, 1, 1⟩ [⟨p, 1, 0, A.last + 1⟩] := ⟨rfl, Nat.le_refl _, by show 1 ≤ maxLen; decide, .inr ⟨_, _, rfl, put_eq _ _ _, rfl, rfl⟩⟩
    have I3 := I2.ext E3
    refine ok_tchk C3 I3.sch (m := 0) (k := 1) (x := S.procs) (rdv_sl (by rfl)) ?_
    refine ok_appR C3 row27 (mk := Ob.procs) (fun _ => rfl) I3.procs (Rw.src row27 (en := en) (mk := Ob.procs) (fun _ => rfl) C3.th R3) (by show (A.procs.length + 1) * 32 ≤ _; omega) (by show A.procs.length + 1 ≤ maxLen; simp only [maxLen]; omega) fun r w4 T4 C4 R4 hT => ?_
    have K4 := app_keep hT
    have hs4 := K4 _ _ I3.sch (by simp)
    refine ok_drfS (ok_twr C4 (m := 0) (k := 1) (.sch { S with last := A.last + 1, procs := r }) hs4 (by rw [en_len]; show 0 + 1 + 1 ≤ 6 + _; omega) rfl rfl fun w5 C5 => ok_ret.2 ?_)
    have keep := sch_keep (S' := { S with last := A.last + 1, procs := r }) hs4
    exact ⟨_, _, C5, put_eq _ _ _, I.now, I.events, I.elen, rfl, I.first, R4.mono fun c l _ hc => keep _ _ hc (by simp), I3.excess.mono fun c l _ hc => keep _ _ (K4 _ _ hc (by simp)) (by simp), I3.timers.mono fun c l _ hc => keep _ _ (K4 _ _ hc (by simp)) (by simp)⟩
  · rintro _ w1 ⟨T1, S1, C1, I1⟩
    refine ok_drfS (ok_tld C1 I1.sch (x := S1.procs) (rdv_sl (by rfl)) ?_)
    have hl1 : ({ A with procs := A.procs ++ [⟨p, 1, 0, A.last + 1⟩] } : St).behind.procs.length = A.procs.length + 1 := by show (A.procs ++ [_]).length = _; simp
    refine ok_rc (runs_spec C1 I1 (by omega) (room_behind (A := ({ A with procs := A.procs ++ [⟨p, 1, 0, A.last + 1⟩] } : St)) hr)) fun w2 T2 S2 C2 I2 => ok_ret.2 ⟨?_, T2, S2, C2, I2⟩
    have := I1.procs.len
    rw [hl1] at this
    rw [this]; rfl
theorem yield_spec (C : Tr en w0 T0 w T) (I : Inv T sb S A) (hl : A.procs.length ≤ 4096) (hr : A.Room 2) : Ok (f26_Yield (some ⟨sb, 0, none⟩)) w (Rq w0 T0 sb A.yield.1 A.yield.2) := by
  unfold f26_Yield St.yield
  have ha := active_le A
  refine active_spec C I hl ?_
  by_cases h0 : A.active = 0
  · rw [if_pos h0]
    exact ok_true (by rw [h0]; rfl) (ok_ret.2 ⟨rfl, T, S, C, I⟩)
  rw [if_neg h0]
  refine ok_false (by simpa using h0) ?_
  have hr1 : A.Room 1 := by unfold St.Room at *; omega
  generalize A.active = n at *
  have h1 : 1 ≤ n := by omega
  refine ok_drfS (ok_tld C I.sch (x := S.procs) (rdv_sl (by rfl)) ?_)
  refine ok_pix I h1 ha (by rw [wI (by omega)]) fun b hb => ?_
  refine ok_pw C I h1 ha hb { A.pr n with standing := 1 } (by decide) rfl rfl fun w1 T1 C1 I1 => ?_
  refine ok_bnd.2 (ok_mono (Q := fun _ w' => ∃ T' S', Tr en w0 T0 w' T' ∧ Inv T' sb S' (A.back n)) ?_ ?_)
  · refine ok_tord C1 fun o w2 C2 => ?_
    refine ok_drfS (ok_tld C2 I1.sch (x := S.procs) (rdv_sl (by rfl)) ?_)
    refine behind_spec C2 I1 hr1 fun w3 C3 I3 => ?_
    simp only [bnd_as, bnd_ret]
    refine ok_tchk C3 I3.sch (m := 0) (k := 1) (x := S.procs) (rdv_sl (by rfl)) ?_
    have e2 : (A.setPr n { A.pr n with standing := 1 }).behind.pr n = { A.pr n with standing := 1 } := pr_setR' (B := A) h1 ha
    have hl3 : n ≤ (A.setPr n { A.pr n with standing := 1 }).behind.procs.length := by show n ≤ (A.setPr n _).procs.length; rw [len_setPr]; exact ha
    refine ok_pix I3 h1 hl3 (by rw [wI (by omega)]) fun b3 hb3 => ?_
    refine ok_pw C3 I3 h1 hl3 hb3 { A.pr n with standing := 1, key := A.last + 1 } (by simp) rfl (by rw [e2]; rfl) fun w4 T4 C4 I4 => ?_
    rw [behind_set] at I4
    exact ok_ret.2 ⟨T4, _, C4, I4⟩
  · rintro _ w2 ⟨T2, S2, C2, I2⟩
    exact ok_rc (runs_spec C2 I2 (by show (A.setPr n _).procs.length ≤ 4096; rw [len_setPr]; exact hl) (room_behind (A := A.setPr n _) hr)) fun w3 T3 S3 C3 I3 => ok_ret.2 ⟨rfl, T3, S3, C3, I3⟩
theorem semaphore_spec (C : Tr en w0 T0 w T) (I : Inv T sb S A) : Ok (f27_Semaphore (some ⟨sb, 0, none⟩)) w (Rq w0 T0 sb A.semaphore.1 A.semaphore.2) := by
  unfold f27_Semaphore St.semaphore
  have hel := I.excess.len
  refine ok_drfS (ok_tld C I.sch (x := S.excess) (rdv_sl (by rfl)) ?_)
  by_cases h : A.excess.length ≥ 4096
  · rw [if_pos h]
    exact ok_true (by rw [hel]; simp; omega) (ok_ret.2 ⟨rfl, T, S, C, I⟩)
  rw [if_neg h]
  refine ok_false (by rw [hel]; simp; omega) ?_
  refine ok_drfS (ok_tld C I.sch (x := S.excess) (rdv_sl (by rfl)) ?_)
  refine ok_oneI C fun v w1 T1 C1 E1 R1 => ?_
  have I1 := I.ext E1
  refine ok_appR C1 row31 (mk := Ob.exc) (fun _ => rfl) I1.excess (srcI C1.th R1) (by simp; omega) (by simp only [maxLen]; simp; omega) fun r w4 T4 C4 R4 hT => ?_
  have K4 := app_keep hT
  have hs4 := K4 _ _ I1.sch (by simp)
  refine ok_drfS (ok_twr C4 (m := 0) (k := 2) (.sch { S with excess := r }) hs4 (by rw [en_len]; show 0 + 2 + 1 ≤ 6 + _; omega) rfl rfl fun w5 C5 => ?_)
  have keep := sch_keep (S' := { S with excess := r }) hs4
  have I5 : Inv (put T4 sb (.sch { S with excess := r })) sb { S with excess := r } ({ A with excess := A.excess ++ [0] } : St) :=
    ⟨put_eq _ _ _, I.now, I.events, I.elen, I.last, I.first, I1.procs.mono fun c l _ hc => keep _ _ (K4 _ _ hc (by simp)) (by simp), R4.mono fun c l _ hc => keep _ _ hc (by simp), I1.timers.mono fun c l _ hc => keep _ _ (K4 _ _ hc (by simp)) (by simp)⟩
  refine ok_drfS (ok_tld C5 I5.sch (x := r) (rdv_sl (by rfl)) (ok_ret.2 ⟨?_, _, _, C5, I5⟩))
  have := R4.len
  rw [this, List.length_append]; rfl
theorem waits_spec (C : Tr en w0 T0 w T) (I : Inv T sb S A) (hl : A.procs.length ≤ 4096) {n : Int} {q : List Nat} (hQ : Qu A 3 0 n q) (k : Nat) {f : Sl → Go.Sh.M α} (hq : ∀ r w' T', Tr en w0 T0 w' T' → Ex T T' → Fr T r → Rw T' (Ob.ints k) r (ns q) → Ok (f r) w' Q) : Ok (bnd (f49_Waits (some ⟨sb, 0, none⟩) n) f) w Q := by
  unfold f49_Waits
  simp only [bnd_as, bnd_ret]
  exact order_spec C I hl hQ k hq
theorem queue_spec (C : Tr en w0 T0 w T) (I : Inv T sb S A) (hl : A.procs.length ≤ 4096) {n : Int} {q : List Nat} (hQ : Qu A 1 n 0 q) (k : Nat) {f : Sl → Go.Sh.M α} (hq : ∀ r w' T', Tr en w0 T0 w' T' → Ex T T' → Fr T r → Rw T' (Ob.ints k) r (ns q) → Ok (f r) w' Q) : Ok (bnd (f50_Queue (some ⟨sb, 0, none⟩) n) f) w Q := by
  unfold f50_Queue
  simp only [bnd_as, bnd_ret]
  exact order_spec C I hl hQ k hq
theorem wait_spec (C : Tr en w0 T0 w T) (I : Inv T sb S A) (G : Good A) (hr : A.Room 2) (n : Int) : Ok (f28_Wait (some ⟨sb, 0, none⟩) n) w (Rq w0 T0 sb (A.wait n).1 (A.wait n).2) := by
  unfold f28_Wait St.wait
  have hl := G.pl
  have hel := G.el
  have ha := active_le A
  refine active_spec C I hl ?_
  refine is_spec C I n ?_
  by_cases h0 : A.active = 0
  · rw [if_pos h0]
    exact ok_true (by rw [h0]; rfl) (ok_ret.2 ⟨rfl, T, S, C, I⟩)
  rw [if_neg h0]
  refine ok_false (by simpa using h0) ?_
  by_cases hs : A.isSem n = false
  · rw [if_pos hs]
    exact ok_true (by rw [hs]; rfl) (ok_ret.2 ⟨rfl, T, S, C, I⟩)
  rw [if_neg hs]
  have hs1 : A.isSem n = true := by simpa using hs
  refine ok_false (by rw [hs1]; rfl) ?_
  have hn := isSemR.1 hs1
  have hx := G.ex (i := n.toNat) (by omega) (by omega)
  have hni : n = (n.toNat : Int) := by omega
  have hw : IntKind.wrap .i64 (n - 1) = (n.toNat : Int) - 1 := by rw [wI (by omega)]; omega
  rw [hw]
  have i1 : 1 ≤ n.toNat := by omega
  have i2 : n.toNat ≤ A.excess.length := by omega
  refine ok_drfS (ok_tld C I.sch (x := S.excess) (rdv_sl (by rfl)) ?_)
  refine ok_eld C I i1 i2 rfl ?_
  by_cases he : A.ex n.toNat > 0
  · rw [if_pos he]
    refine ok_true (by simpa using he) ?_
    refine ok_drfS (ok_tld C I.sch (x := S.excess) (rdv_sl (by rfl)) ?_)
    refine ok_eld C I i1 i2 rfl ?_
    rw [wI (by omega)]
    exact ok_ewr C I i1 i2 rfl _ fun w1 T1 C1 I1 => ok_ret.2 ⟨rfl, T1, S, C1, I1⟩
  rw [if_neg he]
  refine ok_false (by simpa using he) ?_
  have hr1 : A.Room 1 := by unfold St.Room at *; omega
  unfold St.waits
  rw [← hni]
  generalize A.active = x at *
  have h1 : 1 ≤ x := by omega
  refine ok_drfS (ok_tld C I.sch (x := S.procs) (rdv_sl (by rfl)) ?_)
  refine ok_pix I h1 ha (by rw [wI (by omega)]) fun b hb => ?_
  refine ok_pw C I h1 ha hb { A.pr x with standing := 3 } (by decide) rfl rfl fun w1 T1 C1 I1 => ?_
  have e1 : (A.setPr x { A.pr x with standing := 3 }).pr x = { A.pr x with standing := 3 } := pr_setR' h1 ha
  refine ok_pw C1 I1 h1 (by rw [len_setPr]; exact ha) hb { A.pr x with standing := 3, sem := n } (by simp) rfl (by rw [e1]; rfl) fun w2 T2 C2 I2 => ?_
  rw [setPr_twice] at I2
  refine behind_spec C2 I2 hr1 fun w3 C3 I3 => ?_
  have e2 : (A.setPr x { A.pr x with standing := 3, sem := n }).behind.pr x = { A.pr x with standing := 3, sem := n } := pr_setR' (B := A) h1 ha
  refine ok_pw C3 I3 h1 (by show x ≤ (A.setPr x _).procs.length; rw [len_setPr]; exact ha) hb { A.pr x with standing := 3, sem := n, key := A.last + 1 } (by simp) rfl (by rw [e2]; rfl) fun w4 T4 C4 I4 => ?_
  rw [behind_set] at I4
  exact ok_rc (runs_spec C4 I4 (by show (A.setPr x _).procs.length ≤ 4096; rw [len_setPr]; exact hl) (room_behind (A := A.setPr x _) hr)) fun w5 T5 S5 C5 I5 => ok_ret.2 ⟨rfl, T5, S5, C5, I5⟩
theorem signal0_spec (C : Tr en w0 T0 w T) (I : Inv T sb S A) (G : Good A) (hr : A.Room 1) (n : Int) : Ok (f73_signal (some ⟨sb, 0, none⟩) n) w (Rq w0 T0 sb (A.signal0 n).1 (A.signal0 n).2) := by
  unfold f73_signal St.signal0
  have hl := G.pl
  have hel := G.el
  refine is_spec C I n ?_
  by_cases hs : A.isSem n = false
  · rw [if_pos hs]
    exact ok_true (by rw [hs]; rfl) (ok_ret.2 ⟨rfl, T, S, C, I⟩)
  rw [if_neg hs]
  have hs1 : A.isSem n = true := by simpa using hs
  refine ok_false (by rw [hs1]; rfl) ?_
  have hn := isSemR.1 hs1
  have hx := G.ex (i := n.toNat) (by omega) (by omega)
  have hni : n = (n.toNat : Int) := by omega
  have hw : IntKind.wrap .i64 (n - 1) = (n.toNat : Int) - 1 := by rw [wI (by omega)]; omega
  rw [hw]
  have i1 : 1 ≤ n.toNat := by omega
  have i2 : n.toNat ≤ A.excess.length := by omega
  have hQ := G.wq i1 i2
  rw [← hni] at hQ
  refine waits_spec C I hl hQ 0 fun r w1 T1 C1 E1 F1 R1 => ?_
  have hrl := R1.len
  rw [ns_length] at hrl
  have I1 := I.ext E1
  generalize A.ord 3 0 n = q at *
  cases q with
  | nil =>
    refine ok_true (by rw [hrl]; rfl) ?_
    refine ok_drfS (ok_tld C1 I1.sch (x := S.excess) (rdv_sl (by rfl)) ?_)
    refine ok_eld C1 I1 i1 i2 rfl ?_
    simp only
    by_cases he : A.ex n.toNat ≥ 1073741824
    · rw [if_pos he]
      exact ok_true (by simpa using he) (ok_ret.2 ⟨rfl, T1, S, C1, I1⟩)
    rw [if_neg he]
    refine ok_false (by simpa using he) ?_
    refine ok_drfS (ok_tld C1 I1.sch (x := S.excess) (rdv_sl (by rfl)) ?_)
    refine ok_eld C1 I1 i1 i2 rfl ?_
    rw [wI (by omega)]
    exact ok_ewr C1 I1 i1 i2 rfl _ fun w2 T2 C2 I2 => ok_ret.2 ⟨rfl, T2, S, C2, I2⟩
  | cons x q =>
    refine ok_false (by rw [hrl]; simp; omega) ?_
    have hm := (hQ.mem x).1 List.mem_cons_self
    refine ok_rowR C1 (g := iV) (n := 1) (mk := Ob.ints 0) (fun _ => rfl) (fun _ => rfl) R1 (i := 0) (x := (x : Int)) rfl (t := .int .i64) (v := (x : Int)) (by decide) (by rfl) rfl ?_
    exact ok_rc (ready_spec C1 I1 hr hm.1 hm.2.1 hl) fun w2 T2 S2 C2 I2 => ok_ret.2 ⟨rfl, T2, S2, C2, I2⟩
/-- What keys a call may use. -/
structure Gr (A B : St) (n : Int) : Prop where
  last : A.last ≤ B.last ∧ B.last ≤ A.last + n
  first : B.first ≤ A.first ∧ A.first - n ≤ B.first
theorem Gr.refl (A : St) : Gr A A 0 := ⟨⟨Int.le_refl _, by omega⟩, Int.le_refl _, by omega⟩
theorem Gr.trans {A B D : St} {m n : Int} (h : Gr A B m) (k : Gr B D n) : Gr A D (m + n) := by
  have := h.last; have := h.first; have := k.last; have := k.first
  exact ⟨by omega, by omega⟩
theorem Gr.mono {A B : St} {m n : Int} (h : Gr A B m) (k : m ≤ n) : Gr A B n := by
  have := h.last; have := h.first
  exact ⟨by omega, by omega⟩
theorem Gr.of {A B : St} (h1 : B.last = A.last) (h2 : B.first = A.first) {n : Int} (hn : 0 ≤ n) : Gr A B n := ⟨by omega, by omega⟩
theorem Gr.behind_ {A B : St} (h1 : B.last = A.last + 1) (h2 : B.first = A.first) {n : Int} (hn : 1 ≤ n) : Gr A B n := ⟨by omega, by omega⟩
theorem gr_runs (A : St) : Gr A A.runs 1 := by
  unfold St.runs
  split
  · exact ⟨⟨Int.le_refl _, by show A.last ≤ A.last + 1; omega⟩, by show A.first - 1 ≤ A.first; omega, by show A.first - 1 ≤ A.first - 1; omega⟩
  split
  · exact Gr.of (A := A) (B := A.takes A.one.toNat) (n := 1) rfl rfl (by decide)
  · exact Gr.of (A := A) (B := A) (n := 1) rfl rfl (by decide)
theorem Gr.room {A B : St} {m n : Int} (h : Gr A B m) (hr : A.Room (m + n)) : B.Room n := by
  have := h.last; have := h.first
  unfold St.Room at *
  omega
theorem gr_signal0 (A : St) (n : Int) : Gr A (A.signal0 n).2 1 := by
  unfold St.signal0
  split
  · exact Gr.of (A := A) (B := A) (n := 1) rfl rfl (by decide)
  split
  · exact Gr.behind_ (A := A) (B := A.ready _) (n := 1) rfl rfl (by decide)
  · split
    · exact Gr.of (A := A) (B := A) (n := 1) rfl rfl (by decide)
    · exact Gr.of (A := A) (B := A.setE _ _) (n := 1) rfl rfl (by decide)
theorem len_signal0 (A : St) (n : Int) : (A.signal0 n).2.procs.length = A.procs.length := by
  unfold St.signal0
  split
  · rfl
  split
  · exact len_setPr _ _ _
  · split
    · rfl
    · rfl
theorem signal_spec (C : Tr en w0 T0 w T) (I : Inv T sb S A) (G : Good A) (hr : A.Room 2) (n : Int) : Ok (f29_Signal (some ⟨sb, 0, none⟩) n) w (Rq w0 T0 sb (A.signal n).1 (A.signal n).2) := by
  unfold f29_Signal St.signal
  have hr1 : A.Room 1 := by unfold St.Room at *; omega
  refine ok_rc (signal0_spec C I G hr1 n) fun w1 T1 S1 C1 I1 => ?_
  exact ok_rc (runs_spec C1 I1 (by rw [len_signal0]; exact G.pl) ((gr_signal0 A n).room hr)) fun w2 T2 S2 C2 I2 => ok_ret.2 ⟨rfl, T2, S2, C2, I2⟩
theorem alive_okR {n : Int} (h : ¬ A.alive n ≠ 0) : 1 ≤ n ∧ n ≤ A.procs.length := by
  unfold St.alive at h
  by_cases h1 : n < 1 ∨ n > A.procs.length
  · rw [if_pos h1] at h; exact absurd (by decide : (260 : Int) ≠ 0) h
  · omega
theorem stands_spec (C : Tr en w0 T0 w T) (I : Inv T sb S A) (hl : A.procs.length ≤ 4096) (hr : A.Room 1) {n : Int} (h1 : 1 ≤ n) (h2 : n ≤ A.procs.length) (s : Int) {f : Unit → Go.Sh.M α} (hq : ∀ w' T' S', Tr en w0 T0 w' T' → Inv T' sb S' (A.setPr n.toNat { A.pr n.toNat with standing := s, sem := 0 }).runs → Ok (f ()) w' Q) :
    Ok (bnd (drf (some ⟨sb, 0, none⟩)) fun (p6 : Addr) => bnd (ld .sl (Addr.add p6 1)) fun (v7 : Sl) => bnd (ix 4 v7 (IntKind.wrap .i64 (n - (1 : Int)))) fun (p8 : Addr) => bnd (wrs (Addr.add p8 1) 0 [.int .u8 s]) fun _ =>
      bnd (drf (some ⟨sb, 0, none⟩)) fun (p9 : Addr) => bnd (ld .sl (Addr.add p9 1)) fun (v10 : Sl) => bnd (ix 4 v10 (IntKind.wrap .i64 (n - (1 : Int)))) fun (p11 : Addr) => bnd (wrs (Addr.add p11 2) 0 [.int .i64 (0 : Int)]) fun _ => bnd (f71_runs (some ⟨sb, 0, none⟩)) f) w Q := by
  have hw : IntKind.wrap .i64 (n - 1) = (n.toNat : Int) - 1 := by rw [wI (by omega)]; omega
  rw [hw]
  have g1 : 1 ≤ n.toNat := by omega
  have g2 : n.toNat ≤ A.procs.length := by omega
  generalize n.toNat = x at *
  refine ok_drfS (ok_tld C I.sch (x := S.procs) (rdv_sl (by rfl)) ?_)
  refine ok_pix I g1 g2 rfl fun b hb => ?_
  refine ok_pw C I g1 g2 hb { A.pr x with standing := s } (by simp) rfl rfl fun w1 T1 C1 I1 => ?_
  have e1 : (A.setPr x { A.pr x with standing := s }).pr x = { A.pr x with standing := s } := pr_setR' g1 g2
  have g3 : x ≤ (A.setPr x { A.pr x with standing := s }).procs.length := by rw [len_setPr]; exact g2
  refine ok_drfS (ok_tld C1 I1.sch (x := S.procs) (rdv_sl (by rfl)) ?_)
  refine ok_pix I1 g1 g3 rfl fun b2 hb2 => ?_
  refine ok_pw C1 I1 g1 g3 hb2 { A.pr x with standing := s, sem := 0 } (by simp) rfl (by rw [e1]; rfl) fun w2 T2 C2 I2 => ?_
  rw [setPr_twice] at I2
  exact ok_rc (runs_spec C2 I2 (by rw [len_setPr]; exact hl) hr) hq
theorem suspend_spec (C : Tr en w0 T0 w T) (I : Inv T sb S A) (hl : A.procs.length ≤ 4096) (hr : A.Room 1) (n : Int) : Ok (f31_Suspend (some ⟨sb, 0, none⟩) n) w (Rq w0 T0 sb (A.suspend n).1 (A.suspend n).2) := by
  unfold f31_Suspend St.suspend
  refine alive_spec C I hl n ?_
  by_cases h : A.alive n ≠ 0
  · rw [if_pos h]
    exact ok_true (by simpa using h) (ok_ret.2 ⟨rfl, T, S, C, I⟩)
  rw [if_neg h]
  obtain ⟨h1, h2⟩ := alive_okR h
  refine ok_false (by simpa using h) ?_
  refine ok_prd C I (n := n.toNat) (by omega) (by omega) (by rw [wI (by omega)]; omega) (j := 1) (t := .int .u8) (x := (A.pr n.toNat).standing) (by decide) (by rfl) ?_
  by_cases h4 : (A.pr n.toNat).standing = 4
  · rw [if_pos h4]
    exact ok_true (by rw [h4]; rfl) (ok_ret.2 ⟨rfl, T, S, C, I⟩)
  rw [if_neg h4]
  refine ok_false (by simpa using h4) ?_
  exact stands_spec C I hl hr h1 h2 4 fun w1 T1 S1 C1 I1 => ok_ret.2 ⟨rfl, T1, S1, C1, I1⟩
theorem terminate_spec (C : Tr en w0 T0 w T) (I : Inv T sb S A) (hl : A.procs.length ≤ 4096) (hr : A.Room 1) (n : Int) : Ok (f33_Terminate (some ⟨sb, 0, none⟩) n) w (Rq w0 T0 sb (A.terminate n).1 (A.terminate n).2) := by
  unfold f33_Terminate St.terminate
  refine alive_spec C I hl n ?_
  by_cases h : A.alive n ≠ 0
  · rw [if_pos h]
    exact ok_true (by simpa using h) (ok_ret.2 ⟨rfl, T, S, C, I⟩)
  rw [if_neg h]
  obtain ⟨h1, h2⟩ := alive_okR h
  refine ok_false (by simpa using h) ?_
  exact stands_spec C I hl hr h1 h2 5 fun w1 T1 S1 C1 I1 => ok_ret.2 ⟨rfl, T1, S1, C1, I1⟩
theorem resume_spec (C : Tr en w0 T0 w T) (I : Inv T sb S A) (hl : A.procs.length ≤ 4096) (hr : A.Room 2) (n : Int) : Ok (f32_Resume (some ⟨sb, 0, none⟩) n) w (Rq w0 T0 sb (A.resume n).1 (A.resume n).2) := by
  unfold f32_Resume St.resume
  refine alive_spec C I hl n ?_
  by_cases h : A.alive n ≠ 0
  · rw [if_pos h]
    exact ok_true (by simpa using h) (ok_ret.2 ⟨rfl, T, S, C, I⟩)
  rw [if_neg h]
  obtain ⟨h1, h2⟩ := alive_okR h
  refine ok_false (by simpa using h) ?_
  refine ok_prd C I (n := n.toNat) (by omega) (by omega) (by rw [wI (by omega)]; omega) (j := 1) (t := .int .u8) (x := (A.pr n.toNat).standing) (by decide) (by rfl) ?_
  by_cases h4 : (A.pr n.toNat).standing ≠ 4
  · rw [if_pos h4]
    exact ok_true (by simpa using h4) (ok_ret.2 ⟨rfl, T, S, C, I⟩)
  rw [if_neg h4]
  refine ok_false (by simpa using h4) ?_
  have hr1 : A.Room 1 := by unfold St.Room at *; omega
  have hs := ready_spec C I hr1 (n := n.toNat) (by omega) (by omega) hl
  rw [show ((n.toNat : Nat) : Int) = n by omega] at hs
  refine ok_rc hs fun w1 T1 S1 C1 I1 => ?_
  exact ok_rc (runs_spec C1 I1 (by show (A.setPr _ _).procs.length ≤ 4096; rw [len_setPr]; exact hl) (room_behind (A := A.setPr _ _) hr)) fun w2 T2 S2 C2 I2 => ok_ret.2 ⟨rfl, T2, S2, C2, I2⟩
theorem setPriority_spec (C : Tr en w0 T0 w T) (I : Inv T sb S A) (hl : A.procs.length ≤ 4096) (hr : A.Room 2) (n p : Int) : Ok (f35_SetPriority (some ⟨sb, 0, none⟩) n p) w (Rq w0 T0 sb (A.setPriority n p).1 (A.setPriority n p).2) := by
  unfold f35_SetPriority St.setPriority
  refine alive_spec C I hl n ?_
  by_cases h : A.alive n ≠ 0
  · rw [if_pos h]
    exact ok_true (by simpa using h) (ok_ret.2 ⟨rfl, T, S, C, I⟩)
  rw [if_neg h]
  obtain ⟨h1, h2⟩ := alive_okR h
  refine ok_false (by simpa using h) ?_
  by_cases hp : p < 1 ∨ p > 16
  · rw [if_pos hp]
    exact ok_true (by rw [Bool.cond_true_left]; simpa using hp) (ok_ret.2 ⟨rfl, T, S, C, I⟩)
  rw [if_neg hp]
  refine ok_false (by rw [Bool.cond_true_left]; simp; omega) ?_
  have hr1 : A.Room 1 := by unfold St.Room at *; omega
  have hw : IntKind.wrap .i64 (n - 1) = (n.toNat : Int) - 1 := by rw [wI (by omega)]; omega
  rw [hw]
  have g1 : 1 ≤ n.toNat := by omega
  have g2 : n.toNat ≤ A.procs.length := by omega
  generalize n.toNat = x at *
  refine ok_drfS (ok_tld C I.sch (x := S.procs) (rdv_sl (by rfl)) ?_)
  refine ok_pix I g1 g2 rfl fun b hb => ?_
  refine ok_pw C I g1 g2 hb { A.pr x with prio := p } (by simp) rfl rfl fun w1 T1 C1 I1 => ?_
  have e1 : (A.setPr x { A.pr x with prio := p }).pr x = { A.pr x with prio := p } := pr_setR' g1 g2
  have g3 : x ≤ (A.setPr x { A.pr x with prio := p }).procs.length := by rw [len_setPr]; exact g2
  refine ok_prd C1 I1 g1 g3 rfl (j := 1) (t := .int .u8) (x := (A.pr x).standing) (by decide) (by rw [e1]; rfl) ?_
  unfold St.prioed
  by_cases hs : (A.pr x).standing = 1
  · rw [if_pos hs]
    refine ok_bnd.2 (ok_mono (Q := fun _ w' => ∃ T' S', Tr en w0 T0 w' T' ∧ Inv T' sb S' (A.setPr x { A.pr x with prio := p, key := A.last + 1 }).behind) ?_ ?_)
    · refine ok_true (by rw [hs]; rfl) ?_
      refine ok_bnd.2 ?_
      refine ok_tord C1 fun o w2 C2 => ?_
      refine ok_drfS (ok_tld C2 I1.sch (x := S.procs) (rdv_sl (by rfl)) ?_)
      refine behind_spec C2 I1 hr1 fun w3 C3 I3 => ?_
      simp only [bnd_as, bnd_ret]
      refine ok_tchk C3 I3.sch (m := 0) (k := 1) (x := S.procs) (rdv_sl (by rfl)) ?_
      have e2 : (A.setPr x { A.pr x with prio := p }).behind.pr x = { A.pr x with prio := p } := pr_setR' (B := A) g1 g2
      have g4 : x ≤ (A.setPr x { A.pr x with prio := p }).behind.procs.length := g3
      refine ok_pix I3 g1 g4 rfl fun b3 hb3 => ?_
      refine ok_pw C3 I3 g1 g4 hb3 { A.pr x with prio := p, key := A.last + 1 } (by simp) rfl (by rw [e2]; rfl) fun w4 T4 C4 I4 => ?_
      rw [behind_set] at I4
      exact ok_ret.2 (ok_ret.2 ⟨T4, _, C4, I4⟩)
    · rintro _ w2 ⟨T2, S2, C2, I2⟩
      exact ok_rc (runs_spec C2 I2 (by show (A.setPr x _).procs.length ≤ 4096; rw [len_setPr]; exact hl) (room_behind (A := A.setPr x _) hr)) fun w3 T3 S3 C3 I3 => ok_ret.2 ⟨rfl, T3, S3, C3, I3⟩
  · rw [if_neg hs]
    refine ok_bnd.2 (ok_false (by simpa using hs) (ok_ret.2 ?_))
    exact ok_rc (runs_spec C1 I1 (by rw [len_setPr]; exact hl) hr1) fun w3 T3 S3 C3 I3 => ok_ret.2 ⟨rfl, T3, S3, C3, I3⟩
theorem at_spec (C : Tr en w0 T0 w T) (I : Inv T sb S A) (hr : A.Room 1) (n t : Int) : Ok (f36_At (some ⟨sb, 0, none⟩) n t) w (Rq w0 T0 sb (A.at_ n t).1 (A.at_ n t).2) := by
  unfold f36_At St.at_
  have htl := I.timers.len
  refine is_spec C I n ?_
  by_cases hs : A.isSem n = false
  · rw [if_pos hs]
    exact ok_true (by rw [hs]; rfl) (ok_ret.2 ⟨rfl, T, S, C, I⟩)
  rw [if_neg hs]
  refine ok_false (by rw [show A.isSem n = true by simpa using hs]; rfl) ?_
  by_cases ht : t < 0 ∨ t > 1152921504606846976
  · rw [if_pos ht]
    exact ok_true (by rw [Bool.cond_true_left]; simpa using ht) (ok_ret.2 ⟨rfl, T, S, C, I⟩)
  rw [if_neg ht]
  refine ok_false (by rw [Bool.cond_true_left]; simp; omega) ?_
  refine ok_drfS (ok_tld C I.sch (x := S.timers) (rdv_sl (by rfl)) ?_)
  by_cases h : A.timers.length ≥ 4096
  · rw [if_pos h]
    exact ok_true (by rw [htl]; simp; omega) (ok_ret.2 ⟨rfl, T, S, C, I⟩)
  rw [if_neg h]
  refine ok_false (by rw [htl]; simp; omega) ?_
  refine ok_bnd.2 (ok_mono (Q := fun _ w' => ∃ T' S', Tr en w0 T0 w' T' ∧ Inv T' sb S' ({ A with timers := A.timers ++ [⟨t, n, A.last + 1⟩] } : St).behind) ?_ fun _ w' ⟨T', S', h1, h2⟩ => ok_ret.2 ⟨rfl, T', S', h1, h2⟩)
  refine ok_tord C fun o w1 C1 => ?_
  refine ok_drfS (ok_tld C1 I.sch (x := S.timers) (rdv_sl (by rfl)) ?_)
  refine behind_spec C1 I hr fun w2 C2 I2 => ?_
  simp only [bnd_as, bnd_ret]
  refine ok_tchk C2 I2.sch (m := 0) (k := 3) (x := S.timers) (rdv_sl (by rfl)) ?_
  refine ok_bnd.2 (ok_build1R row29 (by decide) (F := ⟨t, n, A.last + 1⟩) (v := .agg #[.int .i64 t, .int .i64 n, .int .i64 (A.last + 1)]) rfl ?_)
  have C3 := C2.alloc (.tms [⟨t, n, A.last + 1⟩]) 86
  have E3 := Ex.put (o := .tms [⟨t, n, A.last + 1⟩]) C2.none_at
  have R3 : Rw (put (put T sb (.sch { S with last := A.last + 1 })) w2.heap.size (.tms [⟨t, n, A.last + 1⟩])) Ob.tms ⟨some ⟨w2.heap.size, 0, none⟩, 1, 1⟩ [⟨t, n, A.last + 1⟩] := ⟨rfl, Nat.le_refl _, by show 1 ≤ maxLen; decide, .inr ⟨_, _, rfl, put_eq _ _ _, rfl, rfl⟩⟩
  have I3 := I2.ext E3
  refine ok_tchk C3 I3.sch (m := 0) (k := 3) (x := S.timers) (rdv_sl (by rfl)) ?_
  refine ok_appR C3 row29 (mk := Ob.tms) (fun _ => rfl) I3.timers (srcT C3.th R3) (by show (A.timers.length + 1) * 24 ≤ _; omega) (by show A.timers.length + 1 ≤ maxLen; simp only [maxLen]; omega) fun r w4 T4 C4 R4 hT => ?_
  have K4 := app_keep hT
  have hs4 := K4 _ _ I3.sch (by simp)
  refine ok_drfS (ok_twr C4 (m := 0) (k := 3) (.sch { S with last := A.last + 1, timers := r }) hs4 (by rw [en_len]; show 0 + 3 + 1 ≤ 6 + _; omega) rfl rfl fun w5 C5 => ok_ret.2 ?_)
  have keep := sch_keep (S' := { S with last := A.last + 1, timers := r }) hs4
  exact ⟨_, _, C5, put_eq _ _ _, I.now, I.events, I.elen, rfl, I.first, I3.procs.mono fun c l _ hc => keep _ _ (K4 _ _ hc (by simp)) (by simp), I3.excess.mono fun c l _ hc => keep _ _ (K4 _ _ hc (by simp)) (by simp), R4.mono fun c l _ hc => keep _ _ hc (by simp)⟩
end
end R
end Go.Proofs.YtkkdeljladihpaaGreat
