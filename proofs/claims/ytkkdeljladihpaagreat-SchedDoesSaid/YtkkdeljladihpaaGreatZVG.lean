/-
  Parts of the proof: ZVA, ZVB, ZVC, ZVD, ZVE, ZVF, ZXA, ZVG. It states what the functions do; no further condition.
-/
import Derived.Test.YtkkdeljladihpaaGreatZSY
import Derived.Test.YtkkdeljladihpaaGreatZ03
set_option linter.unusedVariables false
set_option linter.unusedSimpArgs false
/-
  The document's scheduler: its memory, as typed things.
-/
namespace Go.Proofs.YtkkdeljladihpaaGreat
namespace R
open Go.Sh Go.RowKit X Y
set_option maxRecDepth 100000
structure Pr where
  prio : Int
  standing : Int
  sem : Int
  key : Int
structure Tm where
  time : Int
  sem : Int
  key : Int
structure Sk where
  now : Int
  procs : Sl
  excess : Sl
  timers : Sl
  events : List Int
  last : Int
  first : Int
def Pr.en (p : Pr) : List Value := [.int .i64 p.prio, .int .u8 p.standing, .int .i64 p.sem, .int .i64 p.key]
def Tm.en (t : Tm) : List Value := [.int .i64 t.time, .int .i64 t.sem, .int .i64 t.key]
def Sk.en (s : Sk) : List Value := [.int .i64 s.now, slV s.procs, slV s.excess, slV s.timers] ++ s.events.map (.int .i64) ++ [.int .i64 s.last, .int .i64 s.first]
inductive Ob where
  | sch (s : Sk)
  | procs (l : List Pr)
  | exc (l : List Int)
  | tms (l : List Tm)
  | ints (k : Nat) (l : List Int)
  | box (l : List Value)
def en : Ob → List Value
  | .sch s => s.en
  | .procs l => l.flatMap Pr.en
  | .exc l => l.flatMap iV
  | .tms l => l.flatMap Tm.en
  | .ints _ l => l.flatMap iV
  | .box l => l
abbrev Hp := Nat → Option Ob
theorem row27 : RowT Tryz.prog 27 72 Pr.en 4 ⟨0, 0, 0, 0⟩ 32 :=
  ⟨by kernel_rfl, ⟨Tryz.t72, .agg #[.int .i64 0, .int .u8 0, .int .i64 0, .int .i64 0], by kernel_rfl, rfl, rfl, rfl, rfl⟩, by decide, fun _ => rfl, fun b u hu => by
    simp only [Pr.en, List.mem_cons, List.not_mem_nil, or_false] at hu
    rcases hu with rfl | rfl | rfl | rfl <;> rfl⟩
theorem row29 : RowT Tryz.prog 29 86 Tm.en 3 ⟨0, 0, 0⟩ 24 :=
  ⟨by kernel_rfl, ⟨Tryz.t86, .agg #[.int .i64 0, .int .i64 0, .int .i64 0], by kernel_rfl, rfl, rfl, rfl, rfl⟩, by decide, fun _ => rfl, fun b u hu => by
    simp only [Tm.en, List.mem_cons, List.not_mem_nil, or_false] at hu
    rcases hu with rfl | rfl | rfl <;> rfl⟩
/-! The state, in plain Lean. -/
structure St where
  now : Int
  procs : List Pr
  excess : List Int
  timers : List Tm
  events : List Int
  last : Int
  first : Int
def St.new : St := ⟨0, [], [], [], List.replicate 64 0, 0, 0⟩
/-- Memory holds a state. -/
structure Inv (T : Hp) (sb : Nat) (S : Sk) (A : St) : Prop where
  sch : T sb = some (.sch S)
  now : S.now = A.now
  events : S.events = A.events
  elen : A.events.length = 64
  last : S.last = A.last
  first : S.first = A.first
  procs : Rw T Ob.procs S.procs A.procs
  excess : Rw T Ob.exc S.excess A.excess
  timers : Rw T Ob.tms S.timers A.timers
end R
end Go.Proofs.YtkkdeljladihpaaGreat

/-
  The document's scheduler: its numbers; who is active.
-/
namespace Go.Proofs.YtkkdeljladihpaaGreat
namespace R
open Go.Sh Go.RowKit X Y
set_option maxRecDepth 100000
section
variable {w0 w : World} {T0 T : Hp} {sb : Nat} {S : Sk} {A : St} {α β : Type} {Q : α → World → Prop}
theorem en_len (s : Sk) : (en (.sch s)).length = 6 + s.events.length := by
  show (Sk.en s).length = _
  unfold Sk.en
  simp; omega
theorem rd_cell (h : S.events.length = 64) (k : Nat) : (en (.sch S)).toArray[68 + k]? = [Value.int .i64 S.last, .int .i64 S.first][k]? := by
  show (Sk.en S).toArray[68 + k]? = _
  rw [List.getElem?_toArray]
  unfold Sk.en
  have hL : ([Value.int .i64 S.now, slV S.procs, slV S.excess, slV S.timers] ++ S.events.map (Value.int .i64)).length = 68 := by simp [h]
  rw [List.getElem?_append_right (by omega), hL]
  congr 1; omega
theorem rd_last (h : S.events.length = 64) : rdv (.int .i64) (en (.sch S)).toArray (0 + 68) = some S.last := rdv_int (by rw [Nat.zero_add]; exact rd_cell h 0)
theorem rd_first (h : S.events.length = 64) : rdv (.int .i64) (en (.sch S)).toArray (0 + 69) = some S.first := rdv_int (by rw [Nat.zero_add]; exact rd_cell h 1)
theorem rd_event (h : S.events.length = 64) {e : Nat} {v : Int} (hv : S.events[e]? = some v) : rdv (.int .i64) (en (.sch S)).toArray (4 + e) = some v := rdv_int (by
  show (Sk.en S).toArray[4 + e]? = _
  have he : e < S.events.length := by
    rcases Nat.lt_or_ge e S.events.length with h | h
    · exact h
    · rw [List.getElem?_eq_none h] at hv; cases hv
  rw [List.getElem?_toArray]
  unfold Sk.en
  rw [List.append_assoc, List.getElem?_append_right (by simp), List.getElem?_append_left (by simp; omega)]
  simp [hv])
theorem Inv.ext (I : Inv T sb S A) {T' : Hp} (h : ∀ b p, T b = some p → T' b = some p) : Inv T' sb S A :=
  { I with sch := h _ _ I.sch, procs := I.procs.mono fun _ _ _ hc => h _ _ hc, excess := I.excess.mono fun _ _ _ hc => h _ _ hc, timers := I.timers.mono fun _ _ _ hc => h _ _ hc }
/-- What a call of the reference may turn: rows that come out and boxes are not its. -/
theorem Inv.extB (I : Inv T sb S A) {T' : Hp} (h : ∀ b p, T b = some p → (∀ k l, p ≠ .ints k l) → (∀ l, p ≠ .box l) → T' b = some p) : Inv T' sb S A :=
  { I with sch := h _ _ I.sch (by simp) (by simp), procs := I.procs.mono fun _ _ _ hc => h _ _ hc (by simp) (by simp), excess := I.excess.mono fun _ _ _ hc => h _ _ hc (by simp) (by simp), timers := I.timers.mono fun _ _ _ hc => h _ _ hc (by simp) (by simp) }
end
end R
end Go.Proofs.YtkkdeljladihpaaGreat

/-
  The document's scheduler: keys; who is active.
-/
namespace Go.Proofs.YtkkdeljladihpaaGreat
namespace R
open Go.Sh Go.RowKit X Y
set_option maxRecDepth 100000
/-- The first that is active, from i on; 0: none. -/
def actL : Nat → List Pr → Nat
  | _, [] => 0
  | i, p :: r => if p.standing = 2 then i + 1 else actL (i + 1) r
def St.active (A : St) : Nat := actL 0 A.procs
def St.behind (A : St) : St := { A with last := A.last + 1 }
def St.ahead (A : St) : St := { A with first := A.first - 1 }
/-- Room for keys. -/
def St.Room (A : St) (n : Int) : Prop := 0 ≤ A.last ∧ A.last + n ≤ 9000000000000000000 ∧ A.first ≤ 0 ∧ -9000000000000000000 ≤ A.first - n
section
variable {w0 w : World} {T0 T : Hp} {sb : Nat} {S : Sk} {A : St} {α β : Type} {Q : α → World → Prop}
theorem ok_get (C : Tr en w0 T0 w T) {A' : Type} {g : A' → List Value} {n : Nat} {mk : List A' → Ob} (hg : ∀ a, (g a).length = n) (hmk : ∀ l, en (mk l) = l.flatMap g) {s : Sl} {l : List A'} (h : Rw T mk s l) {i : Nat} {x : A'} (hx : l[i]? = some x) {t : Ty} {v : t.den} {k : Nat} (ht : k + t.size ≤ n) (hv : rdv t (g x).toArray k = some v) {y : Int} (hy : y = i) {f : t.den → Go.Sh.M α} (hq : Ok (f v) w Q) :
    Ok (bnd (ix n s y) fun (p : Addr) => bnd (ld t (Addr.add p k)) f) w Q := by
  have hi : i < l.length := by
    rcases Nat.lt_or_ge i l.length with h | h
    · exact h
    · rw [List.getElem?_eq_none h] at hx; cases hx
  obtain ⟨b, M, g1, g2, g3, g4⟩ := h.blk (by omega)
  subst hy
  refine ok_ixN g1 (by omega) (by rw [h.len]; omega) ?_
  have hM : M[i]? = some x := by rw [← List.getElem?_take_of_lt hi, g4]; exact hx
  refine ok_tld C g2 (x := v) ?_ hq
  rw [hmk, Int.toNat_natCast]
  exact flat_rdv hg hM ht hv
theorem active_spec (C : Tr en w0 T0 w T) (I : Inv T sb S A) (hl : A.procs.length ≤ 4096) {f : Int → Go.Sh.M α} (hq : Ok (f (A.active : Int)) w Q) : Ok (bnd (f8_Active (some ⟨sb, 0, none⟩)) f) w Q := by
  unfold f8_Active
  have hpl := I.procs.len
  refine ok_bnd.2 (ok_mono (Q := fun r w' => w' = w ∧ r = (A.active : Int)) ?_ fun r w' ⟨h1, h2⟩ => by rw [h1, h2]; exact hq)
  refine ok_loopN (fun m (i' : Int) w' => ∃ i : Nat, i' = i ∧ i ≤ A.procs.length ∧ m = A.procs.length - i ∧ w' = w ∧ actL i (A.procs.drop i) = A.active) ?_ A.procs.length 0 w ⟨0, rfl, Nat.zero_le _, rfl, rfl, rfl⟩
  rintro m i' w1 ⟨i, rfl, hi, rfl, hw, hact⟩
  rw [hw]
  refine ok_drfS (ok_tld C I.sch (x := S.procs) (rdv_sl (by rfl)) ?_)
  by_cases hlt : i < A.procs.length
  · refine ok_true (by rw [hpl]; simpa using hlt) ?_
    refine ok_drfS (ok_tld C I.sch (x := S.procs) (rdv_sl (by rfl)) ?_)
    refine ok_get C (g := Pr.en) (n := 4) (mk := Ob.procs) (fun _ => rfl) (fun _ => rfl) I.procs (List.getElem?_eq_getElem hlt) (t := .int .u8) (v := A.procs[i].standing) (k := 1) (by decide) (by rfl) rfl ?_
    rw [List.drop_eq_getElem_cons hlt] at hact
    unfold actL at hact
    by_cases h2 : A.procs[i].standing = 2
    · rw [if_pos h2] at hact
      refine ok_true (by rw [h2]; rfl) (ok_ret.2 ⟨rfl, ?_⟩)
      rw [← hact, wI (by omega)]; simp
    · rw [if_neg h2] at hact
      refine ok_false (by rw [beq_eq_false_iff_ne]; exact h2) (ok_ret.2 ⟨A.procs.length - (i + 1), by omega, i + 1, by rw [wI (by omega)]; simp, by omega, rfl, rfl, hact⟩)
  · refine ok_false (by rw [hpl]; simpa using hlt) (ok_ret.2 ⟨rfl, ?_⟩)
    rw [List.drop_of_length_le (by omega)] at hact
    rw [← hact]; rfl
end
end R
end Go.Proofs.YtkkdeljladihpaaGreat

/-
  The document's scheduler: a key behind all others, a key ahead.
-/
namespace Go.Proofs.YtkkdeljladihpaaGreat
namespace R
open Go.Sh Go.RowKit X Y
set_option maxRecDepth 100000
section
variable {w0 w : World} {T0 T : Hp} {sb : Nat} {S : Sk} {A : St} {α β : Type} {Q : α → World → Prop}
theorem Inv.turn (I : Inv T sb S A) {S' : Sk} {A' : St} (hn : S'.now = A'.now) (he : S'.events = A'.events) (hl : A'.events.length = 64) (h1 : S'.last = A'.last) (h2 : S'.first = A'.first) (p1 : S'.procs = S.procs) (p2 : A'.procs = A.procs) (p3 : S'.excess = S.excess) (p4 : A'.excess = A.excess) (p5 : S'.timers = S.timers) (p6 : A'.timers = A.timers) : Inv (put T sb (.sch S')) sb S' A' := by
  have keep : ∀ c o, T c = some o → (∀ s, o ≠ .sch s) → put T sb (.sch S') c = some o := fun c o hc hne => by
    rw [put_ne]
    · exact hc
    · rintro rfl
      rw [I.sch, Option.some.injEq] at hc
      exact hne _ hc.symm
  refine ⟨put_eq _ _ _, hn, he, hl, h1, h2, ?_, ?_, ?_⟩
  · rw [p1, p2]; exact I.procs.mono fun c l _ hc => keep _ _ hc (by simp)
  · rw [p3, p4]; exact I.excess.mono fun c l _ hc => keep _ _ hc (by simp)
  · rw [p5, p6]; exact I.timers.mono fun c l _ hc => keep _ _ hc (by simp)
theorem spl_end {X Y : List Value} {v v' : Value} {n : Nat} (hn : n = X.length) : spl (X ++ v :: Y) n [v'] = X ++ v' :: Y := spl_at hn
theorem behind_spec (C : Tr en w0 T0 w T) (I : Inv T sb S A) (hr : A.Room 1) {f : Int → Go.Sh.M α}
    (hq : ∀ w', Tr en w0 T0 w' (put T sb (.sch { S with last := A.last + 1 })) → Inv (put T sb (.sch { S with last := A.last + 1 })) sb { S with last := A.last + 1 } A.behind → Ok (f (A.last + 1)) w' Q) : Ok (bnd (f70_behind (some ⟨sb, 0, none⟩)) f) w Q := by
  have hel : S.events.length = 64 := by rw [I.events]; exact I.elen
  unfold St.Room at hr
  unfold f70_behind
  simp only [bnd_as, bnd_ret]
  refine ok_drfS (ok_tld C I.sch (rd_last hel) ?_)
  rw [I.last, wI (by omega)]
  refine ok_drfS (ok_twr C (m := 0) (k := 68) (.sch { S with last := A.last + 1 }) I.sch (by rw [en_len]; simp; omega) rfl ?_ fun w1 C1 => ?_)
  · show spl (Sk.en S) (0 + 68) _ = Sk.en { S with last := A.last + 1 }
    unfold Sk.en
    exact spl_end (by simp [hel])
  have I1 : Inv (put T sb (.sch { S with last := A.last + 1 })) sb { S with last := A.last + 1 } A.behind := I.turn I.now I.events I.elen rfl I.first rfl rfl rfl rfl rfl rfl
  refine ok_drfS (ok_tld C1 I1.sch (x := A.last + 1) (rd_last hel) ?_)
  exact hq w1 C1 I1
theorem ahead_spec (C : Tr en w0 T0 w T) (I : Inv T sb S A) (hr : A.Room 1) {f : Int → Go.Sh.M α}
    (hq : ∀ w', Tr en w0 T0 w' (put T sb (.sch { S with first := A.first - 1 })) → Inv (put T sb (.sch { S with first := A.first - 1 })) sb { S with first := A.first - 1 } A.ahead → Ok (f (A.first - 1)) w' Q) : Ok (bnd (f93_ahead (some ⟨sb, 0, none⟩)) f) w Q := by
  have hel : S.events.length = 64 := by rw [I.events]; exact I.elen
  unfold St.Room at hr
  unfold f93_ahead
  simp only [bnd_as, bnd_ret]
  refine ok_drfS (ok_tld C I.sch (rd_first hel) ?_)
  rw [I.first, wI (by omega)]
  refine ok_drfS (ok_twr C (m := 0) (k := 69) (.sch { S with first := A.first - 1 }) I.sch (by rw [en_len]; simp; omega) rfl ?_ fun w1 C1 => ?_)
  · show spl (Sk.en S) (0 + 69) _ = Sk.en { S with first := A.first - 1 }
    unfold Sk.en
    have e : ∀ (X : List Value) (a b : Value), X ++ [a, b] = (X ++ [a]) ++ [b] := fun X a b => by simp
    rw [e, e]
    exact spl_end (by simp [hel])
  have I1 : Inv (put T sb (.sch { S with first := A.first - 1 })) sb { S with first := A.first - 1 } A.ahead := I.turn I.now I.events I.elen I.last rfl rfl rfl rfl rfl rfl rfl
  refine ok_drfS (ok_tld C1 I1.sch (x := A.first - 1) (rd_first hel) ?_)
  exact hq w1 C1 I1
end
end R
end Go.Proofs.YtkkdeljladihpaaGreat

/-
  The document's scheduler: the first of the greatest priority that is ready.
-/
namespace Go.Proofs.YtkkdeljladihpaaGreat
namespace R
open Go.Sh Go.RowKit X Y
set_option maxRecDepth 100000
theorem put_other {T : Hp} {b x : Nat} {o o' p : Ob} (hx : T x = some o) (hb : T b = some o') (hne : o ≠ o') : put T b p x = some o := by
  rw [put_ne]
  · exact hx
  · rintro rfl
    rw [hx, Option.some.injEq] at hb
    exact hne hb
theorem put_new {T : Hp} {b x : Nat} {o p : Ob} (hx : T x = some o) (hb : T b = none) : put T b p x = some o := by
  rw [put_ne]
  · exact hx
  · rintro rfl
    rw [hx] at hb; cases hb
def nth (l : List Pr) (i : Int) : Pr := l.getD i.toNat ⟨0, 0, 0, 0⟩
theorem nth_nat {l : List Pr} {i : Nat} (h : i < l.length) : nth l i = l[i] := by
  unfold nth
  rw [Int.toNat_natCast, List.getD_eq_getElem?_getD, List.getElem?_eq_getElem h]; rfl
/-- Is x ahead of the best so far? -/
def ahd (l : List Pr) (b : Int) (x : Pr) : Prop := b < 0 ∨ x.prio > (nth l b).prio ∨ (x.prio = (nth l b).prio ∧ x.key < (nth l b).key)
instance (l : List Pr) (b : Int) (x : Pr) : Decidable (ahd l b x) := by unfold ahd; exact inferInstance
def oneN (l : List Pr) : Nat → Int
  | 0 => -1
  | i + 1 => if (nth l i).standing = 1 ∧ ahd l (oneN l i) (nth l i) then (i : Int) else oneN l i
def St.one (A : St) : Int := oneN A.procs A.procs.length + 1
theorem oneN_lt (l : List Pr) : ∀ i, -1 ≤ oneN l i ∧ oneN l i < i
  | 0 => by simp [oneN]
  | i + 1 => by
    have := oneN_lt l i
    unfold oneN
    split
    · omega
    · omega
section
variable {w0 w : World} {T0 T : Hp} {sb : Nat} {S : Sk} {A : St} {α β : Type} {Q : α → World → Prop}
theorem ok_rowR {A' : Type} {g : A' → List Value} {n : Nat} {mk : List A' → Ob} (C : Tr en w0 T0 w T) (hg : ∀ a, (g a).length = n) (hmk : ∀ l, en (mk l) = l.flatMap g) {s : Sl} {l : List A'} (h : Rw T mk s l) {i : Nat} {x : A'} (hx : l[i]? = some x) {t : Ty} {v : t.den} (ht : t.size ≤ n) (hv : rdv t (g x).toArray 0 = some v) {y : Int} (hy : y = i) {f : t.den → Go.Sh.M α} (hq : Ok (f v) w Q) :
    Ok (bnd (ix n s y) fun (p : Addr) => bnd (ld t p) f) w Q := by
  have hi : i < l.length := by
    rcases Nat.lt_or_ge i l.length with h | h
    · exact h
    · rw [List.getElem?_eq_none h] at hx; cases hx
  obtain ⟨b, M, g1, g2, g3, g4⟩ := h.blk (by omega)
  subst hy
  refine ok_ixN g1 (by omega) (by rw [h.len]; omega) ?_
  have hM : M[i]? = some x := by rw [← List.getElem?_take_of_lt hi, g4]; exact hx
  refine ok_tld0 C g2 (x := v) ?_ hq
  rw [hmk, Int.toNat_natCast]
  exact flat_rdv (k := 0) hg hM (by omega) hv
theorem ok_rbox (C : Tr en w0 T0 w T) {e : TypeId} {vs us : List Value} {f : Addr → Go.Sh.M α} (hn : vs.length = us.length) (ha : us.all single = true) (hq : ∀ b w', T b = none → Tr en w0 T0 w' (put T b (.box us)) → Ok (f ⟨b, 0, none⟩) w' Q) :
    Ok (bnd (newC e vs) fun (p : Addr) => bnd (wrs p 0 us) fun _ => f p) w Q := by
  refine ok_tnew C (.box vs) rfl fun b w1 hb C1 => ?_
  refine ok_twr0 C1 (.box us) (put_eq _ _ _) (by show 0 + us.length ≤ vs.length; omega) ha ?_ fun w2 C2 => ?_
  · show spl vs 0 us = us
    unfold spl
    rw [List.take_zero, List.nil_append, List.drop_of_length_le (by omega), List.append_nil]
  · rw [put_put] at C2; exact hq b w2 hb C2
theorem one_spec (C : Tr en w0 T0 w T) (I : Inv T sb S A) (hl : A.procs.length ≤ 4096) {f : Int → Go.Sh.M α} (hq : ∀ w' T', Tr en w0 T0 w' T' → (∀ b p, T b = some p → T' b = some p) → Ok (f A.one) w' Q) : Ok (bnd (f92_one (some ⟨sb, 0, none⟩)) f) w Q := by
  unfold f92_one
  have hpl := I.procs.len
  refine ok_bnd.2 (ok_mono (Q := fun r w' => r = A.one ∧ ∃ T', Tr en w0 T0 w' T' ∧ ∀ b p, T b = some p → T' b = some p) ?_ fun r w' ⟨h1, T', h2, h3⟩ => by rw [h1]; exact hq w' T' h2 h3)
  refine ok_loopN (fun m (st : Int × Int) w' => ∃ (i : Nat) (T' : Hp), st.2 = i ∧ st.1 = oneN A.procs i ∧ i ≤ A.procs.length ∧ m = A.procs.length - i ∧ Tr en w0 T0 w' T' ∧ ∀ b p, T b = some p → T' b = some p) ?_ A.procs.length (-1, 0) w ⟨0, T, rfl, rfl, Nat.zero_le _, rfl, C, fun _ _ h => h⟩
  rintro m ⟨b1, i'⟩ w1 ⟨i, T1, h1, h2, hi, rfl, C1, hx1⟩
  simp only at h1 h2
  subst h1 h2
  dsimp only
  have I1 := I.ext hx1
  have hob := oneN_lt A.procs i
  refine ok_drfS (ok_tld C1 I1.sch (x := S.procs) (rdv_sl (by rfl)) ?_)
  by_cases hlt : i < A.procs.length
  · refine ok_true (by rw [hpl]; simpa using hlt) ?_
    simp only [bnd_as, bnd_ret]
    refine ok_drfS (ok_tld C1 I1.sch (x := S.procs) (rdv_sl (by rfl)) ?_)
    have hg : A.procs[i]? = some A.procs[i] := List.getElem?_eq_getElem hlt
    have hni := nth_nat hlt
    refine ok_rowR C1 (g := Pr.en) (n := 4) (mk := Ob.procs) (fun _ => rfl) (fun _ => rfl) I1.procs hg (v := (A.procs[i].prio, A.procs[i].standing, A.procs[i].sem, A.procs[i].key)) (by decide) (by rfl) rfl ?_
    refine ok_rbox C1 rfl rfl fun pb w2 hpb C2 => ?_
    have hx2 : ∀ b p, T b = some p → put T1 pb (.box [.int .i64 A.procs[i].prio, .int .u8 A.procs[i].standing, .int .i64 A.procs[i].sem, .int .i64 A.procs[i].key]) b = some p := fun b p h => put_new (hx1 _ _ h) hpb
    have I2 := I.ext hx2
    have hbx : put T1 pb (.box [.int .i64 A.procs[i].prio, .int .u8 A.procs[i].standing, .int .i64 A.procs[i].sem, .int .i64 A.procs[i].key]) pb = some (.box [.int .i64 A.procs[i].prio, .int .u8 A.procs[i].standing, .int .i64 A.procs[i].sem, .int .i64 A.procs[i].key]) := put_eq _ _ _
    generalize put T1 pb (.box [.int .i64 A.procs[i].prio, .int .u8 A.procs[i].standing, .int .i64 A.procs[i].sem, .int .i64 A.procs[i].key]) = T2 at C2 hx2 I2 hbx
    refine ok_tld C2 hbx (m := 0) (k := 1) (t := .int .u8) (x := A.procs[i].standing) (by rfl) ?_
    refine ok_bnd.2 (ok_mono (Q := fun v w' => v = oneN A.procs (i + 1) ∧ Tr en w0 T0 w' T2) ?_ fun v w' ⟨e1, C3⟩ => ok_ret.2 ⟨A.procs.length - (i + 1), by omega, i + 1, T2, by show IntKind.wrap .i64 _ = _; rw [wI (by omega)]; simp, e1, by omega, rfl, C3, hx2⟩)
    by_cases hs : A.procs[i].standing = 1
    · refine ok_false (by rw [hs]; rfl) ?_
      refine ok_tdraw C2 fun w3 C3 => ?_
      have hbk : ¬ oneN A.procs i < 0 → A.procs[(oneN A.procs i).toNat]? = some (nth A.procs (oneN A.procs i)) := fun h => by
        have h1 : (oneN A.procs i).toNat < A.procs.length := by omega
        have h2 := nth_nat h1
        rw [Int.toNat_of_nonneg (by omega)] at h2
        rw [h2, List.getElem?_eq_getElem h1]
      have hcast : ¬ oneN A.procs i < 0 → oneN A.procs i = ((oneN A.procs i).toNat : Int) := fun h => by omega
      refine ok_bnd.2 (ok_mono (Q := fun b w' => w' = w3 ∧ b = decide (oneN A.procs i < 0 ∨ A.procs[i].prio > (nth A.procs (oneN A.procs i)).prio)) ?_ ?_)
      · by_cases h0 : oneN A.procs i < 0
        · exact ok_true (by simpa using h0) (ok_ret.2 ⟨rfl, by simp [h0]⟩)
        · refine ok_false (by simpa using h0) ?_
          refine ok_tld C3 hbx (m := 0) (k := 0) (t := .int .i64) (x := A.procs[i].prio) (by rfl) ?_
          refine ok_drfS (ok_tld C3 I2.sch (x := S.procs) (rdv_sl (by rfl)) ?_)
          refine ok_get C3 (g := Pr.en) (n := 4) (mk := Ob.procs) (fun _ => rfl) (fun _ => rfl) I2.procs (hbk h0) (t := .int .i64) (v := (nth A.procs (oneN A.procs i)).prio) (k := 0) (by decide) (by rfl) (hcast h0) ?_
          exact ok_ret.2 ⟨rfl, by simp [h0]⟩
      rintro b w4 ⟨hw, hb⟩
      rw [hw]
      refine ok_bnd.2 (ok_mono (Q := fun b w' => w' = w3 ∧ b = decide (ahd A.procs (oneN A.procs i) A.procs[i])) ?_ ?_)
      · by_cases hbt : oneN A.procs i < 0 ∨ A.procs[i].prio > (nth A.procs (oneN A.procs i)).prio
        · refine ok_true (by rw [hb]; simpa using hbt) (ok_ret.2 ⟨rfl, ?_⟩)
          have : ahd A.procs (oneN A.procs i) A.procs[i] := by
            unfold ahd
            rcases hbt with h | h
            · exact .inl h
            · exact .inr (.inl h)
          rw [decide_eq_true this]
        · refine ok_false (by rw [hb]; simpa using hbt) ?_
          have h0 : ¬ oneN A.procs i < 0 := fun h => hbt (.inl h)
          refine ok_tld C3 hbx (m := 0) (k := 0) (t := .int .i64) (x := A.procs[i].prio) (by rfl) ?_
          refine ok_drfS (ok_tld C3 I2.sch (x := S.procs) (rdv_sl (by rfl)) ?_)
          refine ok_get C3 (g := Pr.en) (n := 4) (mk := Ob.procs) (fun _ => rfl) (fun _ => rfl) I2.procs (hbk h0) (t := .int .i64) (v := (nth A.procs (oneN A.procs i)).prio) (k := 0) (by decide) (by rfl) (hcast h0) ?_
          refine ok_bnd.2 (ok_mono (Q := fun b w' => w' = w3 ∧ b = decide (ahd A.procs (oneN A.procs i) A.procs[i])) ?_ fun b w' h => ok_ret.2 h)
          by_cases hp : A.procs[i].prio = (nth A.procs (oneN A.procs i)).prio
          · refine ok_true (by rw [hp]; simp) ?_
            refine ok_tld C3 hbx (m := 0) (k := 3) (t := .int .i64) (x := A.procs[i].key) (by rfl) ?_
            refine ok_drfS (ok_tld C3 I2.sch (x := S.procs) (rdv_sl (by rfl)) ?_)
            refine ok_get C3 (g := Pr.en) (n := 4) (mk := Ob.procs) (fun _ => rfl) (fun _ => rfl) I2.procs (hbk h0) (t := .int .i64) (v := (nth A.procs (oneN A.procs i)).key) (k := 3) (by decide) (by rfl) (hcast h0) ?_
            refine ok_ret.2 ⟨rfl, ?_⟩
            rw [Bool.eq_iff_iff, decide_eq_true_eq, decide_eq_true_eq]
            exact ⟨fun h => .inr (.inr ⟨hp, h⟩), fun h => h.elim (fun h => absurd h h0) fun h => h.elim (fun h => absurd (.inr h) hbt) fun h => h.2⟩
          · refine ok_false (by simpa using hp) (ok_ret.2 ⟨rfl, ?_⟩)
            rw [eq_comm, decide_eq_false_iff_not]; rintro (h | h | ⟨h, _⟩)
            · exact h0 h
            · exact hbt (.inr h)
            · exact hp h
      rintro b2 w5 ⟨hw5, hb2⟩
      rw [hw5]
      by_cases ha : ahd A.procs (oneN A.procs i) A.procs[i]
      · refine ok_bnd.2 (ok_true (by rw [hb2]; simpa using ha) (ok_ret.2 (ok_ret.2 ⟨?_, C3⟩)))
        unfold oneN
        rw [hni, if_pos ⟨hs, ha⟩]
      · refine ok_bnd.2 (ok_false (by rw [hb2]; simpa using ha) (ok_ret.2 (ok_ret.2 ⟨?_, C3⟩)))
        conv => rhs; unfold oneN
        rw [hni, if_neg (fun h => ha h.2)]
    · refine ok_true (by simpa using hs) (ok_ret.2 ⟨?_, C2⟩)
      conv => rhs; unfold oneN
      rw [hni, if_neg (fun h => hs h.1)]
  · refine ok_false (by rw [hpl]; simpa using hlt) (ok_ret.2 ⟨?_, T1, C1, hx1⟩)
    have : i = A.procs.length := by omega
    subst this
    rw [wI (by omega)]; rfl
end
end R
end Go.Proofs.YtkkdeljladihpaaGreat

/-
  The document's scheduler: those that stand so, in the order of their keys.
-/
namespace Go.Proofs.YtkkdeljladihpaaGreat
namespace R
open Go.Sh Go.RowKit X Y
set_option maxRecDepth 100000
/-- Stands so; of a priority (0: any), for a semaphore. -/
def Wh (st p sem : Int) (x : Pr) : Prop := x.standing = st ∧ (p = 0 ∨ x.prio = p) ∧ x.sem = sem
instance (st p sem : Int) (x : Pr) : Decidable (Wh st p sem x) := by unfold Wh; exact inferInstance
def St.pr (A : St) (n : Nat) : Pr := nth A.procs ((n : Int) - 1)
theorem pr_get {A : St} {n : Nat} (h1 : 1 ≤ n) (h2 : n ≤ A.procs.length) : A.procs[n - 1]? = some (A.pr n) := by
  unfold St.pr
  have e : (n : Int) - 1 = ((n - 1 : Nat) : Int) := by omega
  rw [e, nth_nat (by omega), List.getElem?_eq_getElem (by omega)]
/-- A queue, as the keys tell it. -/
structure Qu (A : St) (st p sem : Int) (q : List Nat) : Prop where
  mem : ∀ n, n ∈ q ↔ 1 ≤ n ∧ n ≤ A.procs.length ∧ Wh st p sem (A.pr n)
  rise : q.Pairwise fun a b => (A.pr a).key < (A.pr b).key
/-- Behind the last one. -/
def Lt (A : St) (l : List Nat) (x : Pr) : Prop := ∀ n, l.getLast? = some n → x.key > (A.pr n).key
theorem late_take {A : St} {st p sem : Int} {q : List Nat} (h : Qu A st p sem q) {j : Nat} (hj : j ≤ q.length) {n : Nat} (hn : n ∈ q) : Lt A (q.take j) (A.pr n) ↔ n ∈ q.drop j := by
  constructor
  · intro hl
    rcases List.mem_append.1 (by rw [List.take_append_drop]; exact hn : n ∈ q.take j ++ q.drop j) with hm | hm
    · exfalso
      obtain ⟨k, hk, rfl⟩ := List.mem_iff_getElem.1 hm
      rw [List.length_take] at hk
      have hj0 : 0 < j := by omega
      have hlast : (q.take j).getLast? = some q[j - 1] := by
        rw [List.getLast?_eq_getElem?, List.length_take, Nat.min_eq_left hj, List.getElem?_take_of_lt (by omega), List.getElem?_eq_getElem (by omega)]
      have hgt := hl _ hlast
      rw [List.getElem_take] at hgt
      rcases Nat.lt_or_ge k (j - 1) with h1 | h1
      · have := (List.pairwise_iff_getElem.1 h.rise) k (j - 1) (by omega) (by omega) h1
        omega
      · have : k = j - 1 := by omega
        subst this; omega
    · exact hm
  · intro hm m hlast
    have hml : m ∈ q.take j := List.mem_of_getLast? hlast
    have hp := h.rise
    rw [← List.take_append_drop j q, List.pairwise_append] at hp
    exact hp.2.2 m hml n hm
end R
end Go.Proofs.YtkkdeljladihpaaGreat

/-
  The document's scheduler: its calls as plain functions. No program in sight but for the names.
-/
namespace Go.Proofs.YtkkdeljladihpaaGreat
namespace R
theorem pr_def (A : St) {n : Nat} (h : 1 ≤ n) : A.pr n = A.procs.getD (n - 1) ⟨0, 0, 0, 0⟩ := by
  unfold St.pr nth
  rw [show ((n : Int) - 1).toNat = n - 1 by omega]
theorem Qu.eq {A : St} {st p sem : Int} {q r : List Nat} (h : Qu A st p sem q) (k : Qu A st p sem r) : q = r := by
  refine List.Perm.eq_of_pairwise (le := fun a b => (A.pr a).key < (A.pr b).key) (fun a b _ _ h1 h2 => by omega) h.rise k.rise ?_
  refine (List.perm_ext_iff_of_nodup ?_ ?_).2 fun n => (h.mem n).trans (k.mem n).symm
  · exact h.rise.imp fun h => by rintro rfl; omega
  · exact k.rise.imp fun h => by rintro rfl; omega
open Classical in
/-- Those that stand so, by their keys. -/
noncomputable def St.ord (A : St) (st p sem : Int) : List Nat := if h : ∃ q, Qu A st p sem q then h.choose else []
theorem Qu.ord {A : St} {st p sem : Int} {q : List Nat} (h : Qu A st p sem q) : A.ord st p sem = q := by
  have he : ∃ q, Qu A st p sem q := ⟨q, h⟩
  unfold St.ord
  rw [dif_pos he]
  exact he.choose_spec.eq h
namespace St
def setPr (A : St) (n : Nat) (p : Pr) : St := { A with procs := A.procs.set (n - 1) p }
def setE (A : St) (n : Nat) (e : Int) : St := { A with excess := A.excess.set (n - 1) e }
def ex (A : St) (n : Nat) : Int := A.excess.getD (n - 1) 0
/-- One becomes active. -/
def takes (A : St) (f : Nat) : St := A.setPr f { A.pr f with standing := 2 }
/-- One goes ahead of its queue. -/
def yields (A : St) (a : Nat) : St := (A.setPr a { A.pr a with standing := 1, key := A.first - 1 }).ahead
def runs (A : St) : St :=
  if 0 < A.active ∧ 0 < A.one ∧ (A.pr A.one.toNat).prio > (A.pr A.active).prio then (A.yields A.active).takes A.one.toNat
  else if A.active = 0 ∧ 0 < A.one then A.takes A.one.toNat else A
/-- Behind its queue. -/
def back (A : St) (n : Nat) : St := (A.setPr n { A.pr n with standing := 1, key := A.last + 1 }).behind
def ready (A : St) (n : Nat) : St := (A.setPr n { A.pr n with standing := 1, sem := 0, key := A.last + 1 }).behind
def fork (A : St) (p : Int) : (Int × Int) × St :=
  if p < 1 ∨ p > 16 then ((0, 1), A) else if A.procs.length ≥ 4096 then ((0, 264), A)
  else (((A.procs.length : Int) + 1, 0), (({ A with procs := A.procs ++ [⟨p, 1, 0, A.last + 1⟩] } : St).behind).runs)
def yield (A : St) : Int × St := if A.active = 0 then (265, A) else (0, (A.back A.active).runs)
def semaphore (A : St) : (Int × Int) × St := if A.excess.length ≥ 4096 then ((0, 264), A) else (((A.excess.length : Int) + 1, 0), { A with excess := A.excess ++ [0] })
def isSem (A : St) (n : Int) : Bool := decide (1 ≤ n) && decide (n ≤ A.excess.length)
def waits (A : St) (n : Nat) : St := (A.setPr A.active { A.pr A.active with standing := 3, sem := n, key := A.last + 1 }).behind
def wait (A : St) (n : Int) : Int × St :=
  if A.active = 0 then (265, A) else if A.isSem n = false then (261, A)
  else if A.ex n.toNat > 0 then (0, A.setE n.toNat (A.ex n.toNat - 1))
  else (0, (A.waits n.toNat).runs)
noncomputable def signal0 (A : St) (n : Int) : Int × St :=
  if A.isSem n = false then (261, A) else match A.ord 3 0 n with
    | q :: _ => (0, A.ready q)
    | [] => if A.ex n.toNat ≥ 1073741824 then (264, A) else (0, A.setE n.toNat (A.ex n.toNat + 1))
noncomputable def signal (A : St) (n : Int) : Int × St := ((A.signal0 n).1, (A.signal0 n).2.runs)
def alive (A : St) (n : Int) : Int := if n < 1 ∨ n > A.procs.length then 260 else if (A.pr n.toNat).standing = 5 then 263 else 0
def suspend (A : St) (n : Int) : Int × St :=
  if A.alive n ≠ 0 then (A.alive n, A) else if (A.pr n.toNat).standing = 4 then (262, A)
  else (0, (A.setPr n.toNat { A.pr n.toNat with standing := 4, sem := 0 }).runs)
def resume (A : St) (n : Int) : Int × St :=
  if A.alive n ≠ 0 then (A.alive n, A) else if (A.pr n.toNat).standing ≠ 4 then (262, A) else (0, (A.ready n.toNat).runs)
def terminate (A : St) (n : Int) : Int × St :=
  if A.alive n ≠ 0 then (A.alive n, A) else (0, (A.setPr n.toNat { A.pr n.toNat with standing := 5, sem := 0 }).runs)
def prioed (A : St) (n : Nat) (p : Int) : St := if (A.pr n).standing = 1 then (A.setPr n { A.pr n with prio := p, key := A.last + 1 }).behind else A.setPr n { A.pr n with prio := p }
def setPriority (A : St) (n p : Int) : Int × St :=
  if A.alive n ≠ 0 then (A.alive n, A) else if p < 1 ∨ p > 16 then (1, A) else (0, (A.prioed n.toNat p).runs)
def at_ (A : St) (n time : Int) : Int × St :=
  if A.isSem n = false then (261, A) else if time < 0 ∨ time > 1152921504606846976 then (1, A) else if A.timers.length ≥ 4096 then (264, A)
  else (0, ({ A with timers := A.timers ++ [⟨time, n, A.last + 1⟩] } : St).behind)
/-- The first of the least time among the first so many; -1: none. -/
def nthT (l : List Tm) (i : Int) : Tm := l.getD i.toNat ⟨0, 0, 0⟩
def nextN (l : List Tm) : Nat → Int
  | 0 => -1
  | i + 1 => if nextN l i < 0 ∨ (nthT l i).time < (nthT l (nextN l i)).time then (i : Int) else nextN l i
def nextI (l : List Tm) : Int := nextN l l.length
def next (A : St) : Int × Bool := if nextI A.timers < 0 then (0, false) else ((nthT A.timers (nextI A.timers)).time, true)
/-- Without one. -/
def less (l : List Tm) (i : Nat) : List Tm := l.take i ++ l.drop (i + 1)
noncomputable def ticks (now : Int) : Nat → St → Int → St × Int
  | 0, A, n => (A, n)
  | f + 1, A, n => if 0 ≤ nextI A.timers ∧ (nthT A.timers (nextI A.timers)).time ≤ now then
      ticks now f (({ A with timers := less A.timers (nextI A.timers).toNat } : St).signal0 (nthT A.timers (nextI A.timers)).sem).2 (n + 1) else (A, n)
noncomputable def tick (A : St) (now : Int) : (Int × Int) × St :=
  if now < A.now ∨ now > 1152921504606846976 then ((0, 1), A)
  else (((ticks now A.timers.length { A with now := now } 0).2, 0), (ticks now A.timers.length { A with now := now } 0).1.runs)
def listen (A : St) (e n : Int) : Int × St :=
  if e < 0 ∨ e ≥ 64 then (1, A) else if n ≠ 0 ∧ A.isSem n = false then (261, A) else (0, { A with events := A.events.set e.toNat n })
noncomputable def event (A : St) (e : Int) : Bool × St :=
  if e < 0 ∨ e ≥ 64 ∨ A.events.getD e.toNat 0 = 0 then (false, A) else (true, (A.signal (A.events.getD e.toNat 0)).2)
def standing (A : St) (n : Int) : Int × Int × Int := if n < 1 ∨ n > A.procs.length then (0, 0, 260) else ((A.pr n.toNat).standing, (A.pr n.toNat).prio, 0)
noncomputable def readyN (A : St) : Nat → List Nat
  | 0 => []
  | p + 1 => A.ord 1 ((p : Int) + 1) 0 ++ readyN A p
noncomputable def readies (A : St) : List Nat := A.readyN 16
noncomputable def waiting (A : St) (n : Int) : List Nat × Int × Int := if A.isSem n = false then ([], 0, 261) else (A.ord 3 0 n, A.ex n.toNat, 0)
end St
end R
end Go.Proofs.YtkkdeljladihpaaGreat

/-
  The document's scheduler: rows that grow; those that stand so, in the order of their keys, walked.
-/
namespace Go.Proofs.YtkkdeljladihpaaGreat
namespace R
open Go.Sh Go.RowKit X Y
set_option maxRecDepth 100000
/-- More than was. -/
def Ex (T T' : Hp) : Prop := ∀ b p, T b = some p → T' b = some p
/-- Not of what was. -/
def Fr (T : Hp) (s : Sl) : Prop := ∀ b, s.a = some ⟨b, 0, none⟩ → T b = none
theorem Ex.refl (T : Hp) : Ex T T := fun _ _ h => h
theorem Ex.trans {T1 T2 T3 : Hp} (h : Ex T1 T2) (k : Ex T2 T3) : Ex T1 T3 := fun b p hb => k _ _ (h _ _ hb)
theorem Ex.put {T : Hp} {b : Nat} {o : Ob} (h : T b = none) : Ex T (put T b o) := fun _ _ hb => put_new hb h
theorem Ex.rw {T T' : Hp} (E : Ex T T') {A' : Type} {mk : List A' → Ob} {s : Sl} {l : List A'} (h : Rw T mk s l) : Rw T' mk s l := h.mono fun b L _ hb => E _ _ hb
theorem fr_nil (T : Hp) : Fr T ⟨none, 0, 0⟩ := fun b h => by cases h
/-- All but the row's block is kept. -/
def Ka (s : Sl) (T T' : Hp) : Prop := ∀ b p, T b = some p → s.a ≠ some ⟨b, 0, none⟩ → T' b = some p
section
variable {w0 w : World} {T0 T U : Hp} {sb : Nat} {S : Sk} {A : St} {α β : Type} {Q : α → World → Prop}
theorem ok_appF {A' : Type} {V e Ux : TypeId} {g : A' → List Value} {n by_ : Nat} {z : A'} {mk : List A' → Ob} (C : Tr en w0 T0 w T) (R : RowT Tryz.prog Ux e g n z by_) (hmk : ∀ l, en (mk l) = l.flatMap g) (E : Ex U T) {s : Sl} {l ys : List A'} (hf : Fr U s) (hr : Rw T mk s l) {x : Value} {k : Nat} (K : Src Tryz.prog n V x k (ys.flatMap g) w) (hby : (l.length + ys.length) * by_ ≤ 140737488355328) (hmx : l.length + ys.length ≤ 1000000000) {Y : TypeId} {f : Sl → Go.Sh.M α}
    (hq : ∀ r w' T', Tr en w0 T0 w' T' → Rw T' mk r (l ++ ys) → Ex U T' → Fr U r → Ka s T T' → Ok (f r) w' Q) :
    Ok (bnd (runV Tryz.prog .sl (Builtin.append_ #[Ux, V] Y #[.slice s.a s.len s.cap, x])) f) w Q := by
  have hml : maxLen = 9223372036854775807 := by decide
  refine ok_appR C R hmk hr K hby (by omega) fun r w' T' C' hr' hT => ?_
  rcases hT with ⟨rfl, rfl, _⟩ | ⟨fb, L', rfl, hra, hfb⟩
  · exact hq _ _ _ C' hr' E hf fun _ _ h _ => h
  have hU : U fb = none := by
    rcases hfb with h | ⟨h, _⟩
    · cases hu : U fb with
      | none => rfl
      | some p => rw [E _ _ hu] at h; cases h
    · exact hf _ h
  refine hq _ _ _ C' hr' (fun b p hb => ?_) (fun b hb => ?_) fun b p hb hne => ?_
  · rw [put_ne]
    · exact E _ _ hb
    · rintro rfl; rw [hU] at hb; cases hb
  · rw [hra] at hb
    simp only [Option.some.injEq, Addr.mk.injEq, and_true] at hb
    rw [← hb]; exact hU
  · rcases hfb with h | ⟨h, _⟩
    · exact put_new hb h
    · rw [put_ne]
      · exact hb
      · rintro rfl; exact hne h
theorem srcI (h : Th en w T) {o : Nat} {s : Sl} {l : List Int} (hr : Rw T (Ob.ints o) s l) : Src Tryz.prog 1 28 (.slice s.a s.len s.cap) l.length (l.flatMap iV) w := Rw.src row31 (en := en) (mk := Ob.ints o) (fun _ => rfl) h hr
theorem srcT (h : Th en w T) {s : Sl} {l : List Tm} (hr : Rw T Ob.tms s l) : Src Tryz.prog 3 29 (.slice s.a s.len s.cap) l.length (l.flatMap Tm.en) w := Rw.src row29 (en := en) (mk := Ob.tms) (fun _ => rfl) h hr
theorem ok_appI (C : Tr en w0 T0 w T) (E : Ex U T) {o o' : Nat} {s x : Sl} {l ys : List Int} (hf : Fr U s) (hr : Rw T (Ob.ints o) s l) (hx : Rw T (Ob.ints o') x ys) (hl : l.length + ys.length ≤ 1000000000) {f : Sl → Go.Sh.M α}
    (hq : ∀ r w' T', Tr en w0 T0 w' T' → Rw T' (Ob.ints o) r (l ++ ys) → Ex U T' → Fr U r → Ka s T T' → Ok (f r) w' Q) :
    Ok (bnd (runV Tryz.prog .sl (Builtin.append_ #[28, 28] 28 #[.slice s.a s.len s.cap, .slice x.a x.len x.cap])) f) w Q :=
  ok_appF C row31 (mk := Ob.ints o) (fun _ => rfl) E hf hr (srcI C.th hx) (by omega) hl hq
theorem ok_oneI (C : Tr en w0 T0 w T) {n : Int} {f : Sl → Go.Sh.M α} (hq : ∀ v w' T', Tr en w0 T0 w' T' → Ex T T' → Rw T' (Ob.ints 9) v [n] → Ok (f v) w' Q) : Ok (bnd (runV Tryz.prog .sl (Instr.buildSlice 28 1 #[(0, .int .i64 n)])) f) w Q := by
  refine ok_bnd.2 (ok_build1R row31 (by decide) (F := n) (v := .int .i64 n) rfl ?_)
  exact hq _ _ _ (C.alloc (.ints 9 [n]) 3) (Ex.put C.none_at) ⟨rfl, Nat.le_refl _, by show 1 ≤ maxLen; decide, .inr ⟨_, [n], rfl, put_eq _ _ _, rfl, rfl⟩⟩
theorem ok_twoI (C : Tr en w0 T0 w T) {m n : Int} {f : Sl → Go.Sh.M α} (hq : ∀ v w' T', Tr en w0 T0 w' T' → Ex T T' → Rw T' (Ob.ints 9) v [m, n] → Ok (f v) w' Q) : Ok (bnd (runV Tryz.prog .sl (Instr.buildSlice 28 2 #[(0, .int .i64 m), (1, .int .i64 n)])) f) w Q := by
  refine ok_bnd.2 (ok_buildL2 slt31 _ _ rfl rfl ?_)
  exact hq _ _ _ (C.alloc (.ints 9 [m, n]) 3) (Ex.put C.none_at) ⟨rfl, Nat.le_refl _, by show 2 ≤ maxLen; decide, .inr ⟨_, [m, n], rfl, put_eq _ _ _, rfl, rfl⟩⟩
/-- One number more. -/
theorem ok_app1 (C : Tr en w0 T0 w T) (E : Ex U T) {o : Nat} {s : Sl} {l : List Int} (hf : Fr U s) (hr : Rw T (Ob.ints o) s l) (hl : l.length + 1 ≤ 1000000000) {n : Int} {f : Sl → Go.Sh.M α}
    (hq : ∀ r w' T', Tr en w0 T0 w' T' → Rw T' (Ob.ints o) r (l ++ [n]) → Ex U T' → Fr U r → Ka s T T' → Ok (f r) w' Q) :
    Ok (bnd (runV Tryz.prog .sl (Instr.buildSlice 28 1 #[(0, .int .i64 n)])) fun (v : Sl) => bnd (runV Tryz.prog .sl (Builtin.append_ #[28, 28] 28 #[.slice s.a s.len s.cap, .slice v.a v.len v.cap])) f) w Q := by
  refine ok_oneI C fun v w1 T1 C1 E1 R1 => ?_
  exact ok_appI C1 (E.trans E1) hf (E1.rw hr) R1 (by simpa using hl) fun r w2 T2 C2 R2 E2 F2 K2 => hq r w2 T2 C2 R2 E2 F2 fun b p hb hne => K2 b p (E1 _ _ hb) hne
theorem ok_app2 (C : Tr en w0 T0 w T) (E : Ex U T) {o : Nat} {s : Sl} {l : List Int} (hf : Fr U s) (hr : Rw T (Ob.ints o) s l) (hl : l.length + 2 ≤ 1000000000) {m n : Int} {f : Sl → Go.Sh.M α}
    (hq : ∀ r w' T', Tr en w0 T0 w' T' → Rw T' (Ob.ints o) r (l ++ [m, n]) → Ex U T' → Fr U r → Ka s T T' → Ok (f r) w' Q) :
    Ok (bnd (runV Tryz.prog .sl (Instr.buildSlice 28 2 #[(0, .int .i64 m), (1, .int .i64 n)])) fun (v : Sl) => bnd (runV Tryz.prog .sl (Builtin.append_ #[28, 28] 28 #[.slice s.a s.len s.cap, .slice v.a v.len v.cap])) f) w Q := by
  refine ok_twoI C fun v w1 T1 C1 E1 R1 => ?_
  exact ok_appI C1 (E.trans E1) hf (E1.rw hr) R1 (by simpa using hl) fun r w2 T2 C2 R2 E2 F2 K2 => hq r w2 T2 C2 R2 E2 F2 fun b p hb hne => K2 b p (E1 _ _ hb) hne
end
open Classical in
/-- The next of a queue among the first so many. -/
noncomputable def bestN (A : St) (st p sem : Int) (l : List Nat) : Nat → Int
  | 0 => -1
  | i + 1 => if Wh st p sem (nth A.procs i) ∧ Lt A l (nth A.procs i) ∧ (bestN A st p sem l i < 0 ∨ (nth A.procs i).key < (nth A.procs (bestN A st p sem l i)).key) then (i : Int) else bestN A st p sem l i
theorem bestN_yes {A : St} {st p sem : Int} {l : List Nat} {i : Nat} {x : Pr} (hx : nth A.procs i = x) (h : Wh st p sem x ∧ Lt A l x ∧ (bestN A st p sem l i < 0 ∨ x.key < (nth A.procs (bestN A st p sem l i)).key)) : bestN A st p sem l (i + 1) = i := by
  subst hx
  conv => lhs; unfold bestN
  rw [if_pos h]
theorem bestN_no {A : St} {st p sem : Int} {l : List Nat} {i : Nat} {x : Pr} (hx : nth A.procs i = x) (h : ¬ (Wh st p sem x ∧ Lt A l x ∧ (bestN A st p sem l i < 0 ∨ x.key < (nth A.procs (bestN A st p sem l i)).key))) : bestN A st p sem l (i + 1) = bestN A st p sem l i := by
  subst hx
  conv => lhs; unfold bestN
  rw [if_neg h]
theorem bestN_lt (A : St) (st p sem : Int) (l : List Nat) : ∀ i, -1 ≤ bestN A st p sem l i ∧ bestN A st p sem l i < i
  | 0 => by simp [bestN]
  | i + 1 => by
    have := bestN_lt A st p sem l i
    unfold bestN
    split
    · omega
    · omega
theorem pr_succ (A : St) (b : Nat) : A.pr (b + 1) = nth A.procs (b : Int) := by
  unfold St.pr
  rw [show ((b + 1 : Nat) : Int) - 1 = (b : Int) by omega]
theorem bestN_best {A : St} {st p sem : Int} {q : List Nat} (h : Qu A st p sem q) {j : Nat} (hj : j ≤ q.length) : ∀ i, i ≤ A.procs.length →
    (bestN A st p sem (q.take j) i = -1 ∧ ∀ n ∈ q.drop j, i < n) ∨ (∃ b : Nat, bestN A st p sem (q.take j) i = (b : Int) ∧ b < i ∧ b + 1 ∈ q.drop j ∧ ∀ n ∈ q.drop j, n ≤ i → (A.pr (b + 1)).key ≤ (A.pr n).key)
  | 0, _ => .inl ⟨rfl, fun n hn => ((h.mem n).1 (List.mem_of_mem_drop hn)).1⟩
  | i + 1, hi => by
    have ih := bestN_best h hj i (by omega)
    have hC : (Wh st p sem (nth A.procs i) ∧ Lt A (q.take j) (nth A.procs i)) ↔ i + 1 ∈ q.drop j := by
      rw [← pr_succ]
      constructor
      · rintro ⟨h1, h2⟩
        exact (late_take h hj ((h.mem (i + 1)).2 ⟨by omega, hi, h1⟩)).1 h2
      · intro hm
        have hq := List.mem_of_mem_drop hm
        exact ⟨((h.mem _).1 hq).2.2, (late_take h hj hq).2 hm⟩
    unfold bestN
    split
    · rename_i hc
      have hm := hC.1 ⟨hc.1, hc.2.1⟩
      refine .inr ⟨i, rfl, by omega, hm, fun n hn hni => ?_⟩
      by_cases e : n = i + 1
      · rw [e]; exact Int.le_refl _
      rcases ih with ⟨h1, h2⟩ | ⟨b, h1, h2, h3, h4⟩
      · have := h2 n hn; omega
      · have h5 := h4 n hn (by omega)
        rcases hc.2.2 with h6 | h6
        · omega
        · rw [h1, ← pr_succ, ← pr_succ] at h6; omega
    · rename_i hc
      by_cases hm : i + 1 ∈ q.drop j
      · have hw := hC.2 hm
        rcases ih with ⟨h1, h2⟩ | ⟨b, h1, h2, h3, h4⟩
        · exact absurd ⟨hw.1, hw.2, .inl (by omega)⟩ hc
        · refine .inr ⟨b, h1, by omega, h3, fun n hn hni => ?_⟩
          by_cases e : n = i + 1
          · rw [e]
            have : ¬ (nth A.procs i).key < (nth A.procs (bestN A st p sem (q.take j) i)).key := fun h6 => hc ⟨hw.1, hw.2, .inr h6⟩
            rw [h1, ← pr_succ, ← pr_succ] at this
            omega
          · exact h4 n hn (by omega)
      · rcases ih with ⟨h1, h2⟩ | ⟨b, h1, h2, h3, h4⟩
        · refine .inl ⟨h1, fun n hn => ?_⟩
          have := h2 n hn
          have : n ≠ i + 1 := by rintro rfl; exact hm hn
          omega
        · refine .inr ⟨b, h1, by omega, h3, fun n hn hni => ?_⟩
          have : n ≠ i + 1 := by rintro rfl; exact hm hn
          exact h4 n hn (by omega)
theorem bestN_end {A : St} {st p sem : Int} {q : List Nat} (h : Qu A st p sem q) : bestN A st p sem (q.take q.length) A.procs.length = -1 := by
  rcases bestN_best h (Nat.le_refl _) A.procs.length (Nat.le_refl _) with ⟨h1, _⟩ | ⟨b, _, _, h3, _⟩
  · exact h1
  · simp at h3
theorem bestN_next {A : St} {st p sem : Int} {q : List Nat} (h : Qu A st p sem q) {j : Nat} (hj : j < q.length) : bestN A st p sem (q.take j) A.procs.length + 1 = (q[j] : Int) ∧ ¬ bestN A st p sem (q.take j) A.procs.length < 0 := by
  have hd : q.drop j = q[j] :: q.drop (j + 1) := List.drop_eq_getElem_cons hj
  have hm : q[j] ∈ q.drop j := by rw [hd]; exact List.mem_cons_self
  have hle := ((h.mem q[j]).1 (List.getElem_mem hj)).2.1
  rcases bestN_best h (Nat.le_of_lt hj) A.procs.length (Nat.le_refl _) with ⟨_, h2⟩ | ⟨b, h1, h2, h3, h4⟩
  · have := h2 _ hm; omega
  · have h5 := h4 _ hm hle
    rw [hd] at h3
    rcases List.mem_cons.1 h3 with e | e
    · rw [h1, ← e]; omega
    · have hp := h.rise
      rw [← List.take_append_drop j q, hd, List.pairwise_append] at hp
      have := (List.pairwise_cons.1 hp.2.1).1 _ e
      omega
theorem nodup_len : ∀ (N : Nat) (l : List Nat), l.Nodup → (∀ m ∈ l, 1 ≤ m ∧ m ≤ N) → l.length ≤ N := YtkkdeljladihpaaGreat.nodup_len
theorem Qu.nodup {A : St} {st p sem : Int} {q : List Nat} (h : Qu A st p sem q) : q.Nodup := h.rise.imp fun h => by rintro rfl; omega
theorem Qu.len {A : St} {st p sem : Int} {q : List Nat} (h : Qu A st p sem q) : q.length ≤ A.procs.length := nodup_len _ _ h.nodup fun m hm => ⟨((h.mem m).1 hm).1, ((h.mem m).1 hm).2.1⟩
section
variable {w0 w : World} {T0 T U : Hp} {sb : Nat} {S : Sk} {A : St} {α β : Type} {Q : α → World → Prop}
theorem ns_length (l : List Nat) : (ns l).length = l.length := by simp [ns]
theorem last_take {q : List Nat} {j : Nat} (h0 : 0 < j) (hj : j ≤ q.length) : (q.take j).getLast? = some q[j - 1] := by
  rw [List.getLast?_eq_getElem?, List.length_take, Nat.min_eq_left hj, List.getElem?_take_of_lt (by omega), List.getElem?_eq_getElem (by omega)]
set_option maxHeartbeats 1000000 in
theorem order_spec (C : Tr en w0 T0 w T) (I : Inv T sb S A) (hl : A.procs.length ≤ 4096) {st p sem : Int} {q : List Nat} (hQ : Qu A st p sem q) (k : Nat) {f : Sl → Go.Sh.M α} (hq : ∀ r w' T', Tr en w0 T0 w' T' → Ex T T' → Fr T r → Rw T' (Ob.ints k) r (ns q) → Ok (f r) w' Q) : Ok (bnd (f85_order (some ⟨sb, 0, none⟩) st p sem) f) w Q := by
  unfold f85_order
  have hpl := I.procs.len
  have hql := hQ.len
  refine ok_bnd.2 (ok_mono (Q := fun r w' => ∃ T', Tr en w0 T0 w' T' ∧ Ex T T' ∧ Fr T r ∧ Rw T' (Ob.ints k) r (ns q)) ?_ fun r w' ⟨T', h1, h2, h3, h4⟩ => hq r w' T' h1 h2 h3 h4)
  refine ok_loopN (fun m (s1 : Sl) w' => ∃ (j : Nat) (T' : Hp), j ≤ q.length ∧ m = q.length - j ∧ Tr en w0 T0 w' T' ∧ Ex T T' ∧ Fr T s1 ∧ Rw T' (Ob.ints k) s1 (ns (q.take j))) ?_ q.length ⟨none, 0, 0⟩ w ⟨0, T, Nat.zero_le _, rfl, C, Ex.refl T, fr_nil T, rw_nil _ _⟩
  rintro m s1 w1 ⟨j, T1, hj, rfl, C1, E1, F1, R1⟩
  have hs1 : s1.len = j := by have := R1.len; rw [ns_length, List.length_take, Nat.min_eq_left hj] at this; exact this
  refine ok_loopN (fun m (s2 : Int × Int) w' => ∃ (i : Nat) (T' : Hp), s2.2 = i ∧ s2.1 = bestN A st p sem (q.take j) i ∧ i ≤ A.procs.length ∧ m = A.procs.length - i ∧ Tr en w0 T0 w' T' ∧ Ex T1 T') ?_ A.procs.length (-1, 0) w1 ⟨0, T1, rfl, rfl, Nat.zero_le _, rfl, C1, Ex.refl T1⟩
  rintro m ⟨b1, i'⟩ w2 ⟨i, T2, h1, h2, hi, rfl, C2, E2⟩
  simp only at h1 h2
  subst h1 h2
  dsimp only
  have I2 := I.ext (E1.trans E2)
  have hob := bestN_lt A st p sem (q.take j) i
  refine ok_drfS (ok_tld C2 I2.sch (x := S.procs) (rdv_sl (by rfl)) ?_)
  by_cases hlt : i < A.procs.length
  · refine ok_true (by rw [hpl]; simpa using hlt) ?_
    refine ok_drfS (ok_tld C2 I2.sch (x := S.procs) (rdv_sl (by rfl)) ?_)
    have hg : A.procs[i]? = some A.procs[i] := List.getElem?_eq_getElem hlt
    have hni := nth_nat hlt
    generalize A.procs[i] = x at hg hni
    refine ok_rowR C2 (g := Pr.en) (n := 4) (mk := Ob.procs) (fun _ => rfl) (fun _ => rfl) I2.procs hg (v := (x.prio, x.standing, x.sem, x.key)) (by decide) (by rfl) rfl ?_
    refine ok_rbox C2 rfl rfl fun pb w3 hpb C3 => ?_
    have E3 : Ex T2 (put T2 pb (.box [.int .i64 x.prio, .int .u8 x.standing, .int .i64 x.sem, .int .i64 x.key])) := Ex.put hpb
    have hbx : put T2 pb (.box [.int .i64 x.prio, .int .u8 x.standing, .int .i64 x.sem, .int .i64 x.key]) pb = some (.box [.int .i64 x.prio, .int .u8 x.standing, .int .i64 x.sem, .int .i64 x.key]) := put_eq _ _ _
    generalize put T2 pb (.box [.int .i64 x.prio, .int .u8 x.standing, .int .i64 x.sem, .int .i64 x.key]) = T3 at C3 E3 hbx
    have I3 := I2.ext E3
    have R3 := E3.rw (E2.rw R1)
    refine ok_tdraw C3 fun w4 C4 => ?_
    refine ok_bnd.2 (ok_mono (Q := fun b w' => w' = w4 ∧ (b = true ↔ Lt A (q.take j) x)) ?_ ?_)
    · by_cases h0 : j = 0
      · refine ok_true (by rw [hs1, h0]; rfl) (ok_ret.2 ⟨rfl, ?_⟩)
        subst h0
        simp [Lt]
      · refine ok_false (by rw [hs1]; simpa using h0) ?_
        refine ok_tld C4 hbx (m := 0) (k := 3) (t := .int .i64) (x := x.key) (by rfl) ?_
        refine ok_drfS (ok_tld C4 I3.sch (x := S.procs) (rdv_sl (by rfl)) ?_)
        have hjl : j - 1 < q.length := by omega
        have hnx : (ns (q.take j))[j - 1]? = some ((q[j - 1] : Nat) : Int) := by
          unfold ns
          rw [List.getElem?_map, List.getElem?_take_of_lt (by omega), List.getElem?_eq_getElem hjl]; rfl
        refine ok_rowR C4 (g := iV) (n := 1) (mk := Ob.ints k) (fun _ => rfl) (fun _ => rfl) R3 hnx (t := .int .i64) (v := ((q[j - 1] : Nat) : Int)) (by decide) (by rfl) (by rw [hs1, wI (by omega)]; omega) ?_
        obtain ⟨m1, m2, m3⟩ := (hQ.mem q[j - 1]).1 (List.getElem_mem hjl)
        refine ok_get C4 (g := Pr.en) (n := 4) (mk := Ob.procs) (fun _ => rfl) (fun _ => rfl) I3.procs (pr_get m1 m2) (t := .int .i64) (v := (A.pr q[j - 1]).key) (k := 3) (by decide) (by rfl) (by rw [wI (by omega)]; omega) ?_
        refine ok_ret.2 ⟨rfl, ?_⟩
        unfold Lt
        rw [last_take (by omega) hj, decide_eq_true_eq]
        simp
    rintro b17 w5 ⟨hw, hb17⟩
    rw [hw]
    refine ok_tld C4 hbx (m := 0) (k := 1) (t := .int .u8) (x := x.standing) (by rfl) ?_
    refine ok_bnd.2 (ok_mono (Q := fun b w' => w' = w4 ∧ b = decide (x.standing = st ∧ (p = 0 ∨ x.prio = p))) ?_ ?_)
    · by_cases h0 : x.standing = st
      · refine ok_true (by rw [h0]; simp) ?_
        refine ok_bnd.2 ?_
        by_cases h1 : p = 0
        · exact ok_true (by rw [h1]; rfl) (ok_ret.2 (ok_ret.2 ⟨rfl, by simp [h0, h1]⟩))
        · refine ok_false (by simpa using h1) ?_
          refine ok_tld C4 hbx (m := 0) (k := 0) (t := .int .i64) (x := x.prio) (by rfl) ?_
          refine ok_ret.2 (ok_ret.2 ⟨rfl, ?_⟩)
          rw [Bool.eq_iff_iff, decide_eq_true_eq, beq_iff_eq]
          simp [h0, h1]
      · exact ok_false (by simpa using h0) (ok_ret.2 ⟨rfl, by simp [h0]⟩)
    rintro b21 w5 ⟨hw, hb21⟩
    rw [hw]
    refine ok_bnd.2 (ok_mono (Q := fun b w' => w' = w4 ∧ b = decide (Wh st p sem x)) ?_ ?_)
    · by_cases h0 : x.standing = st ∧ (p = 0 ∨ x.prio = p)
      · refine ok_true (by rw [hb21]; simpa using h0) ?_
        refine ok_tld C4 hbx (m := 0) (k := 2) (t := .int .i64) (x := x.sem) (by rfl) ?_
        refine ok_ret.2 ⟨rfl, ?_⟩
        rw [Bool.eq_iff_iff, decide_eq_true_eq, beq_iff_eq]
        unfold Wh
        exact ⟨fun h => ⟨h0.1, h0.2, h⟩, fun h => h.2.2⟩
      · refine ok_false (by rw [hb21]; simpa using h0) (ok_ret.2 ⟨rfl, ?_⟩)
        rw [eq_comm, decide_eq_false_iff_not]
        exact fun h => h0 ⟨h.1, h.2.1⟩
    rintro b23 w5 ⟨hw, hb23⟩
    rw [hw]
    clear hw hb21 w5 b21
    refine ok_tdraw C4 fun w6 C6 => ?_
    have fin : ∀ v : Int, bestN A st p sem (q.take j) (i + 1) = v → ∃ m', m' < A.procs.length - i ∧ ∃ (i2 : Nat) (T' : Hp), IntKind.wrap .i64 ((i : Int) + 1) = i2 ∧ v = bestN A st p sem (q.take j) i2 ∧ i2 ≤ A.procs.length ∧ m' = A.procs.length - i2 ∧ Tr en w0 T0 w6 T' ∧ Ex T1 T' :=
      fun v hv => ⟨A.procs.length - (i + 1), by omega, i + 1, T3, by rw [wI (by omega)]; simp, hv.symm, by omega, rfl, C6, E2.trans E3⟩
    by_cases hwl : Wh st p sem x ∧ Lt A (q.take j) x
    · refine ok_bnd.2 (ok_true (by rw [hb23, decide_eq_true hwl.1, hb17.2 hwl.2]; rfl) ?_)
      by_cases h0 : bestN A st p sem (q.take j) i < 0
      · refine ok_bnd.2 (ok_true (by simpa using h0) (ok_ret.2 (ok_ret.2 ?_)))
        refine ok_bnd.2 (ok_true rfl (ok_ret.2 (ok_ret.2 (fin _ (bestN_yes hni ⟨hwl.1, hwl.2, .inl h0⟩)))))
      · refine ok_bnd.2 (ok_false (by simpa using h0) ?_)
        have h1 : (bestN A st p sem (q.take j) i).toNat < A.procs.length := by omega
        have hbk : A.procs[(bestN A st p sem (q.take j) i).toNat]? = some (nth A.procs (bestN A st p sem (q.take j) i)) := by
          have h2 := nth_nat h1
          rw [Int.toNat_of_nonneg (by omega)] at h2
          rw [h2, List.getElem?_eq_getElem h1]
        refine ok_tld C6 hbx (m := 0) (k := 3) (t := .int .i64) (x := x.key) (by rfl) ?_
        refine ok_drfS (ok_tld C6 I3.sch (x := S.procs) (rdv_sl (by rfl)) ?_)
        refine ok_get C6 (g := Pr.en) (n := 4) (mk := Ob.procs) (fun _ => rfl) (fun _ => rfl) I3.procs hbk (t := .int .i64) (v := (nth A.procs (bestN A st p sem (q.take j) i)).key) (k := 3) (by decide) (by rfl) (by omega) ?_
        refine ok_ret.2 (ok_ret.2 ?_)
        by_cases hk : x.key < (nth A.procs (bestN A st p sem (q.take j) i)).key
        · refine ok_bnd.2 (ok_true (by simpa using hk) (ok_ret.2 (ok_ret.2 (fin _ (bestN_yes hni ⟨hwl.1, hwl.2, .inr hk⟩)))))
        · refine ok_bnd.2 (ok_false (by simpa using hk) (ok_ret.2 (ok_ret.2 (fin _ (bestN_no hni fun h => h.2.2.elim h0 hk)))))
    · refine ok_bnd.2 (ok_false ?_ (ok_ret.2 ?_))
      · cases b23 with
        | false => rfl
        | true =>
          cases b17 with
          | false => rfl
          | true => exact absurd ⟨of_decide_eq_true hb23.symm, hb17.1 rfl⟩ hwl
      refine ok_bnd.2 (ok_false rfl (ok_ret.2 (ok_ret.2 (fin _ (bestN_no hni fun h => hwl ⟨h.1, h.2.1⟩)))))
  · refine ok_false (by rw [hpl]; simpa using hlt) ?_
    have hie : i = A.procs.length := by omega
    subst hie
    by_cases hjq : j < q.length
    · obtain ⟨e1, e2⟩ := bestN_next hQ hjq
      refine ok_bnd.2 (ok_false (by simpa using e2) ?_)
      rw [wI (by omega), e1]
      refine ok_app1 C2 (E1.trans E2) F1 (E2.rw R1) (by rw [ns_length, List.length_take]; omega) fun r w3 T3 C3 R3 E3 F3 _ => ok_ret.2 (ok_ret.2 ⟨q.length - (j + 1), by omega, j + 1, T3, by omega, rfl, C3, E3, F3, ?_⟩)
      have e : ns (q.take j) ++ [(q[j] : Int)] = ns (q.take (j + 1)) := by
        rw [List.take_succ_eq_append_getElem hjq]; unfold ns; rw [List.map_append]; rfl
      rw [← e]; exact R3
    · have hje : j = q.length := by omega
      subst hje
      refine ok_bnd.2 (ok_true (by rw [bestN_end hQ]; rfl) (ok_ret.2 (ok_ret.2 ⟨T2, C2, E1.trans E2, F1, ?_⟩)))
      rw [List.take_length] at R1
      exact E2.rw R1
end
end R
end Go.Proofs.YtkkdeljladihpaaGreat
