/-
  What ShB reads off a text is what the text does: operations that look at memory; regions.
-/
import Derived.Test.YtckfidopkajpaaaShC
import Derived.Laws.Slices
set_option linter.unusedVariables false
set_option linter.unusedSimpArgs false
namespace Go.Sh
set_option linter.unusedVariables false

theorem optM_some {α : Type} {o : Option α} {w w' : World} {x : α} : optM o w = some (x, w') ↔ o = some x ∧ w = w' := by
  cases o <;> simp [optM, ret, fail]
theorem rd_some {a : Addr} {w w' : World} {v : Value} : rd a w = some (v, w') ↔ w.cell? a = some v ∧ w = w' := by
  unfold rd
  cases w.cell? a <;> simp
theorem rds_run {P : Program} {a : Addr} : ∀ (n i : Nat) (acc : Array Value) (w w' : World) (l : List Value), rds a i n w = some (l, w') →
    w' = w ∧ (loadCellsFrom a i n acc).run P w = .ok (acc ++ l.toArray) w
  | 0, i, acc, w, w', l, h => by
    simp only [rds, ret_some] at h
    obtain ⟨rfl, rfl⟩ := h
    exact ⟨rfl, by simp [loadCellsFrom]⟩
  | n + 1, i, acc, w, w', l, h => by
    simp only [rds, bnd_some, ret_some] at h
    obtain ⟨v, w1, h1, l', w2, h2, rfl, rfl⟩ := h
    obtain ⟨hc, rfl⟩ := rd_some.1 h1
    obtain ⟨rfl, h3⟩ := rds_run (P := P) n (i + 1) (acc.push v) _ _ _ h2
    refine ⟨rfl, ?_⟩
    simp only [loadCellsFrom, Sem.run_bind, run_load, hc, Result.andThen_ok, h3]
    congr 1
    apply Array.ext'
    simp
theorem ld_run {C : Ctx} (hC : C.Ok) {T : TypeId} {t : Ty} (ht : C.ty T = some t) {p : Addr} {w w' : World} {x : t.den} (h : ld t p w = some (x, w')) :
    w' = w ∧ (loadVar T p).run C.P w = .ok (inj t x) w := by
  simp only [ld, bnd_some, optM_some] at h
  obtain ⟨l, w1, h1, h2, rfl⟩ := h
  have hfit := hC.ty _ _ ht
  unfold tyFitsB at hfit
  split at hfit
  · rename_i d i hd hi
    simp only [Bool.and_eq_true, beq_iff_eq] at hfit
    obtain ⟨hsz, hag⟩ := hfit
    obtain ⟨rfl, h3⟩ := rds_run (P := C.P) t.size 0 #[] _ _ _ h1
    refine ⟨rfl, ?_⟩
    have hl := decs_enc h2
    simp only [loadVar, Sem.run_bind, run_isAgg hd, Result.andThen_ok]
    cases hA : isAggD d with
    | true =>
      rw [hA] at hag
      cases t <;> simp at hag
      rename_i u
      simp only [if_true, Sem.run_bind, run_size hi, hsz, Result.andThen_ok, loadCells, h3, Sem.run_pure, inj, enc, List.headD_cons]
      rw [hl]
      simp [enc]
    | false =>
      rw [hA] at hag
      have hone : t.one = true := by cases t <;> simp_all [Ty.one]
      have hna : ∀ v, t ≠ .agg v := by intro v hv; subst hv; simp at hag
      have hs1 : t.size = 1 := by cases t <;> simp_all [Ty.size]
      rw [hs1] at h1
      simp only [rds, bnd_some, ret_some] at h1
      obtain ⟨v, w1, h4, l', w2, ⟨rfl, _⟩, rfl, _⟩ := h1
      obtain ⟨h4, _⟩ := rd_some.1 h4
      rw [scalar_enc t x hone hna] at hl
      simp only [List.cons.injEq, and_true] at hl
      have : p.add 0 = p := by simp [Addr.add]
      rw [this] at h4
      simp [h4, hl]
  · cases hfit
theorem single_one {v : Value} : single v = v.oneCell' := by cases v <;> rfl
theorem wr_run {P : Program} {a : Addr} {v : Value} {w w' : World} (h : wr a v w = some ((), w')) : (store a v).run P w = .ok () w' := by
  unfold wr at h
  obtain ⟨h1, h⟩ := cond_some h
  rw [run_store P w a v .plain (by rw [← single_one]; exact h1)]
  split at h
  · rename_i u hu
    cases hf : w.frozen? a with
    | true => simp [hf] at h
    | false =>
      simp only [hf, cond_false, Option.some.injEq, Prod.mk.injEq, true_and] at h
      subst h
      simp [stored, hu, hf]
  · cases h
theorem wrs_run {P : Program} {a : Addr} : ∀ (l : List Value) (i : Nat) (w w' : World), wrs a i l w = some ((), w') → (storeCells a l i).run P w = .ok () w'
  | [], i, w, w', h => by
    simp only [wrs, ret_some, true_and] at h
    subst h
    rfl
  | v :: l, i, w, w', h => by
    simp only [wrs, bnd_some] at h
    obtain ⟨u, w1, h1, h2⟩ := h
    simp only [storeCells, Sem.run_bind, wr_run h1, Result.andThen_ok, wrs_run l (i + 1) w1 w' h2]
theorem cellsV_cells {t : Ty} {x : t.den} {l : List Value} (h : cellsV t x = some l) : (inj t x).cells = l.toArray := by
  cases t <;> simp only [cellsV, reduceCtorEq, Option.some.injEq] at h
  case val =>
    obtain ⟨h1, h2⟩ := cond_some h
    simp only [Option.some.injEq] at h2
    subst h2
    simp only [inj, enc, List.headD_cons]
    cases x <;> simp_all [Value.cells, single]
  all_goals (subst h; simp [inj, enc, Value.cells])
theorem newC_run {P : Program} {T : TypeId} {v : Value} {l : List Value} (hv : v.cells = l.toArray) {w w' : World} {a : Addr} (h : newC T l w = some (a, w')) :
    (newVar T v).run P w = .ok a w' := by
  simp only [newC, Option.some.injEq, Prod.mk.injEq] at h
  obtain ⟨rfl, rfl⟩ := h
  simp only [newVar, newRow, Sem.run_bind, run_newObj, Result.andThen_ok, Sem.run_pure, hv]
  rfl
theorem adrM_some {ρ : Type} {a : TV} {f : Addr → M ρ} {w : World} {r : ρ × World} (h : adrM a f w = some r) : ∃ p, a.v = .pointer (some p) ∧ f p w = some r := by
  unfold adrM at h
  split at h
  · exact ⟨_, rfl, h⟩
  · simp only [bnd_some, drf, optM_some] at h
    obtain ⟨x, w1, ⟨rfl, rfl⟩, h⟩ := h
    exact ⟨x, rfl, h⟩
  · cases h
theorem ix_run {P : Program} {T e : TypeId} {i : TypeInfo} (hu : P.underlying T = some (.slice e)) (hi : P.info? e = some i) {s : Sl} {k : IntKind} {n : Int} {w w' : World} {p : Addr}
    (h : ix i.size s n w = some (p, w')) : w' = w ∧ ∀ w0, (Instr.indexAt T (.slice s.a s.len s.cap) (.int k n)).run P w0 = .ok (.pointer (some p)) w0 := by
  obtain ⟨sa, sn, sc⟩ := s
  cases sa with
  | none => cases h
  | some a =>
    simp only [ix] at h
    split at h
    · rename_i hb
      simp only [ret_some] at h
      obtain ⟨rfl, rfl⟩ := h
      refine ⟨rfl, fun w0 => ?_⟩
      simp only [Instr.indexAt, Sem.run_bind, asIntOf, Sem.run_pure, Result.andThen_ok, run_under hu, Bool.and_false, hb, and_self, if_true, run_size hi]
    · cases h
theorem ixA_run {P : Program} {T e : TypeId} {l : Nat} {i : TypeInfo} (hu : P.underlying T = some (.array l e)) (hi : P.info? e = some i) {a : Addr} {k : IntKind} {n : Int} {w w' : World} {p : Addr}
    (h : ixA l i.size a n w = some (p, w')) : w' = w ∧ ∀ w0, (Instr.indexAt T (.pointer (some a)) (.int k n)).run P w0 = .ok (.pointer (some p)) w0 := by
  unfold ixA at h
  split at h
  · rename_i hb
    simp only [ret_some] at h
    obtain ⟨rfl, rfl⟩ := h
    refine ⟨rfl, fun w0 => ?_⟩
    simp only [Instr.indexAt, Sem.run_bind, asIntOf, Sem.run_pure, Result.andThen_ok, run_under hu, Instr.sureAddr, hb, and_self, if_true, run_size hi]
  · cases h
theorem bound_run {P : Program} {v : Int} {k : IntKind} {y m : Nat} {c : BoundsCode} {w w' : World} (h : bound v y w = some (m, w')) :
    w' = w ∧ ∀ w0, (Instr.sliceBound (.int k v) y c).run P w0 = .ok m w0 := by
  unfold bound at h
  split at h
  · rename_i hb
    simp only [ret_some] at h
    obtain ⟨rfl, rfl⟩ := h
    refine ⟨rfl, fun w0 => ?_⟩
    simp only [Instr.sliceBound, Sem.run_bind, asIntOf, Sem.run_pure, Result.andThen_ok, hb, and_self, if_true]
  · cases h
/-- Bounds as values. -/
def bv (k : IntKind) (o : Option Int) : Option Value := o.map (.int k)
theorem bounds_run {P : Program} {b : Bool} {len cap : Nat} {lo hi mx : Option Value} {lo' hi' mx' : Option Int}
    (hlo : ∀ v, lo = some v → ∃ k n, v = .int k n ∧ lo' = some n) (hlo0 : lo = none → lo' = none)
    (hhi : ∀ v, hi = some v → ∃ k n, v = .int k n ∧ hi' = some n) (hhi0 : hi = none → hi' = none)
    (hmx : ∀ v, mx = some v → ∃ k n, v = .int k n ∧ mx' = some n) (hmx0 : mx = none → mx' = none)
    (hx : hi' = none → mx' = none) {w w1 w2 w3 : World} {m h l : Nat}
    (h1 : boundO mx' cap cap w = some (m, w1)) (h2 : boundO hi' m len w1 = some (h, w2)) (h3 : boundO lo' h 0 w2 = some (l, w3)) :
    w1 = w ∧ w2 = w ∧ w3 = w ∧ ∀ w0, (Instr.sliceBounds b len cap lo hi mx).run P w0 = .ok (l, h, m) w0 := by
  have b1 : mx = none ∧ m = cap ∧ w1 = w ∨ ∃ k n, mx = some (.int k n) ∧ bound n cap w = some (m, w1) := by
    cases mx with
    | none => rw [hmx0 rfl] at h1; simp only [boundO, ret_some] at h1; exact .inl ⟨rfl, h1.1.symm, h1.2.symm⟩
    | some v => obtain ⟨k, n, rfl, hn⟩ := hmx v rfl; rw [hn] at h1; exact .inr ⟨k, n, rfl, h1⟩
  have b2 : hi = none ∧ h = len ∧ w2 = w1 ∨ ∃ k n, hi = some (.int k n) ∧ bound n m w1 = some (h, w2) := by
    cases hi with
    | none => rw [hhi0 rfl] at h2; simp only [boundO, ret_some] at h2; exact .inl ⟨rfl, h2.1.symm, h2.2.symm⟩
    | some v => obtain ⟨k, n, rfl, hn⟩ := hhi v rfl; rw [hn] at h2; exact .inr ⟨k, n, rfl, h2⟩
  have b3 : lo = none ∧ l = 0 ∧ w3 = w2 ∨ ∃ k n, lo = some (.int k n) ∧ bound n h w2 = some (l, w3) := by
    cases lo with
    | none => rw [hlo0 rfl] at h3; simp only [boundO, ret_some] at h3; exact .inl ⟨rfl, h3.1.symm, h3.2.symm⟩
    | some v => obtain ⟨k, n, rfl, hn⟩ := hlo v rfl; rw [hn] at h3; exact .inr ⟨k, n, rfl, h3⟩
  have e1 : w1 = w := by
    rcases b1 with b1 | ⟨k, n, _, b1⟩
    · exact b1.2.2
    · exact (bound_run (P := P) (k := .i64) (c := .index) b1).1
  subst e1
  have e2 : w2 = w1 := by
    rcases b2 with b2 | ⟨k, n, _, b2⟩
    · exact b2.2.2
    · exact (bound_run (P := P) (k := .i64) (c := .index) b2).1
  subst e2
  have e3 : w3 = w2 := by
    rcases b3 with b3 | ⟨k, n, _, b3⟩
    · exact b3.2.2
    · exact (bound_run (P := P) (k := .i64) (c := .index) b3).1
  subst e3
  refine ⟨rfl, rfl, rfl, fun w0 => ?_⟩
  have hnn : hi = none → mx = none := fun e => by
    rcases b1 with b1 | ⟨k, n, b1, _⟩
    · exact b1.1
    · obtain ⟨k, n, _, hn⟩ := hmx _ b1
      rw [hx (hhi0 e)] at hn; cases hn
  clear hlo hlo0 hhi hhi0 hmx hmx0 hx h1 h2 h3
  rcases b2 with ⟨rfl, rfl, _⟩ | ⟨k2, n2, rfl, b2⟩
  · have := hnn rfl
    subst this
    rcases b1 with ⟨_, rfl, _⟩ | ⟨k1, n1, b1, _⟩
    · rcases b3 with ⟨rfl, rfl, _⟩ | ⟨k3, n3, rfl, b3⟩
      · simp only [Instr.sliceBounds, Sem.run_bind, Sem.run_pure, Result.andThen_ok]
      · simp only [Instr.sliceBounds, Sem.run_bind, Sem.run_pure, Result.andThen_ok, (bound_run b3).2 w0]
    · cases b1
  · rcases b1 with ⟨rfl, rfl, _⟩ | ⟨k1, n1, rfl, b1⟩
    · rcases b3 with ⟨rfl, rfl, _⟩ | ⟨k3, n3, rfl, b3⟩
      · simp only [Instr.sliceBounds, Sem.run_bind, Sem.run_pure, Result.andThen_ok, (bound_run b2).2 w0]
      · simp only [Instr.sliceBounds, Sem.run_bind, Sem.run_pure, Result.andThen_ok, (bound_run b2).2 w0, (bound_run b3).2 w0]
    · rcases b3 with ⟨rfl, rfl, _⟩ | ⟨k3, n3, rfl, b3⟩
      · simp only [Instr.sliceBounds, Sem.run_bind, Sem.run_pure, Result.andThen_ok, (bound_run b1).2 w0, (bound_run b2).2 w0]
      · simp only [Instr.sliceBounds, Sem.run_bind, Sem.run_pure, Result.andThen_ok, (bound_run b1).2 w0, (bound_run b2).2 w0, (bound_run b3).2 w0]
theorem opO_some {N : Nat} {E : Env} {a : Act} (hF : Fits N E a) {x : Option Operand} {o : Option Int} (h : opO E x = some o) :
    (∀ v, x.map a.eval = some v → ∃ k n, v = .int k n ∧ o = some n) ∧ (x.map a.eval = none → o = none) := by
  cases x with
  | none => simp only [opO, Option.some.injEq] at h; subst h; simp
  | some x =>
    simp only [opO] at h
    split at h
    · rename_i k n hx
      simp only [Option.some.injEq] at h
      subst h
      have := opd_fits hF hx
      refine ⟨fun v hv => ⟨k, n, ?_, rfl⟩, by simp⟩
      simp only [Option.map_some, Option.some.injEq] at hv
      rw [← hv, this]
      rfl
    · cases h

theorem evSlice_run {C : Ctx} {T : TypeId} {b : TV} {N : Nat} {E : Env} {a : Act} (hF : Fits N E a) {lo hi mx : Option Operand} {l h m : Option Int}
    (hl : opO E lo = some l) (hh : opO E hi = some h) (hm : opO E mx = some m) {ρ : Type} {k : TV → M ρ} {w : World} {r : ρ × World}
    (hk : evSlice C T b l h m k w = some r) :
    ∃ tv, k tv w = some r ∧ ∀ w0, (Instr.sliceAt T b.v (lo.map a.eval) (hi.map a.eval) (mx.map a.eval)).run C.P w0 = .ok tv.v w0 := by
  obtain ⟨l1, l2⟩ := opO_some hF hl
  obtain ⟨h1, h2⟩ := opO_some hF hh
  obtain ⟨m1, m2⟩ := opO_some hF hm
  obtain ⟨tb, xb⟩ := b
  cases hu : C.P.underlying T with
  | none => simp only [evSlice, hu] at hk; cases hk
  | some d =>
    cases d
    case string =>
      cases tb <;> simp only [evSlice, hu] at hk <;> (try cases hk)
      cases m with
      | some x => cases hk
      | none =>
        simp only [slcS, bnd_some, ret_some] at hk
        obtain ⟨x, w1, ⟨y, w2, hb1, z, w3, hb2, rfl, rfl⟩, hk⟩ := hk
        have hmn : mx.map a.eval = none := by
          cases hx : mx.map a.eval with
          | none => rfl
          | some v => obtain ⟨_, n, _, hn⟩ := m1 v hx; cases hn
        obtain ⟨_, rfl, rfl, hr⟩ := bounds_run (P := C.P) (b := false) (len := xb.size) (cap := xb.size) (mx := none) (mx' := none) (m := xb.size) l1 l2 h1 h2 (by simp) (by simp) (by simp) (w := w) (w1 := w) (by simp [boundO, ret]) hb1 hb2
        refine ⟨_, hk, fun w0 => ?_⟩
        simp only [Instr.sliceAt, Sem.run_bind, run_under hu, Result.andThen_ok, TV.v, inj, enc, List.headD_cons, Instr.slice, hmn, Option.isSome_none, Bool.false_eq_true, if_false, Sem.run_pure, hr w0]
    case slice e =>
      cases tb <;> simp only [evSlice, hu] at hk <;> (try cases hk)
      have hk' : ∃ i, C.P.info? e = some i ∧ (h = none → m = none) ∧ (bnd (slc i.size xb l h m) fun r => k ⟨.sl, r⟩) w = some r := by
        cases hi' : C.P.info? e with
        | none => rw [hi'] at hk; cases h <;> cases m <;> cases hk
        | some i => rw [hi'] at hk; cases h <;> cases m <;> first | cases hk; done | exact ⟨i, rfl, by simp, hk⟩
      obtain ⟨i, hi', hnn, hk2⟩ := hk'
      clear hk
      simp only [slc, bnd_some, ret_some] at hk2
      obtain ⟨x, w1, ⟨y, w2, hb1, z, w3, hb2, u, w4, hb3, rfl, rfl⟩, hk2⟩ := hk2
      obtain ⟨rfl, rfl, rfl, hr⟩ := bounds_run (P := C.P) (b := true) l1 l2 h1 h2 m1 m2 hnn hb1 hb2 hb3
      refine ⟨_, hk2, fun w0 => ?_⟩
      simp only [Instr.sliceAt, Sem.run_bind, run_under hu, Result.andThen_ok, TV.v, inj, enc, List.headD_cons, Instr.slice, hr w0, run_size hi', Sem.run_pure]
    case array n e =>
      simp only [evSlice, hu] at hk
      have hk' : ∃ i, C.P.info? e = some i ∧ (h = none → m = none) ∧ (adrM ⟨tb, xb⟩ fun p => bnd (slcA n i.size p l h m) fun r => k ⟨.sl, r⟩) w = some r := by
        cases hi' : C.P.info? e with
        | none => rw [hi'] at hk; cases h <;> cases m <;> cases hk
        | some i => rw [hi'] at hk; cases h <;> cases m <;> first | cases hk; done | exact ⟨i, rfl, by simp, hk⟩
      obtain ⟨i, hi', hnn, hk2⟩ := hk'
      clear hk
      obtain ⟨p, hp, hk3⟩ := adrM_some hk2
      clear hk2
      simp only [slcA, bnd_some, ret_some] at hk3
      obtain ⟨x, w1, ⟨y, w2, hb1, z, w3, hb2, u, w4, hb3, rfl, rfl⟩, hk2⟩ := hk3
      obtain ⟨rfl, rfl, rfl, hr⟩ := bounds_run (P := C.P) (b := false) l1 l2 h1 h2 m1 m2 hnn hb1 hb2 hb3
      refine ⟨_, hk2, fun w0 => ?_⟩
      simp only [Instr.sliceAt, Sem.run_bind, run_under hu, Result.andThen_ok, hp, Instr.sureAddr, hr w0, run_size hi', Sem.run_pure]
      simp only [TV.v, inj, enc, List.headD_cons]
    all_goals (simp only [evSlice, hu] at hk; cases hk)
theorem runV_some {P : Program} {t : Ty} {s : Sem Value} {w w' : World} {x : t.den} (h : runV P t s w = some (x, w')) : s.run P w = .ok (inj t x) w' := by
  unfold runV at h
  split at h
  · rename_i v w1 hr
    split at h
    · rename_i y hy
      simp only [Option.some.injEq, Prod.mk.injEq] at h
      obtain ⟨rfl, rfl⟩ := h
      rw [hr, dec1_inj hy]
    · cases h
  · cases h
theorem evBin_run {P : Program} {op : BinOp} {T : TypeId} {x y : Operand} {a b : TV} {ρ : Type} {k : TV → M ρ} {w : World} {r : ρ × World} (hk : evBin op a b k w = some r) :
    ∃ tv, k tv w = some r ∧ ∀ w0, (do eqGuard op T x y a.v b.v; binOp op T a.v b.v).run P w0 = .ok tv.v w0 := by
  obtain ⟨ta, xa⟩ := a
  obtain ⟨tb, xb⟩ := b
  cases op <;> (try (simp only [evBin] at hk; cases hk; done)) <;> cases ta <;> (try (simp only [evBin] at hk; cases hk; done)) <;> cases tb <;> simp only [evBin] at hk <;> (try (cases hk; done))
  case quo.int.int i j =>
    cases hs : sameK i j with
    | false => rw [hs] at hk; cases hk
    | true =>
      have := sameK_eq hs
      subst this
      simp only [hs, cond_true, bnd_some, nz] at hk
      obtain ⟨u, w1, h1, hk⟩ := hk
      split at h1
      · cases h1
      · rename_i hm
        simp only [ret_some, true_and] at h1
        subst h1
        exact ⟨_, hk, fun w0 => by simp [TV.v, inj, enc, eqGuard_at_int, binOp, Op.intDiv, hm]⟩
  case rem.int.int i j =>
    cases hs : sameK i j with
    | false => rw [hs] at hk; cases hk
    | true =>
      have := sameK_eq hs
      subst this
      simp only [hs, cond_true, bnd_some, nz] at hk
      obtain ⟨u, w1, h1, hk⟩ := hk
      split at h1
      · cases h1
      · rename_i hm
        simp only [ret_some, true_and] at h1
        subst h1
        exact ⟨_, hk, fun w0 => by simp [TV.v, inj, enc, eqGuard_at_int, binOp, Op.intDiv, hm]⟩
  case shl.int.int i j =>
    simp only [bnd_some, cnt] at hk
    obtain ⟨u, w1, h1, hk⟩ := hk
    split at h1
    · cases h1
    · rename_i hm
      simp only [ret_some] at h1
      obtain ⟨rfl, rfl⟩ := h1
      exact ⟨_, hk, fun w0 => by simp [TV.v, inj, enc, eqGuard_at_int, binOp, Op.shift, hm, shlI]⟩
  case shr.int.int i j =>
    simp only [bnd_some, cnt] at hk
    obtain ⟨u, w1, h1, hk⟩ := hk
    split at h1
    · cases h1
    · rename_i hm
      simp only [ret_some] at h1
      obtain ⟨rfl, rfl⟩ := h1
      exact ⟨_, hk, fun w0 => by simp [TV.v, inj, enc, eqGuard_at_int, binOp, Op.shift, hm, shrI]⟩
theorem opM_some {ρ : Type} {E : Env} {x : Operand} {f : TV → M ρ} {w : World} {r : ρ × World} (h : opM E x f w = some r) : ∃ tv, opd E x = some tv ∧ f tv w = some r := by
  cases hx : opd E x with
  | none => simp only [opM, hx] at h; cases h
  | some tv => simp only [opM, hx] at h; exact ⟨tv, rfl, h⟩
theorem evIndexAddr_run {C : Ctx} {T : TypeId} {a i : TV} {ρ : Type} {k : TV → M ρ} {w : World} {r : ρ × World} (hk : evIndexAddr C T a i k w = some r) :
    ∃ tv, k tv w = some r ∧ ∀ w0, (Instr.indexAt T a.v i.v).run C.P w0 = .ok tv.v w0 := by
  obtain ⟨ta, xa⟩ := a
  obtain ⟨ti, xi⟩ := i
  cases hu : C.P.underlying T with
  | none => simp only [evIndexAddr, hu] at hk; cases hk
  | some d =>
    cases d
    case slice e =>
      cases ta <;> (try (simp only [evIndexAddr, hu] at hk; cases hk; done)) <;> cases ti <;> simp only [evIndexAddr, hu] at hk <;> (try (cases hk; done))
      rename_i kk
      cases hi : C.P.info? e with
      | none => rw [hi] at hk; cases hk
      | some i =>
        rw [hi] at hk
        simp only [bnd_some] at hk
        obtain ⟨p, w1, h1, hk⟩ := hk
        obtain ⟨rfl, hr⟩ := ix_run (k := kk) hu hi h1
        exact ⟨_, hk, hr⟩
    case array l e =>
      cases ti <;> simp only [evIndexAddr, hu] at hk <;> (try (cases hk; done))
      rename_i kk
      cases hi : C.P.info? e with
      | none => rw [hi] at hk; cases hk
      | some i =>
        rw [hi] at hk
        obtain ⟨q, hq, hk3⟩ := adrM_some hk
        clear hk
        simp only [bnd_some] at hk3
        obtain ⟨p, w1, h1, hk2⟩ := hk3
        obtain ⟨rfl, hr⟩ := ixA_run (k := kk) hu hi h1
        rw [hq]
        exact ⟨_, hk2, hr⟩
    all_goals (simp only [evIndexAddr, hu] at hk; cases hk)
theorem untup_enc : ∀ (t : Ty) (x : t.den), (untup t x).map TV.v = enc t false x ∨ ∃ tv ∈ untup t x, tv.t.one = false := by
  intro t
  induction t with
  | pair a b _ ihb =>
    intro x
    cases ha : a.one with
    | false => exact .inr ⟨⟨a, x.1⟩, by simp [untup], ha⟩
    | true =>
      rcases ihb x.2 with h | ⟨tv, h1, h2⟩
      · left; simp [untup, enc, one_enc a _ ha, h, TV.v]
      · right; exact ⟨tv, by simp [untup, h1], h2⟩
  | unit => intro x; left; rfl
  | _ => intro x; left; simp only [untup, List.map_cons, List.map_nil]; rw [one_enc _ _ rfl]; rfl
end Go.Sh
