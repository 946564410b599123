/-
  What ShB reads off a text is what the text does: operations.
-/
import Derived.Test.YtckfidopkajpaaaShB
import Derived.Calls
import Derived.Defers
import Derived.RangeFuncLeaves
import Derived.Laws.Entries
import Derived.Laws.Small
set_option linter.unusedVariables false
set_option linter.unusedSimpArgs false
namespace Go.Sh
set_option linter.unusedVariables false

def isAggD : TypeDesc → Bool
  | .struct _ => true
  | .array _ _ => true
  | _ => false
def tyFitsB (P : Program) (T : TypeId) (t : Ty) : Bool := match P.underlying T, P.info? T with
  | some d, some i => i.size == t.size && (match t with
    | .agg _ => isAggD d
    | .unit => false
    | .pair _ _ => false
    | .tup _ => false
    | _ => !isAggD d)
  | _, _ => false
def callable (P : Program) (f : FuncId) : Prop := ∃ fn, P.funcs[f]? = some fn ∧ (fn.name == "runtime.NumGoroutine") = false ∧ fn.body.isNone = false
/-- '==' and '!=' of two such structs are part by part. -/
def EqOk (P : Program) (T : TypeId) (t : Ty) : Prop := ∀ (u v : Operand) (x y : t.den) (w : World),
  (do eqGuard .eql T u v (.agg (enc t true x).toArray) (.agg (enc t true y).toArray); binOp .eql T (.agg (enc t true x).toArray) (.agg (enc t true y).toArray)).run P w = .ok (.bool (eqTV t x y)) w ∧
  (do eqGuard .neq T u v (.agg (enc t true x).toArray) (.agg (enc t true y).toArray); binOp .neq T (.agg (enc t true x).toArray) (.agg (enc t true y).toArray)).run P w = .ok (.bool (!eqTV t x y)) w
/-- A function put off, called when its caller leaves. -/
def SoundD (P : Program) (f : FuncId) (fs : FnT) : Prop := callable P f ∧ ∀ x w y w', fs.F x w = some (y, w') → ∀ u, u ≠ .run →
  ∀ n, CallsDIn Fence.wide n P f (enc fs.ts false x).toArray u w fun e u' w'' => u' = u ∧ e = .returned (inj fs.tr y) ∧ w'' = w'
/-- A round of a range over a function, as a call. -/
def YieldDoes (P : Program) (l : Nat) (args : Array Value) (w : World) (r : Bool) (w' : World) : Prop :=
  ∃ fn tmps assign body, (Instr.yield l args).run P w = .ok (.round l fn tmps assign body) w ∧ ∀ n, RoundIn Fence.wide n P l fn tmps assign body w fun e w'' => e = .returned (.bool r) ∧ w'' = w'
/-- A function that is ranged over. -/
def SoundR (P : Program) (f : FuncId) (rs : RS) : Prop := callable P f ∧ ∀ l (B : rs.ta.den → M Bool), (∀ z w r w', B z w = some (r, w') → YieldDoes P l (enc rs.ta false z).toArray w r w') →
  ∀ x w w', rs.F B x w = some ((), w') → Calls P f ((enc rs.ts false x).toArray ++ #[.func (.yield l) #[] #[]]) w fun e w'' => (∃ v, e = .returned v) ∧ w'' = w'
structure Ctx.Ok (C : Ctx) : Prop where
  df : ∀ f fs, C.df f = some fs → SoundD C.P f fs
  rf : ∀ f rs, C.rf f = some rs → SoundR C.P f rs
  yl : ∀ ys, C.yl = some ys → ∀ l z w r w', ys.F l z w = some (r, w') → YieldDoes C.P l (enc ys.ta false z).toArray w r w'
  eq : ∀ T t, C.eq T = some t → EqOk C.P T t
  mixed : C.P.follows .mixedOrders = true
  ty : ∀ T t, C.ty T = some t → tyFitsB C.P T t = true
  zero : ∀ T z, C.zero T = some z → ∃ i, C.P.info? T = some i ∧ i.zero = some z.v
  fn : ∀ f fs, C.fn f = some fs → callable C.P f ∧ ∀ x w y w', fs.F x w = some (y, w') →
    Calls C.P f (enc fs.ts false x).toArray w fun e w'' => e = .returned (inj fs.tr y) ∧ w'' = w'
  pf : ∀ f ps, C.pf f = some ps → callable C.P f ∧ ∀ x w,
    Calls C.P f (enc ps.ts false x).toArray w fun e w'' => e = .returned (inj ps.tr (ps.F x)) ∧ w'' = w
  alt : ∀ f fs, fs ∈ C.alt f → callable C.P f ∧ ∀ x w y w', fs.F x w = some (y, w') →
    Calls C.P f (enc fs.ts false x).toArray w fun e w'' => e = .returned (inj fs.tr y) ∧ w'' = w'
theorem pickF_ok {l : List TV} : ∀ {L : List FnT} {p : (fs : FnT) × fs.ts.den}, pickF l L = some p → p.1 ∈ L ∧ castArgs p.1.ts l = some p.2
  | [], _, h => by cases h
  | fs :: r, p, h => by
    unfold pickF at h
    split at h
    · rename_i x hx
      simp only [Option.some.injEq] at h
      subst h
      exact ⟨List.mem_cons_self, hx⟩
    · exact ⟨List.mem_cons_of_mem _ (pickF_ok h).1, (pickF_ok h).2⟩
theorem Ctx.Ok.pick {C : Ctx} (hC : C.Ok) {f : FuncId} {fs : FnT} {l : List TV} {p : (fs : FnT) × fs.ts.den} (hf : C.fn f = some fs) (hp : pickF l (fs :: C.alt f) = some p) :
    castArgs p.1.ts l = some p.2 ∧ callable C.P f ∧ ∀ x w y w', p.1.F x w = some (y, w') → Calls C.P f (enc p.1.ts false x).toArray w fun e w'' => e = .returned (inj p.1.tr y) ∧ w'' = w' := by
  have h := pickF_ok hp
  refine ⟨h.2, ?_⟩
  rcases List.mem_cons.1 h.1 with e | e
  · rw [e]; exact hC.fn _ _ hf
  · exact hC.alt _ _ e

/-- What is known of the slots is so. -/
structure Fits (N : Nat) (E : Env) (a : Act) : Prop where
  size : a.tmps.size = N
  defers : a.defers = E.dfs.map Df.v ++ E.base.2
  get : ∀ i tv, E.get i = some tv → a.tmps.getD i undef = tv.v

theorem beq_ne {i j : Nat} (h : i ≠ j) : Nat.beq i j = false := by
  cases hb : Nat.beq i j with
  | false => rfl
  | true => exact absurd (Nat.eq_of_beq_eq_true hb) h
theorem get_set (E : Env) (i j : Nat) (v : Option TV) : (E.set i v).get j = if j = i then v else E.get j := by
  simp only [Env.get, Env.set, look]
  by_cases h : j = i
  · subst h; simp
  · have : Nat.beq j i = false := by cases hb : Nat.beq j i with
      | false => rfl
      | true => exact absurd (Nat.eq_of_beq_eq_true hb) h
    simp [h, this]
theorem Fits.put {N : Nat} {E : Env} {a : Act} (h : Fits N E a) {d : Nat} (hd : d < N) {v : Value} {o : Option TV} (ho : ∀ tv, o = some tv → v = tv.v) :
    Fits N (E.set d o) (a.put (some d) v) := by
  refine ⟨by simp [Act.put, h.size], by simp [Act.put, h.defers, Env.set], fun i tv hi => ?_⟩
  rw [get_set] at hi
  simp only [Act.put]
  by_cases he : i = d
  · subst he
    simp only [if_true] at hi
    have hlt : i < a.tmps.size := by rw [h.size]; exact hd
    simp [Array.getD, hlt, ho tv hi]
  · simp only [he, if_false] at hi
    have := h.get i tv hi
    rw [← this]
    simp [Array.getD_eq_getD_getElem?, Array.getElem?_setIfInBounds_ne (Ne.symm he)]
theorem Fits.putNone {N : Nat} {E : Env} {a : Act} (h : Fits N E a) (d : Nat) (v : Value) : Fits N (E.set d none) (a.put (some d) v) := by
  refine ⟨by simp [Act.put, h.size], by simp [Act.put, h.defers, Env.set], fun i tv hi => ?_⟩
  rw [get_set] at hi
  simp only [Act.put]
  by_cases he : i = d
  · subst he; simp at hi
  · simp only [he, if_false] at hi
    have := h.get i tv hi
    rw [← this]
    simp [Array.getD_eq_getD_getElem?, Array.getElem?_setIfInBounds_ne (Ne.symm he)]
theorem put_none (a : Act) (v : Value) : a.put none v = a := rfl

theorem constTV_v (v : Value) : (constTV v).v = v := by cases v <;> rfl
theorem opd_fits {N : Nat} {E : Env} {a : Act} (h : Fits N E a) {x : Operand} {tv : TV} (hx : opd E x = some tv) : a.eval x = tv.v := by
  cases x with
  | tmp t => exact h.get t tv hx
  | const v => simp only [opd, Option.some.injEq] at hx; subst hx; exact (constTV_v v).symm
  | global g => simp only [opd, Option.some.injEq] at hx; subst hx; rfl
  | func f => simp only [opd, Option.some.injEq] at hx; subst hx; rfl
theorem opd1_some {E : Env} {x : Operand} {f : TV → Option TV} {r : TV} (h : opd1 E x f = some r) : ∃ a, opd E x = some a ∧ f a = some r := by
  unfold opd1 at h
  split at h
  · rename_i a ha; exact ⟨a, ha, h⟩
  · cases h
theorem one_enc : ∀ (t : Ty) (x : t.den), t.one = true → enc t false x = [inj t x] := by
  intro t x h
  cases t <;> simp_all [Ty.one, inj, enc]

theorem allOpd_fits {N : Nat} {E : Env} {a : Act} (h : Fits N E a) : ∀ (l : List Operand) (r : List TV), allOpd E l = some r → l.map a.eval = r.map TV.v
  | [], r, hr => by simp only [allOpd, Option.some.injEq] at hr; subst hr; rfl
  | x :: l, r, hr => by
    simp only [allOpd] at hr
    split at hr
    · rename_i tv htv
      split at hr
      · rename_i r' hr'
        simp only [Option.some.injEq] at hr
        subst hr
        simp only [List.map_cons, opd_fits h htv, allOpd_fits h l r' hr']
      · cases hr
    · cases hr
theorem castArgs_enc : ∀ (t : Ty) (l : List TV) (x : t.den), castArgs t l = some x → enc t false x = l.map TV.v := by
  intro t
  induction t with
  | pair a b _ ihb =>
    intro l x h
    cases l with
    | nil => simp [castArgs] at h
    | cons tv l =>
      unfold castArgs at h
      cases ho : a.one with
      | false => simp [ho] at h
      | true =>
        simp only [ho, cond_true] at h
        split at h
        · rename_i y hy
          split at h
          · rename_i z hz
            simp only [Option.some.injEq] at h
            subst h
            simp only [enc, List.map_cons, one_enc a _ ho, ihb _ _ hz, castTo_inj hy, TV.v, List.singleton_append]
          · cases h
        · cases h
  | unit =>
    intro l x h
    cases l with
    | nil => rfl
    | cons tv l => cases l <;> simp [castArgs, Ty.one] at h
  | _ =>
    intro l x h
    cases l with
    | nil => simp [castArgs] at h
    | cons tv l =>
      cases l with
      | nil =>
        unfold castArgs at h
        simp only [Ty.one, cond_true] at h
        rw [one_enc _ _ rfl, castTo_inj h]; rfl
      | cons tv' l => simp [castArgs] at h

/-! ### Operations that are calm -/
theorem wp_value {P : Program} {o : Oper} {a : Act} {w w' : World} {v : Value} {next : Act → World → Prop} {Q : Exit → Act → World → Prop}
    (h : (execOp a.eval o).run P w = .ok (.value v) w') (hn : next (a.put o.dst v) w') : o.wp P a w next Q := by
  simp only [Oper.wp, h, Oper.upon]; exact hn
theorem wp_skip' {P : Program} {o : Oper} {a : Act} {w w' : World} {next : Act → World → Prop} {Q : Exit → Act → World → Prop}
    (h : (execOp a.eval o).run P w = .ok .skip w') (hn : next (a.put o.dst undef) w') : o.wp P a w next Q := by
  simp only [Oper.wp, h, Oper.upon]; exact hn
theorem wp_enter {P : Program} {o : Oper} {a : Act} {w : World} {f : FuncId} {args : Array Value} {v : Value} {w' : World} {next : Act → World → Prop} {Q : Exit → Act → World → Prop}
    (h : (execOp a.eval o).run P w = .ok (.enter f args) w) (hc : Calls P f args w fun e w'' => e = .returned v ∧ w'' = w') (hn : next (a.put o.dst v) w') : o.wp P a w next Q := by
  simp only [Oper.wp, h, Oper.upon]
  exact hc.mono fun e w'' ⟨he, hw⟩ => by subst he; subst hw; exact hn
theorem run_under {P : Program} {T : TypeId} {d : TypeDesc} (h : P.underlying T = some d) (w : World) : (underlying T).run P w = .ok d w := by
  simp [underlying, h]
theorem run_info {P : Program} {T : TypeId} {i : TypeInfo} (h : P.info? T = some i) (w : World) : (typeInfo T).run P w = .ok i w := by
  simp [typeInfo, h]
theorem run_size {P : Program} {T : TypeId} {i : TypeInfo} (h : P.info? T = some i) (w : World) : (sizeOf T).run P w = .ok i.size w := by
  simp [sizeOf, run_info h]
theorem run_isAgg {P : Program} {T : TypeId} {d : TypeDesc} (h : P.underlying T = some d) (w : World) : (isAgg T).run P w = .ok (isAggD d) w := by
  simp only [isAgg, Sem.run_bind, run_under h, Result.andThen_ok]
  cases d <;> rfl

theorem binInt_run {P : Program} {op : BinOp} {T : TypeId} {k : IntKind} {a b : Int} {tv : TV} (h : binInt op k a b = some tv) (w : World) :
    (binOp op T (.int k a) (.int k b)).run P w = .ok tv.v w := by
  cases op <;> simp only [binInt, Option.some.injEq, reduceCtorEq] at h <;> subst h <;> simp [binOp, Op.intArith, Op.intBits, Op.intCmp, TV.v, inj, enc, bAnd, bOr, bXor, bAndNot]
theorem binConst_run {P : Program} {op : BinOp} {T : TypeId} {k : IntKind} {a b : Int} {tv : TV} (h : binConst op k a b = some tv) (w : World) :
    (binOp op T (.int k a) (.int k b)).run P w = .ok tv.v w := by
  cases op <;> simp only [binConst, reduceCtorEq] at h
  all_goals
    cases hb : b == 0 with
    | true => simp [hb] at h
    | false =>
      simp only [hb, cond_false, Option.some.injEq] at h
      subst h
      have : b ≠ 0 := by simpa using hb
      simp [binOp, Op.intDiv, this, TV.v, inj, enc]
theorem shConst_run {P : Program} {op : BinOp} {T : TypeId} {k k' : IntKind} {a b : Int} {tv : TV} (h : shConst op k a b = some tv) (w : World) :
    (binOp op T (.int k a) (.int k' b)).run P w = .ok tv.v w := by
  cases op <;> simp only [shConst, reduceCtorEq] at h
  all_goals
    cases hb : decide (b < 0) with
    | true => simp [hb] at h
    | false =>
      simp only [hb, cond_false, Option.some.injEq] at h
      subst h
      have : ¬ b < 0 := by simpa using hb
      simp [binOp, Op.shift, this, TV.v, inj, enc, shlI, shrI]
theorem sameK_eq {k k' : IntKind} (h : sameK k k' = true) : k = k' := by simpa [sameK] using h
theorem cond_some {α : Type} {b : Bool} {x : Option α} {r : α} (h : (bif b then x else none) = some r) : b = true ∧ x = some r := by
  cases b
  · simp at h
  · exact ⟨rfl, h⟩
theorem cond_run {α : Type} {b : Bool} {m : M α} {w : World} {r : α × World} (h : (bif b then m else fail) w = some r) : b = true ∧ m w = some r := by
  cases b
  · cases h
  · exact ⟨rfl, h⟩
theorem equalIn_ptr {P : Program} (d : Nat) {T e : TypeId} (hu : P.underlying T = some (.pointer e)) (p : Option Addr) (w : World) :
    (Op.equalIn (d + 1) T (.pointer p) (.pointer none)).run P w = .ok p.isNone w := by
  cases p <;> simp [Op.equalIn, run_under hu]
theorem equalIn_sl {P : Program} (d : Nat) {T e : TypeId} (hu : P.underlying T = some (.slice e)) (p : Option Addr) (n m : Nat) (w : World) :
    (Op.equalIn (d + 1) T (.slice p n m) (.slice none 0 0)).run P w = .ok p.isNone w := by
  cases p <;> simp [Op.equalIn, run_under hu]
theorem isB_ptr {P : Program} {T e : TypeId} (hu : P.underlying T = some (.pointer e)) {op : BinOp} {p : Option Addr} {tv : TV} (h : isB op p.isNone = some tv) (w : World) :
    (binOp op T (.pointer p) (.pointer none)).run P w = .ok tv.v w := by
  cases op <;> simp only [isB, reduceCtorEq, Option.some.injEq] at h <;> subst h
  · have : binOp .eql T (.pointer p) (.pointer none) = (do pure (.bool (← Op.equal T (.pointer p) (.pointer none)))) := by cases p <;> rfl
    rw [this, Sem.run_bind, Op.equal, show Op.maxDepth = 9999 + 1 from rfl, equalIn_ptr 9999 hu p w]
    rfl
  · have : binOp .neq T (.pointer p) (.pointer none) = (do pure (.bool (!(← Op.equal T (.pointer p) (.pointer none))))) := by cases p <;> rfl
    rw [this, Sem.run_bind, Op.equal, show Op.maxDepth = 9999 + 1 from rfl, equalIn_ptr 9999 hu p w]
    rfl
theorem isB_sl {P : Program} {T e : TypeId} (hu : P.underlying T = some (.slice e)) {op : BinOp} {p : Option Addr} {n m : Nat} {tv : TV} (h : isB op p.isNone = some tv) (w : World) :
    (binOp op T (.slice p n m) (.slice none 0 0)).run P w = .ok tv.v w := by
  cases op <;> simp only [isB, reduceCtorEq, Option.some.injEq] at h <;> subst h
  · have : binOp .eql T (.slice p n m) (.slice none 0 0) = (do pure (.bool (← Op.equal T (.slice p n m) (.slice none 0 0)))) := rfl
    rw [this, Sem.run_bind, Op.equal, show Op.maxDepth = 9999 + 1 from rfl, equalIn_sl 9999 hu p n m w]
    rfl
  · have : binOp .neq T (.slice p n m) (.slice none 0 0) = (do pure (.bool (!(← Op.equal T (.slice p n m) (.slice none 0 0))))) := rfl
    rw [this, Sem.run_bind, Op.equal, show Op.maxDepth = 9999 + 1 from rfl, equalIn_sl 9999 hu p n m w]
    rfl
theorem calmBin_run {C : Ctx} (hC : C.Ok) {op : BinOp} {T : TypeId} {x y : Operand} {a b tv : TV} (hy : ∀ v, y = .const v → b.v = v) (h : calmBin C op T x y a b = some tv) (w : World) :
    (do eqGuard op T x y a.v b.v; binOp op T a.v b.v).run C.P w = .ok tv.v w := by
  obtain ⟨ta, xa⟩ := a
  obtain ⟨tb, xb⟩ := b
  cases ta <;> cases tb <;> simp only [calmBin, reduceCtorEq] at h
  case bool.bool =>
    split at h
    · rename_i hu
      cases op <;> simp only [isTwoBool, reduceCtorEq, Option.some.injEq] at h <;> subst h
      · simp [TV.v, inj, enc, eqGuard_at_bool, run_eql_bool (h := hu)]
      · simp [TV.v, inj, enc, eqGuard_at_bool, run_neq_bool (h := hu)]
    · cases h
  case str.str =>
    cases op <;> simp only [isTwoStr, reduceCtorEq, Option.some.injEq] at h <;> subst h <;> simp [TV.v, inj, enc, eqGuard_at_string, binOp, Op.stringOp, strEq]
  case agg.agg t u =>
    split at h
    · rename_i e he
      split at h
      · rename_i x' y' hx hy'
        have h1 := castTo_enc _ _ _ _ true hx
        have h2 := castTo_enc _ _ _ _ true hy'
        have hq := hC.eq _ _ he x y x' y' w
        simp only [TV.v, inj, enc, List.headD_cons, ← h1, ← h2]
        cases op <;> simp only [twoAgg, reduceCtorEq, Option.some.injEq] at h <;> subst h
        · exact hq.1
        · exact hq.2
      · cases h
    · cases h
  case ptr.ptr =>
    split at h
    · rename_i e hu
      obtain ⟨hn, h2⟩ := cond_some h
      clear h
      unfold nilPtr at hn
      split at hn
      · have hc := hy _ rfl
        simp only [TV.v, inj, enc, List.headD_cons, Value.pointer.injEq] at hc
        subst hc
        simp only [TV.v, inj, enc, List.headD_cons, eqGuard_at_pointer]
        exact isB_ptr hu h2 w
      · cases hn
    · cases h
  case adr.ptr =>
    split at h
    · rename_i e hu
      obtain ⟨hn, h2⟩ := cond_some h
      clear h
      unfold nilPtr at hn
      split at hn
      · have hc := hy _ rfl
        simp only [TV.v, inj, enc, List.headD_cons, Value.pointer.injEq] at hc
        subst hc
        simp only [TV.v, inj, enc, List.headD_cons, eqGuard_at_pointer]
        exact isB_ptr (p := some xa) hu h2 w
      · cases hn
    · cases h
  case sl.sl =>
    split at h
    · rename_i e hu
      obtain ⟨hn, h2⟩ := cond_some h
      clear h
      unfold nilSl at hn
      split at hn
      · have hc := hy _ rfl
        simp only [TV.v, inj, enc, List.headD_cons, Value.slice.injEq] at hc
        obtain ⟨sa, sl, sc⟩ := xa
        obtain ⟨ba, bl, bc⟩ := xb
        simp only at hc
        obtain ⟨rfl, rfl, rfl⟩ := hc
        simp only [TV.v, inj, enc, List.headD_cons, eqGuard_at_slice]
        exact isB_sl hu h2 w
      · cases hn
    · cases h
  case int.int k k' =>
    simp only [TV.v, inj, enc, List.headD_cons, eqGuard_at_int, Sem.run_bind, Sem.run_pure, Result.andThen_ok]
    split at h
    · rename_i c
      have hc := hy _ rfl
      simp only [TV.v, inj, enc, List.headD_cons, Value.int.injEq] at hc
      obtain ⟨hc1, hc2⟩ := hc
      subst hc2
      split at h
      · rename_i r hr
        simp only [Option.some.injEq] at h
        subst h
        exact shConst_run hr w
      · obtain ⟨hk, h⟩ := cond_some h
        have := sameK_eq hk
        subst this
        split at h
        · rename_i r hr
          simp only [Option.some.injEq] at h
          subst h
          exact binConst_run hr w
        · exact binInt_run h w
    · obtain ⟨hk, h⟩ := cond_some h
      have := sameK_eq hk
      subst this
      exact binInt_run h w
theorem calmUn_run {P : Program} {op : UnOp} {a tv : TV} (h : calmUn op a = some tv) (w : World) : (Op.unary op a.v).run P w = .ok tv.v w := by
  obtain ⟨ta, xa⟩ := a
  cases op <;> cases ta <;> simp only [calmUn, reduceCtorEq, Option.some.injEq] at h <;> subst h <;> simp [TV.v, inj, enc, Op.unary, Op.intArith, Op.intBits, bXor]
theorem calmConv_run {C : Ctx} {s d : TypeId} {a tv : TV} (h : calmConv C s d a = some tv) (w : World) : (convert s d a.v).run C.P w = .ok tv.v w := by
  unfold calmConv at h
  split at h
  · rename_i u k k' n h1 h2
    simp only [Option.some.injEq] at h
    subst h
    simp [convert, run_under h1, run_under h2, TV.v, inj, enc, Conv.intToInt]
  · rename_i u b h1 h2
    simp only [Option.some.injEq] at h
    subst h
    simp only [convert, Sem.run_bind, run_under h1, run_under h2, TV.v, inj, enc, List.headD_cons, Result.andThen_ok]
    rfl
  · cases h
theorem nth_enc : ∀ (t : Ty) (x : t.den) (i : Nat) (tv : TV), nth t x i = some tv → (enc t false x)[i]? = some tv.v := by
  intro t
  induction t with
  | pair a b _ ihb =>
    intro x i tv h
    cases i with
    | zero =>
      simp only [nth] at h
      obtain ⟨h1, h2⟩ := cond_some h
      simp only [Option.some.injEq] at h2
      subst h2
      simp [enc, one_enc a _ h1, TV.v]
    | succ n =>
      simp only [nth] at h
      obtain ⟨h1, h2⟩ := cond_some h
      have := ihb _ _ _ h2
      simp [enc, one_enc a _ h1, this]
  | unit => intro x i tv h; cases i <;> simp [nth, Ty.one] at h
  | _ =>
    intro x i tv h
    cases i with
    | zero =>
      simp only [nth, Ty.one, cond_true, Option.some.injEq] at h
      subst h
      rw [one_enc _ _ rfl]; rfl
    | succ n => simp [nth] at h
theorem extract_toList {α : Type} (l : List α) (i n : Nat) : (l.toArray.extract i (i + n)).toList = (l.drop i).take n := by
  simp [List.extract_toArray, List.extract_eq_take_drop]
theorem enc_length : ∀ (t : Ty) (x : t.den), (enc t true x).length = t.size := by
  intro t
  induction t with
  | pair a b iha ihb => intro x; simp [enc, Ty.size, iha, ihb]
  | agg t ih => intro x; simp [enc, Ty.size, ih]
  | _ => intro x; simp [enc, Ty.size]
theorem scalar_enc : ∀ (t : Ty) (x : t.den), t.one = true → (∀ u, t ≠ .agg u) → enc t true x = [inj t x] := by
  intro t x h h2
  cases t <;> simp_all [Ty.one, inj, enc]
theorem calmField_run {C : Ctx} (hC : C.Ok) {T : TypeId} {f : Nat} {a tv : TV} (h : calmField C T f a = some tv) (w : World) : (Instr.field T a.v f).run C.P w = .ok tv.v w := by
  unfold calmField at h
  split at h
  · rename_i t x
    split at h
    · rename_i fs hu
      split at h
      · rename_i fd hfd
        split at h
        · rename_i u hty
          split at h
          · rename_i y hy
            simp only [Option.some.injEq] at h
            subst h
            have hl := decs_enc hy
            have hfit := hC.ty _ _ hty
            unfold tyFitsB at hfit
            split at hfit
            · rename_i d i hd hi
              simp only [Bool.and_eq_true, beq_iff_eq] at hfit
              obtain ⟨hsz, hag⟩ := hfit
              simp only [Instr.field, Sem.run_bind, run_under hu, Result.andThen_ok, hfd, part, run_isAgg hd, TV.v, inj, enc, List.headD_cons, asAgg, Sem.run_pure]
              cases hA : isAggD d with
              | true =>
                rw [hA] at hag
                cases u <;> simp at hag
                rename_i u
                simp only [if_true, Sem.run_bind, run_size hi, Result.andThen_ok, Sem.run_pure, enc, List.headD_cons, hsz] at hl ⊢
                congr 2
                apply Array.ext'
                rw [extract_toList, hl]
              | false =>
                rw [hA] at hag
                have hone : u.one = true := by cases u <;> simp_all [Ty.one]
                have hna : ∀ v, u ≠ .agg v := by intro v hv; subst hv; simp at hag
                rw [scalar_enc u y hone hna] at hl
                have h1 : (enc t true x)[fd.offset]? = some (inj u y) := by
                  have : ((enc t true x).drop fd.offset).head? = some (inj u y) := by
                    have h2 : (((enc t true x).drop fd.offset).take u.size).head? = some (inj u y) := by rw [hl]; rfl
                    cases hd2 : (enc t true x).drop fd.offset with
                    | nil => rw [hd2] at h2; simp at h2
                    | cons c cs =>
                      rw [hd2] at h2
                      cases hs : u.size with
                      | zero => rw [hs] at h2; simp at h2
                      | succ n => rw [hs] at h2; simpa using h2
                  simpa [List.head?_drop] using this
                simp [h1, inj]
            · cases hfit
          · cases h
        · cases h
      · cases h
    · cases h
  · cases h
theorem calmFieldAddr_run {C : Ctx} {T : TypeId} {f : Nat} {a : Addr} {tv : TV} (h : calmFieldAddr C T f a = some tv) (w : World) :
    (Instr.fieldAt T (.pointer (some a)) f).run C.P w = .ok tv.v w := by
  unfold calmFieldAddr at h
  split at h
  · rename_i fs hu
    split at h
    · rename_i fd hfd
      split at h
      · rename_i i hi
        cases hz : i.size == 0 with
        | true => simp [hz] at h
        | false =>
          simp only [hz, cond_false, Option.some.injEq] at h
          subst h
          have : i.size ≠ 0 := by simpa using hz
          simp [Instr.fieldAt, run_under hu, hfd, Instr.sureAddr, fieldPlace, run_size hi, this, TV.v, inj, enc]
      · cases h
    · cases h
  · cases h
theorem calmLen_run {C : Ctx} {b : Builtin} {T U : TypeId} {ts : List TypeId} {a tv : TV} (h : calmLen C b T a = some tv) (w : World) (cs : Array Bool) :
    (builtin b (T :: ts).toArray U cs #[a.v]).run C.P w = .ok (.value tv.v) w := by
  unfold calmLen at h
  split at h
  · rename_i e s hu
    simp only [Option.some.injEq] at h; subst h
    simp [builtin, Builtin.len_, run_under hu, TV.v, inj, enc, goInt]
  · rename_i s hu
    simp only [Option.some.injEq] at h; subst h
    simp [builtin, Builtin.len_, run_under hu, TV.v, inj, enc, goInt]
  · rename_i n e hu
    simp only [Option.some.injEq] at h; subst h
    simp [builtin, Builtin.len_, run_under hu, TV.v, inj, enc, goInt]
  · rename_i e s hu
    simp only [Option.some.injEq] at h; subst h
    simp [builtin, Builtin.cap_, run_under hu, TV.v, inj, enc, goInt]
  · cases h
theorem foldInt_max {P : Program} {k : IntKind} : ∀ (l : List TV) (n : Int) (tv : TV), foldInt maxI k n l = some tv → ∀ w, ((l.map TV.v).foldlM Builtin.max2 (.int k n)).run P w = .ok tv.v w
  | [], n, tv, h, w => by simp only [foldInt, Option.some.injEq] at h; subst h; rfl
  | ⟨t, x⟩ :: l, n, tv, h, w => by
    cases t <;> simp only [foldInt, reduceCtorEq] at h
    obtain ⟨h1, h2⟩ := cond_some h
    have := foldInt_max (P := P) l _ _ h2 w
    simp only [List.map_cons, List.foldlM_cons, TV.v, inj, enc, List.headD_cons, Builtin.max2, Sem.run_bind, Sem.run_pure, Result.andThen_ok]
    exact this
theorem foldInt_min {P : Program} {k : IntKind} : ∀ (l : List TV) (n : Int) (tv : TV), foldInt minI k n l = some tv → ∀ w, ((l.map TV.v).foldlM Builtin.min2 (.int k n)).run P w = .ok tv.v w
  | [], n, tv, h, w => by simp only [foldInt, Option.some.injEq] at h; subst h; rfl
  | ⟨t, x⟩ :: l, n, tv, h, w => by
    cases t <;> simp only [foldInt, reduceCtorEq] at h
    obtain ⟨h1, h2⟩ := cond_some h
    have := foldInt_min (P := P) l _ _ h2 w
    simp only [List.map_cons, List.foldlM_cons, TV.v, inj, enc, List.headD_cons, Builtin.min2, Sem.run_bind, Sem.run_pure, Result.andThen_ok]
    exact this
theorem calmBuiltin_run {C : Ctx} {b : Builtin} {ts : List TypeId} {U : TypeId} {l : List TV} {tv : TV} (h : calmBuiltin C b ts l = some tv) (w : World) (cs : Array Bool) :
    (builtin b ts.toArray U cs (l.map TV.v).toArray).run C.P w = .ok (.value tv.v) w := by
  unfold calmBuiltin at h
  split at h
  · have := foldInt_max (P := C.P) _ _ _ h w
    simp [builtin, Builtin.max_, TV.v, inj, enc] at this ⊢
    simp [this]
  · have := foldInt_min (P := C.P) _ _ _ h w
    simp [builtin, Builtin.min_, TV.v, inj, enc] at this ⊢
    simp [this]
  · exact calmLen_run h w cs
  · cases h
theorem callFunc_run {P : Program} {f : FuncId} (hc : callable P f) (args : Array Value) (w : World) : (callFunc f args).run P w = .ok (.enter f args) w := by
  obtain ⟨fn, h1, h2, h3⟩ := hc
  simp only [callFunc, Sem.run_bind, run_program, Result.andThen_ok, h1, h2, h3, Bool.false_eq_true, if_false, Sem.run_pure]
theorem args_map {N : Nat} {E : Env} {a : Act} (h : Fits N E a) {xs : Array Operand} {l : List TV} (hl : allOpd E xs.toList = some l) : xs.map a.eval = (l.map TV.v).toArray := by
  rw [← allOpd_fits h _ _ hl]
  apply Array.ext'
  simp
/-- What a calm operation gives: it may be gone on from there, in the same world. -/
def Gives (P : Program) (o : Oper) (a : Act) (v : Value) : Prop := ∀ (w : World) (next : Act → World → Prop) (Q : Exit → Act → World → Prop), next (a.put o.dst v) w → o.wp P a w next Q
theorem gives_value {P : Program} {o : Oper} {a : Act} {v : Value} (h : ∀ w, (execOp a.eval o).run P w = .ok (.value v) w) : Gives P o a v :=
  fun w _ _ hn => wp_value (h w) hn
theorem calmCall_gives {C : Ctx} (hC : C.Ok) {N : Nat} {E : Env} {a : Act} (hF : Fits N E a) {o : Oper} {c : Call} (ho : o.op = .call c) {tv : TV} (h : calmCall C E c = some tv) :
    Gives C.P o a tv.v := by
  unfold calmCall at h
  split at h
  · rename_i b hb
    split at h
    · rename_i l hl
      refine gives_value fun w => ?_
      simp only [execOp, ho, resolve, hb, Sem.run_bind, Sem.run_pure, Result.andThen_ok, invoke, args_map hF hl]
      exact calmBuiltin_run h w _
    · cases h
  · rename_i f hf
    split at h
    · rename_i g u hg
      split at h
      · rename_i ps hps
        split at h
        · rename_i l hl
          split at h
          · rename_i x hx
            simp only [Option.some.injEq] at h
            subst h
            obtain ⟨hcal, hcs⟩ := hC.pf _ _ hps
            intro w next Q hn
            refine wp_enter (f := g) (args := (enc ps.ts false x).toArray) ?_ (hcs x w) hn
            have he := opd_fits hF hg
            simp only [execOp, ho, resolve, hf, Sem.run_bind, he, args_map hF hl, TV.v, inj, enc, List.headD_cons, Deferred.ofValue, Sem.run_pure, Result.andThen_ok, invoke]
            rw [castArgs_enc _ _ _ hx]
            simp only [show ([] : List Value).toArray = #[] from rfl, show (List.nil : List Value).toArray = #[] from rfl, Array.empty_append, Array.append_empty]
            exact callFunc_run hcal _ w
          · cases h
        · cases h
      · cases h
    · cases h
  · cases h
theorem tupOf_enc : ∀ (l : List TV), l.all (fun tv => tv.t.one) = true → enc (tupOf l).t false (tupOf l).x = l.map TV.v
  | [], _ => rfl
  | [tv], h => by
    simp only [List.all_cons, List.all_nil, Bool.and_true] at h
    simp only [tupOf, List.map_cons, List.map_nil]
    exact one_enc _ _ h
  | tv :: tv' :: l, h => by
    simp only [List.all_cons, Bool.and_eq_true] at h
    have := tupOf_enc (tv' :: l) (by simp only [List.all_cons, Bool.and_eq_true]; exact h.2)
    simp only [tupOf, enc, List.map_cons] at this ⊢
    rw [this, one_enc _ _ h.1]
    rfl
theorem calmFunc_run {P : Program} {N : Nat} {E : Env} {a : Act} (hF : Fits N E a) {fn : Fn} {first captured : Array Operand} {tv : TV} (h : calmFunc E fn first captured = some tv) (w : World) :
    (Instr.makeFunc fn (first.map a.eval) (captured.map a.eval)).run P w = .ok tv.v w := by
  unfold calmFunc at h
  split at h
  · rename_i f hfi
    split at h
    · rename_i l hl
      obtain ⟨h1, h2⟩ := cond_some h
      simp only [Option.some.injEq] at h2
      subst h2
      have hfi' : first = #[] := by cases first; simp_all
      simp only [Instr.makeFunc, Sem.run_pure, args_map hF hl, hfi', TV.v, inj, enc, List.headD_cons, tupOf_enc l h1]
      simp
    · cases h
  · rename_i f x r hfi
    split at h
    · rename_i hca
      split at h
      · rename_i l hl
        obtain ⟨h1, h2⟩ := cond_some h
        simp only [Option.some.injEq] at h2
        subst h2
        have hfi' : captured = #[] := by cases captured; simp_all
        rw [← hfi] at hl
        simp only [Instr.makeFunc, Sem.run_pure, args_map hF hl, hfi', TV.v, inj, enc, List.headD_cons, tupOf_enc l h1]
        simp
      · cases h
    · cases h
  · cases h
theorem partsOf_map {N : Nat} {E : Env} {a : Act} (hF : Fits N E a) : ∀ (l : List (Nat × Operand)) (r : List (Nat × Value)), partsOf E l = some r → l.map (fun p => (p.1, a.eval p.2)) = r
  | [], r, h => by simp only [partsOf, Option.some.injEq] at h; subst h; rfl
  | (i, x) :: l, r, h => by
    simp only [partsOf] at h
    split at h
    · rename_i tv htv
      split at h
      · rename_i r' hr'
        simp only [Option.some.injEq] at h
        subst h
        simp only [List.map_cons, opd_fits hF htv, partsOf_map hF l r' hr']
      · cases h
    · cases h
theorem placesOf_run {C : Ctx} : ∀ (fs : List Field) (r : List (Nat × Nat)), placesOf C fs = some r → ∀ w, (fs.mapM (m := Sem) fun f => do pure (f.offset, ← sizeOf f.type)).run C.P w = .ok r w
  | [], r, h, w => by simp only [placesOf, Option.some.injEq] at h; subst h; rfl
  | f :: l, r, h, w => by
    simp only [placesOf] at h
    split at h
    · rename_i i hi
      split at h
      · rename_i r' hr'
        simp only [Option.some.injEq] at h
        subst h
        have := placesOf_run l r' hr' w
        simp only [List.mapM_cons, Sem.run_bind, run_size hi, Result.andThen_ok, Sem.run_pure, this]
      · cases h
    · cases h
theorem run_zero {P : Program} {T : TypeId} {i : TypeInfo} {v : Value} (h : P.info? T = some i) (hz : i.zero = some v) (w : World) : (zeroValue T).run P w = .ok v w := by
  simp [zeroValue, run_info h, hz]
theorem parts_map {N : Nat} {E : Env} {a : Act} (hF : Fits N E a) {parts : Array (Nat × Operand)} {r : List (Nat × Value)} (h : partsOf E parts.toList = some r) :
    (parts.map fun (i, x) => (i, a.eval x)).toList = r := by
  rw [← partsOf_map hF _ _ h]; simp
theorem calmBuild_run {C : Ctx} (hC : C.Ok) {N : Nat} {E : Env} {a : Act} (hF : Fits N E a) {T : TypeId} {parts : Array (Nat × Operand)} {tv : TV} (h : calmBuild C E T parts.toList = some tv) (w : World) :
    (Instr.build T (parts.map fun (i, x) => (i, a.eval x))).run C.P w = .ok tv.v w := by
  unfold calmBuild at h
  split at h
  · rename_i z t fs hz _ hu
    obtain ⟨i, hi, hiz⟩ := hC.zero _ _ hz
    split at h
    · rename_i l pl hl hpl
      split at h
      · rename_i cs hcs
        split at h
        · rename_i x hx
          simp only [Option.some.injEq] at h
          subst h
          have hm : (fs.mapM (m := Sem) fun f => do pure (f.offset, ← sizeOf f.type)).run C.P w = .ok pl.toArray w := by
            rw [Array.mapM_eq_mapM_toList]
            simp only [Sem.run_map, placesOf_run _ _ hpl w, Result.andThen_ok]
          simp only [Instr.build, Sem.run_bind, run_zero hi hiz, run_under hu, hm, Result.andThen_ok, parts_map hF hl, List.getElem?_toArray, hcs, Sem.run_pure]
          simp only [TV.v, inj, enc, List.headD_cons, ← decs_enc hx]
        · cases h
      · cases h
    · cases h
  · rename_i z t n e hz _ hu
    obtain ⟨i, hi, hiz⟩ := hC.zero _ _ hz
    split at h
    · rename_i l ie hl hie
      split at h
      · rename_i cs hcs
        split at h
        · rename_i x hx
          simp only [Option.some.injEq] at h
          subst h
          simp only [Instr.build, Sem.run_bind, run_zero hi hiz, run_under hu, run_size hie, Result.andThen_ok, parts_map hF hl, hcs, Sem.run_pure]
          simp only [TV.v, inj, enc, List.headD_cons, ← decs_enc hx]
        · cases h
      · cases h
    · cases h
  · cases h
theorem concreteB_under {P : Program} {T : TypeId} (h : concreteB P T = true) : ∃ d, P.underlying T = some d ∧ ∀ l, d ≠ .interface l := by
  unfold concreteB at h
  cases hu : P.underlying T with
  | none => rw [hu] at h; cases h
  | some d =>
    refine ⟨d, rfl, ?_⟩
    rintro l rfl
    rw [hu] at h; cases h
theorem makeInterface_run {P : Program} {T : TypeId} (h : concreteB P T = true) (v : Value) (w : World) : (Instr.makeInterface T v).run P w = .ok (.iface T v) w := by
  obtain ⟨d, hu, hd⟩ := concreteB_under h
  unfold Instr.makeInterface
  simp only [Sem.run_bind, run_under hu, Result.andThen_ok]
  cases d <;> first | rfl | exact absurd rfl (hd _)
theorem typeAssert_run {P : Program} {T xT : TypeId} (h : concreteB P T = true) (v : Value) (w : World) : (Instr.typeAssert (.iface T v) xT T false).run P w = .ok v w := by
  obtain ⟨d, hu, hd⟩ := concreteB_under h
  unfold Instr.typeAssert
  simp only [Sem.run_bind, run_under hu, Result.andThen_ok]
  cases d <;> first | exact absurd rfl (hd _) | (simp only [if_true, Sem.run_pure, Bool.false_eq_true, if_false])
theorem calm_run {C : Ctx} (hC : C.Ok) {N : Nat} {E : Env} {a : Act} (hF : Fits N E a) {o : Oper} {tv : TV} (h : calm C E o.op = some tv) (hnc : ∀ c, o.op = .call c → softCall c = true) (w : World) :
    (execOp a.eval o).run C.P w = .ok (.value tv.v) w := by
  cases ho : o.op <;> rw [ho] at h <;> simp only [calm, reduceCtorEq] at h
  case move x => simp only [execOp, ho, Sem.run_pure, opd_fits hF h]
  case assign x => simp only [execOp, ho, Sem.run_pure, opd_fits hF h]
  case pick c x y =>
    obtain ⟨p, hp, h⟩ := opd1_some h
    cases hu : opd E x with
    | some u =>
      cases hv : opd E y with
      | some v =>
        rw [hu, hv] at h
        simp only [pick2] at h
        cases hcp : calmPick p u v with
        | some r =>
          rw [hcp] at h
          simp only [Option.some.injEq] at h
          subst h
          unfold calmPick at hcp
          split at hcp
          · simp only [Option.some.injEq] at hcp
            subst hcp
            simp only [execOp, ho, opd_fits hF hp, opd_fits hF hu, opd_fits hF hv, TV.v, inj, enc, List.headD_cons, asBool, Sem.run_bind, Sem.run_pure, Result.andThen_ok]
            rw [Bool.cond_eq_ite]
            split <;> rfl
          · cases hcp
        | none =>
          rw [hcp] at h
          simp only at h
          split at h
          · rename_i c
            cases c with
            | true =>
              simp only [cond_true, Option.some.injEq] at h
              subst h
              simp only [execOp, ho, opd_fits hF hp, opd_fits hF hu, TV.v, inj, enc, List.headD_cons, asBool, Sem.run_bind, Sem.run_pure, Result.andThen_ok, if_true]
            | false =>
              simp only [cond_false, Option.some.injEq] at h
              subst h
              simp only [execOp, ho, opd_fits hF hp, opd_fits hF hv, TV.v, inj, enc, List.headD_cons, asBool, Sem.run_bind, Sem.run_pure, Result.andThen_ok, Bool.false_eq_true, if_false]
          · cases h
      | none =>
        rw [hu, hv] at h
        simp only [pick2] at h
        split at h
        · rename_i c
          cases c with
          | false => cases h
          | true =>
            simp only [cond_true, Option.some.injEq] at h
            subst h
            simp only [execOp, ho, opd_fits hF hp, opd_fits hF hu, TV.v, inj, enc, List.headD_cons, asBool, Sem.run_bind, Sem.run_pure, Result.andThen_ok, if_true]
        · cases h
    | none =>
      cases hv : opd E y with
      | some v =>
        rw [hu, hv] at h
        simp only [pick2] at h
        split at h
        · rename_i c
          cases c with
          | true => cases h
          | false =>
            simp only [cond_false, Option.some.injEq] at h
            subst h
            simp only [execOp, ho, opd_fits hF hp, opd_fits hF hv, TV.v, inj, enc, List.headD_cons, asBool, Sem.run_bind, Sem.run_pure, Result.andThen_ok, Bool.false_eq_true, if_false]
        · cases h
      | none => rw [hu, hv] at h; cases h
  case binOp op T x y U =>
    obtain ⟨p, hp, h⟩ := opd1_some h
    obtain ⟨q, hq, h⟩ := opd1_some h
    simp only [execOp, ho, opd_fits hF hp, opd_fits hF hq]
    rw [Sem.run_bind, calmBin_run hC ?_ h w]
    · rfl
    · rintro v rfl
      simp only [opd, Option.some.injEq] at hq
      subst hq
      exact constTV_v v
  case makeInterface T x =>
    obtain ⟨p, hp, h⟩ := opd1_some h
    obtain ⟨hc, h⟩ := cond_some h
    rw [Option.some.injEq] at h
    subst h
    simp only [execOp, ho, opd_fits hF hp, Sem.run_bind, makeInterface_run hc, Result.andThen_ok, Sem.run_pure]
    rfl
  case typeAssert x xT T ok =>
    cases ok with
    | true => simp only [calm, reduceCtorEq] at h
    | false =>
      simp only [calm] at h
      obtain ⟨p, hp, h⟩ := opd1_some h
      split at h
      · rename_i i t y
        obtain ⟨hc, h⟩ := cond_some h
        rw [Option.some.injEq] at h
        subst h
        simp only [Bool.and_eq_true] at hc
        have hi : i = T := Nat.eq_of_beq_eq_true hc.1
        subst hi
        have hv : (⟨.ifc i t, y⟩ : TV).v = .iface i (TV.v ⟨t, y⟩) := rfl
        simp only [execOp, ho, opd_fits hF hp, hv, Sem.run_bind, typeAssert_run hc.2, Result.andThen_ok, Sem.run_pure]
      · cases h
  case unOp op T x =>
    obtain ⟨p, hp, h⟩ := opd1_some h
    simp only [execOp, ho, opd_fits hF hp, Sem.run_bind, calmUn_run h w, Result.andThen_ok, Sem.run_pure]
  case convert s d x =>
    obtain ⟨p, hp, h⟩ := opd1_some h
    simp only [execOp, ho, opd_fits hF hp, Sem.run_bind, calmConv_run h w, Result.andThen_ok, Sem.run_pure]
  case extract x i =>
    obtain ⟨p, hp, h⟩ := opd1_some h
    split at h
    · have := nth_enc _ _ _ _ h
      simp only [execOp, ho, opd_fits hF hp, Sem.run_bind, TV.v, inj, enc, List.headD_cons, Instr.extract, List.getElem?_toArray, this, Result.andThen_ok, Sem.run_pure]
    · cases h
  case field T x f =>
    obtain ⟨p, hp, h⟩ := opd1_some h
    simp only [execOp, ho, opd_fits hF hp, Sem.run_bind, calmField_run hC h w, Result.andThen_ok, Sem.run_pure]
  case fieldAddr T x f =>
    obtain ⟨p, hp, h⟩ := opd1_some h
    split at h
    · have := calmFieldAddr_run h w
      simp only [execOp, ho, opd_fits hF hp, Sem.run_bind, TV.v, inj, enc, List.headD_cons] at this ⊢
      rw [this]; rfl
    · cases h
  case nilCheck x =>
    obtain ⟨p, hp, h⟩ := opd1_some h
    split at h
    · simp only [Option.some.injEq] at h
      subst h
      simp only [execOp, ho, opd_fits hF hp, TV.v, inj, enc, List.headD_cons, Sem.run_pure]
    · cases h
  case makeFunc fn first captured =>
    simp only [execOp, ho, Sem.run_bind, calmFunc_run hF h w, Result.andThen_ok, Sem.run_pure]
  case call c =>
    have hs := hnc c ho
    unfold calmCall at h
    split at h
    · rename_i b hb
      split at h
      · rename_i l hl
        simp only [execOp, ho, resolve, hb, Sem.run_bind, Sem.run_pure, Result.andThen_ok, invoke, args_map hF hl]
        exact calmBuiltin_run h w _
      · cases h
    · rename_i f hf
      simp [softCall, hf] at hs
    · cases h
  case build T parts =>
    simp only [execOp, ho, Sem.run_bind, calmBuild_run hC hF h w, Result.andThen_ok, Sem.run_pure]
theorem calm_gives {C : Ctx} (hC : C.Ok) {N : Nat} {E : Env} {a : Act} (hF : Fits N E a) {o : Oper} {tv : TV} (h : calm C E o.op = some tv) : Gives C.P o a tv.v := by
  by_cases hc : ∃ c, o.op = .call c
  · obtain ⟨c, hc⟩ := hc
    rw [hc] at h
    exact calmCall_gives hC hF hc h
  · exact gives_value (calm_run hC hF h fun c hcc => absurd ⟨c, hcc⟩ hc)
end Go.Sh
