/-
  A whole function, off its text; and what callers may lean on.
-/
import Derived.Test.YtckfidopkajpaaaShH
import Derived.Laws.StructEq
import Derived.KernelRfl
set_option linter.unusedVariables false
set_option linter.unusedSimpArgs false
namespace Go.Sh
set_option linter.unusedVariables false

def argDl : Nat → List TV → List (Nat × Option TV)
  | _, [] => []
  | i, tv :: l => (i, some tv) :: argDl (i + 1) l
def argEnv (l : List TV) : Env := { base := (fun _ => some ⟨.val, undef⟩, []), dl := argDl 0 l, dfs := [] }
def resM {ρ : Type} (C : Ctx) (E : Env) : List ResultVar → (List TV → M ρ) → M ρ
  | [], k => k []
  | .tmp t :: l, k => match E.get t with
    | some tv => resM C E l fun r => k (tv :: r)
    | none => fail
  | .cell a T :: l, k => match E.get a, C.ty T with
    | some av, some t => adrM av fun p => bnd (ld t p) fun x => resM C E l fun r => k (⟨t, x⟩ :: r)
    | _, _ => fail
def finM (tr : Ty) (l : List TV) : M tr.den := match l with
  | [tv] => optM (castTo tr tv.t tv.x)
  | l => bif l.all (fun tv => tv.t.one) then optM (castTo tr (.tup (tupOf l).t) (tupOf l).x) else fail
/-- What was put off is done. -/
def runDf {ρ : Type} (C : Ctx) : List Df → M ρ → M ρ
  | [], m => m
  | .call f l :: r, m => match C.df f with
    | some fs => match castArgs fs.ts l with
      | some x => bnd (fs.F x) fun _ => runDf C r m
      | none => fail
    | none => fail
  | .coll D :: r, m => bnd (takeM C.P D) fun _ => runDf C r m
/-- What a function computes. -/
noncomputable def evF (C : Ctx) (fn : Func) (N : Nat) (ts tr : Ty) (ann : Ann) (x : ts.den) : M tr.den := match fn.body with
  | some c => bif Nat.beq fn.ntmps N && Nat.ble (untup ts x).length N && (untup ts x).all (fun tv => tv.t.one) then
      ev C N ann c (argEnv (untup ts x)) fun e E => match e with
        | .normal => runDf C E.dfs (resM C E fn.results.toList (finM tr))
        | .ret => runDf C E.dfs (resM C E fn.results.toList (finM tr))
        | _ => fail
    else fail
  | none => fail
/-- What a function computes that puts nothing off. -/
noncomputable def evF0 (C : Ctx) (fn : Func) (N : Nat) (ts tr : Ty) (ann : Ann) (x : ts.den) : M tr.den := match fn.body with
  | some c => bif Nat.beq fn.ntmps N && Nat.ble (untup ts x).length N && (untup ts x).all (fun tv => tv.t.one) then
      ev C N ann c (argEnv (untup ts x)) fun e E => match e with
        | .normal => bif E.dfs.isEmpty then resM C E fn.results.toList (finM tr) else fail
        | .ret => bif E.dfs.isEmpty then resM C E fn.results.toList (finM tr) else fail
        | _ => fail
    else fail
  | none => fail
theorem look_args (b : Nat → Option TV) : ∀ (l : List TV) (n i : Nat), look b i (argDl n l) = if n ≤ i ∧ i < n + l.length then l[i - n]? else b i
  | [], n, i => by simp [argDl, look]; omega
  | tv :: l, n, i => by
    simp only [argDl, look]
    by_cases h : i = n
    · subst h; simp
    · rw [beq_ne h, cond_false, look_args b l (n + 1) i]
      by_cases h1 : n + 1 ≤ i ∧ i < n + 1 + l.length
      · rw [if_pos h1, if_pos (by simp; omega)]
        have : i - n = i - (n + 1) + 1 := by omega
        rw [this, List.getElem?_cons_succ]
      · rw [if_neg h1, if_neg (by simp; omega)]
theorem argEnv_fits {N : Nat} (l : List TV) (h : l.length ≤ N) :
    Fits N (argEnv l) { tmps := (l.map TV.v).toArray ++ Array.replicate (N - (l.map TV.v).toArray.size) undef, defers := [] } := by
  refine ⟨by simp; omega, rfl, fun i tv hi => ?_⟩
  simp only [Env.get, argEnv, look_args, Nat.zero_le, true_and, Nat.zero_add, Nat.sub_zero] at hi
  split at hi
  · rename_i hlt
    rw [Array.getD_eq_getD_getElem?, Array.getElem?_append_left (by simpa using hlt)]
    simp [hi]
  · rename_i hge
    simp only [Option.some.injEq] at hi
    subst hi
    rw [Array.getD_eq_getD_getElem?, Array.getElem?_append_right (by simp; omega)]
    simp only [Array.getElem?_replicate]
    split <;> rfl
def resRun (tmps : Array Value) : ResultVar → Sem Value
  | .tmp t => pure (tmps.getD t undef)
  | .cell a t => do loadVar t (← asAddr (tmps.getD a undef))
theorem results_eq (fn : Func) (tmps : Array Value) : results fn tmps = (do
    let vs ← fn.results.mapM (resRun tmps)
    pure (if h : vs.size = 1 then vs[0] else .tuple vs)) := by
  unfold results
  congr 2
section
variable {C : Ctx} {N : Nat}
theorem resM_run (hC : C.Ok) {E : Env} {a : Act} (hF : Fits N E a) : ∀ (l : List ResultVar) {ρ : Type} (k : List TV → M ρ) (w : World) (r : ρ × World), resM C E l k w = some r →
    ∃ tvs, k tvs w = some r ∧ (l.mapM (resRun a.tmps)).run C.P w = .ok (tvs.map TV.v) w
  | [], ρ, k, w, r, h => ⟨[], h, rfl⟩
  | .tmp t :: l, ρ, k, w, r, h => by
    simp only [resM] at h
    cases ht : E.get t with
    | none => simp only [ht] at h; cases h
    | some tv =>
      simp only [ht] at h
      obtain ⟨tvs, h1, h2⟩ := resM_run hC hF l _ w r h
      refine ⟨tv :: tvs, h1, ?_⟩
      simp only [List.mapM_cons, resRun, Sem.run_bind, Sem.run_pure, Result.andThen_ok, h2, hF.get _ _ ht, List.map_cons]
  | .cell c T :: l, ρ, k, w, r, h => by
    simp only [resM] at h
    cases hc : E.get c with
    | none => simp only [hc] at h; cases h
    | some av =>
      cases ht : C.ty T with
      | none => simp only [hc, ht] at h; cases h
      | some t =>
        simp only [hc, ht] at h
        obtain ⟨p, hp, h⟩ := adrM_some h
        simp only [bnd_some] at h
        obtain ⟨x, w1, h3, h4⟩ := h
        obtain ⟨rfl, hr⟩ := ld_run hC ht h3
        obtain ⟨tvs, h1, h2⟩ := resM_run hC hF l _ w1 r h4
        refine ⟨⟨t, x⟩ :: tvs, h1, ?_⟩
        have he : (resRun a.tmps (.cell c T)).run C.P w1 = .ok (inj t x) w1 := by
          simp only [resRun, Sem.run_bind, hF.get _ _ hc, hp, asAddr, Sem.run_pure, Result.andThen_ok, hr]
        simp only [List.mapM_cons, Sem.run_bind, he, Sem.run_pure, Result.andThen_ok, h2, List.map_cons]
        rfl
theorem finM_val {tr : Ty} {l : List TV} {w w' : World} {y : tr.den} (h : finM tr l w = some (y, w')) :
    w' = w ∧ (if h : (l.map TV.v).toArray.size = 1 then (l.map TV.v).toArray[0] else .tuple (l.map TV.v).toArray) = inj tr y := by
  unfold finM at h
  change Runs _ _ _ at h
  split at h
  · rename_i tv
    obtain ⟨h1, rfl⟩ := optM_some.1 h
    exact ⟨rfl, by simp [castTo_inj h1, TV.v]⟩
  · rename_i hne
    cases hall : l.all (fun tv => tv.t.one) with
    | false => rw [hall] at h; cases h
    | true =>
      simp only [hall, cond_true] at h
      obtain ⟨h1, rfl⟩ := optM_some.1 h
      refine ⟨rfl, ?_⟩
      have hl : ¬ (l.map TV.v).toArray.size = 1 := by
        simp only [List.size_toArray, List.length_map]
        intro hl
        cases l with
        | nil => cases hl
        | cons tv l' => cases l' with
          | nil => exact hne tv rfl
          | cons _ _ => simp at hl
      rw [dif_neg hl, castTo_inj h1]
      simp only [inj, enc, List.headD_cons, tupOf_enc l hall]
/-- What a body must achieve, calls put off, marks and all. -/
def postW (n : Nat) (P : Program) (fn : Func) (R : Ending → World → Prop) : Exit → Act → World → Prop
  | .normal, a, w | .ret, a, w => LeavesInM Fence.wide n P fn a.tmps R a.defers .returning w
  | _, _, _ => False
theorem calls_of_wpB {P : Program} {f : FuncId} {fn : Func} {c : Code} {args : Array Value} {w : World} {R : Ending → World → Prop} {n : Nat}
    (hf : P.funcs[f]? = some fn) (hb : fn.body = some c)
    (h : WpB P { (default : Frame) with fn := f, kind := .normal } c (postW n P fn R) { tmps := args ++ Array.replicate (fn.ntmps - args.size) undef, defers := [] } w) :
    Calls P f args w R := by
  intro cs
  let b : Frame := { (default : Frame) with fn := f, kind := .normal }
  have henter : Frame.enter P f args .normal =
      b.at { tmps := args ++ Array.replicate (fn.ntmps - args.size) undef, defers := [] } [.code c] := by
    simp [Frame.enter, Frame.at, hf, hb, b]
  obtain ⟨e, a', w', hq, harr⟩ := h [] cs
  rw [← henter] at harr
  cases e with
  | normal =>
    obtain ⟨e', w'', fr', hR, hs, hfn, hl⟩ := leaves_stepsInM (F := Fence.wide) a'.defers .returning w' { b.at a' [] with mode := .returning } cs rfl rfl rfl hf rfl trivial (room_wide _) hq
    exact ⟨e', w'', fr', hR, Comes.of_steps (Steps.trans harr (.one step_end)) hs.comes, hfn, hl⟩
  | ret =>
    obtain ⟨todo, hs₀⟩ := harr
    obtain ⟨e', w'', fr', hR, hs, hfn, hl⟩ := leaves_stepsInM (F := Fence.wide) a'.defers .returning w' { b.at a' todo with mode := .returning } cs rfl rfl rfl hf rfl trivial (room_wide _) hq
    exact ⟨e', w'', fr', hR, Comes.of_steps hs₀ hs.comes, hfn, hl⟩
  | _ => exact hq.elim
theorem callsD_of_wpB {P : Program} {f : FuncId} {fn : Func} {c : Code} {args : Array Value} {u : FrameMode} {w : World} {R : Ending → World → Prop} {n : Nat}
    (hf : P.funcs[f]? = some fn) (hb : fn.body = some c)
    (h : WpB P { (default : Frame) with fn := f, kind := .deferred } c (bodyPost P fn R) { tmps := args ++ Array.replicate (fn.ntmps - args.size) undef, defers := [] } w) :
    CallsDIn Fence.wide n P f args u w fun e u' w' => u' = u ∧ R e w' := by
  refine ⟨trivial, fun c₀ cs hu hr => ?_⟩
  let b : Frame := { (default : Frame) with fn := f, kind := .deferred }
  have henter : Frame.enter P f args .deferred =
      b.at { tmps := args ++ Array.replicate (fn.ntmps - args.size) undef, defers := [] } [.code c] := by
    simp [Frame.enter, Frame.at, hf, hb, b]
  have hc : ({ c₀ with mode := u } : Frame) = c₀ := by subst hu; rfl
  obtain ⟨e, a', w', hq, harr⟩ := h [] (c₀ :: cs)
  rw [← henter] at harr
  cases e with
  | normal =>
    obtain ⟨hd, v, hr, hR⟩ := hq
    exact ⟨.returned v, u, w', _, ⟨rfl, hR⟩, comesIn_wide.2 (by rw [hc]; exact Steps.trans harr (.one step_end)), rfl, rfl, rfl, hd, fn, hf, hr⟩
  | ret =>
    obtain ⟨hd, v, hr, hR⟩ := hq
    obtain ⟨todo, hs⟩ := harr
    exact ⟨.returned v, u, w', _, ⟨rfl, hR⟩, comesIn_wide.2 (by rw [hc]; exact hs), rfl, rfl, rfl, hd, fn, hf, hr⟩
  | panic chain =>
    obtain ⟨hd, hR⟩ := hq
    obtain ⟨todo, hs⟩ := harr
    exact ⟨.panicked chain, u, w', _, ⟨rfl, hR⟩, comesIn_wide.2 (by rw [hc]; exact hs), rfl, rfl, rfl, hd, fn, hf⟩
  | exit id => exact hq.elim
  | goto l => exact hq.elim
  | outgrown => exact ⟨.outgrown, u, w', b, ⟨rfl, hq⟩, harr.resolve_left (by simp [b]), rfl, rfl, trivial⟩
theorem runDf_leaves (hC : C.Ok) {ρ : Type} {m : M ρ} {r : ρ × World} {n : Nat} {fn : Func} {tmps : Array Value} {R : Ending → World → Prop} (hm : ∀ w1, m w1 = some r → ∃ v, (results fn tmps).run C.P w1 = .ok v w1 ∧ R (.returned v) w1) :
    ∀ (ds : List Df) (w : World), runDf C ds m w = some r → LeavesInM Fence.wide n C.P fn tmps R (ds.map Df.v) .returning w
  | [], w, h => hm w h
  | .coll D :: ds, w, h => by
    simp only [runDf, bnd_some] at h
    obtain ⟨_, w1, h1, h2⟩ := h
    simp only [takeM, bnd_some] at h1
    obtain ⟨l, w2, h3, h4⟩ := h1
    cases l with
    | nil =>
      obtain ⟨rfl, rfl⟩ := ret_some.1 h4
      exact ⟨by simp, .inl ⟨D, _, rfl, semM_some h3, runDf_leaves hC hm ds _ h2⟩⟩
    | cons d l => cases h4
  | .call f l :: ds, w, h => by
    simp only [runDf] at h
    change Runs _ _ _ at h
    split at h
    · rename_i fs hfs
      split at h
      · rename_i x hx
        simp only [bnd_some] at h
        obtain ⟨y, w1, h1, h2⟩ := h
        obtain ⟨hcal, hsnd⟩ := hC.df _ _ hfs
        refine ⟨by simp, .inr ⟨fun h => (by simp [Fence.wide] at h), .func f, #[], f, _, rfl, (by simp only [Df.v, invoke]; exact callFunc_run hcal _ w), fun _ _ => trivial, ?_⟩⟩
        have := hsnd x w y w1 h1 .returning (by simp) (n - 1)
        rw [castArgs_enc _ _ _ hx] at this
        simp only [Df.v, Array.append_empty]
        refine this.mono ?_
        rintro e u' w' ⟨rfl, rfl, rfl⟩
        exact runDf_leaves hC hm ds _ h2
      · cases h
    · cases h
theorem res_fin (hC : C.Ok) {E1 : Env} {a1 : Act} (hF1 : Fits N E1 a1) {fn : Func} {tr : Ty} {w1 w' : World} {y : tr.den} (h2 : resM C E1 fn.results.toList (finM tr) w1 = some (y, w')) :
    ∃ v, (results fn a1.tmps).run C.P w1 = .ok v w1 ∧ (Ending.returned v = .returned (inj tr y) ∧ w1 = w') := by
  obtain ⟨tvs, h3, h4⟩ := resM_run hC hF1 _ _ _ _ h2
  obtain ⟨rfl, h5⟩ := finM_val h3
  refine ⟨inj tr y, ?_, rfl, rfl⟩
  rw [results_eq, Array.mapM_eq_mapM_toList]
  simp only [Sem.run_bind, Sem.run_map, h4, Result.andThen_ok, Sem.run_pure, h5]
theorem evF_wp (hC : C.Ok) {f : FuncId} {fn : Func} {ts tr : Ty} {ann : Ann} {x : ts.den} {w w' : World} {y : tr.den} {b : Frame} (hbf : b.fn = f)
    (h : evF C fn N ts tr ann x w = some (y, w')) (hown : ann.own f = true) : ∃ c, fn.body = some c ∧ WpB C.P b c (fun e a1 w1 => (e = .normal ∨ e = .ret) ∧ ∃ E1, Fits N E1 a1 ∧ E1.base.2 = [] ∧ runDf C E1.dfs (resM C E1 fn.results.toList (finM tr)) w1 = some (y, w')) { tmps := (enc ts false x).toArray ++ Array.replicate (fn.ntmps - (enc ts false x).toArray.size) undef, defers := [] } w := by
  unfold evF at h
  change Runs _ _ _ at h
  split at h
  · rename_i c hb
    cases hn : (Nat.beq fn.ntmps N && Nat.ble (untup ts x).length N && (untup ts x).all (fun tv => tv.t.one)) with
    | false => rw [hn] at h; cases h
    | true =>
      simp only [hn, cond_true] at h
      simp only [Bool.and_eq_true] at hn
      obtain ⟨⟨hN, hle⟩, hall⟩ := hn
      have hN := Nat.eq_of_beq_eq_true hN
      have hle := Nat.le_of_ble_eq_true hle
      have henc : (untup ts x).map TV.v = enc ts false x := by
        rcases untup_enc ts x with h | ⟨tv, h1, h2⟩
        · exact h
        · have := List.all_eq_true.1 hall tv h1; rw [this] at h2; cases h2
      have hF := argEnv_fits (N := N) _ hle
      rw [henc] at hF
      refine ⟨c, hb, ?_⟩
      rw [hN]
      refine ev_wp hC b ann c _ _ w (y, w') _ _ h hF (fun e E1 a1 w1 hbs hF1 h1 => ?_) (by rw [hbf]; exact hown)
      have hb2 : E1.base.2 = [] := by rw [hbs]; rfl
      cases e with
      | normal => exact ⟨.inl rfl, E1, hF1, hb2, h1⟩
      | ret => exact ⟨.inr rfl, E1, hF1, hb2, h1⟩
      | _ => cases h1
  · cases h
theorem evF_calls (hC : C.Ok) {f : FuncId} {fn : Func} (hf : C.P.funcs[f]? = some fn) {ts tr : Ty} {ann : Ann} {x : ts.den} {w w' : World} {y : tr.den}
    (h : evF C fn N ts tr ann x w = some (y, w')) (hown : ann.own f = true) : Calls C.P f (enc ts false x).toArray w fun e w'' => e = .returned (inj tr y) ∧ w'' = w' := by
  obtain ⟨c, hb, hw⟩ := evF_wp hC (b := { (default : Frame) with fn := f, kind := .normal }) rfl h hown
  refine calls_of_wpB (n := 0) hf hb (hw.mono fun e a1 w1 ⟨he, E1, hF1, hb2, h1⟩ => ?_)
  have key : LeavesInM Fence.wide 0 C.P fn a1.tmps (fun e w'' => e = .returned (inj tr y) ∧ w'' = w') a1.defers .returning w1 := by
    rw [hF1.defers, hb2, List.append_nil]
    refine runDf_leaves hC (fun w2 h2 => ?_) _ _ h1
    obtain ⟨v, h3, h4, h5⟩ := res_fin hC hF1 h2
    exact ⟨v, h3, h4, h5⟩
  rcases he with rfl | rfl
  · exact key
  · exact key
/-- A function that puts nothing off, put off. -/
theorem evF_callsD (hC : C.Ok) {f : FuncId} {fn : Func} (hf : C.P.funcs[f]? = some fn) {ts tr : Ty} {ann : Ann} {x : ts.den} {w w' : World} {y : tr.den}
    (h : evF0 C fn N ts tr ann x w = some (y, w')) (hown : ann.own f = true) (u : FrameMode) (n : Nat) :
    CallsDIn Fence.wide n C.P f (enc ts false x).toArray u w fun e u' w'' => u' = u ∧ e = .returned (inj tr y) ∧ w'' = w' := by
  unfold evF0 at h
  change Runs _ _ _ at h
  split at h
  · rename_i c hb
    cases hn : (Nat.beq fn.ntmps N && Nat.ble (untup ts x).length N && (untup ts x).all (fun tv => tv.t.one)) with
    | false => rw [hn] at h; cases h
    | true =>
      simp only [hn, cond_true] at h
      simp only [Bool.and_eq_true] at hn
      obtain ⟨⟨hN, hle⟩, hall⟩ := hn
      have hN := Nat.eq_of_beq_eq_true hN
      have hle := Nat.le_of_ble_eq_true hle
      have henc : (untup ts x).map TV.v = enc ts false x := by
        rcases untup_enc ts x with h | ⟨tv, h1, h2⟩
        · exact h
        · have := List.all_eq_true.1 hall tv h1; rw [this] at h2; cases h2
      have hF := argEnv_fits (N := N) _ hle
      rw [henc] at hF
      refine callsD_of_wpB (R := fun e w'' => e = .returned (inj tr y) ∧ w'' = w') hf hb ?_
      rw [hN]
      refine ev_wp hC _ ann c _ _ w (y, w') _ _ h hF (fun e E1 a1 w1 hbs hF1 h1 => ?_) hown
      have hb2 : E1.base.2 = [] := by rw [hbs]; rfl
      have fin : (bif E1.dfs.isEmpty then resM C E1 fn.results.toList (finM tr) else fail) w1 = some (y, w') → a1.defers = [] ∧ ∃ v, (results fn a1.tmps).run C.P w1 = .ok v w1 ∧ (Ending.returned v = .returned (inj tr y) ∧ w1 = w') := by
        intro h2
        obtain ⟨h3, h4⟩ := cond_run h2
        rw [List.isEmpty_iff] at h3
        exact ⟨by rw [hF1.defers, hb2, h3]; rfl, res_fin hC hF1 h4⟩
      cases e with
      | normal => exact fin h1
      | ret => exact fin h1
      | _ => cases h1
  · cases h
end

/-! ### What callers may lean on -/
def SoundF (P : Program) (f : FuncId) (fs : FnT) : Prop := callable P f ∧ ∀ x w y w', fs.F x w = some (y, w') →
    Calls P f (enc fs.ts false x).toArray w fun e w'' => e = .returned (inj fs.tr y) ∧ w'' = w'
def SoundP (P : Program) (f : FuncId) (ps : PS) : Prop := callable P f ∧ ∀ x w,
    Calls P f (enc ps.ts false x).toArray w fun e w'' => e = .returned (inj ps.tr (ps.F x)) ∧ w'' = w
def findN {α : Type} (i : Nat) : List (Nat × α) → Option α
  | [] => none
  | (j, x) :: l => bif Nat.beq i j then some x else findN i l
def AllN {α : Type} (p : Nat → α → Prop) : List (Nat × α) → Prop
  | [] => True
  | (j, x) :: l => p j x ∧ AllN p l
theorem AllN.find {α : Type} {p : Nat → α → Prop} {i : Nat} {x : α} : ∀ {l : List (Nat × α)}, AllN p l → findN i l = some x → p i x
  | [], _, h => by cases h
  | (j, y) :: l, hp, h => by
    simp only [findN] at h
    by_cases hij : i = j
    · subst hij
      simp only [Nat.beq_refl, cond_true, Option.some.injEq] at h
      subst h
      exact hp.1
    · rw [beq_ne hij, cond_false] at h
      exact AllN.find hp.2 h
def mkC (P : Program) (ty : List (Nat × Ty)) (zero : List (Nat × TV)) (eq : List (Nat × Ty)) (fn : List (Nat × FnT)) (pf : List (Nat × PS)) : Ctx :=
  { P := P, ty := fun T => findN T ty, zero := fun T => findN T zero, eq := fun T => findN T eq, fn := fun f => findN f fn, alt := fun _ => [], pf := fun f => findN f pf, df := fun _ => none, rf := fun _ => none, yl := none }
theorem mkC_ok {P : Program} {ty : List (Nat × Ty)} {zero : List (Nat × TV)} {eq : List (Nat × Ty)} {fn : List (Nat × FnT)} {pf : List (Nat × PS)}
    (h0 : P.follows .mixedOrders = true) (h1 : AllN (fun T t => tyFitsB P T t = true) ty) (h2 : AllN (fun T (z : TV) => ∃ i, P.info? T = some i ∧ i.zero = some z.v) zero)
    (h5 : AllN (EqOk P) eq) (h3 : AllN (SoundF P) fn) (h4 : AllN (SoundP P) pf) : (mkC P ty zero eq fn pf).Ok :=
  ⟨fun _ _ h => (by cases h), fun _ _ h => (by cases h), fun _ h => (by cases h), fun _ _ h => h5.find h, h0, fun _ _ h => h1.find h, fun _ _ h => h2.find h, fun _ _ h => h3.find h, fun _ _ h => h4.find h, fun _ _ h => (by cases h)⟩
theorem soundF_of {C : Ctx} (hC : C.Ok) {f : FuncId} {fn : Func} (hf : C.P.funcs[f]? = some fn) (hname : (fn.name == "runtime.NumGoroutine") = false) (hbody : fn.body.isNone = false)
    {N : Nat} {ts tr : Ty} {ann : Ann} {F : ts.den → M tr.den} (h : ∀ x, evF C fn N ts tr ann x = F x) (hown : ann.own f = true := by kernel_rfl) : SoundF C.P f ⟨ts, tr, F⟩ :=
  ⟨⟨fn, hf, hname, hbody⟩, fun x w y w' hx => evF_calls (N := N) hC hf (by rw [h x]; exact hx) hown⟩
/-- With calls put off, and functions that are ranged over. -/
def Ctx.with (C : Ctx) (df : List (Nat × FnT)) (rf : List (Nat × RS)) : Ctx := { C with df := fun f => findN f df, rf := fun f => findN f rf }
theorem with_ok {C : Ctx} (hC : C.Ok) {df : List (Nat × FnT)} {rf : List (Nat × RS)} (h1 : AllN (SoundD C.P) df) (h2 : AllN (SoundR C.P) rf) : (C.with df rf).Ok :=
  ⟨fun _ _ h => h1.find h, fun _ _ h => h2.find h, hC.yl, hC.eq, hC.mixed, hC.ty, hC.zero, hC.fn, hC.pf, hC.alt⟩
/-- With a function known in several ways. -/
def findL {α : Type} (i : Nat) : List (Nat × α) → List α
  | [] => []
  | (j, x) :: l => bif Nat.beq i j then x :: findL i l else findL i l
theorem AllN.findL {α : Type} {p : Nat → α → Prop} {i : Nat} {x : α} : ∀ {l : List (Nat × α)}, AllN p l → x ∈ findL i l → p i x
  | [], _, h => by cases h
  | (j, y) :: l, hp, h => by
    unfold Go.Sh.findL at h
    by_cases hij : i = j
    · subst hij
      simp only [Nat.beq_refl, cond_true, List.mem_cons] at h
      rcases h with rfl | h
      · exact hp.1
      · exact AllN.findL hp.2 h
    · rw [beq_ne hij, cond_false] at h
      exact AllN.findL hp.2 h
def Ctx.withAlt (C : Ctx) (al : List (Nat × FnT)) : Ctx := { C with alt := fun f => findL f al }
theorem withAlt_ok {C : Ctx} (hC : C.Ok) {al : List (Nat × FnT)} (h : AllN (SoundF C.P) al) : (C.withAlt al).Ok :=
  ⟨hC.df, hC.rf, hC.yl, hC.eq, hC.mixed, hC.ty, hC.zero, hC.fn, hC.pf, fun _ _ hm => h.findL hm⟩
theorem soundD_of {C : Ctx} (hC : C.Ok) {f : FuncId} {fn : Func} (hf : C.P.funcs[f]? = some fn) (hname : (fn.name == "runtime.NumGoroutine") = false) (hbody : fn.body.isNone = false)
    {N : Nat} {ts tr : Ty} {ann : Ann} {F : ts.den → M tr.den} (h : ∀ x, evF0 C fn N ts tr ann x = F x) (hown : ann.own f = true := by kernel_rfl) : SoundD C.P f ⟨ts, tr, F⟩ :=
  ⟨⟨fn, hf, hname, hbody⟩, fun x w y w' hx u _ n => evF_callsD (N := N) hC hf (by rw [h x]; exact hx) hown u n⟩
theorem soundR_of {C : Ctx} (hC : C.Ok) {f : FuncId} {fn : Func} (hf : C.P.funcs[f]? = some fn) (hname : (fn.name == "runtime.NumGoroutine") = false) (hbody : fn.body.isNone = false)
    {N : Nat} {ta ts : Ty} {ann : Ann} {F : (ta.den → M Bool) → ts.den → M Unit} (h : ∀ (Y : Nat → ta.den → M Bool) (l : Nat) (x : ts.den), evF { C with yl := some ⟨ta, Y⟩ } fn N (.pair ts .yld) (.tup .unit) ann (x, l) = F (Y l) x) (hown : ann.own f = true := by kernel_rfl) : SoundR C.P f ⟨ta, ts, F⟩ := by
  refine ⟨⟨fn, hf, hname, hbody⟩, fun l B hB x w w' hx => ?_⟩
  have hY : ∃ Y : Nat → ta.den → M Bool, Y l = B ∧ ∀ l' z w r w', Y l' z w = some (r, w') → YieldDoes C.P l' (enc ta false z).toArray w r w' := by
    refine ⟨fun l' z => if l' = l then B z else fail, by funext z; simp, fun l' z w r w' hy => ?_⟩
    by_cases e : l' = l
    · subst e; simp only [if_true] at hy; exact hB _ _ _ _ hy
    · simp only [e, if_false] at hy; cases hy
  obtain ⟨Y, h1, h2⟩ := hY
  have hC' : ({ C with yl := some ⟨ta, Y⟩ } : Ctx).Ok := ⟨hC.df, hC.rf, fun ys hys => (by simp only [Option.some.injEq] at hys; subst hys; exact h2), hC.eq, hC.mixed, hC.ty, hC.zero, hC.fn, hC.pf, hC.alt⟩
  have := evF_calls (C := { C with yl := some ⟨ta, Y⟩ }) (N := N) hC' hf (ts := .pair ts .yld) (tr := .tup .unit) (ann := ann) (x := (x, l)) (w := w) (w' := w') (y := ()) (by rw [h Y l x, h1]; exact hx) hown
  have e : (enc (ts.pair Ty.yld) false (x, l)).toArray = (enc ts false x).toArray ++ #[Value.func (.yield l) #[] #[]] := by simp [enc]
  rw [e] at this
  exact this.mono fun e w'' h3 => ⟨⟨_, h3.1⟩, h3.2⟩
theorem soundP_of {P : Program} {f : FuncId} {fs : FnT} (h : SoundF P f fs) {G : fs.ts.den → fs.tr.den} (hG : ∀ x, fs.F x = ret (G x)) : SoundP P f ⟨fs.ts, fs.tr, G⟩ :=
  ⟨h.1, fun x w => h.2 x w (G x) w (by rw [hG x]; rfl)⟩

/-! ### Structs of numbers, truths and texts are equal part by part -/
def plainField (P : Program) (f : Field) (a : Ty) (off : Nat) : Bool := f.offset == off && f.name != "_" && (match a, P.underlying f.type with
  | .int _, some (.int _) => true
  | .bool, some .bool => true
  | .str, some .string => true
  | _, _ => false)
def plainFields (P : Program) : List Field → Ty → Nat → Bool
  | [f], a, off => plainField P f a off
  | f :: g :: l, .pair a b, off => plainField P f a off && plainFields P (g :: l) b (off + a.size)
  | _, _, _ => false
def plainEq (P : Program) (T : TypeId) (t : Ty) : Bool := (match P.underlying T with
  | some (.struct fs) => plainFields P fs.toList t 0
  | _ => false) && !P.stoodInHeld T && !P.eqGuardType P.depth T
theorem part_at {P : Program} {T : TypeId} {d : TypeDesc} (hu : P.underlying T = some d) (hd : isAggD d = false) (pre l : List Value) (v : Value) (n : Nat) (hn : n = pre.length) (w : World) :
    (part T (pre ++ v :: l).toArray n).run P w = .ok v w := by
  subst hn
  simp [part, run_isAgg hu, hd]
theorem eqField {P : Program} {f : Field} {a : Ty} {off : Nat} (h : plainField P f a off = true) (d : Nat) (x y : a.den) (w : World) (p q l m : List Value) (hp : off = p.length) (hq : off = q.length) :
    f.name ≠ "_" ∧ ∃ u v, (part f.type (p ++ (enc a true x ++ l)).toArray f.offset).run P w = .ok u w ∧ (part f.type (q ++ (enc a true y ++ m)).toArray f.offset).run P w = .ok v w ∧
      (Op.equalIn (d + 1) f.type u v).run P w = .ok (eqTV a x y) w := by
  simp only [plainField, Bool.and_eq_true, beq_iff_eq, bne_iff_ne] at h
  obtain ⟨⟨h1, h2⟩, h3⟩ := h
  refine ⟨h2, ?_⟩
  rw [h1]
  cases hu : P.underlying f.type with
  | none => rw [hu] at h3; cases a <;> cases h3
  | some e =>
    rw [hu] at h3
    cases a <;> (try (cases h3; done)) <;> cases e <;> (try (cases h3; done))
    case int.int k k' =>
      exact ⟨_, _, part_at hu rfl p l _ off hp w, part_at hu rfl q m _ off hq w, run_equalIn_int w d f.type k _ x y hu⟩
    case bool.bool =>
      exact ⟨_, _, part_at hu rfl p l _ off hp w, part_at hu rfl q m _ off hq w, run_equalIn_bool' w d f.type x y hu⟩
    case str.string =>
      exact ⟨_, _, part_at hu rfl p l _ off hp w, part_at hu rfl q m _ off hq w, run_equalIn_string w d f.type x y hu⟩
theorem eqFields_run {P : Program} (d : Nat) (w : World) : ∀ (fs : List Field) (t : Ty) (off : Nat) (x y : t.den) (p q : List Value), plainFields P fs t off = true → off = p.length → off = q.length →
    (Op.eqFields (d + 1) (p ++ enc t true x).toArray (q ++ enc t true y).toArray fs).run P w = .ok (eqTV t x y) w
  | [], t, off, x, y, p, q, h, _, _ => by simp [plainFields] at h
  | [f], t, off, x, y, p, q, h, hp, hq => by
    simp only [plainFields] at h
    obtain ⟨h1, u, v, h2, h3, h4⟩ := eqField h d x y w p q [] [] hp hq
    rw [List.append_nil] at h2 h3
    simp only [Op.eqFields, h1, ne_eq, not_false_eq_true, if_true, Sem.run_bind, h2, h3, h4, Result.andThen_ok]
    cases eqTV t x y <;> rfl
  | f :: g :: l, t, off, x, y, p, q, h, hp, hq => by
    cases t <;> simp only [plainFields, Bool.false_eq_true] at h
    rename_i a b
    simp only [Bool.and_eq_true] at h
    obtain ⟨h1, u, v, h2, h3, h4⟩ := eqField h.1 d x.1 y.1 w p q (enc b true x.2) (enc b true y.2) hp hq
    have ih := eqFields_run d w (g :: l) b (off + a.size) x.2 y.2 (p ++ enc a true x.1) (q ++ enc a true y.1) h.2 (by simp [enc_length, hp]) (by simp [enc_length, hq])
    rw [List.append_assoc, List.append_assoc] at ih
    rw [Op.eqFields]
    simp only [h1, ne_eq, not_false_eq_true, if_true, Sem.run_bind, enc, h2, h3, h4, Result.andThen_ok, eqTV]
    cases eqTV a x.1 y.1 with
    | false => rfl
    | true =>
      simp only [Bool.not_true, Bool.false_eq_true, if_false, Bool.true_and]
      exact ih
theorem eqOk_of {P : Program} {T : TypeId} {t : Ty} (h : plainEq P T t = true) : EqOk P T t := by
  intro u v x y w
  simp only [plainEq, Bool.and_eq_true, Bool.not_eq_true'] at h
  obtain ⟨⟨h1, h2⟩, h3⟩ := h
  split at h1
  · rename_i fs hu
    have hfs : P.fieldsOf T = fs := by simp [Program.fieldsOf, hu]
    have he : ∀ w, (Op.equal T (.agg (enc t true x).toArray) (.agg (enc t true y).toArray)).run P w = .ok (eqTV t x y) w := fun w => by
      rw [Op.equal, show Op.maxDepth = (9998 + 1) + 1 from rfl, run_equalIn_struct w _ T _ _ (by rw [hfs]; exact hu) h2, hfs]
      exact eqFields_run 9998 w fs.toList t 0 x y [] [] h1 rfl rfl
    have hg1 : (eqGuard .eql T u v (.agg (enc t true x).toArray) (.agg (enc t true y).toArray)).run P w = .ok () w := by
      simp [eqGuard, h3]
    have hg2 : (eqGuard .neq T u v (.agg (enc t true x).toArray) (.agg (enc t true y).toArray)).run P w = .ok () w := by
      simp [eqGuard, h3]
    have e1 : binOp .eql T (.agg (enc t true x).toArray) (.agg (enc t true y).toArray) = (do pure (.bool (← Op.equal T (.agg (enc t true x).toArray) (.agg (enc t true y).toArray)))) := rfl
    have e2 : binOp .neq T (.agg (enc t true x).toArray) (.agg (enc t true y).toArray) = (do pure (.bool (!(← Op.equal T (.agg (enc t true x).toArray) (.agg (enc t true y).toArray))))) := rfl
    constructor
    · rw [Sem.run_bind, hg1, e1]
      simp only [Result.andThen_ok, Sem.run_bind, he, Sem.run_pure]
    · rw [Sem.run_bind, hg2, e2]
      simp only [Result.andThen_ok, Sem.run_bind, he, Sem.run_pure]
  · cases h1
end Go.Sh
