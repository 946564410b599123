/-
  Rounds of a range over a function: what ShB reads off a text is what the text does, in a round's frame as in any other; the call of yield; the statement itself.
-/
import Derived.Test.YtckfidopkajpaaaShG3
import Derived.RangeFuncRecord
set_option linter.unusedVariables false
set_option linter.unusedSimpArgs false
namespace Go.Sh
set_option linter.unusedVariables false
/-- All is let in; in a round, or not. -/
def fw (ro : Option Nat) : Fence := { Fence.wide with round := ro }
theorem fw_none : fw none = Fence.wide := rfl
theorem callsIn_fw {ro : Option Nat} {n : Nat} {P : Program} {f : FuncId} {args : Array Value} {w : World} {R : Ending → World → Prop} : CallsIn (fw ro) n P f args w R ↔ Calls P f args w R := callsIn_wide (n := n)
theorem rowsIn_fw {ro : Option Nat} {n : Nat} {P : Program} {row : String} {args : Array Value} {w : World} {R : Value → World → Prop} (h : Rows P row args w R) : RowsIn (fw ro) n P row args w R :=
  fun c cs _ => let ⟨v, w', r, s⟩ := h c cs; ⟨v, w', r, stepsIn_wide.2 s⟩
theorem goes_in {P : Program} {o : Oper} {a : Act} {w : World} {a1 : Act} {w1 : World} {ro : Option Nat} (hg : Goes P o a w a1 w1) (hs : Oper.semAt ro a.eval o = execOp a.eval o) {n : Nat} {next : Act → World → Prop} {Q : Exit → Act → World → Prop} (hn : next a1 w1) :
    o.wpIn (fw ro) n P a w next Q := by
  refine ⟨fun _ _ => trivial, ?_⟩
  have h := hg next Q hn
  rw [show (fw ro).round = ro from rfl, hs]
  unfold Oper.wp at h
  generalize (execOp a.eval o).run P w = res at h
  unfold Oper.upon at h
  unfold Oper.uponIn
  split at h
  · exact h
  · exact h
  · exact h
  · refine ⟨fun h => ?_, callsIn_fw.2 h⟩
    simp [fw, Fence.wide] at h
  · refine ⟨fun h => ?_, rowsIn_fw h⟩
    simp [fw, Fence.wide] at h
  · exact h
  · exact h.elim
def okIn (ro : Option Nat) (o : Oper) : Bool := match ro, o.op with
  | some _, .defer _ => false
  | _, _ => true
theorem semAt_ok {ro : Option Nat} {o : Oper} (h : okIn ro o = true) (ρ : Operand → Value) : Oper.semAt ro ρ o = execOp ρ o := by
  cases ro with
  | none => rfl
  | some l =>
    refine Oper.semAt_eq _ _ _ fun c hc => ?_
    simp [okIn, hc] at h
theorem wpOpsIn_one {F : Fence} {n : Nat} {P : Program} {ops : Array Oper} {Q : Exit → Act → World → Prop} {i : Nat} {rest : List Nat} {a : Act} {w : World} {o : Oper} (ho : ops[i]? = some o)
    (hw : Region.wanted o (yielded ops a.tmps) = true) (h : o.wpIn F n P a w (wpOpsIn F n P ops Q rest) Q) : wpOpsIn F n P ops Q (i :: rest) a w := by
  simp only [wpOpsIn, ho, hw, if_true]; exact h
theorem wpOpsIn_no {ro : Option Nat} {n : Nat} {P : Program} {ops : Array Oper} {Q : Exit → Act → World → Prop} {i : Nat} {rest : List Nat} {a : Act} {w : World} {o : Oper} (ho : ops[i]? = some o)
    (hw : Region.wanted o (yielded ops a.tmps) = false) (h : wpOpsIn (fw ro) n P ops Q rest (a.put o.dst undef) w) : wpOpsIn (fw ro) n P ops Q (i :: rest) a w := by
  simp only [wpOpsIn, ho, hw, Bool.false_eq_true, if_false]; exact ⟨fun _ _ => trivial, h⟩
theorem todo_in {P : Program} {ops : Array Oper} {Q : Exit → Act → World → Prop} (ro : Option Nat) (n : Nat) : Todo P ops (okIn ro) fun l a w => ∀ is, Match ops is l → wpOpsIn (fw ro) n P ops Q is a w where
  one := fun o rest a w a1 w1 hw hok hg _ h is hm => by
    obtain ⟨i, is', rfl, hi, hm'⟩ := Match.cons hm
    exact wpOpsIn_one hi hw (goes_in hg (semAt_ok hok _) (h is' hm'))
  no := fun o rest a w hw h is hm => by
    obtain ⟨i, is', rfl, hi, hm'⟩ := Match.cons hm
    exact wpOpsIn_no hi hw (h is' hm')
theorem match_all (ops : Array Oper) : Match ops (List.range ops.size) ops.toList := by
  simp only [Match]
  apply List.ext_getElem?
  intro i
  simp only [List.getElem?_map, List.getElem?_range, Array.getElem?_toList]
  rcases Nat.lt_or_ge i ops.size with hlt | hge
  · simp [hlt]
  · simp [hge]
section
variable {C : Ctx} {N : Nat}
theorem region_in (hC : C.Ok) {ro : Option Nat} {m : Nat} {id : Nat} {ops : Array Oper} (hd : ops.toList.all (okIn ro) = true) {ρ : Type} {E : Env} {K : Env → M ρ} {w : World} {r : ρ × World} {a : Act} {Q : Exit → Act → World → Prop} {n : Nat}
    (h : evOps C N ops n [] ops.toList E K w = some r) (hF : Fits N E a) (hk : ∀ E1 a1 w1, E1.bd = E.bd → Fits N E1 a1 → K E1 w1 = some r → Q .normal a1 w1) :
    (Code.region id ops false).wpIn (fw ro) m C.P Q a w := by
  refine wpIn_region ?_
  have := evOps_wp hC (todo_in (Q := Q) ro m) n [] ops.toList E K w r a [] h hF (fun o ho => List.all_eq_true.1 hd o ho) fun E1 a1 w1 hs hF1 h1 is hm => by rw [Match.nil hm]; exact hk E1 a1 w1 hs.1 hF1 h1
  exact this _ (by simpa using match_all ops)
/-- The text of a round. -/
theorem ev_round (hC : C.Ok) (l m : Nat) : ∀ (ann : Ann) {ρ : Type} (c : Code) (E : Env) (K : Exit → Env → M ρ) (w : World) (r : ρ × World) (a : Act) (Q : Exit → Act → World → Prop), ann.flat = true → plainC c = true →
    ev C N ann c E K w = some r → Fits N E a → (∀ e E1 a1 w1, Fits N E1 a1 → K e E1 w1 = some r → Q e a1 w1) → c.wpIn (fw (some l)) m C.P Q a w := by
  intro ann
  induction ann with
  | nil =>
    intro ρ c E K w r a Q hf hp h hF hk
    cases c <;> simp only [ev] at h <;> (try (cases h; done))
    case skip => exact wpIn_skip (hk _ _ _ _ hF h)
    case ret => exact wpIn_ret (hk _ _ _ _ hF h)
    case exit id => exact wpIn_exit (hk _ _ _ _ hF h)
    case region id ops draw =>
      simp only [plainC, Bool.and_eq_true, Bool.not_eq_true'] at hp
      obtain ⟨rfl, hd⟩ := hp
      simp only [cond_false] at h
      refine region_in hC (List.all_eq_true.2 fun o ho => ?_) h hF fun E1 a1 w1 _ => hk .normal E1 a1 w1
      have := List.all_eq_true.1 hd o ho
      unfold okIn
      cases hop : o.op <;> first | rfl | (rw [hop] at this; cases this)
  | one x ih =>
    intro ρ c E K w r a Q hf hp h hF hk
    cases c <;> simp only [ev] at h <;> (try (cases h; done))
    case block id c =>
      refine wpIn_block (ih c E _ w r a _ hf hp h hF (fun e E1 a1 w1 hF1 h1 => ?_))
      cases e with
      | exit i =>
        simp only [Exit.inBlock]
        by_cases hi : i = id
        · subst hi
          simp only [Nat.beq_refl, cond_true] at h1
          simp only [if_true]
          exact hk _ _ _ _ hF1 h1
        · simp only [beq_ne hi, cond_false] at h1
          simp only [hi, if_false]
          exact hk _ _ _ _ hF1 h1
      | _ => exact hk _ _ _ _ hF1 h1
  | two x y ihx ihy =>
    intro ρ c E K w r a Q hf hp h hF hk
    simp only [Ann.flat, Bool.and_eq_true] at hf
    cases c <;> simp only [ev] at h <;> (try (cases h; done))
    case seq p q =>
      simp only [plainC, Bool.and_eq_true] at hp
      refine wpIn_seq (ihx p E _ w r a _ hf.1 hp.1 h hF (fun e E1 a1 w1 hF1 h1 => ?_))
      cases e with
      | normal => exact ihy q E1 K w1 r a1 Q hf.2 hp.2 h1 hF1 hk
      | _ => exact hk _ _ _ _ hF1 h1
    case cond i p q =>
      simp only [plainC, Bool.and_eq_true] at hp
      change Runs _ _ _ at h
      split at h
      · rename_i t ht
        have he := opd_fits hF (asB_some ht)
        cases t with
        | true => exact wpIn_cond_true he (ihx p E K w r a Q hf.1 hp.1 h hF hk)
        | false => exact wpIn_cond_false he (ihy q E K w r a Q hf.2 hp.2 h hF hk)
      · cases h
  | _ => intro ρ c E K w r a Q hf; cases hf
/-- The call of yield. -/
theorem yld_in {P : Program} {o : Oper} {c : Call} {f : Operand} {l : Nat} {args : Array Value} {a : Act} {w w1 : World} {b : Bool} (ho : o.op = .call c) (hc : c.callee = .value f) (he : a.eval f = .func (.yield l) #[] #[]) (ha : c.args.map a.eval = args) (hy : YieldDoes P l args w b w1)
    {n : Nat} {next : Act → World → Prop} {Q : Exit → Act → World → Prop} (hn : next (a.put o.dst (.bool b)) w1) : o.wpIn (fw none) n P a w next Q := by
  obtain ⟨fn, tmps, assign, body, h1, h2⟩ := hy
  refine ⟨fun _ _ => trivial, ?_⟩
  have hr : (execOp a.eval o).run P w = .ok (.round l fn tmps assign body) w := by
    simp only [execOp, ho, resolve, hc, Sem.run_bind, he, ha, Deferred.ofValue, Sem.run_pure, Result.andThen_ok, invoke]
    simpa using h1
  rw [show Oper.semAt (fw none).round a.eval o = execOp a.eval o from rfl, hr]
  refine ⟨fun h => (by simp [fw, Fence.wide] at h), (h2 (n - 1)).mono ?_⟩
  rintro e w'' ⟨rfl, rfl⟩
  exact hn
end
/-- The statement itself, of a frame that is no round. -/
theorem WpB.range {P : Program} {b : Frame} {Q : Exit → Act → World → Prop} {a : Act} {w : World} {g : Operand} {ps : Array Tmp} {assign body : Code} {l : Nat} {mark : List Deferred} {w1 w1' w2 : World} {d : Deferred} {f : FuncId} {args : Array Value}
    (he : (Instr.enterLoop b.fn a.tmps ps assign body none).run P w = .ok (l, mark) w1) (hres : (resolve a.eval (rangeCall g l) 0).run P w1 = .ok d w1') (hinv : (invoke d.target d.args).run P w1' = .ok (.enter f args) w2)
    (hcall : Calls P f args w2 fun e w3 => (∃ v, e = .returned v) ∧ ∃ jump w4, (Instr.endLoop l).run P w3 = .ok jump w4 ∧ match jump with
      | none => Q .normal { a with defers := mark ++ a.defers } w4
      | some c => WpB P b c Q { a with defers := mark ++ a.defers } w4) : WpB P b (.rangeFunc g ps assign body) Q a w := by
  intro k cs
  let b' : Frame := { b with roundOf := none }
  have hat : ∀ a todo, b'.atR a todo = b.at a todo := fun a todo => rfl
  have henter := stepR_rangeFunc (P := P) (b := b') (a := a) (k := k) (cs := cs) (w := w) he hres hinv
  obtain ⟨e, w3, fr, hR, hsteps, hfn, hleave⟩ := hcall (b'.atR { a with defers := mark ++ a.defers } (.inRangeFunc l :: k) :: cs)
  obtain ⟨⟨v, rfl⟩, jump, w4, hend, hj⟩ := hR
  have sback : Steps P (lone (b.at a (.code (.rangeFunc g ps assign body) :: k)) cs w) (lone (b.at { a with defers := mark ++ a.defers } ((jump.map Item.code).toList ++ k)) cs w4) := by
    rw [← hat, ← hat]
    refine .head henter (Steps.trans hsteps (.head ?_ (.one (stepR_endRangeFunc hend))))
    rw [← finish_atR_inRangeFunc l v]; exact step_leave_returned hleave
  cases jump with
  | none => exact ⟨.normal, _, w4, hj, sback⟩
  | some c =>
    obtain ⟨e', a'', w5, hq, harr⟩ := hj k cs
    exact ⟨e', a'', w5, hq, .of_steps sback harr⟩
theorem semM_some {α : Type} {P : Program} {s : Sem α} {w w' : World} {v : α} (h : semM P s w = some (v, w')) : s.run P w = .ok v w' := by
  unfold semM at h
  split at h
  · rename_i v' w'' he
    simp only [Option.some.injEq, Prod.mk.injEq] at h
    obtain ⟨rfl, rfl⟩ := h
    exact he
  · cases h
theorem recM_some {f : FuncId} {tm : List Value} {ps : Array Tmp} {assign body : Code} {D : Nat} {w : World} {u : Unit} {w' : World} (h : recM f tm ps assign body D w = some (u, w')) :
    w' = w ∧ ∃ st pe, w.heap[D + 1]? = some (.loop { state := st, pending := pe, fn := f, tmps := tm.toArray, params := ps, assign, body, defers := D }) := by
  unfold recM at h
  split at h
  · rename_i he
    simp only [Option.some.injEq, Prod.mk.injEq] at h
    exact ⟨h.2.symm, he⟩
  · cases h
theorem zipPs_fits {N : Nat} {E : Env} : ∀ (ts : List Tmp) (tvs : List TV) (dl : List (Nat × Option TV)) (tm : Array Value), (∀ i tv, look E.get i dl = some tv → tm.getD i undef = tv.v) → tm.size = N → ts.all (fun t => Nat.blt t N) = true → ts.length = tvs.length →
    (∀ i tv, look E.get i (zipPs ts tvs dl) = some tv → ((ts.zip (tvs.map TV.v)).foldl (fun tm (x : Tmp × Value) => tm.setIfInBounds x.1 x.2) tm).getD i undef = tv.v) ∧ ((ts.zip (tvs.map TV.v)).foldl (fun tm (x : Tmp × Value) => tm.setIfInBounds x.1 x.2) tm).size = N
  | [], [], dl, tm, h, hs, _, _ => ⟨h, hs⟩
  | [], _ :: _, _, _, _, _, _, hl => by simp at hl
  | _ :: _, [], _, _, _, _, _, hl => by simp at hl
  | t :: ts, tv :: tvs, dl, tm, h, hs, hb, hl => by
    simp only [List.all_cons, Bool.and_eq_true] at hb
    have ht : t < N := by simpa using hb.1
    simp only [zipPs, List.map_cons, List.zip_cons_cons, List.foldl_cons]
    refine zipPs_fits ts tvs ((t, some tv) :: dl) (tm.setIfInBounds t tv.v) (fun i u hi => ?_) (by simp [hs]) hb.2 (by simpa using hl)
    simp only [look] at hi
    by_cases e : i = t
    · subst e
      simp only [Nat.beq_refl, cond_true, Option.some.injEq] at hi
      subst hi
      have hlt : i < tm.size := by rw [hs]; exact ht
      simp [Array.getD, hlt]
    · rw [beq_ne e, cond_false] at hi
      rw [← h i u hi]
      simp [Array.getD_eq_getD_getElem?, Array.getElem?_setIfInBounds_ne (Ne.symm e)]
theorem tmFrom_eq {N : Nat} {E : Env} {a : Act} (hF : Fits N E a) : ∀ (n i : Nat) (l : List Value), tmFrom E i n = some l → i + n = N → a.tmps.toList.drop i = l
  | 0, i, l, h, hi => by
    simp only [tmFrom, Option.some.injEq] at h
    subst h
    exact List.drop_of_length_le (by have := hF.size; simp; omega)
  | n + 1, i, l, h, hi => by
    simp only [tmFrom] at h
    split at h
    · rename_i tv htv
      split at h
      · rename_i l' hl'
        simp only [Option.some.injEq] at h
        subst h
        have ih := tmFrom_eq hF n (i + 1) l' hl' (by omega)
        have hlt : i < a.tmps.toList.length := by have := hF.size; simp; omega
        rw [List.drop_eq_getElem_cons hlt, ih]
        have := hF.get i tv htv
        rw [← this]
        have hlt' : i < a.tmps.size := by simpa using hlt
        simp [Array.getD, hlt']
      · cases h
    · cases h
end Go.Sh
