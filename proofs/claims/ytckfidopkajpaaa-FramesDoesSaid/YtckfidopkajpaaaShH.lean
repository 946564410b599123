/-
  What ShB reads off a text is what the text does: code; a function's call.
-/
import Derived.Test.YtckfidopkajpaaaShG4
set_option linter.unusedVariables false
set_option linter.unusedSimpArgs false
namespace Go.Sh
set_option linter.unusedVariables false

theorem get_mark (E : Env) (i : Nat) : E.mark.get i = E.get i := rfl
theorem Fits.mark {N : Nat} {E : Env} {a : Act} (h : Fits N E a) : Fits N E.mark a := ⟨h.size, by simp only [Env.mark, List.map_nil, List.nil_append]; exact h.defers, h.get⟩
theorem bd_base {E E1 : Env} (h : E1.bd = E.bd) : E1.base = E.base := congrArg Prod.fst h
theorem bd_dfs {E E1 : Env} (h : E1.bd = E.bd) : E1.dfs = E.dfs := congrArg Prod.snd h
theorem look_append (b : Nat → Option TV) (i : Nat) : ∀ (l l' : List (Nat × Option TV)), look b i (l ++ l') = look (fun j => look b j l') i l
  | [], l' => rfl
  | (j, v) :: l, l' => by simp only [List.cons_append, look]; rw [look_append b i l l']
theorem get_outer {E E' : Env} (h : E'.base.1 = E.get) (i : Nat) : (outer E E').get i = E'.get i := by
  simp only [outer, Env.get, look_append]
  rw [h]
  rfl
theorem Fits.outer {N : Nat} {E E' : Env} {a : Act} (hF : Fits N E' a) (h : E'.base = E.mark.base) : Fits N (outer E E') a :=
  ⟨hF.size, by rw [hF.defers, h]; simp [Go.Sh.outer, Env.mark], fun i tv hi => hF.get i tv (by rw [← get_outer (congrArg Prod.fst h)]; exact hi)⟩
theorem lay_fits {N : Nat} {E' : Env} {a : Act} (hF : Fits N E' a) (b : Nat → Option TV) (r : List (Nat × Option TV)) (i : Nat) (tv : TV) :
    ∀ (L : List (Nat × Ty)) (x : (tyOf L).den), grab L E' = some x → (onList L i = false → look b i r = some tv → a.tmps.getD i undef = tv.v) →
      look b i (lay L x r) = some tv → a.tmps.getD i undef = tv.v
  | [], x, _, hr, h => hr rfl h
  | [(j, t)], x, hg, hr, h => by
    simp only [grab] at hg
    split at hg
    · rename_i tv' htv'
      simp only [lay, look] at h
      by_cases hij : i = j
      · subst hij
        simp only [Nat.beq_refl, cond_true, Option.some.injEq] at h
        subst h
        rw [hF.get _ _ htv']
        exact (castTo_inj hg).symm
      · rw [beq_ne hij, cond_false] at h
        exact hr (by simp [onList, beq_ne hij]) h
    · cases hg
  | (j, t) :: p :: l, x, hg, hr, h => by
    simp only [grab] at hg
    cases htv' : E'.get j with
    | none => simp only [htv'] at hg; cases hg
    | some tv' =>
      simp only [htv'] at hg
      cases hy : castTo t tv'.t tv'.x with
      | none => simp only [hy] at hg; cases hg
      | some y =>
        simp only [hy] at hg
        cases hz : grab (p :: l) E' with
        | none => simp only [hz] at hg; cases hg
        | some z =>
          simp only [hz] at hg
          cases hg
          simp only [lay, look] at h
          by_cases hij : i = j
          · subst hij
            simp only [Nat.beq_refl, cond_true, Option.some.injEq] at h
            subst h
            rw [hF.get _ _ htv']
            exact (castTo_inj hy).symm
          · rw [beq_ne hij, cond_false] at h
            exact lay_fits hF b r i tv (p :: l) z hz (fun ho => hr (by simp only [onList, beq_ne hij, Bool.false_or]; exact ho)) h
theorem layW_none (b : Nat → Option TV) (i : Nat) (tv : TV) (r : List (Nat × Option TV)) : ∀ (W : List Nat), look b i (layW W r) = some tv → hasNat i W = false ∧ look b i r = some tv
  | [], h => ⟨rfl, h⟩
  | j :: W, h => by
    simp only [layW, look] at h
    by_cases hij : i = j
    · subst hij; simp at h
    · rw [beq_ne hij, cond_false] at h
      obtain ⟨h1, h2⟩ := layW_none b i tv r W h
      exact ⟨by simp [hasNat, beq_ne hij, h1], h2⟩
theorem layW_off (b : Nat → Option TV) (i : Nat) (r : List (Nat × Option TV)) : ∀ (W : List Nat), hasNat i W = false → look b i (layW W r) = look b i r
  | [], _ => rfl
  | j :: W, h => by
    simp only [hasNat, Bool.or_eq_false_iff] at h
    simp only [layW, look, h.1, cond_false]
    exact layW_off b i r W h.2
theorem lay_off (b : Nat → Option TV) (r : List (Nat × Option TV)) (i : Nat) (tv : TV) : ∀ (L : List (Nat × Ty)) (x : (tyOf L).den), onList L i = false → look b i r = some tv → look b i (lay L x r) = some tv
  | [], _, _, h => h
  | [(j, t)], x, ho, h => by
    simp only [onList, Bool.or_false] at ho
    simp only [lay, look, ho, cond_false]
    exact h
  | (j, t) :: p :: l, x, ho, h => by
    simp only [onList, Bool.or_eq_false_iff] at ho
    simp only [lay, look, ho.1, cond_false]
    exact lay_off b r i tv (p :: l) x.2 (by simp only [onList, Bool.or_eq_false_iff]; exact ho.2) h
theorem within_look (b : Nat → Option TV) {L : List (Nat × Ty)} {W : List Nat} {i : Nat} (h1 : onList L i = false) (h2 : hasNat i W = false) : ∀ (l : List (Nat × Option TV)), within L W l = true → look b i l = b i
  | [], _ => rfl
  | (j, v) :: l, h => by
    simp only [within, Bool.and_eq_true, Bool.or_eq_true] at h
    have hij : i ≠ j := by
      rintro rfl
      rw [h1, h2] at h
      simp at h
    simp only [look, beq_ne hij, cond_false]
    exact within_look b h1 h2 l h.2
theorem layAll_fits {N : Nat} {E E' : Env} {a : Act} (hF : Fits N E' a) (hb : E'.base = E.mark.base) {L : List (Nat × Ty)} {W : List Nat} {x : (tyOf L).den} (h : grabAll L W E' = some x) :
    Fits N (layAll L W E x) a := by
  obtain ⟨h1, h2⟩ := cond_some h
  simp only [Bool.and_eq_true, List.isEmpty_iff] at h1
  obtain ⟨h1, hd⟩ := h1
  refine ⟨hF.size, by rw [hF.defers, hd, hb]; rfl, fun i tv hi => ?_⟩
  replace hb := congrArg Prod.fst hb
  refine lay_fits hF E.base.1 _ i tv L x h2 (fun ho hl => ?_) hi
  obtain ⟨h3, h4⟩ := layW_none _ _ _ _ _ hl
  refine hF.get i tv ?_
  rw [Env.get, within_look E'.base.1 ho h3 _ h1, hb]
  exact h4
/-- One round on, in the slots of the round ahead. -/
theorem layAll_again {N : Nat} {E E' : Env} {a : Act} {L : List (Nat × Ty)} {W : List Nat} {s x : (tyOf L).den} (hF : Fits N E' a) (hb : E'.base = (layAll L W E s).mark.base) (h : grabAll L W E' = some x) :
    Fits N (layAll L W E x) a := by
  obtain ⟨h1, h2⟩ := cond_some h
  simp only [Bool.and_eq_true, List.isEmpty_iff] at h1
  obtain ⟨h1, hd⟩ := h1
  refine ⟨hF.size, by rw [hF.defers, hd, hb]; rfl, fun i tv hi => ?_⟩
  replace hb := congrArg Prod.fst hb
  refine lay_fits hF E.base.1 _ i tv L x h2 (fun ho hl => ?_) hi
  obtain ⟨h3, h4⟩ := layW_none _ _ _ _ _ hl
  refine hF.get i tv ?_
  rw [Env.get, within_look E'.base.1 ho h3 _ h1, hb]
  exact lay_off E.base.1 _ i tv L s ho (by rw [layW_off E.base.1 i _ W h3]; exact h4)
section
variable {C : Ctx} {N : Nat}
theorem region_wp (hC : C.Ok) {id : Nat} {ops : Array Oper} {ρ : Type} {E : Env} {K : Env → M ρ} {w : World} {r : ρ × World} {a : Act} {Q : Exit → Act → World → Prop} {n : Nat}
    (h : evOps C N ops n [] ops.toList E K w = some r) (hF : Fits N E a) (hk : ∀ E1 a1 w1, E1.bd = E.bd → Fits N E1 a1 → K E1 w1 = some r → Q .normal a1 w1) :
    (Code.region id ops false).wp C.P Q a w := by
  refine wp_region ?_
  have hm : Match ops (List.range ops.size) ops.toList := by
    simp only [Match]
    apply List.ext_getElem?
    intro i
    simp only [List.getElem?_map, List.getElem?_range, Array.getElem?_toList]
    rcases Nat.lt_or_ge i ops.size with hlt | hge
    · simp [hlt]
    · simp [hge]
  have := evOps_wp hC (todo_ops (Q := Q)) n [] ops.toList E K w r a [] h hF (fun _ _ => rfl) fun E1 a1 w1 hs hF1 h1 is hm => by rw [Match.nil hm]; exact hk E1 a1 w1 hs.1 hF1 h1
  exact this _ (by simpa using hm)
theorem draw_wp (hC : C.Ok) {id : Nat} {ops : Array Oper} {ρ : Type} {E : Env} {K : Env → M ρ} {w : World} {r : ρ × World} {a : Act} {Q : Exit → Act → World → Prop} {n : Nat}
    (hB : Region.lexB .any ops = true) (hq : ops.toList.all (fun o => !loud C.P o.op) = true)
    (h : evOps C N ops n [] ops.toList E K w.drew = some r) (hF : Fits N E a) (hk : ∀ E1 a1 w1, E1.bd = E.bd → Fits N E1 a1 → K E1 w1 = some r → Q .normal a1 w1) :
    (Code.region id ops true).wp C.P Q a w := by
  refine wp_region_still hC.mixed hB ?_
  have := evOps_wp hC (todo_still (w0 := w.drew) (K := fun a' => Q .normal a' w.drew)) n [] ops.toList E K w.drew r a [] h hF (fun o ho => List.all_eq_true.1 hq o ho)
    fun E1 a1 w1 hs hF1 h1 hw => by subst hw; exact hk E1 a1 _ hs.1 hF1 h1
  have := this rfl
  simpa using this
theorem drawn_wp (hC : C.Ok) {id : Nat} {ops : Array Oper} {ρ : Type} {E : Env} {K : Env → M ρ} {w : World} {r : ρ × World} {a : Act} {Q : Exit → Act → World → Prop} {perm : List DI}
    (hp : lenD perm = ops.size) (hsel : Region.noSelect ops = true)
    (h : evDraw C N ops perm (Array.replicate ops.size false) [] E K w.drew = some r) (hF : Fits N E a) (hk : ∀ E1 a1 w1, E1.bd = E.bd → Fits N E1 a1 → K E1 w1 = some r → Q .normal a1 w1) :
    (Code.region id ops true).wp C.P Q a w := by
  refine wp_mono (Q := NP Q) (wp_region_any hC.mixed ?_) NP.of
  obtain ⟨ws, hw, _, hv⟩ := evDraw_V hC hsel hk perm _ [] E a w.drew h hF rfl (by simp)
  have := wpAny_of_V _ _ _ hv
  rw [hw, hp] at this
  exact this
theorem ev_wp (hC : C.Ok) (b : Frame) : ∀ (ann : Ann) {ρ : Type} (c : Code) (E : Env) (K : Exit → Env → M ρ) (w : World) (r : ρ × World) (a : Act) (Q : Exit → Act → World → Prop),
    ev C N ann c E K w = some r → Fits N E a → (∀ e E1 a1 w1, E1.base = E.base → Fits N E1 a1 → K e E1 w1 = some r → Q e a1 w1) → ann.own b.fn = true → WpB C.P b c Q a w := by
  intro ann
  induction ann with
  | nil =>
    intro ρ c E K w r a Q h hF hk hown
    cases c <;> simp only [ev] at h <;> (try (cases h; done))
    case skip => exact .of (wp_skip (hk _ _ _ _ rfl hF h))
    case ret => exact .of (wp_ret (hk _ _ _ _ rfl hF h))
    case exit id => exact .of (wp_exit (hk _ _ _ _ rfl hF h))
    case region id ops draw =>
      cases draw with
      | true =>
        simp only [cond_true] at h
        cases hB : (Region.lexB .any ops && ops.toList.all (fun o => !loud C.P o.op)) with
        | false => rw [hB] at h; cases h
        | true =>
          simp only [hB, cond_true, bnd_some, drawM_some] at h
          obtain ⟨u, w1, rfl, h⟩ := h
          simp only [Bool.and_eq_true] at hB
          exact .of (draw_wp hC hB.1 hB.2 h hF fun E1 a1 w1 hb => hk .normal E1 a1 w1 (bd_base hb))
      | false =>
        simp only [cond_false] at h
        exact .of (region_wp hC h hF fun E1 a1 w1 hb => hk .normal E1 a1 w1 (bd_base hb))
  | draw perm =>
    intro ρ c E K w r a Q h hF hk hown
    cases c <;> simp only [ev] at h <;> (try (cases h; done))
    case region id ops draw =>
      cases draw with
      | false => cases h
      | true =>
        simp only [] at h
        cases hB : (Nat.beq (lenD perm) ops.size && Region.noSelect ops) with
        | false => rw [hB] at h; cases h
        | true =>
          simp only [hB, cond_true, bnd_some, drawM_some] at h
          obtain ⟨u, w1, rfl, h⟩ := h
          simp only [Bool.and_eq_true] at hB
          exact .of (drawn_wp hC (Nat.eq_of_beq_eq_true hB.1) hB.2 h hF fun E1 a1 w1 hb => hk .normal E1 a1 w1 (bd_base hb))
  | ord f tab T =>
    intro ρ c E K w r a Q h hF hk hown
    cases c <;> simp only [ev] at h <;> (try (cases h; done))
    case region id ops draw =>
      cases draw with
      | false => cases h
      | true =>
        simp only [] at h
        cases hB : (tabB ops tab && Region.noSelect ops) with
        | false => rw [hB] at h; cases h
        | true =>
          simp only [hB, cond_true, bnd_some] at h
          obtain ⟨o, w1, h1, h⟩ := h
          simp only [ordM, Option.some.injEq, Prod.mk.injEq] at h1
          obtain ⟨rfl, rfl⟩ := h1
          simp only [Bool.and_eq_true] at hB
          have hf : f = b.fn := Nat.eq_of_beq_eq_true hown
          subst hf
          exact WpB.mono (WpB.draw hC.mixed (evDrawO_wpOps hC hB.2 hB.1 h hF fun E1 a1 w1 hb => hk .normal E1 a1 w1 (bd_base hb))) NP.of
  | one x ih =>
    intro ρ c E K w r a Q h hF hk hown
    cases c <;> simp only [ev] at h <;> (try (cases h; done))
    case block id c =>
      refine WpB.block (ih c E _ w r a _ h hF (fun e E1 a1 w1 hb hF1 h1 => ?_) hown)
      cases e with
      | exit i =>
        simp only [Exit.inBlock]
        by_cases hi : i = id
        · subst hi
          simp only [Nat.beq_refl, cond_true] at h1
          simp only [if_true]
          exact hk _ _ _ _ hb hF1 h1
        · simp only [beq_ne hi, cond_false] at h1
          simp only [hi, if_false]
          exact hk _ _ _ _ hb hF1 h1
      | _ => exact hk _ _ _ _ hb hF1 h1
  | two x y ihx ihy =>
    intro ρ c E K w r a Q h hF hk hown
    cases c <;> simp only [ev] at h <;> (try (cases h; done))
    case seq p q =>
      simp only [Ann.own, Bool.and_eq_true] at hown
      refine WpB.seq (ihx p E _ w r a _ h hF (fun e E1 a1 w1 hb hF1 h1 => ?_) hown.1)
      cases e with
      | normal => exact ihy q E1 K w1 r a1 Q h1 hF1 (fun e E2 a2 w2 hb2 => hk e E2 a2 w2 (hb2.trans hb)) hown.2
      | _ => exact hk _ _ _ _ hb hF1 h1
    case cond i p q =>
      simp only [Ann.own, Bool.and_eq_true] at hown
      change Runs _ _ _ at h
      split at h
      · rename_i t ht
        have he := opd_fits hF (asB_some ht)
        cases t with
        | true => exact WpB.cond he (ihx p E K w r a Q h hF hk hown.1)
        | false => exact WpB.cond he (ihy q E K w r a Q h hF hk hown.2)
      · cases h
  | join L W out x ih =>
    intro ρ c E K w r a Q h hF hk hown
    cases out with
    | false =>
      simp only [ev, bnd_some] at h
      obtain ⟨s, w1, h1, h2⟩ := h
      refine ih c E.mark _ w (s, w1) a Q h1 hF.mark (fun e E1 a1 w2 hb hF1 h3 => ?_) hown
      cases e with
      | normal =>
        obtain ⟨h4, rfl⟩ := optM_some.1 h3
        exact hk _ (layAll L W E s) _ _ rfl (layAll_fits hF1 hb h4) h2
      | _ => cases h3
    | true =>
      simp only [ev, bnd_some] at h
      obtain ⟨s, w1, h1, h2⟩ := h
      refine ih c E.mark _ w (s, w1) a Q h1 hF.mark (fun e E1 a1 w2 hb hF1 h3 => ?_) hown
      cases e with
      | normal =>
        simp only [bnd_some, optM_some, ret_some] at h3
        obtain ⟨y, w3, ⟨h4, rfl⟩, rfl, rfl⟩ := h3
        exact hk _ (layAll L W E y) _ _ rfl (layAll_fits hF1 hb h4) h2
      | _ =>
        simp only [bnd_some, ret_some] at h3
        obtain ⟨y, w3, h4, rfl, rfl⟩ := h3
        simp only [ret, Option.some.injEq] at h2
        exact hk _ (outer E E1) _ _ rfl (hF1.outer hb) (by rw [h4, h2])
  | dfr =>
    intro ρ c E K w r a Q h hF hk hown
    cases c <;> simp only [ev] at h <;> (try (cases h; done))
    case region id ops draw =>
      cases draw with
      | true => cases h
      | false =>
        simp only at h
        refine .of ((wpIn_wide (n := 0)).1 (wpIn_region ?_))
        cases hlast : ops.toList.getLast? with
        | none =>
          rw [hlast] at h
          have : ops.toList = [] := List.getLast?_eq_none_iff.1 hlast
          rw [this] at h
          cases h
        | some o =>
          rw [hlast] at h
          have hsplit : ops.toList = ops.toList.dropLast ++ [o] := by
            have hne : ops.toList ≠ [] := by rintro h0; rw [h0] at hlast; cases hlast
            rw [List.getLast?_eq_some_getLast hne, Option.some.injEq] at hlast
            rw [← hlast, List.dropLast_concat_getLast]
          have key := evOps_wp hC (todo_in (P := C.P) (ops := ops) (Q := Q) none 0) (ops.size + 1) [] ops.toList.dropLast E _ w r a [o] h hF (fun o _ => rfl) fun E1 a1 w1 hs hF1 h1 is hm => by
            obtain ⟨i, is', rfl, hi, hm'⟩ := Match.cons hm
            have := Match.nil hm'
            subst this
            dsimp only at h1
            change Runs _ _ _ at h1
            split at h1
            · rename_i c hop hgd hdst
              split at h1
              · rename_i f hcal
                split at h1
                · rename_i g u tvs hg htv
                  refine wpOpsIn_one hi (by simp [Region.wanted, hgd]) ?_
                  refine ⟨fun _ _ => trivial, ?_⟩
                  have he := opd_fits hF1 hg
                  have hr : (execOp a1.eval o).run C.P w1 = .ok (.defer (Df.v (.call g tvs))) w1 := by
                    simp only [execOp, hop, resolve, hcal, Sem.run_bind, he, args_map hF1 htv, TV.v, inj, enc, List.headD_cons, Deferred.ofValue, Sem.run_pure, Result.andThen_ok, Df.v]
                    simp
                  rw [show Oper.semAt (fw none).round a1.eval o = execOp a1.eval o from rfl, hr, Oper.uponIn_defer, hdst]
                  exact hk _ { E1 with dfs := .call g tvs :: E1.dfs } _ _ (show E1.base = E.base from bd_base hs.1) ⟨hF1.size, by show _ :: a1.defers = _; rw [hF1.defers]; rfl, hF1.get⟩ h1
                · cases h1
              · cases h1
            · cases h1
          exact key _ (by rw [← hsplit]; exact match_all ops)
  | yld m =>
    intro ρ c E K w r a Q h hF hk hown
    cases c <;> simp only [ev] at h <;> (try (cases h; done))
    case region id ops draw =>
      cases draw with
      | true => cases h
      | false =>
        simp only at h
        refine .of ((wpIn_wide (n := 0)).1 (wpIn_region ?_))
        have key := evOps_wp hC (todo_in (P := C.P) (ops := ops) (Q := Q) none 0) (ops.size + 1) [] (ops.toList.take m) E _ w r a (ops.toList.drop m) h hF (fun o _ => rfl) fun E1 a1 w1 hs hF1 h1 => by
          change Runs _ _ _ at h1
          split at h1
          · rename_i o rest hdrop
            rw [hdrop]
            intro is hm
            obtain ⟨i, is', rfl, hi, hm'⟩ := Match.cons hm
            split at h1
            · rename_i c hop hgd
              split at h1
              · rename_i f hcal
                split at h1
                · rename_i l tvs ys hl htv hys
                  split at h1
                  · rename_i y hy
                    simp only [bnd_some] at h1
                    obtain ⟨b', w2, h2, h3⟩ := h1
                    obtain ⟨E2, s2, hF2, h4⟩ := setD_next hF1 h3
                    refine wpOpsIn_one hi (by simp [Region.wanted, hgd]) ?_
                    refine yld_in hop hcal (opd_fits hF1 hl) (args_map hF1 htv) (by rw [← castArgs_enc _ _ _ hy]; exact hC.yl _ hys _ _ _ _ _ h2) ?_
                    have k2 := evOps_wp hC (todo_in (P := C.P) (ops := ops) (Q := Q) none 0) (ops.size + 1) [] rest E2 _ w2 r _ [] h4 hF2 (fun o _ => rfl) fun E3 a3 w3 hs3 hF3 h5 is hm => by
                      rw [Match.nil hm]
                      exact hk _ _ _ _ (bd_base (hs3.1.trans (s2.1.trans hs.1))) hF3 h5
                    exact k2 _ (by simpa using hm')
                  · cases h1
                · cases h1
              · cases h1
            · cases h1
          · cases h1
        exact key _ (by rw [List.take_append_drop]; exact match_all ops)
  | rng me x y _ _ =>
    intro ρ c E K w r a Q h hF hk hown
    cases c <;> simp only [ev] at h <;> (try (cases h; done))
    case rangeFunc g ps assign body =>
      have hme : me = b.fn := Nat.eq_of_beq_eq_true hown
      subst hme
      obtain ⟨hflat, h⟩ := cond_run h
      simp only [Bool.and_eq_true] at hflat
      obtain ⟨⟨⟨hf1, hf2⟩, hp1⟩, hp2⟩ := hflat
      change Runs _ _ _ at h
      split at h
      · rename_i tm gf t z htm hg
        split at h
        · rename_i rs hrs
          split at h
          · rename_i y0 hy0
            simp only [bnd_some] at h
            obtain ⟨D, w1, h1, u, w2, h2, j, w3, h3, h4⟩ := h
            simp only [enterM, Option.some.injEq, Prod.mk.injEq] at h1
            obtain ⟨rfl, rfl⟩ := h1
            have htm' := tmFrom_eq hF N 0 tm htm (by omega)
            rw [List.drop_zero] at htm'
            have hta : tm.toArray = a.tmps := by rw [← htm']
            have he := opd_fits hF hg
            obtain ⟨hcal, hsnd⟩ := hC.rf _ _ hrs
            have hun : (untup t z).map TV.v = enc t false z := by
              rcases untup_enc t z with h | ⟨tv, h1, h2⟩
              · exact h
              · have := castArgs_one _ _ _ hy0 tv h1
                rw [this] at h2; cases h2
            refine WpB.range (l := w.heap.size + 1) (mark := [{ target := .collected w.heap.size, args := #[] }])
              (w1 := (w.alloc (.deferred (some []))).alloc (.loop { state := .ready, pending := none, fn := b.fn, tmps := tm.toArray, params := ps, assign, body, defers := w.heap.size }))
              (d := { target := .fn (.func gf) #[], args := (enc t false z).toArray ++ #[.func (.yield (w.heap.size + 1)) #[] #[]] }) (f := gf) (args := ((enc t false z).toArray ++ #[.func (.yield (w.heap.size + 1)) #[] #[]]) ++ #[])
              (w2 := (w.alloc (.deferred (some []))).alloc (.loop { state := .ready, pending := none, fn := b.fn, tmps := tm.toArray, params := ps, assign, body, defers := w.heap.size }))
              (by rw [hta]; exact run_enterLoop_outer _ _ _ _ _) ?_ (by simp only [invoke]; exact callFunc_run hcal _ _) ?_
            · simp only [resolve, rangeCall, Sem.run_bind, he, TV.v, inj, enc, List.headD_cons, Deferred.ofValue, Sem.run_pure]
              simp [Act.eval]
            · rw [Array.append_empty, ← hun, ← castArgs_enc _ _ _ hy0]
              refine (hsnd (w.heap.size + 1) _ ?_ y0 _ _ h2).mono ?_
              · -- a round
                intro q W r' W' hB0
                obtain ⟨hq, hB1⟩ := cond_run hB0
                clear hB0
                simp only [Bool.and_eq_true] at hq
                obtain ⟨hps, hone⟩ := hq
                simp only [psOk, Bool.and_eq_true] at hps
                have hsz := Nat.eq_of_beq_eq_true hps.1
                simp only [bnd_some] at hB1
                obtain ⟨_, W0, hrec, hB⟩ := hB1
                obtain ⟨hW0, st, pe, hl⟩ := recM_some hrec
                rw [hW0] at hB
                have henc : (untup rs.ta q).map TV.v = enc rs.ta false q := by
                  rcases untup_enc rs.ta q with h | ⟨tv, h1, h2⟩
                  · exact h
                  · have := List.all_eq_true.1 hone tv h1; rw [this] at h2; cases h2
                have hyl := run_yield (P := C.P) (args := (enc rs.ta false q).toArray) hl (by rw [← henc]; simp [hsz])
                refine ⟨b.fn, _, assign, body, hyl, fun n => roundIn_of_wpIn trivial ?_⟩
                have hF' : Fits N (roundE E ps (untup rs.ta q)) { tmps := (ps.zip (enc rs.ta false q).toArray).foldl (fun t (x : Tmp × Value) => t.setIfInBounds x.1 x.2) tm.toArray, defers := [] } := by
                  have z := zipPs_fits (N := N) (E := E) ps.toList (untup rs.ta q) [] tm.toArray (fun i tv hi => by rw [hta]; exact hF.get i tv hi) (by rw [hta]; exact hF.size) hps.2 (by simpa using hsz)
                  rw [henc] at z
                  have e : (ps.zip (enc rs.ta false q).toArray).foldl (fun t (x : Tmp × Value) => t.setIfInBounds x.1 x.2) tm.toArray = (ps.toList.zip (enc rs.ta false q)).foldl (fun t (x : Tmp × Value) => t.setIfInBounds x.1 x.2) tm.toArray := by
                    rw [← Array.foldl_toList]; simp
                  rw [← e] at z
                  exact ⟨z.2, rfl, z.1⟩
                refine ev_round hC (w.heap.size + 1) n x assign _ _ W (r', W') _ _ hf1 hp1 hB hF' fun e E1 a1 W1 hF1 hK => ?_
                cases e with
                | normal =>
                  simp only [bnd_some] at hK
                  obtain ⟨_, W2, hb, hK⟩ := hK
                  refine ⟨W2, semM_some hb, ?_⟩
                  refine ev_round hC (w.heap.size + 1) n y body _ _ W2 (r', W') _ _ hf2 hp2 hK hF1 fun e E2 a2 W3 hF2 hK2 => ?_
                  cases e with
                  | normal => exact ⟨_, _, runV_some hK2, rfl, rfl⟩
                  | ret => exact ⟨_, _, runV_some hK2, rfl, rfl⟩
                  | exit i => exact ⟨_, _, runV_some hK2, rfl, rfl⟩
                  | _ => cases hK2
                | _ => cases hK
              · rintro e W ⟨hv, rfl⟩
                refine ⟨hv, j, w3, semM_some h3, ?_⟩
                have hF2 : Fits N { E with dfs := .coll w.heap.size :: E.dfs } { a with defers := [{ target := .collected w.heap.size, args := #[] }] ++ a.defers } := ⟨hF.size, by rw [hF.defers]; rfl, hF.get⟩
                cases j with
                | none => exact hk _ { E with dfs := .coll w.heap.size :: E.dfs } _ _ rfl hF2 h4
                | some c =>
                  cases c with
                  | ret => exact .of (wp_ret (hk _ { E with dfs := .coll w.heap.size :: E.dfs } _ _ rfl hF2 h4))
                  | exit i => exact .of (wp_exit (hk _ { E with dfs := .coll w.heap.size :: E.dfs } _ _ rfl hF2 h4))
                  | _ => cases h4
          · cases h
        · cases h
      · cases h
  | loop L W x ih =>
    intro ρ c E K w r a Q h hF hk hown
    cases c <;> simp only [ev] at h <;> (try (cases h; done))
    case loop c =>
      change Runs _ _ _ at h
      split at h
      · rename_i s0 hs0
        obtain ⟨n0, hn0⟩ := loopM_some.1 h
        let body := fun s => ev C N x (ρ := (tyOf L).den ⊕ ρ) c (layAll L W E s).mark fun e E' => match e with
          | .normal => bnd (optM (grabAll L W E')) fun s => ret (.inl s)
          | e => bnd (K e (outer (layAll L W E s) E')) fun r => ret (.inr r)
        have key : ∀ (n : Nat) (s : (tyOf L).den) (a : Act) (w : World), Fits N (layAll L W E s) a → iter body n s w = some r → ∀ (k : List Item) (cs : List Frame),
            ∃ e a' w', Q e a' w' ∧ Arrives C.P (lone (b.at a (.code c :: .inLoop c :: k)) cs w) b k cs e a' w' := by
          intro n
          induction n with
          | zero => intro s a w _ hn; simp [iter, fail] at hn
          | succ m ihm =>
            intro s a1 w1 hF1 hn k cs
            simp only [iter, bnd_some] at hn
            obtain ⟨v, w2, h1, h2⟩ := hn
            have hround : WpB C.P b c (fun e a2 w3 => match e with
                | .normal => ∃ s, Fits N (layAll L W E s) a2 ∧ iter body m s w3 = some r
                | e => Q e a2 w3) a1 w1 := by
              refine ih c _ _ w1 (v, w2) a1 _ h1 hF1.mark (fun e E2 a2 w3 hb hF2 h3 => ?_) hown
              cases e with
              | normal =>
                simp only [bnd_some, optM_some, ret_some] at h3
                obtain ⟨y, w4, ⟨h4, rfl⟩, rfl, rfl⟩ := h3
                exact ⟨y, layAll_again hF2 hb h4, h2⟩
              | _ =>
                simp only [bnd_some, ret_some] at h3
                obtain ⟨y, w4, h4, rfl, rfl⟩ := h3
                simp only [ret, Option.some.injEq] at h2
                exact hk _ (outer (layAll L W E s) E2) _ _ rfl (hF2.outer hb) (by rw [h4, h2])
            obtain ⟨e, a2, w3, hq, harr⟩ := hround (.inLoop c :: k) cs
            cases e with
            | normal =>
              obtain ⟨s', hF3, h3⟩ := hq
              obtain ⟨e₂, a₂, w₂, hq₂, harr₂⟩ := ihm s' a2 w3 hF3 h3 k cs
              exact ⟨e₂, a₂, w₂, hq₂, .of_steps (Steps.trans harr (.one step_inLoop)) harr₂⟩
            | exit id => exact ⟨_, a2, w3, hq, .pass (x := .inLoop c) rfl (fun _ _ => .inl (by simp)) harr⟩
            | goto l => exact ⟨_, a2, w3, hq, .pass (x := .inLoop c) rfl (fun _ _ => .inl (by simp)) harr⟩
            | ret => exact ⟨_, a2, w3, hq, .pass (x := .inLoop c) rfl (fun _ _ => .inl (by simp)) harr⟩
            | panic ch => exact ⟨_, a2, w3, hq, .pass (x := .inLoop c) rfl (fun _ _ => .inl (by simp)) harr⟩
            | outgrown => exact ⟨_, a2, w3, hq, .pass (x := .inLoop c) rfl (fun _ _ => .inl (by simp)) harr⟩
        intro k cs
        obtain ⟨e, a', w', hq, harr⟩ := key n0 s0 a w (layAll_fits hF.mark rfl hs0) hn0 k cs
        exact ⟨e, a', w', hq, .of_steps (.one step_loop) harr⟩
      · cases h
end
end Go.Sh
