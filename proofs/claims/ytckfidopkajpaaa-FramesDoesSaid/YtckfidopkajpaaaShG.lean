/-
  What ShB reads off a text is what the text does: a whole region; code; a function.
-/
import Derived.Test.YtckfidopkajpaaaShF
set_option linter.unusedVariables false
set_option linter.unusedSimpArgs false
namespace Go.Sh
set_option linter.unusedVariables false

theorem Fits.alias {N : Nat} {E : Env} {a : Act} (h : Fits N E a) {d : Nat} {tv : TV} (hd : a.tmps.getD d undef = tv.v) : Fits N (E.set d (some tv)) a := by
  refine ⟨h.size, h.defers, fun i t hi => ?_⟩
  rw [get_set] at hi
  split at hi
  · rename_i e; subst e; simp only [Option.some.injEq] at hi; subst hi; exact hd
  · exact h.get i t hi
theorem Fits.le {N : Nat} {E E' : Env} {a : Act} (h : Fits N E a) (hb : E'.bd = E.bd) (he : ∀ i tv, E'.get i = some tv → E.get i = some tv) : Fits N E' a :=
  ⟨h.size, by have := h.defers; rw [show E.dfs = E'.dfs from (congrArg Prod.snd hb).symm, show E.base = E'.base from (congrArg Prod.fst hb).symm] at this; exact this, fun i tv hi => h.get i tv (he i tv hi)⟩
theorem putD_fits {N : Nat} {E E' : Env} {a : Act} (hF : Fits N E a) {dst : Option Tmp} {tv : TV} (h : putD N E dst tv = some E') : Fits N E' (a.put dst tv.v) := by
  unfold putD at h
  split at h
  · simp only [Option.some.injEq] at h; subst h; exact hF
  · obtain ⟨h1, h2⟩ := cond_some h
    simp only [Option.some.injEq] at h2
    subst h2
    exact hF.put (by simpa using h1) (by intro t ht; simp only [Option.some.injEq] at ht; rw [ht])
theorem putD_same {N : Nat} {E E' : Env} {o : Oper} {tv : TV} (h : putD N E o.dst tv = some E') : SameBut E E' [o] := by
  unfold putD at h
  split at h
  · simp only [Option.some.injEq] at h; subst h; exact SameBut.refl E _
  · rename_i d hd
    obtain ⟨h1, h2⟩ := cond_some h
    simp only [Option.some.injEq] at h2
    subst h2
    exact SameBut.set hd _
theorem falls_dst {ops : Array Oper} {j : Nat} {want : Bool} {d : Tmp} : ∀ (l : List Oper) (dead : List Nat), falls ops j want d dead l = true → ∀ o ∈ l, o.dst ≠ some d
  | [], _, _, o, ho => by cases ho
  | o :: l, dead, h, o', ho' => by
    simp only [falls, Bool.and_eq_true] at h
    obtain ⟨_, h⟩ := h
    split at h
    · rename_i s hs
      simp only [Bool.and_eq_true, Bool.not_eq_true'] at h
      rcases List.mem_cons.1 ho' with rfl | ho'
      · rw [hs]
        intro e
        simp only [Option.some.injEq] at e
        subst e
        simp at h
      · exact falls_dst l _ h.2 o' ho'
    · rename_i hs
      rcases List.mem_cons.1 ho' with rfl | ho'
      · rw [hs]; simp
      · exact falls_dst l _ h o' ho'
/-- Behind operations that did not fall. -/
theorem ran {N : Nat} {ops : Array Oper} {hs : List (Nat × Bool)} {E : Env} {l : List Oper} {c : Chunk} {x y : Operand} (ho : ChunkOk ops hs E l c x y)
    (hb : c.b = c.want) {E2 : Env} {a2 : Act} (hF : Fits N E2 a2) (hs2 : SameBut (E.set c.d (some ⟨.bool, c.want⟩)) E2 c.ops) :
    Fits N (forget E c.ops) a2 ∧ a2.tmps[c.d]? = some (.bool c.b) := by
  have hdd : E2.get c.d = some ⟨.bool, c.want⟩ := by
    rw [hs2.2 c.d (falls_dst _ _ ho.falls), get_set, if_pos rfl]
  refine ⟨hF.le (((forget_same c.ops E).1).trans hs2.1.symm) fun i tv hi => ?_, by rw [hb]; exact slot_get hF hdd⟩
  obtain ⟨h1, h2⟩ := get_forget _ _ _ _ hi
  rw [hs2.2 i h1, get_set]
  split
  · rename_i e
    subst e
    rw [ho.get] at h2
    rw [← h2, hb]
  · exact h2
theorem chunk_same {ops : Array Oper} {hs : List (Nat × Bool)} {E E3 E4 : Env} {l : List Oper} {c : Chunk} {x y : Operand} (ho : ChunkOk ops hs E l c x y)
    (h3 : SameBut (forget E c.ops) E3 [c.pick]) (h4 : SameBut E3 E4 c.after) : SameBut E E4 l := by
  rw [ho.eq]
  have := ((forget_same c.ops E).trans h3).trans h4
  simpa using this
theorem ok_parts {ok : Oper → Bool} {hs : List (Nat × Bool)} {ops : Array Oper} {E : Env} {l : List Oper} {c : Chunk} {x y : Operand} (ho : ChunkOk ops hs E l c x y) (h : ∀ o ∈ l, ok o = true) :
    (∀ o ∈ c.ops, ok o = true) ∧ ok c.pick = true ∧ ∀ o ∈ c.after, ok o = true := by
  rw [ho.eq] at h
  exact ⟨fun o hm => h o (by simp [hm]), h _ (by simp), fun o hm => h o (by simp [hm])⟩
section
variable {C : Ctx} {N : Nat} {ops : Array Oper} {ok : Oper → Bool} {L : List Oper → Act → World → Prop}
theorem calmOps_wp (hC : C.Ok) (hL : Todo C.P ops ok L) : ∀ (n : Nat) (hs : List (Nat × Bool)) (l : List Oper) (E E' : Env) (a : Act), calmOps C N ops n hs l E = some E' → Fits N E a → (∀ o ∈ l, ok o = true) →
    SameBut E E' l ∧ ∃ a', Fits N E' a' ∧ ∀ (rest : List Oper) (w : World), L rest a' w → L (l ++ rest) a w := by
  intro n
  induction n with
  | zero =>
    intro hs l E E' a h hF hok
    cases l with
    | nil =>
      simp only [calmOps, Option.some.injEq] at h
      subst h
      exact ⟨SameBut.refl E _, a, hF, fun rest w hq => hq⟩
    | cons o l => simp [calmOps] at h
  | succ n ih =>
    intro hs l E E' a h hF hok
    cases l with
    | nil =>
      simp only [calmOps, Option.some.injEq] at h
      subst h
      exact ⟨SameBut.refl E _, a, hF, fun rest w hq => hq⟩
    | cons o l =>
      simp only [calmOps] at h
      cases hh : held ops hs E o.guard with
      | true =>
        simp only [hh, cond_true] at h
        split at h
        · rename_i tv htv
          split at h
          · rename_i E1 hE1
            obtain ⟨s1, a', hF', hw⟩ := ih hs l E1 E' _ h (putD_fits hF hE1) fun o' ho' => hok o' (by simp [ho'])
            exact ⟨(putD_same hE1).trans s1, a', hF', fun rest w hq =>
              hL.one o _ a w _ w (held_wanted hF hh) (hok o (by simp)) (fun next Q hn => calm_gives hC hF htv w next Q hn) (fun hl => by
                have := calm_run hC hF htv (fun c hc => by rw [hc] at hl; simpa [loud] using hl)
                exact ⟨_, rfl, rfl, this w, fun _ => this⟩) (hw rest w hq)⟩
          · cases h
        · cases h
      | false =>
        simp only [hh, cond_false] at h
        split at h
        · rename_i c hc
          obtain ⟨x, y, ho⟩ := chunkAt_ok hc
          obtain ⟨ok1, ok2, ok3⟩ := ok_parts ho hok
          split at h
          · rename_i E2 hE2
            split at h
            · rename_i u v hu hv
              split at h
              · rename_i E3 hE3
                have hu := asB_some hu
                have hv := asB_some hv
                have hslot := slot_get hF ho.get
                have key : ∃ a2, Fits N (forget E c.ops) a2 ∧ a2.tmps[c.d]? = some (.bool c.b) ∧
                    a2.eval (cond c.b x y) = .bool (cond c.want (cond c.b u v) (cond c.b v u)) ∧
                    ∀ (rest : List Oper) (w : World), L rest a2 w → L (c.ops ++ rest) a w := by
                  by_cases hb : c.b = c.want
                  · have hF1 : Fits N (E.set c.d (some ⟨.bool, c.want⟩)) a := hF.alias (by rw [Array.getD_eq_getD_getElem?, hslot, hb]; rfl)
                    obtain ⟨s2, a2, hF2, hw2⟩ := ih _ _ _ _ _ hE2 hF1 ok1
                    obtain ⟨r1, r2⟩ := ran ho hb hF2 s2
                    refine ⟨a2, r1, r2, ?_, hw2⟩
                    have := opd_fits hF2 hu
                    rw [ho.ex] at this
                    rw [hb, this]
                    cases c.want <;> rfl
                  · obtain ⟨a2, hF2, hd2, hw2⟩ := falls_wp hL ho.slot hb c.ops [] E a hF ho.falls hslot (by simp)
                    refine ⟨a2, hF2, hd2, ?_, hw2⟩
                    have := opd_fits hF2 hv
                    rw [ho.ey] at this
                    have hbn : c.b = !c.want := by cases h1 : c.b <;> cases h2 : c.want <;> simp_all
                    rw [hbn]
                    revert this
                    cases c.want <;> intro this <;> exact this
                obtain ⟨a2, hF2, hd2, hev, hw2⟩ := key
                obtain ⟨s4, a4, hF4, hw4⟩ := ih hs c.after E3 E' _ h (putD_fits hF2 hE3) ok3
                refine ⟨chunk_same ho (putD_same hE3) s4, a4, hF4, fun rest w hq => ?_⟩
                rw [ho.eq, List.append_assoc]
                refine hw2 _ w ?_
                exact pick_wp hL ho ok2 hF2 hd2 hev (hw4 rest w hq)
              · cases h
            · cases h
          · cases h
        · cases h
theorem evOps_wp (hC : C.Ok) (hL : Todo C.P ops ok L) : ∀ (n : Nat) {ρ : Type} (hs : List (Nat × Bool)) (l : List Oper) (E : Env) (k : Env → M ρ) (w : World) (r : ρ × World) (a : Act) (rest : List Oper),
    evOps C N ops n hs l E k w = some r → Fits N E a → (∀ o ∈ l, ok o = true) →
    (∀ E1 a1 w1, SameBut E E1 l → Fits N E1 a1 → k E1 w1 = some r → L rest a1 w1) → L (l ++ rest) a w := by
  intro n
  induction n with
  | zero =>
    intro ρ hs l E k w r a rest h hF hok hk
    cases l with
    | nil =>
      simp only [evOps] at h
      exact hk E a w (SameBut.refl E _) hF h
    | cons o l => simp [evOps, fail] at h
  | succ n ih =>
    intro ρ hs l E k w r a rest h hF hok hk
    cases l with
    | nil =>
      simp only [evOps] at h
      exact hk E a w (SameBut.refl E _) hF h
    | cons o l =>
      simp only [evOps] at h
      cases hh : held ops hs E o.guard with
      | true =>
        simp only [hh, cond_true] at h
        obtain ⟨E1, a1, w1, hs1, hF1, h1, hg, hq⟩ := evOp_wp hC hF h
        refine hL.one o _ a w a1 w1 (held_wanted hF hh) (hok o (by simp)) hg hq ?_
        exact ih hs l E1 k w1 r a1 rest h1 hF1 (fun o' ho' => hok o' (by simp [ho'])) fun E2 a2 w2 hs2 => hk E2 a2 w2 (hs1.trans hs2)
      | false =>
        simp only [hh, cond_false] at h
        cases hc : chunkAt ops hs E (o :: l) o.guard with
        | none => simp only [hc] at h; cases h
        | some c =>
          simp only [hc] at h
          obtain ⟨x, y, ho⟩ := chunkAt_ok hc
          obtain ⟨ok1, ok2, ok3⟩ := ok_parts ho hok
          cases hv : asB (opd (forget E c.ops) c.y) with
          | none => simp only [hv] at h; cases h
          | some v =>
            simp only [hv] at h
            have hv' := asB_some hv
            have hslot := slot_get hF ho.get
            -- what stands behind the chunk
            have after : ∀ (a2 : Act) (u : Bool) (w2 : World), Fits N (forget E c.ops) a2 → a2.tmps[c.d]? = some (.bool c.b) → a2.eval (cond c.b x y) = .bool u →
                setD N (forget E c.ops) c.pick.dst ⟨.bool, u⟩ (fun E' => evOps C N ops n hs c.after E' k) w2 = some r → L (c.pick :: c.after ++ rest) a2 w2 := by
              intro a2 u w2 hF2 hd2 hev h2
              refine pick_wp hL ho ok2 hF2 hd2 hev ?_
              obtain ⟨E3, hs3, hF3, h3⟩ := setD_next (o := c.pick) hF2 h2
              exact ih hs c.after E3 k w2 r _ rest h3 hF3 ok3 fun E4 a4 w4 hs4 => hk E4 a4 w4 (chunk_same ho hs3 hs4)
            rw [ho.eq, List.append_assoc]
            have hF1 : c.b = c.want → Fits N (E.set c.d (some ⟨.bool, c.want⟩)) a := fun hb => hF.alias (by rw [Array.getD_eq_getD_getElem?, hslot, hb]; rfl)
            have fell : c.b ≠ c.want → ∃ a2, Fits N (forget E c.ops) a2 ∧ a2.tmps[c.d]? = some (.bool c.b) ∧ a2.eval (cond c.b x y) = .bool v ∧
                ∀ (rest : List Oper) (w : World), L rest a2 w → L (c.ops ++ rest) a w := fun hb => by
              obtain ⟨a2, hF2, hd2, hw2⟩ := falls_wp hL ho.slot hb c.ops [] E a hF ho.falls hslot (by simp)
              refine ⟨a2, hF2, hd2, ?_, hw2⟩
              have := opd_fits hF2 hv'
              rw [ho.ey] at this
              have hbn : c.b = !c.want := by cases h1 : c.b <;> cases h2 : c.want <;> simp_all
              rw [hbn]
              revert this
              cases c.want <;> intro this <;> exact this
            cases hcalm : calmOps C N ops n ((c.j, c.want) :: hs) c.ops (E.set c.d (some ⟨.bool, c.want⟩)) with
            | some E2 =>
              simp only [hcalm] at h
              cases hu : asB (opd E2 c.x) with
              | none => simp only [hu] at h; cases h
              | some u =>
                simp only [hu] at h
                by_cases hb : c.b = c.want
                · obtain ⟨s2, a2, hF2, hw2⟩ := calmOps_wp hC hL _ _ _ _ _ _ hcalm (hF1 hb) ok1
                  obtain ⟨r1, r2⟩ := ran ho hb hF2 s2
                  refine hw2 _ w (after a2 _ w r1 r2 ?_ h)
                  have := opd_fits hF2 (asB_some hu)
                  rw [ho.ex] at this
                  rw [hb, this]
                  cases c.want <;> rfl
                · obtain ⟨a2, hF2, hd2, hev, hw2⟩ := fell hb
                  refine hw2 _ w (after a2 _ w hF2 hd2 ?_ h)
                  rw [hev]
                  have hbn : c.b = !c.want := by cases h1 : c.b <;> cases h2 : c.want <;> simp_all
                  rw [hbn]
                  cases c.want <;> rfl
            | none =>
              simp only [hcalm, bnd_some] at h
              obtain ⟨u, w1, h1, h2⟩ := h
              by_cases hb : c.b = c.want
              · have h3 : evOps C N ops n ((c.j, c.want) :: hs) c.ops (E.set c.d (some ⟨.bool, c.want⟩)) (fun E2 => optM (asB (opd E2 c.x))) w = some (u, w1) := by
                  rw [hb] at h1
                  revert h1
                  cases c.want <;> intro h1 <;> exact h1
                refine ih _ c.ops _ _ w (u, w1) a _ h3 (hF1 hb) ok1 fun E2 a2 w2 hs2 hF2 h4 => ?_
                obtain ⟨h5, rfl⟩ := optM_some.1 h4
                obtain ⟨r1, r2⟩ := ran ho hb hF2 hs2
                refine after a2 _ w2 r1 r2 ?_ h2
                have := opd_fits hF2 (asB_some h5)
                rw [ho.ex] at this
                rw [hb, this]
                rfl
              · obtain ⟨a2, hF2, hd2, hev, hw2⟩ := fell hb
                have hbn : c.b = !c.want := by cases h1 : c.b <;> cases h2 : c.want <;> simp_all
                have h3 : (ret v : M Bool) w = some (u, w1) := by
                  rw [hbn] at h1
                  revert h1
                  cases c.want <;> intro h1 <;> exact h1
                obtain ⟨rfl, rfl⟩ := ret_some.1 h3
                exact hw2 _ w (after a2 _ w hF2 hd2 hev h2)
end
end Go.Sh
