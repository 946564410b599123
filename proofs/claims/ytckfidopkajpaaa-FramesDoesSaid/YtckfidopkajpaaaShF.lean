/-
  What ShB reads off a text is what the text does: a region, guards and all.
-/
import Derived.Test.YtckfidopkajpaaaShE
set_option linter.unusedVariables false
set_option linter.unusedSimpArgs false
namespace Go.Sh
set_option linter.unusedVariables false

theorem slot_get {N : Nat} {E : Env} {a : Act} (hF : Fits N E a) {d : Nat} {b : Bool} (h : E.get d = some ⟨.bool, b⟩) : a.tmps[d]? = some (.bool b) := by
  have := hF.get d _ h
  rw [Array.getD_eq_getD_getElem?] at this
  cases h' : a.tmps[d]? with
  | none => rw [h'] at this; simp [TV.v, inj, enc, undef] at this
  | some v => rw [h'] at this; simpa [TV.v, inj, enc] using this
theorem held_wanted {N : Nat} {E : Env} {a : Act} (hF : Fits N E a) {ops : Array Oper} {hs : List (Nat × Bool)} {o : Oper} (h : held ops hs E o.guard = true) :
    Region.wanted o (yielded ops a.tmps) = true := by
  unfold held at h
  unfold Region.wanted
  split at h
  · rename_i hg; rw [hg]
  · rename_i j v hg
    rw [hg]
    split at h
    · rename_i d hd
      split at h
      · rename_i b hb
        simp only [Bool.and_eq_true, beq_iff_eq] at h
        have h1 := slot_get hF hb
        unfold slotOf at hd
        simp [yielded, hd, h1, h.2]
      · cases h
    · cases h
theorem SameBut.trans {E E1 E2 : Env} {l l' : List Oper} (h : SameBut E E1 l) (h' : SameBut E1 E2 l') : SameBut E E2 (l ++ l') :=
  ⟨h'.1.trans h.1, fun i hi => by rw [h'.2 i fun o ho => hi o (by simp [ho]), h.2 i fun o ho => hi o (by simp [ho])]⟩
theorem get_forget : ∀ (l : List Oper) (E : Env) (i : Nat) (tv : TV), (forget E l).get i = some tv → (∀ o ∈ l, o.dst ≠ some i) ∧ E.get i = some tv
  | [], E, i, tv, h => ⟨by simp, h⟩
  | o :: l, E, i, tv, h => by
    simp only [forget] at h
    split at h
    · rename_i d hd
      obtain ⟨h1, h2⟩ := get_forget l _ i tv h
      rw [get_set] at h2
      split at h2
      · cases h2
      · rename_i hne
        refine ⟨fun o' ho' => ?_, h2⟩
        rcases List.mem_cons.1 ho' with rfl | ho'
        · rw [hd]; simp; exact fun e => hne e.symm
        · exact h1 o' ho'
    · rename_i hd
      obtain ⟨h1, h2⟩ := get_forget l _ i tv h
      refine ⟨fun o' ho' => ?_, h2⟩
      rcases List.mem_cons.1 ho' with rfl | ho'
      · rw [hd]; simp
      · exact h1 o' ho'
theorem forget_same : ∀ (l : List Oper) (E : Env), SameBut E (forget E l) l
  | [], E => SameBut.refl E []
  | o :: l, E => by
    simp only [forget]
    split
    · rename_i d hd
      exact (SameBut.set hd none).trans (forget_same l _)
    · have := forget_same l E
      exact ⟨this.1, fun i hi => this.2 i fun o' ho' => hi o' (by simp [ho'])⟩
theorem splitPick_spec {d : Tmp} : ∀ (l c r : List Oper) (p : Oper) (x y : Operand), splitPick d l = some (c, (p, x, y), r) → l = c ++ p :: r ∧ p.op = .pick (.tmp d) x y
  | [], c, r, p, x, y, h => by simp [splitPick] at h
  | o :: l, c, r, p, x, y, h => by
    simp only [splitPick] at h
    split at h
    · rename_i q hq
      simp only [Option.some.injEq, Prod.mk.injEq] at h
      obtain ⟨rfl, ⟨rfl, rfl⟩, rfl⟩ := h
      refine ⟨rfl, ?_⟩
      unfold isPick at hq
      split at hq
      · rename_i t x' y' ho
        obtain ⟨h1, h2⟩ := cond_some hq
        simp only [Option.some.injEq, Prod.mk.injEq] at h2
        obtain ⟨rfl, rfl⟩ := h2
        have := Nat.eq_of_beq_eq_true h1
        rw [ho, this]
      · cases hq
    · split at h
      · rename_i c' p' r' hs
        simp only [Option.some.injEq, Prod.mk.injEq] at h
        obtain ⟨rfl, rfl, rfl⟩ := h
        obtain ⟨h1, h2⟩ := splitPick_spec l _ _ _ _ _ hs
        exact ⟨by rw [h1]; rfl, h2⟩
      · cases h
structure ChunkOk (ops : Array Oper) (hs : List (Nat × Bool)) (E : Env) (l : List Oper) (c : Chunk) (x y : Operand) : Prop where
  eq : l = c.ops ++ c.pick :: c.after
  pick : c.pick.op = .pick (.tmp c.d) x y
  ex : c.x = cond c.want x y
  ey : c.y = cond c.want y x
  get : E.get c.d = some ⟨.bool, c.b⟩
  slot : slotOf ops c.j = some c.d
  falls : falls ops c.j c.want c.d [] c.ops = true
  held : held ops hs (forget E c.ops) c.pick.guard = true
theorem chunkAt_ok {ops : Array Oper} {hs : List (Nat × Bool)} {E : Env} {l : List Oper} {g : Option (Nat × Bool)} {c : Chunk} (h : chunkAt ops hs E l g = some c) :
    ∃ x y, ChunkOk ops hs E l c x y := by
  unfold chunkAt at h
  split at h
  · cases h
  · rename_i j want
    split at h
    · cases h
    · rename_i d hd
      split at h
      · rename_i b hb
        split at h
        · rename_i cc p x y after hsp
          obtain ⟨h1, h2⟩ := cond_some h
          simp only [Option.some.injEq] at h2
          subst h2
          simp only [Bool.and_eq_true] at h1
          obtain ⟨e1, e2⟩ := splitPick_spec _ _ _ _ _ _ hsp
          exact ⟨x, y, ⟨e1, e2, rfl, rfl, hb, hd, h1.1, h1.2⟩⟩
        · cases h
      · cases h
def Match (ops : Array Oper) (is : List Nat) (l : List Oper) : Prop := is.map (fun i => ops[i]?) = l.map some
theorem Match.cons {ops : Array Oper} {is : List Nat} {o : Oper} {l : List Oper} (h : Match ops is (o :: l)) : ∃ i is', is = i :: is' ∧ ops[i]? = some o ∧ Match ops is' l := by
  cases is with
  | nil => simp [Match] at h
  | cons i is' => simp only [Match, List.map_cons, List.cons.injEq] at h; exact ⟨i, is', rfl, h.1, h.2⟩
theorem Match.nil {ops : Array Oper} {is : List Nat} (h : Match ops is []) : is = [] := by simpa [Match] using h
theorem Match.app {ops : Array Oper} : ∀ {l l' : List Oper} {is : List Nat}, Match ops is (l ++ l') → ∃ i1 i2, is = i1 ++ i2 ∧ Match ops i1 l ∧ Match ops i2 l'
  | [], l', is, h => ⟨[], is, rfl, rfl, h⟩
  | o :: l, l', is, h => by
    obtain ⟨i, is', rfl, h1, h2⟩ := Match.cons h
    obtain ⟨i1, i2, rfl, h3, h4⟩ := Match.app h2
    exact ⟨i :: i1, i2, rfl, by simp only [Match, List.map_cons, h1]; rw [h3], h4⟩
theorem wpOps_one {P : Program} {ops : Array Oper} {Q : Exit → Act → World → Prop} {i : Nat} {rest : List Nat} {a : Act} {w : World} {o : Oper} (ho : ops[i]? = some o)
    (hw : Region.wanted o (yielded ops a.tmps) = true) (h : o.wp P a w (wpOps P ops Q rest) Q) : wpOps P ops Q (i :: rest) a w := by
  simp only [wpOps, ho, hw, if_true]; exact .inl h
theorem wpOps_no {P : Program} {ops : Array Oper} {Q : Exit → Act → World → Prop} {i : Nat} {rest : List Nat} {a : Act} {w : World} {o : Oper} (ho : ops[i]? = some o)
    (hw : Region.wanted o (yielded ops a.tmps) = false) (h : wpOps P ops Q rest (a.put o.dst undef) w) : wpOps P ops Q (i :: rest) a w := by
  simp only [wpOps, ho, hw, Bool.false_eq_true, if_false]; exact h
theorem tmps_put {a : Act} {d i : Nat} {v : Value} (h : i ≠ d) : (a.put (some d) v).tmps[i]? = a.tmps[i]? := by
  simp [Act.put, Array.getElem?_setIfInBounds_ne (Ne.symm h)]
theorem hasNat_mem {i : Nat} : ∀ {l : List Nat}, hasNat i l = true → i ∈ l
  | [], h => by cases h
  | j :: l, h => by
    simp only [hasNat, Bool.or_eq_true] at h
    rcases h with h | h
    · rw [Nat.eq_of_beq_eq_true h]; simp
    · exact List.mem_cons_of_mem _ (hasNat_mem h)
/-- How what is still to be done may be said: one operation that is wanted goes on; one that is not leaves nothing. -/
structure Todo (P : Program) (ops : Array Oper) (ok : Oper → Bool) (L : List Oper → Act → World → Prop) : Prop where
  one : ∀ o rest a w a1 w1, Region.wanted o (yielded ops a.tmps) = true → ok o = true → Goes P o a w a1 w1 → (loud P o.op = false → ∃ v, a1 = a.put o.dst v ∧ Quiet P o a w w1 v) → L rest a1 w1 → L (o :: rest) a w
  no : ∀ o rest a w, Region.wanted o (yielded ops a.tmps) = false → L rest (a.put o.dst undef) w → L (o :: rest) a w
theorem todo_ops {P : Program} {ops : Array Oper} {Q : Exit → Act → World → Prop} : Todo P ops (fun _ => true) fun l a w => ∀ is, Match ops is l → wpOps P ops Q is a w where
  one := fun o rest a w a1 w1 hw _ hg _ h is hm => by
    obtain ⟨i, is', rfl, hi, hm'⟩ := Match.cons hm
    exact wpOps_one hi hw (hg _ _ (h is' hm'))
  no := fun o rest a w hw h is hm => by
    obtain ⟨i, is', rfl, hi, hm'⟩ := Match.cons hm
    exact wpOps_no hi hw (h is' hm')
section
variable {P : Program} {ops : Array Oper} {ok : Oper → Bool} {L : List Oper → Act → World → Prop}
/-- Operations that fall. -/
theorem falls_wp (hL : Todo P ops ok L) {j : Nat} {want b : Bool} {d : Tmp} {N : Nat} (hd : slotOf ops j = some d) (hb : b ≠ want) :
    ∀ (l : List Oper) (dead : List Nat) (E : Env) (a : Act), Fits N E a → falls ops j want d dead l = true → a.tmps[d]? = some (.bool b) →
      (∀ s ∈ dead, ∀ c, a.tmps[s]? ≠ some (.bool c)) →
      ∃ a', Fits N (forget E l) a' ∧ a'.tmps[d]? = some (.bool b) ∧ ∀ (rest : List Oper) (w : World), L rest a' w → L (l ++ rest) a w
  | [], dead, E, a, hF, _, hdb, _ => ⟨a, hF, hdb, fun rest w h => h⟩
  | o :: l, dead, E, a, hF, hf, hdb, hdead => by
    simp only [falls, Bool.and_eq_true] at hf
    obtain ⟨hg, hrest⟩ := hf
    have hnw : Region.wanted o (yielded ops a.tmps) = false := by
      unfold Region.wanted
      split at hg
      · rename_i g v hgv
        rw [hgv]
        simp only [Bool.or_eq_true, Bool.and_eq_true, beq_iff_eq] at hg
        rcases hg with ⟨h1, rfl⟩ | h1
        · have := Nat.eq_of_beq_eq_true h1
          subst this
          unfold slotOf at hd
          simp [yielded, hd, hdb, hb]
        · split at h1
          · rename_i s hs
            have hm := hasNat_mem h1
            unfold slotOf at hs
            simp only [yielded, hs, Option.bind_some]
            have := hdead s hm
            split
            · rename_i c hc
              exact absurd hc (this c)
            · rfl
          · cases h1
      · cases hg
    split at hrest
    · rename_i s hs
      simp only [Bool.and_eq_true, Bool.not_eq_true'] at hrest
      obtain ⟨hsd, hrest⟩ := hrest
      have hne : d ≠ s := by rintro rfl; simp at hsd
      have hF' := hF.putNone s undef
      obtain ⟨a', h1, h2, h3⟩ := falls_wp hL hd hb l (s :: dead) (E.set s none) (a.put (some s) undef) hF' hrest (by rw [tmps_put hne]; exact hdb) (fun t ht c => by
        rcases List.mem_cons.1 ht with rfl | ht
        · simp only [Act.put]
          intro hc
          rcases Nat.lt_or_ge t a.tmps.size with hlt | hge
          · simp [hlt, undef] at hc
          · simp [hge] at hc
        · by_cases hts : t = s
          · subst hts
            simp only [Act.put]
            intro hc
            rcases Nat.lt_or_ge t a.tmps.size with hlt | hge
            · simp [hlt, undef] at hc
            · simp [hge] at hc
          · rw [tmps_put hts]; exact hdead t ht c)
      refine ⟨a', by simp only [forget, hs]; exact h1, h2, fun rest w h => ?_⟩
      refine hL.no o _ a w hnw ?_
      rw [hs]
      exact h3 rest w h
    · rename_i hs
      obtain ⟨a', h1, h2, h3⟩ := falls_wp hL hd hb l dead E a hF hrest hdb hdead
      refine ⟨a', by simp only [forget, hs]; exact h1, h2, fun rest w h => ?_⟩
      refine hL.no o _ a w hnw ?_
      rw [hs]
      exact h3 rest w h
theorem asB_some {o : Option TV} {b : Bool} (h : asB o = some b) : o = some ⟨.bool, b⟩ := by
  unfold asB at h
  split at h
  · simp only [Option.some.injEq] at h; rw [h]
  · cases h
/-- The pick behind operations that did not fall, or did. -/
theorem pick_wp (hL : Todo P ops ok L) {N : Nat} {hs : List (Nat × Bool)} {E : Env} {l : List Oper} {c : Chunk} {x y : Operand} (ho : ChunkOk ops hs E l c x y) (hok : ok c.pick = true)
    {a : Act} (hF : Fits N (forget E c.ops) a) (hd : a.tmps[c.d]? = some (.bool c.b)) {u : Bool} (hu : a.eval (cond c.b x y) = .bool u)
    {rest : List Oper} {w : World} (h : L rest (a.put c.pick.dst (.bool u)) w) : L (c.pick :: rest) a w := by
  have hrun : ∀ w0, (execOp a.eval c.pick).run P w0 = .ok (.value (.bool u)) w0 := ?_
  · exact hL.one _ _ a w _ w (held_wanted hF ho.held) hok (goes_value (hrun w)) (fun _ => ⟨_, rfl, rfl, hrun w, fun _ => hrun⟩) h
  intro w0
  have he : a.eval (.tmp c.d) = .bool c.b := by simp [Act.eval, Array.getD_eq_getD_getElem?, hd]
  simp only [execOp, ho.pick, he, asBool, Sem.run_bind, Sem.run_pure, Result.andThen_ok]
  cases hcb : c.b <;> rw [hcb] at hu <;> simp only [cond_true, cond_false] at hu <;> simp [hu]
end
end Go.Sh
