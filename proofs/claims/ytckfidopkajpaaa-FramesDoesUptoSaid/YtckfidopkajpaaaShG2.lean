/-
  What ShB reads off a region that draws its order is what it does in whatever order.
-/
import Derived.Test.YtckfidopkajpaaaShG
import Derived.OrdersHeld
import Derived.StillTail
set_option linter.unusedVariables false
set_option linter.unusedSimpArgs false
namespace Go.Sh
set_option linter.unusedVariables false

/-! ### Nothing loud in it -/
theorem todo_still {P : Program} {ops : Array Oper} {K : Act → Prop} {w0 : World} : Todo P ops (fun o => !loud P o.op) fun l a w => w = w0 → wpStill P ops w0 K l a where
  one := fun o rest a w a1 w1 hw hok _ hq h hw0 => by
    subst hw0
    obtain ⟨v, rfl, rfl, hr, _⟩ := hq (by simpa using hok)
    simp only [wpStill, hw, if_true, Oper.still, hr, Oper.stillUpon]
    exact ⟨trivial, h rfl⟩
  no := fun o rest a w hw h hw0 => by
    subst hw0
    simp only [wpStill, hw, Bool.false_eq_true, if_false]
    exact h rfl
theorem drawM_some {w w' : World} {u : Unit} : drawM w = some (u, w') ↔ w' = w.drew := by
  simp [drawM, eq_comm]

/-! ### Which worlds an order goes through -/
section
variable {P : Program} {ops : Array Oper} {Q : Exit → Act → World → Prop}
def V (P : Program) (ops : Array Oper) (Q : Exit → Act → World → Prop) (ws : Nat → World) : Nat → Array Bool → Act → Prop
  | 0, listed, a => Region.ready .any ops listed = [] ∧ Q .normal a (ws (cntW P ops listed))
  | f + 1, listed, a => (Region.ready .any ops listed = [] → Q .normal a (ws (cntW P ops listed))) ∧
    ∀ i ∈ Region.ready .any ops listed, wpOp P ops Q i (fun a' w' => w' = ws (cntW P ops (listed.setIfInBounds i true)) ∧ V P ops Q ws f (listed.setIfInBounds i true) a') a (ws (cntW P ops listed))
theorem wpAny_of_V {ws : Nat → World} : ∀ (f : Nat) (listed : Array Bool) (a : Act), V P ops Q ws f listed a → wpAny P .any ops Q f listed a (ws (cntW P ops listed))
  | 0, _, _, h => h
  | f + 1, _, _, h => ⟨h.1, fun i hi => wpOp_mono (fun a' w' h' => by rw [h'.1]; exact wpAny_of_V f _ a' h'.2) (h.2 i hi)⟩
theorem cnt_mono {l l' : Array Bool} (h : ∀ j, l.getD j false = true → l'.getD j false = true) : cntW P ops l ≤ cntW P ops l' := by
  unfold cntW
  refine List.countP_mono_left fun j _ hj => ?_
  simp only [Bool.and_eq_true] at hj ⊢
  exact ⟨h j hj.1, hj.2⟩
theorem set_sub {l : Array Bool} {i j : Nat} (h : l.getD j false = true) : (l.setIfInBounds i true).getD j false = true := getD_set_true h
theorem cnt_set_le (l : Array Bool) (i : Nat) : cntW P ops l ≤ cntW P ops (l.setIfInBounds i true) := cnt_mono fun _ h => set_sub h
theorem cnt_quiet {l : Array Bool} {i : Nat} (h : loudAt P ops i = false) : cntW P ops (l.setIfInBounds i true) = cntW P ops l := by
  unfold cntW
  refine List.countP_congr fun j _ => ?_
  by_cases hj : i = j
  · subst hj; simp [h]
  · rw [getD_set_ne false hj]
theorem countP_one {p q : Nat → Bool} {i : Nat} (hp : p i = false) (hq : q i = true) (h : ∀ j, j ≠ i → q j = p j) : ∀ (l : List Nat), l.Nodup → i ∈ l → l.countP q = l.countP p + 1
  | [], _, hm => by cases hm
  | j :: l, hn, hm => by
    simp only [List.nodup_cons] at hn
    by_cases hji : j = i
    · subst hji
      have : l.countP q = l.countP p := List.countP_congr fun k hk => by
        rw [h k (fun e => hn.1 (e ▸ hk))]
      simp [List.countP_cons, hp, hq, this]
    · have := countP_one hp hq h l hn.2 ((List.mem_cons.1 hm).resolve_left (fun e => hji e.symm))
      simp only [List.countP_cons, h j hji, this]
      omega
theorem cnt_loud {l : Array Bool} {i : Nat} (hs : l.size = ops.size) (hu : l.getD i true = false) (h : loudAt P ops i = true) : cntW P ops (l.setIfInBounds i true) = cntW P ops l + 1 := by
  have hi : i < l.size := by
    rcases Nat.lt_or_ge i l.size with h' | h'
    · exact h'
    · simp [h'] at hu
  unfold cntW
  refine countP_one (i := i) ?_ ?_ (fun j hj => ?_) _ List.nodup_range (by simp; omega)
  · have : l.getD i false = false := by simp [hi] at hu ⊢; exact hu
    simp [this]
  · simp [hi, h]
  · rw [getD_set_ne false (Ne.symm hj)]
theorem V_congr {ws ws' : Nat → World} : ∀ (f : Nat) (listed : Array Bool) (a : Act), (∀ m, cntW P ops listed ≤ m → ws m = ws' m) → V P ops Q ws f listed a → V P ops Q ws' f listed a
  | 0, listed, a, h, hv => ⟨hv.1, by rw [← h _ (Nat.le_refl _)]; exact hv.2⟩
  | f + 1, listed, a, h, hv => by
    refine ⟨fun h0 => by rw [← h _ (Nat.le_refl _)]; exact hv.1 h0, fun i hi => ?_⟩
    rw [← h _ (Nat.le_refl _)]
    refine wpOp_mono (fun a' w' h' => ?_) (hv.2 i hi)
    rw [← h _ (cnt_set_le listed i)]
    exact ⟨h'.1, V_congr f _ a' (fun m hm => h m (Nat.le_trans (cnt_set_le listed i) hm)) h'.2⟩
theorem upToOk_spec {i : Nat} {listed cl : Array Bool} (hs : listed.size = ops.size) (h : upToOk ops i listed cl = true) :
    cl.size = ops.size ∧ (∀ j ∈ Region.ready .any ops cl, j = i) ∧ ∀ j, listed.getD j false = true → cl.getD j false = true := by
  simp only [upToOk, Bool.and_eq_true, List.all_eq_true, List.mem_range, Bool.or_eq_true, Bool.not_eq_true'] at h
  refine ⟨Nat.eq_of_beq_eq_true h.1.1, fun j hj => Nat.eq_of_beq_eq_true (h.1.2 j hj), fun j hj => ?_⟩
  have hlt : j < ops.size := by
    rcases Nat.lt_or_ge j listed.size with h' | h'
    · omega
    · simp [h'] at hj
  rcases h.2 j hlt with h' | h'
  · rw [h'] at hj; cases hj
  · exact h'
/-- **What reads the same in all worlds that may be there ahead of it may be taken first.** -/
theorem V_first {ws : Nat → World} {i : Nat} {oi : Oper} {v : Value} {cl : Array Bool} (hi : ops[i]? = some oi) (hq : loudAt P ops i = false)
    (hsel : ∀ (j : Nat) (o : Oper) cs b, ops[j]? = some o → o.op ≠ .select cs b) (hQ : ∀ c a w, Q (.panic c) (a.put oi.dst v) w → Q (.panic c) a w)
    (hsz : cl.size = ops.size) (hcl : ∀ j ∈ Region.ready .any ops cl, j = i) :
    ∀ (f : Nat) (listed : Array Bool) (a : Act),
      (∀ j oj, ops[j]? = some oj → j ≠ i → listed.getD j true = false → (∀ e ∈ oj.after, Region.binds .any e = true → e.on ≠ i) → oi.apart ops oj = true) →
      (∀ j, listed.getD j false = true → cl.getD j false = true) →
      i ∈ Region.ready .any ops listed → YieldsIf P ops (fun w => ∃ m, cntW P ops listed ≤ m ∧ m ≤ cntW P ops cl ∧ w = ws m) oi v a →
      V P ops Q ws f (listed.setIfInBounds i true) (a.put oi.dst v) → V P ops Q ws (f + 1) listed a := by
  intro f
  induction f with
  | zero =>
    intro listed a _ hsub hr hy H
    refine ⟨fun h => (by rw [h] at hr; cases hr), fun j hj => ?_⟩
    by_cases hji : j = i
    · subst hji
      refine hy.wpOp hi ⟨_, Nat.le_refl _, cnt_mono hsub, rfl⟩ ⟨by rw [cnt_quiet hq], H⟩
    · have := ready_mono hj hji
      rw [H.1] at this
      cases this
  | succ f ih =>
    intro listed a hfree hsub hr hy H
    refine ⟨fun h => (by rw [h] at hr; cases hr), fun j hj => ?_⟩
    by_cases hji : j = i
    · subst hji
      refine hy.wpOp hi ⟨_, Nat.le_refl _, cnt_mono hsub, rfl⟩ ⟨by rw [cnt_quiet hq], H⟩
    · have h1 := H.2 j (ready_mono hj hji)
      rw [cnt_quiet hq] at h1
      obtain ⟨hjun, oj, hoj, hall⟩ := mem_ready.1 hj
      have hnot : ∀ e ∈ oj.after, Region.binds .any e = true → e.on ≠ i := fun e he hb heq => by
        have h1 := hall e he hb
        have h0 := (mem_ready.1 hr).1
        rw [heq] at h1
        rcases Nat.lt_or_ge i listed.size with h' | h'
        · simp [h'] at h0 h1; rw [h0] at h1; cases h1
        · simp [h'] at h1
      have h2 := wpOp_putIf hoj (hfree j oj hoj hji hjun hnot) (fun cs b => hsel i oi cs b hi) (fun cs b => hsel j oj cs b hoj) hQ hy h1
      have hfree' : ∀ k ok, ops[k]? = some ok → k ≠ i → (listed.setIfInBounds j true).getD k true = false →
          (∀ e ∈ ok.after, Region.binds .any e = true → e.on ≠ i) → oi.apart ops ok = true := fun k ok hk hki hun hno => by
        refine hfree k ok hk hki ?_ hno
        by_cases hjk : j = k
        · subst hjk; exact hjun
        · rw [getD_set_ne true hjk] at hun; exact hun
      have hjcl : cl.getD j false = true := by
        cases hc : cl.getD j true with
        | false => exact absurd (hcl j (mem_ready.2 ⟨hc, oj, hoj, fun e he hb => hsub _ (hall e he hb)⟩)) hji
        | true =>
          rcases Nat.lt_or_ge j cl.size with h' | h'
          · simp [h'] at hc ⊢; exact hc
          · have := (Array.getElem?_eq_some_iff.1 hoj).1
            omega
      have hsub' : ∀ k, (listed.setIfInBounds j true).getD k false = true → cl.getD k false = true := fun k hk => by
        by_cases hjk : j = k
        · subst hjk; exact hjcl
        · rw [getD_set_ne false hjk] at hk; exact hsub k hk
      refine wpOp_mono (fun a' w' h3 => ?_) h2
      obtain ⟨hy', hw', hv'⟩ := h3
      rw [Array.setIfInBounds_comm _ _ (Ne.symm hji)] at hw' hv'
      refine ⟨by rw [hw', cnt_quiet hq], ih (listed.setIfInBounds j true) a' hfree' hsub' (ready_mono hr (Ne.symm hji)) ?_ hv'⟩
      exact hy'.imp (fun ⟨h4, h5⟩ => ⟨h4, fun w ⟨m, hm1, hm2, hm3⟩ => h5 w ⟨m, Nat.le_trans (cnt_set_le listed j) hm1, hm2, hm3⟩⟩) id
end

/-- No way out by a panic. -/
def NP (Q : Exit → Act → World → Prop) : Exit → Act → World → Prop := fun e a w => match e with
  | .panic _ => False
  | e => Q e a w
theorem NP.of {Q : Exit → Act → World → Prop} : ∀ (e : Exit) (a : Act) (w : World), NP Q e a w → Q e a w := fun e a w h => by
  cases e <;> first | exact h | exact h.elim
theorem chk_some {t : Ty} {p : Addr} {x : t.den} {w w' : World} {u : Unit} (h : chk t p x w = some (u, w')) : w' = w ∧ ld t p w = some (x, w) := by
  unfold chk at h
  split at h
  · rename_i h1; cases h; exact ⟨rfl, h1⟩
  · cases h
theorem chks_some {m : Nat} : ∀ (l : List Fl) {w w' : World} {u : Unit}, chks m l w = some (u, w') → w' = w ∧ ∀ f ∈ l, m ≤ f.m → ld f.t f.p w = some (f.x, w)
  | [], w, w', u, h => by simp only [chks, ret_some] at h; exact ⟨h.2.symm, fun f hf => by cases hf⟩
  | f :: l, w, w', u, h => by
    simp only [chks] at h
    cases hb : Nat.ble m f.m with
    | true =>
      simp only [hb, cond_true, bnd_some] at h
      obtain ⟨u1, w1, h1, h2⟩ := h
      obtain ⟨rfl, h3⟩ := chk_some h1
      obtain ⟨rfl, h4⟩ := chks_some l h2
      refine ⟨rfl, fun g hg hm => ?_⟩
      rcases List.mem_cons.1 hg with rfl | hg
      · exact h3
      · exact h4 g hg hm
    | false =>
      simp only [hb, cond_false] at h
      obtain ⟨rfl, h4⟩ := chks_some l h
      refine ⟨rfl, fun g hg hm => ?_⟩
      rcases List.mem_cons.1 hg with rfl | hg
      · rw [Nat.ble_eq_true_of_le hm] at hb; cases hb
      · exact h4 g hg hm
theorem loudAt_of (P : Program) {ops : Array Oper} {i : Nat} {o : Oper} (h : ops[i]? = some o) : loudAt P ops i = loud P o.op := by simp [loudAt, h]
section
variable {C : Ctx} {N : Nat} {ops : Array Oper} {Q : Exit → Act → World → Prop}
theorem wantedE_spec {N : Nat} {E : Env} {a : Act} (hF : Fits N E a) {g : Option (Nat × Bool)} {b : Bool} (h : wantedE ops E g = some b) {o : Oper} (ho : o.guard = g) : Region.wanted o (yielded ops a.tmps) = b := by
  unfold wantedE at h
  unfold Region.wanted
  rw [ho]
  split at h
  · simp only [Option.some.injEq] at h; exact h
  · rename_i j v
    split at h
    · rename_i d hd
      split at h
      · rename_i c hc
        simp only [Option.some.injEq] at h
        have h1 := slot_get hF hc
        unfold slotOf at hd
        simp only [yielded, hd, Option.bind_some, h1]
        exact h
      · rename_i c hc
        simp only [Option.some.injEq] at h
        subst h
        have h1 : a.tmps.getD d undef = .tuple #[] := hF.get _ _ hc
        unfold slotOf at hd
        have h2 : yielded ops a.tmps j = none := by
          simp only [yielded, hd, Option.bind_some]
          cases he : a.tmps[d]? with
          | none => rfl
          | some u =>
            have : a.tmps.getD d undef = u := by rw [Array.getD_eq_getD_getElem?, he]; rfl
            rw [h1] at this
            subst this
            rfl
        show (yielded ops a.tmps j == some v) = false
        rw [h2]; rfl
      · cases h
    · cases h
theorem dropD_fits {N : Nat} {E E' : Env} {a : Act} (hF : Fits N E a) {dst : Option Tmp} (h : dropD N E dst = some E') : Fits N E' (a.put dst undef) ∧ E'.bd = E.bd := by
  unfold dropD at h
  split at h
  · simp only [Option.some.injEq] at h; subst h; exact ⟨hF, rfl⟩
  · obtain ⟨h1, h2⟩ := cond_some h
    simp only [Option.some.injEq] at h2
    subst h2
    exact ⟨hF.put (Nat.le_of_ble_eq_true h1) (fun tv htv => by simp only [Option.some.injEq] at htv; subst htv; rfl), rfl⟩
theorem evDraw_V (hC : C.Ok) (hsel : Region.noSelect ops = true) {ρ : Type} {k : Env → M ρ} {r : ρ × World} {base : ((Nat → Option TV) × List Deferred) × List Df} (hk : ∀ E1 a1 w1, E1.bd = base → Fits N E1 a1 → k E1 w1 = some r → Q .normal a1 w1) :
    ∀ (perm : List DI) (listed : Array Bool) (fl : List Fl) (E : Env) (a : Act) (w : World), evDraw C N ops perm listed fl E k w = some r → Fits N E a → E.bd = base → listed.size = ops.size →
      ∃ ws : Nat → World, ws (cntW C.P ops listed) = w ∧ (∀ f ∈ fl, ∀ m, cntW C.P ops listed < m → m ≤ f.m → m ≤ cntW C.P ops listed + louds C.P ops perm → ld f.t f.p (ws m) = some (f.x, ws m)) ∧
        V C.P ops (NP Q) ws (lenD perm) listed a
  | [], listed, fl, E, a, w, h, hF, hb, hsz => by
    simp only [evDraw] at h
    cases he : (Region.ready .any ops listed).isEmpty with
    | false => rw [he] at h; cases h
    | true =>
      simp only [he, cond_true] at h
      refine ⟨fun _ => w, rfl, fun f hf m h1 h2 h3 => ?_, by simpa using he, hk E a w hb hF h⟩
      simp only [louds] at h3
      omega
  | .s d :: perm, listed, fl, E, a, w, h, hF, hb, hsz => by
    simp only [evDraw] at h
    change Runs _ _ _ at h
    split at h
    · rename_i b hd
      have hslot := slot_get hF hd
      cases b with
      | true =>
        have h' : evDraw C N ops perm listed fl (E.set d (some ⟨.bool, true⟩)) k w = some r := h
        exact evDraw_V hC hsel hk perm listed fl _ a w h' (hF.alias (by rw [Array.getD_eq_getD_getElem?, hslot]; rfl)) hb hsz
      | false =>
        have h' : evDraw C N ops perm listed fl (E.set d (some ⟨.bool, false⟩)) k w = some r := h
        exact evDraw_V hC hsel hk perm listed fl _ a w h' (hF.alias (by rw [Array.getD_eq_getD_getElem?, hslot]; rfl)) hb hsz
    · cases h
  | .o i :: perm, listed, fl, E, a, w, h, hF, hb, hsz => by
    simp only [evDraw] at h
    cases ho : ops[i]? with
    | none => simp only [ho] at h; cases h
    | some o =>
      simp only [ho] at h
      have hla := loudAt_of C.P ho
      cases hg : wantedE ops E o.guard with
      | none => simp only [hg] at h; cases h
      | some wd =>
      cases wd with
      | false =>
        simp only [hg] at h
        have hwd : Region.wanted o (yielded ops a.tmps) = false := wantedE_spec hF hg rfl
        cases hdr : dropD N E o.dst with
        | none => simp only [hdr] at h; cases h
        | some E' =>
          simp only [hdr] at h
          obtain ⟨hF', hb'⟩ := dropD_fits hF hdr
          cases hl : loud C.P o.op with
          | true =>
            simp only [hl, cond_true] at h
            rw [hl] at hla
            cases hon : isOnly i (Region.ready .any ops listed) with
            | false => rw [hon] at h; cases h
            | true =>
              simp only [hon, cond_true] at h
              have hr : Region.ready .any ops listed = [i] := by
                unfold isOnly at hon
                split at hon
                · rename_i j hj; rw [hj, Nat.eq_of_beq_eq_true hon]
                · cases hon
              have hun : listed.getD i true = false := (mem_ready.1 (by rw [hr]; simp : i ∈ Region.ready .any ops listed)).1
              have hc1 := cnt_loud hsz hun hla
              simp only [bnd_some] at h
              obtain ⟨u, w2, h2, h3⟩ := h
              obtain ⟨rfl, h4⟩ := chks_some _ h2
              obtain ⟨ws, hw1, hfl, hv⟩ := evDraw_V hC hsel hk perm _ fl E' _ w2 h3 hF' (hb'.trans hb) (by simpa using hsz)
              refine ⟨fun m => if m ≤ cntW C.P ops listed then w2 else ws m, by simp, fun f hf m hm1 hm2 hm3 => ?_, ?_⟩
              · have : ¬ m ≤ cntW C.P ops listed := by omega
                simp only [this, if_false]
                simp only [louds, hla, cond_true] at hm3
                by_cases hme : m = cntW C.P ops listed + 1
                · rw [hme, ← hc1, hw1]
                  exact h4 f hf (by omega)
                · exact hfl f hf m (by omega) hm2 (by omega)
              · refine ⟨fun h0 => by (rw [hr] at h0; cases h0), fun j hj => ?_⟩
                rw [hr] at hj
                simp only [List.mem_singleton] at hj
                subst hj
                simp only [Nat.le_refl, if_true]
                unfold wpOp
                simp only [ho]
                rw [if_neg (by simp [hwd])]
                refine ⟨?_, ?_⟩
                · rw [hc1, if_neg (by omega), ← hc1, hw1]
                · refine V_congr _ _ _ (fun m hm => ?_) hv
                  rw [if_neg (by omega)]
          | false =>
            simp only [hl, cond_false] at h
            rw [hl] at hla
            cases hrf : ((Region.ready .any ops listed).contains i && Region.free .any ops listed i) with
            | false => rw [hrf] at h; cases h
            | true =>
              simp only [hrf, cond_true] at h
              simp only [Bool.and_eq_true] at hrf
              have hmem : i ∈ Region.ready .any ops listed := by simpa using hrf.1
              have hcq : cntW C.P ops (listed.setIfInBounds i true) = cntW C.P ops listed := cnt_quiet hla
              have hlou : louds C.P ops (.o i :: perm) = louds C.P ops perm := by simp [louds, hla]
              obtain ⟨ws, hw1, hfl, hv⟩ := evDraw_V hC hsel hk perm _ fl E' _ w h hF' (hb'.trans hb) (by simpa using hsz)
              rw [hcq] at hw1 hfl
              refine ⟨ws, hw1, fun f hf m hm1 hm2 hm3 => hfl f hf m hm1 hm2 (by rw [← hlou]; exact hm3), ?_⟩
              refine V_first (cl := (Array.range ops.size).map fun j => !Nat.beq j i) ho hla (Region.noSelect_spec hsel) (fun c a w hx => hx) (by simp) ?_ (lenD perm) listed a (Region.free_spec ho hrf.2) ?_ hmem ?_ hv
              · intro j hj
                have h5 := (mem_ready.1 hj).1
                by_cases hjlt : j < ops.size
                · by_cases hji : j = i
                  · exact hji
                  · simp [hjlt, beq_ne hji] at h5
                · simp [hjlt] at h5
              · intro j hj
                have hji : j ≠ i := by
                  rintro rfl
                  have h6 := (mem_ready.1 hmem).1
                  rw [getD_both h6] at hj
                  cases hj
                have hjlt : j < ops.size := by
                  rcases Nat.lt_or_ge j listed.size with h' | h'
                  · omega
                  · simp [h'] at hj
                simp [hjlt, beq_ne hji]
              · exact .inr ⟨hwd, rfl⟩
      | true =>
        simp only [hg] at h
        have hwd0 : Region.wanted o (yielded ops a.tmps) = true := wantedE_spec hF hg rfl
        cases hl : loud C.P o.op with
        | true =>
          simp only [hl, cond_true] at h
          rw [hl] at hla
          cases hon : isOnly i (Region.ready .any ops listed) with
          | false => rw [hon] at h; cases h
          | true =>
            simp only [hon, cond_true] at h
            have hr : Region.ready .any ops listed = [i] := by
              unfold isOnly at hon
              split at hon
              · rename_i j hj; rw [hj, Nat.eq_of_beq_eq_true hon]
              · cases hon
            have hun : listed.getD i true = false := (mem_ready.1 (by rw [hr]; simp : i ∈ Region.ready .any ops listed)).1
            have hc1 := cnt_loud hsz hun hla
            obtain ⟨E1, a1, w1, hs1, hF1, h1, hgo, _⟩ := evOp_wp hC hF h
            simp only [bnd_some] at h1
            obtain ⟨u, w2, h2, h3⟩ := h1
            obtain ⟨rfl, h4⟩ := chks_some _ h2
            obtain ⟨ws, hw1, hfl, hv⟩ := evDraw_V hC hsel hk perm _ fl E1 a1 w2 h3 hF1 (hs1.1.trans hb) (by simpa using hsz)
            refine ⟨fun m => if m ≤ cntW C.P ops listed then w else ws m, by simp, fun f hf m hm1 hm2 hm3 => ?_, ?_⟩
            · have : ¬ m ≤ cntW C.P ops listed := by omega
              simp only [this, if_false]
              simp only [louds, hla, cond_true] at hm3
              by_cases hme : m = cntW C.P ops listed + 1
              · rw [hme, ← hc1, hw1]
                exact h4 f hf (by omega)
              · exact hfl f hf m (by omega) hm2 (by omega)
            · refine ⟨fun h0 => by (rw [hr] at h0; cases h0), fun j hj => ?_⟩
              rw [hr] at hj
              simp only [List.mem_singleton] at hj
              subst hj
              simp only [Nat.le_refl, if_true]
              unfold wpOp
              simp only [ho]
              rw [if_pos hwd0]
              refine .inl (hgo _ _ ⟨?_, ?_⟩)
              · rw [hc1, if_neg (by omega), ← hc1, hw1]
              · refine V_congr _ _ _ (fun m hm => ?_) hv
                rw [if_neg (by omega)]
        | false =>
          simp only [hl, cond_false] at h
          rw [hl] at hla
          cases hrf : ((Region.ready .any ops listed).contains i && Region.free .any ops listed i) with
          | false => rw [hrf] at h; cases h
          | true =>
            simp only [hrf, cond_true] at h
            simp only [Bool.and_eq_true] at hrf
            have hmem : i ∈ Region.ready .any ops listed := by simpa using hrf.1
            have hcq : cntW C.P ops (listed.setIfInBounds i true) = cntW C.P ops listed := cnt_quiet hla
            have hwd := hwd0
            have hlou : louds C.P ops (.o i :: perm) = louds C.P ops perm := by simp [louds, hla]
            by_cases hld : ∃ T x, o.op = .load T x
            · obtain ⟨T, x, hop⟩ := hld
              simp only [hop] at h
              cases hup : (upToOk ops i listed (upTo ops i listed) && Nat.ble (cntW C.P ops (upTo ops i listed)) (cntW C.P ops listed + louds C.P ops perm)) with
              | false => rw [hup] at h; cases h
              | true =>
                simp only [hup, cond_true] at h
                simp only [Bool.and_eq_true] at hup
                obtain ⟨hup1, hup2⟩ := hup
                have hup2 := Nat.le_of_ble_eq_true hup2
                obtain ⟨u1, u2, u3⟩ := upToOk_spec hsz hup1
                obtain ⟨b, hb', h⟩ := opM_some h
                cases ht : C.ty T with
                | none => simp only [ht] at h; cases h
                | some t =>
                  simp only [ht] at h
                  obtain ⟨p, hp, h⟩ := adrM_some h
                  simp only [bnd_some] at h
                  obtain ⟨y, w1, h1, h2⟩ := h
                  obtain ⟨rfl, _⟩ := ld_run hC ht h1
                  obtain ⟨E1, hs1, hF1, h3⟩ := setD_next (o := o) hF h2
                  obtain ⟨ws, hw1, hfl, hv⟩ := evDraw_V hC hsel hk perm _ _ E1 _ w1 h3 hF1 (hs1.1.trans hb) (by simpa using hsz)
                  rw [hcq] at hw1 hfl
                  refine ⟨ws, hw1, fun f hf m hm1 hm2 hm3 => hfl f (by simp [hf]) m hm1 hm2 (by rw [← hlou]; exact hm3), ?_⟩
                  refine V_first ho hla (Region.noSelect_spec hsel) (fun c a w hx => hx) u1 u2 (lenD perm) listed a (Region.free_spec ho hrf.2) u3 hmem ?_ hv
                  refine .inl ⟨hwd, fun w0 hw0 => ?_⟩
                  obtain ⟨m, hm1, hm2, rfl⟩ := hw0
                  have hldm : ld t p (ws m) = some (y, ws m) := by
                    by_cases hme : m = cntW C.P ops listed
                    · rw [hme, hw1]; exact h1
                    · exact hfl ⟨_, t, p, y⟩ List.mem_cons_self m (by omega) hm2 (by omega)
                  obtain ⟨_, hr⟩ := ld_run hC ht hldm
                  simp only [execOp, hop, Sem.run_bind, Instr.loadAt, opd_fits hF hb', hp, Instr.sureAddr, Sem.run_pure, Result.andThen_ok, hr]
                  rfl
            · have h' : evOp C N E o (fun E' => evDraw C N ops perm (listed.setIfInBounds i true) fl E' k) w = some r := by
                revert h
                cases hop : o.op <;> intro h <;> first | exact h | exact absurd ⟨_, _, hop⟩ hld
              obtain ⟨E1, a1, w1, hs1, hF1, h3, _, hq⟩ := evOp_wp hC hF h'
              obtain ⟨v, rfl, rfl, hr, hall⟩ := hq hl
              obtain ⟨ws, hw1, hfl, hv⟩ := evDraw_V hC hsel hk perm _ fl E1 _ w1 h3 hF1 (hs1.1.trans hb) (by simpa using hsz)
              rw [hcq] at hw1 hfl
              refine ⟨ws, hw1, fun f hf m hm1 hm2 hm3 => hfl f hf m hm1 hm2 (by rw [← hlou]; exact hm3), ?_⟩
              have hallw := hall fun T x hop => hld ⟨T, x, hop⟩
              refine V_first (cl := (Array.range ops.size).map fun j => !Nat.beq j i) ho hla (Region.noSelect_spec hsel) (fun c a w hx => hx) (by simp) ?_ (lenD perm) listed a (Region.free_spec ho hrf.2) ?_ hmem ?_ hv
              · intro j hj
                have h5 := (mem_ready.1 hj).1
                by_cases hjlt : j < ops.size
                · by_cases hji : j = i
                  · exact hji
                  · simp [hjlt, beq_ne hji] at h5
                · simp [hjlt] at h5
              · intro j hj
                have hji : j ≠ i := by
                  rintro rfl
                  have h6 := (mem_ready.1 hmem).1
                  rw [getD_both h6] at hj
                  cases hj
                have hjlt : j < ops.size := by
                  rcases Nat.lt_or_ge j listed.size with h' | h'
                  · omega
                  · simp [h'] at hj
                simp [hjlt, beq_ne hji]
              · exact .inl ⟨hwd, fun w0 _ => hallw w0⟩
end
end Go.Sh
