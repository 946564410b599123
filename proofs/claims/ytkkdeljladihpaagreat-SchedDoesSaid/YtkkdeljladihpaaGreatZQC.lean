/-
  Parts of the proof: ZQA, ZQB, ZQC. It states what the functions do; no further condition.
-/
import Derived.Test.YtkkdeljladihpaaGreatZSY
import Derived.Test.YtkkdeljladihpaaGreatZ02
set_option linter.unusedVariables false
set_option linter.unusedSimpArgs false
/-
  slices.SortFunc at the timers: that it ends. Its smallest steps.
-/
namespace Go.Proofs.YtkkdeljladihpaaGreat
open Go.Sh Go.RowKit X
set_option maxRecDepth 100000
def orL : List Int → Int
  | [] => 0
  | x :: r => if x ≠ 0 then x else orL r
abbrev TmV := Int × (Int × Int)
def cmpI (x y : Int) : Int := if x < y then -1 else if x > y then 1 else 0
def cmpV (u v : TmV) : Int := orL [cmpI u.1 v.1, cmpI u.2.1 v.2.1]
theorem Gcmp (x y : Int) : Gf48_cmp_Compare x y = cmpI x y := by
  unfold Gf48_cmp_Compare Gf84_cmp_isNaN cmpI
  have h : ∀ z : Int, (z != z) = false := fun z => by simp
  rw [h, h]
  by_cases h1 : x < y
  · simp [h1]
  · by_cases h2 : x > y
    · simp [h1, h2]
    · simp [h1, h2]
section
variable {w0 w : World} {T0 T : Hp} {α β : Type} {Q : α → World → Prop}
theorem or_spec (C : Tr en w0 T0 w T) {s : Sl} {l : List Int} (h : Rd T s l) (hl : l.length ≤ 1000000) {f : Int → M α} (hq : Ok (f (orL l)) w Q) : Ok (bnd (f47_cmp_Or s) f) w Q := by
  unfold f47_cmp_Or
  refine ok_bnd.2 (ok_loopN (fun m (i' : Int) w' => ∃ i : Nat, i' = i ∧ i ≤ l.length ∧ m = l.length - i ∧ orL l = orL (l.drop i) ∧ w' = w) ?_ l.length 0 w ⟨0, rfl, Nat.zero_le _, by omega, rfl, rfl⟩)
  rintro m i' w' ⟨i, rfl, hi, rfl, he, rfl⟩
  by_cases hlt : i < l.length
  · refine ok_true (by rw [h.1]; simpa using hlt) ?_
    refine ok_rdE C h (List.getElem?_eq_getElem hlt) rfl ?_
    rw [List.drop_eq_getElem_cons hlt, show orL (l[i] :: l.drop (i + 1)) = if l[i] ≠ 0 then l[i] else orL (l.drop (i + 1)) from rfl] at he
    by_cases h0 : l[i] = 0
    · rw [if_neg (by simpa using h0)] at he
      exact ok_false (by simp [h0]) (ok_ret.2 ⟨l.length - (i + 1), by omega, i + 1, by rw [wI (by omega)]; omega, hlt, rfl, he, rfl⟩)
    · rw [if_pos h0] at he
      exact ok_true (by simpa using h0) (ok_ret.2 (by rw [← he]; exact hq))
  · refine ok_false (by rw [h.1]; simpa using hlt) (ok_ret.2 ?_)
    rw [List.drop_of_length_le (by omega)] at he
    rw [show orL [] = 0 from rfl] at he
    rw [← he]; exact hq
theorem cmp_spec (u v : TmV) (w : World) : Ok (f46_State_2 u v) w fun r w' => r = cmpV u v ∧ Below w.heap.size w w' := by
  unfold f46_State_2
  have C : Tr en w (fun _ => none) w (fun _ => none) := Tr.refl fun b o h => by cases h
  refine ok_tnew C (.tms [⟨u.1, u.2.1, u.2.2⟩]) rfl fun c1 w1 hc1 C1 => ?_
  refine ok_tnew C1 (.tms [⟨v.1, v.2.1, v.2.2⟩]) rfl fun c2 w2 hc2 C2 => ?_
  have g2 := put_eq (put (fun _ => none) c1 (Ob.tms [⟨u.1, u.2.1, u.2.2⟩])) c2 (Ob.tms [⟨v.1, v.2.1, v.2.2⟩])
  have g1 : put (put (fun _ => none) c1 (Ob.tms [⟨u.1, u.2.1, u.2.2⟩])) c2 (Ob.tms [⟨v.1, v.2.1, v.2.2⟩]) c1 = some (Ob.tms [⟨u.1, u.2.1, u.2.2⟩]) := put_new (put_eq _ _ _) hc2
  generalize put (put (fun _ => none) c1 (Ob.tms [⟨u.1, u.2.1, u.2.2⟩])) c2 (Ob.tms [⟨v.1, v.2.1, v.2.2⟩]) = T at C2 g1 g2
  clear C C1 hc1 hc2
  simp only [bnd_as, bnd_ret]
  refine ok_tord C2 fun o w3 C => ?_
  refine ok_tld C g1 (x := u.1) (by rfl) ?_
  refine ok_tld C g2 (x := v.1) (by rfl) ?_
  refine ok_tld C g1 (x := u.2.1) (by rfl) ?_
  refine ok_tld C g2 (x := v.2.1) (by rfl) ?_
  refine ok_tchk C g2 (by rfl) ?_
  refine ok_tchk C g1 (by rfl) ?_
  rw [Gcmp, Gcmp]
  refine ok_bnd.2 (ok_buildL2 slt31 (.int .i64 (cmpI u.1 v.1)) (.int .i64 (cmpI u.2.1 v.2.1)) rfl rfl ?_)
  have C' := C.alloc (.ints (.out 1) [cmpI u.1 v.1, cmpI u.2.1 v.2.1]) 3
  have e12 : (en (.ints (.out 1) [cmpI u.1 v.1, cmpI u.2.1 v.2.1])).toArray = [Value.int .i64 (cmpI u.1 v.1), Value.int .i64 (cmpI u.2.1 v.2.1)].toArray := rfl
  rw [e12] at C'
  have h2 : Rd (put T w3.heap.size (.ints (.out 1) [cmpI u.1 v.1, cmpI u.2.1 v.2.1])) ⟨some ⟨w3.heap.size, 0, none⟩, 2, 2⟩ [cmpI u.1 v.1, cmpI u.2.1 v.2.1] := ⟨rfl, .inr ⟨_, 0, _, _, rfl, put_eq _ _ _, fun i v hv => by rw [Nat.zero_add]; exact hv⟩⟩
  refine or_spec C' h2 (by simp) (ok_ret.2 ⟨rfl, bel C'⟩)
end
/-- A row of timers lies in a block. -/
def Rs (b L : Nat) (w : World) : Prop := ∃ M : List Tm, M.length = L ∧ blk w b = some (en (.tms M)).toArray ∧ cln w b = true
structure Rg (s : Sl) (b L : Nat) : Prop where
  a : s.a = some ⟨b, 0, none⟩
  n : s.len ≤ L
  small : s.len ≤ 100000
/-- From one world to another: that row may have turned. -/
structure G (b L : Nat) (w w' : World) : Prop where
  rs : Rs b L w'
  keep : Keep (fun k => k = b) w w'
theorem G.refl {b L : Nat} {w : World} (h : Rs b L w) : G b L w w := ⟨h, Keep.refl _ _⟩
theorem G.trans {b L : Nat} {w w1 w2 : World} (h : G b L w w1) (k : G b L w1 w2) : G b L w w2 := ⟨k.rs, h.keep.trans k.keep fun i hi => .inl hi⟩
theorem Rs.lt {b L : Nat} {w : World} (h : Rs b L w) : b < w.heap.size := by obtain ⟨M, _, h2, _⟩ := h; exact blk_lt h2
theorem G.below {b L : Nat} {w w' : World} (h : Rs b L w) (hb : Below w.heap.size w w') : G b L w w' := by
  have hlt := h.lt
  obtain ⟨M, h1, h2, h3⟩ := h
  exact ⟨⟨M, h1, (Go.Sh.Below.blk hb hlt).trans h2, (Go.Sh.Below.cln hb hlt).trans h3⟩, (Keep.of_size hb).mono fun _ _ h => h.elim⟩
theorem G.drew {b L : Nat} {w : World} (h : Rs b L w) : G b L w w.drew := G.below h ((Below.refl _ _).drew)
section
variable {w0 w : World} {s : Sl} {b L : Nat} {α β : Type} {Q : α → World → Prop}
theorem ok_qord (h : Rs b L w) {F : FuncId} {n : Nat} {ops : Array Oper} {f : List Nat → M α} (hq : ∀ o, Ok (f o) w.drew Q) : Ok (bnd (ordM F n ops) f) w Q := ok_bnd.2 ⟨_, _, rfl, hq _⟩
theorem ok_qld (R : Rg s b L) (h : Rs b L w) {x : Int} (h0 : 0 ≤ x) (h1 : x < s.len) {f : TmV → M α} (hq : ∀ v, Ok (f v) w Q) : Ok (bnd (ix 3 s x) fun (p : Addr) => bnd (ld (.agg (.pair (.int .i64) (.pair (.int .i64) (.int .i64)))) p) f) w Q := by
  obtain ⟨M, g1, g2, g3⟩ := h
  have hn := R.n
  refine ok_ixN R.a h0 h1 ?_
  have hM : M[x.toNat]? = some M[x.toNat] := List.getElem?_eq_getElem (by omega)
  have r1 := flat_rdv (g := Tm.en) (n := 3) (k := 0) (fun _ => rfl) hM (by decide) (tm_agg _)
  rw [Nat.add_zero] at r1
  exact ok_bnd.2 (ok_ld g2 r1 (hq _))
theorem ok_qwr (R : Rg s b L) (h : Rs b L w) {x : Int} (h0 : 0 ≤ x) (h1 : x < s.len) (v : TmV) {f : Unit → M α} (hq : ∀ w', G b L w w' → Ok (f ()) w' Q) : Ok (bnd (ix 3 s x) fun (p : Addr) => bnd (wrs p 0 [.int .i64 v.1, .int .i64 v.2.1, .int .i64 v.2.2]) f) w Q := by
  obtain ⟨M, g1, g2, g3⟩ := h
  have hn := R.n
  refine ok_ixN R.a h0 h1 ?_
  have hlt : x.toNat < M.length := by omega
  have hsz : (en (.tms M)).length = 3 * M.length := flat_length (g := Tm.en) (n := 3) (fun _ => rfl) M
  have hle : 3 * x.toNat + 3 ≤ 3 * M.length := by rw [← Nat.mul_succ]; exact Nat.mul_le_mul_left _ hlt
  have hs := flat_spl (g := Tm.en) (n := 3) (i := x.toNat) (k := 0) (a' := ⟨v.1, v.2.1, v.2.2⟩) (vs := [.int .i64 v.1, .int .i64 v.2.1, .int .i64 v.2.2]) (fun _ => rfl) (List.getElem?_eq_getElem hlt) (by show 0 + 3 ≤ 3; decide) rfl
  rw [Nat.add_zero] at hs
  refine ok_bnd.2 (ok_wrs g2 (cln_fre g3) (by simp only [List.size_toArray]; rw [hsz]; simp; omega) rfl ?_)
  rw [splice_spl _ _ _ (by rw [hsz]; simp; omega)]
  have e : spl (en (.tms M)) (3 * x.toNat) [.int .i64 v.1, .int .i64 v.2.1, .int .i64 v.2.2] = en (.tms (M.set x.toNat ⟨v.1, v.2.1, v.2.2⟩)) := hs
  rw [e]
  refine hq _ ⟨⟨M.set x.toNat ⟨v.1, v.2.1, v.2.2⟩, by rw [List.length_set]; exact g1, by rw [blk_setBlk w b _ _ g2 b, if_pos rfl], by rw [cln_setBlk]; exact g3⟩, keep_setBlk w b _⟩
theorem ok_q38 (h : Rs b L w) (u v : TmV) {f : Int → M α} (hq : ∀ r w', G b L w w' → Ok (f r) w' Q) : Ok (bnd (f46_State_2 u v) f) w Q :=
  ok_bnd.2 (ok_mono (cmp_spec u v w) fun r w' h' => hq r w' (G.below h h'.2))
/-- Two held against each other. -/
theorem ok_qcmp (R : Rg s b L) (h : Rs b L w) {i j : Int} (hi : 0 ≤ i ∧ i < s.len) (hj : 0 ≤ j ∧ j < s.len) {F : FuncId} {m : Nat} {ops : Array Oper} {g : Int → Bool} {f : Bool → M α} (hq : ∀ r w', G b L w w' → Ok (f r) w' Q) :
    Ok (bnd (bnd (ordM F m ops) fun (_ : List Nat) => bnd (ix 3 s i) fun (p : Addr) => bnd (ld (.agg (.pair (.int .i64) (.pair (.int .i64) (.int .i64)))) p) fun (v : TmV) => bnd (ix 3 s j) fun (p' : Addr) => bnd (ld (.agg (.pair (.int .i64) (.pair (.int .i64) (.int .i64)))) p') fun (v' : TmV) => bnd (f46_State_2 v v') fun (r : Int) => bnd (ret ()) fun (_ : Unit) => ret (g r)) f) w Q := by
  refine ok_bnd.2 (ok_qord h fun o => ?_)
  have h1 := (G.drew h)
  refine ok_qld R h1.rs hi.1 hi.2 fun u => ok_qld R h1.rs hj.1 hj.2 fun v => ok_q38 h1.rs u v fun r w' h2 => ?_
  exact ok_bnd.2 (ok_ret.2 (ok_ret.2 (hq _ _ (h1.trans h2))))
theorem ok_qcmpC (R : Rg s b L) (h : Rs b L w) {i j : Int} {c : Bool} (hi : c = true → 0 ≤ i ∧ i < s.len) (hj : c = true → 0 ≤ j ∧ j < s.len) {F : FuncId} {m : Nat} {ops : Array Oper} {g : Int → Bool} {f : Bool → M α} (hq : ∀ r w', (r = true → c = true) → G b L w w' → Ok (f r) w' Q) :
    Ok (bnd (bnd (ordM F m ops) fun (_ : List Nat) => cnd c (bnd (ix 3 s i) fun (p : Addr) => bnd (ld (.agg (.pair (.int .i64) (.pair (.int .i64) (.int .i64)))) p) fun (v : TmV) => bnd (ix 3 s j) fun (p' : Addr) => bnd (ld (.agg (.pair (.int .i64) (.pair (.int .i64) (.int .i64)))) p') fun (v' : TmV) => bnd (f46_State_2 v v') fun (r : Int) => bnd (ret ()) fun (_ : Unit) => ret (g r)) (bnd (ret ()) fun (_ : Unit) => ret false)) f) w Q := by
  refine ok_bnd.2 (ok_qord h fun o => ?_)
  have h1 := (G.drew h)
  cases c with
  | false => exact ok_false rfl (ok_bnd.2 (ok_ret.2 (ok_ret.2 (hq _ _ (fun h => by cases h) h1))))
  | true =>
    refine ok_true rfl ?_
    refine ok_qld R h1.rs (hi rfl).1 (hi rfl).2 fun u => ok_qld R h1.rs (hj rfl).1 (hj rfl).2 fun v => ok_q38 h1.rs u v fun r w' h2 => ?_
    exact ok_bnd.2 (ok_ret.2 (ok_ret.2 (hq _ _ (fun _ => rfl) (h1.trans h2))))
/-- Two put in each other's place. -/
theorem ok_qsw (R : Rg s b L) (h : Rs b L w) {i j i' j' : Int} (hi : 0 ≤ i ∧ i < s.len) (hj : 0 ≤ j ∧ j < s.len) (hi' : 0 ≤ i' ∧ i' < s.len) (hj' : 0 ≤ j' ∧ j' < s.len) {F : FuncId} {m : Nat} {ops : Array Oper} {f : Unit → M α} (hq : ∀ w', G b L w w' → Ok (f ()) w' Q) :
    Ok (bnd (bnd (ordM F m ops) fun (_ : List Nat) => bnd (ix 3 s i) fun (p : Addr) => bnd (ld (.agg (.pair (.int .i64) (.pair (.int .i64) (.int .i64)))) p) fun (v : TmV) => bnd (ix 3 s j) fun (p' : Addr) => bnd (ld (.agg (.pair (.int .i64) (.pair (.int .i64) (.int .i64)))) p') fun (v' : TmV) =>
      bnd (ix 3 s i') fun (p : Addr) => bnd (wrs p 0 [.int .i64 v.1, .int .i64 v.2.1, .int .i64 v.2.2]) fun (_ : Unit) => bnd (ret ()) fun (_ : Unit) => bnd (ix 3 s j') fun (p' : Addr) => bnd (wrs p' 0 [.int .i64 v'.1, .int .i64 v'.2.1, .int .i64 v'.2.2]) fun (_ : Unit) => bnd (ret ()) fun (_ : Unit) => ret ()) f) w Q := by
  refine ok_bnd.2 (ok_qord h fun o => ?_)
  have h1 := (G.drew h)
  refine ok_qld R h1.rs hi.1 hi.2 fun u => ok_qld R h1.rs hj.1 hj.2 fun v => ?_
  refine ok_qwr R h1.rs hi'.1 hi'.2 u fun w2 h2 => ?_
  refine ok_bnd.2 (ok_ret.2 ?_)
  refine ok_qwr R h2.rs hj'.1 hj'.2 v fun w3 h3 => ?_
  exact ok_bnd.2 (ok_ret.2 (ok_ret.2 (hq _ ((h1.trans h2).trans h3))))
end
end Go.Proofs.YtkkdeljladihpaaGreat

/-
  slices.SortFunc at the timers: insertion sort, heap sort, turning round, the choice of a pivot end.
-/
namespace Go.Proofs.YtkkdeljladihpaaGreat
open Go.Sh Go.RowKit X
set_option maxRecDepth 100000
section
variable {w0 w : World} {s : Sl} {b L : Nat} {α β : Type} {Q : α → World → Prop}
theorem insertion_spec (R : Rg s b L) (h : Rs b L w) {x1 x2 : Int} (h1 : 0 ≤ x1) (h2 : x2 ≤ s.len) (h3 : x1 ≤ 100000) : Ok (f94_insertion s x1 x2 ()) w fun _ w' => G b L w w' := by
  unfold f94_insertion
  have hn := R.n
  have hs := R.small
  rw [wI (n := x1 + 1) (by omega)]
  refine ok_loopN (fun m (s1 : Int) w' => G b L w w' ∧ x1 < s1 ∧ s1 ≤ 100002 ∧ m = (x2 - s1).toNat) ?_ _ _ w ⟨G.refl h, by omega, by omega, rfl⟩
  rintro m s1 w1 ⟨g1, h4, h5, rfl⟩
  by_cases hlt : s1 < x2
  · refine ok_true (by simpa using hlt) ?_
    refine ok_mono (Q := fun r w' => r = Sum.inl (s1 + 1) ∧ G b L w w') ?_ ?_
    · refine ok_loopN (fun m (s2 : Int) w' => G b L w w' ∧ x1 ≤ s2 ∧ s2 ≤ s1 ∧ m = (s2 - x1).toNat) ?_ _ _ w1 ⟨g1, by omega, by omega, rfl⟩
      rintro m s2 w2 ⟨g2, h6, h7, rfl⟩
      rw [wI (n := s2 - 1) (by omega), wI (n := s1 + 1) (by omega)]
      refine ok_qcmpC R g2.rs (fun hc => by simp only [gt_iff_lt, decide_eq_true_eq] at hc; omega) (fun hc => by simp only [gt_iff_lt, decide_eq_true_eq] at hc; omega) fun r w3 hr g3 => ?_
      cases r with
      | true =>
        have hc := hr rfl
        simp only [gt_iff_lt, decide_eq_true_eq] at hc
        refine ok_true rfl ?_
        refine ok_qsw R g3.rs (by omega) (by omega) (by omega) (by omega) fun w4 g4 => ?_
        exact ok_ret.2 ⟨_, by omega, (g2.trans g3).trans g4, by omega, by omega, rfl⟩
      | false => exact ok_false rfl (ok_ret.2 ⟨rfl, g2.trans g3⟩)
    · rintro r w2 ⟨rfl, g2⟩
      exact ⟨_, by omega, g2, by omega, by omega, rfl⟩
  · exact ok_false (by simpa using hlt) (ok_ret.2 g1)
theorem siftDown_spec (R : Rg s b L) (h : Rs b L w) {lo hi first : Int} (h1 : 0 ≤ lo) (h2 : 0 ≤ first) (h3 : first + hi ≤ s.len) (h4 : lo ≤ 100000) : Ok (f106_siftDown s lo hi first ()) w fun _ w' => G b L w w' := by
  unfold f106_siftDown
  have hn := R.n
  have hs := R.small
  refine ok_loopN (fun m (root : Int) w' => G b L w w' ∧ 0 ≤ root ∧ root ≤ 100000 ∧ m = (hi - root).toNat) ?_ _ _ w ⟨G.refl h, h1, h4, rfl⟩
  rintro m root w1 ⟨g1, h5, h6, rfl⟩
  rw [wI (n := 2 * root) (by omega), wI (n := 2 * root + 1) (by omega), wI (n := 2 * root + 1 + 1) (by omega)]
  by_cases hd : 2 * root + 1 ≥ hi
  · exact ok_true (by simpa using hd) (ok_ret.2 g1)
  refine ok_false (by simpa using hd) ?_
  rw [wI (n := first + (2 * root + 1)) (by omega), wI (n := first + (2 * root + 1) + 1) (by omega)]
  refine ok_qcmpC R g1.rs (fun hc => by omega) (fun hc => by simp only [decide_eq_true_eq] at hc; omega) fun r w2 hr g2 => ?_
  have g12 := g1.trans g2
  have key : ∀ c : Int, root < c → c < hi → Ok (bnd (bnd (ordM 106 5 (regionIn 5 Tryz.f106)) fun (o11 : List Nat) =>
      bnd (ix 3 s (IntKind.wrap .i64 (first + root))) fun (p12 : Addr) =>
      bnd (ld (.agg (.pair (.int .i64) (.pair (.int .i64) (.int .i64)))) p12) fun (v13 : (Int × (Int × Int))) =>
      bnd (ix 3 s (IntKind.wrap .i64 (first + c))) fun (p14 : Addr) =>
      bnd (ld (.agg (.pair (.int .i64) (.pair (.int .i64) (.int .i64)))) p14) fun (v15 : (Int × (Int × Int))) =>
      bnd (f46_State_2 v13 v15) fun (r16 : Int) =>
      bnd (ret ()) fun _ =>
      ret (!(decide (r16 < (0 : Int))))) fun (s10 : Bool) =>
      cnd s10 (
      ret (Sum.inr ())) (
      bnd (
      bnd (ordM 106 6 (regionIn 6 Tryz.f106)) fun (o18 : List Nat) =>
      bnd (ix 3 s (IntKind.wrap .i64 (first + c))) fun (p19 : Addr) =>
      bnd (ld (.agg (.pair (.int .i64) (.pair (.int .i64) (.int .i64)))) p19) fun (v20 : (Int × (Int × Int))) =>
      bnd (ix 3 s (IntKind.wrap .i64 (first + root))) fun (p21 : Addr) =>
      bnd (ld (.agg (.pair (.int .i64) (.pair (.int .i64) (.int .i64)))) p21) fun (v22 : (Int × (Int × Int))) =>
      bnd (ix 3 s (IntKind.wrap .i64 (first + root))) fun (p23 : Addr) =>
      bnd (wrs p23 0 [.int .i64 v20.1, .int .i64 v20.2.1, .int .i64 v20.2.2]) fun _ =>
      bnd (ret ()) fun _ =>
      bnd (ix 3 s (IntKind.wrap .i64 (first + c))) fun (p24 : Addr) =>
      bnd (wrs p24 0 [.int .i64 v22.1, .int .i64 v22.2.1, .int .i64 v22.2.2]) fun _ =>
      bnd (ret ()) fun _ =>
      ret ()) fun (s17 : Unit) =>
      ret (Sum.inl c : Int ⊕ Unit))) w2 fun r w' => match r with | .inl s' => ∃ n', n' < (hi - root).toNat ∧ G b L w w' ∧ 0 ≤ s' ∧ s' ≤ 100000 ∧ n' = (hi - s').toNat | .inr x => G b L w w' := by
    intro c hc1 hc2
    rw [wI (n := first + root) (by omega), wI (n := first + c) (by omega)]
    refine ok_qcmp R g2.rs (by omega) (by omega) fun r w3 g3 => ?_
    cases r with
    | true => exact ok_true rfl (ok_ret.2 (g12.trans g3))
    | false =>
      refine ok_false rfl ?_
      refine ok_qsw R g3.rs (by omega) (by omega) (by omega) (by omega) fun w4 g4 => ?_
      exact ok_ret.2 ⟨_, by omega, (g12.trans g3).trans g4, by omega, by omega, rfl⟩
  cases r with
  | true =>
    have hc := hr rfl
    simp only [decide_eq_true_eq] at hc
    refine ok_bnd.2 (ok_true rfl (ok_ret.2 ?_))
    refine ok_mono (key (2 * root + 1 + 1) (by omega) (by omega)) fun r w' hq => ?_
    cases r with
    | inl s' => exact hq
    | inr x => exact hq
  | false =>
    refine ok_bnd.2 (ok_false rfl (ok_ret.2 ?_))
    refine ok_mono (key (2 * root + 1) (by omega) (by omega)) fun r w' hq => ?_
    cases r with
    | inl s' => exact hq
    | inr x => exact hq
theorem heapSort_spec (R : Rg s b L) (h : Rs b L w) {x1 x2 : Int} (h1 : 0 ≤ x1) (h2 : x1 ≤ x2) (h3 : x2 ≤ s.len) : Ok (f95_heapSort s x1 x2 ()) w fun _ w' => G b L w w' := by
  unfold f95_heapSort
  have hn := R.n
  have hs := R.small
  rw [wI (n := x2 - x1) (by omega), wI (n := x2 - x1 - 1) (by omega)]
  have hd : Int.tdiv (x2 - x1 - 1) 2 ≤ 100000 ∧ -1 ≤ Int.tdiv (x2 - x1 - 1) 2 := by
    rcases Int.lt_or_le 0 (x2 - x1) with h | h
    · rw [Int.tdiv_eq_ediv_of_nonneg (by omega)]; omega
    · have : x2 - x1 - 1 = -1 := by omega
      rw [this]; decide
  rw [wI (n := Int.tdiv (x2 - x1 - 1) 2) (by omega)]
  refine ok_loopN (fun m (i : Int) w' => G b L w w' ∧ -1 ≤ i ∧ i ≤ 100000 ∧ m = (i + 1).toNat) ?_ _ _ w ⟨G.refl h, hd.2, hd.1, rfl⟩
  rintro m i w1 ⟨g1, h4, h5, rfl⟩
  by_cases hi : i ≥ 0
  · refine ok_true (by simpa using hi) ?_
    refine ok_bnd.2 (ok_mono (siftDown_spec R g1.rs (by omega) h1 (by omega) (by omega)) fun _ w2 g2 => ?_)
    rw [wI (by omega)]
    exact ok_ret.2 ⟨_, by omega, g1.trans g2, by omega, by omega, rfl⟩
  · refine ok_false (by simpa using hi) ?_
    refine ok_bnd.2 (ok_mono (Q := fun _ w' => G b L w w') ?_ fun _ w' g => ok_ret.2 g)
    refine ok_loopN (fun m (i : Int) w' => G b L w w' ∧ -1 ≤ i ∧ i < x2 - x1 + 0 ∧ m = (i + 1).toNat) ?_ _ _ w1 ⟨g1, by omega, by omega, rfl⟩
    rintro m j w2 ⟨g2, h6, h7, rfl⟩
    by_cases hj : j ≥ 0
    · refine ok_true (by simpa using hj) ?_
      rw [wI (n := x1 + j) (by omega)]
      refine ok_qsw R g2.rs (by omega) (by omega) (by omega) (by omega) fun w3 g3 => ?_
      refine ok_bnd.2 (ok_mono (siftDown_spec R g3.rs (by omega) h1 (by omega) (by omega)) fun _ w4 g4 => ?_)
      rw [wI (by omega)]
      exact ok_ret.2 ⟨_, by omega, (g2.trans g3).trans g4, by omega, by omega, rfl⟩
    · exact ok_false (by simpa using hj) (ok_ret.2 g2)
theorem reverse_spec (R : Rg s b L) (h : Rs b L w) {x1 x2 : Int} (h1 : 0 ≤ x1) (h2 : x1 ≤ x2) (h3 : x2 ≤ s.len) : Ok (f98_reverseRange s x1 x2 ()) w fun _ w' => G b L w w' := by
  unfold f98_reverseRange
  have hn := R.n
  have hs := R.small
  rw [wI (n := x2 - 1) (by omega)]
  refine ok_loopN (fun m (st : Int × Int) w' => G b L w w' ∧ 0 ≤ st.1 ∧ st.1 ≤ 200000 ∧ st.2 < s.len ∧ -200000 ≤ st.2 ∧ m = (st.2 - st.1 + 200000).toNat) ?_ _ _ w ⟨G.refl h, h1, by omega, by show x2 - 1 < _; omega, by show _ ≤ x2 - 1; omega, rfl⟩
  rintro m ⟨i, j⟩ w1 ⟨g1, h4, h5, h6, h7, rfl⟩
  simp only at h4 h5 h6 h7
  by_cases hlt : i < j
  · refine ok_true (by simpa using hlt) ?_
    dsimp only
    refine ok_qsw R g1.rs (by omega) (by omega) (by omega) (by omega) fun w2 g2 => ?_
    rw [wI (n := i + 1) (by omega), wI (n := j - 1) (by omega)]
    exact ok_ret.2 ⟨_, by omega, g1.trans g2, by show 0 ≤ i + 1; omega, by show i + 1 ≤ _; omega, by show j - 1 < _; omega, by show _ ≤ j - 1; omega, rfl⟩
  · exact ok_false (by simpa using hlt) (ok_ret.2 g1)
/-- A counter beside the row. -/
def Cs (c : Nat) (w : World) : Prop := ∃ n : Int, blk w c = some #[Value.int .i64 n] ∧ cln w c = true
structure H (b L c : Nat) (w w' : World) : Prop where
  rs : Rs b L w'
  cs : Cs c w'
  keep : Keep (fun k => k = b ∨ k = c) w w'
theorem H.trans {c : Nat} {w w1 w2 : World} (h : H b L c w w1) (k : H b L c w1 w2) : H b L c w w2 := ⟨k.rs, k.cs, h.keep.trans k.keep fun i hi => .inl hi⟩
theorem G.h {c : Nat} {w w' : World} (g : G b L w w') (hc : Cs c w) (hne : c ≠ b) : H b L c w w' := by
  obtain ⟨n, h1, h2⟩ := hc
  have hk := g.keep.block c (blk_lt h1) hne
  exact ⟨g.rs, ⟨n, (blk_of hk).trans h1, by unfold cln at h2 ⊢; rw [hk]; exact h2⟩, g.keep.mono fun _ _ h => .inl h⟩
theorem order2_spec (R : Rg s b L) {c : Nat} (hne : c ≠ b) (h : Rs b L w) (hc : Cs c w) (P : Int → Prop) (hP : ∀ x, P x → 0 ≤ x ∧ x < s.len) {x1 x2 : Int} (h1 : P x1) (h2 : P x2) : Ok (f111_order2 s x1 x2 (some ⟨c, 0, none⟩) ()) w fun r w' => P r.1 ∧ P r.2 ∧ H b L c w w' := by
  unfold f111_order2
  refine ok_qcmp R h (hP _ h2) (hP _ h1) fun r w1 g1 => ?_
  have k1 := g1.h hc hne
  cases r with
  | false => exact ok_false rfl (ok_ret.2 ⟨h1, h2, k1⟩)
  | true =>
    refine ok_true rfl (ok_drfS ?_)
    obtain ⟨n, c1, c2⟩ := k1.cs
    refine ok_bnd.2 (ok_ld (x := n) c1 (by rfl) ?_)
    refine ok_drfS (ok_bnd.2 (ok_wrs (l := [Value.int .i64 (IntKind.wrap .i64 (n + 1))]) c1 (cln_fre c2) (by simp) rfl (ok_ret.2 ⟨h2, h1, k1.trans ⟨?_, ?_, ?_⟩⟩)))
    · obtain ⟨M, m1, m2, m3⟩ := k1.rs
      exact ⟨M, m1, by rw [blk_setBlk _ _ _ _ c1, if_neg hne.symm]; exact m2, by rw [cln_setBlk]; exact m3⟩
    · exact ⟨IntKind.wrap .i64 (n + 1), by rw [blk_setBlk _ _ _ _ c1, if_pos rfl]; rfl, by rw [cln_setBlk]; exact c2⟩
    · exact (keep_setBlk w1 c _).mono fun _ _ h => .inr h
theorem median_spec (R : Rg s b L) {c : Nat} (hne : c ≠ b) (h : Rs b L w) (hc : Cs c w) (P : Int → Prop) (hP : ∀ x, P x → 0 ≤ x ∧ x < s.len) {x1 x2 x3 : Int} (h1 : P x1) (h2 : P x2) (h3 : P x3) : Ok (f110_median s x1 x2 x3 (some ⟨c, 0, none⟩) ()) w fun r w' => P r ∧ H b L c w w' := by
  unfold f110_median
  refine ok_bnd.2 (ok_mono (order2_spec R hne h hc P hP h1 h2) fun r w1 ⟨p1, p2, k1⟩ => ?_)
  refine ok_bnd.2 (ok_mono (order2_spec R hne k1.rs k1.cs P hP p2 h3) fun r2 w2 ⟨p3, p4, k2⟩ => ?_)
  refine ok_bnd.2 (ok_mono (order2_spec R hne k2.rs k2.cs P hP p1 p3) fun r3 w3 ⟨p5, p6, k3⟩ => ?_)
  exact ok_ret.2 ⟨p6, (k1.trans k2).trans k3⟩
theorem medianAdj_spec (R : Rg s b L) {c : Nat} (hne : c ≠ b) (h : Rs b L w) (hc : Cs c w) (P : Int → Prop) (hP : ∀ x, P x → 0 ≤ x ∧ x < s.len) {x : Int} (h0 : 0 ≤ x ∧ x ≤ 200000) (h1 : P (x - 1)) (h2 : P x) (h3 : P (x + 1)) : Ok (f109_medianAdj s x (some ⟨c, 0, none⟩) ()) w fun r w' => P r ∧ H b L c w w' := by
  unfold f109_medianAdj
  rw [wI (n := x - 1) (by omega), wI (n := x + 1) (by omega)]
  exact ok_bnd.2 (ok_mono (median_spec R hne h hc P hP h1 h2 h3) fun r w1 k => ok_ret.2 k)
theorem choosePivot_spec (R : Rg s b L) (h : Rs b L w) {x1 x2 : Int} (h1 : 0 ≤ x1) (h2 : x1 < x2) (h3 : x2 ≤ s.len) : Ok (f97_choosePivot s x1 x2 ()) w fun r w' => x1 ≤ r.1 ∧ r.1 < x2 ∧ G b L w w' := by
  unfold f97_choosePivot
  have hn := R.n
  have hs := R.small
  have hbl := h.lt
  rw [wI (n := x2 - x1) (by omega)]
  have e4 : IntKind.wrap .i64 (Int.tdiv (x2 - x1) 4) = (x2 - x1) / 4 := by rw [Int.tdiv_eq_ediv_of_nonneg (by omega), wI (by omega)]
  rw [e4, wI (n := (x2 - x1) / 4 * 1) (by omega), wI (n := (x2 - x1) / 4 * 2) (by omega), wI (n := (x2 - x1) / 4 * 3) (by omega), wI (n := x1 + (x2 - x1) / 4 * 1) (by omega), wI (n := x1 + (x2 - x1) / 4 * 2) (by omega), wI (n := x1 + (x2 - x1) / 4 * 3) (by omega)]
  refine ok_bnd.2 (ok_newC.2 ?_)
  have hne : w.heap.size ≠ b := by omega
  have gb : Below w.heap.size w (w.alloc (.cells [Value.int .i64 0].toArray 3)) := (Below.refl _ _).alloc (Nat.le_refl _) _
  have ga := G.below h gb
  have hc0 : Cs w.heap.size (w.alloc (.cells [Value.int .i64 0].toArray 3)) := ⟨0, by rw [blk_alloc, if_pos rfl], by rw [cln_alloc, if_pos rfl]⟩
  generalize w.alloc (.cells [Value.int .i64 0].toArray 3) = wa at ga hc0
  have ka : H b L w.heap.size w wa := ⟨ga.rs, hc0, ga.keep.mono fun _ _ h => .inl h⟩
  have P : (∀ x, (x1 ≤ x ∧ x < x2) → 0 ≤ x ∧ x < s.len) := fun x hx => by omega
  refine ok_bnd.2 (ok_mono (Q := fun r w' => (x1 ≤ r ∧ r < x2) ∧ H b L w.heap.size w w') ?_ ?_)
  · by_cases h8 : x2 - x1 ≥ 8
    · refine ok_true (by simpa using h8) ?_
      refine ok_bnd.2 (ok_mono (Q := fun r w' => (x1 ≤ r.1 ∧ r.1 < x2) ∧ (x1 ≤ r.2.1 ∧ r.2.1 < x2) ∧ (x1 ≤ r.2.2 ∧ r.2.2 < x2) ∧ H b L w.heap.size w w') ?_ ?_)
      · by_cases h50 : x2 - x1 ≥ 50
        · refine ok_true (by simpa using h50) ?_
          refine ok_bnd.2 (ok_mono (medianAdj_spec R hne ka.rs ka.cs (fun x => x1 ≤ x ∧ x < x2) P (by omega) (by omega) (by omega) (by omega)) fun r1 w1 ⟨p1, k1⟩ => ?_)
          refine ok_bnd.2 (ok_mono (medianAdj_spec R hne k1.rs k1.cs (fun x => x1 ≤ x ∧ x < x2) P (by omega) (by omega) (by omega) (by omega)) fun r2 w2 ⟨p2, k2⟩ => ?_)
          refine ok_bnd.2 (ok_mono (medianAdj_spec R hne k2.rs k2.cs (fun x => x1 ≤ x ∧ x < x2) P (by omega) (by omega) (by omega) (by omega)) fun r3 w3 ⟨p3, k3⟩ => ?_)
          exact ok_ret.2 ⟨p1, p2, p3, ((ka.trans k1).trans k2).trans k3⟩
        · exact ok_false (by simpa using h50) (ok_ret.2 ⟨by simp only; omega, by simp only; omega, by simp only; omega, ka⟩)
      · rintro r w1 ⟨p1, p2, p3, k1⟩
        refine ok_bnd.2 (ok_mono (median_spec R hne k1.rs k1.cs (fun x => x1 ≤ x ∧ x < x2) P p1 p2 p3) fun r2 w2 ⟨p, k2⟩ => ok_ret.2 ⟨p, k1.trans k2⟩)
    · exact ok_false (by simpa using h8) (ok_ret.2 ⟨by omega, ka⟩)
  · rintro r w1 ⟨p, k1⟩
    obtain ⟨n, c1, c2⟩ := k1.cs
    have g1 : G b L w w1 := ⟨k1.rs, ⟨k1.keep.os, k1.keep.tape, k1.keep.output, k1.keep.size, fun k hk hn => k1.keep.block k hk (by omega)⟩⟩
    refine ok_bnd.2 (ok_ld (x := n) c1 (by rfl) ?_)
    refine ok_cnd.2 ⟨fun _ => ok_ret.2 ⟨p.1, p.2, g1⟩, fun _ => ok_cnd.2 ⟨fun _ => ok_ret.2 ⟨p.1, p.2, g1⟩, fun _ => ok_ret.2 ⟨p.1, p.2, g1⟩⟩⟩
end
end Go.Proofs.YtkkdeljladihpaaGreat

/-
  slices.SortFunc at the timers: the partitions end.
-/
namespace Go.Proofs.YtkkdeljladihpaaGreat
open Go.Sh Go.RowKit X
set_option maxRecDepth 100000
section
variable {w0 w : World} {s : Sl} {b L : Nat} {α β : Type} {Q : α → World → Prop}
theorem partialInsertion_spec (R : Rg s b L) (h : Rs b L w) {x1 x2 : Int} (h1 : 0 ≤ x1) (h2 : x1 < x2) (h3 : x2 ≤ s.len) : Ok (f99_partialInsertion s x1 x2 ()) w fun _ w' => G b L w w' := by
  unfold f99_partialInsertion
  have hn := R.n
  have hs := R.small
  rw [wI (n := x1 + 1) (by omega), wI (n := x2 - x1) (by omega)]
  refine ok_loopN (fun m (st : Int × Int) w' => G b L w w' ∧ x1 + 1 ≤ st.1 ∧ st.1 ≤ x2 ∧ 0 ≤ st.2 ∧ st.2 ≤ 5 ∧ m = (5 - st.2).toNat) ?_ _ _ w ⟨G.refl h, Int.le_refl _, by show x1 + 1 ≤ x2; omega, by show (0 : Int) ≤ 0; decide, by show (0 : Int) ≤ 5; decide, rfl⟩
  rintro m ⟨i0, st⟩ w1 ⟨g1, h4, h5, h6, h7, rfl⟩
  simp only at h4 h5 h6 h7
  dsimp only
  by_cases hst : st < 5
  · refine ok_true (by simpa using hst) ?_
    refine ok_loopN (fun m (i : Int) w' => G b L w w' ∧ x1 + 1 ≤ i ∧ i ≤ x2 ∧ m = (x2 - i).toNat) ?_ _ _ w1 ⟨g1, h4, h5, rfl⟩
    rintro m i w2 ⟨g2, h8, h9, rfl⟩
    rw [wI (n := i - 1) (by omega), wI (n := i + 1) (by omega), wI (n := i - x1) (by omega), wI (n := x2 - i) (by omega), wI (n := st + 1) (by omega)]
    refine ok_qcmpC R g2.rs (fun hc => by simp only [decide_eq_true_eq] at hc; omega) (fun hc => by simp only [decide_eq_true_eq] at hc; omega) fun r w3 hr g3 => ?_
    have g23 := g2.trans g3
    cases r with
    | true =>
      have hc := hr rfl
      simp only [decide_eq_true_eq] at hc
      exact ok_true rfl (ok_ret.2 ⟨_, by omega, g23, by omega, by omega, rfl⟩)
    | false =>
      refine ok_false rfl ?_
      refine ok_bnd.2 ?_
      by_cases hix : i = x2
      · exact ok_true (by simpa using hix) (ok_ret.2 (ok_ret.2 g23))
      refine ok_false (by simpa using hix) ?_
      refine ok_cnd.2 ⟨fun _ => ok_ret.2 (ok_ret.2 g23), fun _ => ?_⟩
      refine ok_qsw R g3.rs (by omega) (by omega) (by omega) (by omega) fun w4 g4 => ?_
      have g24 := g23.trans g4
      refine ok_bnd.2 (ok_mono (Q := fun _ w' => G b L w w') ?_ fun _ w5 g5 => ?_)
      · refine ok_cnd.2 ⟨fun hc => ?_, fun _ => ok_ret.2 g24⟩
        refine ok_bnd.2 (ok_mono (Q := fun _ w' => G b L w w') ?_ fun _ w5 g5 => ok_ret.2 g5)
        refine ok_loopN (fun m (j : Int) w' => G b L w w' ∧ 0 ≤ j ∧ j < x2 ∧ m = j.toNat) ?_ _ _ w4 ⟨g24, by omega, by omega, rfl⟩
        rintro m j w5 ⟨g5, h10, h11, rfl⟩
        by_cases hj : j ≥ 1
        · refine ok_true (by simpa using hj) ?_
          rw [wI (n := j - 1) (by omega)]
          refine ok_qcmp R g5.rs (by omega) (by omega) fun r w6 g6 => ?_
          cases r with
          | true => exact ok_true rfl (ok_ret.2 (g5.trans g6))
          | false =>
            refine ok_false rfl ?_
            refine ok_qsw R g6.rs (by omega) (by omega) (by omega) (by omega) fun w7 g7 => ?_
            exact ok_ret.2 ⟨_, by omega, (g5.trans g6).trans g7, by omega, by omega, rfl⟩
        · exact ok_false (by simpa using hj) (ok_ret.2 g5)
      · refine ok_bnd.2 (ok_mono (Q := fun _ w' => G b L w w') ?_ fun _ w6 g6 => ?_)
        · refine ok_cnd.2 ⟨fun hc => ?_, fun _ => ok_ret.2 g5⟩
          refine ok_bnd.2 (ok_mono (Q := fun _ w' => G b L w w') ?_ fun _ w5 g5 => ok_ret.2 g5)
          refine ok_loopN (fun m (j : Int) w' => G b L w w' ∧ 1 ≤ j ∧ j ≤ x2 ∧ m = (x2 - j).toNat) ?_ _ _ w5 ⟨g5, by omega, by omega, rfl⟩
          rintro m j w5 ⟨g5, h10, h11, rfl⟩
          by_cases hj : j < x2
          · refine ok_true (by simpa using hj) ?_
            rw [wI (n := j - 1) (by omega), wI (n := j + 1) (by omega)]
            refine ok_qcmp R g5.rs (by omega) (by omega) fun r w6 g6 => ?_
            cases r with
            | true => exact ok_true rfl (ok_ret.2 (g5.trans g6))
            | false =>
              refine ok_false rfl ?_
              refine ok_qsw R g6.rs (by omega) (by omega) (by omega) (by omega) fun w7 g7 => ?_
              exact ok_ret.2 ⟨_, by omega, (g5.trans g6).trans g7, by omega, by omega, rfl⟩
          · exact ok_false (by simpa using hj) (ok_ret.2 g5)
        · exact ok_ret.2 (ok_ret.2 ⟨_, by omega, g6, by show x1 + 1 ≤ i; omega, by show i ≤ x2; omega, by show 0 ≤ st + 1; omega, by show st + 1 ≤ 5; omega, rfl⟩)
  · exact ok_false (by simpa using hst) (ok_ret.2 g1)
theorem partitionEqual_spec (R : Rg s b L) (h : Rs b L w) {x1 x2 p : Int} (h1 : 0 ≤ x1) (h2 : x1 ≤ p) (h3 : p < x2) (h4 : x2 ≤ s.len) : Ok (f100_partitionEqual s x1 x2 p ()) w fun r w' => x1 < r ∧ r ≤ x2 ∧ G b L w w' := by
  unfold f100_partitionEqual
  have hn := R.n
  have hs := R.small
  rw [wI (n := x1 + 1) (by omega), wI (n := x2 - 1) (by omega)]
  refine ok_qsw R h (by omega) (by omega) (by omega) (by omega) fun w1 g1 => ?_
  refine ok_loopN (fun m (st : Int × Int) w' => G b L w w' ∧ x1 + 1 ≤ st.1 ∧ st.1 ≤ x2 ∧ x1 ≤ st.2 ∧ st.2 ≤ x2 - 1 ∧ m = (st.2 - x1 + 1).toNat) ?_ _ _ w1 ⟨g1, Int.le_refl _, by show x1 + 1 ≤ x2; omega, by show x1 ≤ x2 - 1; omega, Int.le_refl _, rfl⟩
  rintro m ⟨i0, j0⟩ w2 ⟨g2, a1, a2, a3, a4, rfl⟩
  simp only at a1 a2 a3 a4
  dsimp only
  refine ok_loopN (fun m (i : Int) w' => G b L w w' ∧ x1 + 1 ≤ i ∧ i ≤ x2 ∧ m = (x2 - i).toNat) ?_ _ _ w2 ⟨g2, a1, a2, rfl⟩
  rintro m i w3 ⟨g3, b1, b2, rfl⟩
  rw [wI (n := i + 1) (by omega)]
  refine ok_qcmpC R g3.rs (fun hc => by omega) (fun hc => by simp only [decide_eq_true_eq] at hc; omega) fun r w4 hr g4 => ?_
  have g34 := g3.trans g4
  cases r with
  | true =>
    have hc := hr rfl
    simp only [decide_eq_true_eq] at hc
    exact ok_true rfl (ok_ret.2 ⟨_, by omega, g34, by omega, by omega, rfl⟩)
  | false =>
    refine ok_false rfl ?_
    refine ok_bnd.2 (ok_mono (Q := fun (r : (Int × Int) ⊕ Int) w' => match r with | .inl st => (G b L w w' ∧ x1 + 1 ≤ st.1 ∧ st.1 ≤ x2 ∧ x1 ≤ st.2 ∧ st.2 ≤ j0 - 1) | .inr r => x1 < r ∧ r ≤ x2 ∧ G b L w w') ?_ ?_)
    · refine ok_loopN (fun m (j : Int) w' => G b L w w' ∧ x1 ≤ j ∧ j ≤ j0 ∧ m = (j - x1 + 1).toNat) ?_ _ _ w4 ⟨g34, a3, Int.le_refl _, rfl⟩
      rintro m j w5 ⟨g5, c1, c2, rfl⟩
      rw [wI (n := j - 1) (by omega)]
      refine ok_qcmpC R g5.rs (fun hc => by omega) (fun hc => by simp only [decide_eq_true_eq] at hc; omega) fun r w6 hr g6 => ?_
      have g56 := g5.trans g6
      cases r with
      | true =>
        have hc := hr rfl
        simp only [decide_eq_true_eq] at hc
        exact ok_true rfl (ok_ret.2 ⟨_, by omega, g56, by omega, by omega, rfl⟩)
      | false =>
        refine ok_false rfl ?_
        refine ok_bnd.2 ?_
        by_cases hij : i > j
        · exact ok_true (by simpa using hij) (ok_ret.2 (ok_ret.2 ⟨by omega, by omega, g56⟩))
        · refine ok_false (by simpa using hij) ?_
          refine ok_qsw R g6.rs (by omega) (by omega) (by omega) (by omega) fun w7 g7 => ?_
          exact ok_ret.2 (ok_ret.2 ⟨g56.trans g7, by show x1 + 1 ≤ i + 1; omega, by show i + 1 ≤ x2; omega, by show x1 ≤ j - 1; omega, by show j - 1 ≤ j0 - 1; omega⟩)
    · rintro r w5 hr
      cases r with
      | inl st =>
        obtain ⟨d1, d2, d3, d4, d5⟩ := hr
        exact ok_ret.2 ⟨_, by omega, d1, d2, d3, d4, by omega, rfl⟩
      | inr r => exact ok_ret.2 hr
theorem partition_spec (R : Rg s b L) (h : Rs b L w) {x1 x2 p : Int} (h1 : 0 ≤ x1) (h2 : x1 ≤ p) (h3 : p < x2) (h4 : x2 ≤ s.len) : Ok (f101_partition s x1 x2 p ()) w fun r w' => x1 ≤ r.1 ∧ r.1 < x2 ∧ G b L w w' := by
  unfold f101_partition
  have hn := R.n
  have hs := R.small
  rw [wI (n := x1 + 1) (by omega), wI (n := x2 - 1) (by omega)]
  refine ok_qsw R h (by omega) (by omega) (by omega) (by omega) fun w1 g1 => ?_
  refine ok_loopN (fun m (i : Int) w' => G b L w w' ∧ x1 + 1 ≤ i ∧ i ≤ x2 ∧ m = (x2 - i).toNat) ?_ _ _ w1 ⟨g1, Int.le_refl _, by omega, rfl⟩
  rintro m i w2 ⟨g2, a1, a2, rfl⟩
  rw [wI (n := i + 1) (by omega)]
  refine ok_qcmpC R g2.rs (fun hc => by simp only [decide_eq_true_eq] at hc; omega) (fun hc => by omega) fun r w3 hr g3 => ?_
  have g23 := g2.trans g3
  cases r with
  | true =>
    have hc := hr rfl
    simp only [decide_eq_true_eq] at hc
    exact ok_true rfl (ok_ret.2 ⟨_, by omega, g23, by omega, by omega, rfl⟩)
  | false =>
    refine ok_false rfl ?_
    refine ok_bnd.2 (ok_mono (Q := fun (r : Int × Bool) w' => x1 ≤ r.1 ∧ r.1 < x2 ∧ G b L w w') ?_ fun r w' hr => ok_ret.2 hr)
    refine ok_loopN (fun m (j : Int) w' => G b L w w' ∧ x1 ≤ j ∧ j ≤ x2 - 1 ∧ m = (j - x1 + 1).toNat) ?_ _ _ w3 ⟨g23, by omega, Int.le_refl _, rfl⟩
    rintro m j w4 ⟨g4, b1, b2, rfl⟩
    rw [wI (n := j - 1) (by omega)]
    refine ok_qcmpC R g4.rs (fun hc => by simp only [decide_eq_true_eq] at hc; omega) (fun hc => by omega) fun r w5 hr g5 => ?_
    have g45 := g4.trans g5
    cases r with
    | true =>
      have hc := hr rfl
      simp only [decide_eq_true_eq] at hc
      exact ok_true rfl (ok_ret.2 ⟨_, by omega, g45, by omega, by omega, rfl⟩)
    | false =>
      refine ok_false rfl ?_
      refine ok_bnd.2 (ok_mono (Q := fun (r : Int × Bool) w' => x1 ≤ r.1 ∧ r.1 < x2 ∧ G b L w w') ?_ fun r w' hr => ok_ret.2 hr)
      by_cases hij : i > j
      · refine ok_true (by simpa using hij) ?_
        refine ok_qsw R g5.rs (by omega) (by omega) (by omega) (by omega) fun w6 g6 => ?_
        exact ok_ret.2 ⟨b1, by show j < x2; omega, g45.trans g6⟩
      refine ok_false (by simpa using hij) ?_
      refine ok_qsw R g5.rs (by omega) (by omega) (by omega) (by omega) fun w6 g6 => ?_
      refine ok_loopN (fun m (st : Int × Int) w' => G b L w w' ∧ x1 + 1 ≤ st.1 ∧ st.1 ≤ x2 ∧ x1 ≤ st.2 ∧ st.2 ≤ x2 - 1 ∧ m = (st.2 - x1 + 1).toNat) ?_ _ _ w6 ⟨g45.trans g6, by show x1 + 1 ≤ i + 1; omega, by show i + 1 ≤ x2; omega, by show x1 ≤ j - 1; omega, by show j - 1 ≤ x2 - 1; omega, rfl⟩
      rintro m ⟨i0, j0⟩ w7 ⟨g7, c1, c2, c3, c4, rfl⟩
      simp only at c1 c2 c3 c4
      dsimp only
      refine ok_loopN (fun m (i : Int) w' => G b L w w' ∧ x1 + 1 ≤ i ∧ i ≤ x2 ∧ m = (x2 - i).toNat) ?_ _ _ w7 ⟨g7, c1, c2, rfl⟩
      clear g7 g6 g45 g5 g4 g23 g3 g2 hij hr b1 b2 a1 a2
      rintro m i w8 ⟨g8, d1, d2, rfl⟩
      rw [wI (n := i + 1) (by omega)]
      refine ok_qcmpC R g8.rs (fun hc => by simp only [decide_eq_true_eq] at hc; omega) (fun hc => by omega) fun r w9 hr g9 => ?_
      have g89 := g8.trans g9
      cases r with
      | true =>
        have hc := hr rfl
        simp only [decide_eq_true_eq] at hc
        exact ok_true rfl (ok_ret.2 ⟨_, by omega, g89, by omega, by omega, rfl⟩)
      | false =>
        refine ok_false rfl ?_
        refine ok_bnd.2 (ok_mono (Q := fun (r : (Int × Int) ⊕ (Int × Bool)) w' => match r with | .inl st => (G b L w w' ∧ x1 + 1 ≤ st.1 ∧ st.1 ≤ x2 ∧ x1 ≤ st.2 ∧ st.2 ≤ j0 - 1) | .inr r => x1 ≤ r.1 ∧ r.1 < x2 ∧ G b L w w') ?_ ?_)
        · refine ok_loopN (fun m (j : Int) w' => G b L w w' ∧ x1 ≤ j ∧ j ≤ j0 ∧ m = (j - x1 + 1).toNat) ?_ _ _ w9 ⟨g89, c3, Int.le_refl _, rfl⟩
          rintro m j w10 ⟨g10, e1, e2, rfl⟩
          rw [wI (n := j - 1) (by omega)]
          refine ok_qcmpC R g10.rs (fun hc => by simp only [decide_eq_true_eq] at hc; omega) (fun hc => by omega) fun r w11 hr g11 => ?_
          have g1011 := g10.trans g11
          cases r with
          | true =>
            have hc := hr rfl
            simp only [decide_eq_true_eq] at hc
            exact ok_true rfl (ok_ret.2 ⟨_, by omega, g1011, by omega, by omega, rfl⟩)
          | false =>
            refine ok_false rfl ?_
            refine ok_bnd.2 ?_
            by_cases hij : i > j
            · refine ok_true (by simpa using hij) ?_
              refine ok_bnd.2 ?_
              refine ok_qsw R g11.rs (by omega) (by omega) (by omega) (by omega) fun w12 g12 => ?_
              exact ok_ret.2 (ok_ret.2 (ok_ret.2 ⟨e1, by show j < x2; omega, g1011.trans g12⟩))
            · refine ok_false (by simpa using hij) ?_
              refine ok_qsw R g11.rs (by omega) (by omega) (by omega) (by omega) fun w12 g12 => ?_
              exact ok_ret.2 (ok_ret.2 ⟨g1011.trans g12, by show x1 + 1 ≤ i + 1; omega, by show i + 1 ≤ x2; omega, by show x1 ≤ j - 1; omega, by show j - 1 ≤ j0 - 1; omega⟩)
        · rintro r w10 hr
          cases r with
          | inl st =>
            obtain ⟨d1, d2, d3, d4, d5⟩ := hr
            exact ok_ret.2 ⟨_, by omega, d1, d2, d3, d4, by omega, rfl⟩
          | inr r => exact ok_ret.2 hr
end
end Go.Proofs.YtkkdeljladihpaaGreat
