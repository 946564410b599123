/-
  Parts of the proof: L02, L03, L04, L05. It states what the functions do; no further condition.
-/
import Derived.Test.YtckfidopkajpaaaShP
import Derived.Test.YtckfidopkajpaaaShQ
import Derived.Test.YtckfidopkajpaaaShK
set_option linter.unusedVariables false
set_option linter.unusedSimpArgs false
/-
  Numbers as lists of digits, the lowest first: what they are worth, and which ones are the shortest. No program in sight.
-/
namespace Go.Sh
set_option linter.unusedVariables false
/-- What digits are worth. -/
def vl (b : Int) : List Int → Int
  | [] => 0
  | d :: l => d + b * vl b l
/-- All are digits. -/
def Dg (b : Int) (l : List Int) : Prop := ∀ d ∈ l, 0 ≤ d ∧ d < b
/-- No digit 0 stands last. -/
def Cn (l : List Int) : Prop := l.getLast? ≠ some 0
variable {b : Int} {l m : List Int}
theorem vl_nil : vl b [] = 0 := rfl
theorem vl_cons {d : Int} : vl b (d :: l) = d + b * vl b l := rfl
theorem vl_append : ∀ (l m : List Int), vl b (l ++ m) = vl b l + b ^ l.length * vl b m
  | [], m => by simp [vl]
  | d :: l, m => by
    rw [List.cons_append, vl_cons, vl_cons, vl_append l m, List.length_cons, Int.pow_succ, Int.mul_add, ← Int.mul_assoc, Int.mul_comm b (b ^ _), Int.add_assoc]
theorem vl_concat (l : List Int) (d : Int) : vl b (l ++ [d]) = vl b l + b ^ l.length * d := by
  rw [vl_append, vl_cons, vl_nil, Int.mul_zero, Int.add_zero]
theorem Dg.nil : Dg b [] := fun _ h => by cases h
theorem Dg.tail {d : Int} (h : Dg b (d :: l)) : Dg b l := fun x hx => h x (.tail _ hx)
theorem Dg.head {d : Int} (h : Dg b (d :: l)) : 0 ≤ d ∧ d < b := h d (.head _)
theorem Dg.cons {d : Int} (h : Dg b l) (h0 : 0 ≤ d) (h1 : d < b) : Dg b (d :: l) := fun x hx => by
  rcases List.mem_cons.1 hx with rfl | hx
  · exact ⟨h0, h1⟩
  · exact h x hx
theorem Dg.append (h : Dg b l) (h' : Dg b m) : Dg b (l ++ m) := fun x hx => (List.mem_append.1 hx).elim (h x) (h' x)
theorem Dg.take (h : Dg b l) (n : Nat) : Dg b (l.take n) := fun x hx => h x (List.mem_of_mem_take hx)
theorem Dg.drop (h : Dg b l) (n : Nat) : Dg b (l.drop n) := fun x hx => h x (List.mem_of_mem_drop hx)
theorem Dg.set (h : Dg b l) (n : Nat) {d : Int} (h0 : 0 ≤ d) (h1 : d < b) : Dg b (l.set n d) := fun x hx => by
  rcases List.mem_or_eq_of_mem_set hx with hx | rfl
  · exact h x hx
  · exact ⟨h0, h1⟩
theorem Dg.get (h : Dg b l) {n : Nat} {d : Int} (hn : l[n]? = some d) : 0 ≤ d ∧ d < b := h d (List.mem_of_getElem? hn)
theorem Dg.zeros (hb : 0 < b) (n : Nat) : Dg b (List.replicate n 0) := fun x hx => by
  rw [List.eq_of_mem_replicate hx]; exact ⟨Int.le_refl _, hb⟩
theorem vl_zeros (n : Nat) : vl b (List.replicate n 0) = 0 := by
  induction n with
  | zero => rfl
  | succ n ih => rw [List.replicate_succ, vl_cons, ih, Int.mul_zero, Int.add_zero]
theorem vl_nonneg (hb : 0 ≤ b) : ∀ {l : List Int}, Dg b l → 0 ≤ vl b l
  | [], _ => Int.le_refl _
  | d :: l, h => Int.add_nonneg h.head.1 (Int.mul_nonneg hb (vl_nonneg hb h.tail))
theorem vl_lt (hb : 0 ≤ b) : ∀ {l : List Int}, Dg b l → vl b l < b ^ l.length
  | [], _ => by simp [vl]
  | d :: l, h => by
    have h1 := vl_lt hb h.tail
    have h2 := h.head
    rw [vl_cons, List.length_cons, Int.pow_succ, Int.mul_comm]
    have h3 : (vl b l + 1) * b ≤ b ^ l.length * b := Int.mul_le_mul_of_nonneg_right (by omega) hb
    rw [Int.add_mul, Int.one_mul] at h3
    omega
theorem vl_inj (hb : 0 < b) : ∀ {l m : List Int}, Dg b l → Dg b m → l.length = m.length → vl b l = vl b m → l = m
  | [], [], _, _, _, _ => rfl
  | [], _ :: _, _, _, h, _ => by simp at h
  | _ :: _, [], _, _, h, _ => by simp at h
  | d :: l, e :: m, hl, hm, h, hv => by
    rw [vl_cons, vl_cons] at hv
    have h1 := hl.head; have h2 := hm.head
    have e1 : d = e := by
      have := congrArg (· % b) hv
      simp only [Int.add_mul_emod_self_left] at this
      rwa [Int.emod_eq_of_lt h1.1 h1.2, Int.emod_eq_of_lt h2.1 h2.2] at this
    subst e1
    have e2 : vl b l = vl b m := Int.eq_of_mul_eq_mul_left (Int.ne_of_gt hb) (by omega)
    rw [vl_inj hb hl.tail hm.tail (by simpa using h) e2]
/-- Digits that are worth nothing are all 0. -/
theorem vl_zero (hb : 0 < b) (h : Dg b l) (h0 : vl b l = 0) : l = List.replicate l.length 0 :=
  vl_inj hb h (Dg.zeros hb _) (by simp) (by rw [h0, vl_zeros])
/-- Without the digits 0 that stand last. -/
def trimL : List Int → List Int
  | [] => []
  | d :: l => if d = 0 ∧ trimL l = [] then [] else d :: trimL l
theorem trimL_nil : trimL [] = [] := rfl
theorem vl_trimL : ∀ (l : List Int), vl b (trimL l) = vl b l
  | [] => rfl
  | d :: l => by
    unfold trimL
    have ih := vl_trimL l
    split
    · rename_i h; rw [h.2] at ih; rw [vl_cons, ← ih, h.1]; simp [vl]
    · rw [vl_cons, vl_cons, ih]
theorem Dg.trimL : ∀ {l : List Int}, Dg b l → Dg b (trimL l)
  | [], h => h
  | d :: l, h => by
    unfold Go.Sh.trimL
    split
    · exact Dg.nil
    · exact Dg.cons (Dg.trimL h.tail) h.head.1 h.head.2
theorem cn_trimL : ∀ (l : List Int), Cn (trimL l)
  | [] => by simp [Cn, trimL]
  | d :: l => by
    unfold trimL
    have ih := cn_trimL l
    split
    · simp [Cn]
    · rename_i h
      unfold Cn at ih ⊢
      cases hl : trimL l with
      | nil =>
        intro hc; apply h; refine ⟨?_, hl⟩
        simpa using hc
      | cons e m => rw [hl] at ih; simpa [List.getLast?_cons_cons] using ih
theorem trimL_cn : ∀ {l : List Int}, Cn l → trimL l = l
  | [], _ => rfl
  | [d], h => by
    unfold trimL
    rw [if_neg]
    · rfl
    · rintro ⟨rfl, _⟩; exact h rfl
  | d :: e :: l, h => by
    have ih := trimL_cn (l := e :: l) (by unfold Cn at h ⊢; rwa [List.getLast?_cons_cons] at h)
    unfold trimL
    rw [if_neg (by rw [ih]; simp), ih]
theorem trimL_zeros (n : Nat) : trimL (List.replicate n 0) = [] := by
  induction n with
  | zero => rfl
  | succ n ih => rw [List.replicate_succ]; unfold trimL; rw [if_pos ⟨rfl, ih⟩]
theorem trimL_snoc : ∀ (l : List Int), trimL (l ++ [0]) = trimL l
  | [] => by simp [trimL]
  | d :: l => by rw [List.cons_append]; unfold trimL; rw [trimL_snoc l]
theorem trimL_length : ∀ (l : List Int), (trimL l).length ≤ l.length
  | [] => Nat.le_refl _
  | d :: l => by
    unfold trimL
    split
    · simp
    · simpa using trimL_length l
theorem trimL_take : ∀ (l : List Int), trimL l = l.take (trimL l).length
  | [] => rfl
  | d :: l => by
    unfold trimL
    split
    · simp
    · rw [List.length_cons, List.take_succ_cons, ← trimL_take l]
/-- The shortest digits are the one list of their worth. -/
theorem cn_low (hb : 1 < b) (hd : Dg b l) (hc : Cn l) (hn : l ≠ []) : b ^ (l.length - 1) ≤ vl b l := by
  obtain ⟨p, d, rfl⟩ : ∃ p d, l = p ++ [d] := ⟨l.dropLast, l.getLast hn, (List.dropLast_concat_getLast hn).symm⟩
  have h1 : d ≠ 0 := fun h => hc (by simp [h])
  have h2 := hd d (by simp)
  have h3 := vl_nonneg (b := b) (by omega) (l := p) (fun x hx => hd x (List.mem_append_left _ hx))
  rw [vl_concat, List.length_append, List.length_singleton, Nat.add_sub_cancel]
  have h4 : (0 : Int) ≤ b ^ p.length := Int.pow_nonneg (by omega)
  have h5 : b ^ p.length * 1 ≤ b ^ p.length * d := Int.mul_le_mul_of_nonneg_left (by omega) h4
  omega
theorem cn_inj (hb : 1 < b) (hl : Dg b l) (hm : Dg b m) (cl : Cn l) (cm : Cn m) (h : vl b l = vl b m) : l = m := by
  refine vl_inj (by omega) hl hm ?_ h
  have key : ∀ {l m : List Int}, Dg b l → Dg b m → Cn l → vl b l = vl b m → ¬ m.length < l.length := by
    intro l m hl hm cl h hlt
    have h1 := cn_low hb hl cl (by rintro rfl; simp at hlt)
    have h2 := vl_lt (by omega) hm
    have h3 : b ^ m.length ≤ b ^ (l.length - 1) := by
      obtain ⟨k, hk⟩ := Nat.le.dest (show m.length ≤ l.length - 1 by omega)
      rw [← hk, Int.pow_add]
      have h4 : (0 : Int) < b ^ m.length := Int.pow_pos (by omega)
      have h5 : (0 : Int) < b ^ k := Int.pow_pos (by omega)
      have := Int.mul_le_mul_of_nonneg_left (show (1 : Int) ≤ b ^ k by omega) (Int.le_of_lt h4)
      omega
    omega
  have a1 := key hl hm cl h
  have a2 := key hm hl cm h.symm
  omega
/-- The shortest digits of a number. -/
def dgs (b n : Nat) : List Int :=
  if h : n = 0 ∨ b < 2 then [] else ((n % b : Nat) : Int) :: dgs b (n / b)
termination_by n
decreasing_by exact Nat.div_lt_self (by omega) (by omega)
theorem dgs_zero (b : Nat) : dgs b 0 = [] := by unfold dgs; simp
theorem dgs_pos {b n : Nat} (hb : 2 ≤ b) (hn : n ≠ 0) : dgs b n = ((n % b : Nat) : Int) :: dgs b (n / b) := by
  rw [dgs, dif_neg (by omega)]
theorem dg_dgs {b : Nat} (hb : 2 ≤ b) (n : Nat) : Dg b (dgs b n) := by
  induction n using Nat.strongRecOn with
  | ind n ih =>
    by_cases hn : n = 0
    · subst hn; rw [dgs_zero]; exact Dg.nil
    · rw [dgs_pos hb hn]
      refine Dg.cons (ih _ (Nat.div_lt_self (by omega) (by omega))) (by omega) ?_
      have := Nat.mod_lt n (show b > 0 by omega)
      omega
theorem vl_dgs {b : Nat} (hb : 2 ≤ b) (n : Nat) : vl b (dgs b n) = n := by
  induction n using Nat.strongRecOn with
  | ind n ih =>
    by_cases hn : n = 0
    · subst hn; rw [dgs_zero]; rfl
    · rw [dgs_pos hb hn, vl_cons, ih _ (Nat.div_lt_self (by omega) (by omega))]
      have := Nat.mod_add_div n b
      exact_mod_cast this
theorem cn_dgs {b : Nat} (hb : 2 ≤ b) (n : Nat) : Cn (dgs b n) := by
  induction n using Nat.strongRecOn with
  | ind n ih =>
    by_cases hn : n = 0
    · subst hn; rw [dgs_zero]; simp [Cn]
    · rw [dgs_pos hb hn]
      have h1 := ih _ (Nat.div_lt_self (n := n) (k := b) (by omega) (by omega))
      by_cases hq : n / b = 0
      · rw [hq, dgs_zero]
        have h2 : n % b ≠ 0 := by
          have := Nat.mod_add_div n b
          rw [hq, Nat.mul_zero] at this; omega
        simp only [Cn, List.getLast?_singleton, Option.some.injEq, ne_eq]
        omega
      · rw [dgs_pos hb hq] at h1 ⊢
        unfold Cn at h1 ⊢
        rwa [List.getLast?_cons_cons]
theorem dgs_vl {b : Nat} (hb : 2 ≤ b) {l : List Int} (hd : Dg b l) (hc : Cn l) : dgs b (vl b l).toNat = l := by
  refine cn_inj (b := b) (by omega) (dg_dgs hb _) hd (cn_dgs hb _) hc ?_
  rw [vl_dgs hb, Int.toNat_of_nonneg (vl_nonneg (by omega) hd)]
end Go.Sh

/-
  The loop that leaves digits 0 away at a slice's end. No program in sight.
-/
namespace Go.Sh
set_option linter.unusedVariables false
open Go.RowKit
theorem trimL_last0 {l : List Int} (h : l.getLast? = some 0) : trimL l = trimL l.dropLast := by
  have hn : l ≠ [] := by rintro rfl; simp at h
  have e : l.dropLast ++ [0] = l := by
    rw [List.getLast?_eq_some_getLast hn, Option.some.injEq] at h
    rw [← h]; exact List.dropLast_concat_getLast hn
  rw [← trimL_snoc l.dropLast, e]
theorem cut0 (s : Sl) (hi : Nat) : cut s 0 hi = ⟨s.a, hi, s.cap⟩ := by
  have e : ∀ a : Addr, a.add (0 * 1) = a := fun a => by unfold Addr.add; rw [if_pos rfl]
  unfold cut
  have : (if s.cap = 0 then s.a else s.a.map (·.add (0 * 1))) = s.a := by
    split
    · rfl
    · cases h : s.a with
      | none => rfl
      | some a => simp only [Option.map_some, e]
  rw [this]; rfl
/-- What trims a slice of numbers. -/
noncomputable abbrev trimB {ρ : Type} (k : IntKind) (K : Sl → M (Sl ⊕ ρ)) (s1 : Sl) : M (Sl ⊕ ρ) :=
  bnd (
  cnd (decide ((s1.len : Int) > (0 : Int))) (
  bnd (ix 1 s1 (IntKind.wrap .i64 ((s1.len : Int) - (1 : Int)))) fun (p2 : Addr) =>
  bnd (ld (.int k) p2) fun (v3 : Int) =>
  ret (v3 == (0 : Int))) (
  ret false)) fun (b4 : Bool) =>
  cnd b4 (
  bnd (slc 1 s1 none (some (IntKind.wrap .i64 ((s1.len : Int) - (1 : Int)))) none) fun (v5 : Sl) =>
  ret (Sum.inl v5)) (K s1)
theorem ok_trimB {ρ : Type} {k : IntKind} {K : Sl → M (Sl ⊕ ρ)} {Q : ρ → World → Prop} {B : Nat} {w : World} {s : Sl} {l : List Int} (H : Arr B w s (nums k l))
    (hK : ∀ t, Arr B w t (nums k (trimL l)) → t.len ≤ s.len → t.a = s.a → t.cap = s.cap → Ok (K t) w fun r w' => ∃ x, r = .inr x ∧ Q x w') : Ok (loopM (trimB k K) s) w Q := by
  refine ok_loop (fun (t : Sl) w' => w' = w ∧ t.len ≤ s.len ∧ t.a = s.a ∧ t.cap = s.cap ∧ ∃ m, Arr B w t (nums k m) ∧ trimL m = trimL l) (fun t _ => t.len) ?_ _ _ ⟨rfl, Nat.le_refl _, rfl, rfl, l, H, rfl⟩
  rintro t w1 ⟨rfl, ht, ha, hc, m, A, hm'⟩
  have e1 : t.len = m.length := by have := A.1; simpa using this
  have hml : maxLen = 9223372036854775807 := by decide
  have hA1 := A.2.1
  have hA2 := A.2.2.1
  by_cases h0 : m = []
  · subst h0
    refine ok_bnd.2 (ok_false (by simp only [decide_eq_false_iff_not]; simp at e1; omega) (ok_ret.2 (ok_false rfl ?_)))
    refine ok_mono (hK t (by rw [← hm']; exact A) ht ha hc) ?_
    rintro _ w2 ⟨x, rfl, hx⟩
    exact hx
  · have hpos : 0 < m.length := List.length_pos_iff.2 h0
    have e2 : IntKind.wrap .i64 ((t.len : Int) - 1) = ((m.length - 1 : Nat) : Int) := by rw [wrapI]; omega
    refine ok_bnd.2 (ok_true (by simp only [decide_eq_true_eq]; omega) ?_)
    rw [e2]
    refine ok_get A (by omega) (n := m.getLast h0) (by rw [Int.toNat_natCast, ← List.getLast?_eq_getElem?, List.getLast?_eq_some_getLast h0]) (ok_ret.2 ?_)
    by_cases hz : m.getLast h0 = 0
    · refine ok_true (by rw [hz]; rfl) (ok_bnd.2 (ok_slc (by simp) (by simp) (by simp; have := A.2.1; omega) (ok_ret.2 ⟨⟨rfl, ?_, ?_, ?_, m.dropLast, ?_, ?_⟩, ?_⟩)))
      · simp only [cut, Option.getD_some, Option.getD_none]; omega
      · simp only [Option.getD_none, Int.toNat_zero, cut0]; exact ha
      · simp only [Option.getD_none, Int.toNat_zero, cut0]; exact hc
      · have := arr_cut A (lo := 0) (hi := m.length - 1) (Nat.zero_le _) (by omega)
        simp only [Option.getD_some, Option.getD_none, Int.toNat_natCast, Int.toNat_zero]
        rw [List.drop_zero, Nat.sub_zero] at this
        rw [List.dropLast_eq_take, nums, List.map_take]
        exact this
      · rw [← hm', trimL_last0 (l := m) (by rw [List.getLast?_eq_some_getLast h0, hz])]
      · simp only [cut, Option.getD_some, Option.getD_none, Int.toNat_natCast, Int.toNat_zero]; omega
    · refine ok_false (by simp [hz]) ?_
      refine ok_mono (hK t (by rw [← hm', trimL_cn (by unfold Cn; rw [List.getLast?_eq_some_getLast h0]; simpa using hz)]; exact A) ht ha hc) ?_
      rintro _ w2 ⟨x, rfl, hx⟩
      exact hx
end Go.Sh

/-
  Digits set, one after another; a slice of zeros made. No program in sight.
-/
namespace Go.Sh
set_option linter.unusedVariables false
open Go.RowKit
variable {b : Int} {l m : List Int}
theorem vl_take_succ {i : Nat} {d : Int} (h : l[i]? = some d) : vl b (l.take (i + 1)) = vl b (l.take i) + b ^ i * d := by
  have hi : i < l.length := by
    rcases Nat.lt_or_ge i l.length with h' | h'
    · exact h'
    · rw [List.getElem?_eq_none h'] at h; cases h
  rw [List.take_add_one, h, Option.toList_some, vl_concat, List.length_take, Nat.min_eq_left (by omega)]
theorem vl_take_past {i : Nat} (h : l.length ≤ i) : vl b (l.take (i + 1)) = vl b (l.take i) := by
  rw [List.take_of_length_le h, List.take_of_length_le (by omega)]
theorem vl_take_set {i : Nat} {d : Int} (h : i < l.length) : vl b ((l.set i d).take (i + 1)) = vl b (l.take i) + b ^ i * d := by
  rw [vl_take_succ (d := d) (by rw [List.getElem?_set]; simp [h]), List.take_set_of_le (Nat.le_refl i)]
theorem vl_set : ∀ {l : List Int} {i : Nat} {d e : Int}, l[i]? = some e → vl b (l.set i d) = vl b l + b ^ i * (d - e)
  | [], i, d, e, h => by simp at h
  | x :: l, 0, d, e, h => by
    simp only [List.getElem?_cons_zero, Option.some.injEq] at h
    subst h
    rw [List.set_cons_zero, vl_cons, vl_cons, Int.pow_zero, Int.one_mul]; omega
  | x :: l, i + 1, d, e, h => by
    rw [List.getElem?_cons_succ] at h
    rw [List.set_cons_succ, vl_cons, vl_cons, vl_set h, Int.mul_add, Int.pow_succ, Int.mul_comm (b ^ i) b, Int.mul_assoc]; omega
theorem dgs_trim {b : Nat} (hb : 2 ≤ b) (h : Dg b l) : trimL l = dgs b (vl b l).toNat := by
  have := dgs_vl hb (Dg.trimL h) (cn_trimL l)
  rw [vl_trimL] at this
  exact this.symm
theorem dgs_length {b : Nat} (hb : 2 ≤ b) {n k : Nat} (h : n < b ^ k) : (dgs b n).length ≤ k := by
  rcases Nat.lt_or_ge k (dgs b n).length with h1 | h1
  · exfalso
    have h2 := cn_low (b := b) (by omega) (dg_dgs hb n) (cn_dgs hb n) (by intro h0; rw [h0] at h1; simp at h1)
    rw [vl_dgs hb] at h2
    have h3 : b ^ k ≤ b ^ ((dgs b n).length - 1) := Nat.pow_le_pow_right (by omega) (by omega)
    have h4 : b ^ ((dgs b n).length - 1) ≤ n := by exact_mod_cast h2
    omega
  · exact h1
theorem lt_dgs {b : Nat} (hb : 2 ≤ b) (n : Nat) : n < b ^ (dgs b n).length := by
  have := vl_lt (b := b) (by omega) (dg_dgs hb n)
  rw [vl_dgs hb] at this
  exact_mod_cast this
variable {S : Nat → Prop} {w0 w : World} {L : List It} {α : Type} {Q : α → World → Prop}
/-- A slice of zeros, made. -/
theorem ok_makeN {P : Program} {T e : TypeId} {k : IntKind} {by_ : Nat} (SL : SlT P T e (.int k 0) by_) (C : Cx S w0 w L) {n : Int} (h0 : 0 ≤ n) (h2 : (by_ : Int) * n ≤ 281474976710656) (h3 : n ≤ 9223372036854775807) {f : Sl → M α}
    (hq : ∀ r w', r.len = n.toNat → (∃ bl, r.a = some ⟨bl, 0, none⟩) → Cx S w0 w' (.own r (nums k (List.replicate n.toNat 0)) :: L) → Ok (f r) w' Q) : Ok (bnd (runV P .sl (Instr.makeSlice T (.int .i64 n) (.int .i64 n))) f) w Q := by
  refine ok_bnd.2 (ok_make SL h0 (Int.le_refl _) h2 h3 (hq _ _ rfl ⟨_, rfl⟩ (C.addOwn ((Below.refl _ _).alloc (Nat.le_refl _) _) ⟨by simp, Nat.le_refl _, ?_, .inr ⟨w.heap.size, _, rfl, Nat.le_refl _, by rw [blk_alloc, if_pos rfl], by rw [fre_alloc, if_pos rfl], by simp, fun j hj => ?_⟩⟩)))
  · have : maxLen = 9223372036854775807 := by decide
    show n.toNat ≤ maxLen
    omega
  · rw [List.getElem?_toArray]; simp [nums]
end Go.Sh

/-
  Words of 32 bits: the operations of ShB, and sums and differences with a carry. No program in sight.
-/
namespace Go.Sh
set_option linter.unusedVariables false
open Go.RowKit
abbrev W32 (a : Int) : Prop := 0 ≤ a ∧ a < 4294967296
abbrev ib (a : Int) : BitVec 32 := BitVec.ofInt 32 a
def bi (v : BitVec 32) : Int := (v.toNat : Int)
theorem wrapU32 (n : Int) : IntKind.u32.wrap n = n % 4294967296 := by simp [IntKind.wrap, IntKind.bits, IntKind.signed]
theorem wrapI_in {n : Int} (h : -9223372036854775808 ≤ n ∧ n ≤ 9223372036854775807) : IntKind.wrap .i64 n = n := by rw [wrapI]; omega
theorem wrapU_in {n : Int} (h : 0 ≤ n ∧ n < 18446744073709551616) : IntKind.wrap .u64 n = n := by rw [wrapU]; omega
theorem wrapU32_in {n : Int} (h : W32 n) : IntKind.wrap .u32 n = n := by rw [wrapU32]; have := h.1; have := h.2; omega
theorem bi_rng (v : BitVec 32) : 0 ≤ bi v ∧ bi v < 4294967296 := by have := v.isLt; unfold bi; omega
theorem wrap_bi (v : BitVec 32) : IntKind.u32.wrap (v.toNat : Int) = bi v := by have := bi_rng v; unfold bi at *; rw [wrapU32]; omega
theorem ib_bi (v : BitVec 32) : ib (bi v) = v := by
  apply BitVec.eq_of_toNat_eq
  unfold bi ib
  rw [BitVec.toNat_ofInt]
  have := v.isLt
  omega
theorem bi_ib {a : Int} (h : W32 a) : bi (ib a) = a := by
  have h0 := h.1; have h1 := h.2
  unfold bi ib
  rw [BitVec.toNat_ofInt]
  omega
theorem bAnd_bi (a b : Int) : bAnd .u32 a b = bi (ib a &&& ib b) := wrap_bi _
theorem bOr_bi (a b : Int) : bOr .u32 a b = bi (ib a ||| ib b) := wrap_bi _
theorem bXor_bi (a b : Int) : bXor .u32 a b = bi (ib a ^^^ ib b) := wrap_bi _
theorem ib_lsb {a : Int} (h : 0 ≤ a) (k : Nat) (hk : k < 32) : (ib a).getLsbD k = a.toNat.testBit k := by
  obtain ⟨n, rfl⟩ := Int.eq_ofNat_of_zero_le h
  unfold ib
  rw [show BitVec.ofInt 32 (n : Int) = BitVec.ofNat 32 n from BitVec.ofInt_natCast 32 n, BitVec.getLsbD_ofNat]
  simp [hk]
/-- The last bit. -/
theorem top_bit {a : Int} (h : W32 a) : (ib a).getLsbD 31 = decide (2147483648 ≤ a) := by
  have h0 := h.1; have h1 := h.2
  obtain ⟨n, rfl⟩ := Int.eq_ofNat_of_zero_le h0
  rw [ib_lsb h0 31 (by decide), Int.toNat_natCast, Nat.testBit_eq_decide_div_mod_eq]
  rw [decide_eq_decide]
  omega
theorem shr31 (v : BitVec 32) : shrI .u32 (bi v) 31 = if v.getLsbD 31 then 1 else 0 := by
  have hr := bi_rng v
  have ht := top_bit hr
  rw [ib_bi] at ht
  rw [ht, shr_eq .u32 _ 31 (by decide)]
  by_cases h : 2147483648 ≤ bi v
  · simp only [h, decide_true, if_true]; omega
  · simp only [h, decide_false]; simp only [Bool.false_eq_true, if_false]; omega
theorem ib_ones : ib 4294967295 = BitVec.allOnes 32 := by decide
/-- A sum with a carry. -/
theorem add32 {x y c : Int} (hx : W32 x) (hy : W32 y) (hc : 0 ≤ c ∧ c ≤ 1) :
    IntKind.wrap .u32 (IntKind.wrap .u64 ((IntKind.wrap .u64 ((IntKind.wrap .u64 x) + (IntKind.wrap .u64 y))) + (IntKind.wrap .u64 c))) = (x + y + c) % 4294967296
    ∧ IntKind.wrap .u32 (shrI .u64 (IntKind.wrap .u64 ((IntKind.wrap .u64 ((IntKind.wrap .u64 x) + (IntKind.wrap .u64 y))) + (IntKind.wrap .u64 c))) 32) = (x + y + c) / 4294967296 := by
  have h1 := hx.1; have h2 := hx.2; have h3 := hy.1; have h4 := hy.2; have h5 := hc.1; have h6 := hc.2
  have e : IntKind.wrap .u64 ((IntKind.wrap .u64 ((IntKind.wrap .u64 x) + (IntKind.wrap .u64 y))) + (IntKind.wrap .u64 c)) = x + y + c := by
    rw [wrapU, wrapU, wrapU, wrapU, wrapU]; omega
  rw [e, shr_eq .u64 _ 32 (by decide), wrapU32, wrapU32]
  refine ⟨rfl, ?_⟩
  rw [show (2 : Int) ^ 32 = 4294967296 from rfl]
  omega
/-- A difference with a borrow. -/
theorem sub32 {x y c : Int} (hx : W32 x) (hy : W32 y) (hc : 0 ≤ c ∧ c ≤ 1) :
    IntKind.wrap .u32 ((IntKind.wrap .u32 (x - y)) - c) = (x - y - c) % 4294967296
    ∧ shrI .u32 (bOr .u32 (bAnd .u32 (bXor .u32 (4294967295) x) y) (bAnd .u32 (bXor .u32 (4294967295) (bXor .u32 x y)) (IntKind.wrap .u32 ((IntKind.wrap .u32 (x - y)) - c)))) 31 = - ((x - y - c) / 4294967296) := by
  have h1 := hx.1; have h2 := hx.2; have h3 := hy.1; have h4 := hy.2; have h5 := hc.1; have h6 := hc.2
  have e : IntKind.wrap .u32 ((IntKind.wrap .u32 (x - y)) - c) = (x - y - c) % 4294967296 := by rw [wrapU32, wrapU32]; omega
  refine ⟨e, ?_⟩
  rw [e, bOr_bi, shr31, bAnd_bi, bAnd_bi, ib_bi, ib_bi, bXor_bi, bXor_bi, bXor_bi, ib_bi, ib_bi, ib_bi, ib_ones]
  have hd : W32 ((x - y - c) % 4294967296) := ⟨Int.emod_nonneg _ (by decide), Int.emod_lt_of_pos _ (by decide)⟩
  have tx := top_bit hx
  have ty := top_bit hy
  have td := top_bit hd
  simp only [BitVec.getLsbD_or, BitVec.getLsbD_and, BitVec.getLsbD_xor, tx, ty, td, BitVec.getLsbD_allOnes]
  by_cases a1 : 2147483648 ≤ x <;> by_cases a2 : 2147483648 ≤ y <;> by_cases a3 : 2147483648 ≤ (x - y - c) % 4294967296 <;> simp [a1, a2, a3] <;> omega
end Go.Sh
