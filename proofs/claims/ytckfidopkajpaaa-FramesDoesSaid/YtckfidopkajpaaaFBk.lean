/-
  Parts of the proof: FBj, FBk. It states what the functions do; no further condition.
-/
import Derived.Test.YtckfidopkajpaaaFBi
set_option linter.unusedVariables false
set_option linter.unusedSimpArgs false
/-
  Count; Flush; New.
-/
namespace Go.Proofs.Ytckfidopkajpaaa
set_option linter.unusedVariables false
open Go.Sh Go.RowKit
set_option maxRecDepth 100000
variable {w : World} {T : Hp} {sb : Nat} {S : Sk} {A : St} {G : Gh}
/-- Numbers below n of which each is once there are no more than those that are so. -/
theorem count_range (p : Nat → Bool) : ∀ (n : Nat) (l : List Nat), l.Nodup → (∀ x ∈ l, x < n ∧ p x = true) → l.length ≤ (List.range n).countP p
  | 0, l, _, h => by
    cases l with
    | nil => simp
    | cons x l => have := (h x (by simp)).1; omega
  | n + 1, l, hd, h => by
    have ih := count_range p n (l.filter (· ≠ n)) (hd.filter _) fun x hx => by
      simp only [List.mem_filter, decide_eq_true_eq] at hx
      have := h x hx.1
      have : x ≠ n := by simpa using hx.2
      exact ⟨by omega, (h x hx.1).2⟩
    rw [List.range_succ, List.countP_append, List.countP_singleton]
    by_cases hm : n ∈ l
    · have h1 : l.length ≤ (l.filter (· ≠ n)).length + 1 := by
        have := hd.erase_eq_filter n
        have h2 : (List.filter (fun x => x != n) l) = (l.filter (· ≠ n)) := by congr 1; funext x; by_cases hx : x = n <;> simp [hx]
        have h3 := List.length_erase_of_mem hm
        rw [this, h2] at h3
        omega
      rw [if_pos (h n hm).2]
      omega
    · have h1 : l.filter (· ≠ n) = l := List.filter_eq_self.2 fun x hx => by
        simp only [ne_eq, decide_eq_true_eq]
        rintro rfl; exact hm hx
      rw [h1] at ih
      omega
theorem countP_range (q : Ac → Bool) (l : List Ac) : ∀ n, (l.take n).countP q ≥ 0 ∧ (n ≤ l.length → (l.take n).countP q = (List.range n).countP (fun i => match l[i]? with | some a => q a | none => false))
  | 0 => ⟨Nat.zero_le _, fun _ => rfl⟩
  | n + 1 => ⟨Nat.zero_le _, fun h => by
    rw [List.take_add_one, List.range_succ, List.countP_append, List.countP_append, (countP_range q l n).2 (by omega), List.getElem?_eq_getElem (show n < l.length by omega), List.countP_singleton, List.getElem?_eq_getElem (show n < l.length by omega)]
    congr 1
    simp⟩
/-- How many frames there are. -/
def Gh.framed (G : Gh) : Nat := (G.pl.flatMap G.fid).length
theorem Inv.framed_le (I : Inv T sb S A G) : G.framed ≤ A.acts.countP (·.alive) := by
  have h1 := (countP_range (·.alive) A.acts A.acts.length).2 (Nat.le_refl _)
  rw [List.take_length] at h1
  rw [h1]
  refine count_range _ _ _ ?_ fun x hx => ?_
  · -- each is once there
    have key : ∀ l : List Nat, l.Nodup → (∀ p ∈ l, p ∈ G.pl) → (l.flatMap G.fid).Nodup := by
      intro l
      induction l with
      | nil => intro _ _; exact List.nodup_nil
      | cons p l ih =>
        intro hd hm
        rw [List.flatMap_cons]
        obtain ⟨h3, h4⟩ := List.nodup_cons.1 hd
        refine List.nodup_append.2 ⟨?_, ih h4 (fun q hq => hm q (List.mem_cons_of_mem _ hq)), ?_⟩
        · refine List.pairwise_iff_getElem.2 ?_
          intro i j hi' hj hij he
          have hi : (G.fid p)[i]? = some ((G.fid p)[i]'(by omega)) := List.getElem?_eq_getElem _
          have e1 := I.l1 p i _ (hm p (List.mem_cons_self ..)) hi
          have e2 := I.l1 p j _ (hm p (List.mem_cons_self ..)) (List.getElem?_eq_getElem hj)
          rw [← he] at e2
          rw [e1, Option.some.injEq, Prod.mk.injEq] at e2
          omega
        · rintro x hx y hy rfl
          obtain ⟨q, hq, hxq⟩ := List.mem_flatMap.1 hy
          obtain ⟨i, hi, rfl⟩ := List.getElem_of_mem hx
          obtain ⟨j, hj, hje⟩ := List.getElem_of_mem hxq
          have e1 := I.l1 p i _ (hm p (List.mem_cons_self ..)) (List.getElem?_eq_getElem hi)
          have e2 := I.l1 q j _ (hm q (List.mem_cons_of_mem _ hq)) (by rw [List.getElem?_eq_getElem hj, hje])
          rw [e1, Option.some.injEq, Prod.mk.injEq] at e2
          obtain ⟨rfl, _⟩ := e2
          exact h3 hq
    exact key G.pl I.nodup fun _ h => h
  · obtain ⟨p, hp, hxp⟩ := List.mem_flatMap.1 hx
    obtain ⟨i, hi, rfl⟩ := List.getElem_of_mem hxp
    obtain ⟨P, fl, cb, cl, fb, L, F, a, g1, g2, g3, g4, g5, g6, g7, g8⟩ := I.pageAt hp (List.getElem?_eq_getElem hi)
    refine ⟨get_lt g7.act, ?_⟩
    simp only [g7.act]
    exact g7.alive
theorem pagesAt (I : Inv T sb S A G) {i : Nat} (hi : i < G.pl.length) : ∃ pb L, S.pages.a = some ⟨pb, 0, none⟩ ∧ T pb = some (.pages L) ∧ L[i]? = some (some (G.pl[i]'hi)) := by
  obtain ⟨h1, h2, h3, b, L, h4, h5, h6⟩ := I.pgs
  exact ⟨b, L, h4, h5, take_at (fl := G.pl.map some) (by rw [List.length_map]; exact h6) (by rw [List.getElem?_map, List.getElem?_eq_getElem hi]; rfl)⟩
theorem countI (h : Th en w T) (hf : A.Fit) (I : Inv T sb S A G) : Sp (f14_frames_Stack_Count (pt (some sb))) w T fun r _ T' => T' = T ∧ r = ((A.living : Int), (G.framed : Int)) := by
  unfold f14_frames_Stack_Count
  have C := Tr.refl h
  have hle := I.framed_le
  have hlv : A.living = A.acts.countP (·.alive) := by unfold St.living; rw [hf.extra]; rfl
  have hlm := I.lmax; have hmm := I.mmax
  obtain ⟨h1, h2, h3, _⟩ := I.pgs
  refine ok_drfP ?_
  refine ok_tld C I.stk (x := S.pages) rfl ?_
  refine ok_loop (fun (s : Int × Int) w' => ∃ i : Nat, s = ((((G.pl.take i).flatMap G.fid).length : Int), (i : Int)) ∧ i ≤ G.pl.length ∧ Tr en w T w' T) (fun s _ => ((G.pl.length : Int) - s.2).toNat) ?_ _ _ ⟨0, rfl, Nat.zero_le _, C⟩
  rintro s w1 ⟨i, rfl, hi, C⟩
  simp only
  by_cases hlt : i < G.pl.length
  · refine ok_true (by simp only [decide_eq_true_eq]; omega) ?_
    obtain ⟨pb, L, g1, g2, g3⟩ := pagesAt I hlt
    refine ok_ixN (n := 1) g1 (by omega) (by omega) ?_
    rw [Int.toNat_natCast]
    refine ok_tld0 C g2 (x := pt (some (G.pl[i]'hlt))) (rd_pages g3) ?_
    obtain ⟨P, fl, cb, cl, hP⟩ := I.page _ (List.getElem_mem hlt)
    refine ok_drfP ?_
    refine ok_tld C hP.page (x := P.frames) rfl ?_
    have hl : P.frames.len = (G.fid (G.pl[i]'hlt)).length := hP.frames.len.trans hP.cnt
    have e : (G.pl.take (i + 1)).flatMap G.fid = (G.pl.take i).flatMap G.fid ++ G.fid (G.pl[i]'hlt) := by
      rw [List.take_add_one, List.getElem?_eq_getElem hlt, List.flatMap_append]; simp
    have hle2 : ((G.pl.take (i + 1)).flatMap G.fid).length ≤ G.framed := by
      unfold Gh.framed
      conv => rhs; rw [← List.take_append_drop (i + 1) G.pl, List.flatMap_append, List.length_append]
      omega
    have e2 : ((G.pl.take (i + 1)).flatMap G.fid).length = ((G.pl.take i).flatMap G.fid).length + (G.fid (G.pl[i]'hlt)).length := by rw [e, List.length_append]
    refine ok_ret.2 ⟨⟨i + 1, ?_, hlt, C⟩, ?_⟩
    · rw [hl, wrapI_in (by omega), wrapI_in (by omega), e2]
      simp
    · simp only
      rw [wrapI_in (by omega)]; omega
  · refine ok_false (by simp only [decide_eq_false_iff_not]; omega) ?_
    refine ok_bnd.2 ?_
    refine ok_drfP ?_
    refine ok_tld C I.stk (x := S.living) rfl ?_
    have hi' : i = G.pl.length := by omega
    subst hi'
    refine ok_ret.2 (ok_ret.2 ⟨T, C, rfl, ?_⟩)
    rw [List.take_length, I.living]
    rfl
theorem count_spec (h : Th en w T) (hs : Hs T sb A) : Sp (f14_frames_Stack_Count (pt (some sb))) w T fun r _ T' => T' = T ∧ r.1 = (A.living : Int) ∧ 0 ≤ r.2 ∧ r.2 ≤ (A.living : Int) := by
  obtain ⟨hf, S, G, I, hA⟩ := hs
  refine ok_mono (countI h hf I) ?_
  rintro r w' ⟨T', C, rfl, rfl⟩
  have := I.framed_le
  have hlv : A.living = A.acts.countP (·.alive) := by unfold St.living; rw [hf.extra]; rfl
  exact ⟨_, C, rfl, rfl, by simp only; omega, by simp only; omega⟩
/-- Behind Flush nobody is a frame. -/
theorem flush_spec (h : Th en w T) (hs : Hs T sb A) : Sp (f19_frames_Stack_Flush (pt (some sb))) w T fun _ _ T' => A.Fit ∧ ∃ S G, Inv T' sb S A G ∧ Acv S A G A.active ∧ G.framed = 0 := by
  unfold f19_frames_Stack_Flush
  have C := Tr.refl h
  obtain ⟨hf, S, G, I, hA⟩ := hs
  obtain ⟨h1, h2, h3, _⟩ := I.pgs
  have h0 : S.pages.len = G.pl.length := h1
  refine ok_drfP ?_
  refine ok_tld C I.stk (x := S.pages) rfl ?_
  refine ok_loop (fun (s : Int) w' => ∃ (i : Nat) (S1 : Sk) (G1 : Gh) (T1 : Hp), s = (i : Int) ∧ i ≤ G.pl.length ∧ Tr en w T w' T1 ∧ Inv T1 sb S1 A G1 ∧ Acv S1 A G1 A.active ∧ G1.pl = G.pl ∧ S1.pages = S.pages ∧ ∀ p ∈ G.pl.take i, G1.fid p = []) (fun s _ => ((G.pl.length : Int) - s).toNat) ?_ _ _ ⟨0, S, G, T, rfl, Nat.zero_le _, C, I, hA, rfl, rfl, fun p hp => (by simp at hp)⟩
  rintro s w1 ⟨i, S1, G1, T1, rfl, hi, C, I1, A1, hpl, hpg, hem⟩
  by_cases hlt : i < G.pl.length
  · refine ok_true (by simp only [decide_eq_true_eq]; omega) ?_
    obtain ⟨pb, L, g1, g2, g3⟩ := pagesAt I1 (i := i) (by rw [hpl]; exact hlt)
    rw [← hpg]
    refine ok_ixN (n := 1) g1 (by omega) (by rw [hpg]; omega) ?_
    rw [Int.toNat_natCast]
    refine ok_tld0 C g2 (x := pt (some _)) (rd_pages g3) ?_
    refine ok_tcall C (part_specP (n := 0) C.th I1 A1 (List.getElem_mem _) (Nat.zero_le _)) ?_
    rintro _ w2 T2 C ⟨S2, cx2, hext, I2, A2, hp2⟩
    refine ok_ret.2 ⟨⟨i + 1, S2, _, T2, ?_, hlt, C, I2, A2, hpl, ?_, ?_⟩, ?_⟩
    · rw [wrapI_in (by omega)]; simp
    · exact hp2
    · intro p hp
      rw [List.take_add_one, List.mem_append] at hp
      show cutF G1.fid _ 0 p = []
      unfold cutF
      split
      · rw [List.take_zero]
      · rename_i hne
        rcases hp with hp | hp
        · exact hem p hp
        · rw [List.getElem?_eq_getElem hlt] at hp
          simp only [Option.toList_some, List.mem_singleton] at hp
          exact absurd (by rw [hp]; simp only [hpl]) hne
    · rw [wrapI_in (by omega)]; omega
  · refine ok_false (by simp only [decide_eq_false_iff_not]; omega) (ok_ret.2 ⟨T1, C, hf, S1, G1, I1, A1, ?_⟩)
    have hi' : i = G.pl.length := by omega
    subst hi'
    rw [List.take_length] at hem
    unfold Gh.framed
    rw [hpl, List.flatMap_eq_nil_iff.2 hem]; rfl
end Go.Proofs.Ytckfidopkajpaaa

/-
  New.
-/
namespace Go.Proofs.Ytckfidopkajpaaa
set_option linter.unusedVariables false
open Go.Sh Go.RowKit
set_option maxRecDepth 100000
variable {w : World} {T : Hp} {sb : Nat} {S : Sk} {A : St} {G : Gh}
theorem row58 : RowT Try.prog 58 59 ptV 1 none 8 :=
  ⟨by kernel_rfl, ⟨Try.t59, .pointer none, by kernel_rfl, rfl, rfl, rfl, rfl⟩, by decide, fun _ => rfl, fun b u hu => by simp only [ptV, List.mem_singleton] at hu; subst hu; rfl⟩
theorem en_pages (l : List (Option Nat)) : en (.pages l) = l.flatMap ptV := by
  show l.map _ = _
  induction l with
  | nil => rfl
  | cons x l ih => rw [List.flatMap_cons, ← ih]; rfl
def St.new (cells most : Nat) : St := { cells := cells, most := most, acts := [], active := none, named := [] }
/-- An empty page. -/
def Bare (T : Hp) (cells : Nat) (p : Nat) : Prop := ∃ cb, T p = some (.page ⟨⟨some ⟨cb, 0, none⟩, cells, cells⟩, ⟨none, 0, 0⟩, none, 0⟩) ∧ T cb = some (.ints (.cells p) (List.replicate cells 0))
theorem inv_new {pl : List Nat} {cells most : Nat} (hS : T sb = some (.stk S)) (h1 : S.cells = cells) (h2 : S.most = most) (h3 : S.living = 0) (h4 : S.named = ⟨none, 0, 0⟩) (hp : Rw T Ob.pages S.pages (pl.map some)) (hl : 0 < pl.length ∧ pl.length ≤ 64) (hd : pl.Nodup) (hb : ∀ p ∈ pl, Bare T cells p)
    (hc : 16 ≤ cells ∧ cells ≤ 4096) (hm : most ≤ 65536) : Inv T sb S (St.new cells most) ⟨pl, fun _ => [], fun _ => none, fun _ => none⟩ := by
  have hne : pl ≠ [] := by rintro rfl; simp at hl
  refine { stk := hS, cells := by rw [h1]; rfl, cmin := hc.1, cmax := hc.2, most := by rw [h2]; rfl, mmax := hm, living := by rw [h3]; rfl, lmax := Nat.zero_le _, pgs := ?_, some_ := hne, nodup := hd, page := ?_, l1 := fun p i id _ h => (by simp at h), l2 := fun id p i h => (by cases h), ctx := fun id c h => (by cases h), inj := fun i j c h _ => (by cases h), here := fun id h => (by simp [St.alive, St.new] at h), nmd := ?_, nctx := fun id h => (by simp [St.new] at h), nnd := List.nodup_nil }
  · have hlen := hp.len
    simp only [List.length_map] at hlen
    obtain ⟨b, L, g1, g2, g3, g4⟩ := hp.blk (by simpa using hl.1)
    exact ⟨hlen, hp.le, hl.2, b, L, g1, g2, by rw [List.length_map] at g4; exact g4⟩
  · intro p hpm
    obtain ⟨cb, g1, g2⟩ := hb p hpm
    exact ⟨_, [], cb, _, { page := g1, cells := rfl, has := g2, cll := List.length_replicate, frames := ⟨rfl, Nat.le_refl _, Nat.zero_le _, .inl ⟨rfl, rfl⟩⟩, cnt := rfl, fr := fun i F id h => (by simp at h), first := fun F h => (by simp at h), next := fun i F G h => (by simp at h), below := fun id h => (by simp at h), link := fun i x y h => (by simp at h) }⟩
  · rw [h4]
    exact ⟨rfl, Nat.le_refl _, Nat.zero_le _, .inl ⟨rfl, rfl⟩⟩
theorem fit_new (cells most : Nat) : (St.new cells most).Fit :=
  ⟨fun k a j h => (by simp [St.new] at h), fun k h => (by simp [St.new] at h), rfl, fun i => ⟨_, fun j h => (by simp [St.eff, St.new] at h)⟩⟩
def newBad (x0 x1 x2 : Int) : Bool := cond (cond (cond (cond (cond (decide (x0 < (1 : Int))) true (decide (x0 > (64 : Int)))) true (decide (x1 < (16 : Int)))) true (decide (x1 > (4096 : Int)))) true (decide (x2 < (1 : Int)))) true (decide (x2 > (65536 : Int)))
theorem newBad_eq (x0 x1 x2 : Int) : newBad x0 x1 x2 = decide (x0 < 1 ∨ x0 > 64 ∨ x1 < 16 ∨ x1 > 4096 ∨ x2 < 1 ∨ x2 > 65536) := by
  unfold newBad
  by_cases a1 : x0 < 1 <;> by_cases a2 : x0 > 64 <;> by_cases a3 : x1 < 16 <;> by_cases a4 : x1 > 4096 <;> by_cases a5 : x2 < 1 <;> by_cases a6 : x2 > 65536 <;> simp [a1, a2, a3, a4, a5, a6]
theorem new_spec (h : Th en w T) (x0 x1 x2 : Int) : Sp (f7_frames_New x0 x1 x2) w T fun r _ T' => (newBad x0 x1 x2 = true ∧ T' = T ∧ r = (none, 230)) ∨ (newBad x0 x1 x2 = false ∧ ∃ sb, T sb = none ∧ r = (pt (some sb), 0) ∧ Hs T' sb (St.new x1.toNat x2.toNat)) := by
  unfold f7_frames_New
  have C := Tr.refl h
  have hml : maxLen = 9223372036854775807 := by decide
  cases hbad : newBad x0 x1 x2 with
  | true => exact ok_true hbad (ok_ret.2 ⟨T, C, .inl ⟨rfl, rfl, rfl⟩⟩)
  | false =>
    refine ok_false hbad ?_
    rw [newBad_eq, decide_eq_false_iff_not] at hbad
    obtain ⟨cells, hcells⟩ : ∃ n : Nat, x1 = n := ⟨x1.toNat, by omega⟩
    obtain ⟨most, hmost⟩ : ∃ n : Nat, x2 = n := ⟨x2.toNat, by omega⟩
    obtain ⟨np, hnp⟩ : ∃ n : Nat, x0 = n := ⟨x0.toNat, by omega⟩
    subst hcells; subst hmost; subst hnp
    refine ok_tnew C (.stk ⟨⟨none, 0, 0⟩, cells, most, none, none, ⟨none, 0, 0⟩, 0, 0⟩) rfl fun sb w1 hsb C => ?_
    refine ok_loop (fun (s : Int) w' => ∃ (i : Nat) (T1 : Hp) (sl : Sl) (pl : List Nat), s = (i : Int) ∧ i ≤ np ∧ Tr en w T w' T1 ∧ T1 sb = some (.stk ⟨sl, cells, most, none, none, ⟨none, 0, 0⟩, 0, 0⟩) ∧ Rw T1 Ob.pages sl (pl.map some) ∧ pl.length = i ∧ pl.Nodup ∧ ∀ p ∈ pl, Bare T1 cells p) (fun s _ => ((np : Int) - s).toNat) ?_ _ _ ⟨0, _, ⟨none, 0, 0⟩, [], rfl, Nat.zero_le _, C, put_eq _ _ _, rw_nil _ _, rfl, List.nodup_nil, fun p hp => (by simp at hp)⟩
    clear C w1
    rintro s w1 ⟨i, T1, sl, pl, rfl, hi, C, hS, hr, hpl, hnd, hbare⟩
    by_cases hlt : i < np
    · refine ok_true (by simp only [decide_eq_true_eq]; omega) ?_
      simp only [bnd_as, bnd_ret]
      refine ok_tord C fun o w2 C => ?_
      refine ok_tld C hS (x := sl) rfl ?_
      refine ok_bnd.2 (ok_make slt22 (by omega) (Int.le_refl _) (by omega) (by omega) ?_)
      have hrep : (List.replicate (cells : Int).toNat (Value.int .i64 0)).toArray = (en (.ints (.cells (w2.heap.size + 1)) (List.replicate cells 0))).toArray := by
        simp [en, nums]
      rw [hrep]
      have hsz : (w2.alloc (.cells (en (.ints (.cells (w2.heap.size + 1)) (List.replicate cells 0))).toArray 2)).heap.size = w2.heap.size + 1 := by show (w2.heap.push _).size = _; rw [Array.size_push]
      have n1 := C.none_at
      have C2 := C.alloc (.ints (.cells (w2.heap.size + 1)) (List.replicate cells 0)) 2
      have kp2 : ∀ b o, T1 b = some o → put T1 w2.heap.size (.ints (.cells (w2.heap.size + 1)) (List.replicate cells 0)) b = some o := fun b o h => put_new h n1
      have hcb := put_eq T1 w2.heap.size (.ints (.cells (w2.heap.size + 1)) (List.replicate cells 0))
      generalize put T1 w2.heap.size (.ints (.cells (w2.heap.size + 1)) (List.replicate cells 0)) = T2 at C2 kp2 hcb
      generalize w2.alloc (.cells (en (.ints (.cells (w2.heap.size + 1)) (List.replicate cells 0))).toArray 2) = w3 at C2 hsz
      refine ok_tchk C2 (kp2 _ _ hS) rfl ?_
      refine ok_bnd.2 (ok_newC.2 ?_)
      have n2 := C2.none_at
      have C3 := C2.alloc (.page ⟨⟨some ⟨w2.heap.size, 0, none⟩, cells, cells⟩, ⟨none, 0, 0⟩, none, 0⟩) 66
      have kp3 : ∀ b o, T2 b = some o → put T2 w3.heap.size (.page ⟨⟨some ⟨w2.heap.size, 0, none⟩, cells, cells⟩, ⟨none, 0, 0⟩, none, 0⟩) b = some o := fun b o h => put_new h n2
      have hpp := put_eq T2 w3.heap.size (.page ⟨⟨some ⟨w2.heap.size, 0, none⟩, cells, cells⟩, ⟨none, 0, 0⟩, none, 0⟩)
      generalize put T2 w3.heap.size (.page ⟨⟨some ⟨w2.heap.size, 0, none⟩, cells, cells⟩, ⟨none, 0, 0⟩, none, 0⟩) = T3 at C3 kp3 hpp
      have henp : [Value.slice (some ⟨w2.heap.size, 0, none⟩) ((cells : Int).toNat) ((cells : Int).toNat), .slice none 0 0, .pointer none, .int .i64 (0 : Int)] = en (.page ⟨⟨some ⟨w2.heap.size, 0, none⟩, cells, cells⟩, ⟨none, 0, 0⟩, none, 0⟩) := rfl
      rw [← henp] at C3
      rw [← hsz] at hcb
      generalize w3.alloc _ = w4 at C3 ⊢
      generalize w3.heap.size = pb at C3 hpp n2 hcb ⊢
      refine ok_tchk C3 (kp3 _ _ (kp2 _ _ hS)) rfl ?_
      refine ok_bnd.2 (ok_build1R row58 (by decide) (F := some (pb)) (v := .pointer (some ⟨pb, 0, none⟩)) rfl ?_)
      have hB : Below w4.heap.size w4 (w4.alloc (.cells (ptV (some (pb))).toArray 59)) := (Below.refl _ _).alloc (Nat.le_refl _) _
      have C4 := C3.call hB
      have hnb : blk (w4.alloc (.cells (ptV (some (pb))).toArray 59)) w4.heap.size = some (ptV (some (pb))).toArray := by rw [blk_alloc, if_pos rfl]
      generalize w4.alloc (.cells (ptV (some (pb))).toArray 59) = w5 at C4 hnb
      refine ok_tchk C4 (kp3 _ _ (kp2 _ _ hS)) rfl ?_
      have K : Src Try.prog 1 58 (.slice (some ⟨w4.heap.size, 0, none⟩) 1 1) 1 (([some (pb)] : List (Option Nat)).flatMap ptV) w5 := Src.ofSlice w5 row58.und ⟨w4.heap.size, 0, none⟩ 1 1 _ rfl (fun j u hj => by
        rw [addr_add, cell_blk hnb, Nat.zero_add, List.getElem?_toArray]; exact hj) (flat_one' row58.one)
      have hr3 : Rw T3 Ob.pages sl (pl.map some) := hr.mono fun b L _ h => kp3 _ _ (kp2 _ _ h)
      refine ok_appR C4 row58 en_pages hr3 K (by simp; omega) (by simp; omega) ?_
      intro r w6 T4 C5 hr4 hT
      rcases hT with ⟨_, _, h9⟩ | ⟨fb, L', rfl, hra, hfb⟩
      · cases h9
      have keep : ∀ b o, T3 b = some o → (∀ L, o ≠ .pages L) → put T3 fb (.pages L') b = some o := fun b o h hne => by
        rcases hfb with h0 | ⟨_, L, hL⟩
        · exact put_new h h0
        · exact put_other h hL (hne L)
      have hs4 := keep _ _ (kp3 _ _ (kp2 _ _ hS)) (by simp)
      have hfs : fb ≠ sb := by
        rintro rfl
        rw [put_eq] at hs4; cases hs4
      have hput := put_eq T3 fb (.pages L')
      generalize put T3 fb (.pages L') = T4 at C5 hr4 keep hs4 hput
      refine ok_twr C5 (.stk ⟨r, cells, most, none, none, ⟨none, 0, 0⟩, 0, 0⟩) hs4 (by simp [en, Sk.en]) rfl rfl fun w7 C6 => ?_
      have kp5 : ∀ b o, T3 b = some o → (∀ L, o ≠ .pages L) → (∀ S, o ≠ .stk S) → put T4 sb (.stk ⟨r, cells, most, none, none, ⟨none, 0, 0⟩, 0, 0⟩) b = some o := fun b o h n1 n2 => put_other (keep _ _ h n1) hs4 (n2 _)
      refine ok_ret.2 ⟨⟨i + 1, _, r, pl ++ [pb], ?_, hlt, C6, put_eq _ _ _, ?_, by simp [hpl], ?_, ?_⟩, ?_⟩
      · rw [wrapI_in (by omega)]; simp
      · rw [List.map_append, List.map_singleton]
        refine hr4.mono fun b L h h' => ?_
        rw [put_ne _ (by rintro rfl; rw [hra, Option.some.injEq, Addr.mk.injEq] at h; exact hfs h.1)]
        exact h'
      · refine List.nodup_append.2 ⟨hnd, by simp, ?_⟩
        simp only [List.mem_singleton]
        rintro a ha _ rfl rfl
        obtain ⟨cb, g1, _⟩ := hbare _ ha
        rw [kp2 _ _ g1] at n2; cases n2
      · intro p hp
        simp only [List.mem_append, List.mem_singleton] at hp
        rcases hp with hp | rfl
        · obtain ⟨cb, g1, g2⟩ := hbare p hp
          exact ⟨cb, kp5 _ _ (kp3 _ _ (kp2 _ _ g1)) (by simp) (by simp), kp5 _ _ (kp3 _ _ (kp2 _ _ g2)) (by simp) (by simp)⟩
        · exact ⟨_, kp5 _ _ hpp (by simp) (by simp), kp5 _ _ (kp3 _ _ hcb) (by simp) (by simp)⟩
      · rw [wrapI_in (by omega)]; omega
    · refine ok_false (by simp only [decide_eq_false_iff_not]; omega) (ok_ret.2 ⟨T1, C, .inr ⟨rfl, sb, hsb, rfl, ?_⟩⟩)
      rw [Int.toNat_natCast, Int.toNat_natCast]
      exact ⟨fit_new _ _, _, _, inv_new hS rfl rfl rfl rfl hr (by omega) hnd hbare (by omega) (by omega), rfl, rfl⟩
end Go.Proofs.Ytckfidopkajpaaa
