/-
  Slices of numbers among what a call holds: read, written, copied. No program in sight.
-/
import Derived.Test.YtckfidopkajpaaaShO
import Derived.Deep.Upon
set_option linter.unusedVariables false
set_option linter.unusedSimpArgs false
namespace Go.Sh
set_option linter.unusedVariables false
open Go.RowKit
variable {S : Nat → Prop} {w0 w : World} {L : List It} {α : Type} {Q : α → World → Prop} {k : IntKind}
abbrev nums (k : IntKind) (l : List Int) : List Value := l.map (.int k)
theorem nums_one (l : List Int) : ∀ u ∈ nums k l, u.oneCell' = true := by
  intro u hu
  obtain ⟨n, _, rfl⟩ := List.mem_map.1 hu
  rfl
theorem nums_get {l : List Int} {n : Nat} {v : Int} (h : l[n]? = some v) : (nums k l)[n]? = some (.int k v) := by simp [nums, h]
theorem own_block {B : Nat} {s : Sl} {l : List Int} (h : Own B w s (nums k l)) {n : Nat} (hn : n < l.length) : ∃ b, s.a = some ⟨b, 0, none⟩ := by
  rcases h.2.2.2 with ⟨_, h5⟩ | ⟨b, c, h5, _⟩
  · have h1 := h.1; have h2 := h.2.1; simp only [List.length_map] at h1; omega
  · exact ⟨b, h5⟩
theorem own_cells {B : Nat} {s : Sl} {l : List Int} (h : Own B w s (nums k l)) {b n : Nat} {v : Int} (hb : s.a = some ⟨b, 0, none⟩) (hv : l[n]? = some v) : ∃ c, blk w b = some c ∧ fre w b = true ∧ c.size = s.cap ∧ n < c.size ∧ c[n]? = some (.int k v) ∧ ∀ i, i < (nums k l).length → c[i]? = (nums k l)[i]? := by
  have hn : n < l.length := by
    rcases Nat.lt_or_ge n l.length with h | h
    · exact h
    · rw [List.getElem?_eq_none h] at hv; cases hv
  rcases h.2.2.2 with ⟨h4, h5⟩ | ⟨b', c, h5, h6, h7, h8, h9, h10⟩
  · rw [hb] at h4; cases h4
  · rw [hb] at h5; cases h5
    have h1 := h.1; have h2 := h.2.1
    simp only [List.length_map] at h1
    exact ⟨c, h7, h8, h9, by omega, by rw [h10 n (by simpa using hn), nums_get hv], h10⟩
theorem ok_ixO {s : Sl} {b : Nat} {n : Int} {f : Addr → M α} (hb : s.a = some ⟨b, 0, none⟩) (h0 : 0 ≤ n) (h1 : n < s.len) (hq : Ok (f (Addr.add ⟨b, 0, none⟩ n.toNat)) w Q) : Ok (bnd (ix 1 s n) f) w Q :=
  ok_bnd.2 (ok_ix hb h0 h1 (by rw [Nat.mul_one]; exact hq))
theorem ok_ldO (C : Cx S w0 w L) {i : Nat} {s : Sl} {l : List Int} (hi : L[i]? = some (.own s (nums k l))) {b n : Nat} {v : Int} (hb : s.a = some ⟨b, 0, none⟩) (hv : l[n]? = some v) {f : Int → M α} (hq : Ok (f v) w Q) : Ok (bnd (ld (.int k) (Addr.add ⟨b, 0, none⟩ n)) f) w Q := by
  obtain ⟨c, h1, h2, h3, h4, h5, _⟩ := own_cells (C.get hi) hb hv
  exact ok_bnd.2 (ok_ldA h1 (rdv_int (by rw [Nat.zero_add]; exact h5)) hq)
theorem ok_chkO (C : Cx S w0 w L) {i : Nat} {s : Sl} {l : List Int} (hi : L[i]? = some (.own s (nums k l))) {b n : Nat} {v : Int} (hb : s.a = some ⟨b, 0, none⟩) (hv : l[n]? = some v) {f : Unit → M α} (hq : Ok (f ()) w Q) : Ok (bnd (chk (.int k) (Addr.add ⟨b, 0, none⟩ n) v) f) w Q := by
  obtain ⟨c, h1, h2, h3, h4, h5, _⟩ := own_cells (C.get hi) hb hv
  exact ok_bnd.2 (ok_chkA h1 (rdv_int (by rw [Nat.zero_add]; exact h5)) hq)
theorem ok_wrO (C : Cx S w0 w L) {i : Nat} {s : Sl} {l : List Int} (hi : L[i]? = some (.own s (nums k l))) {b n : Nat} {v : Int} (hb : s.a = some ⟨b, 0, none⟩) (hn : n < l.length) {f : Unit → M α}
    (hq : ∀ w', Cx S w0 w' (L.set i (.own s (nums k (l.set n v)))) → Ok (f ()) w' Q) : Ok (bnd (wrs (Addr.add ⟨b, 0, none⟩ n) 0 [.int k v]) f) w Q := by
  have hO := C.get hi
  obtain ⟨c, h1, h2, h3, h4, h5, h6⟩ := own_cells hO hb (List.getElem?_eq_getElem hn)
  refine ok_bnd.2 (ok_wrA h1 h2 (by rw [Nat.zero_add]; exact h4) rfl (hq _ (C.turn hi (keep_setBlk w b _) (fun x hx => by rw [hx]; simp [It.at_, hb]) ?_ rfl)))
  have e1 := hO.1
  simp only [List.length_map] at e1
  refine ⟨by simp [e1], hO.2.1, hO.2.2.1, .inr ⟨b, _, hb, Nat.zero_le _, by rw [blk_setBlk _ _ _ _ h1, if_pos rfl], by rw [fre_setBlk _ _ _ _ h1 (by simp)]; exact h2, by simp [h3], fun j hj => ?_⟩⟩
  simp only [nums, List.length_map, List.length_set] at hj
  rw [Nat.zero_add, Array.getElem?_setIfInBounds]
  by_cases hjn : n = j
  · subst hjn
    rw [if_pos rfl, if_pos h4]
    simp [hj]
  · rw [if_neg hjn, h6 j (by simpa using hj)]
    simp [List.getElem?_set, hjn]
/-- A call that writes one of the slices held, and nothing else of what was. -/
theorem Cx.turnOwn {w' : World} (C : Cx S w0 w L) {i : Nat} {s : Sl} {xs ys : List Value} (hi : L[i]? = some (.own s xs)) (hk : Keep (fun b => ∃ a, s.a = some a ∧ a.block = b) w w') (ho : Own 0 w' s ys) : Cx S w0 w' (L.set i (.own s ys)) :=
  C.turn hi hk (fun b ⟨a, h1, h2⟩ => by simp [It.at_, h1, h2]) ho rfl
/-- The block of a slice. -/
abbrev blkOf (s : Sl) : Nat → Prop := fun b => ∃ a, s.a = some a ∧ a.block = b
theorem Cx.one {s : Sl} {xs : List Value} {B : Nat} (h : Own B w s xs) : Cx (blkOf s) w w [.own s xs] :=
  ⟨Keep.refl _ _, fun it hi => by
    rw [List.mem_singleton] at hi; subst hi; exact own_lower h (Nat.zero_le _), fun it hi b hb => by
    rw [List.mem_singleton] at hi; subst hi
    simp only [It.at_, Option.map_eq_some_iff] at hb
    obtain ⟨a, ha, hab⟩ := hb
    exact .inl ⟨a, ha, hab⟩, by simp⟩
/-- Behind a call that writes one of the slices held. -/
theorem ok_callO {β : Type} (C : Cx S w0 w L) {i : Nat} {s : Sl} {xs : List Value} (hi : L[i]? = some (.own s xs)) {m : M β} {P : β → World → Prop} {ys : β → List Value} {f : β → M α} (hm : Ok m w P)
    (hB : ∀ r w', P r w' → Own 0 w' s (ys r) ∧ Keep (blkOf s) w w') (hq : ∀ r w', P r w' → Cx S w0 w' (L.set i (.own s (ys r))) → Ok (f r) w' Q) : Ok (bnd m f) w Q :=
  ok_bnd.2 (ok_mono hm fun r w' h => hq r w' h (C.turnOwn hi (hB r w' h).2 (hB r w' h).1))
/-- One of them is another one now, in a block of its own. -/
theorem Cx.swap {w' : World} (C : Cx S w0 w L) (k : Below w.heap.size w w') {i : Nat} {old new : It} (hi : L[i]? = some old) (hn : new.In w') (hb : ∀ b, new.at_ = some b → w.heap.size ≤ b) : Cx S w0 w' (L.set i new) := by
  have C1 := C.add k hn hb
  have hm := (List.pairwise_cons.1 C1.apart)
  refine ⟨C1.keep, fun x hx => ?_, fun x hx b h => ?_, ?_⟩
  · rcases List.mem_or_eq_of_mem_set hx with h | rfl
    · exact C1.held x (.tail _ h)
    · exact hn
  · rcases List.mem_or_eq_of_mem_set hx with h' | rfl
    · exact C1.mine x (.tail _ h') b h
    · exact C1.mine x (.head _) b h
  · refine List.pairwise_iff_getElem.2 fun p q hp hq hpq b h1 h2 => ?_
    rw [List.length_set] at hp hq
    have hap := List.pairwise_iff_getElem.1 hm.2
    rw [List.getElem_set] at h1 h2
    split at h1
    · split at h2
      · omega
      · exact hm.1 _ (List.getElem_mem hq) b h1 h2
    · split at h2
      · exact hm.1 _ (List.getElem_mem hp) b h2 h1
      · exact hap p q hp hq hpq b h1 h2
theorem Cx.addNil (C : Cx S w0 w L) : Cx S w0 w (.own ⟨none, 0, 0⟩ [] :: L) :=
  C.add (Below.refl _ _) ⟨rfl, Nat.le_refl _, Nat.zero_le _, .inl ⟨rfl, rfl⟩⟩ (by simp [It.at_])
/-- An append to a slice held. -/
theorem ok_appendO {P : Program} {T U V e : TypeId} {z : Value} {by_ : Nat} (SL : SlT P T e z by_) (C : Cx S w0 w L) {i : Nat} {s : Sl} {xs : List Value} (hi : L[i]? = some (.own s xs)) (hx : ∀ u ∈ xs, u.oneCell' = true) {x : Value} {n : Nat} {ys : List Value} (K : Src P 1 U x n ys w)
    (hby : (s.len + n) * by_ ≤ 140737488355328) (hlen : s.len + n ≤ maxLen) {f : Sl → M α} (hq : ∀ r w', Cx S w0 w' (L.set i (.own r (xs ++ ys))) → r.len = s.len + n → Ok (f r) w' Q) :
    Ok (bnd (runV P .sl (Builtin.append_ #[T, U] V #[.slice s.a s.len s.cap, x])) f) w Q := by
  have O := C.get hi
  have hyl : ys.length = n := by have := K.newsLen; omega
  have e1 := O.1
  by_cases hn : n = 0
  · subst hn
    have hy : ys = [] := List.eq_nil_of_length_eq_zero hyl
    subst hy
    obtain ⟨inf, hinf, hs, hz, hb⟩ := SL.info
    have K' := K
    rw [← hs] at K'
    refine ok_bnd.2 (ok_runV (v := .slice s.a s.len s.cap) (w' := w) (run_append_nothing w T U V e inf SL.under hinf s.a s.len s.cap O.2.1 x K') (x := s) rfl (hq s w ?_ (by simp)))
    rw [List.append_nil]
    exact C.turn hi (Keep.refl No w) (fun _ h => h.elim) O rfl
  · by_cases hc : s.len + n ≤ s.cap
    · rcases O.2.2.2 with ⟨h5, h6⟩ | ⟨b, c, h5, h6, h7, h8, h9, h10⟩
      · omega
      · rw [h5]
        refine ok_bnd.2 (ok_append_room SL h7 h8 K hc (by omega) (hq _ _ (C.turn hi (keep_setBlk w b _) (fun y hy => by rw [hy]; simp [It.at_, h5]) ?_ (by simp [It.at_, h5])) rfl))
        have hsz : (splice c (0 + s.len) ys).size = c.size := splice_size _ _ _
        refine ⟨by simp; omega, hc, O.2.2.1, .inr ⟨b, _, rfl, Nat.zero_le _, by rw [blk_setBlk _ _ _ _ h7, if_pos rfl], by rw [fre_setBlk _ _ _ _ h7 hsz]; exact h8, by rw [hsz]; exact h9, fun j hj => ?_⟩⟩
        rw [splice_get ys (0 + s.len) c (by omega) j, Nat.zero_add]
        simp only [List.length_append] at hj
        by_cases hjl : j < xs.length
        · rw [if_neg (by omega), h10 j hjl, List.getElem?_append_left hjl]
        · rw [if_pos (by omega), List.getElem?_append_right (by omega), e1]
    · refine ok_bnd.2 (ok_append_new SL (own_arr O) hx K (by omega) hby hlen fun c hc1 hc2 => ?_)
      have hB : Below w.heap.size w (w.drew.alloc (.cells (xs ++ ys ++ List.replicate (c - (s.len + n)) z).toArray e)) := ((Below.refl _ _).drew).alloc (show w.heap.size ≤ w.drew.heap.size from Nat.le_refl _) _
      refine hq _ _ (C.swap hB hi (new := .own ⟨some ⟨w.heap.size, 0, none⟩, s.len + n, c⟩ (xs ++ ys)) ⟨by simp; omega, hc1, hc2, .inr ⟨w.drew.heap.size, _, rfl, Nat.zero_le _, by rw [blk_alloc, if_pos rfl], by rw [fre_alloc, if_pos rfl], ?_, fun j hj => ?_⟩⟩ (by simp [It.at_])) rfl
      · simp; omega
      · simp only [List.length_append] at hj
        rw [List.getElem?_toArray, List.getElem?_append_left (by simpa using hj)]
end Go.Sh
