/-
  Slices of slices among what a call holds; appends that keep what was. No program in sight.
-/
import Derived.Test.YtckfidopkajpaaaShP
set_option linter.unusedVariables false
set_option linter.unusedSimpArgs false
namespace Go.Sh
set_option linter.unusedVariables false
open Go.RowKit
variable {S : Nat → Prop} {w0 w : World} {L R : List It} {α : Type} {Q : α → World → Prop} {k : IntKind}
theorem Cx.perm {L' : List It} (h : L.Perm L') (C : Cx S w0 w L) : Cx S w0 w L' :=
  ⟨C.keep, fun it hi => C.held it (h.mem_iff.2 hi), fun it hi => C.mine it (h.mem_iff.2 hi), (h.pairwise_iff (fun hxy b h1 h2 => hxy b h2 h1)).1 C.apart⟩
abbrev slV (s : Sl) : Value := .slice s.a s.len s.cap
theorem slV_one (l : List Sl) : ∀ u ∈ l.map slV, u.oneCell' = true := by
  intro u hu
  obtain ⟨n, _, rfl⟩ := List.mem_map.1 hu
  rfl
theorem rdv_sl {c : Array Value} {o : Nat} {s : Sl} (h : c[o]? = some (slV s)) : rdv .sl c o = some s := by
  have ho : o < c.size := by
    rcases Nat.lt_or_ge o c.size with h' | h'
    · exact h'
    · rw [Array.getElem?_eq_none h'] at h; cases h
  unfold rdv
  rw [if_pos (by show o + 1 ≤ c.size; omega)]
  have : (c.toList.drop o).take (Ty.size .sl) = [slV s] := by
    show (c.toList.drop o).take 1 = _
    rw [List.drop_eq_getElem_cons (by simpa using ho)]
    rw [Array.getElem?_eq_getElem ho] at h
    simp only [Option.some.injEq] at h
    simp [h]
  rw [this]
  rfl
/-- A slice out of a slice of slices. -/
theorem ok_getSl {B : Nat} {s : Sl} {l : List Sl} {i : Int} {x : Sl} {K : Sl → M α} (H : Arr B w s (l.map slV)) (h0 : 0 ≤ i) (hl : l[i.toNat]? = some x) (hq : Ok (K x) w Q) : Ok (bnd (ix 1 s i) fun p => bnd (ld .sl p) K) w Q := by
  obtain ⟨e1, e2, e3, e4⟩ := H
  have hil : i.toNat < l.length := by
    rcases Nat.lt_or_ge i.toNat l.length with h | h
    · exact h
    · rw [List.getElem?_eq_none h] at hl; cases hl
  rcases e4 with e4 | ⟨b, o, c, h5, h6, h7, h8⟩
  · simp only [List.map_eq_nil_iff] at e4; subst e4; simp at hil
  refine ok_bnd.2 (ok_ix h5 h0 (by rw [e1]; simp; omega) ?_)
  refine ok_bnd.2 (ok_ldA h7 (rdv_sl ?_) hq)
  rw [Nat.mul_one, h8 _ (by simpa using hil)]
  simp [hl]
theorem ok_buildL1 {P : Program} {T e : TypeId} {z : Value} {by_ : Nat} (SL : SlT P T e z by_) (v : Value) (hv : v.cells = #[v]) {Q : Sl → World → Prop} (hq : Q ⟨some ⟨w.heap.size, 0, none⟩, 1, 1⟩ (w.alloc (.cells #[v] e))) : Ok (runV P .sl (Instr.buildSlice T 1 #[(0, v)])) w Q := by
  obtain ⟨i, hi, hs, hz, hb⟩ := SL.info
  refine ok_runV (v := .slice (some ⟨w.heap.size, 0, none⟩) 1 1) (w' := w.alloc (.cells #[v] e)) ?_ rfl hq
  simp [Instr.buildSlice, run_underlying SL.under, sizeOf, typeInfo, zeroValue, hi, hz, hs, Instr.fill, newRow, SL.cells]
  rw [show (Array.range 1) = #[0] from by decide]
  simp [hv]
theorem Cx.build1 {T e : TypeId} {v : Value} (C : Cx S w0 w L) : Cx S w0 (w.alloc (.cells #[v] e)) (.own ⟨some ⟨w.heap.size, 0, none⟩, 1, 1⟩ [v] :: L) :=
  C.add ((Below.refl _ _).alloc (Nat.le_refl _) _) ⟨rfl, Nat.le_refl _, show 1 ≤ maxLen by decide, .inr ⟨w.heap.size, _, rfl, Nat.zero_le _, by rw [blk_alloc, if_pos rfl], by rw [fre_alloc, if_pos rfl], rfl, fun i hi => by simp⟩⟩ (by simp [It.at_])
/-- One element more. -/
theorem ok_push1 {P : Program} {T e : TypeId} {z : Value} {by_ : Nat} (SL : SlT P T e z by_) (C : Cx S w0 w L) {i : Nat} {s : Sl} {xs : List Value} (hi : L[i]? = some (.own s xs)) (hx : ∀ u ∈ xs, u.oneCell' = true) (v : Value) (hv : v.cells = #[v]) (h1 : v.oneCell' = true)
    (hby : (s.len + 1) * by_ ≤ 140737488355328) (hlen : s.len + 1 ≤ maxLen) {f : Sl → M α} (hq : ∀ r w', Cx S w0 w' (L.set i (.own r (xs ++ [v]))) → r.len = s.len + 1 → Ok (f r) w' Q) :
    Ok (bnd (runV P .sl (Instr.buildSlice T 1 #[(0, v)])) fun (v3 : Sl) => bnd (runV P .sl (Builtin.append_ #[T, T] T #[.slice s.a s.len s.cap, .slice v3.a v3.len v3.cap])) f) w Q := by
  refine ok_bnd.2 (ok_buildL1 SL v hv ?_)
  have C1 := C.build1 (T := T) (e := e) (v := v)
  refine ok_appendO SL C1 (i := i + 1) hi hx (arr_src SL.under (C1.arr (i := 0) rfl) (by simp [h1])) hby hlen fun r w' C2 hr => hq r w' ?_ hr
  have : ((It.own ⟨some ⟨w.heap.size, 0, none⟩, 1, 1⟩ [v] :: L).set (i + 1) (.own r (xs ++ [v]))) = It.own ⟨some ⟨w.heap.size, 0, none⟩, 1, 1⟩ [v] :: L.set i (.own r (xs ++ [v])) := rfl
  rw [this] at C2
  exact C2.tail
theorem own_view {B : Nat} {r s : Sl} {xs ys m : List Value} (h : Own B w r xs) (hx : xs = ys ++ m) (ha : r.a = s.a) (hc : r.cap = s.cap) (hl : s.len = ys.length) (hle : s.len ≤ s.cap) : Own B w s ys := by
  obtain ⟨h1, h2, h3, h4⟩ := h
  refine ⟨hl, hle, hc ▸ h3, ?_⟩
  rcases h4 with ⟨h5, h6⟩ | ⟨b, c, h5, h6, h7, h8, h9, h10⟩
  · exact .inl ⟨ha ▸ h5, hc ▸ h6⟩
  · refine .inr ⟨b, c, ha ▸ h5, h6, h7, h8, hc ▸ h9, fun i hi => ?_⟩
    rw [h10 i (by rw [hx, List.length_append]; omega), hx, List.getElem?_append_left hi]
/-- A slice that has grown out of another one, which is still there: in its place, or elsewhere. -/
def St (S : Nat → Prop) (w0 w : World) (s : Sl) (l : List Value) (r : Sl) (xs : List Value) (R : List It) : Prop :=
  (r.a = s.a ∧ r.cap = s.cap ∧ (∃ m, xs = l ++ m) ∧ Cx S w0 w (.own r xs :: R)) ∨ Cx S w0 w (.own r xs :: .own s l :: R)
theorem St.push {P : Program} {T e : TypeId} {z : Value} {by_ : Nat} (SL : SlT P T e z by_) {s r : Sl} {l xs : List Value} (C : St S w0 w s l r xs R) (hs : s.len = l.length) (hsc : s.len ≤ s.cap) (hx : ∀ u ∈ xs, u.oneCell' = true) (v : Value) (hv : v.cells = #[v]) (h1 : v.oneCell' = true)
    (hby : (r.len + 1) * by_ ≤ 140737488355328) (hlen : r.len + 1 ≤ maxLen) {f : Sl → M α} (hq : ∀ r' w', St S w0 w' s l r' (xs ++ [v]) R → r'.len = r.len + 1 → Ok (f r') w' Q) :
    Ok (bnd (runV P .sl (Instr.buildSlice T 1 #[(0, v)])) fun (v3 : Sl) => bnd (runV P .sl (Builtin.append_ #[T, T] T #[.slice r.a r.len r.cap, .slice v3.a v3.len v3.cap])) f) w Q := by
  rcases C with ⟨ha, hc, ⟨m, hm⟩, C⟩ | C
  · have O := C.get (i := 0) rfl
    refine ok_bnd.2 (ok_buildL1 SL v hv ?_)
    have C1 := C.build1 (T := T) (e := e) (v := v)
    generalize w.alloc (.cells #[v] e) = w1 at C1 ⊢
    have O1 : Own 0 w1 r xs := C1.get (i := 1) rfl
    have K : Src P 1 T (.slice (some ⟨w.heap.size, 0, none⟩) 1 1) 1 [v] w1 := arr_src (x := ⟨some ⟨w.heap.size, 0, none⟩, 1, 1⟩) SL.under (C1.arr (i := 0) rfl) (by simp [h1])
    have C1 := C1.tail
    have e1 := O1.1
    by_cases hroom : r.len + 1 ≤ r.cap
    · rcases O1.2.2.2 with ⟨h5, h6⟩ | ⟨b, c, h5, h6, h7, h8, h9, h10⟩
      · omega
      · rw [h5]
        refine ok_bnd.2 (ok_append_room SL h7 h8 K hroom (by omega) (hq _ _ (.inl ⟨by rw [← ha, h5], hc, ⟨m ++ [v], by rw [hm, List.append_assoc]⟩, ?_⟩) rfl))
        have hsz : (splice c (0 + r.len) [v]).size = c.size := splice_size _ _ _
        refine C1.turn (i := 0) (new := .own ⟨some ⟨b, 0, none⟩, r.len + 1, r.cap⟩ (xs ++ [v])) rfl (keep_setBlk w1 b _) (fun y hy => by rw [hy]; simp [It.at_, h5]) ?_ (by simp [It.at_, h5])
        refine ⟨by simp; omega, hroom, O1.2.2.1, .inr ⟨b, _, rfl, Nat.zero_le _, by rw [blk_setBlk _ _ _ _ h7, if_pos rfl], by rw [fre_setBlk _ _ _ _ h7 hsz]; exact h8, by rw [hsz]; exact h9, fun j hj => ?_⟩⟩
        rw [splice_get [v] (0 + r.len) c (by simp; omega) j, Nat.zero_add]
        simp only [List.length_append, List.length_singleton] at hj
        by_cases hjl : j < xs.length
        · rw [if_neg (by simp; omega), h10 j hjl, List.getElem?_append_left hjl]
        · rw [if_pos (by simp; omega), List.getElem?_append_right (by omega), e1]
    · refine ok_bnd.2 (ok_append_new SL (own_arr O1) hx K (by omega) hby hlen fun c hc1 hc2 => ?_)
      have hB : Below w1.heap.size w1 (w1.drew.alloc (.cells (xs ++ [v] ++ List.replicate (c - (r.len + 1)) z).toArray e)) := ((Below.refl _ _).drew).alloc (show w1.heap.size ≤ w1.drew.heap.size from Nat.le_refl _) _
      have C2 := C1.add hB (it := .own ⟨some ⟨w1.heap.size, 0, none⟩, r.len + 1, c⟩ (xs ++ [v])) ⟨by simp; omega, hc1, hc2, .inr ⟨w1.drew.heap.size, _, rfl, Nat.zero_le _, by rw [blk_alloc, if_pos rfl], by rw [fre_alloc, if_pos rfl], by simp; omega, fun j hj => by
        simp only [List.length_append] at hj
        rw [List.getElem?_toArray, List.getElem?_append_left (by simpa using hj)]⟩⟩ (by simp [It.at_])
      have C3 := C2.turn (i := 1) (new := .own s l) rfl (Keep.refl No _) (fun _ h => h.elim) (own_view (C2.get (i := 1) rfl) hm ha hc hs hsc) (by simp [It.at_, ha])
      exact hq _ _ (.inr C3) rfl
  · exact ok_push1 SL C (i := 0) rfl hx v hv h1 hby hlen fun r' w' C' hr => hq r' w' (.inr C') hr
end Go.Sh

namespace Go.Sh
set_option linter.unusedVariables false
open Go.RowKit
variable {S : Nat → Prop} {w0 w : World} {L R : List It}
theorem Cx.apartAt (C : Cx S w0 w L) {i j : Nat} {x y : It} (hi : L[i]? = some x) (hj : L[j]? = some y) (hne : i ≠ j) (b : Nat) (h1 : x.at_ = some b) : y.at_ ≠ some b := by
  intro h2
  have li : i < L.length := by
    rcases Nat.lt_or_ge i L.length with h | h
    · exact h
    · rw [List.getElem?_eq_none h] at hi; cases hi
  have lj : j < L.length := by
    rcases Nat.lt_or_ge j L.length with h | h
    · exact h
    · rw [List.getElem?_eq_none h] at hj; cases hj
  rw [List.getElem?_eq_getElem li] at hi
  rw [List.getElem?_eq_getElem lj] at hj
  cases hi; cases hj
  have hap := List.pairwise_iff_getElem.1 C.apart
  rcases Nat.lt_or_ge i j with h | h
  · exact hap i j li lj h b h1 h2
  · exact hap j i lj li (by omega) b h2 h1
/-- The items at those places. -/
def picks (L : List It) : List Nat → List It
  | [] => []
  | i :: is => match L[i]? with
    | some x => x :: picks L is
    | none => picks L is
theorem picks_mem {x : It} : ∀ {is : List Nat}, x ∈ picks L is → ∃ i ∈ is, L[i]? = some x
  | [], h => by cases h
  | i :: is, h => by
    unfold picks at h
    split at h
    · rename_i y hy
      rcases List.mem_cons.1 h with rfl | h
      · exact ⟨i, by simp, hy⟩
      · obtain ⟨j, hj, hx⟩ := picks_mem h; exact ⟨j, .tail _ hj, hx⟩
    · obtain ⟨j, hj, hx⟩ := picks_mem h; exact ⟨j, .tail _ hj, hx⟩
theorem Cx.pick (C : Cx S w0 w L) (is : List Nat) (hn : is.Nodup) : Cx S w0 w (picks L is) := by
  refine ⟨C.keep, fun x hx => ?_, fun x hx => ?_, ?_⟩
  · obtain ⟨i, _, h⟩ := picks_mem hx; exact C.get h
  · obtain ⟨i, _, h⟩ := picks_mem hx; exact C.mine x (List.mem_of_getElem? h)
  · induction is with
    | nil => exact .nil
    | cons i is ih =>
      have hn' := List.nodup_cons.1 hn
      unfold picks
      split
      · rename_i y hy
        refine List.pairwise_cons.2 ⟨fun z hz b h1 => ?_, ih hn'.2⟩
        obtain ⟨j, hj, h⟩ := picks_mem hz
        exact C.apartAt hy h (fun e => hn'.1 (e ▸ hj)) b h1
      · exact ih hn'.2
/-- One of them, looked at otherwise. -/
theorem Cx.recast (C : Cx S w0 w L) {i : Nat} {old new : It} (hi : L[i]? = some old) (hn : new.In w) (ha : new.at_ = old.at_) : Cx S w0 w (L.set i new) :=
  C.turn hi (Keep.refl No w) (fun _ h => h.elim) hn ha
end Go.Sh
