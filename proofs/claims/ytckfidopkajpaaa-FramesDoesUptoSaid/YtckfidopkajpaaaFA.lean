/-
  Parts of the proof: FA, ShU. It states what the functions do; no further condition.
-/
import Derived.Test.YtckfidopkajpaaaShS
import Derived.LaidEqlPtr
set_option linter.unusedVariables false
set_option linter.unusedSimpArgs false
/-
  A heap of typed things: what lies in which block, one map for all of it; read, written, made. No program in sight.
-/
namespace Go.Sh
set_option linter.unusedVariables false
open Go.RowKit
/-- Nothing of the block is frozen, nor marked. -/
def cln (w : World) (b : Nat) : Bool := match w.heap[b]? with
  | some (.cells _ _ fz) => decide (fz = (0, 0))
  | _ => false
theorem cln_fre {w : World} {b : Nat} (h : cln w b = true) : fre w b = true := by
  unfold cln at h
  unfold fre
  split at h
  · rename_i c e fz he
    simp only [decide_eq_true_eq] at h
    subst h
    simp [he]
  · cases h
theorem cln_cells {w : World} {b : Nat} (h : cln w b = true) : ∃ c e, w.heap[b]? = some (.cells c e (0, 0)) := by
  unfold cln at h
  split at h
  · rename_i c e fz he
    simp only [decide_eq_true_eq] at h
    subst h
    exact ⟨c, e, he⟩
  · cases h
theorem cln_alloc (w : World) (c : Array Value) (e : TypeId) (b : Nat) : cln (w.alloc (.cells c e)) b = if b = w.heap.size then true else cln w b := by
  by_cases h : b = w.heap.size
  · subst h; unfold cln; rw [heap_alloc, if_pos rfl, if_pos rfl]; simp
  · unfold cln; rw [heap_alloc, if_neg h, if_neg h]
theorem cln_drew (w : World) (b : Nat) : cln w.drew b = cln w b := rfl
theorem cln_setBlk (w : World) (b : Nat) (c : Array Value) (i : Nat) : cln (World.setBlk w b c) i = cln w i := by
  unfold cln
  by_cases h : i = b
  · subst h
    unfold World.setBlk
    simp only [Array.getElem?_modify]
    cases w.heap[i]? with
    | none => rfl
    | some o => cases o <;> rfl
  · rw [heap_setBlk _ _ _ _ h]
theorem Below.cln {B b : Nat} {w w' : World} (h : Below B w w') (hb : b < B) : cln w' b = Sh.cln w b := by
  unfold Sh.cln; rw [h.block b hb]
variable {O : Type} {en : O → List Value}
/-- What lies in blocks. -/
def Th (en : O → List Value) (w : World) (T : Nat → Option O) : Prop := ∀ b o, T b = some o → blk w b = some (en o).toArray ∧ cln w b = true
def put (T : Nat → Option O) (b : Nat) (o : O) : Nat → Option O := fun x => if x = b then some o else T x
theorem put_eq (T : Nat → Option O) (b : Nat) (o : O) : put T b o b = some o := if_pos rfl
theorem put_ne {T : Nat → Option O} {b x : Nat} (o : O) (h : x ≠ b) : put T b o x = T x := if_neg h
theorem put_put (T : Nat → Option O) (b : Nat) (o o' : O) : put (put T b o) b o' = put T b o' := by
  funext x; unfold put; split <;> rfl
theorem put_same {T : Nat → Option O} {b : Nat} {o : O} (h : T b = some o) : put T b o = T := by
  funext x; unfold put; split
  · rename_i e; rw [e, h]
  · rfl
theorem put_comm (T : Nat → Option O) {b c : Nat} (o p : O) (h : b ≠ c) : put (put T b o) c p = put (put T c p) b o := by
  funext x; unfold put; (repeat' split) <;> first | rfl | omega
theorem Th.lt {w : World} {T : Nat → Option O} (h : Th en w T) {b : Nat} {o : O} (hb : T b = some o) : b < w.heap.size := blk_lt (h b o hb).1
/-- From one world to another: what is in the map alone may have turned; what is new in the map is new. -/
structure Tr (en : O → List Value) (w0 : World) (T0 : Nat → Option O) (w : World) (T : Nat → Option O) : Prop where
  th : Th en w T
  keep : Keep (fun b => T0 b ≠ none) w0 w
  new : ∀ b, T b ≠ none → T0 b ≠ none ∨ w0.heap.size ≤ b
variable {w0 w1 w : World} {T0 T1 T : Nat → Option O}
theorem Tr.refl (h : Th en w T) : Tr en w T w T := ⟨h, Keep.refl _ _, fun _ h => .inl h⟩
theorem Tr.trans (h : Tr en w0 T0 w1 T1) (k : Tr en w1 T1 w T) : Tr en w0 T0 w T :=
  ⟨k.th, h.keep.trans k.keep h.new, fun b hb => by
    rcases k.new b hb with h1 | h1
    · exact h.new b h1
    · exact .inr (Nat.le_trans h.keep.size h1)⟩
/-- A call that does nothing to what was there. -/
theorem Tr.call {w' : World} (C : Tr en w0 T0 w T) (k : Below w.heap.size w w') : Tr en w0 T0 w' T :=
  ⟨fun b o hb => by
    have h := C.th b o hb
    have hl := C.th.lt hb
    exact ⟨(Go.Sh.Below.blk k hl).trans h.1, (Go.Sh.Below.cln k hl).trans h.2⟩,
   C.keep.trans (Keep.of_size k) (fun _ h => h.elim), C.new⟩
theorem Tr.drew (C : Tr en w0 T0 w T) : Tr en w0 T0 w.drew T := C.call ((Below.refl _ _).drew)
theorem Tr.none_at (C : Tr en w0 T0 w T) : T w.heap.size = none := by
  cases h : T w.heap.size with
  | none => rfl
  | some o => have := C.th.lt h; omega
theorem Tr.mk_at {w' : World} (C : Tr en w0 T0 w T) (k : Below w.heap.size w w') {b : Nat} {o : O} (hb : w.heap.size ≤ b) (h1 : blk w' b = some (en o).toArray) (h2 : cln w' b = true) : Tr en w0 T0 w' (put T b o) := by
  have C' := C.call k
  refine ⟨fun x o' hx => ?_, C'.keep, fun x hx => ?_⟩
  · by_cases e : x = b
    · subst e; rw [put_eq, Option.some.injEq] at hx; subst hx; exact ⟨h1, h2⟩
    · rw [put_ne _ e] at hx; exact C'.th x o' hx
  · by_cases e : x = b
    · subst e; exact .inr (Nat.le_trans C.keep.size hb)
    · rw [put_ne _ e] at hx; exact C.new x hx
theorem Tr.alloc (C : Tr en w0 T0 w T) (o : O) (e : TypeId) : Tr en w0 T0 (w.alloc (.cells (en o).toArray e)) (put T w.heap.size o) :=
  C.mk_at ((Below.refl _ _).alloc (Nat.le_refl _) _) (Nat.le_refl _) (by rw [blk_alloc, if_pos rfl]) (by rw [cln_alloc, if_pos rfl])
theorem Tr.set (C : Tr en w0 T0 w T) {b : Nat} {o : O} (hb : T b = some o) (o' : O) (hl : (en o').length = (en o).length) : Tr en w0 T0 (World.setBlk w b (en o').toArray) (put T b o') := by
  have h := C.th b o hb
  refine ⟨fun x p hx => ?_, C.keep.trans (keep_setBlk w b _) fun i hi => ?_, fun x hx => ?_⟩
  · by_cases e : x = b
    · subst e; rw [put_eq, Option.some.injEq] at hx; subst hx
      exact ⟨by rw [blk_setBlk _ _ _ _ h.1, if_pos rfl], by rw [cln_setBlk]; exact h.2⟩
    · rw [put_ne _ e] at hx
      have hx' := C.th x p hx
      exact ⟨by rw [blk_setBlk _ _ _ _ h.1, if_neg e]; exact hx'.1, by rw [cln_setBlk]; exact hx'.2⟩
  · subst hi; exact C.new i (by rw [hb]; simp)
  · by_cases e : x = b
    · subst e; exact C.new x (by rw [hb]; simp)
    · rw [put_ne _ e] at hx; exact C.new x hx
variable {α : Type} {Q : α → World → Prop}
theorem ok_drfS {a : Addr} {f : Addr → M α} (h : Ok (f a) w Q) : Ok (bnd (drf (some a)) f) w Q := ok_bnd.2 (ok_drf.2 ⟨a, rfl, h⟩)
theorem ok_tdraw (C : Tr en w0 T0 w T) {f : Unit → M α} (h : ∀ w', Tr en w0 T0 w' T → Ok (f ()) w' Q) : Ok (bnd drawM f) w Q := ok_bnd.2 (ok_drawM.2 (h _ C.drew))
theorem ok_tld (C : Tr en w0 T0 w T) {b m k : Nat} {o : O} {t : Ty} {x : t.den} {f : t.den → M α} (hb : T b = some o) (hx : rdv t (en o).toArray (m + k) = some x) (hq : Ok (f x) w Q) : Ok (bnd (ld t (Addr.add ⟨b, m, none⟩ k)) f) w Q :=
  ok_bnd.2 (ok_ldA (C.th b o hb).1 hx hq)
theorem ok_tld0 (C : Tr en w0 T0 w T) {b m : Nat} {o : O} {t : Ty} {x : t.den} {f : t.den → M α} (hb : T b = some o) (hx : rdv t (en o).toArray m = some x) (hq : Ok (f x) w Q) : Ok (bnd (ld t ⟨b, m, none⟩) f) w Q :=
  ok_bnd.2 (ok_ld (C.th b o hb).1 hx hq)
theorem ok_tchk (C : Tr en w0 T0 w T) {b m k : Nat} {o : O} {t : Ty} {x : t.den} {f : Unit → M α} (hb : T b = some o) (hx : rdv t (en o).toArray (m + k) = some x) (hq : Ok (f ()) w Q) : Ok (bnd (chk t (Addr.add ⟨b, m, none⟩ k) x) f) w Q :=
  ok_bnd.2 (ok_chkA (C.th b o hb).1 hx hq)
theorem ok_twr (C : Tr en w0 T0 w T) {b m k : Nat} {o : O} (o' : O) {vs : List Value} {f : Unit → M α} (hb : T b = some o) (hn : m + k + vs.length ≤ (en o).length) (ha : vs.all single = true) (hc : spl (en o) (m + k) vs = en o')
    (hq : ∀ w', Tr en w0 T0 w' (put T b o') → Ok (f ()) w' Q) : Ok (bnd (wrs (Addr.add ⟨b, m, none⟩ k) 0 vs) f) w Q := by
  have h := C.th b o hb
  rw [addr_add]
  refine ok_bnd.2 (ok_wrs h.1 (cln_fre h.2) (by simpa using hn) ha (hq _ ?_))
  rw [splice_spl _ _ _ hn, hc]
  refine C.set hb o' ?_
  rw [← hc]
  simp [spl]; omega
theorem ok_twr0 (C : Tr en w0 T0 w T) {b m : Nat} {o : O} (o' : O) {vs : List Value} {f : Unit → M α} (hb : T b = some o) (hn : m + vs.length ≤ (en o).length) (ha : vs.all single = true) (hc : spl (en o) m vs = en o')
    (hq : ∀ w', Tr en w0 T0 w' (put T b o') → Ok (f ()) w' Q) : Ok (bnd (wrs ⟨b, m, none⟩ 0 vs) f) w Q := by
  have e : (⟨b, m, none⟩ : Addr) = Addr.add ⟨b, m, none⟩ 0 := by rw [addr_add]; rfl
  rw [e]
  exact ok_twr C o' hb hn ha hc hq
theorem ok_tnew (C : Tr en w0 T0 w T) {e : TypeId} {vs : List Value} (o : O) {f : Addr → M α} (hv : vs = en o) (hq : ∀ b w', T b = none → Tr en w0 T0 w' (put T b o) → Ok (f ⟨b, 0, none⟩) w' Q) : Ok (bnd (newC e vs) f) w Q := by
  subst hv
  exact ok_bnd.2 (ok_newC.2 (hq _ _ C.none_at (C.alloc o e)))
/-- A cell for a moment. -/
theorem ok_tnewG (C : Tr en w0 T0 w T) {e : TypeId} {vs : List Value} {f : Addr → M α} (hq : ∀ w', Tr en w0 T0 w' T → Ok (f ⟨w.heap.size, 0, none⟩) w' Q) : Ok (bnd (newC e vs) f) w Q :=
  ok_bnd.2 (ok_newC.2 (hq _ (C.call ((Below.refl _ _).alloc (Nat.le_refl _) _))))
theorem ok_tord (C : Tr en w0 T0 w T) {F : FuncId} {n : Nat} {ops : Array Oper} {f : List Nat → M α} (h : ∀ o w', Tr en w0 T0 w' T → Ok (f o) w' Q) : Ok (bnd (ordM F n ops) f) w Q :=
  ok_bnd.2 ⟨_, _, rfl, h _ _ C.drew⟩
/-- Two pointers, held against each other. -/
theorem ok_tpeq (C : Tr en w0 T0 w T) {P : Program} {tp te : TypeId} {j : TypeInfo} {a b : Nat} {x y : O} (hp : P.underlying tp = some (.pointer te)) (hte : P.info? te = some j) (hsz : j.size ≠ 0) (ha : T a = some x) (hb : T b = some y) {f : Bool → M α}
    (hq : Ok (f (decide (a = b))) w Q) : Ok (bnd (runV P .bool (binOp .eql tp (.pointer (some ⟨a, 0, none⟩)) (.pointer (some ⟨b, 0, none⟩)))) f) w Q := by
  by_cases h : a = b
  · subst h
    exact ok_bnd.2 (ok_runV (run_eql_ptr_same w _ hp hte) (x := true) rfl (by simpa using hq))
  · obtain ⟨ca, ea, h1⟩ := cln_cells (C.th a x ha).2
    obtain ⟨cb, eb, h2⟩ := cln_cells (C.th b y hb).2
    refine ok_bnd.2 (ok_runV (run_eql_ptr_other w (a := ⟨a, 0, none⟩) (b := ⟨b, 0, none⟩) hp hte hsz (by simp [h]) h1 h2) (x := false) rfl ?_)
    simpa [h] using hq
theorem ok_tpeqN {P : Program} {tp te : TypeId} {p : Option Addr} (hp : P.underlying tp = some (.pointer te)) {f : Bool → M α}
    (hq : Ok (f p.isNone) w Q) : Ok (bnd (runV P .bool (binOp .eql tp (.pointer p) (.pointer none))) f) w Q :=
  ok_bnd.2 (ok_runV (isB_ptr hp (tv := ⟨.bool, p.isNone⟩) rfl w) (x := p.isNone) rfl hq)
/-- One of two pointers, either nil. -/
theorem ok_tpeqO (C : Tr en w0 T0 w T) {P : Program} {tp te : TypeId} {j : TypeInfo} {a : Nat} {q : Option Nat} {x : O} (hp : P.underlying tp = some (.pointer te)) (hte : P.info? te = some j) (hsz : j.size ≠ 0) (ha : T a = some x) (hb : ∀ b, q = some b → T b ≠ none) {f : Bool → M α}
    (hq : Ok (f (decide (q = some a))) w Q) : Ok (bnd (runV P .bool (binOp .eql tp (.pointer (some ⟨a, 0, none⟩)) (.pointer (q.map fun b => ⟨b, 0, none⟩)))) f) w Q := by
  cases q with
  | none => exact ok_tpeqN hp hq
  | some b =>
    cases hy : T b with
    | none => exact absurd hy (hb b rfl)
    | some y => exact ok_tpeq C hp hte hsz ha hy (by simpa [eq_comm] using hq)
end Go.Sh

/-
  Rows of things of several cells each in a heap of typed things: read, cut, appended to. No program in sight.
-/
namespace Go.Sh
set_option linter.unusedVariables false
open Go.RowKit
/-! ### Rows of things of several cells each -/
section
variable {A : Type} {g : A → List Value} {n : Nat}
theorem flat_length (hg : ∀ a, (g a).length = n) : ∀ L : List A, (L.flatMap g).length = n * L.length
  | [] => by simp
  | a :: L => by rw [List.flatMap_cons, List.length_append, hg, flat_length hg L, List.length_cons, Nat.mul_succ, Nat.add_comm]
theorem flat_drop (hg : ∀ a, (g a).length = n) : ∀ (i : Nat) (L : List A), (L.flatMap g).drop (n * i) = (L.drop i).flatMap g
  | 0, L => by simp
  | i + 1, [] => by simp
  | i + 1, a :: L => by
    rw [List.flatMap_cons, Nat.mul_succ, Nat.add_comm, List.drop_append, hg, List.drop_of_length_le (by rw [hg]; omega), List.nil_append, Nat.add_sub_cancel_left, flat_drop hg i L, List.drop_succ_cons]
theorem flat_get (hg : ∀ a, (g a).length = n) {i k : Nat} {L : List A} {a : A} (h : L[i]? = some a) (hk : k < n) : (L.flatMap g)[n * i + k]? = (g a)[k]? := by
  have hi : i < L.length := by
    rcases Nat.lt_or_ge i L.length with h' | h'
    · exact h'
    · rw [List.getElem?_eq_none h'] at h; cases h
  rw [← List.getElem?_drop, flat_drop hg, List.drop_eq_getElem_cons hi, List.flatMap_cons]
  rw [List.getElem?_eq_getElem hi, Option.some.injEq] at h
  rw [h, List.getElem?_append_left (by rw [hg]; exact hk)]
theorem flat_rdv (hg : ∀ a, (g a).length = n) {t : Ty} {i k : Nat} {L : List A} {a : A} {x : t.den} (h : L[i]? = some a) (hk : k + t.size ≤ n) (hx : rdv t (g a).toArray k = some x) : rdv t (L.flatMap g).toArray (n * i + k) = some x := by
  have hi : i < L.length := by
    rcases Nat.lt_or_ge i L.length with h' | h'
    · exact h'
    · rw [List.getElem?_eq_none h'] at h; cases h
  have hle : n * i + n ≤ n * L.length := by rw [← Nat.mul_succ]; exact Nat.mul_le_mul_left _ hi
  unfold rdv at hx ⊢
  rw [if_pos (by simp only [List.size_toArray]; rw [flat_length hg]; omega)]
  rw [if_pos (by simp only [List.size_toArray]; rw [hg]; omega)] at hx
  rw [← hx]
  congr 1
  show ((L.flatMap g).drop (n * i + k)).take t.size = ((g a).drop k).take t.size
  rw [← List.drop_drop, flat_drop hg, List.drop_eq_getElem_cons hi, List.flatMap_cons]
  rw [List.getElem?_eq_getElem hi, Option.some.injEq] at h
  rw [h, List.drop_append, List.take_append, List.length_drop, hg]
  rw [show t.size - (n - k) = 0 by omega, List.take_zero, List.append_nil]
theorem flat_spl (hg : ∀ a, (g a).length = n) {i k : Nat} {L : List A} {a a' : A} {vs : List Value} (h : L[i]? = some a) (hk : k + vs.length ≤ n) (hs : spl (g a) k vs = g a') : spl (L.flatMap g) (n * i + k) vs = (L.set i a').flatMap g := by
  have hi : i < L.length := by
    rcases Nat.lt_or_ge i L.length with h' | h'
    · exact h'
    · rw [List.getElem?_eq_none h'] at h; cases h
  have hle : n * i + n ≤ n * L.length := by rw [← Nat.mul_succ]; exact Nat.mul_le_mul_left _ hi
  have e : L.flatMap g = (L.take i).flatMap g ++ (g a ++ (L.drop (i + 1)).flatMap g) := by
    rw [List.getElem?_eq_getElem hi, Option.some.injEq] at h
    conv => lhs; rw [← List.take_append_drop i L, List.flatMap_append, List.drop_eq_getElem_cons hi, List.flatMap_cons, h]
  have e2 : (L.set i a').flatMap g = (L.take i).flatMap g ++ (g a' ++ (L.drop (i + 1)).flatMap g) := by
    rw [List.set_eq_take_append_cons_drop, if_pos hi, List.flatMap_append, List.flatMap_cons]
  have l1 : ((L.take i).flatMap g).length = n * i := by rw [flat_length hg, List.length_take, Nat.min_eq_left (by omega)]
  have la := hg a
  rw [e, e2, ← hs]
  generalize (L.take i).flatMap g = X at *
  generalize (L.drop (i + 1)).flatMap g = Y at *
  unfold spl
  rw [List.take_append, List.drop_append, l1, show n * i + k - n * i = k by omega, show n * i + k + vs.length - n * i = k + vs.length by omega, List.take_of_length_le (by omega), List.drop_of_length_le (by omega), List.nil_append, List.take_append, List.drop_append, la, show k - n = 0 by omega, show k + vs.length - n = 0 by omega]
  simp
end
theorem ok_ixN {s : Sl} {n : Nat} {b : Nat} {i : Int} {w : World} {α : Type} {f : Addr → M α} {Q : α → World → Prop} (ha : s.a = some ⟨b, 0, none⟩) (h0 : 0 ≤ i) (h1 : i < s.len) (hq : Ok (f ⟨b, n * i.toNat, none⟩) w Q) : Ok (bnd (ix n s i) f) w Q := by
  refine ok_bnd.2 ?_
  unfold ix
  rw [ha]
  simp only
  rw [if_pos ⟨h0, h1⟩]
  refine ok_ret.2 ?_
  rw [addr_add, Nat.zero_add, Nat.mul_comm]
  exact hq

/-- The program's slice type of such things. -/
structure RowT {A : Type} (P : Program) (U e : TypeId) (g : A → List Value) (n : Nat) (z : A) (by_ : Nat) : Prop where
  und : P.underlying U = some (.slice e)
  inf : ∃ j zv, P.info? e = some j ∧ j.size = n ∧ j.zero = some zv ∧ zv.cells = (g z).toArray ∧ j.bytes = by_
  pos : 0 < n
  len : ∀ a, (g a).length = n
  one : ∀ a, ∀ u ∈ g a, u.oneCell' = true
/-- A slice that is a row's beginning. -/
structure Rw {A O : Type} (T : Nat → Option O) (mk : List A → O) (s : Sl) (l : List A) : Prop where
  len : s.len = l.length
  le : s.len ≤ s.cap
  max : s.cap ≤ maxLen
  at_ : (s.a = none ∧ s.cap = 0) ∨ ∃ b L, s.a = some ⟨b, 0, none⟩ ∧ T b = some (mk L) ∧ L.length = s.cap ∧ L.take l.length = l
section
variable {A O : Type} {P : Program} {U V Y e : TypeId} {g : A → List Value} {n by_ : Nat} {z : A} {en : O → List Value} {mk : List A → O} {w0 w : World} {T0 T : Nat → Option O} {α : Type} {Q : α → World → Prop}
theorem rw_nil (T : Nat → Option O) (mk : List A → O) : Rw T mk ⟨none, 0, 0⟩ [] := ⟨rfl, Nat.le_refl _, Nat.zero_le _, .inl ⟨rfl, rfl⟩⟩
theorem Rw.mono {T T' : Nat → Option O} {s : Sl} {l : List A} (h : Rw T mk s l) (hT : ∀ b L, s.a = some ⟨b, 0, none⟩ → T b = some (mk L) → T' b = some (mk L)) : Rw T' mk s l :=
  ⟨h.len, h.le, h.max, h.at_.imp id fun ⟨b, L, h1, h2, h3⟩ => ⟨b, L, h1, hT b L h1 h2, h3⟩⟩
theorem Rw.blk {T : Nat → Option O} {s : Sl} {l : List A} (h : Rw T mk s l) (hn : 0 < l.length) : ∃ b L, s.a = some ⟨b, 0, none⟩ ∧ T b = some (mk L) ∧ L.length = s.cap ∧ L.take l.length = l := by
  rcases h.at_ with h1 | h1
  · have := h.len; have := h.le; omega
  · exact h1
theorem flat_one' (one : ∀ a, ∀ u ∈ g a, u.oneCell' = true) {l : List A} : ∀ u ∈ l.flatMap g, u.oneCell' = true := by
  intro u hu
  obtain ⟨F, _, h⟩ := List.mem_flatMap.1 hu
  exact one F u h
theorem zeros_row (hn : 0 < n) (hg : ∀ a, (g a).length = n) (z : A) (k : Nat) : Builtin.zeroCells (g z).toArray k = ((List.replicate k z).flatMap g).toArray := by
  have hs : (g z).toArray.size = n := hg z
  unfold Builtin.zeroCells
  rw [hs]
  apply Array.ext_getElem?
  intro i
  have hlen : ((List.replicate k z).flatMap g).length = n * k := by rw [flat_length hg, List.length_replicate]
  by_cases h : i < k * n
  · rw [Array.getElem?_map, Array.getElem?_range, if_pos h, List.getElem?_toArray]
    have hd : i = n * (i / n) + i % n := (Nat.div_add_mod i n).symm
    have h6 : i % n < n := Nat.mod_lt _ hn
    have hdv : i / n < k := Nat.div_lt_of_lt_mul (by rw [Nat.mul_comm]; exact h)
    conv => rhs; rw [hd]
    rw [flat_get hg (a := z) (by rw [List.getElem?_replicate, if_pos hdv]) h6]
    simp only [Option.map_some]
    have hz : i % n < (g z).length := by rw [hg]; exact h6
    rw [List.getElem?_eq_getElem hz, Option.some.injEq]
    rw [getElem!_pos (g z).toArray (i % n) (by simpa using hz)]
    rfl
  · have h' : k * n ≤ i := Nat.le_of_not_lt h
    rw [Array.getElem?_eq_none (by simpa using h'), Array.getElem?_eq_none (by simp only [List.size_toArray]; rw [hlen, Nat.mul_comm]; exact h')]
theorem foldl_fill (l : List Value) : ∀ (pre post : List Value), post.length = l.length → ((l.zipIdx pre.length).foldl (fun (cs : Array Value) (x : Value × Nat) => cs.setIfInBounds x.2 x.1) (pre ++ post).toArray) = (pre ++ l).toArray := by
  induction l with
  | nil => intro pre post h; simp at h; subst h; rfl
  | cons v l ih =>
    intro pre post h
    cases post with
    | nil => simp at h
    | cons u post =>
      simp only [List.zipIdx_cons, List.foldl_cons]
      have e : (pre ++ u :: post).toArray.setIfInBounds pre.length v = ((pre ++ [v]) ++ post).toArray := by
        apply Array.ext'
        simp
      rw [e]
      have := ih (pre ++ [v]) post (by simpa using h)
      simp only [List.length_append, List.length_singleton, List.append_assoc, List.singleton_append] at this ⊢
      exact this
/-- One thing as a slice of its own, for a moment. -/
theorem ok_build1R (R : RowT P U e g n z by_) (hb : n ≤ 2 ^ 24) {F : A} {v : Value} (hv : v.cells = (g F).toArray) {Q : Sl → World → Prop} (hq : Q ⟨some ⟨w.heap.size, 0, none⟩, 1, 1⟩ (w.alloc (.cells (g F).toArray e))) : Ok (runV P .sl (Instr.buildSlice U 1 #[(0, v)])) w Q := by
  obtain ⟨j, zv, h1, h2, h3, h4, h5⟩ := R.inf
  refine ok_runV (v := .slice (some ⟨w.heap.size, 0, none⟩) 1 1) (w' := w.alloc (.cells (g F).toArray e)) ?_ rfl hq
  have hF := R.len F
  have hz : (g z).length = n := R.len z
  have hn0 : ¬ n = 0 := by have := R.pos; omega
  have key : ∀ a : Array Value, a.size = n → Instr.fill (fun i => some (i * n, n)) a [(0, v)] = some (g F).toArray := by
    intro a ha
    simp only [Instr.fill, hv, List.size_toArray, hF, ne_eq, not_true_eq_false, false_or, gt_iff_lt, ha, Nat.zero_mul, Nat.zero_add, Nat.lt_irrefl, if_false, Option.some.injEq]
    have h := foldl_fill (g F) [] a.toList (by simp [ha, hF])
    simp only [List.nil_append, List.length_nil, Array.toArray_toList] at h
    rw [if_neg (by simp)]
    refine Eq.trans ?_ (congrArg some h)
    rw [← Array.foldl_toList, Array.toList_zipIdx]
  have hle : ¬ (2 ^ 24 < 1 * n) := by omega
  have hn1 : ¬ (1 * n = 0) := by omega
  have k1 := key ((Array.range (1 * n)).map fun x => zv.cells[x % zv.cells.size]!) (by simp)
  simp only [Instr.buildSlice, Sem.run_bind, run_underlying R.und, sizeOf, typeInfo, Result.andThen_ok, Sem.run_pure, run_program, h1, h2, hle, hn1, if_false, gt_iff_lt, zeroValue, h3, k1, newRow]
  rfl
theorem Rw.take {T : Nat → Option O} {s : Sl} {l : List A} (h : Rw T mk s l) (k : Nat) (hk : k ≤ l.length) : Rw T mk ⟨s.a, k, s.cap⟩ (l.take k) := by
  have := h.len; have := h.le
  refine ⟨by simp only [List.length_take]; omega, by simp only; omega, h.max, h.at_.imp id fun ⟨b, L, h1, h2, h3, h4⟩ => ⟨b, L, h1, h2, h3, ?_⟩⟩
  have := congrArg (List.take k) h4
  rw [List.take_take] at this
  rw [List.length_take, ← this]
/-- A row's things as what is appended. -/
theorem Rw.src (R : RowT P U e g n z by_) (hmk : ∀ l, en (mk l) = l.flatMap g) (h : Th en w T) {s : Sl} {l : List A} (hr : Rw T mk s l) : Src P n U (.slice s.a s.len s.cap) l.length (l.flatMap g) w := by
  have hlen := hr.len
  rcases hr.at_ with ⟨h1, h2⟩ | ⟨fb, L, ha, hb, hL, ht⟩
  · have h3 : l = [] := List.eq_nil_of_length_eq_zero (by have := hr.le; omega)
    subst h3
    rw [h1, show s.len = 0 from hlen]
    exact Src.ofNil w R.und s.cap
  · rw [ha, hlen]
    refine Src.ofSlice w R.und ⟨fb, 0, none⟩ l.length s.cap _ (by rw [flat_length R.len, Nat.mul_comm]) (fun j u hj => ?_) (flat_one' R.one)
    rw [addr_add, cell_blk (h fb _ hb).1, Nat.zero_add, List.getElem?_toArray, hmk]
    have hlf : (l.flatMap g).length = n * l.length := flat_length R.len l
    have hjl : j < n * l.length := by
      rcases Nat.lt_or_ge j (n * l.length) with h | h
      · exact h
      · rw [List.getElem?_eq_none (by omega)] at hj; cases hj
    have hd : j = n * (j / n) + j % n := (Nat.div_add_mod j n).symm
    have hm : j % n < n := Nat.mod_lt _ R.pos
    have hdv : j / n < l.length := Nat.div_lt_of_lt_mul hjl
    obtain ⟨F1, hF1⟩ : ∃ F1, l[j / n]? = some F1 := ⟨_, List.getElem?_eq_getElem hdv⟩
    have hF2 : L[j / n]? = some F1 := by
      rw [← ht, List.getElem?_take_of_lt hdv] at hF1
      exact hF1
    rw [← hj, hd, flat_get R.len hF2 hm, flat_get R.len hF1 hm]
/-- Things put over a row's. -/
def ovr (L ys : List A) (k : Nat) : List A := L.take k ++ ys ++ L.drop (k + ys.length)
theorem ovr_length {L ys : List A} {k : Nat} (h : k + ys.length ≤ L.length) : (ovr L ys k).length = L.length := by
  unfold ovr; simp; omega
theorem ovr_flat (hg : ∀ a, (g a).length = n) {L ys : List A} {k : Nat} (h : k + ys.length ≤ L.length) : spl (L.flatMap g) (n * k) (ys.flatMap g) = (ovr L ys k).flatMap g := by
  unfold spl ovr
  rw [List.flatMap_append, List.flatMap_append, flat_length hg, ← Nat.mul_add, flat_drop hg]
  congr 2
  conv => lhs; rw [← List.take_append_drop k L, List.flatMap_append]
  rw [List.take_left' (by rw [flat_length hg, List.length_take, Nat.min_eq_left (by omega)])]
/-- What an append asks for is at most a quarter more than it needs, and 192. -/
theorem next_le {need old : Nat} (h : old < need) : Builtin.nextslicecap need old ≤ need + need / 4 + 192 := by
  unfold Builtin.nextslicecap
  split
  · omega
  · split
    · omega
    · rw [growBy_four]
      repeat' split
      all_goals omega
theorem fits_wide {need old bytes : Nat} (h : old < need) (hb : need * bytes ≤ 200000000000000) (h1 : bytes ≤ 1000000) : Builtin.nextslicecap need old * bytes ≤ 281474976710656 := by
  have h2 : Builtin.nextslicecap need old * bytes ≤ (need + need / 4 + 192) * bytes := Nat.mul_le_mul_right _ (next_le h)
  have h3 : need / 4 * 4 * bytes ≤ need * bytes := Nat.mul_le_mul_right _ (Nat.div_mul_le_self need 4)
  have h4 : need / 4 * 4 * bytes = need / 4 * bytes * 4 := by rw [Nat.mul_assoc, Nat.mul_comm 4, ← Nat.mul_assoc]
  rw [Nat.add_mul, Nat.add_mul] at h2
  omega
/-- Append, to a row that is somebody's. -/
theorem ok_appR (C : Tr en w0 T0 w T) (R : RowT P U e g n z by_) (hmk : ∀ l, en (mk l) = l.flatMap g) {s : Sl} {l ys : List A} (hr : Rw T mk s l) {x : Value} {k : Nat} (K : Src P n V x k (ys.flatMap g) w) (hby : (l.length + ys.length) * by_ ≤ 200000000000000) (hmx : l.length + ys.length ≤ maxLen) {f : Sl → M α}
    (hq : ∀ r w' T', Tr en w0 T0 w' T' → Rw T' mk r (l ++ ys) → (T' = T ∧ r = s ∧ ys = [] ∨ ∃ fb L', T' = put T fb (mk L') ∧ r.a = some ⟨fb, 0, none⟩ ∧ (T fb = none ∨ s.a = some ⟨fb, 0, none⟩ ∧ ∃ L, T fb = some (mk L))) → Ok (f r) w' Q) (hb1 : by_ ≤ 1000000 := by decide) :
    Ok (bnd (runV P .sl (Builtin.append_ #[U, V] Y #[.slice s.a s.len s.cap, x])) f) w Q := by
  have hml : maxLen = 9223372036854775807 := by decide
  obtain ⟨j, zv, h1, h2, h3, h4, h5⟩ := R.inf
  have hlen := hr.len; have hle := hr.le; have hmx' := hr.max
  have hyl : (ys.flatMap g).length = n * ys.length := flat_length R.len ys
  have hk : k = ys.length := by
    have := K.newsLen
    rw [hyl, Nat.mul_comm] at this
    exact (Nat.eq_of_mul_eq_mul_right R.pos this).symm
  subst hk
  by_cases hy : ys = []
  · subst hy
    have K' : Src P j.size V x 0 [] w := by rw [h2]; exact K
    refine ok_bnd.2 (ok_runV (run_append_nothing w U V Y e j R.und h1 s.a s.len s.cap hle x K') (x := s) rfl ?_)
    exact hq s w T C (by rw [List.append_nil]; exact hr) (.inl ⟨rfl, rfl, rfl⟩)
  have hyp := List.length_pos_iff.2 hy
  by_cases hroom : s.len + ys.length ≤ s.cap
  · rcases hr.at_ with ⟨h1, h2⟩ | ⟨fb, L, ha, hb, hL, ht⟩
    · omega
    have hB := C.th fb _ hb
    have hsz : (en (mk L)).length = n * L.length := by rw [hmk]; exact flat_length R.len L
    have hin : n * (s.len + ys.length) ≤ n * L.length := Nat.mul_le_mul_left _ (by omega)
    have hin' : s.len * n + (ys.flatMap g).length ≤ (en (mk L)).length := by rw [hsz, hyl, Nat.mul_comm s.len n, ← Nat.mul_add]; exact hin
    have K' : Src P j.size V x ys.length (ys.flatMap g) w := by rw [h2]; exact K
    have hr' := run_append_room_src w U V Y e j R.und h1 fb 0 s.len s.cap x ys.length (ys.flatMap g) K' hroom
      (fun i hi => by
        rw [cell_blk hB.1, List.getElem?_toArray, List.getElem?_eq_getElem (by rw [h2]; omega)]; rfl)
      (fun i hi => frozen_blk hB.1 (cln_fre hB.2) (by simp only [List.size_toArray]; rw [h2]; omega))
    rw [setCells_setBlk _ _ _ _ hB.1] at hr'
    have e1 : splice (en (mk L)).toArray (0 + s.len * j.size) (ys.flatMap g) = (en (mk (ovr L ys s.len))).toArray := by
      rw [Nat.zero_add, h2, splice_spl _ _ _ hin', Nat.mul_comm, hmk, hmk, ovr_flat R.len (by omega)]
    rw [e1] at hr'
    rw [ha]
    refine ok_bnd.2 (ok_runV hr' (x := (⟨some ⟨fb, 0, none⟩, s.len + ys.length, s.cap⟩ : Sl)) rfl ?_)
    have C2 := C.set hb (mk (ovr L ys s.len)) (by rw [hsz, hmk, flat_length R.len, ovr_length (by omega)])
    refine hq _ _ _ C2 ⟨by simp [hlen], hroom, hmx', .inr ⟨fb, _, rfl, put_eq _ _ _, by rw [ovr_length (by omega)]; exact hL, ?_⟩⟩ (.inr ⟨fb, _, rfl, rfl, .inr ⟨ha, L, hb⟩⟩)
    unfold ovr
    rw [List.length_append, hlen, ht, List.take_append_of_le_length (by simp), List.take_of_length_le (by simp)]
  · have hs := hr.src R hmk C.th
    rw [← hlen] at hs
    have hs' : Src P j.size U (.slice s.a s.len s.cap) s.len (l.flatMap g) w := by rw [h2]; exact hs
    have K' : Src P j.size V x ys.length (ys.flatMap g) w := by rw [h2]; exact K
    have hr' := run_append_grow_src w U V Y e j zv R.und h1 h3 s.a s.len s.cap _ hs'.cellsD x ys.length _ K' (by omega) (by omega) (fits_wide (by omega) (by rw [h5, hlen]; exact hby) (by rw [h5]; exact hb1))
    have hc := grownCap_ge w (s.len + ys.length) s.cap e
    have hc2 := grownCap_le_maxLen w (s.len + ys.length) s.cap e (by omega)
    have e1 : ((l.flatMap g ++ ys.flatMap g).toArray ++ Builtin.zeroCells zv.cells (grownCap w (s.len + ys.length) s.cap e - (s.len + ys.length))) = (en (mk (l ++ ys ++ List.replicate (grownCap w (s.len + ys.length) s.cap e - (s.len + ys.length)) z))).toArray := by
      rw [h4, zeros_row R.pos R.len, hmk]
      simp
    rw [e1] at hr'
    have C2 := C.drew.alloc (mk (l ++ ys ++ List.replicate (grownCap w (s.len + ys.length) s.cap e - (s.len + ys.length)) z)) e
    refine ok_bnd.2 (ok_runV hr' (x := (⟨some ⟨w.heap.size, 0, none⟩, s.len + ys.length, grownCap w (s.len + ys.length) s.cap e⟩ : Sl)) rfl ?_)
    refine hq _ _ _ C2 ⟨by simp [hlen], hc, hc2, .inr ⟨w.heap.size, _, rfl, put_eq _ _ _, ?_, ?_⟩⟩ (.inr ⟨w.heap.size, _, rfl, rfl, .inl C.drew.none_at⟩)
    · simp only [List.length_append, List.length_replicate]; omega
    · rw [List.take_append_of_le_length (Nat.le_refl _), List.take_length]
end
end Go.Sh
