/-
  A small shallow language over the model's worlds: computations as partial functions of the world, types for what lies in slots, and how they read as values. No program in sight.
-/
import Derived.Orders
set_option linter.unusedVariables false
set_option linter.unusedSimpArgs false
namespace Go.Sh
set_option linter.unusedVariables false

/-- A computation: what it gives and the world behind it; none: it does not end well. -/
abbrev M (α : Type) := World → Option (α × World)
def ret {α : Type} (x : α) : M α := fun w => some (x, w)
def bnd {α β : Type} (m : M α) (f : α → M β) : M β := fun w => match m w with
  | some r => f r.1 r.2
  | none => none
def fail {α : Type} : M α := fun _ => none
def cnd {α : Type} (b : Bool) (m n : M α) : M α := match b with
  | true => m
  | false => n

theorem ret_some {α : Type} {x y : α} {w w' : World} : ret x w = some (y, w') ↔ x = y ∧ w = w' := by simp [ret]
theorem bnd_some {α β : Type} {m : M α} {f : α → M β} {w : World} {r : β × World} : bnd m f w = some r ↔ ∃ x w1, m w = some (x, w1) ∧ f x w1 = some r := by
  unfold bnd
  cases h : m w with
  | none => simp
  | some p => obtain ⟨x, w1⟩ := p; exact ⟨fun h => ⟨x, w1, rfl, h⟩, fun ⟨_, _, e, h⟩ => by cases e; exact h⟩
theorem fail_some {α : Type} {w : World} {r : α × World} : (fail : M α) w = some r ↔ False := by simp [fail]
theorem bnd_ret {α β : Type} (x : α) (f : α → M β) : bnd (ret x) f = f x := rfl
theorem bnd_bnd {α β γ : Type} (m : M α) (f : α → M β) (g : β → M γ) : bnd (bnd m f) g = bnd m (fun x => bnd (f x) g) := by
  funext w; unfold bnd; cases m w <;> rfl
theorem bnd_fail {α β : Type} (f : α → M β) : bnd fail f = fail := rfl
theorem cnd_true {α : Type} (m n : M α) : cnd true m n = m := rfl
theorem cnd_false {α : Type} (m n : M α) : cnd false m n = n := rfl
theorem bnd_cnd {α β : Type} (b : Bool) (m n : M α) (f : α → M β) : bnd (cnd b m n) f = cnd b (bnd m f) (bnd n f) := by cases b <;> rfl
theorem cnd_ret {α : Type} (b : Bool) (x y : α) : cnd b (ret x) (ret y) = ret (cond b x y) := by cases b <;> rfl
theorem bnd_id {α : Type} (m : M α) : bnd m ret = m := by funext w; unfold bnd ret; cases m w <;> rfl

/-- A loop: rounds till one says what comes out. -/
def iter {σ ρ : Type} (body : σ → M (σ ⊕ ρ)) : Nat → σ → M ρ
  | 0, _ => fail
  | n + 1, s => bnd (body s) fun
    | .inl s' => iter body n s'
    | .inr r => ret r
theorem iter_mono {σ ρ : Type} (body : σ → M (σ ⊕ ρ)) : ∀ (n : Nat) (s : σ) (w : World) (r : ρ × World), iter body n s w = some r → ∀ k, iter body (n + k) s w = some r
  | 0, _, _, _, h, _ => by simp [iter, fail] at h
  | n + 1, s, w, r, h, k => by
    rw [Nat.add_right_comm]
    simp only [iter, bnd_some] at h ⊢
    obtain ⟨x, w1, h1, h2⟩ := h
    refine ⟨x, w1, h1, ?_⟩
    cases x with
    | inl s' => exact iter_mono body n s' w1 r h2 k
    | inr y => exact h2
theorem iter_unique {σ ρ : Type} {body : σ → M (σ ⊕ ρ)} {n m : Nat} {s : σ} {w : World} {r r' : ρ × World} (h : iter body n s w = some r) (h' : iter body m s w = some r') : r = r' := by
  have h1 := iter_mono body n s w r h m
  have h2 := iter_mono body m s w r' h' n
  rw [Nat.add_comm] at h2
  rw [h1] at h2
  exact Option.some.inj h2
open Classical in
noncomputable def loopM {σ ρ : Type} (body : σ → M (σ ⊕ ρ)) (s : σ) : M ρ := fun w =>
  if h : ∃ n r, iter body n s w = some r then some (Classical.choose (Classical.choose_spec h)) else none
theorem loopM_some {σ ρ : Type} {body : σ → M (σ ⊕ ρ)} {s : σ} {w : World} {r : ρ × World} : loopM body s w = some r ↔ ∃ n, iter body n s w = some r := by
  unfold loopM
  constructor
  · intro h
    split at h
    · rename_i hx
      have := Classical.choose_spec (Classical.choose_spec hx)
      exact ⟨_, by rw [this]; exact h⟩
    · cases h
  · rintro ⟨n, hn⟩
    have hx : ∃ n r, iter body n s w = some r := ⟨n, r, hn⟩
    rw [dif_pos hx]
    have := Classical.choose_spec (Classical.choose_spec hx)
    rw [iter_unique this hn]
theorem loopM_eq {σ ρ : Type} (body : σ → M (σ ⊕ ρ)) (s : σ) : loopM body s = bnd (body s) fun
    | .inl s' => loopM body s'
    | .inr r => ret r := by
  funext w
  have key : ∀ r, loopM body s w = some r ↔ (bnd (body s) fun | .inl s' => loopM body s' | .inr r => ret r) w = some r := by
    intro r
    rw [loopM_some, bnd_some]
    constructor
    · rintro ⟨n, hn⟩
      cases n with
      | zero => simp [iter, fail] at hn
      | succ n =>
        simp only [iter, bnd_some] at hn
        obtain ⟨x, w1, h1, h2⟩ := hn
        refine ⟨x, w1, h1, ?_⟩
        cases x with
        | inl s' => exact loopM_some.2 ⟨n, h2⟩
        | inr y => exact h2
    · rintro ⟨x, w1, h1, h2⟩
      cases x with
      | inl s' =>
        obtain ⟨n, hn⟩ := loopM_some.1 h2
        exact ⟨n + 1, by simp only [iter, bnd_some]; exact ⟨_, w1, h1, hn⟩⟩
      | inr y => exact ⟨1, by simp only [iter, bnd_some]; exact ⟨_, w1, h1, h2⟩⟩
  cases h : loopM body s w with
  | some r => exact ((key r).1 h).symm
  | none =>
    cases h' : (bnd (body s) fun | .inl s' => loopM body s' | .inr r => ret r) w with
    | none => rfl
    | some r => rw [(key r).2 h'] at h; cases h

/-- What a slice is. -/
structure Sl where
  a : Option Addr
  len : Nat
  cap : Nat

inductive Ty where
  | int (k : IntKind)
  | bool
  | str
  | ptr
  | adr
  | sl
  | val
  | unit
  | pair (a b : Ty)
  | agg (t : Ty)
  | tup (t : Ty)
  | ifc (i : TypeId) (t : Ty)
  | clo (f : FuncId) (t : Ty)
  | mth (f : FuncId) (t : Ty)
  | yld

abbrev Ty.den : Ty → Type
  | .int _ => Int
  | .bool => Bool
  | .str => ByteArray
  | .ptr => Option Addr
  | .adr => Addr
  | .sl => Sl
  | .val => Value
  | .unit => Unit
  | .pair a b => a.den × b.den
  | .agg t => t.den
  | .tup t => t.den
  | .ifc _ t => t.den
  | .clo _ t => t.den
  | .mth _ t => t.den
  | .yld => Nat

/-- As values: one each (false), or as cells (true). -/
def enc : (t : Ty) → Bool → t.den → List Value
  | .int k, _, n => [.int k n]
  | .bool, _, b => [.bool b]
  | .str, _, s => [.string s]
  | .ptr, _, p => [.pointer p]
  | .adr, _, a => [.pointer (some a)]
  | .sl, _, s => [.slice s.a s.len s.cap]
  | .val, _, v => [v]
  | .unit, _, _ => []
  | .pair a b, f, x => enc a f x.1 ++ enc b f x.2
  | .agg t, true, x => enc t true x
  | .agg t, false, x => [.agg (enc t true x).toArray]
  | .tup t, _, x => [.tuple (enc t false x).toArray]
  | .ifc i t, _, x => [.iface i ((enc t false x).headD undef)]
  | .clo f t, _, x => [.func (.func f) #[] (enc t false x).toArray]
  | .mth f t, _, x => [.func (.func f) (enc t false x).toArray #[]]
  | .yld, _, l => [.func (.yield l) #[] #[]]
def inj (t : Ty) (x : t.den) : Value := (enc t false x).headD undef

structure TV where
  t : Ty
  x : t.den
def TV.v (y : TV) : Value := inj y.t y.x

/-- One of one type as one of another: the same value. -/
def castTo : (t u : Ty) → u.den → Option t.den
  | .int k, .int k', n => if k = k' then some n else none
  | .bool, .bool, b => some b
  | .str, .str, s => some s
  | .ptr, .ptr, p => some p
  | .ptr, .adr, a => some (some a)
  | .adr, .adr, a => some a
  | .sl, .sl, s => some s
  | .val, .val, v => some v
  | .val, .clo i t, x => some (.func (.func i) #[] (enc t false x).toArray)
  | .unit, .unit, _ => some ()
  | .pair a b, .pair c d, x => match castTo a c x.1 with
    | some y => match castTo b d x.2 with
      | some z => some (y, z)
      | none => none
    | none => none
  | .agg t, .agg u, x => castTo t u x
  | .tup t, .tup u, x => castTo t u x
  | .ifc i t, .ifc j u, x => if i = j then castTo t u x else none
  | .clo i t, .clo j u, x => if i = j then castTo t u x else none
  | .mth i t, .mth j u, x => if i = j then castTo t u x else none
  | .yld, .yld, l => some l
  | _, _, _ => none
theorem castTo_enc : ∀ (t u : Ty) (x : u.den) (y : t.den) (f : Bool), castTo t u x = some y → enc t f y = enc u f x := by
  intro t
  induction t with
  | pair a b iha ihb =>
    intro u x y f h
    cases u <;> simp only [castTo, reduceCtorEq] at h
    rename_i c d
    revert h
    cases h1 : castTo a c x.1 with
    | none => simp
    | some p =>
      cases h2 : castTo b d x.2 with
      | none => simp
      | some q => intro h; simp only [Option.some.injEq] at h; subst h; simp only [enc, iha _ _ _ f h1, ihb _ _ _ f h2]
  | agg t ih =>
    intro u x y f h
    cases u <;> simp only [castTo, reduceCtorEq] at h
    cases f <;> simp only [enc, ih _ _ _ true h]
  | tup t ih =>
    intro u x y f h
    cases u <;> simp only [castTo, reduceCtorEq] at h
    simp only [enc, ih _ _ _ false h]
  | ifc i t ih =>
    intro u x y f h
    cases u <;> simp only [castTo, reduceCtorEq] at h
    split at h
    · rename_i e; subst e; simp only [enc, ih _ _ _ false h]
    · cases h
  | clo i t ih =>
    intro u x y f h
    cases u <;> simp only [castTo, reduceCtorEq] at h
    split at h
    · rename_i e; subst e; simp only [enc, ih _ _ _ false h]
    · cases h
  | mth i t ih =>
    intro u x y f h
    cases u <;> simp only [castTo, reduceCtorEq] at h
    split at h
    · rename_i e; subst e; simp only [enc, ih _ _ _ false h]
    · cases h
  | int k =>
    intro u x y f h
    cases u <;> simp only [castTo, reduceCtorEq] at h
    split at h
    · rename_i e; subst e; simp only [Option.some.injEq] at h; subst h; rfl
    · cases h
  | ptr =>
    intro u x y f h
    cases u <;> simp only [castTo, reduceCtorEq, Option.some.injEq] at h
    · subst h; rfl
    · subst h; rfl
  | val =>
    intro u x y f h
    cases u <;> simp only [castTo, reduceCtorEq, Option.some.injEq] at h
    · subst h; rfl
    · subst h; cases f <;> simp only [enc]
  | _ =>
    intro u x y f h
    cases u <;> simp only [castTo, reduceCtorEq, Option.some.injEq] at h
    try (first | (subst h; rfl) | rfl)
theorem castTo_inj {t u : Ty} {x : u.den} {y : t.den} (h : castTo t u x = some y) : inj t y = inj u x := by
  unfold inj; rw [castTo_enc t u x y false h]

def dInt (k : IntKind) : List Value → Option (Int × List Value)
  | .int k' n :: l => if k = k' then some (n, l) else none
  | _ => none
def dBool : List Value → Option (Bool × List Value)
  | .bool b :: l => some (b, l)
  | _ => none
def dStr : List Value → Option (ByteArray × List Value)
  | .string b :: l => some (b, l)
  | _ => none
def dPtr : List Value → Option (Option Addr × List Value)
  | .pointer b :: l => some (b, l)
  | _ => none
def dAdr : List Value → Option (Addr × List Value)
  | .pointer (some b) :: l => some (b, l)
  | _ => none
def dSl : List Value → Option (Sl × List Value)
  | .slice a n c :: l => some (⟨a, n, c⟩, l)
  | _ => none
def dVal : List Value → Option (Value × List Value)
  | v :: l => some (v, l)
  | _ => none
def dAgg {α : Type} (d : List Value → Option (α × List Value)) : List Value → Option (α × List Value)
  | .agg cs :: l => match d cs.toList with
    | some (x, []) => some (x, l)
    | _ => none
  | _ => none
def dTup {α : Type} (d : List Value → Option (α × List Value)) : List Value → Option (α × List Value)
  | .tuple cs :: l => match d cs.toList with
    | some (x, []) => some (x, l)
    | _ => none
  | _ => none
def dIfc {α : Type} (i : TypeId) (d : List Value → Option (α × List Value)) : List Value → Option (α × List Value)
  | .iface j v :: l => if i = j then match d [v] with
    | some (x, []) => some (x, l)
    | _ => none
    else none
  | _ => none
def dClo {α : Type} (i : FuncId) (d : List Value → Option (α × List Value)) : List Value → Option (α × List Value)
  | .func (.func j) fs vs :: l => if i = j then match fs.toList with
    | [] => match d vs.toList with
      | some (x, []) => some (x, l)
      | _ => none
    | _ => none
    else none
  | _ => none
def dMth {α : Type} (i : FuncId) (d : List Value → Option (α × List Value)) : List Value → Option (α × List Value)
  | .func (.func j) fs vs :: l => if i = j then match vs.toList with
    | [] => match d fs.toList with
      | some (x, []) => some (x, l)
      | _ => none
    | _ => none
    else none
  | _ => none
def dYld : List Value → Option (Nat × List Value)
  | .func (.yield n) fs vs :: l => match fs.toList, vs.toList with
    | [], [] => some (n, l)
    | _, _ => none
  | _ => none
/-- Off values: one each, or off cells; and what is left. -/
def dec : (t : Ty) → Bool → List Value → Option (t.den × List Value)
  | .int k, _, l => dInt k l
  | .bool, _, l => dBool l
  | .str, _, l => dStr l
  | .ptr, _, l => dPtr l
  | .adr, _, l => dAdr l
  | .sl, _, l => dSl l
  | .val, _, l => dVal l
  | .unit, _, l => some ((), l)
  | .pair a b, f, l => match dec a f l with
    | some r => match dec b f r.2 with
      | some q => some ((r.1, q.1), q.2)
      | none => none
    | none => none
  | .agg t, true, l => dec t true l
  | .agg t, false, l => dAgg (dec t true) l
  | .tup t, _, l => dTup (dec t false) l
  | .ifc i t, _, l => dIfc i (dec t false) l
  | .clo i t, _, l => dClo i (dec t false) l
  | .mth i t, _, l => dMth i (dec t false) l
  | .yld, _, l => dYld l
theorem dec_enc : ∀ (t : Ty) (f : Bool) (l : List Value) (x : t.den) (r : List Value), dec t f l = some (x, r) → l = enc t f x ++ r := by
  intro t
  induction t with
  | pair a b iha ihb =>
    intro f l x r h
    simp only [dec] at h
    cases h1 : dec a f l with
    | none => simp [h1] at h
    | some p =>
      simp only [h1] at h
      cases h2 : dec b f p.2 with
      | none => simp [h2] at h
      | some q =>
        simp only [h2, Option.some.injEq, Prod.mk.injEq] at h
        obtain ⟨h3, h4⟩ := h
        subst h3; subst h4
        have e1 := iha f l p.1 p.2 (by rw [h1])
        have e2 := ihb f p.2 q.1 q.2 (by rw [h2])
        simp only [enc, List.append_assoc]
        rw [← e2, ← e1]
  | agg t ih =>
    intro f l x r h
    cases f with
    | true => simp only [dec] at h; simp only [enc]; exact ih true l x r h
    | false =>
      simp only [dec] at h
      unfold dAgg at h
      split at h
      · split at h
        · rename_i cs l' _ y hy
          simp only [Option.some.injEq, Prod.mk.injEq] at h
          obtain ⟨rfl, rfl⟩ := h
          have := ih true cs.toList y [] hy
          simp only [enc, List.append_nil] at this ⊢
          simp [← this]
        · cases h
      · cases h
  | tup t ih =>
    intro f l x r h
    simp only [dec] at h
    unfold dTup at h
    split at h
    · split at h
      · rename_i cs l' _ y hy
        simp only [Option.some.injEq, Prod.mk.injEq] at h
        obtain ⟨rfl, rfl⟩ := h
        have := ih false cs.toList y [] hy
        simp only [enc, List.append_nil] at this ⊢
        simp [← this]
      · cases h
    · cases h
  | ifc i t ih =>
    intro f l x r h
    simp only [dec] at h
    unfold dIfc at h
    split at h
    · split at h
      · rename_i hi
        subst hi
        split at h
        · rename_i y hy
          simp only [Option.some.injEq, Prod.mk.injEq] at h
          obtain ⟨rfl, rfl⟩ := h
          have := ih false _ y [] hy
          simp only [List.append_nil] at this
          simp [enc, ← this]
        · cases h
      · cases h
    · cases h
  | clo i t ih =>
    intro f l x r h
    simp only [dec] at h
    unfold dClo at h
    split at h
    · split at h
      · rename_i hi
        subst hi
        split at h
        · rename_i hfs
          split at h
          · rename_i y hy
            simp only [Option.some.injEq, Prod.mk.injEq] at h
            obtain ⟨rfl, rfl⟩ := h
            have := ih false _ y [] hy
            simp only [List.append_nil] at this
            simp only [enc, ← this]
            have h0 : ∀ (a : Array Value), a.toList = [] → a = #[] := fun a h => by cases a; simp_all
            simp [h0 _ hfs]
          · cases h
        · cases h
      · cases h
    · cases h
  | mth i t ih =>
    intro f l x r h
    simp only [dec] at h
    unfold dMth at h
    split at h
    · split at h
      · rename_i hi
        subst hi
        split at h
        · rename_i hfs
          split at h
          · rename_i y hy
            simp only [Option.some.injEq, Prod.mk.injEq] at h
            obtain ⟨rfl, rfl⟩ := h
            have := ih false _ y [] hy
            simp only [List.append_nil] at this
            simp only [enc, ← this]
            have h0 : ∀ (a : Array Value), a.toList = [] → a = #[] := fun a h => by cases a; simp_all
            simp [h0 _ hfs]
          · cases h
        · cases h
      · cases h
    · cases h
  | yld =>
    intro f l x r h
    simp only [dec] at h
    unfold dYld at h
    split at h
    · split at h
      · rename_i h1 h2
        simp only [Option.some.injEq, Prod.mk.injEq] at h
        obtain ⟨rfl, rfl⟩ := h
        have h0 : ∀ (a : Array Value), a.toList = [] → a = #[] := fun a h => by cases a; simp_all
        simp [enc, h0 _ h1, h0 _ h2]
      · cases h
    · cases h
  | int k =>
    intro f l x r h
    simp only [dec] at h
    unfold dInt at h
    split at h
    · split at h
      · rename_i e; subst e
        simp only [Option.some.injEq, Prod.mk.injEq] at h
        obtain ⟨rfl, rfl⟩ := h
        simp [enc]
      · cases h
    · cases h
  | unit =>
    intro f l x r h
    simp only [dec, Option.some.injEq, Prod.mk.injEq] at h
    simp [enc, h.2]
  | _ =>
    intro f l x r h
    simp only [dec] at h
    first | unfold dBool at h | unfold dStr at h | unfold dPtr at h | unfold dAdr at h | unfold dSl at h | unfold dVal at h
    split at h
    · simp only [Option.some.injEq, Prod.mk.injEq] at h
      obtain ⟨rfl, rfl⟩ := h
      simp [enc]
    · cases h
/-- How many cells. -/
def Ty.size : Ty → Nat
  | .unit => 0
  | .pair a b => a.size + b.size
  | .agg t => t.size
  | _ => 1
/-- Off one value. -/
def dec1 (t : Ty) (v : Value) : Option t.den := match dec t false [v] with
  | some (x, []) => some x
  | _ => none
theorem dec1_inj {t : Ty} {v : Value} {x : t.den} (h : dec1 t v = some x) : v = inj t x := by
  unfold dec1 at h
  split at h
  · rename_i y hy
    simp only [Option.some.injEq] at h
    subst h
    have := dec_enc t false _ y [] hy
    simp only [List.append_nil] at this
    simp [inj, ← this]
  · cases h
/-- Off cells. -/
def decs (t : Ty) (l : List Value) : Option t.den := match dec t true l with
  | some (x, []) => some x
  | _ => none
theorem decs_enc {t : Ty} {l : List Value} {x : t.den} (h : decs t l = some x) : l = enc t true x := by
  unfold decs at h
  split at h
  · rename_i y hy
    simp only [Option.some.injEq] at h
    subst h
    have := dec_enc t true _ y [] hy
    simpa using this
  · cases h
end Go.Sh
