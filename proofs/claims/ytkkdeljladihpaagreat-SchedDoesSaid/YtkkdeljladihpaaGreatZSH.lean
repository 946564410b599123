/-
  Parts of the proof: ZSA, ZSB, ZSC, ZSD, ZSE, ZSF, ZSG, ZSH. It states what the functions do; no further condition.
-/
import Derived.Test.YtkkdeljladihpaaGreatFA
import Derived.Test.YtkkdeljladihpaaGreatZ01
set_option linter.unusedVariables false
set_option linter.unusedSimpArgs false
/-
  The scheduler's memory, as typed things.
-/
namespace Go.Proofs.YtkkdeljladihpaaGreat
open Go.Sh Go.RowKit
set_option maxRecDepth 100000
structure Pr where
  prio : Int
  standing : Int
  sem : Int
structure Sm where
  excess : Int
  queue : Sl
structure Tm where
  time : Int
  made : Int
  sem : Int
structure Sk where
  now : Int
  active : Int
  procs : Sl
  sems : Sl
  queues : List Sl
  timers : Sl
  made : Int
  events : List Int
def Pr.en (p : Pr) : List Value := [.int .i64 p.prio, .int .u8 p.standing, .int .i64 p.sem]
def Sm.en (s : Sm) : List Value := [.int .i64 s.excess, slV s.queue]
def Tm.en (t : Tm) : List Value := [.int .i64 t.time, .int .i64 t.made, .int .i64 t.sem]
def Sk.en (s : Sk) : List Value := [.int .i64 s.now, .int .i64 s.active, slV s.procs, slV s.sems] ++ s.queues.map slV ++ [slV s.timers, .int .i64 s.made] ++ s.events.map (.int .i64)
def iV (n : Int) : List Value := [.int .i64 n]
/-- Whose row of numbers it is. -/
inductive Ow where
  | queue (p : Nat)
  | sem (i : Nat)
  | out (k : Nat)
inductive Ob where
  | sch (s : Sk)
  | procs (l : List Pr)
  | sems (l : List Sm)
  | tms (l : List Tm)
  | ints (o : Ow) (l : List Int)
  | cell (n : Int)
  | box (l : List Value)
def en : Ob → List Value
  | .sch s => s.en
  | .procs l => l.flatMap Pr.en
  | .sems l => l.flatMap Sm.en
  | .tms l => l.flatMap Tm.en
  | .ints _ l => l.flatMap iV
  | .cell n => iV n
  | .box l => l
abbrev Hp := Nat → Option Ob
theorem iV_one {n : Int} {u : Value} (hu : u ∈ iV n) : u.oneCell' = true := by
  simp only [iV, List.mem_singleton] at hu; subst hu; rfl
theorem row31 : RowT Tryz.prog 28 3 iV 1 0 8 :=
  ⟨by kernel_rfl, ⟨Tryz.t3, .int .i64 0, by kernel_rfl, rfl, rfl, rfl, rfl⟩, by decide, fun _ => rfl, fun _ _ => iV_one⟩
theorem row49 : RowT Tryz.prog 61 74 Pr.en 3 ⟨0, 0, 0⟩ 24 :=
  ⟨by kernel_rfl, ⟨Tryz.t74, .agg #[.int .i64 0, .int .u8 0, .int .i64 0], by kernel_rfl, rfl, rfl, rfl, rfl⟩, by decide, fun _ => rfl, fun b u hu => by
    simp only [Pr.en, List.mem_cons, List.not_mem_nil, or_false] at hu
    rcases hu with rfl | rfl | rfl <;> rfl⟩
theorem row50 : RowT Tryz.prog 62 76 Sm.en 2 ⟨0, ⟨none, 0, 0⟩⟩ 32 :=
  ⟨by kernel_rfl, ⟨Tryz.t76, .agg #[.int .i64 0, .slice none 0 0], by kernel_rfl, rfl, rfl, rfl, rfl⟩, by decide, fun _ => rfl, fun b u hu => by
    simp only [Sm.en, List.mem_cons, List.not_mem_nil, or_false] at hu
    rcases hu with rfl | rfl <;> rfl⟩
theorem row53 : RowT Tryz.prog 65 79 Tm.en 3 ⟨0, 0, 0⟩ 24 :=
  ⟨by kernel_rfl, ⟨Tryz.t79, .agg #[.int .i64 0, .int .i64 0, .int .i64 0], by kernel_rfl, rfl, rfl, rfl, rfl⟩, by decide, fun _ => rfl, fun b u hu => by
    simp only [Tm.en, List.mem_cons, List.not_mem_nil, or_false] at hu
    rcases hu with rfl | rfl | rfl <;> rfl⟩
/-- A queue's place in the record. -/
theorem rd_queue {s : Sk} {p : Nat} {q : Sl} (h : s.queues[p]? = some q) : rdv .sl (en (.sch s)).toArray (4 + p) = some q := by
  refine rdv_sl ?_
  have hp : p < s.queues.length := by
    rcases Nat.lt_or_ge p s.queues.length with h' | h'
    · exact h'
    · rw [List.getElem?_eq_none h'] at h; cases h
  show (Sk.en s).toArray[4 + p]? = _
  rw [List.getElem?_toArray]
  unfold Sk.en
  rw [List.append_assoc, List.append_assoc, List.getElem?_append_right (by simp), List.getElem?_append_left (by simp; omega)]
  simp [h]
end Go.Proofs.YtkkdeljladihpaaGreat

/-
  The scheduler's state in plain Lean, and its calls as plain functions. No program in sight but for the names.
-/
namespace Go.Proofs.YtkkdeljladihpaaGreat
structure St where
  now : Int
  active : Nat
  procs : List Pr
  sems : List (Int × List Nat)
  queues : Nat → List Nat
  timers : List Tm
  made : Int
  events : List Int
namespace St
def new : St := ⟨0, 0, [], [], fun _ => [], [], 0, List.replicate 64 0⟩
def pr (A : St) (n : Nat) : Pr := A.procs.getD (n - 1) ⟨0, 0, 0⟩
def setPr (A : St) (n : Nat) (p : Pr) : St := { A with procs := A.procs.set (n - 1) p }
def setQ (A : St) (p : Nat) (l : List Nat) : St := { A with queues := fun x => if x = p then l else A.queues x }
def sm (A : St) (n : Nat) : Int × List Nat := A.sems.getD (n - 1) (0, [])
def setSm (A : St) (n : Nat) (s : Int × List Nat) : St := { A with sems := A.sems.set (n - 1) s }
def on (A : St) (n : Nat) : St := { A with active := n }
/-- The highest priority of those that are ready. -/
def highN (q : Nat → List Nat) : Nat → Nat
  | 0 => 0
  | p + 1 => if q (p + 1) = [] then highN q p else p + 1
def highest (A : St) : Nat := highN A.queues 16
def ready (A : St) (n : Nat) : St := (A.setPr n { A.pr n with standing := 1, sem := 0 }).setQ (A.pr n).prio.toNat (A.queues (A.pr n).prio.toNat ++ [n])
/-- The active one goes back to the head of its queue. -/
def yields (A : St) : St := ((A.setPr A.active { A.pr A.active with standing := 1 }).setQ (A.pr A.active).prio.toNat (A.active :: A.queues (A.pr A.active).prio.toNat)).on 0
/-- The first of a queue becomes active. -/
def takes (A : St) (p : Nat) : St := match A.queues p with
  | [] => A
  | n :: r => ((A.setQ p r).on n).setPr n { A.pr n with standing := 2 }
def runs (A : St) : St :=
  if 0 < A.active then (if (A.highest : Int) ≤ (A.pr A.active).prio then A else if 0 < A.highest then A.yields.takes A.highest else A.yields)
  else if 0 < A.highest then A.takes A.highest else A
def out (A : St) (n : Nat) : St :=
  if (A.pr n).standing = 1 then A.setQ (A.pr n).prio.toNat ((A.queues (A.pr n).prio.toNat).filter (· ≠ n))
  else if (A.pr n).standing = 3 then (A.setSm (A.pr n).sem.toNat ((A.sm (A.pr n).sem.toNat).1, (A.sm (A.pr n).sem.toNat).2.filter (· ≠ n))).setPr n { A.pr n with sem := 0 }
  else if (A.pr n).standing = 2 then A.on 0 else A
def fork (A : St) (p : Int) : (Int × Int) × St :=
  if p < 1 ∨ p > 16 then ((0, 1), A) else if A.procs.length ≥ 4096 then ((0, 264), A)
  else (((A.procs.length : Int) + 1, 0), (({ A with procs := A.procs ++ [⟨p, 0, 0⟩] } : St).ready (A.procs.length + 1)).runs)
def yield (A : St) : Int × St := if A.active = 0 then (265, A) else (0, ((A.on 0).ready A.active).runs)
def semaphore (A : St) : (Int × Int) × St := if A.sems.length ≥ 4096 then ((0, 264), A) else (((A.sems.length : Int) + 1, 0), { A with sems := A.sems ++ [(0, [])] })
def isSem (A : St) (n : Int) : Bool := decide (1 ≤ n) && decide (n ≤ A.sems.length)
def wait (A : St) (n : Int) : Int × St :=
  if A.active = 0 then (265, A) else if A.isSem n = false then (261, A)
  else if (A.sm n.toNat).1 > 0 then (0, A.setSm n.toNat ((A.sm n.toNat).1 - 1, (A.sm n.toNat).2))
  else (0, ((((A.setPr A.active { A.pr A.active with standing := 3, sem := n }).setSm n.toNat ((A.sm n.toNat).1, (A.sm n.toNat).2 ++ [A.active])).on 0).runs))
def signal0 (A : St) (n : Int) : Int × St :=
  if A.isSem n = false then (261, A) else match (A.sm n.toNat).2 with
    | q :: r => (0, (A.setSm n.toNat ((A.sm n.toNat).1, r)).ready q)
    | [] => if (A.sm n.toNat).1 ≥ 1073741824 then (264, A) else (0, A.setSm n.toNat ((A.sm n.toNat).1 + 1, []))
def signal (A : St) (n : Int) : Int × St := ((A.signal0 n).1, (A.signal0 n).2.runs)
def alive (A : St) (n : Int) : Int := if n < 1 ∨ n > A.procs.length then 260 else if (A.pr n.toNat).standing = 5 then 263 else 0
def suspend (A : St) (n : Int) : Int × St :=
  if A.alive n ≠ 0 then (A.alive n, A) else if (A.pr n.toNat).standing = 4 then (262, A)
  else (0, ((A.out n.toNat).setPr n.toNat { (A.out n.toNat).pr n.toNat with standing := 4 }).runs)
def resume (A : St) (n : Int) : Int × St :=
  if A.alive n ≠ 0 then (A.alive n, A) else if (A.pr n.toNat).standing ≠ 4 then (262, A) else (0, (A.ready n.toNat).runs)
def terminate (A : St) (n : Int) : Int × St :=
  if A.alive n ≠ 0 then (A.alive n, A) else (0, ((A.out n.toNat).setPr n.toNat { (A.out n.toNat).pr n.toNat with standing := 5 }).runs)
def setPriority (A : St) (n p : Int) : Int × St :=
  if A.alive n ≠ 0 then (A.alive n, A) else if p < 1 ∨ p > 16 then (1, A)
  else if (A.pr n.toNat).standing ≠ 1 then (0, (A.setPr n.toNat { A.pr n.toNat with prio := p }).runs)
  else (0, (((A.out n.toNat).setPr n.toNat { (A.out n.toNat).pr n.toNat with prio := p }).ready n.toNat).runs)
/-! The timers: a heap. -/
def lt (a b : Tm) : Bool := if a.time ≠ b.time then decide (a.time < b.time) else decide (a.made < b.made)
def nth (l : List Tm) (i : Nat) : Tm := l.getD i ⟨0, 0, 0⟩
def swap (l : List Tm) (i j : Nat) : List Tm := (l.set i (nth l j)).set j (nth l i)
def up : Nat → List Tm → Nat → List Tm
  | 0, l, _ => l
  | f + 1, l, j => if (j - 1) / 2 = j ∨ lt (nth l j) (nth l ((j - 1) / 2)) = false then l else up f (swap l ((j - 1) / 2) j) ((j - 1) / 2)
/-- The lesser of the two below. -/
def kid (l : List Tm) (i n : Nat) : Nat := if 2 * i + 2 < n ∧ lt (nth l (2 * i + 2)) (nth l (2 * i + 1)) = true then 2 * i + 2 else 2 * i + 1
def down : Nat → List Tm → Nat → Nat → List Tm
  | 0, l, _, _ => l
  | f + 1, l, i, n => if 2 * i + 1 ≥ n then l else if lt (nth l (kid l i n)) (nth l i) = false then l else down f (swap l i (kid l i n)) (kid l i n) n
def pushT (l : List Tm) (t : Tm) : List Tm := up (l.length + 1) (l ++ [t]) l.length
def popT (l : List Tm) : Tm × List Tm :=
  let m := down l.length (swap l 0 (l.length - 1)) 0 (l.length - 1)
  (nth m (l.length - 1), m.take (l.length - 1))
def at_ (A : St) (n time : Int) : Int × St :=
  if A.isSem n = false then (261, A) else if time < 0 ∨ time > 1152921504606846976 then (1, A) else if A.timers.length ≥ 4096 then (264, A)
  else (0, { A with made := A.made + 1, timers := pushT A.timers ⟨time, A.made + 1, n⟩ })
def ticks (now : Int) : Nat → St → Int → St × Int
  | 0, A, n => (A, n)
  | f + 1, A, n => if A.timers ≠ [] ∧ (nth A.timers 0).time ≤ now then ticks now f (({ A with timers := (popT A.timers).2 } : St).signal0 (popT A.timers).1.sem).2 (n + 1) else (A, n)
def tick (A : St) (now : Int) : (Int × Int) × St :=
  if now < A.now ∨ now > 1152921504606846976 then ((0, 1), A)
  else (((ticks now A.timers.length { A with now := now } 0).2, 0), (ticks now A.timers.length { A with now := now } 0).1.runs)
def next (A : St) : Int × Bool := match A.timers with
  | [] => (0, false)
  | t :: _ => (t.time, true)
def listen (A : St) (e n : Int) : Int × St :=
  if e < 0 ∨ e ≥ 64 then (1, A) else if n ≠ 0 ∧ A.isSem n = false then (261, A) else (0, { A with events := A.events.set e.toNat n })
def event (A : St) (e : Int) : Bool × St :=
  if e < 0 ∨ e ≥ 64 ∨ A.events.getD e.toNat 0 = 0 then (false, A) else (true, (A.signal (A.events.getD e.toNat 0)).2)
def standing (A : St) (n : Int) : Int × Int × Int := if n < 1 ∨ n > A.procs.length then (0, 0, 260) else ((A.pr n.toNat).standing, (A.pr n.toNat).prio, 0)
def readyN (q : Nat → List Nat) : Nat → List Nat
  | 0 => []
  | p + 1 => q (p + 1) ++ readyN q p
def readies (A : St) : List Nat := readyN A.queues 16
def waiting (A : St) (n : Int) : List Nat × Int × Int := if A.isSem n = false then ([], 0, 261) else ((A.sm n.toNat).2, (A.sm n.toNat).1, 0)
end St
/-- What is so of a state between calls, but for one process (0: for all). -/
structure FitX (A : St) (x : Nat) : Prop where
  act : A.active = 0 ∨ (A.active ≤ A.procs.length ∧ (A.pr A.active).standing = 2 ∧ A.active ≠ x)
  prio : ∀ p ∈ A.procs, 1 ≤ p.prio ∧ p.prio ≤ 16 ∧ 0 ≤ p.standing ∧ p.standing ≤ 5
  que : ∀ (p : Nat) (n : Nat), n ∈ A.queues p → 1 ≤ n ∧ n ≤ A.procs.length ∧ (A.pr n).standing = 1 ∧ (A.pr n).prio = p ∧ n ≠ x
  nodup : ∀ p, (A.queues p).Nodup
  inq : ∀ n, 1 ≤ n → n ≤ A.procs.length → n ≠ x → (A.pr n).standing = 1 → n ∈ A.queues (A.pr n).prio.toNat
  only : ∀ n, 1 ≤ n → n ≤ A.procs.length → n ≠ x → (A.pr n).standing = 2 → n = A.active
  wtg : ∀ n, 1 ≤ n → n ≤ A.procs.length → n ≠ x → (A.pr n).standing = 3 → 1 ≤ (A.pr n).sem ∧ (A.pr n).sem ≤ A.sems.length ∧ n ∈ (A.sm (A.pr n).sem.toNat).2
  nwt : ∀ n, 1 ≤ n → n ≤ A.procs.length → n ≠ x → (A.pr n).standing ≠ 3 → (A.pr n).sem = 0
  wq : ∀ (i : Nat) (n : Nat), 1 ≤ i → i ≤ A.sems.length → n ∈ (A.sm i).2 → 1 ≤ n ∧ n ≤ A.procs.length ∧ (A.pr n).standing = 3 ∧ (A.pr n).sem = i ∧ n ≠ x
  wnd : ∀ i, 1 ≤ i → i ≤ A.sems.length → (A.sm i).2.Nodup
  exc : ∀ i, 1 ≤ i → i ≤ A.sems.length → 0 ≤ (A.sm i).1 ∧ (A.sm i).1 ≤ 1073741824 ∧ ((A.sm i).2 ≠ [] → (A.sm i).1 = 0)
  tms : ∀ t ∈ A.timers, 1 ≤ t.sem ∧ t.sem ≤ A.sems.length
  evs : A.events.length = 64 ∧ ∀ e ∈ A.events, e = 0 ∨ (1 ≤ e ∧ e ≤ A.sems.length)
  few : A.procs.length ≤ 4096 ∧ A.sems.length ≤ 4096 ∧ A.timers.length ≤ 4096
/-- Who is active is of the highest priority. -/
def St.Hi (A : St) : Prop := if A.active = 0 then A.highest = 0 else (A.highest : Int) ≤ (A.pr A.active).prio
def St.Fit (A : St) : Prop := FitX A 0 ∧ A.Hi
end Go.Proofs.YtkkdeljladihpaaGreat

/-
  The scheduler's memory holds a state.
-/
namespace Go.Proofs.YtkkdeljladihpaaGreat
open Go.Sh Go.RowKit
set_option maxRecDepth 100000
def ns (l : List Nat) : List Int := l.map fun (n : Nat) => (n : Int)
structure SInv (T : Hp) (sb : Nat) (S : Sk) (L : List Sm) (A : St) : Prop where
  sch : T sb = some (.sch S)
  now : S.now = A.now
  active : S.active = A.active
  made : S.made = A.made
  events : S.events = A.events
  procs : Rw T Ob.procs S.procs A.procs
  sems : Rw T Ob.sems S.sems L
  slen : L.length = A.sems.length
  sem : ∀ (i : Nat) s r, A.sems[i]? = some s → L[i]? = some r → r.excess = s.1 ∧ Rw T (Ob.ints (.sem i)) r.queue (ns s.2)
  qlen : S.queues.length = 17
  queue : ∀ (p : Nat) q, S.queues[p]? = some q → Rw T (Ob.ints (.queue p)) q (ns (A.queues p))
  timers : Rx T Ob.tms S.timers A.timers
theorem put_other {T : Hp} {b x : Nat} {o o' p : Ob} (hx : T x = some o) (hb : T b = some o') (hne : o ≠ o') : put T b p x = some o := by
  rw [put_ne]
  · exact hx
  · rintro rfl
    rw [hx, Option.some.injEq] at hb
    exact hne hb
theorem put_new {T : Hp} {b x : Nat} {o p : Ob} (hx : T x = some o) (hb : T b = none) : put T b p x = some o := by
  rw [put_ne]
  · exact hx
  · rintro rfl
    rw [hx] at hb; cases hb
def Sr {β : Type} (m : M β) (w : World) (T : Hp) (P : β → World → Hp → Prop) : Prop := Ok m w fun r w' => ∃ T', Tr en w T w' T' ∧ P r w' T'
/-- A process's place. -/
structure PAt (T : Hp) (S : Sk) (n : Nat) (r : Pr) (b : Nat) (L' : List Pr) : Prop where
  a : S.procs.a = some ⟨b, 0, none⟩
  at_ : T b = some (.procs L')
  get : L'[n - 1]? = some r
  lt : n - 1 < S.procs.len
section
variable {w0 w : World} {T0 T : Hp} {sb : Nat} {S : Sk} {L : List Sm} {A : St} {α β : Type} {Q : α → World → Prop}
theorem ok_scall (C : Tr en w0 T0 w T) {m : M β} {P : β → World → Hp → Prop} (hm : Sr m w T P) {f : β → M α} (hq : ∀ r w' T', Tr en w0 T0 w' T' → P r w' T' → Ok (f r) w' Q) : Ok (bnd m f) w Q := by
  refine ok_bnd.2 (ok_mono hm ?_)
  rintro r w' ⟨T', C', h⟩
  exact hq r w' T' (C.trans C') h
theorem SInv.pat (I : SInv T sb S L A) {n : Nat} (h1 : 1 ≤ n) (h2 : n ≤ A.procs.length) : ∃ b L', PAt T S n (A.pr n) b L' ∧ L'.take A.procs.length = A.procs ∧ L'.length = S.procs.cap := by
  obtain ⟨b, L', g1, g2, g3, g4⟩ := I.procs.blk (by omega)
  have hlt : n - 1 < A.procs.length := by omega
  refine ⟨b, L', ⟨g1, g2, ?_, by rw [I.procs.len]; exact hlt⟩, g4, g3⟩
  have : (L'.take A.procs.length)[n - 1]? = L'[n - 1]? := by rw [List.getElem?_take_of_lt hlt]
  rw [← this, g4, List.getElem?_eq_getElem hlt]
  unfold St.pr
  rw [List.getD_eq_getElem?_getD, List.getElem?_eq_getElem hlt]; rfl
theorem ok_pld {n b : Nat} {r : Pr} {L' : List Pr} (C : Tr en w0 T0 w T) (at_ : PAt T S n r b L') {j : Nat} {t : Ty} {x : t.den} (hj : j + t.size ≤ 3) (hx : rdv t (Pr.en r).toArray j = some x) {f : t.den → M α} (hq : Ok (f x) w Q) : Ok (bnd (ld t (Addr.add ⟨b, 3 * (n - 1), none⟩ j)) f) w Q :=
  ok_tld C at_.at_ (flat_rdv (g := Pr.en) (fun _ => rfl) at_.get hj hx) hq
theorem ok_pwr {n b : Nat} {r : Pr} {L' : List Pr} (C : Tr en w0 T0 w T) (at_ : PAt T S n r b L') (r' : Pr) {j : Nat} {vs : List Value} (hj : j + vs.length ≤ 3) (ha : vs.all single = true) (hs : spl (Pr.en r) j vs = Pr.en r') {f : Unit → M α} (hq : ∀ w', Tr en w0 T0 w' (put T b (.procs (L'.set (n - 1) r'))) → Ok (f ()) w' Q) : Ok (bnd (wrs (Addr.add ⟨b, 3 * (n - 1), none⟩ j) 0 vs) f) w Q := by
  have hlt : n - 1 < L'.length := by
    rcases Nat.lt_or_ge (n - 1) L'.length with h | h
    · exact h
    · have := at_.get; rw [List.getElem?_eq_none h] at this; cases this
  refine ok_twr C (.procs (L'.set (n - 1) r')) at_.at_ ?_ ha (flat_spl (g := Pr.en) (fun _ => rfl) at_.get hj hs) hq
  show _ ≤ (L'.flatMap Pr.en).length
  rw [flat_length (g := Pr.en) (n := 3) (fun _ => rfl)]
  have : 3 * (n - 1) + 3 ≤ 3 * L'.length := by rw [← Nat.mul_succ]; exact Nat.mul_le_mul_left _ hlt
  omega
theorem of_spec {n b : Nat} {r : Pr} {L' : List Pr} (C : Tr en w0 T0 w T) (I : T sb = some (.sch S)) (at_ : PAt T S n r b L') (h1 : 1 ≤ n) (h2 : n ≤ 1000000) {x : Int} (hx : x = n) {f : Option Addr → M α} (hq : Ok (f (some ⟨b, 3 * (n - 1), none⟩)) w Q) : Ok (bnd (f64_of (some ⟨sb, 0, none⟩) x) f) w Q := by
  subst hx
  unfold f64_of
  refine ok_bnd.2 (ok_drfS ?_)
  refine ok_tld C I (x := S.procs) rfl ?_
  have e : IntKind.wrap .i64 ((n : Int) - 1) = ((n - 1 : Nat) : Int) := by rw [wrapI]; omega
  rw [e]
  refine ok_ixN at_.a (by omega) (by have := at_.lt; omega) ?_
  rw [Int.toNat_natCast]
  exact ok_ret.2 hq
end
end Go.Proofs.YtkkdeljladihpaaGreat

/-
  The scheduler: a process turned, a queue turned.
-/
namespace Go.Proofs.YtkkdeljladihpaaGreat
open Go.Sh Go.RowKit
set_option maxRecDepth 100000
section
variable {w0 w : World} {T0 T : Hp} {sb : Nat} {S : Sk} {L : List Sm} {A : St} {α β : Type} {Q : α → World → Prop}
theorem SInv.setPr (I : SInv T sb S L A) {n b : Nat} {r : Pr} {L' : List Pr} (at_ : PAt T S n r b L') (h4 : L'.take A.procs.length = A.procs) (h3 : L'.length = S.procs.cap) (r' : Pr) : SInv (put T b (.procs (L'.set (n - 1) r'))) sb S L (A.setPr n r') := by
  have keep : ∀ c o, T c = some o → (∀ l, o ≠ .procs l) → put T b (.procs (L'.set (n - 1) r')) c = some o := fun c o hc hne => put_other hc at_.at_ (hne _)
  refine { I with sch := keep _ _ I.sch (by simp), procs := ?_, sems := I.sems.mono fun c l _ hc => keep _ _ hc (by simp), sem := fun i s r hs hr => ⟨(I.sem i s r hs hr).1, (I.sem i s r hs hr).2.mono fun c l _ hc => keep _ _ hc (by simp)⟩, queue := fun p q hq => (I.queue p q hq).mono fun c l _ hc => keep _ _ hc (by simp), timers := I.timers.mono fun c l _ hc => keep _ _ hc (by simp) }
  refine ⟨by show _ = (A.procs.set _ _).length; rw [List.length_set]; exact I.procs.len, I.procs.le, I.procs.max, .inr ⟨b, _, at_.a, put_eq _ _ _, by rw [List.length_set]; exact h3, ?_⟩⟩
  show _ = A.procs.set _ _
  unfold St.setPr
  simp only
  rw [List.length_set, List.take_set, h4]
theorem spl_at {X Y : List Value} {v v' : Value} {n : Nat} (hn : n = X.length) : spl (X ++ v :: Y) n [v'] = X ++ v' :: Y := by
  subst hn
  unfold spl
  rw [List.take_left' rfl, List.length_singleton, List.drop_append, List.drop_of_length_le (by omega), Nat.add_sub_cancel_left]
  simp
theorem en_queue {s : Sk} {p : Nat} (hp : p < s.queues.length) : Sk.en s = ([.int .i64 s.now, .int .i64 s.active, slV s.procs, slV s.sems] ++ (s.queues.take p).map slV) ++ slV s.queues[p] :: ((s.queues.drop (p + 1)).map slV ++ ([slV s.timers, .int .i64 s.made] ++ s.events.map (.int .i64))) := by
  have e : s.queues.map slV = (s.queues.take p).map slV ++ (slV (s.queues[p]) :: (s.queues.drop (p + 1)).map slV) := by
    conv => lhs; rw [← List.take_append_drop p s.queues, List.map_append, List.drop_eq_getElem_cons hp, List.map_cons]
  unfold Sk.en
  rw [e]
  simp
theorem spl_queue {s : Sk} {p : Nat} (hp : p < s.queues.length) (q : Sl) : spl (en (.sch s)) (4 + p) [slV q] = en (.sch { s with queues := s.queues.set p q }) := by
  show spl (Sk.en s) (4 + p) [slV q] = Sk.en { s with queues := s.queues.set p q }
  rw [en_queue hp, en_queue (s := { s with queues := s.queues.set p q }) (p := p) (by show p < (s.queues.set p q).length; rw [List.length_set]; exact hp), spl_at (by simp; omega)]
  have h1 : (s.queues.set p q).take p = s.queues.take p := by rw [List.take_set_of_le (Nat.le_refl _)]
  have h2 : (s.queues.set p q).drop (p + 1) = s.queues.drop (p + 1) := by rw [List.drop_set_of_lt (by omega)]
  simp only [h1, h2, List.getElem_set_self]
theorem SInv.setQ (I : SInv T sb S L A) {p : Nat} {q' : Sl} {l : List Nat} {T2 : Hp} (k2 : ∀ c o, T c = some o → (∀ l, o ≠ .ints (.queue p) l) → T2 c = some o) (hq : Rw T2 (Ob.ints (.queue p)) q' (ns l)) :
    SInv (put T2 sb (.sch { S with queues := S.queues.set p q' })) sb { S with queues := S.queues.set p q' } L (A.setQ p l) := by
  have hs2 : T2 sb = some (.sch S) := k2 _ _ I.sch (by simp)
  have keep : ∀ c o, T c = some o → (∀ l, o ≠ .ints (.queue p) l) → (∀ s, o ≠ .sch s) → put T2 sb (.sch { S with queues := S.queues.set p q' }) c = some o := fun c o hc n1 n2 => put_other (k2 _ _ hc n1) hs2 (n2 _)
  refine { I with sch := put_eq _ _ _, procs := I.procs.mono fun c l _ hc => keep _ _ hc (by simp) (by simp), sems := I.sems.mono fun c l _ hc => keep _ _ hc (by simp) (by simp), sem := fun i s r hs hr => ⟨(I.sem i s r hs hr).1, (I.sem i s r hs hr).2.mono fun c l _ hc => keep _ _ hc (by simp) (by simp)⟩, qlen := by rw [List.length_set]; exact I.qlen, queue := ?_, timers := I.timers.mono fun c l _ hc => keep _ _ hc (by simp) (by simp) }
  intro x q hx
  by_cases e : x = p
  · subst e
    have hlt : x < S.queues.length := by
      rcases Nat.lt_or_ge x S.queues.length with h | h
      · exact h
      · rw [List.getElem?_eq_none (by rw [List.length_set]; exact h)] at hx; cases hx
    rw [List.getElem?_set_self hlt, Option.some.injEq] at hx
    subst hx
    unfold St.setQ
    simp only [if_true]
    exact hq.mono fun c l _ hc => put_other hc hs2 (by simp)
  · rw [List.getElem?_set_ne (Ne.symm e)] at hx
    unfold St.setQ
    simp only [e, if_false]
    exact (I.queue x q hx).mono fun c l _ hc => keep _ _ hc (by simp [e]) (by simp)
end
end Go.Proofs.YtkkdeljladihpaaGreat

/-
  The scheduler: ready.
-/
namespace Go.Proofs.YtkkdeljladihpaaGreat
open Go.Sh Go.RowKit
set_option maxRecDepth 100000
section
variable {w0 w : World} {T0 T : Hp} {sb : Nat} {S : Sk} {L : List Sm} {A : St} {α β : Type} {Q : α → World → Prop}
theorem wI {n : Int} (h : -9223372036854775808 ≤ n ∧ n ≤ 9223372036854775807) : IntKind.wrap .i64 n = n := by rw [wrapI]; omega
theorem ok_qix {b o : Nat} {i : Int} {p : Nat} (hi : i = p) (hp : p < 17) {f : Addr → M α} (hq : Ok (f ⟨b, o + p, none⟩) w Q) : Ok (bnd (ixA 17 1 ⟨b, o, none⟩ i) f) w Q := by
  subst hi
  refine ok_bnd.2 ?_
  unfold ixA
  rw [if_pos ⟨by omega, by omega⟩]
  refine ok_ret.2 ?_
  rw [addr_add, Int.toNat_natCast, Nat.mul_one]
  exact hq
theorem SInv.q (I : SInv T sb S L A) {p : Nat} (hp : p < 17) : ∃ q, S.queues[p]? = some q ∧ Rw T (Ob.ints (.queue p)) q (ns (A.queues p)) := by
  have := I.qlen
  exact ⟨S.queues[p], List.getElem?_eq_getElem (by omega), I.queue p _ (List.getElem?_eq_getElem (by omega))⟩
/-- Somebody is ready: at the end of the queue of one's priority. -/
theorem ready_spec (h : Th en w T) (I : SInv T sb S L A) {n : Nat} (h1 : 1 ≤ n) (h2 : n ≤ A.procs.length) (h3 : A.procs.length ≤ 4096) (hpr : 1 ≤ (A.pr n).prio ∧ (A.pr n).prio ≤ 16) (hql : (A.queues (A.pr n).prio.toNat).length ≤ 4096) {x : Int} (hx : x = n) :
    Sr (f63_ready (some ⟨sb, 0, none⟩) x) w T fun _ _ T' => ∃ S' L', SInv T' sb S' L' (A.ready n) := by
  unfold f63_ready
  subst hx
  have hml : maxLen = 9223372036854775807 := by decide
  have C := Tr.refl h
  obtain ⟨b, M, at_, h4, h5⟩ := I.pat h1 h2
  refine of_spec C I.sch at_ h1 (by omega) rfl ?_
  refine ok_drfS ?_
  refine ok_pwr C at_ { A.pr n with standing := 1 } (by show 1 + 1 ≤ 3; decide) rfl rfl fun w1 C1 => ?_
  have hlt : n - 1 < M.length := by
    rcases Nat.lt_or_ge (n - 1) M.length with h | h
    · exact h
    · have := at_.get; rw [List.getElem?_eq_none h] at this; cases this
  have at1 : PAt (put T b (.procs (M.set (n - 1) { A.pr n with standing := 1 }))) S n { A.pr n with standing := 1 } b (M.set (n - 1) { A.pr n with standing := 1 }) := ⟨at_.a, put_eq _ _ _, List.getElem?_set_self hlt, at_.lt⟩
  refine ok_drfS ?_
  refine ok_pwr C1 at1 { A.pr n with standing := 1, sem := 0 } (by show 2 + 1 ≤ 3; decide) rfl rfl fun w2 C2 => ?_
  rw [put_put, List.set_set] at C2
  have I2 := I.setPr at_ h4 h5 { A.pr n with standing := 1, sem := 0 }
  have at2 : PAt (put T b (.procs (M.set (n - 1) { A.pr n with standing := 1, sem := 0 }))) S n { A.pr n with standing := 1, sem := 0 } b (M.set (n - 1) { A.pr n with standing := 1, sem := 0 }) := ⟨at_.a, put_eq _ _ _, List.getElem?_set_self hlt, at_.lt⟩
  generalize put T b (.procs (M.set (n - 1) { A.pr n with standing := 1, sem := 0 })) = T2 at C2 I2 at2
  clear at1 C1 C
  obtain ⟨pn, hpn⟩ : ∃ pn : Nat, (A.pr n).prio = pn := ⟨(A.pr n).prio.toNat, by omega⟩
  have hp17 : pn < 17 := by omega
  have hpt : (A.pr n).prio.toNat = pn := by omega
  obtain ⟨q, hq1, hq2⟩ := I2.q hp17
  have hqa : (A.setPr n { A.pr n with standing := 1, sem := 0 }).queues pn = A.queues pn := rfl
  rw [hqa] at hq2
  rw [hpt] at hql
  have hqs := I.qlen
  simp only [bnd_as, bnd_ret]
  refine ok_tord C2 fun o w3 C => ?_
  refine ok_drfS ?_
  refine ok_pld C at2 (x := (A.pr n).prio) (by decide) rfl ?_
  refine ok_drfS ?_
  refine ok_pld C at2 (x := (A.pr n).prio) (by decide) rfl ?_
  refine ok_drfS ?_
  rw [addr_add]
  refine ok_qix hpn hp17 ?_
  rw [Nat.zero_add]
  refine ok_tld0 C I2.sch (x := q) (rd_queue hq1) ?_
  refine ok_drfS ?_
  refine ok_bnd.2 (ok_build1R row31 (by decide) (F := (n : Int)) (v := .int .i64 (n : Int)) rfl ?_)
  have C4 := C.call ((Below.refl w3.heap.size w3).alloc (Nat.le_refl _) (.cells (iV (n : Int)).toArray 3))
  have hnb : blk (w3.alloc (.cells (iV (n : Int)).toArray 3)) w3.heap.size = some (iV (n : Int)).toArray := by rw [blk_alloc, if_pos rfl]
  generalize w3.alloc (.cells (iV (n : Int)).toArray 3) = w4 at C4 hnb
  have K : Src Tryz.prog 1 28 (.slice (some ⟨w3.heap.size, 0, none⟩) 1 1) 1 (([(n : Int)] : List Int).flatMap iV) w4 := Src.ofSlice w4 row31.und ⟨w3.heap.size, 0, none⟩ 1 1 _ rfl (fun j u hj => by
    rw [addr_add, cell_blk hnb, Nat.zero_add, List.getElem?_toArray]; exact hj) (flat_one' row31.one)
  refine ok_bnd.2 (ok_chk (C4.th _ _ I2.sch).1 (rd_queue hq1) ?_)
  refine ok_tchk C4 at2.at_ (flat_rdv (g := Pr.en) (t := .int .i64) (x := (A.pr n).prio) (fun _ => rfl) at2.get (by decide) rfl) ?_
  refine ok_tchk C4 at2.at_ (flat_rdv (g := Pr.en) (t := .int .i64) (x := (A.pr n).prio) (fun _ => rfl) at2.get (by decide) rfl) ?_
  have hnl : (ns (A.queues pn)).length ≤ 4096 := by simpa [ns] using hql
  refine ok_appR C4 row31 (mk := Ob.ints (.queue pn)) (fun _ => rfl) hq2 K (by simp; omega) (by simp; omega) fun q' w5 T5 C5 hq5 hT => ?_
  have keep : ∀ c o, T2 c = some o → (∀ l, o ≠ .ints (.queue pn) l) → T5 c = some o := fun c o hc hne => by
    rcases hT with ⟨_, _, h9⟩ | ⟨fb, M, rfl, hra, hfb⟩
    · cases h9
    rcases hfb with h0 | ⟨_, M0, hM⟩
    · exact put_new hc h0
    · exact put_other hc hM (hne _)
  have at5 := keep _ _ at2.at_ (by simp)
  have hs5 := keep _ _ I2.sch (by simp)
  refine ok_tchk C5 at5 (flat_rdv (g := Pr.en) (t := .int .i64) (x := (A.pr n).prio) (fun _ => rfl) at2.get (by decide) rfl) ?_
  refine ok_tchk C5 at5 (flat_rdv (g := Pr.en) (t := .int .i64) (x := (A.pr n).prio) (fun _ => rfl) at2.get (by decide) rfl) ?_
  rw [addr_add]
  refine ok_qix hpn hp17 ?_
  rw [Nat.zero_add]
  have hlen : (en (.sch S)).length = 6 + S.queues.length + S.events.length := by
    show (Sk.en S).length = _
    unfold Sk.en
    simp; omega
  refine ok_twr0 C5 (.sch { S with queues := S.queues.set pn q' }) hs5 (by rw [hlen]; simp; omega) rfl (spl_queue (by omega) q') fun w6 C6 => ?_
  refine ok_ret.2 ⟨_, C6, { S with queues := S.queues.set pn q' }, L, ?_⟩
  have hR := I2.setQ (l := A.queues pn ++ [n]) keep (by
    have : ns (A.queues pn ++ [n]) = ns (A.queues pn) ++ [(n : Int)] := by simp [ns]
    rw [this]; exact hq5)
  have e : A.ready n = (A.setPr n { A.pr n with standing := 1, sem := 0 }).setQ pn (A.queues pn ++ [n]) := by unfold St.ready; rw [hpt]
  rw [e]
  exact hR
end
end Go.Proofs.YtkkdeljladihpaaGreat

/-
  The scheduler: highest.
-/
namespace Go.Proofs.YtkkdeljladihpaaGreat
open Go.Sh Go.RowKit
set_option maxRecDepth 100000
section
variable {w0 w : World} {T0 T : Hp} {sb : Nat} {S : Sk} {L : List Sm} {A : St} {α β : Type} {Q : α → World → Prop}
theorem highest_spec (h : Th en w T) (I : SInv T sb S L A) : Sr (f87_highest (some ⟨sb, 0, none⟩)) w T fun r _ T' => T' = T ∧ r = (A.highest : Int) := by
  unfold f87_highest St.highest
  have C := Tr.refl h
  have key : ∀ p : Nat, p ≤ 16 → Ok (loopM (fun (s1 : Int) =>
    cnd (decide (s1 > (0 : Int))) (
    bnd (drf (some ⟨sb, 0, none⟩)) fun (p2 : Addr) =>
    bnd (ixA 17 1 (Addr.add p2 4) s1) fun (p3 : Addr) =>
    bnd (ld .sl p3) fun (v4 : Sl) =>
    cnd (decide ((v4.len : Int) > (0 : Int))) (
    ret (Sum.inr s1)) (
    ret (Sum.inl (IntKind.wrap .i64 (s1 - (1 : Int)))))) (
    ret (Sum.inr (0 : Int)))) (p : Int)) w fun r w' => ∃ T', Tr en w T w' T' ∧ T' = T ∧ r = (St.highN A.queues p : Int) := by
    intro p
    induction p with
    | zero =>
      intro _
      rw [loopM_eq, ok_bnd]
      exact ok_false rfl (ok_ret.2 (ok_ret.2 ⟨T, C, rfl, rfl⟩))
    | succ p ih =>
      intro hp
      rw [loopM_eq, ok_bnd]
      refine ok_true (by simp only [gt_iff_lt, decide_eq_true_eq]; omega) ?_
      refine ok_drfS ?_
      rw [addr_add]
      refine ok_qix (p := p + 1) rfl (by omega) ?_
      rw [Nat.zero_add]
      obtain ⟨q, hq1, hq2⟩ := I.q (p := p + 1) (by omega)
      refine ok_tld0 C I.sch (x := q) (rd_queue hq1) ?_
      have hl : q.len = (A.queues (p + 1)).length := by rw [hq2.len]; simp [ns]
      unfold St.highN
      by_cases he : A.queues (p + 1) = []
      · rw [if_pos he]
        refine ok_false (by rw [hl, he]; rfl) (ok_ret.2 ?_)
        have e : IntKind.wrap .i64 (((p + 1 : Nat) : Int) - 1) = (p : Int) := by rw [wI (by omega)]; omega
        rw [e]
        exact ih (by omega)
      · rw [if_neg he]
        have hpos := List.length_pos_iff.2 he
        exact ok_true (by rw [hl]; simp only [gt_iff_lt, decide_eq_true_eq]; omega) (ok_ret.2 (ok_ret.2 ⟨T, C, rfl, rfl⟩))
  exact key 16 (Nat.le_refl _)
end
end Go.Proofs.YtkkdeljladihpaaGreat

/-
  The scheduler: a clone of a row.
-/
namespace Go.Proofs.YtkkdeljladihpaaGreat
open Go.Sh Go.RowKit
set_option maxRecDepth 100000
theorem ok_buildL0 {P : Program} {T e : TypeId} {z : Value} {by_ : Nat} (SL : SlT P T e z by_) {w : World} {Q : Sl → World → Prop} (hq : Q ⟨some ⟨w.heap.size, 0, none⟩, 0, 0⟩ (w.alloc (.cells #[] e))) : Ok (runV P .sl (Instr.buildSlice T 0 #[])) w Q := by
  obtain ⟨i, hi, hs, hz, hb⟩ := SL.info
  refine ok_runV (v := .slice (some ⟨w.heap.size, 0, none⟩) 0 0) (w' := w.alloc (.cells #[] e)) ?_ rfl hq
  simp [Instr.buildSlice, run_underlying SL.under, sizeOf, typeInfo, zeroValue, hi, hz, hs, Instr.fill, newRow, SL.cells]
  rw [show (Array.range 0) = #[] from by decide, Array.map_empty]
theorem slt31 : SlT Tryz.prog 28 3 (.int .i64 0) 8 := ⟨by kernel_rfl, ⟨_, (by kernel_rfl : Tryz.prog.info? 3 = some Tryz.t3), rfl, rfl, rfl⟩, rfl⟩
section
variable {w0 w : World} {T0 T : Hp} {sb : Nat} {S : Sk} {L : List Sm} {A : St} {α β : Type} {Q : α → World → Prop}
theorem clone_spec3 (h : Th en w T) {s : Sl} {l : List Int} (K : Src Tryz.prog 1 28 (.slice s.a s.len s.cap) l.length (l.flatMap iV) (w.alloc (.cells #[] 3))) (hn : s.a = none → l = []) (hl : l.length ≤ 1000000) (o : Ow) :
    Sr (f53_slices_Cloneint_int s) w T fun r _ T' => Rw T' (Ob.ints o) r l ∧ (∀ b p, T b = some p → T' b = some p) ∧ ∀ b, r.a = some ⟨b, 0, none⟩ → T b = none := by
  unfold f53_slices_Cloneint_int
  have hml : maxLen = 9223372036854775807 := by decide
  have C := Tr.refl h
  cases hs : s.a with
  | none =>
    rw [hn hs]
    exact ok_true rfl (ok_ret.2 ⟨T, C, rw_nil _ _, fun _ _ h => h, fun b h => by cases h⟩)
  | some a =>
    refine ok_false rfl ?_
    rw [← hs]
    refine ok_bnd.2 (ok_buildL0 slt31 ?_)
    have C1 := C.alloc (.ints o []) 3
    have hno : T w.heap.size = none := C.none_at
    have hr : Rw (put T w.heap.size (.ints o [])) (Ob.ints o) ⟨some ⟨w.heap.size, 0, none⟩, 0, 0⟩ [] := ⟨rfl, Nat.le_refl _, Nat.zero_le _, .inr ⟨w.heap.size, [], rfl, put_eq _ _ _, rfl, rfl⟩⟩
    have e : (en (.ints o [])).toArray = #[] := rfl
    rw [e] at C1
    generalize w.alloc (.cells #[] 3) = w1 at C1 K
    refine ok_appR C1 row31 (mk := Ob.ints o) (fun _ => rfl) hr K (by simp; omega) (by simp; omega) fun r w2 T2 C2 hr2 hT => ?_
    rw [List.nil_append] at hr2
    refine ok_ret.2 ⟨T2, C2, hr2, fun b p hb => ?_, fun b hb => ?_⟩
    rotate_left
    · rcases hT with ⟨rfl, rfl, _⟩ | ⟨fb, M, rfl, hra, hfb⟩
      · simp only [Option.some.injEq, Addr.mk.injEq, and_true] at hb
        rw [← hb]; exact hno
      · rw [hra] at hb
        simp only [Option.some.injEq, Addr.mk.injEq, and_true] at hb
        subst hb
        rcases hfb with h0 | ⟨h9, _⟩
        · cases hT : T fb with
          | none => rfl
          | some p => rw [put_new hT hno] at h0; cases h0
        · simp only [Option.some.injEq, Addr.mk.injEq, and_true] at h9
          rw [← h9]; exact hno
    have hb1 : put T w.heap.size (.ints o []) b = some p := put_new hb hno
    rcases hT with ⟨rfl, _, _⟩ | ⟨fb, M, rfl, hra, hfb⟩
    · exact hb1
    rcases hfb with h0 | ⟨h9, _⟩
    · exact put_new hb1 h0
    · simp only [Option.some.injEq, Addr.mk.injEq, and_true] at h9
      rw [put_ne]
      · exact hb1
      · rintro rfl
        rw [← h9] at hb
        rw [hno] at hb; cases hb
theorem clone_spec (h : Th en w T) {s : Sl} {l : List Int} (K : Src Tryz.prog 1 28 (.slice s.a s.len s.cap) l.length (l.flatMap iV) (w.alloc (.cells #[] 3))) (hn : s.a = none → l = []) (hl : l.length ≤ 1000000) (o : Ow) :
    Sr (f53_slices_Cloneint_int s) w T fun r _ T' => Rw T' (Ob.ints o) r l ∧ ∀ b p, T b = some p → T' b = some p :=
  ok_mono (clone_spec3 h K hn hl o) fun r w' ⟨T', C, h1, h2, _⟩ => ⟨T', C, h1, h2⟩
end
end Go.Proofs.YtkkdeljladihpaaGreat

/-
  The scheduler: who is active.
-/
namespace Go.Proofs.YtkkdeljladihpaaGreat
open Go.Sh Go.RowKit
set_option maxRecDepth 100000
section
variable {w0 w : World} {T0 T : Hp} {sb : Nat} {S : Sk} {L : List Sm} {A : St} {α β : Type} {Q : α → World → Prop}
theorem SInv.on (I : SInv T sb S L A) (n : Nat) : SInv (put T sb (.sch { S with active := (n : Int) })) sb { S with active := (n : Int) } L (A.on n) := by
  have keep : ∀ c o, T c = some o → (∀ s, o ≠ .sch s) → put T sb (.sch { S with active := (n : Int) }) c = some o := fun c o hc hne => put_other hc I.sch (hne _)
  exact { I with sch := put_eq _ _ _, active := rfl, procs := I.procs.mono fun c l _ hc => keep _ _ hc (by simp), sems := I.sems.mono fun c l _ hc => keep _ _ hc (by simp), sem := fun i s r hs hr => ⟨(I.sem i s r hs hr).1, (I.sem i s r hs hr).2.mono fun c l _ hc => keep _ _ hc (by simp)⟩, queue := fun p q hq => (I.queue p q hq).mono fun c l _ hc => keep _ _ hc (by simp), timers := I.timers.mono fun c l _ hc => keep _ _ hc (by simp) }
theorem sch_len (s : Sk) : (en (.sch s)).length = 6 + s.queues.length + s.events.length := by
  show (Sk.en s).length = _
  unfold Sk.en
  simp; omega
theorem ok_active (C : Tr en w0 T0 w T) (I : SInv T sb S L A) {v : Int} {n : Nat} (hv : v = n) {f : Unit → M α} (hq : ∀ w', Tr en w0 T0 w' (put T sb (.sch { S with active := (n : Int) })) → Ok (f ()) w' Q) : Ok (bnd (wrs (Addr.add ⟨sb, 0, none⟩ 1) 0 [.int .i64 v]) f) w Q := by
  subst hv
  refine ok_twr C (.sch { S with active := (n : Int) }) I.sch (by rw [sch_len]; simp; omega) rfl ?_ hq
  show spl (Sk.en S) 1 _ = Sk.en { S with active := (n : Int) }
  unfold Sk.en spl
  rfl
end
end Go.Proofs.YtkkdeljladihpaaGreat
