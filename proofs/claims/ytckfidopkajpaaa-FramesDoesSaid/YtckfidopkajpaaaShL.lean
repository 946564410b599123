/-
  A given row's arguments, opened as values of Ty; and what a row's 'post' asks of a law that writes in its own blocks alone.
-/
import Derived.Test.YtckfidopkajpaaaShK
import Derived.Carry
import Derived.Deep.Slices
import Derived.OpenShut
set_option linter.unusedVariables false
set_option linter.unusedSimpArgs false
namespace Go.Sh
set_option linter.unusedVariables false
open Go.RowKit Go.ChangeShapes Go.WideShapes
/-- The shape of an argument. -/
inductive Shp where
  | int (k : IntKind)
  | bool
  | str
  | sl (e : Shp)
  | pair (a b : Shp)
  | agg (a : Shp)
def Shp.ty : Shp → Ty
  | .int k => .int k
  | .bool => .bool
  | .str => .str
  | .sl _ => .sl
  | .pair a b => .pair a.ty b.ty
  | .agg a => .agg a.ty
/-- What is so of an argument. -/
def Held (w : World) : (s : Shp) → s.ty.den → Prop
  | .int k, n => (Lit.int k n).wf = true
  | .bool, _ => True
  | .str, s => s.size ≤ maxLen
  | .sl e, s => (s.a = none ∧ s.len = 0 ∧ s.cap = 0) ∨ ∃ a, s.a = some a ∧ s.len ≤ s.cap ∧ s.cap ≤ maxLen ∧ ∀ i, i < s.cap → ∃ y : e.ty.den, w.cells? 0 (a.add (i * e.ty.size)) e.ty.size = some (enc e.ty true y) ∧ Held w e y
  | .pair a b, x => Held w a x.1 ∧ Held w b x.2
  | .agg a, x => Held w a x
def tgt (P : Program) (n : Nat) : Bool → TypeId → List Field → Nat → Option TypeId
  | false, T, _, _ => some T
  | true, _, [f], off => if f.offset = off ∧ P.cellsOf f.type = n then some f.type else none
  | true, _, _, _ => none
def isInt (P : Program) (T : TypeId) (k : IntKind) : Bool := match P.underlying T with
  | some (.int k') => decide (k' = k)
  | _ => false
def isBool (P : Program) (T : TypeId) : Bool := match P.underlying T with
  | some .bool => true
  | _ => false
def isStr (P : Program) (T : TypeId) : Bool := match P.underlying T with
  | some .string => true
  | _ => false
def slOf (P : Program) (T : TypeId) : Option TypeId := match P.underlying T with
  | some (.slice e) => some e
  | _ => none
def stOf (P : Program) (T : TypeId) : Option (List Field) := match P.underlying T with
  | some (.struct fs) => some fs.toList
  | _ => none
/-- The program's type is of that shape. -/
def opB (P : Program) : Shp → Bool → TypeId → List Field → Nat → Bool
  | .int k, m, T, l, off => match tgt P 1 m T l off with
    | some T => isInt P T k
    | none => false
  | .bool, m, T, l, off => match tgt P 1 m T l off with
    | some T => isBool P T
    | none => false
  | .str, m, T, l, off => match tgt P 1 m T l off with
    | some T => isStr P T
    | none => false
  | .sl e, m, T, l, off => match tgt P 1 m T l off with
    | some T => match slOf P T with
      | some E => opB P e false E [] 0 && decide (P.cellsOf E = e.ty.size)
      | none => false
    | none => false
  | .agg a, m, T, l, off => match tgt P a.ty.size m T l off with
    | some T => match stOf P T with
      | some fs => opB P a true 0 fs 0 && decide (P.cellsOf T = a.ty.size)
      | none => false
    | none => false
  | .pair a b, true, _, f :: l, off => opB P a true 0 [f] off && opB P b true 0 l (off + a.ty.size)
  | .pair _ _, _, _, _, _ => false
section
variable {H : Type} {enc : TypeId × Value → H} {P : Program} {w : World} {spare : Nat → Bool} {held : Bool}
def OneA (P : Program) (w : World) (s : Shp) : Prop := ∀ (H : Type) (en : TypeId × Value → H) (held : Bool) (T : TypeId) (fuel : Nat) (cs : List Value) (x : DataW H × List MemPlace), opB P s false T [] 0 = true →
  DataW.trod en P w 0 (fun _ => true) held fuel T cs = some x → ∃ y : s.ty.den, cs = Sh.enc s.ty true y ∧ Held w s y
def OneB (P : Program) (w : World) (s : Shp) : Prop := ∀ (H : Type) (en : TypeId × Value → H) (held : Bool) (l : List Field) (off fuel : Nat) (cs : List Value) (xs : List (DataW H × List MemPlace)), opB P s true 0 l off = true →
  l.mapM (fun f => DataW.trod en P w 0 (fun _ => true) held fuel f.type ((cs.drop f.offset).take (P.cellsOf f.type))) = some xs → ∃ y : s.ty.den, (cs.drop off).take s.ty.size = Sh.enc s.ty true y ∧ Held w s y
theorem oneB_of {s : Shp} (hA : OneA P w s) (h : ∀ l off, opB P s true 0 l off = true → ∃ f, l = [f] ∧ f.offset = off ∧ P.cellsOf f.type = s.ty.size ∧ opB P s false f.type [] 0 = true) : OneB P w s := by
  intro H en held l off fuel cs xs ho hm
  obtain ⟨f, rfl, rfl, hs, h2⟩ := h l off ho
  simp only [List.mapM_cons, List.mapM_nil, Option.pure_def, Option.bind_eq_bind, Option.bind_eq_some_iff] at hm
  obtain ⟨y, hy, _⟩ := hm
  rw [hs] at hy
  exact hA H en held f.type fuel _ y h2 hy
theorem tgt_true {n : Nat} {l : List Field} {off : Nat} {T : TypeId} (h : tgt P n true 0 l off = some T) : ∃ f, l = [f] ∧ f.offset = off ∧ P.cellsOf f.type = n ∧ T = f.type := by
  unfold tgt at h
  split at h
  · rename_i hh; cases hh
  · split at h
    · rename_i hc
      simp only [Option.some.injEq] at h
      exact ⟨_, rfl, hc.1, hc.2, h.symm⟩
    · cases h
  · cases h
theorem open_both : ∀ s : Shp, OneA P w s ∧ OneB P w s := by
  intro s
  induction s with
  | int k =>
    have hA : OneA P w (.int k) := by
      intro H en held T fuel cs x ho h
      simp only [opB, tgt, isInt] at ho
      split at ho
      · rename_i k' hk
        have hk' : k' = k := of_decide_eq_true ho
        subst hk'
        obtain ⟨n, h1, h2, h3⟩ := DataW.trod_int hk h
        exact ⟨n, h1, h3⟩
      · cases ho
    refine ⟨hA, oneB_of hA fun l off ho => ?_⟩
    simp only [opB] at ho
    split at ho
    · rename_i T hT
      obtain ⟨f, h1, h2, h3, rfl⟩ := tgt_true hT
      exact ⟨f, h1, h2, h3, by simpa [opB, tgt] using ho⟩
    · cases ho
  | bool =>
    have hA : OneA P w .bool := by
      intro H en held T fuel cs x ho h
      simp only [opB, tgt, isBool] at ho
      split at ho
      · rename_i hk
        obtain ⟨n, h1, h2⟩ := DataW.trod_bool hk h
        exact ⟨n, h1, trivial⟩
      · cases ho
    refine ⟨hA, oneB_of hA fun l off ho => ?_⟩
    simp only [opB] at ho
    split at ho
    · rename_i T hT
      obtain ⟨f, h1, h2, h3, rfl⟩ := tgt_true hT
      exact ⟨f, h1, h2, h3, by simpa [opB, tgt] using ho⟩
    · cases ho
  | str =>
    have hA : OneA P w .str := by
      intro H en held T fuel cs x ho h
      simp only [opB, tgt, isStr] at ho
      split at ho
      · rename_i hk
        cases fuel with
        | zero => simp [DataW.trod] at h
        | succ n =>
          simp only [DataW.trod, hk] at h
          have : ∃ t, cs = [.string t] ∧ t.size ≤ maxLen := by
            rcases cs with _ | ⟨v, _ | ⟨v2, r⟩⟩
            · simp at h
            · cases v <;> simp at h
              rename_i t
              exact ⟨t, rfl, h.1⟩
            · simp at h
          obtain ⟨t, rfl, hl⟩ := this
          exact ⟨t, rfl, hl⟩
      · cases ho
    refine ⟨hA, oneB_of hA fun l off ho => ?_⟩
    simp only [opB] at ho
    split at ho
    · rename_i T hT
      obtain ⟨f, h1, h2, h3, rfl⟩ := tgt_true hT
      exact ⟨f, h1, h2, h3, by simpa [opB, tgt] using ho⟩
    · cases ho
  | sl e ih =>
    have hA : OneA P w (.sl e) := by
      intro H en held T fuel cs x ho h
      simp only [opB, tgt] at ho
      split at ho
      · rename_i E hE
        simp only [Bool.and_eq_true, decide_eq_true_eq] at ho
        have ht : P.underlying T = some (.slice E) := by
          unfold slOf at hE
          split at hE
          · rename_i e' he'
            simp only [Option.some.injEq] at hE
            rw [he', hE]
          · cases hE
        rcases Deep.open_slice ht h with ⟨rfl, _⟩ | ⟨a, len, cap, m, n, D, Pl, rfl, hb, hl, hm, hmm, _, hi⟩
        · exact ⟨⟨none, 0, 0⟩, rfl, Or.inl ⟨rfl, rfl, rfl⟩⟩
        · refine ⟨⟨some a, len, cap⟩, rfl, Or.inr ⟨a, rfl, hl, hm, fun i hii => ?_⟩⟩
          obtain ⟨cs', h1, h2⟩ := hi i (by rw [hmm, if_pos rfl]; exact hii)
          obtain ⟨y, h3, h4⟩ := ih.1 H en held E n cs' _ ho.1 h2
          subst h3
          rw [ho.2] at h1
          exact ⟨y, h1, h4⟩
      · cases ho
    refine ⟨hA, oneB_of hA fun l off ho => ?_⟩
    simp only [opB] at ho
    split at ho
    · rename_i T hT
      obtain ⟨f, h1, h2, h3, rfl⟩ := tgt_true hT
      exact ⟨f, h1, h2, h3, by simpa [opB, tgt] using ho⟩
    · cases ho
  | pair a b iha ihb =>
    refine ⟨fun H en held T fuel cs x ho h => by simp [opB] at ho, fun H en held l off fuel cs xs ho hm => ?_⟩
    cases l with
    | nil => simp [opB] at ho
    | cons f l =>
      simp only [opB, Bool.and_eq_true] at ho
      simp only [List.mapM_cons, Option.pure_def, Option.bind_eq_bind, Option.bind_eq_some_iff] at hm
      obtain ⟨y, hy, ys, hys, _⟩ := hm
      obtain ⟨u, hu, hu2⟩ := iha.2 H en held [f] off fuel cs [y] ho.1 (by simp [hy])
      obtain ⟨v, hv, hv2⟩ := ihb.2 H en held l (off + a.ty.size) fuel cs ys ho.2 hys
      refine ⟨(u, v), ?_, hu2, hv2⟩
      show (cs.drop off).take (a.ty.size + b.ty.size) = Sh.enc a.ty true u ++ Sh.enc b.ty true v
      rw [← hu, ← hv, List.take_add, List.drop_drop]
  | agg a ih =>
    have hA : OneA P w (.agg a) := by
      intro H en held T fuel cs x ho h
      simp only [opB, tgt] at ho
      split at ho
      · rename_i fs hfs
        simp only [Bool.and_eq_true, decide_eq_true_eq] at ho
        have ht : ∃ f, P.underlying T = some (.struct f) ∧ f.toList = fs := by
          unfold stOf at hfs
          split at hfs
          · rename_i e' he'
            simp only [Option.some.injEq] at hfs
            exact ⟨_, he', hfs⟩
          · cases hfs
        obtain ⟨f, ht, rfl⟩ := ht
        cases fuel with
        | zero => simp [DataW.trod] at h
        | succ n =>
          simp only [DataW.trod, ht] at h
          have h' : (if cs.length = P.cellsOf T then (f.toList.mapM fun f => DataW.trod en P w 0 (fun _ => true) held n f.type ((cs.drop f.offset).take (P.cellsOf f.type))).map fun xs => (DataW.agg (xs.map (·.1)), xs.flatMap (·.2)) else none) = some x := by
            simpa using h
          split at h'
          · rename_i hlen
            simp only [Option.map_eq_some_iff] at h'
            obtain ⟨xs, hxs, _⟩ := h'
            obtain ⟨y, hy, hy2⟩ := ih.2 H en held _ 0 n cs xs ho.1 hxs
            refine ⟨y, ?_, hy2⟩
            show cs = Sh.enc a.ty true y
            rw [← hy, List.drop_zero, List.take_of_length_le (by omega)]
          · cases h'
      · cases ho
    refine ⟨hA, oneB_of hA fun l off ho => ?_⟩
    simp only [opB] at ho
    split at ho
    · rename_i T hT
      obtain ⟨f, h1, h2, h3, rfl⟩ := tgt_true hT
      exact ⟨f, h1, h2, h3, by simpa [opB, tgt] using ho⟩
    · cases ho
end
theorem wf_of {k : IntKind} {n : Int} (h : (Lit.int k n).wf = true) : k.min ≤ n ∧ n ≤ k.max := by simpa [Lit.wf] using h
theorem wf_i64 {n : Int} (h : (Lit.int .i64 n).wf = true) : -9223372036854775808 ≤ n ∧ n ≤ 9223372036854775807 := wf_of h
theorem wf_u64 {n : Int} (h : (Lit.int .u64 n).wf = true) : 0 ≤ n ∧ n < 18446744073709551616 := by
  have h1 : 0 ≤ n := (wf_of h).1
  have h2 : n ≤ 18446744073709551615 := (wf_of h).2
  omega
theorem wf_u32 {n : Int} (h : (Lit.int .u32 n).wf = true) : 0 ≤ n ∧ n < 4294967296 := by
  have h1 : 0 ≤ n := (wf_of h).1
  have h2 : n ≤ 4294967295 := (wf_of h).2
  omega
theorem wf_u8 {n : Int} (h : (Lit.int .u8 n).wf = true) : 0 ≤ n ∧ n < 256 := by
  have h1 : 0 ≤ n := (wf_of h).1
  have h2 : n ≤ 255 := (wf_of h).2
  omega
/-- An argument, opened. -/
theorem open_arg {H : Type} {en : TypeId × Value → H} {P : Program} {w : World} {b0 : Nat} {T : TypeId} {v : Value} {d : DataW H} {ps : List MemPlace} (s : Shp) (ho : opB P s false T [] 0 = true)
    (hval : Value.okWide P w .any b0 T v) (hd : DataW.Trod en P w 0 (fun _ => true) true T v d ps) : ∃ y : s.ty.den, v = inj s.ty y ∧ Held w s y := by
  obtain ⟨fuel, hf⟩ := hd
  obtain ⟨y, hy, hh⟩ := (open_both s).1 H en true T fuel _ _ ho hf
  refine ⟨y, ?_, hh⟩
  cases s with
  | int k =>
    simp only [opB, tgt, isInt] at ho
    split at ho
    · rename_i k' hk
      cases v <;> simp [Value.okWide, hk, Cell.okWide, Cell.ok] at hval
      simp [Value.cells, Shp.ty, Sh.enc] at hy
      rw [hy]; rfl
    · cases ho
  | bool =>
    simp only [opB, tgt, isBool] at ho
    split at ho
    · rename_i hk
      cases v <;> simp [Value.okWide, hk, Cell.okWide, Cell.ok] at hval
      simp [Value.cells, Shp.ty, Sh.enc] at hy
      rw [hy]; rfl
    · cases ho
  | str =>
    simp only [opB, tgt, isStr] at ho
    split at ho
    · rename_i hk
      cases v <;> simp [Value.okWide, hk, Cell.okWide, Cell.ok] at hval
      simp [Value.cells, Shp.ty, Sh.enc] at hy
      rw [hy]; rfl
    · cases ho
  | sl e =>
    simp only [opB, tgt, slOf] at ho
    split at ho
    · rename_i E hE
      split at hE
      · rename_i E' hk
        cases v <;> simp [Value.okWide, hk, Cell.okWide, Cell.ok] at hval
        simp [Value.cells, Shp.ty, Sh.enc] at hy
        rw [hy.1, hy.2.1, hy.2.2]; rfl
      · cases hE
    · cases ho
  | pair a b => simp [opB] at ho
  | agg a =>
    simp only [opB, tgt, stOf] at ho
    split at ho
    · rename_i fs hfs
      split at hfs
      · rename_i f hk
        simp only [Value.okWide, hk] at hval
        obtain ⟨cs, rfl, _⟩ := hval
        have hy' : cs.toList = Sh.enc a.ty true y := hy
        show Value.agg cs = Value.agg (Sh.enc a.ty true y).toArray
        rw [← hy']
      · cases hfs
    · cases ho
/-- All arguments read behind the call as they did, if below the heap's old size nothing has turned. -/
theorem trodAll_stays {H : Type} {en : TypeId × Value → H} {P : Program} (hl : laidOutB P = true) {W W' : World} (hb : Below W.heap.size W W') : ∀ {ts : List TypeId} {vs : List Value} {ds : List (DataW H)} {ps : List MemPlace},
    ts.all (fun t => P.readableRec t && decide (t < P.types.size)) = true → DataW.TrodAll en P W 0 (fun _ => true) true ts vs ds ps → (∀ x ∈ ps, x.block < W.heap.size) →
    DataW.TrodAll en P W' 0 (fun b => decide (b < W.heap.size)) true ts vs ds ps := by
  intro ts
  induction ts with
  | nil => intro vs ds ps _ h _; obtain ⟨rfl, rfl, rfl⟩ := trodAll_nil h; exact rfl
  | cons t ts ih =>
    intro vs ds ps ha h hp
    simp only [List.all_cons, Bool.and_eq_true, decide_eq_true_eq] at ha
    obtain ⟨v, vs', d, ds', p, q, rfl, rfl, rfl, h1, h2⟩ := trodAll_cons h
    exact trodAll_cons_mk (Below.trod hl ha.1.1 ha.1.2 h1 hb fun x hx => hp x (List.mem_append_left _ hx)) (ih ha.2 h2 fun x hx => hp x (List.mem_append_right _ hx))
/-- 'post' of a law. -/
theorem law_post {H : Type} {en : TypeId × Value → H} {P : Program} {f : Func} {s : ChangeSpec} {W W' : World} {args : Array Value} {ds : List (DataW H)} {p : List MemPlace} {T : TypeId} (hl : laidOutB P = true)
    (hts : f.params.toList.all (fun t => P.readableRec t && decide (t < P.types.size)) = true) (hW : DataW.Whole en P f.params.toList s.vars false W args.toList ds [] p) (hv : s.vars = [])
    (hr : f.resultTypes = #[T]) (ht : P.underlying T = some .bool) (hs : s.fn H (ds ++ []) = { results := [.lit (.bool true)], args := ds }) (hb : Below W.heap.size W W') :
    s.post en P f false true false false W args (.bool true) W' := by
  have hlt := hW.lt
  have hW' := hW
  obtain ⟨p1, q, hA, hV, rfl, hfz, hnd⟩ := hW
  rw [hv] at hV
  obtain ⟨_, rfl⟩ := trodVars_none hV
  refine ⟨ds, [], _, [], p1, [], hW', ?_, ?_, ?_, hb.frame _, fun h => (by cases h)⟩
  · rw [hs, hr]
    exact trodAll_cons_mk (shut_bool ht true) trodAll_mk0
  · rw [hs]
    exact trodAll_stays hl hb hts hA fun x hx => by simpa using hlt x (List.mem_append_left _ hx)
  · rw [hs, hv]; rfl
/-- A call of what is sound. -/
theorem calls_ok {P : Program} {f : FuncId} {fs : FnT} (h : SoundF P f fs) {x : fs.ts.den} {w : World} {Q : fs.tr.den → World → Prop} (hq : Ok (fs.F x) w Q) {as : Array Value} (ha : as = (Sh.enc fs.ts false x).toArray) :
    Calls P f as w fun e w' => ∃ y, e = .returned (inj fs.tr y) ∧ Q y w' := by
  subst ha
  obtain ⟨y, w', h1, h2⟩ := hq
  exact (h.2 x w y w' h1).mono fun e w'' ⟨h3, h4⟩ => ⟨y, h3, h4 ▸ h2⟩
end Go.Sh
