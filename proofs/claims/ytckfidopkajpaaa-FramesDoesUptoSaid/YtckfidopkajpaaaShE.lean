/-
  What ShB reads off a text is what the text does: one operation, whichever; a region.
-/
import Derived.Test.YtckfidopkajpaaaShD
set_option linter.unusedVariables false
set_option linter.unusedSimpArgs false
namespace Go.Sh
set_option linter.unusedVariables false

theorem castTo_one {a u : Ty} {x : u.den} {y : a.den} (h : castTo a u x = some y) (ha : a.one = true) : u.one = true := by
  cases a <;> cases u <;> simp_all [castTo, Ty.one]
theorem castArgs_one : ∀ (t : Ty) (l : List TV) (x : t.den), castArgs t l = some x → ∀ tv ∈ l, tv.t.one = true := by
  intro t
  induction t with
  | pair a b _ ihb =>
    intro l x h
    cases l with
    | nil => simp [castArgs] at h
    | cons tv l =>
      unfold castArgs at h
      obtain ⟨ho, h⟩ := cond_some h
      split at h
      · rename_i y hy
        split at h
        · rename_i z hz
          intro v hv
          rcases List.mem_cons.1 hv with rfl | hv
          · exact castTo_one hy ho
          · exact ihb _ _ hz v hv
        · cases h
      · cases h
  | unit =>
    intro l x h
    cases l with
    | nil => intro v hv; cases hv
    | cons tv l => cases l <;> simp [castArgs, Ty.one] at h
  | _ =>
    intro l x h
    cases l with
    | nil => simp [castArgs] at h
    | cons tv l =>
      cases l with
      | nil =>
        unfold castArgs at h
        simp only [Ty.one, cond_true] at h
        intro v hv
        simp only [List.mem_singleton] at hv
        subst hv
        exact castTo_one h rfl
      | cons tv' l => simp [castArgs] at h
/-- What has not been written is as it was. -/
def SameBut (E E1 : Env) (l : List Oper) : Prop := E1.bd = E.bd ∧ ∀ i, (∀ o ∈ l, o.dst ≠ some i) → E1.get i = E.get i
theorem SameBut.refl (E : Env) (l : List Oper) : SameBut E E l := ⟨rfl, fun _ _ => rfl⟩
theorem SameBut.set {E : Env} {o : Oper} {d : Nat} (h : o.dst = some d) (v : Option TV) : SameBut E (E.set d v) [o] := by
  refine ⟨rfl, fun i hi => ?_⟩
  rw [get_set, if_neg]
  rintro rfl
  exact hi o (by simp) h
/-- (A match may be parted in this form.) -/
abbrev Runs {α : Type} (m : M α) (w : World) (r : α × World) : Prop := m w = some r
/-- From here an operation goes on there. -/
def Goes (P : Program) (o : Oper) (a : Act) (w : World) (a1 : Act) (w1 : World) : Prop := ∀ (next : Act → World → Prop) (Q : Exit → Act → World → Prop), next a1 w1 → o.wp P a w next Q
theorem goes_value {P : Program} {o : Oper} {a : Act} {w w' : World} {v : Value} (h : (execOp a.eval o).run P w = .ok (.value v) w') : Goes P o a w (a.put o.dst v) w' :=
  fun _ _ hn => wp_value h hn
theorem goes_skip {P : Program} {o : Oper} {a : Act} {w w' : World} (h : (execOp a.eval o).run P w = .ok .skip w') : Goes P o a w (a.put o.dst undef) w' :=
  fun _ _ hn => wp_skip' h hn
/-- What is known of an operation that is not loud: the world stays; the value; if it is no load, the same in whatever world. -/
def Quiet (P : Program) (o : Oper) (a : Act) (w w1 : World) (v : Value) : Prop := w1 = w ∧ (execOp a.eval o).run P w = .ok (.value v) w ∧
  ((∀ T x, o.op ≠ .load T x) → ∀ w0, (execOp a.eval o).run P w0 = .ok (.value v) w0)
theorem quiet_all {P : Program} {o : Oper} {a : Act} {w : World} {v : Value} {p : Prop} (h : ∀ w0, (execOp a.eval o).run P w0 = .ok (.value v) w0) :
    Goes P o a w (a.put o.dst v) w ∧ (p → Quiet P o a w w v) := ⟨goes_value (h w), fun _ => ⟨rfl, h w, fun _ => h⟩⟩
section
variable {C : Ctx} {N : Nat} {E : Env} {a : Act} {ρ : Type} {w : World} {r : ρ × World}
theorem ixG_run (hC : C.Ok) {T e : TypeId} {len : Nat} (hu : C.P.underlying T = some (.array len e)) {te : Ty} (hte : C.ty e = some te) (hfl : flat te = true) {l : List Value} {n : Int} {kd : IntKind} {y : te.den} {w w1 : World}
    (h : ixG te l len n w = some (y, w1)) : w1 = w ∧ ∀ w0, (Instr.index T (.agg l.toArray) (.int kd n)).run C.P w0 = .ok (inj te y) w0 := by
  unfold ixG at h
  obtain ⟨hb1, h1⟩ := cond_run h
  simp only [Bool.and_eq_true, decide_eq_true_eq] at hb1
  cases hv : l[n.toNat]? with
  | none => rw [hv] at h1; cases h1
  | some v =>
    rw [hv] at h1
    obtain ⟨h3, rfl⟩ := optM_some.1 h1
    have hvi := dec1_inj h3
    have hfit := hC.ty _ _ hte
    unfold tyFitsB at hfit
    split at hfit
    · rename_i d i hd hi
      simp only [Bool.and_eq_true, beq_iff_eq] at hfit
      obtain ⟨hsz, hag⟩ := hfit
      have hA : isAggD d = false := by cases te <;> simp_all [flat]
      have hs1 : te.size = 1 := by cases te <;> simp_all [flat, Ty.size]
      refine ⟨rfl, fun w0 => ?_⟩
      simp only [Instr.index, asIntOf, Sem.run_bind, Sem.run_pure, Result.andThen_ok, run_under hu, hb1, and_self, if_true, run_size hi, part, run_isAgg hd, hA, hsz, hs1, Nat.mul_one, Bool.false_eq_true, if_false]
      rw [List.getElem?_toArray, hv, hvi]
      rfl
    · cases hfit
theorem methB_run {P : Program} {T : TypeId} {name : String} {f : FuncId} {pr : Bool} (h : methB P T name = some (f, pr)) (n : Nat) (v : Value) (w : World) :
    ∃ nm, (method (n + 1) T v name).run P w = ((receiverAt T (.val v) pr (some nm)).run P w).andThen fun x w => .ok (f, x) w := by
  unfold methB at h
  cases hi : P.info? T with
  | none => rw [hi] at h; cases h
  | some i =>
    rw [hi] at h
    simp only at h
    cases hm : i.methods.find? (·.name == name) with
    | none => rw [hm] at h; cases h
    | some m =>
      rw [hm] at h
      obtain ⟨hp, hf⟩ := cond_some h
      have hpe : m.path.isEmpty = true := hp
      have hl : m.path.toList = [] := by
        rw [Array.isEmpty_iff] at hpe
        rw [hpe]
      refine ⟨(name.splitOn ".").getLastD name, ?_⟩
      unfold method
      simp only [Sem.run_bind, typeInfo, run_program, hi, Result.andThen_ok, Sem.run_pure, hm, hl, follow, hf, hpe, if_true]
theorem args_first (x : Value) (l : List Value) : (#[x] ++ l.toArray)[0]? = some x := by simp
theorem args_rest (x : Value) (l : List Value) : (#[x] ++ l.toArray).extract 1 (#[x] ++ l.toArray).size = l.toArray := by simp
theorem inv_ptr {P : Program} {T e : TypeId} {name : String} {f : FuncId} (h : methB P T name = some (f, true)) (hu : P.underlying T = some (.pointer e)) (hcal : callable P f) (v : Value) (args : Array Value) (w : World) :
    (callMethod (.iface T v) name args).run P w = .ok (.enter f (#[v] ++ args)) w := by
  obtain ⟨nm, hm⟩ := methB_run h (P.types.size + 99) v w
  unfold callMethod
  simp only [Sem.run_bind, run_program, Result.andThen_ok]
  rw [show P.types.size + Made.depth = (P.types.size + 99) + 1 from rfl, hm]
  simp only [receiverAt, Sem.run_bind, run_under hu, Result.andThen_ok, Place.get, Sem.run_pure]
  exact callFunc_run hcal _ w
theorem inv_val {P : Program} {T e : TypeId} {name : String} {f : FuncId} (h : methB P T name = some (f, false)) (hu : P.underlying T = some (.pointer e)) (hcal : callable P f) (p : Addr) (x : Value) (args : Array Value) (w : World) (hld : (loadVar e p).run P w = .ok x w) :
    (callMethod (.iface T (.pointer (some p))) name args).run P w = .ok (.enter f (#[x] ++ args)) w := by
  obtain ⟨nm, hm⟩ := methB_run h (P.types.size + 99) (.pointer (some p)) w
  unfold callMethod
  simp only [Sem.run_bind, run_program, Result.andThen_ok]
  rw [show P.types.size + Made.depth = (P.types.size + 99) + 1 from rfl, hm]
  have hchk : ∀ s : Value, s = strVal nm → (Builtin.ssaWrapNilChk_ #[T] T #[.pointer (some p), strVal "", s]).run P w = .ok (.pointer (some p)) w := by
    rintro _ rfl; rfl
  simp only [receiverAt, Sem.run_bind, run_under hu, Result.andThen_ok, Place.get, Sem.run_pure, hchk _ rfl, asAddr, hld]
  exact callFunc_run hcal _ w
theorem evCall_wp (hC : C.Ok) (hF : Fits N E a) {o : Oper} {c : Call} (ho : o.op = .call c) {k : TV → M ρ} (h : evCall C E c o.type k w = some r) :
    ∃ tv w1, k tv w1 = some r ∧ Goes C.P o a w (a.put o.dst tv.v) w1 := by
  unfold evCall at h
  cases hl : allOpd E c.args.toList with
  | none => simp only [hl] at h; cases h
  | some l =>
    simp only [hl] at h
    have ha := args_map hF hl
    cases hc : c.callee with
    | invoke f name =>
      simp only [hc] at h
      change Runs _ _ _ at h
      split at h
      · rename_i i t x hg
        have he := opd_fits hF hg
        have hv : (⟨.ifc i t, x⟩ : TV).v = .iface i (TV.v ⟨t, x⟩) := rfl
        rw [hv] at he
        unfold evInv at h
        change Runs _ _ _ at h
        split at h
        · rename_i g e hm hu
          unfold evFn at h
          change Runs _ _ _ at h
          split at h
          · rename_i fs hfs
            change Runs _ _ _ at h
            split at h
            · rename_i pk hpk
              simp only [bnd_some] at h
              obtain ⟨z, w1, h1, h2⟩ := h
              obtain ⟨hy, hcal, hcs⟩ := hC.pick hfs hpk
              refine ⟨_, _, h2, fun next Q hn => wp_enter (f := g) (args := (enc pk.1.ts false pk.2).toArray) ?_ (hcs _ _ _ _ h1) hn⟩
              simp only [execOp, ho, resolve, hc, Sem.run_bind, he, ha, Sem.run_pure, Result.andThen_ok, invoke]
              rw [castArgs_enc _ _ _ hy, args_first, args_rest]
              simp only
              rw [inv_ptr hm hu hcal]
              simp
            · cases h
          · cases h
        · rename_i g e p hm hu heq
          change Runs _ _ _ at h
          split at h
          · rename_i te hte
            simp only [bnd_some] at h
            obtain ⟨q, w1, h1, v, w2, h2, h3⟩ := h
            simp only [drf, optM_some] at h1
            obtain ⟨hp, rfl⟩ := h1
            obtain ⟨rfl, hld⟩ := ld_run hC hte h2
            unfold evFn at h3
            change Runs _ _ _ at h3
            split at h3
            · rename_i fs hfs
              change Runs _ _ _ at h3
              split at h3
              · rename_i pk hpk
                simp only [bnd_some] at h3
                obtain ⟨z, w1, h4, h5⟩ := h3
                obtain ⟨hy, hcal, hcs⟩ := hC.pick hfs hpk
                refine ⟨_, _, h5, fun next Q hn => wp_enter (f := g) (args := (enc pk.1.ts false pk.2).toArray) ?_ (hcs _ _ _ _ h4) hn⟩
                simp only [execOp, ho, resolve, hc, Sem.run_bind, he, ha, Sem.run_pure, Result.andThen_ok, invoke]
                rw [castArgs_enc _ _ _ hy, args_first, args_rest]
                simp only
                rw [heq, hp]
                exact (inv_val hm hu hcal q _ _ _ hld).trans (by simp; rfl)
              · cases h3
            · cases h3
          · cases h
        · cases h
      · cases h
    | value f =>
      simp only [hc] at h
      change Runs _ _ _ at h
      split at h
      · rename_i g t x hg
        unfold evFn at h
        change Runs _ _ _ at h
        split at h
        · rename_i fs hfs
          change Runs _ _ _ at h
          split at h
          · rename_i pk hpk
            simp only [bnd_some] at h
            obtain ⟨z, w1, h1, h2⟩ := h
            obtain ⟨hy, hcal, hcs⟩ := hC.pick hfs hpk
            refine ⟨_, _, h2, fun next Q hn => wp_enter (f := g) (args := (enc pk.1.ts false pk.2).toArray) ?_ (hcs _ _ _ _ h1) hn⟩
            have he := opd_fits hF hg
            have hun : (untup t x).map TV.v = enc t false x := by
              rcases untup_enc t x with h | ⟨tv, h1, h2⟩
              · exact h
              · have := castArgs_one _ _ _ hy tv (List.mem_append.2 (.inr h1))
                rw [this] at h2; cases h2
            simp only [execOp, ho, resolve, hc, Sem.run_bind, he, ha, TV.v, inj, enc, List.headD_cons, Deferred.ofValue, Sem.run_pure, Result.andThen_ok, invoke]
            rw [castArgs_enc _ _ _ hy]
            rw [show ∀ (p q : List Value), (#[] ++ p.toArray ++ q.toArray : Array Value) = (p ++ q).toArray by intro p q; simp]
            rw [List.map_append, hun]
            exact callFunc_run hcal _ w
          · cases h
        · cases h
      · rename_i g t x hg
        unfold evFn at h
        change Runs _ _ _ at h
        split at h
        · rename_i fs hfs
          change Runs _ _ _ at h
          split at h
          · rename_i pk hpk
            simp only [bnd_some] at h
            obtain ⟨z, w1, h1, h2⟩ := h
            obtain ⟨hy, hcal, hcs⟩ := hC.pick hfs hpk
            refine ⟨_, _, h2, fun next Q hn => wp_enter (f := g) (args := (enc pk.1.ts false pk.2).toArray) ?_ (hcs _ _ _ _ h1) hn⟩
            have he := opd_fits hF hg
            have hun : (untup t x).map TV.v = enc t false x := by
              rcases untup_enc t x with h | ⟨tv, h1, h2⟩
              · exact h
              · have := castArgs_one _ _ _ hy tv (List.mem_append.2 (.inl h1))
                rw [this] at h2; cases h2
            simp only [execOp, ho, resolve, hc, Sem.run_bind, he, ha, TV.v, inj, enc, List.headD_cons, Deferred.ofValue, Sem.run_pure, Result.andThen_ok, invoke]
            rw [castArgs_enc _ _ _ hy]
            rw [show ∀ (p q : List Value), (p.toArray ++ q.toArray ++ #[] : Array Value) = (p ++ q).toArray by intro p q; simp]
            rw [List.map_append, hun]
            exact callFunc_run hcal _ w
          · cases h
        · cases h
      · rename_i v hg
        change Runs _ _ _ at h
        split at h
        · rename_i tr htr
          simp only [bnd_some] at h
          obtain ⟨y, w1, h1, h2⟩ := h
          refine ⟨_, _, h2, ?_⟩
          have he := opd_fits hF hg
          unfold callV at h1
          change Runs _ _ _ at h1
          split at h1
          · rename_i g first captured
            obtain ⟨h3, h6⟩ := cond_run h1
            clear h1
            simp only [Bool.and_eq_true, Array.isEmpty_iff] at h3
            obtain ⟨rfl, rfl⟩ := h3
            have hgo : ∀ (ts : Ty) (x : ts.den), castArgs ts l = some x → callable C.P g → (execOp a.eval o).run C.P w = .ok (.enter g (enc ts false x).toArray) w := by
              intro ts x hx hcal
              simp only [execOp, ho, resolve, hc, Sem.run_bind, he, ha, TV.v, inj, enc, List.headD_cons, Deferred.ofValue, Sem.run_pure, Result.andThen_ok, invoke]
              rw [castArgs_enc _ _ _ hx]
              rw [show ∀ (p : List Value), (#[] ++ p.toArray ++ #[] : Array Value) = p.toArray by intro p; simp]
              exact callFunc_run hcal _ w
            cases hfn : C.fn g with
            | some fs =>
              simp only [hfn] at h6
              cases hx : castArgs fs.ts l with
              | none => rw [hx] at h6; cases h6
              | some x =>
                rw [hx] at h6
                simp only [bnd_some, optM_some] at h6
                obtain ⟨z, w2, h4, h5, rfl⟩ := h6
                obtain ⟨hcal, hcs⟩ := hC.fn _ _ hfn
                intro next Q hn
                refine wp_enter (f := g) (args := (enc fs.ts false x).toArray) (hgo _ _ hx hcal) (hcs _ _ _ _ h4) ?_
                rw [← castTo_inj h5]
                exact hn
            | none =>
              simp only [hfn] at h6
              cases hpf : C.pf g with
              | none => simp only [hpf] at h6; cases h6
              | some ps =>
                simp only [hpf] at h6
                cases hx : castArgs ps.ts l with
                | none => rw [hx] at h6; cases h6
                | some x =>
                  rw [hx] at h6
                  simp only [optM_some] at h6
                  obtain ⟨h5, rfl⟩ := h6
                  obtain ⟨hcal, hcs⟩ := hC.pf _ _ hpf
                  intro next Q hn
                  refine wp_enter (f := g) (args := (enc ps.ts false x).toArray) (hgo _ _ hx hcal) (hcs x _) ?_
                  rw [← castTo_inj h5]
                  exact hn
          · cases h1
        · cases h
      · cases h
    | builtin b =>
      simp only [hc] at h
      cases b <;> (try (cases h; done))
      case append =>
        cases ht : C.ty o.type with
        | some t =>
          simp only [ht, bnd_some] at h
          obtain ⟨z, w1, h1, h2⟩ := h
          refine ⟨_, _, h2, goes_value ?_⟩
          simp only [execOp, ho, resolve, hc, Sem.run_bind, ha, Sem.run_pure, Result.andThen_ok, invoke, builtin, runV_some h1]
          rfl
        | none => simp only [ht] at h; cases h
      case copy =>
        simp only [bnd_some] at h
        obtain ⟨z, w1, h1, h2⟩ := h
        refine ⟨_, _, h2, goes_value ?_⟩
        simp only [execOp, ho, resolve, hc, Sem.run_bind, ha, Sem.run_pure, Result.andThen_ok, invoke, builtin, runV_some h1]
        rfl
      case clear =>
        simp only [bnd_some] at h
        obtain ⟨z, w1, h1, h2⟩ := h
        refine ⟨_, _, h2, goes_value ?_⟩
        simp only [execOp, ho, resolve, hc, Sem.run_bind, ha, Sem.run_pure, Result.andThen_ok, invoke, builtin, runV_some h1]
        rfl
theorem pOf_v {a : TV} {p : Option Addr} (h : pOf a = some p) : a.v = .pointer p := by
  obtain ⟨t, x⟩ := a
  cases t <;> simp only [pOf, reduceCtorEq, Option.some.injEq] at h
  · subst h; rfl
  · subst h; rfl
theorem evM_wp (hC : C.Ok) (hF : Fits N E a) {o : Oper} {k : TV → M ρ} {skip : M ρ} (h : evM C E o k skip w = some r) :
    (∃ tv w1, k tv w1 = some r ∧ Goes C.P o a w (a.put o.dst tv.v) w1 ∧ (loud C.P o.op = false → Quiet C.P o a w w1 tv.v)) ∨ (∃ w1, skip w1 = some r ∧ Goes C.P o a w (a.put o.dst undef) w1 ∧ loud C.P o.op = true) := by
  unfold evM at h
  cases ho : o.op <;> simp only [ho] at h <;> (try (cases h; done))
  case alloc T =>
    change Runs _ _ _ at h
    split at h
    · rename_i z hz
      change Runs _ _ _ at h
      split at h
      · rename_i l hl
        obtain ⟨i, hi, hiz⟩ := hC.zero _ _ hz
        simp only [bnd_some] at h
        obtain ⟨p, w1, h1, h2⟩ := h
        refine .inl ⟨_, _, h2, goes_value ?_, fun h0 => by cases h0⟩
        have := newC_run (P := C.P) (v := z.v) (cellsV_cells hl) h1
        simp only [execOp, ho, Sem.run_bind, Instr.alloc, run_zero hi hiz, Result.andThen_ok, this, Sem.run_pure]
        rfl
      · cases h
    · cases h
  case box T x =>
    obtain ⟨b, hb, h⟩ := opM_some h
    change Runs _ _ _ at h
    split at h
    · rename_i l hl
      simp only [bnd_some] at h
      obtain ⟨p, w1, h1, h2⟩ := h
      refine .inl ⟨_, _, h2, goes_value ?_, fun h0 => by cases h0⟩
      have := newC_run (P := C.P) (v := b.v) (cellsV_cells hl) h1
      simp only [execOp, ho, Sem.run_bind, Instr.box, opd_fits hF hb, Result.andThen_ok, this, Sem.run_pure]
      rfl
    · cases h
  case load T x =>
    obtain ⟨b, hb, h⟩ := opM_some h
    change Runs _ _ _ at h
    split at h
    · rename_i t ht
      obtain ⟨p, hp, h⟩ := adrM_some h
      simp only [bnd_some] at h
      obtain ⟨y, w1, h1, h2⟩ := h
      obtain ⟨rfl, hr⟩ := ld_run hC ht h1
      have hrun : (execOp a.eval o).run C.P w1 = .ok (.value (TV.v ⟨t, y⟩)) w1 := by
        simp only [execOp, ho, Sem.run_bind, Instr.loadAt, opd_fits hF hb, hp, Instr.sureAddr, Sem.run_pure, Result.andThen_ok, hr]
        rfl
      exact .inl ⟨_, _, h2, goes_value hrun, fun _ => ⟨rfl, hrun, fun hno => absurd ho (hno T x)⟩⟩
    · cases h
  case store T x y =>
    obtain ⟨b, hb, h⟩ := opM_some h
    obtain ⟨c, hc, h⟩ := opM_some h
    change Runs _ _ _ at h
    split at h
    · rename_i t l ht hl
      cases hn : l.length == t.size with
      | false => rw [hn] at h; cases h
      | true =>
        simp only [hn, cond_true] at h
        obtain ⟨p, hp, h⟩ := adrM_some h
        simp only [bnd_some] at h
        obtain ⟨u, w1, h1, h2⟩ := h
        refine .inr ⟨_, h2, goes_skip ?_, rfl⟩
        have hfit := hC.ty _ _ ht
        unfold tyFitsB at hfit
        split at hfit
        · rename_i d i hd hi
          simp only [Bool.and_eq_true, beq_iff_eq] at hfit
          have hcc := cellsV_cells hl
          have h3 := wrs_run (P := C.P) l 0 _ _ h1
          have hsz : l.length = t.size := by simpa using hn
          simp only [execOp, ho, Sem.run_bind, Instr.storeAt, opd_fits hF hb, opd_fits hF hc, hp, Instr.sureAddr, Sem.run_pure, Result.andThen_ok, storeVar, run_size hi, hfit.1]
          have : c.v.cells = l.toArray := hcc
          rw [this]
          simp only [List.size_toArray, hsz, ne_eq, not_true_eq_false, if_false, Sem.run_bind, Sem.run_pure, Result.andThen_ok, h3]
        · cases hfit
    · cases h
  case nilCheck x =>
    obtain ⟨b, hb, h⟩ := opM_some h
    change Runs _ _ _ at h
    split at h
    · rename_i p
      simp only [bnd_some, drf, optM_some] at h
      obtain ⟨q, w1, ⟨rfl, rfl⟩, h2⟩ := h
      refine .inl ⟨_, w, h2, ?_⟩
      refine quiet_all fun w0 => ?_
      simp only [execOp, ho, opd_fits hF hb, TV.v, inj, enc, List.headD_cons, Sem.run_pure]
    · cases h
  case fieldAddr T x f =>
    obtain ⟨b, hb, h⟩ := opM_some h
    change Runs _ _ _ at h
    split at h
    · rename_i p
      simp only [bnd_some, drf, optM_some] at h
      obtain ⟨q, w1, ⟨rfl, rfl⟩, h2⟩ := h
      change Runs _ _ _ at h2
      split at h2
      · rename_i tv htv
        refine .inl ⟨_, w, h2, ?_⟩
        refine quiet_all fun w0 => ?_
        have := calmFieldAddr_run htv w0
        simp only [execOp, ho, opd_fits hF hb, Sem.run_bind, TV.v, inj, enc, List.headD_cons] at this ⊢
        rw [this]; rfl
      · cases h2
    · cases h
  case indexAddr T x i =>
    obtain ⟨b, hb, h⟩ := opM_some h
    obtain ⟨c, hc, h⟩ := opM_some h
    obtain ⟨tv, h2, hr⟩ := evIndexAddr_run h
    refine .inl ⟨_, w, h2, ?_⟩
    refine quiet_all fun w0 => ?_
    simp only [execOp, ho, opd_fits hF hb, opd_fits hF hc, Sem.run_bind, hr, Result.andThen_ok, Sem.run_pure]
  case index T x i =>
    obtain ⟨b, hb, h⟩ := opM_some h
    obtain ⟨c, hc, h⟩ := opM_some h
    obtain ⟨tb, xb⟩ := b
    obtain ⟨tc, xc⟩ := c
    cases hu : C.P.underlying T with
    | none => simp only [hu] at h; cases h
    | some d =>
      simp only [hu] at h
      cases d <;> (try (cases h; done)) <;> cases tb <;> (try (cases h; done)) <;> cases tc <;> (try (cases h; done))
      case array.agg.int =>
        rename_i len e tx x5 kd
        cases hte : C.ty e with
        | none => simp only [hte] at h; cases h
        | some te =>
          simp only [hte] at h
          obtain ⟨hfl, h6⟩ := cond_run h
          simp only [bnd_some] at h6
          obtain ⟨y, w1, h1, h2⟩ := h6
          obtain ⟨hw1, hr⟩ := ixG_run (kd := kd) hC hu hte hfl h1
          subst hw1
          refine .inl ⟨_, w1, h2, ?_⟩
          refine quiet_all fun w0 => ?_
          simp only [execOp, ho, opd_fits hF hb, opd_fits hF hc, Sem.run_bind]
          rw [show (TV.v ⟨.agg tx, xb⟩) = .agg (enc tx true xb).toArray from rfl, show (TV.v ⟨.int kd, xc⟩) = .int kd xc from rfl, hr w0]
          rfl
      simp only [bnd_some, ixS] at h
      obtain ⟨q, w1, h1, h2⟩ := h
      change Runs _ _ _ at h1
      split at h1
      · rename_i y hy
        simp only [ret_some] at h1
        obtain ⟨rfl, rfl⟩ := h1
        refine .inl ⟨_, w, h2, ?_⟩
        refine quiet_all fun w0 => ?_
        simp only [execOp, ho, opd_fits hF hb, opd_fits hF hc, Sem.run_bind, TV.v, inj, enc, List.headD_cons, Instr.index, asIntOf, Sem.run_pure, Result.andThen_ok, run_under hu]
        rw [hy]
        rfl
      · cases h1
  case slice T x lo hi mx =>
    obtain ⟨b, hb, h⟩ := opM_some h
    change Runs _ _ _ at h
    split at h
    · rename_i l hh m hl hhh hm
      obtain ⟨tv, h2, hr⟩ := evSlice_run hF hl hhh hm h
      refine .inl ⟨_, w, h2, ?_⟩
      refine quiet_all fun w0 => ?_
      simp only [execOp, ho, opd_fits hF hb, Sem.run_bind, hr, Result.andThen_ok, Sem.run_pure]
    · cases h
  case binOp op T x y U =>
    obtain ⟨b, hb, h⟩ := opM_some h
    obtain ⟨c, hc, h⟩ := opM_some h
    cases hp : ptrCmp C.P op T y with
    | true =>
      simp only [hp, cond_true] at h
      change Runs _ _ _ at h
      split at h
      · rename_i p q h1 h2
        simp only [bnd_some] at h
        obtain ⟨z, w1, h3, h4⟩ := h
        refine .inl ⟨_, _, h4, goes_value ?_, fun h0 => by simp [loud, hp] at h0⟩
        simp only [execOp, ho, opd_fits hF hb, opd_fits hF hc, pOf_v h1, pOf_v h2, eqGuard_at_pointer]
        have := runV_some h3
        simp only [Sem.run_bind, Sem.run_pure, Result.andThen_ok, this]
        rfl
      · cases h
    | false =>
    simp only [hp, cond_false] at h
    obtain ⟨tv, h2, hr⟩ := evBin_run (P := C.P) (T := T) (x := x) (y := y) h
    refine .inl ⟨_, w, h2, ?_⟩
    refine quiet_all fun w0 => ?_
    simp only [execOp, ho, opd_fits hF hb, opd_fits hF hc]
    rw [Sem.run_bind, hr]
    rfl
  case convert s d x =>
    obtain ⟨b, hb, h⟩ := opM_some h
    cases hsc : softConv C.P s d with
    | true => rw [hsc] at h; cases h
    | false =>
    simp only [hsc, cond_false] at h
    change Runs _ _ _ at h
    split at h
    · rename_i t ht
      simp only [bnd_some] at h
      obtain ⟨y, w1, h1, h2⟩ := h
      refine .inl ⟨_, _, h2, goes_value ?_, fun h0 => by simp [loud, hsc] at h0⟩
      simp only [execOp, ho, opd_fits hF hb, Sem.run_bind, runV_some h1, Result.andThen_ok, Sem.run_pure]
      rfl
    · cases h
  case makeSlice T l c =>
    obtain ⟨b, hb, h⟩ := opM_some h
    obtain ⟨d, hd, h⟩ := opM_some h
    simp only [bnd_some] at h
    obtain ⟨y, w1, h1, h2⟩ := h
    refine .inl ⟨_, _, h2, goes_value ?_, fun h0 => by cases h0⟩
    simp only [execOp, ho, opd_fits hF hb, opd_fits hF hd, Sem.run_bind, runV_some h1, Result.andThen_ok, Sem.run_pure]
    rfl
  case buildSlice T n parts =>
    change Runs _ _ _ at h
    split at h
    · rename_i l hl
      simp only [bnd_some] at h
      obtain ⟨y, w1, h1, h2⟩ := h
      refine .inl ⟨_, _, h2, goes_value ?_, fun h0 => by cases h0⟩
      have : (parts.map fun (i, x) => (i, a.eval x)) = l.toArray := by
        apply Array.ext'
        rw [parts_map hF hl]
      simp only [execOp, ho, Sem.run_bind, this, runV_some h1, Result.andThen_ok, Sem.run_pure]
      rfl
    · cases h
  case call c =>
    cases hs : softCall c with
    | false =>
      obtain ⟨tv, w1, h1, h2⟩ := evCall_wp hC hF ho h
      exact .inl ⟨tv, w1, h1, h2, fun h0 => by simp [loud, hs] at h0⟩
    | true =>
      exfalso
      unfold evCall at h
      cases hl : allOpd E c.args.toList with
      | none => simp only [hl] at h; cases h
      | some l =>
        simp only [hl] at h
        cases hc : c.callee with
        | invoke x y => simp [softCall, hc] at hs
        | value f => simp [softCall, hc] at hs
        | builtin b => cases b <;> simp [softCall, hc] at hs <;> (simp only [hc] at h; cases h)
theorem setD_next (hF : Fits N E a) {o : Oper} {k : Env → M ρ} {tv : TV} {w1 : World} (h : setD N E o.dst tv k w1 = some r) :
    ∃ E1, SameBut E E1 [o] ∧ Fits N E1 (a.put o.dst tv.v) ∧ k E1 w1 = some r := by
  unfold setD at h
  change Runs _ _ _ at h
  split at h
  · rename_i hd; rw [hd] ; exact ⟨E, SameBut.refl E _, hF, h⟩
  · rename_i d hd
    cases hb : Nat.blt d N with
    | false => rw [hb] at h; cases h
    | true =>
      simp only [hb, cond_true] at h
      have hsb := SameBut.set (E := E) hd (some tv)
      rw [hd]
      refine ⟨E.set d (some tv), hsb, hF.put (by simpa using hb) ?_, h⟩
      intro t ht
      simp only [Option.some.injEq] at ht
      rw [ht]
theorem evOp_wp (hC : C.Ok) (hF : Fits N E a) {o : Oper} {k : Env → M ρ} (h : evOp C N E o k w = some r) :
    ∃ E1 a1 w1, SameBut E E1 [o] ∧ Fits N E1 a1 ∧ k E1 w1 = some r ∧ Goes C.P o a w a1 w1 ∧ (loud C.P o.op = false → ∃ v, a1 = a.put o.dst v ∧ Quiet C.P o a w w1 v) := by
  unfold evOp at h
  change Runs _ _ _ at h
  split at h
  · rename_i tv htv
    obtain ⟨E1, h1, h2, h3⟩ := setD_next hF h
    refine ⟨E1, _, w, h1, h2, h3, fun next Q hn => calm_gives hC hF htv w next Q hn, fun hl => ⟨_, rfl, ?_⟩⟩
    have := calm_run hC hF htv (fun c hc => by rw [hc] at hl; simpa [loud] using hl)
    exact ⟨rfl, this w, fun _ => this⟩
  · rcases evM_wp hC hF h with ⟨tv, w1, h1, h2, h5⟩ | ⟨w1, h1, h2, h5⟩
    · obtain ⟨E1, h3, h4, h6⟩ := setD_next hF h1
      exact ⟨E1, _, w1, h3, h4, h6, h2, fun hl => ⟨_, rfl, h5 hl⟩⟩
    · change Runs _ _ _ at h1
      split at h1
      · rename_i hd
        refine ⟨E, a, w1, SameBut.refl E _, hF, h1, by rw [hd] at h2; exact h2, fun h0 => by rw [h5] at h0; cases h0⟩
      · cases h1
end
end Go.Sh
