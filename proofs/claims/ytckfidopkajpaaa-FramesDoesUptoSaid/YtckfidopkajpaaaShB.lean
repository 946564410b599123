/-
  What a function's code computes, as a computation of ShA: by its text, symbolically. No program in sight but as a parameter.
-/
import Derived.Test.YtckfidopkajpaaaShA
import Derived.Laws.World
import Derived.Still
set_option linter.unusedVariables false
set_option linter.unusedSimpArgs false
namespace Go.Sh
set_option linter.unusedVariables false

/-! ### What operations do -/
def optM {α : Type} (o : Option α) : M α := match o with
  | some x => ret x
  | none => fail
def rd (a : Addr) : M Value := fun w => match w.cell? a with
  | some v => some (v, w)
  | none => none
def rds (a : Addr) : Nat → Nat → M (List Value)
  | _, 0 => ret []
  | i, n + 1 => bnd (rd (a.add i)) fun v => bnd (rds a (i + 1) n) fun l => ret (v :: l)
def ld (t : Ty) (a : Addr) : M t.den := bnd (rds a 0 t.size) fun l => optM (decs t l)
def single : Value → Bool
  | .agg _ => false
  | .tuple _ => false
  | _ => true
def wr (a : Addr) (v : Value) : M Unit := fun w => bif single v then match w.cell? a with
    | some _ => bif w.frozen? a then none else some ((), w.setCell a v)
    | none => none
  else none
def wrs (a : Addr) : Nat → List Value → M Unit
  | _, [] => ret ()
  | i, v :: l => bnd (wr (a.add i) v) fun _ => wrs a (i + 1) l
def newC (e : TypeId) (l : List Value) : M Addr := fun w => some (⟨w.heap.size, 0, none⟩, w.alloc (.cells l.toArray e))
def drf (p : Option Addr) : M Addr := optM p
def ix (sz : Nat) (s : Sl) (i : Int) : M Addr := match s.a with
  | some a => if 0 ≤ i ∧ i < s.len then ret (a.add (i.toNat * sz)) else fail
  | none => fail
def ixA (n sz : Nat) (a : Addr) (i : Int) : M Addr := if 0 ≤ i ∧ i < n then ret (a.add (i.toNat * sz)) else fail
def ixS (s : ByteArray) (i : Int) : M Int := match (if 0 ≤ i then s[i.toNat]? else none) with
  | some b => ret (b.toNat : Int)
  | none => fail
def bound (v : Int) (y : Nat) : M Nat := if 0 ≤ v ∧ v ≤ y then ret v.toNat else fail
def boundO (v : Option Int) (y z : Nat) : M Nat := match v with
  | some v => bound v y
  | none => ret z
def slc (sz : Nat) (s : Sl) (lo hi mx : Option Int) : M Sl :=
  bnd (boundO mx s.cap s.cap) fun m => bnd (boundO hi m s.len) fun h => bnd (boundO lo h 0) fun l =>
    ret ⟨if m = l then s.a else s.a.map (·.add (l * sz)), h - l, m - l⟩
def slcA (n sz : Nat) (a : Addr) (lo hi mx : Option Int) : M Sl :=
  bnd (boundO mx n n) fun m => bnd (boundO hi m n) fun h => bnd (boundO lo h 0) fun l =>
    ret ⟨some (if m = l then a else a.add (l * sz)), h - l, m - l⟩
def slcS (s : ByteArray) (lo hi : Option Int) : M ByteArray :=
  bnd (boundO hi s.size s.size) fun h => bnd (boundO lo h 0) fun l => ret (s.extract l h)
def nz (b : Int) : M Unit := if b = 0 then fail else ret ()
def cnt (b : Int) : M Nat := if b < 0 then fail else ret b.toNat
def runV (P : Program) (t : Ty) (s : Sem Value) : M t.den := fun w => match s.run P w with
  | .ok v w' => match dec1 t v with
    | some x => some (x, w')
    | none => none
  | .halt _ _ => none
def bAnd (k : IntKind) (a b : Int) : Int := k.wrap ((BitVec.ofInt k.bits a &&& BitVec.ofInt k.bits b).toNat)
def bOr (k : IntKind) (a b : Int) : Int := k.wrap ((BitVec.ofInt k.bits a ||| BitVec.ofInt k.bits b).toNat)
def bXor (k : IntKind) (a b : Int) : Int := k.wrap ((BitVec.ofInt k.bits a ^^^ BitVec.ofInt k.bits b).toNat)
def bAndNot (k : IntKind) (a b : Int) : Int := k.wrap ((BitVec.ofInt k.bits a &&& ~~~BitVec.ofInt k.bits b).toNat)
def shlI (k : IntKind) (a : Int) (n : Nat) : Int := k.wrap (a * 2 ^ (min n k.bits))
def shrI (k : IntKind) (a : Int) (n : Nat) : Int := a.fdiv (2 ^ (min n k.bits))
def maxI (x y : Int) : Int := if y > x then y else x
def minI (x y : Int) : Int := if y < x then y else x
def strEq (a b : ByteArray) : Bool := a.toList == b.toList

/-! ### What is known while a text is read -/
structure FnT where
  ts : Ty
  tr : Ty
  F : ts.den → M tr.den
structure PS where
  ts : Ty
  tr : Ty
  F : ts.den → tr.den
/-- A function that is ranged over: what a round takes; what it takes itself. -/
structure RS where
  ta : Ty
  ts : Ty
  F : (ta.den → M Bool) → ts.den → M Unit
/-- What a loop's body does, as a call. -/
structure YS where
  ta : Ty
  F : Nat → ta.den → M Bool
structure Ctx where
  P : Program
  ty : TypeId → Option Ty
  zero : TypeId → Option TV
  eq : TypeId → Option Ty
  fn : FuncId → Option FnT
  alt : FuncId → List FnT
  pf : FuncId → Option PS
  df : FuncId → Option FnT
  rf : FuncId → Option RS
  yl : Option YS
/-- A call for later; a mark of a range over a function. -/
inductive Df where
  | call (f : FuncId) (l : List TV)
  | coll (D : Nat)
def Df.v : Df → Deferred
  | .call f l => { target := .fn (.func f) #[], args := (l.map TV.v).toArray }
  | .coll D => { target := .collected D, args := #[] }
structure Env where
  base : (Nat → Option TV) × List Deferred
  dl : List (Nat × Option TV)
  dfs : List Df
def Env.bd (E : Env) : ((Nat → Option TV) × List Deferred) × List Df := (E.base, E.dfs)
def look (b : Nat → Option TV) (i : Nat) : List (Nat × Option TV) → Option TV
  | [] => b i
  | (j, v) :: r => bif Nat.beq i j then v else look b i r
def Env.get (E : Env) (i : Nat) : Option TV := look E.base.1 i E.dl
def Env.set (E : Env) (i : Nat) (v : Option TV) : Env := { E with dl := (i, v) :: E.dl }
def Env.mark (E : Env) : Env := { base := (E.get, E.dfs.map Df.v ++ E.base.2), dl := [], dfs := [] }
def constTV : Value → TV
  | .int k n => ⟨.int k, n⟩
  | .bool b => ⟨.bool, b⟩
  | .string s => ⟨.str, s⟩
  | .pointer p => ⟨.ptr, p⟩
  | .slice a n c => ⟨.sl, ⟨a, n, c⟩⟩
  | v => ⟨.val, v⟩
def opd (E : Env) : Operand → Option TV
  | .tmp t => E.get t
  | .const v => some (constTV v)
  | .global g => some ⟨.adr, ⟨g, 0, none⟩⟩
  | .func f => some ⟨.clo f .unit, ()⟩
def setD {ρ : Type} (N : Nat) (E : Env) (dst : Option Tmp) (tv : TV) (k : Env → M ρ) : M ρ := match dst with
  | none => k E
  | some d => bif Nat.blt d N then k (E.set d (some tv)) else fail

def binInt (op : BinOp) (k : IntKind) (a b : Int) : Option TV := match op with
  | .add => some ⟨.int k, k.wrap (a + b)⟩
  | .sub => some ⟨.int k, k.wrap (a - b)⟩
  | .mul => some ⟨.int k, k.wrap (a * b)⟩
  | .and => some ⟨.int k, bAnd k a b⟩
  | .or => some ⟨.int k, bOr k a b⟩
  | .xor => some ⟨.int k, bXor k a b⟩
  | .andNot => some ⟨.int k, bAndNot k a b⟩
  | .eql => some ⟨.bool, a == b⟩
  | .neq => some ⟨.bool, a != b⟩
  | .lss => some ⟨.bool, decide (a < b)⟩
  | .leq => some ⟨.bool, decide (a ≤ b)⟩
  | .gtr => some ⟨.bool, decide (a > b)⟩
  | .geq => some ⟨.bool, decide (a ≥ b)⟩
  | _ => none
/-- With a constant on the right. -/
def binConst (op : BinOp) (k : IntKind) (a : Int) (n : Int) : Option TV := match op with
  | .quo => bif n == 0 then none else some ⟨.int k, k.wrap (a.tdiv n)⟩
  | .rem => bif n == 0 then none else some ⟨.int k, a.tmod n⟩
  | _ => none
def shConst (op : BinOp) (k : IntKind) (a : Int) (n : Int) : Option TV := match op with
  | .shl => bif decide (n < 0) then none else some ⟨.int k, shlI k a n.toNat⟩
  | .shr => bif decide (n < 0) then none else some ⟨.int k, shrI k a n.toNat⟩
  | _ => none
def sameK (k k' : IntKind) : Bool := decide (k = k')
def isTwoBool (op : BinOp) (a b : Bool) : Option TV := match op with
  | .eql => some ⟨.bool, a == b⟩
  | .neq => some ⟨.bool, !(a == b)⟩
  | _ => none
def isTwoStr (op : BinOp) (a b : ByteArray) : Option TV := match op with
  | .eql => some ⟨.bool, strEq a b⟩
  | .neq => some ⟨.bool, !strEq a b⟩
  | _ => none
/-- Equality, part by part. -/
def eqTV : (t : Ty) → t.den → t.den → Bool
  | .int _, x, y => x == y
  | .bool, x, y => x == y
  | .str, x, y => strEq x y
  | .pair a b, x, y => eqTV a x.1 y.1 && eqTV b x.2 y.2
  | .agg t, x, y => eqTV t x y
  | _, _, _ => true
def twoAgg (op : BinOp) (t : Ty) (x y : t.den) : Option TV := match op with
  | .eql => some ⟨.bool, eqTV t x y⟩
  | .neq => some ⟨.bool, !eqTV t x y⟩
  | _ => none
def isB (op : BinOp) (b : Bool) : Option TV := match op with
  | .eql => some ⟨.bool, b⟩
  | .neq => some ⟨.bool, !b⟩
  | _ => none
def nilPtr : Operand → Bool
  | .const (.pointer none) => true
  | _ => false
def nilSl : Operand → Bool
  | .const (.slice none 0 0) => true
  | _ => false
def calmBin (C : Ctx) (op : BinOp) (T : TypeId) (x y : Operand) (a b : TV) : Option TV := match a, b with
  | ⟨.int k, n⟩, ⟨.int k', m⟩ => match y with
    | .const (.int _ c) => match shConst op k n c with
      | some r => some r
      | none => bif sameK k k' then match binConst op k n c with
          | some r => some r
          | none => binInt op k n m
        else none
    | _ => bif sameK k k' then binInt op k n m else none
  | ⟨.bool, p⟩, ⟨.bool, q⟩ => match C.P.underlying T with
    | some .bool => isTwoBool op p q
    | _ => none
  | ⟨.str, p⟩, ⟨.str, q⟩ => isTwoStr op p q
  | ⟨.agg t, p⟩, ⟨.agg u, q⟩ => match C.eq T with
    | some e => match castTo e t p, castTo e u q with
      | some x, some y => twoAgg op e x y
      | _, _ => none
    | none => none
  | ⟨.ptr, p⟩, ⟨.ptr, _⟩ => match C.P.underlying T with
    | some (.pointer _) => bif nilPtr y then isB op p.isNone else none
    | _ => none
  | ⟨.adr, _⟩, ⟨.ptr, _⟩ => match C.P.underlying T with
    | some (.pointer _) => bif nilPtr y then isB op false else none
    | _ => none
  | ⟨.sl, s⟩, ⟨.sl, _⟩ => match C.P.underlying T with
    | some (.slice _) => bif nilSl y then isB op s.a.isNone else none
    | _ => none
  | _, _ => none
def calmUn (op : UnOp) (a : TV) : Option TV := match op, a with
  | .not, ⟨.bool, b⟩ => some ⟨.bool, !b⟩
  | .neg, ⟨.int k, n⟩ => some ⟨.int k, k.wrap (0 - n)⟩
  | .xor, ⟨.int k, n⟩ => some ⟨.int k, bXor k (if k.signed then -1 else k.max) n⟩
  | _, _ => none
def calmConv (C : Ctx) (s d : TypeId) (a : TV) : Option TV := match C.P.underlying s, C.P.underlying d, a with
  | some _, some (.int k), ⟨.int _, n⟩ => some ⟨.int k, k.wrap n⟩
  | some _, some .string, ⟨.str, b⟩ => some ⟨.str, b⟩
  | _, _, _ => none
def Ty.one : Ty → Bool
  | .pair _ _ => false
  | .unit => false
  | _ => true
/-- Component number i. -/
def nth : (t : Ty) → t.den → Nat → Option TV
  | .pair a _, x, 0 => bif a.one then some ⟨a, x.1⟩ else none
  | .pair a b, x, n + 1 => bif a.one then nth b x.2 n else none
  | t, x, 0 => bif t.one then some ⟨t, x⟩ else none
  | _, _, _ => none
def calmField (C : Ctx) (T : TypeId) (f : Nat) (a : TV) : Option TV := match a with
  | ⟨.agg t, x⟩ => match C.P.underlying T with
    | some (.struct fs) => match fs[f]? with
      | some fd => match C.ty fd.type with
        | some u => match decs u (((enc t true x).drop fd.offset).take u.size) with
          | some y => some ⟨u, y⟩
          | none => none
        | none => none
      | none => none
    | _ => none
  | _ => none
def calmFieldAddr (C : Ctx) (T : TypeId) (f : Nat) (a : Addr) : Option TV := match C.P.underlying T with
  | some (.struct fs) => match fs[f]? with
    | some fd => match C.P.info? fd.type with
      | some i => bif i.size == 0 then none else some ⟨.adr, a.add fd.offset⟩
      | none => none
    | none => none
  | _ => none
def allOpd (E : Env) : List Operand → Option (List TV)
  | [] => some []
  | x :: l => match opd E x with
    | some tv => match allOpd E l with
      | some r => some (tv :: r)
      | none => none
    | none => none
/-- Values one by one as what a function takes. -/
def castArgs : (t : Ty) → List TV → Option t.den
  | .unit, [] => some ()
  | .pair a b, tv :: l => bif a.one then match castTo a tv.t tv.x with
      | some y => match castArgs b l with
        | some z => some (y, z)
        | none => none
      | none => none
    else none
  | t, [tv] => bif t.one then castTo t tv.t tv.x else none
  | _, _ => none
def tupOf : List TV → TV
  | [] => ⟨.unit, ()⟩
  | [tv] => tv
  | tv :: l => ⟨.pair tv.t (tupOf l).t, (tv.x, (tupOf l).x)⟩
def calmFunc (E : Env) (fn : Fn) (first captured : Array Operand) : Option TV := match fn, first.toList with
  | .func f, [] => match allOpd E captured.toList with
    | some l => bif l.all (fun tv => tv.t.one) then some ⟨.clo f (tupOf l).t, (tupOf l).x⟩ else none
    | none => none
  | .func f, x :: r => match captured.toList with
    | [] => match allOpd E (x :: r) with
      | some l => bif l.all (fun tv => tv.t.one) then some ⟨.mth f (tupOf l).t, (tupOf l).x⟩ else none
      | none => none
    | _ => none
  | _, _ => none
def calmLen (C : Ctx) (b : Builtin) (T : TypeId) (a : TV) : Option TV := match b, C.P.underlying T, a with
  | .len, some (.slice _), ⟨.sl, s⟩ => some ⟨.int .i64, s.len⟩
  | .len, some .string, ⟨.str, s⟩ => some ⟨.int .i64, s.size⟩
  | .len, some (.array n _), _ => some ⟨.int .i64, n⟩
  | .cap, some (.slice _), ⟨.sl, s⟩ => some ⟨.int .i64, s.cap⟩
  | _, _, _ => none
def foldInt (f : Int → Int → Int) (k : IntKind) (a : Int) : List TV → Option TV
  | [] => some ⟨.int k, a⟩
  | ⟨.int k', n⟩ :: l => bif sameK k k' then foldInt f k (f a n) l else none
  | _ => none
def calmBuiltin (C : Ctx) (b : Builtin) (ts : List TypeId) (l : List TV) : Option TV := match b, ts, l with
  | .max, _, ⟨.int k, n⟩ :: r => foldInt maxI k n r
  | .min, _, ⟨.int k, n⟩ :: r => foldInt minI k n r
  | b, T :: _, [a] => calmLen C b T a
  | _, _, _ => none
def calmCall (C : Ctx) (E : Env) (c : Call) : Option TV := match c.callee with
  | .builtin b => match allOpd E c.args.toList with
    | some l => calmBuiltin C b c.argTypes.toList l
    | none => none
  | .value f => match opd E f with
    | some ⟨.clo f .unit, _⟩ => match C.pf f with
      | some ps => match allOpd E c.args.toList with
        | some l => match castArgs ps.ts l with
          | some x => some ⟨ps.tr, ps.F x⟩
          | none => none
        | none => none
      | none => none
    | _ => none
  | _ => none
def partsOf (E : Env) : List (Nat × Operand) → Option (List (Nat × Value))
  | [] => some []
  | (i, x) :: l => match opd E x with
    | some tv => match partsOf E l with
      | some r => some ((i, tv.v) :: r)
      | none => none
    | none => none
def placesOf (C : Ctx) (fs : List Field) : Option (List (Nat × Nat)) := match fs with
  | [] => some []
  | f :: l => match C.P.info? f.type with
    | some i => match placesOf C l with
      | some r => some ((f.offset, i.size) :: r)
      | none => none
    | none => none
def calmBuild (C : Ctx) (E : Env) (T : TypeId) (parts : List (Nat × Operand)) : Option TV := match C.zero T, C.ty T, C.P.underlying T with
  | some z, some (.agg t), some (.struct fs) => match partsOf E parts, placesOf C fs.toList with
    | some l, some pl => match Instr.fill (fun i => pl[i]?) z.v.cells l with
      | some cs => match decs t cs.toList with
        | some x => some ⟨.agg t, x⟩
        | none => none
      | none => none
    | _, _ => none
  | some z, some (.agg t), some (.array _ e) => match partsOf E parts, C.P.info? e with
    | some l, some i => match Instr.fill (fun j => some (j * i.size, i.size)) z.v.cells l with
      | some cs => match decs t cs.toList with
        | some x => some ⟨.agg t, x⟩
        | none => none
      | none => none
    | _, _ => none
  | _, _, _ => none
def calmPick (c a b : TV) : Option TV := match c, a, b with
  | ⟨.bool, p⟩, ⟨.bool, x⟩, ⟨.bool, y⟩ => some ⟨.bool, cond p x y⟩
  | _, _, _ => none
/-- Where the choice is known, the other one need not be. -/
def pick2 (p : TV) : Option TV → Option TV → Option TV
  | some x, some y => match calmPick p x y with
    | some r => some r
    | none => match p with
      | ⟨.bool, c⟩ => cond c (some x) (some y)
      | _ => none
  | some x, none => match p with
    | ⟨.bool, c⟩ => cond c (some x) none
    | _ => none
  | none, some y => match p with
    | ⟨.bool, c⟩ => cond c none (some y)
    | _ => none
  | none, none => none
def opd1 (E : Env) (x : Operand) (f : TV → Option TV) : Option TV := match opd E x with
  | some a => f a
  | none => none
/-- Is it no interface? -/
def concreteB (P : Program) (T : TypeId) : Bool := match P.underlying T with
  | some (.interface _) => false
  | none => false
  | _ => true
/-- What looks at no memory and can't go wrong. -/
def calm (C : Ctx) (E : Env) : Op → Option TV
  | .move x => opd E x
  | .assign x => opd E x
  | .pick c a b => opd1 E c fun p => pick2 p (opd E a) (opd E b)
  | .binOp op T x y _ => opd1 E x fun a => opd1 E y fun b => calmBin C op T x y a b
  | .unOp op _ x => opd1 E x fun a => calmUn op a
  | .convert s d x => opd1 E x fun a => calmConv C s d a
  | .extract x i => opd1 E x fun a => match a with
    | ⟨.tup t, y⟩ => nth t y i
    | _ => none
  | .field T x f => opd1 E x fun a => calmField C T f a
  | .fieldAddr T x f => opd1 E x fun a => match a with
    | ⟨.adr, p⟩ => calmFieldAddr C T f p
    | _ => none
  | .nilCheck x => opd1 E x fun a => match a with
    | ⟨.adr, p⟩ => some ⟨.adr, p⟩
    | _ => none
  | .makeFunc fn first captured => calmFunc E fn first captured
  | .call c => calmCall C E c
  | .build T parts => calmBuild C E T parts.toList
  | .makeInterface T x => opd1 E x fun a => bif concreteB C.P T then some ⟨.ifc T a.t, a.x⟩ else none
  | .typeAssert x _ T false => opd1 E x fun a => match a with
    | ⟨.ifc i t, y⟩ => bif Nat.beq i T && concreteB C.P T then some ⟨t, y⟩ else none
    | _ => none
  | _ => none

def cellsV : (t : Ty) → t.den → Option (List Value)
  | .val, v => bif single v then some [v] else none
  | .unit, _ => none
  | .pair _ _, _ => none
  | .tup _, _ => none
  | t, x => some (enc t true x)
def opM {ρ : Type} (E : Env) (x : Operand) (f : TV → M ρ) : M ρ := match opd E x with
  | some a => f a
  | none => fail
def adrM {ρ : Type} (a : TV) (f : Addr → M ρ) : M ρ := match a with
  | ⟨.adr, p⟩ => f p
  | ⟨.ptr, p⟩ => bnd (drf p) f
  | _ => fail
def optI : Option TV → Option (Option Int)
  | none => some none
  | some ⟨.int _, n⟩ => some (some n)
  | _ => none
def opO (E : Env) : Option Operand → Option (Option Int)
  | none => some none
  | some x => match opd E x with
    | some ⟨.int _, n⟩ => some (some n)
    | _ => none
def evSlice {ρ : Type} (C : Ctx) (T : TypeId) (a : TV) (lo hi mx : Option Int) (k : TV → M ρ) : M ρ := match C.P.underlying T, a with
  | some .string, ⟨.str, s⟩ => match mx with
    | none => bnd (slcS s lo hi) fun r => k ⟨.str, r⟩
    | some _ => fail
  | some (.slice e), ⟨.sl, s⟩ => match hi, mx with
    | none, some _ => fail
    | _, _ => match C.P.info? e with
      | some i => bnd (slc i.size s lo hi mx) fun r => k ⟨.sl, r⟩
      | none => fail
  | some (.array n e), a => match hi, mx with
    | none, some _ => fail
    | _, _ => match C.P.info? e with
      | some i => adrM a fun p => bnd (slcA n i.size p lo hi mx) fun r => k ⟨.sl, r⟩
      | none => fail
  | _, _ => fail
def evIndexAddr {ρ : Type} (C : Ctx) (T : TypeId) (a i : TV) (k : TV → M ρ) : M ρ := match C.P.underlying T, a, i with
  | some (.slice e), ⟨.sl, s⟩, ⟨.int _, n⟩ => match C.P.info? e with
    | some i => bnd (ix i.size s n) fun r => k ⟨.adr, r⟩
    | none => fail
  | some (.array l e), a, ⟨.int _, n⟩ => match C.P.info? e with
    | some i => adrM a fun p => bnd (ixA l i.size p n) fun r => k ⟨.adr, r⟩
    | none => fail
  | _, _, _ => fail
/-- One of a row of values. -/
def ixG (te : Ty) (l : List Value) (len : Nat) (n : Int) : M te.den := bif decide (0 ≤ n) && decide (n < (len : Int)) then match l[n.toNat]? with
    | some v => optM (dec1 te v)
    | none => fail
  else fail
def flat : Ty → Bool
  | .agg _ => false
  | .unit => false
  | .pair _ _ => false
  | .tup _ => false
  | _ => true
/-- A call of a function value. -/
def callV (C : Ctx) (tr : Ty) (v : Value) (l : List TV) : M tr.den := match v with
  | .func (.func f) first captured => bif first.isEmpty && captured.isEmpty then match C.fn f with
      | some fs => match castArgs fs.ts l with
        | some x => bnd (fs.F x) fun r => optM (castTo tr fs.tr r)
        | none => fail
      | none => match C.pf f with
        | some ps => match castArgs ps.ts l with
          | some x => optM (castTo tr ps.tr (ps.F x))
          | none => fail
        | none => fail
    else fail
  | _ => fail
def evBin {ρ : Type} (op : BinOp) (a b : TV) (k : TV → M ρ) : M ρ := match op, a, b with
  | .quo, ⟨.int i, n⟩, ⟨.int j, m⟩ => bif sameK i j then bnd (nz m) fun _ => k ⟨.int i, i.wrap (n.tdiv m)⟩ else fail
  | .rem, ⟨.int i, n⟩, ⟨.int j, m⟩ => bif sameK i j then bnd (nz m) fun _ => k ⟨.int i, n.tmod m⟩ else fail
  | .shl, ⟨.int i, n⟩, ⟨.int _, m⟩ => bnd (cnt m) fun c => k ⟨.int i, shlI i n c⟩
  | .shr, ⟨.int i, n⟩, ⟨.int _, m⟩ => bnd (cnt m) fun c => k ⟨.int i, shrI i n c⟩
  | _, _, _ => fail
/-- The first that takes such arguments. -/
def pickF (l : List TV) : List FnT → Option ((fs : FnT) × fs.ts.den)
  | [] => none
  | fs :: r => match castArgs fs.ts l with
    | some x => some ⟨fs, x⟩
    | none => pickF l r
def evFn {ρ : Type} (C : Ctx) (f : FuncId) (l : List TV) (k : TV → M ρ) : M ρ := match C.fn f with
  | some fs => match pickF l (fs :: C.alt f) with
    | some p => bnd (p.1.F p.2) fun r => k ⟨p.1.tr, r⟩
    | none => fail
  | none => fail
/-- What a function value holds, one by one. -/
def untup : (t : Ty) → t.den → List TV
  | .unit, _ => []
  | .pair a b, x => ⟨a, x.1⟩ :: untup b x.2
  | t, x => [⟨t, x⟩]
/-- A type's own method: the function, and whether it takes the pointer itself. -/
def methB (P : Program) (T : TypeId) (name : String) : Option (FuncId × Bool) := match P.info? T with
  | some i => match i.methods.find? (·.name == name) with
    | some m => bif m.path.isEmpty then m.func else none
    | none => none
  | none => none
/-- A call through an interface whose dynamic type is known. -/
def evInv {ρ : Type} (C : Ctx) (T : TypeId) (a : TV) (name : String) (l : List TV) (k : TV → M ρ) : M ρ := match methB C.P T name, C.P.underlying T, a with
  | some (f, true), some (.pointer _), a => evFn C f (a :: l) k
  | some (f, false), some (.pointer e), ⟨.ptr, x⟩ => match C.ty e with
    | some te => bnd (drf x) fun p => bnd (ld te p) fun v => evFn C f (⟨te, v⟩ :: l) k
    | none => fail
  | _, _, _ => fail
def evCall {ρ : Type} (C : Ctx) (E : Env) (c : Call) (T : TypeId) (k : TV → M ρ) : M ρ := match allOpd E c.args.toList with
  | some l => match c.callee with
    | .value f => match opd E f with
      | some ⟨.clo f t, x⟩ => evFn C f (l ++ untup t x) k
      | some ⟨.mth f t, x⟩ => evFn C f (untup t x ++ l) k
      | some ⟨.val, v⟩ => match C.ty T with
        | some tr => bnd (callV C tr v l) fun r => k ⟨tr, r⟩
        | none => fail
      | _ => fail
    | .invoke f name => match opd E f with
      | some ⟨.ifc i t, x⟩ => evInv C i ⟨t, x⟩ name l k
      | _ => fail
    | .builtin .append => match C.ty T with
      | some t => bnd (runV C.P t (Builtin.append_ c.argTypes T (l.map TV.v).toArray)) fun r => k ⟨t, r⟩
      | none => fail
    | .builtin .clear => bnd (runV C.P (.tup .unit) (Builtin.clear_ c.argTypes T (l.map TV.v).toArray)) fun r => k ⟨.tup .unit, r⟩
    | .builtin .copy => bnd (runV C.P (.int .i64) (Builtin.copy_ c.argTypes T (l.map TV.v).toArray)) fun r => k ⟨.int .i64, r⟩
    | _ => fail
  | none => fail
def softConv (P : Program) (s d : TypeId) : Bool := match P.underlying s, P.underlying d with
  | some (.int _), some (.int _) => true
  | _, _ => false
/-- A pointer, whichever way it is known. -/
def pOf : TV → Option (Option Addr)
  | ⟨.ptr, p⟩ => some p
  | ⟨.adr, a⟩ => some (some a)
  | _ => none
def isEq : BinOp → Bool
  | .eql => true
  | .neq => true
  | _ => false
/-- Does it hold two pointers against each other, neither of them nil by its text? -/
def ptrCmp (P : Program) (op : BinOp) (T : TypeId) (y : Operand) : Bool := bif isEq op then match P.underlying T with
  | some (.pointer _) => !nilPtr y
  | _ => false
  else false
def evM {ρ : Type} (C : Ctx) (E : Env) (o : Oper) (k : TV → M ρ) (skip : M ρ) : M ρ := match o.op with
  | .alloc T => match C.zero T with
    | some z => match cellsV z.t z.x with
      | some l => bnd (newC T l) fun a => k ⟨.adr, a⟩
      | none => fail
    | none => fail
  | .box T x => opM E x fun a => match cellsV a.t a.x with
    | some l => bnd (newC T l) fun a => k ⟨.adr, a⟩
    | none => fail
  | .load T x => opM E x fun a => match C.ty T with
    | some t => adrM a fun p => bnd (ld t p) fun r => k ⟨t, r⟩
    | none => fail
  | .store T x y => opM E x fun a => opM E y fun b => match C.ty T, cellsV b.t b.x with
    | some t, some l => bif l.length == t.size then adrM a fun p => bnd (wrs p 0 l) fun _ => skip else fail
    | _, _ => fail
  | .nilCheck x => opM E x fun a => match a with
    | ⟨.ptr, p⟩ => bnd (drf p) fun q => k ⟨.adr, q⟩
    | _ => fail
  | .fieldAddr T x f => opM E x fun a => match a with
    | ⟨.ptr, p⟩ => bnd (drf p) fun q => match calmFieldAddr C T f q with
      | some r => k r
      | none => fail
    | _ => fail
  | .indexAddr T x i => opM E x fun a => opM E i fun n => evIndexAddr C T a n k
  | .index T x i => opM E x fun a => opM E i fun n => match C.P.underlying T, a, n with
    | some .string, ⟨.str, s⟩, ⟨.int _, n⟩ => bnd (ixS s n) fun r => k ⟨.int .u8, r⟩
    | some (.array len e), ⟨.agg t, x⟩, ⟨.int _, n⟩ => match C.ty e with
      | some te => bif flat te then bnd (ixG te (enc t true x) len n) fun r => k ⟨te, r⟩ else fail
      | none => fail
    | _, _, _ => fail
  | .slice T x lo hi mx => opM E x fun a => match opO E lo, opO E hi, opO E mx with
    | some l, some h, some m => evSlice C T a l h m k
    | _, _, _ => fail
  | .binOp op T x y _ => opM E x fun a => opM E y fun b => bif ptrCmp C.P op T y then match pOf a, pOf b with
    | some p, some q => bnd (runV C.P .bool (binOp op T (.pointer p) (.pointer q))) fun v => k ⟨.bool, v⟩
    | _, _ => fail
    else evBin op a b k
  | .convert s d x => opM E x fun a => bif softConv C.P s d then fail else match C.ty d with
    | some t => bnd (runV C.P t (convert s d a.v)) fun r => k ⟨t, r⟩
    | none => fail
  | .makeSlice T l c => opM E l fun a => opM E c fun b => bnd (runV C.P .sl (Instr.makeSlice T a.v b.v)) fun r => k ⟨.sl, r⟩
  | .buildSlice T n parts => match partsOf E parts.toList with
    | some l => bnd (runV C.P .sl (Instr.buildSlice T n l.toArray)) fun r => k ⟨.sl, r⟩
    | none => fail
  | .call c => evCall C E c o.type k
  | _ => fail
def evOp {ρ : Type} (C : Ctx) (N : Nat) (E : Env) (o : Oper) (k : Env → M ρ) : M ρ := match calm C E o.op with
  | some tv => setD N E o.dst tv k
  | none => evM C E o (fun tv => setD N E o.dst tv k) (match o.dst with
    | none => k E
    | some _ => fail)

/-! ### Guards -/
def slotOf (ops : Array Oper) (j : Nat) : Option Tmp := (ops[j]?).bind (·.dst)
def isPick (d : Tmp) : Op → Option (Operand × Operand)
  | .pick (.tmp t) x y => bif Nat.beq t d then some (x, y) else none
  | _ => none
/-- What stands ahead of the pick that asks slot d, that pick, what stands behind it. -/
def splitPick (d : Tmp) : List Oper → Option (List Oper × (Oper × Operand × Operand) × List Oper)
  | [] => none
  | o :: l => match isPick d o.op with
    | some p => some ([], (o, p), l)
    | none => match splitPick d l with
      | some (c, p, r) => some (o :: c, p, r)
      | none => none
def hasNat (i : Nat) : List Nat → Bool
  | [] => false
  | j :: l => Nat.beq i j || hasNat i l
/-- Each falls where guard j does not say 'want'; none writes slot d. -/
def falls (ops : Array Oper) (j : Nat) (want : Bool) (d : Tmp) : List Nat → List Oper → Bool
  | _, [] => true
  | dead, o :: l => (match o.guard with
      | some (g, v) => (Nat.beq g j && v == want) || (match slotOf ops g with
        | some s => hasNat s dead
        | none => false)
      | none => false) && (match o.dst with
      | some s => !Nat.beq s d && falls ops j want d (s :: dead) l
      | none => falls ops j want d dead l)
def forget (E : Env) : List Oper → Env
  | [] => E
  | o :: l => match o.dst with
    | some d => forget (E.set d none) l
    | none => forget E l
def hasG (j : Nat) (v : Bool) : List (Nat × Bool) → Bool
  | [] => false
  | (i, u) :: l => (Nat.beq i j && u == v) || hasG j v l
/-- The guard is one that is known to hold. -/
def held (ops : Array Oper) (hs : List (Nat × Bool)) (E : Env) : Option (Nat × Bool) → Bool
  | none => true
  | some (j, v) => match slotOf ops j with
    | some d => match E.get d with
      | some ⟨.bool, b⟩ => hasG j v hs && b == v
      | _ => false
    | none => false
/-- Operations from one on that hang on a guard that is not known: the slot, what it holds, what it must hold, the operations, the pick behind them, what it picks then, what else, the rest. -/
structure Chunk where
  d : Tmp
  j : Nat
  b : Bool
  want : Bool
  ops : List Oper
  pick : Oper
  x : Operand
  y : Operand
  after : List Oper
def chunkAt (ops : Array Oper) (hs : List (Nat × Bool)) (E : Env) (l : List Oper) (g : Option (Nat × Bool)) : Option Chunk := match g with
  | none => none
  | some (j, want) => match slotOf ops j with
    | none => none
    | some d => match E.get d with
      | some ⟨.bool, b⟩ => match splitPick d l with
        | some (c, (p, x, y), after) => bif falls ops j want d [] c && held ops hs (forget E c) p.guard then some ⟨d, j, b, want, c, p, cond want x y, cond want y x, after⟩ else none
        | none => none
      | _ => none
def putD (N : Nat) (E : Env) (dst : Option Tmp) (tv : TV) : Option Env := match dst with
  | none => some E
  | some d => bif Nat.blt d N then some (E.set d (some tv)) else none
def asB : Option TV → Option Bool
  | some ⟨.bool, b⟩ => some b
  | _ => none
/-- All calm. -/
def calmOps (C : Ctx) (N : Nat) (ops : Array Oper) : Nat → List (Nat × Bool) → List Oper → Env → Option Env
  | _, _, [], E => some E
  | 0, _, _ :: _, _ => none
  | n + 1, hs, o :: l, E => bif held ops hs E o.guard then match calm C E o.op with
      | some tv => match putD N E o.dst tv with
        | some E' => calmOps C N ops n hs l E'
        | none => none
      | none => none
    else match chunkAt ops hs E (o :: l) o.guard with
      | some c => match calmOps C N ops n ((c.j, c.want) :: hs) c.ops (E.set c.d (some ⟨.bool, c.want⟩)) with
        | some E2 => match asB (opd E2 c.x), asB (opd (forget E c.ops) c.y) with
          | some u, some v => match putD N (forget E c.ops) c.pick.dst ⟨.bool, cond c.want (cond c.b u v) (cond c.b v u)⟩ with
            | some E' => calmOps C N ops n hs c.after E'
            | none => none
          | _, _ => none
        | none => none
      | none => none
/-- Operations of a region, in the text's order. -/
def evOps (C : Ctx) (N : Nat) (ops : Array Oper) : Nat → {ρ : Type} → List (Nat × Bool) → List Oper → Env → (Env → M ρ) → M ρ
  | _, _, _, [], E, k => k E
  | 0, _, _, _ :: _, _, _ => fail
  | n + 1, _, hs, o :: l, E, k => bif held ops hs E o.guard then evOp C N E o fun E' => evOps C N ops n hs l E' k
    else match chunkAt ops hs E (o :: l) o.guard with
      | some c => match asB (opd (forget E c.ops) c.y) with
        | some v =>
          match calmOps C N ops n ((c.j, c.want) :: hs) c.ops (E.set c.d (some ⟨.bool, c.want⟩)) with
          | some E2 => match asB (opd E2 c.x) with
            | some u => setD N (forget E c.ops) c.pick.dst ⟨.bool, cond c.want (cond c.b u v) (cond c.b v u)⟩ fun E' => evOps C N ops n hs c.after E' k
            | none => fail
          | none =>
            let m : M Bool := evOps C N ops n ((c.j, c.want) :: hs) c.ops (E.set c.d (some ⟨.bool, c.want⟩)) fun E2 => optM (asB (opd E2 c.x))
            bnd (cond c.want (cnd c.b m (ret v)) (cnd c.b (ret v) m)) fun r => setD N (forget E c.ops) c.pick.dst ⟨.bool, r⟩ fun E' => evOps C N ops n hs c.after E' k
        | none => fail
      | none => fail

/-! ### Regions that draw their order -/
def drawM : M Unit := fun w => some ((), w.drew)
/-- A load that may come later: nobody has turned what it read. -/
noncomputable def chk (t : Ty) (p : Addr) (x : t.den) : M Unit := fun w => by
  classical exact if ld t p w = some (x, w) then some ((), w) else none
structure Fl where
  m : Nat
  t : Ty
  p : Addr
  x : t.den
noncomputable def chks (m : Nat) : List Fl → M Unit
  | [] => ret ()
  | f :: l => bif Nat.ble m f.m then bnd (chk f.t f.p f.x) fun _ => chks m l else chks m l
/-- A call that only reckons. -/
def softCall (c : Call) : Bool := match c.callee with
  | .builtin .len => true
  | .builtin .cap => true
  | .builtin .max => true
  | .builtin .min => true
  | _ => false
/-- What calls, stores or makes memory. -/
def loud (P : Program) : Op → Bool
  | .alloc _ => true
  | .box _ _ => true
  | .store _ _ _ => true
  | .call c => !softCall c
  | .convert s d _ => !softConv P s d
  | .binOp op T _ y _ => ptrCmp P op T y
  | .makeSlice _ _ _ => true
  | .buildSlice _ _ _ => true
  | .defer _ => true
  | _ => false
def loudAt (P : Program) (ops : Array Oper) (i : Nat) : Bool := match ops[i]? with
  | some o => loud P o.op
  | none => false
/-- How many loud ones have come up. -/
def cntW (P : Program) (ops : Array Oper) (listed : Array Bool) : Nat := (List.range ops.size).countP fun j => listed.getD j false && loudAt P ops j
def grow (ops : Array Oper) (i : Nat) (listed : Array Bool) : Array Bool :=
  (Region.ready .any ops listed).foldl (fun l j => bif Nat.beq j i then l else l.setIfInBounds j true) listed
/-- All that may come up ahead of number i. -/
def growN (ops : Array Oper) (i : Nat) : Nat → Array Bool → Array Bool
  | 0, l => l
  | n + 1, l => growN ops i n (grow ops i l)
def upTo (ops : Array Oper) (i : Nat) (listed : Array Bool) : Array Bool := growN ops i ops.size listed
/-- That it is so. -/
def upToOk (ops : Array Oper) (i : Nat) (listed cl : Array Bool) : Bool :=
  Nat.beq cl.size ops.size && (Region.ready .any ops cl).all (fun j => Nat.beq j i) && (List.range ops.size).all fun j => !listed.getD j false || cl.getD j false
def isOnly (i : Nat) : List Nat → Bool
  | [j] => Nat.beq j i
  | _ => false
/-- What comes next: an operation; or the two ways of a truth that lies in a slot. -/
inductive DI where
  | o (i : Nat)
  | s (d : Tmp)
def louds (P : Program) (ops : Array Oper) : List DI → Nat
  | [] => 0
  | .o i :: l => cond (loudAt P ops i) (louds P ops l + 1) (louds P ops l)
  | .s _ :: l => louds P ops l
def lenD : List DI → Nat
  | [] => 0
  | .o _ :: l => lenD l + 1
  | .s _ :: l => lenD l
/-- Is it wanted, if that is known? -/
def wantedE (ops : Array Oper) (E : Env) : Option (Nat × Bool) → Option Bool
  | none => some true
  | some (j, v) => match slotOf ops j with
    | some d => match E.get d with
      | some ⟨.bool, b⟩ => some (b == v)
      | some ⟨.tup .unit, _⟩ => some false
      | _ => none
    | none => none
def dropD (N : Nat) (E : Env) : Option Tmp → Option Env
  | none => some E
  | some d => bif Nat.blt d N then some (E.set d (some ⟨.tup .unit, ()⟩)) else none
/-- In an order in which what only reads comes as early as it may. -/
noncomputable def evDraw {ρ : Type} (C : Ctx) (N : Nat) (ops : Array Oper) : List DI → Array Bool → List Fl → Env → (Env → M ρ) → M ρ
  | [], listed, _, E, k => bif (Region.ready .any ops listed).isEmpty then k E else fail
  | .s d :: rest, listed, fl, E, k => match E.get d with
    | some ⟨.bool, b⟩ => cnd b (evDraw C N ops rest listed fl (E.set d (some ⟨.bool, true⟩)) k) (evDraw C N ops rest listed fl (E.set d (some ⟨.bool, false⟩)) k)
    | _ => fail
  | .o i :: rest, listed, fl, E, k => match ops[i]? with
    | none => fail
    | some o => match wantedE ops E o.guard with
      | none => fail
      | some false => match dropD N E o.dst with
        | none => fail
        | some E' => bif loud C.P o.op then
            bif isOnly i (Region.ready .any ops listed) then
              bnd (chks (cntW C.P ops listed + 1) fl) fun _ => evDraw C N ops rest (listed.setIfInBounds i true) fl E' k
            else fail
          else bif (Region.ready .any ops listed).contains i && Region.free .any ops listed i then evDraw C N ops rest (listed.setIfInBounds i true) fl E' k
          else fail
      | some true => bif loud C.P o.op then
          bif isOnly i (Region.ready .any ops listed) then
            evOp C N E o fun E' => bnd (chks (cntW C.P ops listed + 1) fl) fun _ => evDraw C N ops rest (listed.setIfInBounds i true) fl E' k
          else fail
        else bif (Region.ready .any ops listed).contains i && Region.free .any ops listed i then match o.op with
          | .load T x => bif upToOk ops i listed (upTo ops i listed) && Nat.ble (cntW C.P ops (upTo ops i listed)) (cntW C.P ops listed + louds C.P ops rest) then
              opM E x fun a => match C.ty T with
                | some t => adrM a fun p => bnd (ld t p) fun r => setD N E o.dst ⟨t, r⟩ fun E' =>
                    evDraw C N ops rest (listed.setIfInBounds i true) (⟨cntW C.P ops (upTo ops i listed), t, p, r⟩ :: fl) E' k
                | none => fail
            else fail
          | _ => evOp C N E o fun E' => evDraw C N ops rest (listed.setIfInBounds i true) fl E' k
        else fail

/-! ### A region that draws, along the very order that is drawn -/
/-- What comes next: an operation; the two ways of a truth that lies in a slot; one of two loud ones. -/
inductive DT where
  | done
  | o (i : Nat) (t : DT)
  | s (d : Tmp) (t f : DT)
  | f (i j : Nat) (t u : DT)
/-- In an order: does one come ahead of another? -/
def bef : List Nat → Nat → Nat → Bool
  | [], _, _ => false
  | h :: l, i, j => bif Nat.beq h i then true else bif Nat.beq h j then false else bef l i j
/-- Must it come behind that one? -/
def reqs (o : Oper) (k : Nat) : Bool := o.after.any fun e => Region.binds .any e && Nat.beq e.on k
/-- For each operation, as bits: those it must come behind; those that it does not mind ahead of it. -/
def nthT : List (Nat × Nat) → Nat → Nat × Nat
  | [], _ => (0, 0)
  | x :: _, 0 => x
  | _ :: l, n + 1 => nthT l n
def tabB (ops : Array Oper) (tab : List (Nat × Nat)) : Bool := (List.range ops.size).all fun i => match ops[i]? with
  | none => false
  | some oi => oi.after.all (fun e => Nat.blt e.on ops.size) && (List.range ops.size).all fun j => match ops[j]? with
    | none => false
    | some oj => ((nthT tab i).1.testBit j == reqs oi j) && (!(nthT tab i).2.testBit j || reqs oj i || oi.apart ops oj)
def del (rm i : Nat) : Nat := rm ^^^ 2 ^ i
def quietOk (tab : List (Nat × Nat)) (rm i : Nat) : Bool := rm.testBit i && Nat.beq ((nthT tab i).1 &&& rm) 0 && Nat.beq (((nthT tab i).2 ||| 2 ^ i) &&& rm) rm
def loudOk (n : Nat) (tab : List (Nat × Nat)) (rm i j : Nat) : Bool := rm.testBit i && Nat.beq ((nthT tab i).1 &&& rm) 0 &&
  (List.range n).all fun k => Nat.beq k i || Nat.beq k j || !rm.testBit k || !Nat.beq ((nthT tab k).1 &&& rm) 0
structure FlO where
  i : Nat
  t : Ty
  p : Addr
  x : t.den
noncomputable def chkO : List FlO → M Unit
  | [] => ret ()
  | f :: l => bnd (chk f.t f.p f.x) fun _ => chkO l
def keepO (tab : List (Nat × Nat)) (i : Nat) : List FlO → List FlO
  | [] => []
  | f :: l => bif (nthT tab i).1.testBit f.i then keepO tab i l else f :: keepO tab i l
noncomputable def loudO {ρ : Type} (C : Ctx) (N : Nat) (ops : Array Oper) (tab : List (Nat × Nat)) (i : Nat) (fl : List FlO) (E : Env) (k : Env → M ρ) : M ρ := match ops[i]? with
  | none => fail
  | some o => bif loud C.P o.op then match wantedE ops E o.guard with
      | none => fail
      | some false => match dropD N E o.dst with
        | none => fail
        | some E' => bnd (chkO (keepO tab i fl)) fun _ => k E'
      | some true => evOp C N E o fun E' => bnd (chkO (keepO tab i fl)) fun _ => k E'
    else fail
noncomputable def evDrawO {ρ : Type} (C : Ctx) (N : Nat) (ops : Array Oper) (tab : List (Nat × Nat)) : DT → Nat → List FlO → Env → List Nat → (Env → M ρ) → M ρ
  | .done, rm, _, E, _, k => bif Nat.beq rm 0 then k E else fail
  | .s d t f, rm, fl, E, o, k => match E.get d with
    | some ⟨.bool, b⟩ => cnd b (evDrawO C N ops tab t rm fl (E.set d (some ⟨.bool, true⟩)) o k) (evDrawO C N ops tab f rm fl (E.set d (some ⟨.bool, false⟩)) o k)
    | _ => fail
  | .f i j t u, rm, fl, E, o, k => bif loudOk ops.size tab rm i j && loudOk ops.size tab rm j i then
      cnd (bef o i j) (loudO C N ops tab i fl E fun E' => evDrawO C N ops tab t (del rm i) (keepO tab i fl) E' o k)
        (loudO C N ops tab j fl E fun E' => evDrawO C N ops tab u (del rm j) (keepO tab j fl) E' o k)
    else fail
  | .o i t, rm, fl, E, o, k => match ops[i]? with
    | none => fail
    | some op => bif loud C.P op.op then
        bif loudOk ops.size tab rm i i then loudO C N ops tab i fl E fun E' => evDrawO C N ops tab t (del rm i) (keepO tab i fl) E' o k else fail
      else bif quietOk tab rm i then match wantedE ops E op.guard with
        | none => fail
        | some false => match dropD N E op.dst with
          | none => fail
          | some E' => evDrawO C N ops tab t (del rm i) fl E' o k
        | some true => match op.op with
          | .load T x => opM E x fun a => match C.ty T with
            | some ty => adrM a fun p => bnd (ld ty p) fun r => setD N E op.dst ⟨ty, r⟩ fun E' => evDrawO C N ops tab t (del rm i) (⟨i, ty, p, r⟩ :: fl) E' o k
            | none => fail
          | _ => evOp C N E op fun E' => evDrawO C N ops tab t (del rm i) fl E' o k
      else fail
/-- The order that is drawn. -/
def ordM (f : FuncId) (id : Nat) (ops : Array Oper) : M (List Nat) := fun w => some (Region.schedule true ops (w.tape w.drawn (.order f id)), w.drew)
/-- A region of a text. -/
def regionOf (id : Nat) : Code → Option (Array Oper)
  | .seq x y => match regionOf id x with
    | some o => some o
    | none => regionOf id y
  | .cond _ x y => match regionOf id x with
    | some o => some o
    | none => regionOf id y
  | .block _ x => regionOf id x
  | .loop x => regionOf id x
  | .region k ops _ => bif Nat.beq k id then some ops else none
  | _ => none
def regionIn (id : Nat) (f : Func) : Array Oper := match f.body with
  | some c => (regionOf id c).getD #[]
  | none => #[]

/-- The range over a function of a text. -/
def rgOf : Code → Option (Array Tmp × Code × Code)
  | .rangeFunc _ ps a b => some (ps, a, b)
  | .seq x y => match rgOf x with
    | some o => some o
    | none => rgOf y
  | .cond _ x y => match rgOf x with
    | some o => some o
    | none => rgOf y
  | .block _ x => rgOf x
  | .loop x => rgOf x
  | _ => none
def rgIn (f : Func) : Array Tmp × Code × Code := match f.body with
  | some c => (rgOf c).getD (#[], .skip, .skip)
  | none => (#[], .skip, .skip)

/-! ### Code -/
/-- How a text is to be read: beside its tree, where ways meet (which slots are kept, of which types; which are forgotten; may it be left otherwise?), what a loop turns. -/
inductive Ann where
  | nil
  | draw (perm : List DI)
  | ord (f : FuncId) (tab : List (Nat × Nat)) (t : DT)
  | one (a : Ann)
  | two (a b : Ann)
  | join (L : List (Nat × Ty)) (W : List Nat) (out : Bool) (a : Ann)
  | loop (L : List (Nat × Ty)) (W : List Nat) (a : Ann)
  | dfr
  | yld (k : Nat)
  | rng (f : FuncId) (a b : Ann)
def tyOf : List (Nat × Ty) → Ty
  | [] => .unit
  | [(_, t)] => t
  | (_, t) :: r => .pair t (tyOf r)
/-- What lies in the slots of a list, if all that was written since the mark is on it or is forgotten. -/
def grab : (L : List (Nat × Ty)) → Env → Option (tyOf L).den
  | [], _ => some ()
  | [(i, t)], E => match E.get i with
    | some tv => castTo t tv.t tv.x
    | none => none
  | (i, t) :: p :: r, E => match E.get i with
    | some tv => match castTo t tv.t tv.x with
      | some y => match grab (p :: r) E with
        | some z => some (y, z)
        | none => none
      | none => none
    | none => none
def onList (L : List (Nat × Ty)) (i : Nat) : Bool := match L with
  | [] => false
  | (j, _) :: r => Nat.beq i j || onList r i
def within (L : List (Nat × Ty)) (W : List Nat) : List (Nat × Option TV) → Bool
  | [] => true
  | (i, _) :: r => (onList L i || hasNat i W) && within L W r
def grabAll (L : List (Nat × Ty)) (W : List Nat) (E : Env) : Option (tyOf L).den := bif within L W E.dl && E.dfs.isEmpty then grab L E else none
def lay : (L : List (Nat × Ty)) → (tyOf L).den → List (Nat × Option TV) → List (Nat × Option TV)
  | [], _, r => r
  | [(i, t)], x, r => (i, some ⟨t, x⟩) :: r
  | (i, t) :: p :: l, x, r => (i, some ⟨t, x.1⟩) :: lay (p :: l) x.2 r
def layW : List Nat → List (Nat × Option TV) → List (Nat × Option TV)
  | [], r => r
  | i :: l, r => (i, none) :: layW l r
def layAll (L : List (Nat × Ty)) (W : List Nat) (E : Env) (x : (tyOf L).den) : Env := { E with dl := lay L x (layW W E.dl) }

/-- What is known behind a mark, as of ahead of it. -/
def outer (E E' : Env) : Env := { base := E.base, dl := E'.dl ++ E.dl, dfs := E'.dfs ++ E.dfs }

/-! ### A range over a function -/
def semM {α : Type} (P : Program) (s : Sem α) : M α := fun w => match s.run P w with
  | .ok v w' => some (v, w')
  | .halt _ _ => none
/-- A loop's record is laid; where the block for later calls lies. -/
def enterM (f : FuncId) (tm : List Value) (ps : Array Tmp) (assign body : Code) : M Nat := fun w =>
  some (w.heap.size, (w.alloc (.deferred (some []))).alloc (.loop { state := .ready, pending := none, fn := f, tmps := tm.toArray, params := ps, assign, body, defers := w.heap.size }))
open Classical in
/-- The loop's record is there. -/
noncomputable def recM (f : FuncId) (tm : List Value) (ps : Array Tmp) (assign body : Code) (D : Nat) : M Unit := fun w =>
  if ∃ st pe, w.heap[D + 1]? = some (.loop { state := st, pending := pe, fn := f, tmps := tm.toArray, params := ps, assign, body, defers := D }) then some ((), w) else none
def beginM (P : Program) (l : Nat) : M Unit := semM P (Instr.beginRound l)
def endM (P : Program) (l : Nat) (j : Option Code) : M Bool := runV P .bool (Instr.endRound l j)
def leaveM (P : Program) (l : Nat) : M (Option Code) := semM P (Instr.endLoop l)
/-- The mark's later calls are taken: there are none. -/
def takeM (P : Program) (D : Nat) : M Unit := bnd (semM P (Instr.takeDeferred D)) fun
  | [] => ret ()
  | _ => fail
/-- All slots, if they are known. -/
def tmFrom (E : Env) : Nat → Nat → Option (List Value)
  | _, 0 => some []
  | i, n + 1 => match E.get i with
    | some tv => match tmFrom E (i + 1) n with
      | some l => some (tv.v :: l)
      | none => none
    | none => none
def zipPs : List Tmp → List TV → List (Nat × Option TV) → List (Nat × Option TV)
  | t :: ts, tv :: tvs, l => zipPs ts tvs ((t, some tv) :: l)
  | _, _, l => l
/-- What is known in a round. -/
def roundE (E : Env) (ps : Array Tmp) (tvs : List TV) : Env := { base := (E.get, []), dl := zipPs ps.toList tvs [], dfs := [] }
def psOk (N : Nat) (ps : Array Tmp) (tvs : List TV) : Bool := Nat.beq ps.size tvs.length && ps.toList.all (fun t => Nat.blt t N)
def noDefer (ops : Array Oper) : Bool := ops.toList.all fun o => match o.op with
  | .defer _ => false
  | _ => true
/-- A round's text is plain: no order is drawn, no call is put off. -/
def plainC : Code → Bool
  | .seq x y => plainC x && plainC y
  | .cond _ x y => plainC x && plainC y
  | .block _ x => plainC x
  | .region _ ops draw => !draw && noDefer ops
  | .skip => true
  | .ret => true
  | .exit _ => true
  | _ => false
def Ann.flat : Ann → Bool
  | .nil => true
  | .one a => a.flat
  | .two a b => a.flat && b.flat
  | _ => false
noncomputable def ev (C : Ctx) (N : Nat) : Ann → {ρ : Type} → Code → Env → (Exit → Env → M ρ) → M ρ
  | .join L W false a, _, c, E, K => bnd (ev C N a c E.mark fun e E' => match e with
      | .normal => optM (grabAll L W E')
      | _ => fail) fun s => K .normal (layAll L W E s)
  | .join L W true a, ρ, c, E, K => bnd (ev C N a (ρ := (tyOf L).den ⊕ ρ) c E.mark fun e E' => match e with
      | .normal => bnd (optM (grabAll L W E')) fun s => ret (.inl s)
      | e => bnd (K e (outer E E')) fun r => ret (.inr r)) fun
    | .inl s => K .normal (layAll L W E s)
    | .inr r => ret r
  | .loop L W a, ρ, c, E, K => match c with
    | .loop c => match grabAll L W E.mark with
      | some s0 => loopM (fun s => ev C N a (ρ := (tyOf L).den ⊕ ρ) c (layAll L W E s).mark fun e E' => match e with
          | .normal => bnd (optM (grabAll L W E')) fun s => ret (.inl s)
          | e => bnd (K e (outer (layAll L W E s) E')) fun r => ret (.inr r)) s0
      | none => fail
    | _ => fail
  | .one a, _, c, E, K => match c with
    | .block id c => ev C N a c E fun e E' => match e with
      | .exit i => bif Nat.beq i id then K .normal E' else K e E'
      | e => K e E'
    | _ => fail
  | .two a b, _, c, E, K => match c with
    | .seq x y => ev C N a x E fun e E' => match e with
      | .normal => ev C N b y E' K
      | e => K e E'
    | .cond i x y => match asB (opd E i) with
      | some t => cnd t (ev C N a x E K) (ev C N b y E K)
      | none => fail
    | _ => fail
  | .nil, _, c, E, K => match c with
    | .skip => K .normal E
    | .ret => K .ret E
    | .exit id => K (.exit id) E
    | .region _ ops draw => bif draw then
        bif Region.lexB .any ops && ops.toList.all (fun o => !loud C.P o.op) then
          bnd drawM fun _ => evOps C N ops (ops.size + 1) [] ops.toList E fun E' => K .normal E'
        else fail
      else evOps C N ops (ops.size + 1) [] ops.toList E fun E' => K .normal E'
    | _ => fail
  | .draw perm, _, c, E, K => match c with
    | .region _ ops true => bif Nat.beq (lenD perm) ops.size && Region.noSelect ops then
        bnd drawM fun _ => evDraw C N ops perm (Array.replicate ops.size false) [] E fun E' => K .normal E'
      else fail
    | _ => fail
  | .dfr, _, c, E, K => match c with
    | .region _ ops false => evOps C N ops (ops.size + 1) [] ops.toList.dropLast E fun E1 => match ops.toList.getLast? with
      | some o => match o.op, o.guard, o.dst with
        | .defer c, none, none => match c.callee with
          | .value f => match opd E1 f, allOpd E1 c.args.toList with
            | some ⟨.clo f .unit, _⟩, some tvs => K .normal { E1 with dfs := .call f tvs :: E1.dfs }
            | _, _ => fail
          | _ => fail
        | _, _, _ => fail
      | none => fail
    | _ => fail
  | .yld k, _, c, E, K => match c with
    | .region _ ops false => evOps C N ops (ops.size + 1) [] (ops.toList.take k) E fun E1 => match ops.toList.drop k with
      | o :: rest => match o.op, o.guard with
        | .call c, none => match c.callee with
          | .value f => match opd E1 f, allOpd E1 c.args.toList, C.yl with
            | some ⟨.yld, l⟩, some tvs, some ys => match castArgs ys.ta tvs with
              | some y => bnd (ys.F l y) fun b => setD N E1 o.dst ⟨.bool, b⟩ fun E2 => evOps C N ops (ops.size + 1) [] rest E2 fun E3 => K .normal E3
              | none => fail
            | _, _, _ => fail
          | _ => fail
        | _, _ => fail
      | [] => fail
    | _ => fail
  | .rng me a b, _, c, E, K => match c with
    | .rangeFunc g ps assign body => bif a.flat && b.flat && plainC assign && plainC body then match tmFrom E 0 N, opd E g with
      | some tm, some ⟨.mth gf t, x⟩ => match C.rf gf with
        | some rs => match castArgs rs.ts (untup t x) with
          | some y => bnd (enterM me tm ps assign body) fun D =>
            bnd (rs.F (fun z => bif psOk N ps (untup rs.ta z) && (untup rs.ta z).all (fun tv => tv.t.one) then bnd (recM me tm ps assign body D) fun _ => ev C N a assign (roundE E ps (untup rs.ta z)) (fun e E1 => match e with
              | .normal => bnd (beginM C.P (D + 1)) fun _ => ev C N b body E1 fun e _ => match e with
                | .normal => endM C.P (D + 1) none
                | .ret => endM C.P (D + 1) (some .ret)
                | .exit i => endM C.P (D + 1) (some (.exit i))
                | _ => fail
              | _ => fail) else fail) y) fun _ =>
            bnd (leaveM C.P (D + 1)) fun j => match j with
              | none => K .normal { E with dfs := .coll D :: E.dfs }
              | some .ret => K .ret { E with dfs := .coll D :: E.dfs }
              | some (.exit i) => K (.exit i) { E with dfs := .coll D :: E.dfs }
              | some _ => fail
          | none => fail
        | none => fail
      | _, _ => fail
    else fail
    | _ => fail
  | .ord f tab t, _, c, E, K => match c with
    | .region id ops true => bif tabB ops tab && Region.noSelect ops then
        bnd (ordM f id ops) fun o => evDrawO C N ops tab t (2 ^ ops.size - 1) [] E o fun E' => K .normal E'
      else fail
    | _ => fail
/-- Every order of a text is that function's. -/
def Ann.own (me : FuncId) : Ann → Bool
  | .ord f _ _ => Nat.beq f me
  | .one a => a.own me
  | .two a b => a.own me && b.own me
  | .join _ _ _ a => a.own me
  | .loop _ _ a => a.own me
  | .rng f _ _ => Nat.beq f me
  | _ => true
end Go.Sh
