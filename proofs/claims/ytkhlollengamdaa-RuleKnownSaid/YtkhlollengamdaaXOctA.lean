/- A step of the road to this law: a generator of conditions over the model of the code, or a lemma on rows in the heap. No conditions. -/
import Derived.WalkKit
import Derived.Scope
import Derived.KernelRfl
/-
  A generator of conditions: vc walks a function's code over a frame of known slots and a heap, and leaves a
  proposition in which loads, stores, new blocks, calls and loops stand, and nothing else.
-/
namespace Go.Oct

abbrev H := Array Obj
abbrev Env := List (Nat × Value)

def getE : Env → Nat → Option Value
  | [], _ => none
  | p :: r, i => match Nat.beq i p.1 with
    | true => some p.2
    | false => getE r i

def valE (env : Env) : Operand → Option Value
  | .tmp t => getE env t
  | .const v => some v
  | .global _ => none
  | .func f => some (.func (.func f) #[] #[])

def valsE (env : Env) : List Operand → Option (List Value)
  | [] => some []
  | o :: r => match valE env o, valsE env r with
    | some v, some vs => some (v :: vs)
    | _, _ => none

def putE (env : Env) : Option Tmp → Value → Env
  | some d, v => (d, v) :: env
  | none, _ => env

/-! ### the heap -/
def cellH (h : H) (a : Addr) : Option Value :=
  match h[a.block]? with
  | some (.cells c _ _) => if a.spot.isSome then none else c[a.off]?
  | _ => none
def frozenH (h : H) (a : Addr) : Bool :=
  match h[a.block]? with
  | some (.cells _ _ (lo, hi)) => lo ≤ a.off && a.off < hi
  | _ => false
def setH (h : H) (a : Addr) (v : Value) : H :=
  h.modify a.block fun
    | .cells c elem frozen => .cells (if a.spot.isSome then c else c.setIfInBounds a.off v) elem frozen
    | o => o
def setsH (h : H) (a : Addr) : List Value → Nat → H
  | [], _ => h
  | v :: r, i => setsH (setH h (a.add i) v) a r (i + 1)

/-- The world beside the heap and the count of draws stays. -/
structure Same (w w' : World) : Prop where
  tape : w'.tape = w.tape
  os : w'.os = w.os
  output : w'.output = w.output
theorem Same.refl (w : World) : Same w w := ⟨rfl, rfl, rfl⟩
theorem Same.trans {a b c : World} (h : Same a b) (k : Same b c) : Same a c := ⟨k.1.trans h.1, k.2.trans h.2, k.3.trans h.3⟩

/-- A call from any world with this heap comes back with a value and a heap. -/
def CallsH (P : Program) (f : FuncId) (args : Array Value) (h : H) (R : Value → H → Prop) : Prop :=
  ∀ w : World, w.heap = h → Calls P f args w fun e w' => Same w w' ∧ ∃ v, e = .returned v ∧ R v w'.heap
def okFn (P : Program) (f : FuncId) : Bool :=
  match P.funcs[f]? with
  | some fn => fn.body.isSome && !(fn.name == "runtime.NumGoroutine")
  | none => false

/-! ### the words that stay -/
def ifB (b : Bool) (A B : Prop) : Prop := match b with
  | true => A
  | false => B
def asI (κ : IntKind) (v : Value) (k : Int → Prop) : Prop := ∃ x, v = .int κ x ∧ k x
def asB (v : Value) (k : Bool → Prop) : Prop := ∃ b, v = .bool b ∧ k b
def asStr (v : Value) (k : ByteArray → Prop) : Prop := ∃ s, v = .string s ∧ k s
def asP (v : Value) (k : Option Addr → Prop) : Prop := ∃ p, v = .pointer p ∧ k p
def asS (v : Value) (k : Option Addr → Nat → Nat → Prop) : Prop := ∃ A n c, v = .slice A n c ∧ k A n c
def asF (v : Value) (k : FuncId → Array Value → Array Value → Prop) : Prop := ∃ f a b, v = .func (.func f) a b ∧ k f a b
def asA (n : Nat) (v : Value) (k : Array Value → Prop) : Prop := ∃ cs : Array Value, v = .agg cs ∧ cs.size = n ∧ k cs
def asAny (v : Value) (k : Array Value → Prop) : Prop := ∃ cs : Array Value, v = .agg cs ∧ k cs
def asT2 (v : Value) (k : Value → Value → Prop) : Prop := ∃ a b, v = .tuple #[a, b] ∧ k a b
def asT3 (v : Value) (k : Value → Value → Value → Prop) : Prop := ∃ a b c, v = .tuple #[a, b, c] ∧ k a b c
def asT4 (v : Value) (k : Value → Value → Value → Value → Prop) : Prop := ∃ a b c d, v = .tuple #[a, b, c, d] ∧ k a b c d

def allocK (cells : Array Value) (e : TypeId) (h : H) (k : Option Addr → H → Prop) : Prop := k (some ⟨h.size, 0, none⟩) (h.push (.cells cells e))
def load1 (p : Option Addr) (h : H) (k : Value → Prop) : Prop := ∃ ad v, p = some ad ∧ cellH h ad = some v ∧ k v
def loadN (n : Nat) (p : Option Addr) (h : H) (k : Array Value → Prop) : Prop :=
  ∃ (ad : Addr) (cs : Array Value), p = some ad ∧ cs.size = n ∧ (∀ j, j < n → cellH h (ad.add j) = cs[j]?) ∧ k cs
/-- The cells from an address on may be written. -/
def MayWrite (h : H) (ad : Addr) (n : Nat) : Prop := ∀ j, j < n → (∃ u, cellH h (ad.add j) = some u) ∧ frozenH h (ad.add j) = false
def OneCells (vs : List Value) : Prop := ∀ v ∈ vs, v.oneCell' = true
def storeK (n : Nat) (p : Option Addr) (cs : Array Value) (h : H) (k : H → Prop) : Prop :=
  ∃ ad, p = some ad ∧ cs.size = n ∧ OneCells cs.toList ∧ MayWrite h ad n ∧ k (setsH h ad cs.toList 0)
def nilK (p : Option Addr) (A : Prop) : Prop := (∃ ad, p = some ad) ∧ A
def needK (c : Prop) (A : Prop) : Prop := c ∧ A
def callK (P : Program) (f : FuncId) (args : Array Value) (h : H) (k : Value → H → Prop) : Prop := okFn P f = true ∧ CallsH P f args h k

/-- The n cells that a slice's first places hold. -/
def RowH (h : H) (A : Option Addr) (n : Nat) (cs : Array Value) : Prop :=
  cs.size = n ∧ (0 < n → ∃ ad, A = some ad ∧ ∀ j, j < n → cellH h (ad.add j) = cs[j]?)

def capBytes (need old bytes : Nat) : Prop := Builtin.nextslicecap need old * bytes ≤ 2 ^ 48

/-- append(s, x...): x's n elements are the cells cs. -/
def appendK (e : TypeId) (size bytes : Nat) (zero : Array Value) (A : Option Addr) (n c : Nat) (cs : Array Value) (m : Nat) (h : H) (k : Option Addr → Nat → Nat → H → Prop) : Prop :=
  OneCells cs.toList ∧ cs.size = m * size ∧
  if n + m ≤ c then
    (match A with
      | none => m * size = 0 ∧ k A (n + m) c h
      | some ad => MayWrite h (ad.add (n * size)) (m * size) ∧ k A (n + m) c (setsH h (ad.add (n * size)) cs.toList 0))
  else
    (n + m : Nat) ≤ 9223372036854775807 ∧ 0 < bytes ∧ capBytes (n + m) c bytes ∧
    ∃ old : Array Value, RowH h A (n * size) old ∧ (A = none → n = 0) ∧
      ∀ c', n + m ≤ c' → k (some ⟨h.size, 0, none⟩) (n + m) c' (h.push (.cells (old ++ cs ++ Builtin.zeroCells zero (c' - (n + m))) e))

def srcK (size : Nat) (v : Value) (h : H) (k : Array Value → Nat → Prop) : Prop :=
  ∃ A m c cs, v = .slice A m c ∧ RowH h A (m * size) cs ∧ k cs m

def copyK (size : Nat) (A : Option Addr) (n : Nat) (B : Option Addr) (m : Nat) (h : H) (k : H → Prop) : Prop :=
  ∃ cs, RowH h B (Nat.min m n * size) cs ∧ OneCells cs.toList ∧
    (match A with
      | none => cs.size = 0 ∧ k h
      | some ad => MayWrite h ad (Nat.min m n * size) ∧ k (setsH h ad cs.toList 0))

def makeK (e : TypeId) (size bytes : Nat) (zero : Array Value) (l c : Int) (h : H) (k : Option Addr → Nat → Nat → H → Prop) : Prop :=
  0 ≤ l ∧ l ≤ c ∧ c ≤ 9223372036854775807 ∧ bytes * c ≤ 2 ^ 48 ∧
    k (some ⟨h.size, 0, none⟩) l.toNat c.toNat (h.push (.cells (madeCells zero (c.toNat * size)) e))

def fillK (place : Nat → Option (Nat × Nat)) (cells : Array Value) (parts : List (Nat × Value)) (k : Array Value → Prop) : Prop :=
  ∃ cs, Instr.fill place cells parts = some cs ∧ k cs

/-- xs[lo:hi:max], each an Int. -/
def sliceK (size : Nat) (A : Option Addr) (n c : Nat) (lo hi mx : Option Int) (k : Option Addr → Nat → Nat → Prop) : Prop :=
  let m := mx.getD c
  let u := hi.getD n
  let l := lo.getD 0
  0 ≤ l ∧ l ≤ u ∧ u ≤ m ∧ m ≤ c ∧ k (if m.toNat = l.toNat then A else A.map (·.add (l.toNat * size))) (u.toNat - l.toNat) (m.toNat - l.toNat)
def sliceArrK (size : Nat) (p : Option Addr) (c : Nat) (lo hi : Option Int) (k : Option Addr → Nat → Nat → Prop) : Prop :=
  let u := hi.getD c
  let l := lo.getD 0
  ∃ ad, p = some ad ∧ 0 ≤ l ∧ l ≤ u ∧ u ≤ c ∧ k (some (if c = l.toNat then ad else ad.add (l.toNat * size))) (u.toNat - l.toNat) (c - l.toNat)
def sliceStrK (s : ByteArray) (lo hi : Option Int) (k : ByteArray → Prop) : Prop :=
  let u := hi.getD s.size
  let l := lo.getD 0
  0 ≤ l ∧ l ≤ u ∧ u ≤ s.size ∧ k (s.extract l.toNat u.toNat)
/-- &xs[i] -/
def indexK (size : Nat) (A : Option Addr) (n : Nat) (i : Int) (k : Option Addr → Prop) : Prop :=
  ∃ ad, A = some ad ∧ 0 ≤ i ∧ i < n ∧ k (some (ad.add (i.toNat * size)))
def strIdxK (s : ByteArray) (i : Int) (k : Int → Prop) : Prop := 0 ≤ i ∧ ∃ b, s[i.toNat]? = some b ∧ k b.toNat
def addrK (p : Option Addr) (off : Nat) (k : Option Addr → Prop) : Prop := ∃ ad, p = some ad ∧ k (some (ad.add off))
/-- an array value's element -/
def elemK (cs : Array Value) (n size : Nat) (agg : Bool) (i : Int) (k : Value → Prop) : Prop :=
  0 ≤ i ∧ i < n ∧ (match agg with
    | true => k (.agg (cs.extract (i.toNat * size) (i.toNat * size + size)))
    | false => ∃ v, cs[i.toNat * size]? = some v ∧ k v)
def strK (A : Option Addr) (n : Nat) (h : H) (k : ByteArray → Prop) : Prop :=
  ∃ xs : List Int, RowH h A n (xs.map (Value.int .u8)).toArray ∧ k (strOfNums xs)
/-- []byte(s): a mark stands behind the new row. -/
def bytesK (e : TypeId) (s : ByteArray) (h : H) (k : Option Addr → Nat → Nat → H → Prop) : Prop :=
  ∀ c, s.size ≤ c → k (some ⟨h.size, 0, none⟩) s.size c
    (h.push (.cells ((s.data.map fun b => Value.int .u8 b.toNat) ++ Array.replicate (c - s.size) (.int .u8 0)) e (c, c + 1)))

/-- '==' of two structs, or arrays, of a type. -/
def eqAggK (P : Program) (t : TypeId) (xs ys : Array Value) (k : Bool → Prop) : Prop :=
  ∃ b, P.eqGuardType P.depth t = false ∧ (∀ w, (Op.equal t (.agg xs) (.agg ys)).run P w = .ok b w) ∧ k b

/-! ### kinds of slots; predicates over slots of known kinds -/
inductive CK where
  | int (κ : IntKind) | bool | str | ptr | slice | agg | func
def JT : List CK → Type
  | [] => H → Prop
  | .int _ :: r => Int → JT r
  | .bool :: r => Bool → JT r
  | .str :: r => ByteArray → JT r
  | .ptr :: r => Option Addr → JT r
  | .slice :: r => Option Addr → Nat → Nat → JT r
  | .agg :: r => Array Value → JT r
  | .func :: r => FuncId → Array Value → Array Value → JT r
def MT : List CK → Type
  | [] => H → Nat
  | .int _ :: r => Int → MT r
  | .bool :: r => Bool → MT r
  | .str :: r => ByteArray → MT r
  | .ptr :: r => Option Addr → MT r
  | .slice :: r => Option Addr → Nat → Nat → MT r
  | .agg :: r => Array Value → MT r
  | .func :: r => FuncId → Array Value → Array Value → MT r
def applyT : (ks : List CK) → JT ks → List Value → H → Prop
  | [], J, [], h => J h
  | .int κ :: r, J, .int κ' x :: vs, h => match decide (κ = κ') with
    | true => applyT r (J x) vs h
    | false => False
  | .bool :: r, J, .bool x :: vs, h => applyT r (J x) vs h
  | .str :: r, J, .string x :: vs, h => applyT r (J x) vs h
  | .ptr :: r, J, .pointer x :: vs, h => applyT r (J x) vs h
  | .slice :: r, J, .slice A n c :: vs, h => applyT r (J A n c) vs h
  | .agg :: r, J, .agg x :: vs, h => applyT r (J x) vs h
  | .func :: r, J, .func (.func f) a b :: vs, h => applyT r (J f a b) vs h
  | _, _, _, _ => False
def curryT : (ks : List CK) → (List Value → H → Prop) → JT ks
  | [], f => f []
  | .int κ :: r, f => fun x => curryT r fun vs => f (.int κ x :: vs)
  | .bool :: r, f => fun x => curryT r fun vs => f (.bool x :: vs)
  | .str :: r, f => fun x => curryT r fun vs => f (.string x :: vs)
  | .ptr :: r, f => fun x => curryT r fun vs => f (.pointer x :: vs)
  | .slice :: r, f => fun A n c => curryT r fun vs => f (.slice A n c :: vs)
  | .agg :: r, f => fun x => curryT r fun vs => f (.agg x :: vs)
  | .func :: r, f => fun g a b => curryT r fun vs => f (.func (.func g) a b :: vs)
def leT : (ks : List CK) → JT ks → JT ks → Prop
  | [], J, K => ∀ h, J h → K h
  | .int _ :: r, J, K => ∀ x, leT r (J x) (K x)
  | .bool :: r, J, K => ∀ x, leT r (J x) (K x)
  | .str :: r, J, K => ∀ x, leT r (J x) (K x)
  | .ptr :: r, J, K => ∀ x, leT r (J x) (K x)
  | .slice :: r, J, K => ∀ A n c, leT r (J A n c) (K A n c)
  | .agg :: r, J, K => ∀ x, leT r (J x) (K x)
  | .func :: r, J, K => ∀ f a b, leT r (J f a b) (K f a b)
def andT : (ks : List CK) → JT ks → MT ks → Nat → JT ks
  | [], I, m, c => fun h => I h ∧ m h < c
  | .int _ :: r, I, m, c => fun x => andT r (I x) (m x) c
  | .bool :: r, I, m, c => fun x => andT r (I x) (m x) c
  | .str :: r, I, m, c => fun x => andT r (I x) (m x) c
  | .ptr :: r, I, m, c => fun x => andT r (I x) (m x) c
  | .slice :: r, I, m, c => fun A n d => andT r (I A n d) (m A n d) c
  | .agg :: r, I, m, c => fun x => andT r (I x) (m x) c
  | .func :: r, I, m, c => fun f a b => andT r (I f a b) (m f a b) c
def roundT : (ks : List CK) → JT ks → MT ks → (Nat → JT ks) → Prop
  | [], I, m, B => ∀ h, I h → B (m h) h
  | .int _ :: r, I, m, B => ∀ x, roundT r (I x) (m x) fun c => B c x
  | .bool :: r, I, m, B => ∀ x, roundT r (I x) (m x) fun c => B c x
  | .str :: r, I, m, B => ∀ x, roundT r (I x) (m x) fun c => B c x
  | .ptr :: r, I, m, B => ∀ x, roundT r (I x) (m x) fun c => B c x
  | .slice :: r, I, m, B => ∀ A n d, roundT r (I A n d) (m A n d) fun c => B c A n d
  | .agg :: r, I, m, B => ∀ x, roundT r (I x) (m x) fun c => B c x
  | .func :: r, I, m, B => ∀ f a b, roundT r (I f a b) (m f a b) fun c => B c f a b
/-- A loop over slots of the kinds ks: some I holds at first, and a round keeps it and lowers m. -/
def loopK (ks : List CK) (body : JT ks → JT ks) (init : JT ks → Prop) : Prop :=
  ∃ (I : JT ks) (m : MT ks), init I ∧ roundT ks I m fun c => body (andT ks I m c)
/-- Several ways meet: each brings J, and what follows needs J alone. -/
def joinK (ks : List CK) (F : JT ks → Prop) (rest : JT ks) : Prop := ∃ J : JT ks, F J ∧ leT ks J rest
end Go.Oct
