/- A step of the road to this law: a generator of conditions over the model of the code, or a lemma on rows in the heap. No conditions. -/
import Derived.Test.YtkhlollengamdaaXOctA
namespace Go.Oct

/-! ### types, out of the program's table -/
def sizeE (P : Program) (t : TypeId) : Option Nat := (P.info? t).map (·.size)
def zeroE (P : Program) (t : TypeId) : Option (List Value) := ((P.info? t).bind (·.zero)).map (·.cells.toList)
def aggT (P : Program) (t : TypeId) : Option Bool :=
  match P.underlying t with
  | some (.struct _) => some true
  | some (.array _ _) => some true
  | some _ => some false
  | none => none
def decode1 (P : Program) (t : TypeId) (v : Value) (k : Value → Prop) : Prop :=
  match P.underlying t with
  | some (.int κ) => asI κ v fun x => k (.int κ x)
  | some .bool => asB v fun x => k (.bool x)
  | some .string => asStr v fun x => k (.string x)
  | some (.pointer _) => asP v fun x => k (.pointer x)
  | some (.slice _) => asS v fun A n c => k (.slice A n c)
  | some (.struct _) => match sizeE P t with
    | some n => asA n v fun cs => k (.agg cs)
    | none => False
  | some (.array _ _) => match sizeE P t with
    | some n => asA n v fun cs => k (.agg cs)
    | none => False
  | some (.func _ _ _) => asF v fun f a b => k (.func (.func f) a b)
  | _ => k v
def decode (P : Program) (t : TypeId) (v : Value) (k : Value → Prop) : Prop :=
  match P.underlying t with
  | some (.tuple ts) => match ts.toList with
    | [t1, t2] => asT2 v fun a b => decode1 P t1 a fun a => decode1 P t2 b fun b => k (.tuple #[a, b])
    | [t1, t2, t3] => asT3 v fun a b c => decode1 P t1 a fun a => decode1 P t2 b fun b => decode1 P t3 c fun c => k (.tuple #[a, b, c])
    | [t1, t2, t3, t4] => asT4 v fun a b c d => decode1 P t1 a fun a => decode1 P t2 b fun b => decode1 P t3 c fun c => decode1 P t4 d fun d => k (.tuple #[a, b, c, d])
    | _ => k v
  | _ => decode1 P t v k
/-! ### numbers -/
def bitK (op : BinOp) (κ : IntKind) (a b : Int) : Int :=
  match op with
  | .and => κ.wrap (BitVec.ofInt κ.bits a &&& BitVec.ofInt κ.bits b).toNat
  | .or => κ.wrap (BitVec.ofInt κ.bits a ||| BitVec.ofInt κ.bits b).toNat
  | .xor => κ.wrap (BitVec.ofInt κ.bits a ^^^ BitVec.ofInt κ.bits b).toNat
  | _ => κ.wrap (BitVec.ofInt κ.bits a &&& ~~~(BitVec.ofInt κ.bits b)).toNat
def shlK (κ : IntKind) (a b : Int) : Int := κ.wrap (a * 2 ^ min b.toNat κ.bits)
def shrK (κ : IntKind) (a b : Int) : Int := a.fdiv (2 ^ min b.toNat κ.bits)
def maxI (a b : Int) : Int := if b > a then b else a
def minI (a b : Int) : Int := if b < a then b else a

def binVC (P : Program) (op : BinOp) (t : TypeId) (x y : Value) (k : Value → Prop) : Prop :=
  match x, y with
  | .int κ a, .int κ' b =>
    match op with
    | .shl => needK (0 ≤ b) (k (.int κ (shlK κ a b)))
    | .shr => needK (0 ≤ b) (k (.int κ (shrK κ a b)))
    | _ =>
      match decide (κ = κ') with
      | false => False
      | true =>
        match op with
        | .add => k (.int κ (κ.wrap (a + b)))
        | .sub => k (.int κ (κ.wrap (a - b)))
        | .mul => k (.int κ (κ.wrap (a * b)))
        | .quo => needK (b ≠ 0) (k (.int κ (κ.wrap (a.tdiv b))))
        | .rem => needK (b ≠ 0) (k (.int κ (a.tmod b)))
        | .and => k (.int κ (bitK .and κ a b))
        | .or => k (.int κ (bitK .or κ a b))
        | .xor => k (.int κ (bitK .xor κ a b))
        | .andNot => k (.int κ (bitK .andNot κ a b))
        | .eql => k (.bool (a == b))
        | .neq => k (.bool (a != b))
        | .lss => k (.bool (decide (a < b)))
        | .leq => k (.bool (decide (a ≤ b)))
        | .gtr => k (.bool (decide (a > b)))
        | .geq => k (.bool (decide (a ≥ b)))
        | _ => False
  | .string a, .string b =>
    match op with
    | .add => needK (((a.size + b.size : Nat) : Int) ≤ 9223372036854775807) (k (.string (a ++ b)))
    | .eql => k (.bool (a.toList == b.toList))
    | .neq => k (.bool (!(a.toList == b.toList)))
    | _ => False
  | .bool a, .bool b =>
    match P.underlying t with
    | some .bool => match op with
      | .eql => k (.bool (a == b))
      | .neq => k (.bool (!(a == b)))
      | _ => False
    | _ => False
  | .pointer p, .pointer q =>
    match P.underlying t with
    | some (.pointer _) => match op with
      | .eql => needK (p = none ∨ q = none) (k (.bool (p.isNone && q.isNone)))
      | .neq => needK (p = none ∨ q = none) (k (.bool (!(p.isNone && q.isNone))))
      | _ => False
    | _ => False
  | .slice A _ _, .slice B _ _ =>
    match P.underlying t with
    | some (.slice _) => match op with
      | .eql => needK (B = none) (k (.bool A.isNone))
      | .neq => needK (B = none) (k (.bool (!A.isNone)))
      | _ => False
    | _ => False
  | _, _ => False

def tupleAt : List Value → Nat → (Value → Prop) → Prop
  | [], _, _ => False
  | v :: _, 0, k => k v
  | _ :: r, i + 1, k => tupleAt r i k

def optI (env : Env) : Option Operand → Option (Option Int)
  | none => some none
  | some o => match valE env o with
    | some (.int _ x) => some (some x)
    | _ => none

/-- Operations that yield one value in every world. -/
def isPure (P : Program) (op : Op) : Bool :=
  match op with
  | .move _ => true
  | .assign _ => true
  | .pick _ _ _ => true
  | .nilCheck _ => true
  | .binOp _ _ _ _ _ => true
  | .unOp _ _ _ => true
  | .convert _ d _ => match P.underlying d with
    | some (.int _) => true
    | _ => false
  | .fieldAddr _ _ _ => true
  | .indexAddr _ _ _ => true
  | .index _ _ _ => true
  | .extract _ _ => true
  | .slice _ _ _ _ _ => true
  | .build _ _ => true
  | .makeFunc _ _ _ => true
  | .sliceToArrayPointer _ _ => true
  | .call c => match c.callee with
    | .builtin .len => true
    | .builtin .max => true
    | .builtin .min => true
    | _ => false
  | _ => false

def fillL (place : Nat → Option (Nat × Nat)) : List Value → List (Nat × Value) → Option (List Value)
  | cells, [] => some cells
  | cells, (i, v) :: rest => match place i with
    | none => none
    | some (off, size) => match v with
      | .agg _ => none
      | .tuple _ => none
      | _ => match Nat.beq size 1, Nat.ble (off + 1) cells.length with
        | true, true => fillL place (cells.set off v) rest
        | _, _ => none
def isAggV : Value → Bool
  | .agg _ => true
  | _ => false
def placeL (l : List (Nat × Nat)) (i : Nat) : Option (Nat × Nat) := l[i]?
def fieldsE (P : Program) : List Field → Option (List (Nat × Nat))
  | [] => some []
  | f :: r => match sizeE P f.type, fieldsE P r with
    | some s, some l => some ((f.offset, s) :: l)
    | _, _ => none
def partsE (env : Env) : List (Nat × Operand) → Option (List (Nat × Value))
  | [] => some []
  | (i, o) :: r => match valE env o, partsE env r with
    | some v, some l => some ((i, v) :: l)
    | _, _ => none
def fillVC (place : Nat → Option (Nat × Nat)) (zero : List Value) (parts : List (Nat × Value)) (k : Array Value → Prop) : Prop :=
  match parts.any fun p => isAggV p.2 with
  | true => fillK place zero.toArray parts k
  | false => match fillL place zero parts with
    | some cs => k cs.toArray
    | none => False
def repL (zero : List Value) : Nat → List Value
  | 0 => []
  | n + 1 => zero ++ repL zero n

def pureVC (P : Program) (o : Oper) (env : Env) (k : Value → Prop) : Prop :=
  match o.op with
  | .move x => match valE env x with
    | some v => k v
    | none => False
  | .assign x => match valE env x with
    | some v => k v
    | none => False
  | .pick c a b => match valE env c with
    | some (.bool t) => ifB t (match valE env a with | some v => k v | none => False) (match valE env b with | some v => k v | none => False)
    | _ => False
  | .nilCheck x => match valE env x with
    | some (.pointer p) => nilK p (k (.pointer p))
    | some (.func (.func f) a b) => k (.func (.func f) a b)
    | _ => False
  | .binOp op t x y _ => match valE env x, valE env y with
    | some (.agg xs), some (.agg ys) => match op with
      | .eql => eqAggK P t xs ys fun b => k (.bool b)
      | .neq => eqAggK P t xs ys fun b => k (.bool (!b))
      | _ => False
    | some vx, some vy => binVC P op t vx vy k
    | _, _ => False
  | .unOp op _ x => match op, valE env x with
    | .not, some (.bool b) => k (.bool (!b))
    | _, _ => False
  | .convert s d x => match P.underlying s, P.underlying d, valE env x with
    | some _, some (.int κ), some (.int _ a) => k (.int κ (κ.wrap a))
    | _, _, _ => False
  | .fieldAddr s x f => match P.underlying s, valE env x with
    | some (.struct fs), some (.pointer p) => match fs.toList[f]? with
      | some fd => match sizeE P fd.type with
        | some (_ + 1) => addrK p fd.offset fun q => k (.pointer q)
        | _ => False
      | none => False
    | _, _ => False
  | .indexAddr t x i => match P.underlying t, valE env x, valE env i with
    | some (.slice e), some (.slice A n _), some (.int _ j) => match sizeE P e with
      | some sz => indexK sz A n j fun q => k (.pointer q)
      | none => False
    | some (.array len e), some (.pointer p), some (.int _ j) => match sizeE P e with
      | some sz => indexK sz p len j fun q => k (.pointer q)
      | none => False
    | _, _, _ => False
  | .index t x i => match P.underlying t, valE env x, valE env i with
    | some (.array len e), some (.agg cs), some (.int _ j) => match P.underlying e, sizeE P e with
      | some (.struct _), some sz => elemK cs len sz true j k
      | some (.int κ), some 1 => elemK cs len 1 false j fun v => asI κ v fun x => k (.int κ x)
      | _, _ => False
    | some .string, some (.string s), some (.int _ j) => strIdxK s j fun x => k (.int .u8 x)
    | _, _, _ => False
  | .extract x i => match valE env x with
    | some (.tuple vs) => tupleAt vs.toList i k
    | _ => False
  | .slice t x lo hi mx => match P.underlying t, valE env x, optI env lo, optI env hi, optI env mx with
    | some (.slice e), some (.slice A n c), some lo, some hi, some mx => match sizeE P e with
      | some sz => needK (mx.isSome = true → hi.isSome = true) (sliceK sz A n c lo hi mx fun A n c => k (.slice A n c))
      | none => False
    | some (.array len e), some (.pointer p), some lo, some hi, some none => match sizeE P e with
      | some sz => sliceArrK sz p len lo hi fun A n c => k (.slice A n c)
      | none => False
    | some .string, some (.string s), some lo, some hi, some none => sliceStrK s lo hi fun s => k (.string s)
    | _, _, _, _, _ => False
  | .build t parts => match P.underlying t, zeroE P t, partsE env parts.toList with
    | some (.struct fs), some zero, some ps => match fieldsE P fs.toList with
      | some pl => fillVC (placeL pl) zero ps fun cs => k (.agg cs)
      | none => False
    | some (.array _ e), some zero, some ps => match sizeE P e with
      | some sz => fillVC (fun i => some (i * sz, sz)) zero ps fun cs => k (.agg cs)
      | none => False
    | _, _, _ => False
  | .makeFunc fn first cap => match valsE env first.toList, valsE env cap.toList with
    | some a, some b => k (.func fn a.toArray b.toArray)
    | _, _ => False
  | .sliceToArrayPointer t x => match P.underlying t, valE env x with
    | some (.array len _), some (.slice A n _) => needK (len ≤ n) (k (.pointer A))
    | _, _ => False
  | .call c => match c.callee, valsE env c.args.toList with
    | .builtin .len, some [.slice _ n _] => match (c.argTypes[0]?).bind P.underlying with
      | some (.slice _) => k (.int .i64 n)
      | _ => False
    | .builtin .len, some [.string s] => match (c.argTypes[0]?).bind P.underlying with
      | some .string => k (.int .i64 s.size)
      | _ => False
    | .builtin .max, some [.int κ a, .int _ b] => k (.int κ (maxI a b))
    | .builtin .min, some [.int κ a, .int _ b] => k (.int κ (minI a b))
    | _, _ => False
  | _ => False

/-- An operation at a heap. -/
def effVC (P : Program) (o : Oper) (env : Env) (h : H) (k : Value → H → Prop) : Prop :=
  match o.op with
  | .alloc e => match zeroE P e with
    | some z => allocK z.toArray e h fun p h' => k (.pointer p) h'
    | none => False
  | .box e x => match valE env x with
    | some v => allocK v.cells e h fun p h' => k (.pointer p) h'
    | none => False
  | .load t a => match aggT P t, sizeE P t, valE env a with
    | some true, some n, some (.pointer p) => loadN n p h fun cs => k (.agg cs) h
    | some false, some _, some (.pointer p) => load1 p h fun v => decode1 P t v fun v => k v h
    | _, _, _ => False
  | .store t a x => match sizeE P t, valE env a, valE env x with
    | some n, some (.pointer p), some v => storeK n p v.cells h fun h' => k undef h'
    | _, _, _ => False
  | .convert s d x => match P.underlying s, P.underlying d, valE env x with
    | some (.slice e), some .string, some (.slice A n _) => match P.underlying e with
      | some (.int .u8) => strK A n h fun s => k (.string s) h
      | _ => False
    | some .string, some (.slice e), some (.string s) => match P.underlying e with
      | some (.int .u8) => bytesK e s h fun A n c h' => k (.slice A n c) h'
      | _ => False
    | _, _, _ => False
  | .makeSlice t l c => match P.underlying t, valE env l, valE env c with
    | some (.slice e), some (.int .i64 l), some (.int .i64 c) => match P.info? e, zeroE P e with
      | some i, some z => makeK e i.size i.bytes z.toArray l c h fun A n c h' => k (.slice A n c) h'
      | _, _ => False
    | _, _, _ => False
  | .buildSlice t len parts => match P.underlying t, partsE env parts.toList with
    | some (.slice e), some ps => match sizeE P e, zeroE P e with
      | some sz, some z => match Nat.ble (len * sz) 16777216, Nat.beq z.length sz with
        | true, true => fillVC (fun i => some (i * sz, sz)) (repL z len) ps fun cs => allocK cs e h fun p h' => k (.slice p len len) h'
        | _, _ => False
      | _, _ => False
    | _, _ => False
  | .call c => match c.callee, valsE env c.args.toList with
    | .builtin .append, some [.slice A n cp, .slice B m c'] => match (c.argTypes[0]?).bind P.underlying, (c.argTypes[1]?).bind P.underlying with
      | some (.slice e), some (.slice _) => match P.info? e, zeroE P e with
        | some i, some z => srcK i.size (.slice B m c') h fun cs m => appendK e i.size i.bytes z.toArray A n cp cs m h fun A n c h' => k (.slice A n c) h'
        | _, _ => False
      | _, _ => False
    | .builtin .copy, some [.slice A n _, .slice B m _] => match (c.argTypes[0]?).bind P.underlying with
      | some (.slice e) => match sizeE P e with
        | some sz => copyK sz A n B m h fun h' => k (.int .i64 (Nat.min m n)) h'
        | none => False
      | _ => False
    | .value f, some vs => match valE env f with
      | some (.func (.func g) first cap) => callK P g (first ++ vs.toArray ++ cap) h fun v h' => decode P o.type v fun v => k v h'
      | _ => False
    | _, _ => False
  | _ => False

def opVC (P : Program) (o : Oper) (env : Env) (h : H) (k : Value → H → Prop) : Prop :=
  match isPure P o.op with
  | true => pureVC P o env fun v => k v h
  | false => effVC P o env h k

def dstOk (n : Nat) : Option Tmp → Bool
  | some d => Nat.ble (d + 1) n
  | none => true
def slotOf (all : List Oper) (j : Nat) : Option Tmp := (all[j]?).bind (·.dst)

def vcOps (P : Program) (n : Nat) (all : List Oper) : List Oper → Env → H → (Env → H → Prop) → Prop
  | [], env, h, k => k env h
  | o :: r, env, h, k =>
    match dstOk n o.dst with
    | false => False
    | true => match o.guard with
      | none => opVC P o env h fun v h' => vcOps P n all r (putE env o.dst v) h' k
      | some (j, want) => match slotOf all j with
        | none => False
        | some t => match getE env t with
          | some (.bool b) =>
            ifB b
              (match want with
                | true => opVC P o ((t, .bool true) :: env) h fun v h' => vcOps P n all r (putE ((t, .bool true) :: env) o.dst v) h' k
                | false => vcOps P n all r (putE ((t, .bool true) :: env) o.dst undef) h k)
              (match want with
                | false => opVC P o ((t, .bool false) :: env) h fun v h' => vcOps P n all r (putE ((t, .bool false) :: env) o.dst v) h' k
                | true => vcOps P n all r (putE ((t, .bool false) :: env) o.dst undef) h k)
          | some (.tuple _) => vcOps P n all r (putE env o.dst undef) h k
          | _ => False

def dstsOps (ops : List Oper) : List Nat := ops.filterMap (·.dst)
def dsts : Code → List Nat
  | .region _ ops _ => dstsOps ops.toList
  | .seq a b => dsts a ++ dsts b
  | .cond _ a b => dsts a ++ dsts b
  | .block _ b => dsts b
  | .loop b => dsts b
  | .scope b => dsts b
  | _ => []
def memN (i : Nat) : List Nat → Bool
  | [] => false
  | j :: r => match Nat.beq i j with
    | true => true
    | false => memN i r
def kindOf : Value → Option CK
  | .int κ _ => some (.int κ)
  | .bool _ => some .bool
  | .string _ => some .str
  | .pointer _ => some .ptr
  | .slice _ _ _ => some .slice
  | .agg _ => some .agg
  | .func (.func _) _ _ => some .func
  | _ => none
/-- The slots that a loop writes and that are known at its head, each once. -/
def liveL (env : Env) : List Nat → List Nat → List (Nat × CK)
  | [], _ => []
  | s :: r, seen => match memN s seen with
    | true => liveL env r seen
    | false => match (getE env s).bind kindOf with
      | some κ => (s, κ) :: liveL env r (s :: seen)
      | none => liveL env r (s :: seen)
def slotVals (env : Env) : List (Nat × CK) → Option (List Value)
  | [] => some []
  | p :: r => match getE env p.1, slotVals env r with
    | some v, some l => some (v :: l)
    | _, _ => none
def zipE : List (Nat × CK) → List Value → Env
  | p :: r, v :: vs => (p.1, v) :: zipE r vs
  | _, _ => []
def dropE (D : List Nat) : Env → Env
  | [] => []
  | p :: r => match memN p.1 D with
    | true => dropE D r
    | false => p :: dropE D r
def kindsL : List (Nat × CK) → List CK
  | [] => []
  | p :: r => p.2 :: kindsL r

/-- How a region of open order is walked. -/
inductive Stp where
  | pure (i : Nat)
  | take (i : Nat)
  | one (i : Nat)
  | last (i : Nat)
/-- Where several operations may come up, each is walked. -/
inductive Tr where
  | done
  | st (s : Stp) (r : Tr)
  | two (i j : Nat) (a b : Tr)
  | three (i j k : Nat) (a b c : Tr)

def loadS1 (S : H → Prop) (p : Option Addr) (k : Value → Prop) : Prop := ∃ ad v, p = some ad ∧ (∀ g, S g → cellH g ad = some v) ∧ k v
def loadSN (n : Nat) (S : H → Prop) (p : Option Addr) (k : Array Value → Prop) : Prop :=
  ∃ (ad : Addr) (cs : Array Value), p = some ad ∧ cs.size = n ∧ (∀ g, S g → ∀ j, j < n → cellH g (ad.add j) = cs[j]?) ∧ k cs
def loadLenS (S : H → Prop) (A : Option Addr) (n : Nat) (k : ByteArray → Prop) : Prop :=
  ∃ xs : List Int, (∀ g, S g → RowH g A n (xs.map (Value.int .u8)).toArray) ∧ k (strOfNums xs)
/-- A load whose answer S holds fast. -/
def takeVC (P : Program) (S : H → Prop) (o : Oper) (env : Env) (k : Value → Prop) : Prop :=
  match o.op with
  | .load t a => match aggT P t, sizeE P t, valE env a with
    | some true, some n, some (.pointer p) => loadSN n S p fun cs => k (.agg cs)
    | some false, some _, some (.pointer p) => loadS1 S p fun v => decode1 P t v fun v => k v
    | _, _, _ => False
  | _ => False
/-- One step at number i's operation. -/
def guardVC (all : List Oper) (o : Oper) (env : Env) (exec : Env → Prop) (skip : Env → Prop) : Prop :=
  match o.guard with
  | none => exec env
  | some (j, want) => match slotOf all j with
    | none => False
    | some t => match getE env t with
      | some (.bool b) =>
        ifB b
          (match want with
            | true => exec ((t, .bool true) :: env)
            | false => skip ((t, .bool true) :: env))
          (match want with
            | false => exec ((t, .bool false) :: env)
            | true => skip ((t, .bool false) :: env))
      | some (.tuple _) => skip env
      | _ => False
/-- Number i's operation, which may come up, and behind which S is shown. -/
def oneVC (P : Program) (n : Nat) (all : List Oper) (S : H → Prop) (i : Nat) (env : Env) (h : H) (K : Env → H → Prop) : Prop :=
  match all[i]? with
  | none => False
  | some o => match dstOk n o.dst with
    | true => guardVC all o env (fun env => opVC P o env h fun v h' => S h' ∧ K (putE env o.dst v) h') (fun env => K (putE env o.dst undef) h)
    | false => False
def chainVC (P : Program) (n : Nat) (all : List Oper) (S : H → Prop) : Tr → Env → H → (Env → H → Prop) → Prop
  | .done, env, h, k => k env h
  | .two i j a b, env, h, k => oneVC P n all S i env h (fun env h => chainVC P n all S a env h k) ∧ oneVC P n all S j env h (fun env h => chainVC P n all S b env h k)
  | .three i j l a b c, env, h, k => oneVC P n all S i env h (fun env h => chainVC P n all S a env h k) ∧ oneVC P n all S j env h (fun env h => chainVC P n all S b env h k) ∧ oneVC P n all S l env h (fun env h => chainVC P n all S c env h k)
  | .st st r, env, h, k =>
    match st with
    | .pure i => match all[i]? with
      | none => False
      | some o => match dstOk n o.dst, isPure P o.op with
        | true, true => guardVC all o env (fun env => pureVC P o env fun v => chainVC P n all S r (putE env o.dst v) h k) (fun env => chainVC P n all S r (putE env o.dst undef) h k)
        | _, _ => False
    | .take i => match all[i]? with
      | none => False
      | some o => match dstOk n o.dst with
        | true => guardVC all o env (fun env => takeVC P S o env fun v => chainVC P n all S r (putE env o.dst v) h k) (fun env => chainVC P n all S r (putE env o.dst undef) h k)
        | false => False
    | .one i => oneVC P n all S i env h (fun env h => chainVC P n all S r env h k)
    | .last i => match all[i]? with
      | none => False
      | some o => match dstOk n o.dst with
        | true => guardVC all o env (fun env => opVC P o env h fun v h' => chainVC P n all S r (putE env o.dst v) h' k) (fun env => chainVC P n all S r (putE env o.dst undef) h k)
        | false => False
def drawK (h : H) (body : (H → Prop) → Prop) : Prop := ∃ S : H → Prop, S h ∧ body S

/-- Where ways meet, and which regions are drawn how. A meeting is known by the first region of the code ahead of it, and that code's size. -/
structure Plan where
  draws : List (Nat × List Nat × Tr)
  joins : List (Nat × Nat × List (Nat × CK))
def drawOf : List (Nat × List Nat × Tr) → Nat → Option (List Nat × Tr)
  | [], _ => none
  | p :: r, i => match Nat.beq i p.1 with
    | true => some p.2
    | false => drawOf r i
def joinOf : List (Nat × Nat × List (Nat × CK)) → Nat → Nat → Option (List (Nat × CK))
  | [], _, _ => none
  | p :: r, i, n => match Nat.beq i p.1, Nat.beq n p.2.1 with
    | true, true => some p.2.2
    | _, _ => joinOf r i n
def firstR : Code → Option Nat
  | .region id _ _ => some id
  | .seq a b => match firstR a with
    | some i => some i
    | none => firstR b
  | .cond _ a b => match firstR a with
    | some i => some i
    | none => firstR b
  | .block _ b => firstR b
  | .loop b => firstR b
  | .scope b => firstR b
  | _ => none
def sizeC : Code → Nat
  | .seq a b => sizeC a + sizeC b + 1
  | .cond _ a b => sizeC a + sizeC b + 1
  | .block _ b => sizeC b + 1
  | .loop b => sizeC b + 1
  | .scope b => sizeC b + 1
  | _ => 1
def joinAt (pl : Plan) (a : Code) : Option (List (Nat × CK)) :=
  match firstR a with
  | none => none
  | some i => joinOf pl.joins i (sizeC a)

/-- check: is the plan one of this region's? -/
def vc (P : Program) (n : Nat) (check : List Oper → List Nat → Tr → Bool) (pl : Plan) : Code → Env → H → (Env → H → Prop) → (Env → H → Prop) → (Nat → Env → H → Prop) → Prop
  | .skip, env, h, N, _, _ => N env h
  | .region id ops draw, env, h, N, _, _ => match draw with
    | false => vcOps P n ops.toList ops.toList env h N
    | true => match drawOf pl.draws id with
      | none => False
      | some (ds, steps) => match check ops.toList ds steps with
        | true => drawK h fun S => chainVC P n ops.toList S steps env h N
        | false => False
  | .seq a b, env, h, N, R, X => match joinAt pl a with
    | none => vc P n check pl a env h (fun env h => vc P n check pl b env h N R X) R X
    | some L => joinK (kindsL L)
        (fun J => vc P n check pl a env h (fun env' h' => match slotVals env' L with
          | some vs => applyT (kindsL L) J vs h'
          | none => False) R X)
        (curryT (kindsL L) fun vs h' => vc P n check pl b (zipE L vs ++ dropE (dsts a) env) h' N R X)
  | .cond c a b, env, h, N, R, X => match c with
    | .tmp t => match getE env t with
      | some (.bool z) => ifB z (vc P n check pl a ((t, .bool true) :: env) h N R X) (vc P n check pl b ((t, .bool false) :: env) h N R X)
      | _ => False
    | .const (.bool true) => vc P n check pl a env h N R X
    | .const (.bool false) => vc P n check pl b env h N R X
    | _ => False
  | .block id b, env, h, N, R, X => vc P n check pl b env h N R (fun i env h => match Nat.beq i id with
    | true => N env h
    | false => X i env h)
  | .loop b, env, h, _, R, X =>
    loopK (kindsL (liveL env (dsts b) []))
      (fun kN => curryT (kindsL (liveL env (dsts b) [])) fun vs h' =>
        vc P n check pl b (zipE (liveL env (dsts b) []) vs ++ dropE (dsts b) env) h' (fun env2 h2 => match slotVals env2 (liveL env (dsts b) []) with
          | some vs => applyT (kindsL (liveL env (dsts b) [])) kN vs h2
          | none => False) R X)
      (fun I => match slotVals env (liveL env (dsts b) []) with
        | some vs => applyT (kindsL (liveL env (dsts b) [])) I vs h
        | none => False)
  | .exit id, env, h, _, _, X => X id env h
  | .scope b, env, h, N, R, X => vc P n check pl b env h N R X
  | .label _, env, h, N, _, _ => N env h
  | .ret, env, h, _, R, _ => R env h
  | _, _, _, _, _, _ => False

/-- What a function's results say. -/
def resVC (P : Program) (env : Env) (h : H) : List ResultVar → (List Value → Prop) → Prop
  | [], k => k []
  | .tmp t :: r, k => match getE env t with
    | some v => resVC P env h r fun vs => k (v :: vs)
    | none => False
  | .cell a t :: r, k => match aggT P t, sizeE P t, getE env a with
    | some true, some n, some (.pointer p) => loadN n p h fun cs => resVC P env h r fun vs => k (.agg cs :: vs)
    | some false, some _, some (.pointer p) => load1 p h fun v => resVC P env h r fun vs => k (v :: vs)
    | _, _, _ => False
def oneOr : List Value → Value
  | [v] => v
  | vs => .tuple vs.toArray
def params : Nat → List Value → Env
  | _, [] => []
  | i, v :: r => (i, v) :: params (i + 1) r
def fnVC (P : Program) (fn : Func) (check : List Oper → List Nat → Tr → Bool) (pl : Plan) (args : List Value) (h : H) (Q : Value → H → Prop) : Prop :=
  match fn.body with
  | none => False
  | some c => match Nat.ble args.length fn.ntmps with
    | false => False
    | true => vc P fn.ntmps check pl c (params 0 args) h
      (fun env h => resVC P env h fn.results.toList fun vs => Q (oneOr vs) h)
      (fun env h => resVC P env h fn.results.toList fun vs => Q (oneOr vs) h)
      (fun _ _ _ => False)
end Go.Oct
