/- A step of the road to this law: a generator of conditions over the model of the code, or a lemma on rows in the heap. No conditions. -/
import Derived.Test.YtkhlollengamdaaXOctB
set_option linter.unusedSimpArgs false
set_option linter.unusedVariables false
namespace Go.Oct
open Go.Instr

structure Ag (n : Nat) (env : Env) (a : Act) : Prop where
  size : a.tmps.size = n
  known : ∀ i v, getE env i = some v → a.tmps[i]? = some v

theorem beq_iff {i j : Nat} : Nat.beq i j = true ↔ i = j := ⟨Nat.eq_of_beq_eq_true, fun h => by subst h; exact Nat.beq_refl i⟩
theorem getE_cons {p : Nat × Value} {r : Env} {i : Nat} : getE (p :: r) i = if i = p.1 then some p.2 else getE r i := by
  simp only [getE]
  split
  · rename_i h; rw [if_pos (beq_iff.1 h)]
  · rename_i h; rw [if_neg]; intro e; rw [beq_iff.2 e] at h; cases h

theorem Ag.eval {n : Nat} {env : Env} {a : Act} (g : Ag n env a) {o : Operand} {v : Value} (h : valE env o = some v) : a.eval o = v := by
  cases o with
  | tmp t =>
    have := g.known t v h
    simp [Act.eval, this]
  | const c => simpa [valE, Act.eval] using h
  | global g => cases h
  | func f => simpa [valE, Act.eval] using h

theorem Ag.put {n : Nat} {env : Env} {a : Act} (g : Ag n env a) {d : Option Tmp} (hd : dstOk n d = true) (v : Value) : Ag n (putE env d v) (a.put d v) := by
  cases d with
  | none => exact g
  | some d =>
    have hlt : d < n := by
      have h1 : Nat.ble (d + 1) n = true := hd
      exact Nat.le_of_ble_eq_true h1
    refine ⟨by simp [Act.put, g.size], fun i u hu => ?_⟩
    simp only [putE, getE_cons] at hu
    simp only [Act.put, Array.getElem?_setIfInBounds]
    by_cases hi : i = d
    · subst hi
      rw [if_pos rfl] at hu
      rw [if_pos rfl, if_pos (by rw [g.size]; exact hlt)]
      exact hu
    · rw [if_neg hi] at hu
      rw [if_neg (fun e => hi e.symm)]
      exact g.known i u hu
theorem Ag.known_bool {n : Nat} {env : Env} {a : Act} (g : Ag n env a) {t : Nat} {b : Bool} (h : getE env t = some (.bool b)) : Ag n ((t, .bool b) :: env) a :=
  ⟨g.size, fun i v hv => by
    rw [getE_cons] at hv
    by_cases hi : i = t
    · subst hi
      rw [if_pos rfl] at hv
      rw [← hv]
      exact g.known i _ h
    · rw [if_neg hi] at hv
      exact g.known i v hv⟩

theorem Ag.evals {n : Nat} {env : Env} {a : Act} (g : Ag n env a) : ∀ {l : List Operand} {vs : List Value}, valsE env l = some vs → l.map a.eval = vs
  | [], _, h => by simpa [valsE] using h
  | o :: r, vs, h => by
    simp only [valsE] at h
    split at h
    · rename_i v vs' h1 h2
      simp only [Option.some.injEq] at h
      subst h
      simp [g.eval h1, Ag.evals g h2]
    · cases h
theorem Ag.evalsA {n : Nat} {env : Env} {a : Act} (g : Ag n env a) {l : Array Operand} {vs : List Value} (h : valsE env l.toList = some vs) : l.map a.eval = vs.toArray := by
  apply Array.ext'
  simp [g.evals h]
theorem Ag.parts {n : Nat} {env : Env} {a : Act} (g : Ag n env a) : ∀ {l : List (Nat × Operand)} {ps : List (Nat × Value)}, partsE env l = some ps → l.map (fun p => (p.1, a.eval p.2)) = ps
  | [], _, h => by simpa [partsE] using h
  | (i, o) :: r, ps, h => by
    simp only [partsE] at h
    split at h
    · rename_i v vs' h1 h2
      simp only [Option.some.injEq] at h
      subst h
      simp [g.eval h1, Ag.parts g h2]
    · cases h
theorem Ag.partsA {n : Nat} {env : Env} {a : Act} (g : Ag n env a) {l : Array (Nat × Operand)} {ps : List (Nat × Value)} (h : partsE env l.toList = some ps) : l.map (fun p => (p.1, a.eval p.2)) = ps.toArray := by
  apply Array.ext'
  simp [g.parts h]
theorem Ag.opt {n : Nat} {env : Env} {a : Act} (g : Ag n env a) {o : Option Operand} {x : Option Int} (h : optI env o = some x) :
    (x = none ∧ o = none) ∨ ∃ z κ, x = some z ∧ o.map a.eval = some (.int κ z) := by
  cases o with
  | none => left; simp [optI] at h; exact ⟨h.symm, rfl⟩
  | some o =>
    right
    simp only [optI] at h
    split at h
    · rename_i κ z hz
      simp only [Option.some.injEq] at h
      exact ⟨z, κ, h.symm, by simp [g.eval hz]⟩
    · cases h

/-- What an operation that only reckons comes to. -/
def Gives (P : Program) (ρ : Operand → Value) (o : Oper) (k : Value → Prop) : Prop := ∃ v, k v ∧ ∀ w, (execOp ρ o).run P w = .ok (.value v) w

section
variable {P : Program} {n : Nat} {env : Env} {a : Act} {o : Oper} {k : Value → Prop}

theorem under_run {t : TypeId} {d : TypeDesc} (h : P.underlying t = some d) (w : World) : (underlying t).run P w = .ok d w := run_underlying h w
theorem size_run {t : TypeId} {s : Nat} (h : sizeE P t = some s) (w : World) : (sizeOf t).run P w = .ok s w := by
  unfold sizeE at h
  obtain ⟨i, hi, rfl⟩ := Option.map_eq_some_iff.1 h
  simp [sizeOf, typeInfo, hi]

theorem eq_bool_run {t : TypeId} (ht : P.underlying t = some .bool) (a b : Bool) (w : World) : (Op.equal t (.bool a) (.bool b)).run P w = .ok (a == b) w := by
  unfold Op.equal Op.maxDepth
  rw [Op.equalIn]
  simp only [Sem.run_bind, under_run ht, Result.andThen_ok, Sem.run_pure]
theorem eq_ptr_run {t e : TypeId} (ht : P.underlying t = some (.pointer e)) (p q : Option Addr) (h : p = none ∨ q = none) (w : World) : (Op.equal t (.pointer p) (.pointer q)).run P w = .ok (p.isNone && q.isNone) w := by
  unfold Op.equal Op.maxDepth
  rw [Op.equalIn]
  simp only [Sem.run_bind, under_run ht, Result.andThen_ok]
  cases p with
  | none => simp
  | some p =>
    rcases h with h | h
    · cases h
    · subst h; simp
theorem eq_slice_run {t e : TypeId} (ht : P.underlying t = some (.slice e)) (A : Option Addr) (n c m d : Nat) (w : World) : (Op.equal t (.slice A n c) (.slice none m d)).run P w = .ok A.isNone w := by
  unfold Op.equal Op.maxDepth
  rw [Op.equalIn]
  simp only [Sem.run_bind, under_run ht, Result.andThen_ok]
  cases A <;> simp
theorem bin_sound (op : BinOp) (t : TypeId) (x y : Value) (k : Value → Prop) (h : binVC P op t x y k) (X Y : Operand) :
    ∃ v, k v ∧ ∀ w, (do eqGuard op t X Y x y; binOp op t x y).run P w = .ok v w := by
  unfold binVC at h
  split at h
  · rename_i κ a κ' b
    split at h
    · exact ⟨_, h.2, fun w => by
        have : ¬ b < 0 := by have := h.1; omega
        simp [eqGuard, binOp, Op.shift, shlK, this]⟩
    · exact ⟨_, h.2, fun w => by
        have : ¬ b < 0 := by have := h.1; omega
        simp [eqGuard, binOp, Op.shift, shrK, this]⟩
    · rename_i h1 h2
      split at h
      · exact h.elim
      · rename_i hk
        have hk := of_decide_eq_true hk
        subst hk
        split at h <;> first
          | exact h.elim
          | exact ⟨_, h.2, fun w => by have hb := h.1; simp [eqGuard, binOp, Op.intDiv, hb]⟩
          | exact ⟨_, h, fun w => by simp [eqGuard, binOp, Op.intArith, Op.intBits, Op.intCmp, bitK]⟩
  · split at h <;> first
      | exact h.elim
      | exact ⟨_, h, fun w => by simp [eqGuard, binOp, Op.stringOp]⟩
      | (refine ⟨_, h.2, fun w => ?_⟩; have hb := h.1; simp only [eqGuard, binOp, Op.stringOp, Sem.run_bind, Sem.run_pure, Result.andThen_ok, Bool.not_false, if_true, Bool.true_or, Bool.or_self]; rw [if_neg (by show ¬ (_ > (9223372036854775807 : Int)); omega)]; rfl)
  · split at h
    · rename_i ht
      split at h <;> first
        | exact h.elim
        | exact ⟨_, h, fun w => by simp [eqGuard, binOp, eq_bool_run ht]⟩
    · exact h.elim
  · split at h
    · rename_i ht
      split at h <;> first
        | exact h.elim
        | exact ⟨_, h.2, fun w => by simp [eqGuard, binOp, eq_ptr_run ht _ _ h.1]⟩
    · exact h.elim
  · split at h
    · rename_i ht
      split at h <;> first
        | exact h.elim
        | exact ⟨_, h.2, fun w => by
            have hb := h.1
            subst hb
            simp [eqGuard, binOp, eq_slice_run ht]⟩
    · exact h.elim
  · exact h.elim

theorem fieldsE_run : ∀ {l : List Field} {ps : List (Nat × Nat)}, fieldsE P l = some ps → ∀ w, (l.mapM fun (f : Field) => do pure (f.offset, ← sizeOf f.type)).run P w = .ok ps w
  | [], ps, h, w => by
    simp only [fieldsE, Option.some.injEq] at h
    subst h
    rfl
  | f :: r, ps, h, w => by
    simp only [fieldsE] at h
    split at h
    · rename_i s l h1 h2
      simp only [Option.some.injEq] at h
      subst h
      have ih := fieldsE_run h2 w
      simp only [List.mapM_cons, Sem.run_bind, size_run h1, Result.andThen_ok, Sem.run_pure]
      rw [ih]
      rfl
    · cases h

theorem fill_of_list (place : Nat → Option (Nat × Nat)) : ∀ (ps : List (Nat × Value)) (cells cs : List Value), fillL place cells ps = some cs → Instr.fill place cells.toArray ps = some cs.toArray
  | [], cells, cs, h => by
    simp only [fillL, Option.some.injEq] at h
    subst h
    rfl
  | (i, v) :: r, cells, cs, h => by
    unfold fillL at h
    cases hp : place i with
    | none => rw [hp] at h; cases h
    | some os =>
      obtain ⟨off, size⟩ := os
      rw [hp] at h
      simp only at h
      have key : v.cells = #[v] ∧ size = 1 ∧ off + 1 ≤ cells.length ∧ fillL place (cells.set off v) r = some cs := by
        cases v <;> first
          | (simp only at h; cases h; done)
          | (refine ⟨rfl, ?_⟩
             simp only at h
             split at h
             · rename_i h1 h2
               exact ⟨Nat.eq_of_beq_eq_true h1, Nat.le_of_ble_eq_true h2, h⟩
             · cases h)
      obtain ⟨h1, h2, h3, h4⟩ := key
      subst h2
      unfold Instr.fill
      simp only [hp, h1]
      rw [if_neg (by simp; omega)]
      have := fill_of_list place r _ cs h4
      rw [← this]
      congr 1
      simp

theorem fillVC_sound {place : Nat → Option (Nat × Nat)} {zero : List Value} {ps : List (Nat × Value)} {k : Array Value → Prop} (h : fillVC place zero ps k) : ∃ cs, Instr.fill place zero.toArray ps = some cs ∧ k cs := by
  unfold fillVC at h
  split at h
  · exact h
  · split at h
    · rename_i cs hc
      exact ⟨_, fill_of_list _ _ _ _ hc, h⟩
    · exact h.elim

theorem tupleAt_sound : ∀ {l : List Value} {i : Nat} {k : Value → Prop}, tupleAt l i k → ∃ v, l[i]? = some v ∧ k v
  | [], _, _, h => h.elim
  | v :: _, 0, _, h => ⟨v, rfl, h⟩
  | _ :: r, i + 1, _, h => by obtain ⟨v, hv, hk⟩ := tupleAt_sound (l := r) (i := i) h; exact ⟨v, by simpa using hv, hk⟩

theorem sliceBound_run (κ : IntKind) (i : Int) (y : Nat) (c : BoundsCode) (h0 : 0 ≤ i) (h1 : i ≤ y) (w : World) : (sliceBound (.int κ i) y c).run P w = .ok i.toNat w := by
  simp [sliceBound, asIntOf, h0, h1]

theorem zero_run {t : TypeId} {z : List Value} (h : zeroE P t = some z) (w : World) : ∃ v, (zeroValue t).run P w = .ok v w ∧ v.cells.toList = z := by
  unfold zeroE at h
  obtain ⟨v, hv, rfl⟩ := Option.map_eq_some_iff.1 h
  obtain ⟨i, hi, hz⟩ := Option.bind_eq_some_iff.1 hv
  exact ⟨v, by simp [zeroValue, typeInfo, hi, hz], rfl⟩


theorem pure_sound (h : pureVC P o env k) (g : Ag n env a) : Gives P a.eval o k := by
  unfold pureVC at h
  split at h
  · -- move
    rename_i x hop
    split at h
    · rename_i v hv
      exact ⟨v, h, fun w => by simp [execOp, hop, g.eval hv]⟩
    · exact h.elim
  · rename_i x hop
    split at h
    · rename_i v hv
      exact ⟨v, h, fun w => by simp [execOp, hop, g.eval hv]⟩
    · exact h.elim
  · -- pick
    rename_i c x y hop
    split at h
    · rename_i t hc
      cases t
      · simp only [ifB] at h
        split at h
        · rename_i v hv
          exact ⟨v, h, fun w => by simp [execOp, hop, g.eval hv, g.eval hc, asBool]⟩
        · exact h.elim
      · simp only [ifB] at h
        split at h
        · rename_i v hv
          exact ⟨v, h, fun w => by simp [execOp, hop, g.eval hv, g.eval hc, asBool]⟩
        · exact h.elim
    · exact h.elim
  · -- nilCheck
    rename_i x hop
    split at h
    · rename_i p hv
      obtain ⟨⟨ad, rfl⟩, hk⟩ := h
      exact ⟨_, hk, fun w => by simp [execOp, hop, g.eval hv]⟩
    · rename_i f b c hv
      exact ⟨_, h, fun w => by simp [execOp, hop, g.eval hv]⟩
    · exact h.elim
  · -- binOp
    rename_i op t x y yt hop
    split at h
    · rename_i xs ys hx hy
      split at h
      · obtain ⟨b, h1, h2, hk⟩ := h
        exact ⟨_, hk, fun w => by simp [execOp, hop, g.eval hx, g.eval hy, run_eqGuard_agg w _ t x y xs ys h1, binOp, h2 w]⟩
      · obtain ⟨b, h1, h2, hk⟩ := h
        exact ⟨_, hk, fun w => by simp [execOp, hop, g.eval hx, g.eval hy, run_eqGuard_agg w _ t x y xs ys h1, binOp, h2 w]⟩
      · exact h.elim
    · rename_i vx vy _ hx hy
      obtain ⟨v, hk, hr⟩ := bin_sound op t vx vy k h x y
      exact ⟨v, hk, fun w => by
        have := hr w
        simp only [execOp, hop, g.eval hx, g.eval hy]
        rw [Sem.run_bind, this]
        rfl⟩
    · exact h.elim
  · -- unOp
    rename_i op t x hop
    split at h
    · rename_i b hv
      exact ⟨_, h, fun w => by simp [execOp, hop, g.eval hv, Op.unary]⟩
    · exact h.elim
  · -- convert
    rename_i s d x hop
    split at h
    · rename_i su κ κ' z hs hd hv
      refine ⟨_, h, fun w => ?_⟩
      simp only [execOp, hop, g.eval hv, convert, Sem.run_bind, under_run hs, under_run hd, Result.andThen_ok]
      cases su <;> simp [Conv.intToInt]
    · exact h.elim
  · -- fieldAddr
    rename_i s x f hop
    split at h
    · rename_i fs p hs hv
      split at h
      · rename_i fd hf
        split at h
        · rename_i m hm
          obtain ⟨ad, rfl, hk⟩ := h
          refine ⟨_, hk, fun w => ?_⟩
          have hf' : fs[f]? = some fd := by rw [← hf]; simp
          simp [execOp, hop, g.eval hv, fieldAt, under_run hs, hf', sureAddr, fieldPlace, size_run hm]
        · exact h.elim
      · exact h.elim
    · exact h.elim
  · -- indexAddr
    rename_i t x i hop
    split at h
    · rename_i e A m c κ j ht hx hi
      split at h
      · rename_i sz hz
        obtain ⟨ad, rfl, h0, h1, hk⟩ := h
        refine ⟨_, hk, fun w => ?_⟩
        simp [execOp, hop, g.eval hx, g.eval hi, indexAt, asIntOf, under_run ht, h0, h1, size_run hz]
      · exact h.elim
    · rename_i len e p κ j ht hx hi
      split at h
      · rename_i sz hz
        obtain ⟨ad, rfl, h0, h1, hk⟩ := h
        refine ⟨_, hk, fun w => ?_⟩
        simp [execOp, hop, g.eval hx, g.eval hi, indexAt, asIntOf, under_run ht, h0, h1, size_run hz, sureAddr]
      · exact h.elim
    · exact h.elim
  · -- index
    rename_i t x i hop
    split at h
    · rename_i len e cs κ j ht hx hi
      split at h
      · rename_i fs sz he hz
        obtain ⟨h0, h1, hk⟩ := h
        refine ⟨_, hk, fun w => ?_⟩
        simp [execOp, hop, g.eval hx, g.eval hi, index, asIntOf, under_run ht, h0, h1, size_run hz, part, isAgg, under_run he]
      · rename_i κ' he hz
        obtain ⟨h0, h1, v, hv, y, rfl, hk⟩ := h
        refine ⟨_, hk, fun w => ?_⟩
        simp [execOp, hop, g.eval hx, g.eval hi, index, asIntOf, under_run ht, h0, h1, size_run hz, part, isAgg, under_run he]
        simp at hv
        simp [hv]
      · exact h.elim
    · rename_i s κ j ht hx hi
      obtain ⟨h0, b, hb, hk⟩ := h
      refine ⟨_, hk, fun w => ?_⟩
      simp [execOp, hop, g.eval hx, g.eval hi, index, asIntOf, under_run ht, h0, hb]
    · exact h.elim
  · -- extract
    rename_i x i hop
    split at h
    · rename_i vs hv
      obtain ⟨v, hvi, hk⟩ := tupleAt_sound h
      refine ⟨v, hk, fun w => ?_⟩
      have : vs[i]? = some v := by rw [← hvi]; simp
      simp [execOp, hop, g.eval hv, extract, this]
    · exact h.elim
  · -- slice
    rename_i t x lo hi mx hop
    split at h
    · rename_i e A m c lo' hi' mx' ht hx hlo hhi hmx
      split at h
      · rename_i sz hz
        obtain ⟨hmh, h0, h1, h2, h3, hk⟩ := h
        refine ⟨_, hk, fun w => ?_⟩
        have el := g.opt hlo
        have eh := g.opt hhi
        have em := g.opt hmx
        simp only [execOp, hop, g.eval hx, sliceAt, Sem.run_bind, under_run ht, Result.andThen_ok, slice, sliceBounds]
        rcases em with ⟨rfl, rfl⟩ | ⟨zm, κm, rfl, em⟩
        · rcases eh with ⟨rfl, rfl⟩ | ⟨zh, κh, rfl, eh⟩
          · rcases el with ⟨rfl, rfl⟩ | ⟨zl, κl, rfl, el⟩
            · simp [size_run hz] at *
            · simp only [Option.getD_none, Option.getD_some] at h0 h1 h2 h3
              simp [el, size_run hz, sliceBound_run _ _ _ _ h0 h1]
          · rcases el with ⟨rfl, rfl⟩ | ⟨zl, κl, rfl, el⟩
            · simp only [Option.getD_none, Option.getD_some] at h0 h1 h2 h3
              simp [eh, size_run hz, sliceBound_run _ _ _ _ h1 h2]
            · simp only [Option.getD_none, Option.getD_some] at h0 h1 h2 h3
              have h1' : zl ≤ (zh.toNat : Int) := by omega
              simp [el, eh, size_run hz, sliceBound_run _ _ _ _ (by omega : 0 ≤ zh) h2, sliceBound_run _ _ _ _ h0 h1']
        · have := hmh rfl
          rcases eh with ⟨rfl, rfl⟩ | ⟨zh, κh, rfl, eh⟩
          · cases this
          · rcases el with ⟨rfl, rfl⟩ | ⟨zl, κl, rfl, el⟩
            · simp only [Option.getD_none, Option.getD_some] at h0 h1 h2 h3
              have h2' : zh ≤ (zm.toNat : Int) := by omega
              simp [em, eh, size_run hz, sliceBound_run _ _ _ _ (by omega : 0 ≤ zm) h3, sliceBound_run _ _ _ _ h1 h2']
            · simp only [Option.getD_none, Option.getD_some] at h0 h1 h2 h3
              have h2' : zh ≤ (zm.toNat : Int) := by omega
              have h1' : zl ≤ (zh.toNat : Int) := by omega
              simp [em, el, eh, size_run hz, sliceBound_run _ _ _ _ (by omega : 0 ≤ zm) h3, sliceBound_run _ _ _ _ (by omega : 0 ≤ zh) h2', sliceBound_run _ _ _ _ h0 h1']
      · exact h.elim
    · rename_i len e p lo' hi' ht hx hlo hhi hmx
      split at h
      · rename_i sz hz
        obtain ⟨ad, rfl, h0, h1, h2, hk⟩ := h
        refine ⟨_, hk, fun w => ?_⟩
        have el := g.opt hlo
        have eh := g.opt hhi
        have em : mx = none := by
          rcases g.opt hmx with ⟨_, h⟩ | ⟨_, _, h, _⟩
          · exact h
          · cases h
        subst em
        simp only [execOp, hop, g.eval hx, sliceAt, Sem.run_bind, under_run ht, Result.andThen_ok, sliceBounds, sureAddr]
        rcases eh with ⟨rfl, rfl⟩ | ⟨zh, κh, rfl, eh⟩
        · rcases el with ⟨rfl, rfl⟩ | ⟨zl, κl, rfl, el⟩
          · simp [size_run hz]
          · simp only [Option.getD_none, Option.getD_some] at h0 h1 h2
            simp [el, size_run hz, sliceBound_run _ _ _ _ h0 h1]
        · rcases el with ⟨rfl, rfl⟩ | ⟨zl, κl, rfl, el⟩
          · simp only [Option.getD_none, Option.getD_some] at h0 h1 h2
            simp [eh, size_run hz, sliceBound_run _ _ _ _ h1 h2]
          · simp only [Option.getD_none, Option.getD_some] at h0 h1 h2
            have h1' : zl ≤ (zh.toNat : Int) := by omega
            simp [el, eh, size_run hz, sliceBound_run _ _ _ _ (by omega : 0 ≤ zh) h2, sliceBound_run _ _ _ _ h0 h1']
      · exact h.elim
    · rename_i s lo' hi' ht hx hlo hhi hmx
      obtain ⟨h0, h1, h2, hk⟩ := h
      refine ⟨_, hk, fun w => ?_⟩
      have el := g.opt hlo
      have eh := g.opt hhi
      have em : mx = none := by
        rcases g.opt hmx with ⟨_, h⟩ | ⟨_, _, h, _⟩
        · exact h
        · cases h
      subst em
      simp only [execOp, hop, g.eval hx, sliceAt, Sem.run_bind, under_run ht, Result.andThen_ok, slice, sliceBounds]
      rcases eh with ⟨rfl, rfl⟩ | ⟨zh, κh, rfl, eh⟩
      · rcases el with ⟨rfl, rfl⟩ | ⟨zl, κl, rfl, el⟩
        · simp
        · simp only [Option.getD_none, Option.getD_some] at h0 h1 h2
          simp [el, sliceBound_run _ _ _ _ h0 h1]
      · rcases el with ⟨rfl, rfl⟩ | ⟨zl, κl, rfl, el⟩
        · simp only [Option.getD_none, Option.getD_some] at h0 h1 h2
          simp [eh, sliceBound_run _ _ _ _ h1 h2]
        · simp only [Option.getD_none, Option.getD_some] at h0 h1 h2
          have h1' : zl ≤ (zh.toNat : Int) := by omega
          simp [el, eh, sliceBound_run _ _ _ _ (by omega : 0 ≤ zh) h2, sliceBound_run _ _ _ _ h0 h1']
    · exact h.elim
  · -- build
    rename_i t parts hop
    split at h
    · rename_i fs zero ps ht hz hp
      split at h
      · rename_i pl hpl
        obtain ⟨cs, hf, hk⟩ := fillVC_sound h
        refine ⟨_, hk, fun w => ?_⟩
        obtain ⟨zv, hzr, hzc⟩ := zero_run hz w
        have hpt : (parts.map fun p => (p.1, a.eval p.2)).toList = ps := by rw [g.partsA hp]
        have hfl := fieldsE_run hpl w
        have hzc' : zv.cells = zero.toArray := by rw [← hzc]
        simp only [execOp, hop, build, Sem.run_bind, hzr, Result.andThen_ok, under_run ht, Array.mapM_eq_mapM_toList, Sem.run_map, hfl, hpt, hzc']
        have hpl' : (fun x => pl.toArray[x]?) = placeL pl := by funext x; simp [placeL]
        rw [hpl', hf]
        rfl
      · exact h.elim
    · rename_i len e zero ps ht hz hp
      split at h
      · rename_i sz hsz
        obtain ⟨cs, hf, hk⟩ := fillVC_sound h
        refine ⟨_, hk, fun w => ?_⟩
        obtain ⟨zv, hzr, hzc⟩ := zero_run hz w
        have hpt : (parts.map fun p => (p.1, a.eval p.2)).toList = ps := by rw [g.partsA hp]
        have hzc' : zv.cells = zero.toArray := by rw [← hzc]
        simp only [execOp, hop, build, Sem.run_bind, hzr, Result.andThen_ok, under_run ht, size_run hsz, hpt, hzc', hf]
        rfl
      · exact h.elim
    · exact h.elim
  · -- makeFunc
    rename_i fn first cap hop
    split at h
    · rename_i x y hx hy
      exact ⟨_, h, fun w => by simp [execOp, hop, makeFunc, g.evalsA hx, g.evalsA hy]⟩
    · exact h.elim
  · -- sliceToArrayPointer
    rename_i t x hop
    split at h
    · rename_i len e A m c ht hv
      exact ⟨_, h.2, fun w => by simp [execOp, hop, g.eval hv, arrayAt, under_run ht, Nat.not_lt.2 h.1]⟩
    · exact h.elim
  · -- call of a builtin
    rename_i c hop
    split at h
    · rename_i A m cp hc hv
      split at h
      · rename_i e ht
        obtain ⟨t, ht0, ht1⟩ := Option.bind_eq_some_iff.1 ht
        refine ⟨_, h, fun w => ?_⟩
        have hargs := g.evalsA hv
        simp [execOp, hop, resolve, hc, hargs, invoke, builtin, Builtin.len_, ht0, under_run ht1, goInt]
      · exact h.elim
    · rename_i s hc hv
      split at h
      · rename_i ht
        obtain ⟨t, ht0, ht1⟩ := Option.bind_eq_some_iff.1 ht
        refine ⟨_, h, fun w => ?_⟩
        have hargs := g.evalsA hv
        simp [execOp, hop, resolve, hc, hargs, invoke, builtin, Builtin.len_, ht0, under_run ht1, goInt]
      · exact h.elim
    · rename_i κ x κ' y hc hv
      refine ⟨_, h, fun w => ?_⟩
      have hargs := g.evalsA hv
      simp [execOp, hop, resolve, hc, hargs, invoke, builtin, Builtin.max_, Builtin.max2, maxI]
    · rename_i κ x κ' y hc hv
      refine ⟨_, h, fun w => ?_⟩
      have hargs := g.evalsA hv
      simp [execOp, hop, resolve, hc, hargs, invoke, builtin, Builtin.min_, Builtin.min2, minI]
    · exact h.elim
  · exact h.elim
end
end Go.Oct
