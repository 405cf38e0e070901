/- A step of the road to this law: a generator of conditions over the model of the code, or a lemma on rows in the heap. No conditions. -/
import Derived.Test.YtkhlollengamdaaXOctD
import Derived.Test.YtkhlollengamdaaWTab
set_option linter.unusedSimpArgs false
set_option linter.unusedVariables false
namespace Go.Oct
open Go.Proofs.YtkhlollengamdaaW.PrintLast (rtab anyT takeT readyT any_of take_of one_of two_of three_of done_of start_ pure_ take_ one_ two_ three_ last_ done_ wpAnyLast)

/-- What a piece of code that writes the slots D leaves alone. -/
structure Fr (D : List Nat) (a0 : Act) (w0 : World) (a : Act) (w : World) : Prop where
  tmps : ∀ i, i ∉ D → a.tmps[i]? = a0.tmps[i]?
  defers : a.defers = a0.defers
  same : Same w0 w
theorem Fr.refl (D : List Nat) (a : Act) (w : World) : Fr D a w a w := ⟨fun _ _ => rfl, rfl, Same.refl w⟩
theorem Fr.put {D : List Nat} {a0 a : Act} {w0 w w' : World} (f : Fr D a0 w0 a w) {d : Option Tmp} (hd : ∀ t, d = some t → t ∈ D) (v : Value) (hs : Same w w') : Fr D a0 w0 (a.put d v) w' := by
  cases d with
  | none => exact ⟨f.tmps, f.defers, f.same.trans hs⟩
  | some d =>
    refine ⟨fun i hi => ?_, f.defers, f.same.trans hs⟩
    have : d ≠ i := fun e => hi (by rw [← e]; exact hd d rfl)
    simp only [Act.put, Array.getElem?_setIfInBounds, this, if_false]
    exact f.tmps i hi
theorem Fr.mono {D D' : List Nat} {a0 a : Act} {w0 w : World} (f : Fr D a0 w0 a w) (h : ∀ i, i ∈ D → i ∈ D') : Fr D' a0 w0 a w := ⟨fun i hi => f.tmps i (fun e => hi (h i e)), f.defers, f.same⟩
theorem Fr.trans {D : List Nat} {a0 a1 a2 : Act} {w0 w1 w2 : World} (f : Fr D a0 w0 a1 w1) (g : Fr D a1 w1 a2 w2) : Fr D a0 w0 a2 w2 :=
  ⟨fun i hi => (g.tmps i hi).trans (f.tmps i hi), g.defers.trans f.defers, f.same.trans g.same⟩

section
variable {P : Program} {n : Nat} {Q : Exit → Act → World → Prop}

theorem yielded_of {all : List Oper} {j : Nat} {t : Tmp} {a : Act} {env : Env} {v : Value} (hs : slotOf all j = some t) (g : Ag n env a) (hv : getE env t = some v) :
    yielded all.toArray a.tmps j = match v with | .bool b => some b | _ => none := by
  have h1 : ((all.toArray[j]?).bind (·.dst)) = some t := by simpa [slotOf] using hs
  have h2 := g.known t v hv
  unfold yielded
  rw [h1]
  simp only [Option.bind_some, h2]
  cases v <;> rfl
theorem wanted_none {o : Oper} (hg : o.guard = none) (y : Nat → Option Bool) : Region.wanted o y = true := by simp [Region.wanted, hg]
theorem wanted_some {o : Oper} {j : Nat} {want : Bool} (hg : o.guard = some (j, want)) (y : Nat → Option Bool) : Region.wanted o y = (y j == some want) := by simp [Region.wanted, hg]

/-- An operation, guarded or not: what is to be shown of it. -/
theorem guard_sound {all : List Oper} {o : Oper} {env : Env} {exec skip : Env → Prop} (h : guardVC all o env exec skip) {a : Act} (g : Ag n env a) {goal : Prop}
    (h1 : ∀ env', Ag n env' a → exec env' → Region.wanted o (yielded all.toArray a.tmps) = true → goal)
    (h0 : ∀ env', Ag n env' a → skip env' → Region.wanted o (yielded all.toArray a.tmps) = false → goal) : goal := by
  unfold guardVC at h
  split at h
  · rename_i hg
    exact h1 env g h (wanted_none hg _)
  · rename_i j want hg
    split at h
    · exact h.elim
    · rename_i t hs
      split at h
      · rename_i b hb
        have hy := yielded_of hs g hb
        cases b
        · have g' := g.known_bool hb
          simp only [ifB] at h
          cases want
          · exact h1 _ g' h (by rw [wanted_some hg, hy]; rfl)
          · exact h0 _ g' h (by rw [wanted_some hg, hy]; rfl)
        · have g' := g.known_bool hb
          simp only [ifB] at h
          cases want
          · exact h0 _ g' h (by rw [wanted_some hg, hy]; rfl)
          · exact h1 _ g' h (by rw [wanted_some hg, hy]; rfl)
      · rename_i vs hb
        have hy := yielded_of hs g hb
        exact h0 env g h (by rw [wanted_some hg, hy]; cases want <;> rfl)
      · exact h.elim

theorem op_sound {o : Oper} {env : Env} {hp : H} {k : Value → H → Prop} {a : Act} {w : World} {next : Act → World → Prop} (h : opVC P o env hp k) (g : Ag n env a) (hw : w.heap = hp)
    (hk : ∀ v w', Same w w' → k v w'.heap → next (a.put o.dst v) w') : o.wp P a w next Q := by
  unfold opVC at h
  split at h
  · obtain ⟨v, hv, hr⟩ := pure_sound h g
    exact wp_val (hr w) (hk v w (Same.refl w) (by rw [hw]; exact hv))
  · exact eff_sound h g hw hk

theorem vcOps_guard (all : List Oper) (o : Oper) (r : List Oper) (env : Env) (h : H) (k : Env → H → Prop) (hv : vcOps P n all (o :: r) env h k) :
    dstOk n o.dst = true ∧ guardVC all o env (fun env => opVC P o env h fun v h' => vcOps P n all r (putE env o.dst v) h' k) (fun env => vcOps P n all r (putE env o.dst undef) h k) := by
  unfold vcOps at hv
  split at hv
  · exact hv.elim
  · rename_i hd
    refine ⟨hd, ?_⟩
    unfold guardVC
    exact hv

theorem vcOps_sound (all : List Oper) (D : List Nat) (hD : ∀ o ∈ all, ∀ t, o.dst = some t → t ∈ D) (a0 : Act) (w0 : World) : ∀ (l : List Oper) (env : Env) (h : H) (k : Env → H → Prop) (a : Act) (w : World), (∀ o ∈ l, o ∈ all) → vcOps P n all l env h k →
    Ag n env a → w.heap = h → Fr D a0 w0 a w → (∀ a' env' w', Ag n env' a' → Fr D a0 w0 a' w' → k env' w'.heap → Q .normal a' w') → wpList P all.toArray Q l a w
  | [], env, h, k, a, w, _, hv, g, hw, f, hq => by
    subst hw
    exact wpList_nil (hq a env w g f hv)
  | o :: r, env, h, k, a, w, hl, hv, g, hw, f, hq => by
    obtain ⟨hd, hg⟩ := vcOps_guard all o r env h k hv
    have hin : ∀ t, o.dst = some t → t ∈ D := hD o (hl o (by simp))
    refine wpList_step fun K hK => ?_
    refine guard_sound hg g (fun env' g' he hwt => ?_) (fun env' g' he hwt => ?_)
    · rw [if_pos hwt]
      exact op_sound he g' hw fun v w' hs hk => hK _ _ (vcOps_sound all D hD a0 w0 r _ _ k _ _ (fun o ho => hl o (by simp [ho])) hk (g'.put hd v) rfl (f.put hin v hs) hq)
    · rw [hwt]
      simp only [Bool.false_eq_true, if_false]
      exact hK _ _ (vcOps_sound all D hD a0 w0 r _ _ k _ _ (fun o ho => hl o (by simp [ho])) he (g'.put hd undef) hw (f.put hin undef (Same.refl w)) hq)

/-! ### a region of open order -/
def stepOk (T : Bool × List (List Nat × List Nat)) (ds : List Nat) (l : List Bool) (ok : Bool) : Stp → Bool
  | .pure i => anyT T l (l.set i true) i
  | .take i => ok && takeT T ds l (l.set i true) i
  | .one i => ok && ((readyT T.2 l == [i] && l.set i true == l.set i true) && !memN i ds)
  | .last i => (readyT T.2 l == [i] && l.set i true == l.set i true) && memN i ds
def stepNo : Stp → Nat
  | .pure i => i
  | .take i => i
  | .one i => i
  | .last i => i
def stepLast : Stp → Bool
  | .last _ => true
  | _ => false
def planGo (T : Bool × List (List Nat × List Nat)) (ds : List Nat) : List Bool → Bool → Tr → Bool
  | l, _, .done => readyT T.2 l == []
  | l, ok, .st s r => stepOk T ds l ok s && planGo T ds (l.set (stepNo s) true) (ok && !stepLast s) r
  | l, ok, .two i j a b => ok && (readyT T.2 l == [i, j] && l.set i true == l.set i true && l.set j true == l.set j true) && !memN i ds && !memN j ds && planGo T ds (l.set i true) ok a && planGo T ds (l.set j true) ok b
  | l, ok, .three i j k a b c => ok && (readyT T.2 l == [i, j, k] && l.set i true == l.set i true && l.set j true == l.set j true && l.set k true == l.set k true) && !memN i ds && !memN j ds && !memN k ds && planGo T ds (l.set i true) ok a && planGo T ds (l.set j true) ok b && planGo T ds (l.set k true) ok c
def Tr.fits : Tr → Nat → Bool
  | .done, _ => true
  | .st _ r, m + 1 => r.fits m
  | .two _ _ a b, m + 1 => a.fits m && b.fits m
  | .three _ _ _ a b c, m + 1 => a.fits m && (b.fits m && c.fits m)
  | _, 0 => false
def checkPlan (all : List Oper) (ds : List Nat) (steps : Tr) : Bool :=
  planGo (rtab .any all.toArray) ds (List.replicate all.length false) true steps && steps.fits all.length

theorem memN_iff {i : Nat} : ∀ {l : List Nat}, memN i l = true ↔ i ∈ l
  | [] => by simp [memN]
  | j :: r => by
    unfold memN
    split
    · rename_i h; simp [beq_iff.1 h]
    · rename_i h
      have : i ≠ j := fun e => by rw [beq_iff.2 e] at h; cases h
      simp [memN_iff (l := r), this]

theorem load_take {S : H → Prop} {o : Oper} {env : Env} {k : Value → Prop} {a : Act} (h : takeVC P S o env k) (g : Ag n env a) : ∃ v, k v ∧ ∀ w : World, S w.heap → (execOp a.eval o).run P w = .ok (.value v) w := by
  unfold takeVC at h
  split at h
  · rename_i t x hop
    split at h
    · rename_i m p ht hz hx
      obtain ⟨ad, cs, rfl, hs, hc, hk'⟩ := h
      subst hs
      refine ⟨_, hk', fun w hw => ?_⟩
      simp [execOp, hop, g.eval hx, Instr.loadAt, Instr.sureAddr, loadVar, agg_run ht, size_run hz, cells_run w ad cs (hc _ hw)]
    · rename_i m p ht hz hx
      obtain ⟨ad, v, rfl, hc, hk'⟩ := h
      refine ⟨_, decode1_sound hk', fun w hw => ?_⟩
      simp [execOp, hop, g.eval hx, Instr.loadAt, Instr.sureAddr, loadVar, agg_run ht, cell_heap, hc _ hw]
    · exact h.elim
  · exact h.elim

/-- one operation's step, of those that may come up -/
theorem one_step {all : List Oper} {D : List Nat} (hD : ∀ o ∈ all, ∀ t, o.dst = some t → t ∈ D) {a0 : Act} {w0 : World} {S : H → Prop} {i : Nat} {env : Env} {a : Act} {w : World} {K : Env → H → Prop} {G : Act → World → Prop}
    (hv : oneVC P n all S i env w.heap K) (g : Ag n env a) (f : Fr D a0 w0 a w) (hS : S w.heap)
    (hG : ∀ env' a' w', Ag n env' a' → Fr D a0 w0 a' w' → S w'.heap → K env' w'.heap → G a' w') :
    ∃ o, all[i]? = some o ∧ ∀ K' : Act → World → Prop, (∀ a' w', S w'.heap → (S w'.heap → G a' w') → K' a' w') → if Region.wanted o (yielded all.toArray a.tmps) = true then Oper.wp P o a w K' Q else K' (a.put o.dst undef) w := by
  unfold oneVC at hv
  split at hv
  · exact hv.elim
  · rename_i o ho
    refine ⟨o, ho, fun K' hK => ?_⟩
    have hin : ∀ t, o.dst = some t → t ∈ D := hD o (List.mem_of_getElem? ho)
    split at hv
    · rename_i hd
      refine guard_sound hv g (fun env' g' he hwt => ?_) (fun env' g' he hwt => ?_)
      · rw [if_pos hwt]
        refine op_sound he g' rfl fun v w' hs hk => ?_
        exact hK _ _ hk.1 fun _ => hG _ _ _ (g'.put hd v) (f.put hin v hs) hk.1 hk.2
      · rw [hwt]
        simp only [Bool.false_eq_true, if_false]
        exact hK _ _ hS fun _ => hG _ _ _ (g'.put hd undef) (f.put hin undef (Same.refl w)) hS he
    · exact hv.elim

theorem chain_sound (all : List Oper) (D : List Nat) (hD : ∀ o ∈ all, ∀ t, o.dst = some t → t ∈ D) (a0 : Act) (w0 : World) (S : H → Prop) (ds : List Nat) (hQp : ∀ c a w, ¬ Q (.panic c) a w) {T : Bool × List (List Nat × List Nat)} (hT : rtab .any all.toArray = T) :
    ∀ (steps : Tr) (m : Nat) (l : List Bool) (ok : Bool) (env : Env) (h : H) (k : Env → H → Prop) (a : Act) (w : World), steps.fits m = true → planGo T ds l ok steps = true → chainVC P n all S steps env h k →
    Ag n env a → w.heap = h → Fr D a0 w0 a w → (ok = true → S h) → (∀ a' env' w', Ag n env' a' → Fr D a0 w0 a' w' → k env' w'.heap → Q .normal a' w') →
    wpAnyLast P .any all.toArray Q (fun w => S w.heap) ds m l.toArray a w
  | .done, m, l, ok, env, h, k, a, w, hm, hp, hv, g, hw, f, hS, hq => by
    subst hw
    unfold planGo at hp
    exact done_ (done_of hT (by simpa using hp)) (hq a env w g f hv)
  | .two i j ta tb, 0, l, ok, env, h, k, a, w, hm, hp, hv, g, hw, f, hS, hq => by simp [Tr.fits] at hm
  | .three i j p ta tb tc, 0, l, ok, env, h, k, a, w, hm, hp, hv, g, hw, f, hS, hq => by simp [Tr.fits] at hm
  | .st st r, 0, l, ok, env, h, k, a, w, hm, hp, hv, g, hw, f, hS, hq => by simp [Tr.fits] at hm
  | .two i j ta tb, m + 1, l, ok, env, h, k, a, w, hm, hp, hv, g, hw, f, hS, hq => by
    subst hw
    simp only [Tr.fits, Bool.and_eq_true] at hm
    simp only [planGo, Bool.and_eq_true, Bool.not_eq_true'] at hp
    obtain ⟨⟨⟨⟨⟨hok, hrd⟩, hi⟩, hj⟩, hpa⟩, hpb⟩ := hp
    have hSw := hS hok
    obtain ⟨oi, hoi, ki⟩ := one_step (Q := Q) (G := fun a' w' => wpAnyLast P .any all.toArray Q (fun w => S w.heap) ds m (l.set i true).toArray a' w') hD hv.1 g f hSw fun env' a' w' g' f' hs hk => chain_sound all D hD a0 w0 S ds hQp hT ta m _ ok _ _ k _ _ hm.1 hpa hk g' rfl f' (fun _ => hs) hq
    obtain ⟨oj, hoj, kj⟩ := one_step (Q := Q) (G := fun a' w' => wpAnyLast P .any all.toArray Q (fun w => S w.heap) ds m (l.set j true).toArray a' w') hD hv.2 g f hSw fun env' a' w' g' f' hs hk => chain_sound all D hD a0 w0 S ds hQp hT tb m _ ok _ _ k _ _ hm.2 hpb hk g' rfl f' (fun _ => hs) hq
    have ni : i ∉ ds := fun e => by rw [memN_iff.2 e] at hi; cases hi
    have nj : j ∉ ds := fun e => by rw [memN_iff.2 e] at hj; cases hj
    exact two_ (i := i) (j := j) (l.set i true).toArray (l.set j true).toArray (by simpa using hoi) (by simpa using hoj) rfl rfl (two_of hT (by simpa using hrd)) ni nj (fun K hK => ki K hK) (fun K hK => kj K hK)
  | .three i j p ta tb tc, m + 1, l, ok, env, h, k, a, w, hm, hp, hv, g, hw, f, hS, hq => by
    subst hw
    simp only [Tr.fits, Bool.and_eq_true] at hm
    simp only [planGo, Bool.and_eq_true, Bool.not_eq_true'] at hp
    obtain ⟨⟨⟨⟨⟨⟨⟨hok, hrd⟩, hi⟩, hj⟩, hp'⟩, hpa⟩, hpb⟩, hpc⟩ := hp
    have hSw := hS hok
    obtain ⟨oi, hoi, ki⟩ := one_step (Q := Q) (G := fun a' w' => wpAnyLast P .any all.toArray Q (fun w => S w.heap) ds m (l.set i true).toArray a' w') hD hv.1 g f hSw fun env' a' w' g' f' hs hk => chain_sound all D hD a0 w0 S ds hQp hT ta m _ ok _ _ k _ _ hm.1 hpa hk g' rfl f' (fun _ => hs) hq
    obtain ⟨oj, hoj, kj⟩ := one_step (Q := Q) (G := fun a' w' => wpAnyLast P .any all.toArray Q (fun w => S w.heap) ds m (l.set j true).toArray a' w') hD hv.2.1 g f hSw fun env' a' w' g' f' hs hk => chain_sound all D hD a0 w0 S ds hQp hT tb m _ ok _ _ k _ _ hm.2.1 hpb hk g' rfl f' (fun _ => hs) hq
    obtain ⟨op, hop, kp⟩ := one_step (Q := Q) (G := fun a' w' => wpAnyLast P .any all.toArray Q (fun w => S w.heap) ds m (l.set p true).toArray a' w') hD hv.2.2 g f hSw fun env' a' w' g' f' hs hk => chain_sound all D hD a0 w0 S ds hQp hT tc m _ ok _ _ k _ _ hm.2.2 hpc hk g' rfl f' (fun _ => hs) hq
    have ni : i ∉ ds := fun e => by rw [memN_iff.2 e] at hi; cases hi
    have nj : j ∉ ds := fun e => by rw [memN_iff.2 e] at hj; cases hj
    have np : p ∉ ds := fun e => by rw [memN_iff.2 e] at hp'; cases hp'
    exact three_ (i := i) (j := j) (k := p) (l.set i true).toArray (l.set j true).toArray (l.set p true).toArray (by simpa using hoi) (by simpa using hoj) (by simpa using hop) rfl rfl rfl (three_of hT (by simpa using hrd)) ni nj np (fun K hK => ki K hK) (fun K hK => kj K hK) (fun K hK => kp K hK)
  | .st st r, m + 1, l, ok, env, h, k, a, w, hm, hp, hv, g, hw, f, hS, hq => by
    unfold planGo at hp
    rw [Bool.and_eq_true] at hp
    obtain ⟨hst, hrest⟩ := hp
    subst hw
    unfold chainVC at hv
    cases st with
    | pure i =>
      simp only at hv
      split at hv
      · exact hv.elim
      · rename_i o ho
        have hin : ∀ t, o.dst = some t → t ∈ D := hD o (List.mem_of_getElem? ho)
        split at hv
        · rename_i hd hpu
          have hstep : anyT T l (l.set i true) i = true := hst
          refine guard_sound hv g (fun env' g' he hwt => ?_) (fun env' g' he hwt => ?_)
          · obtain ⟨v, hk, hr⟩ := pure_sound he g'
            exact pure_ (i := i) (l.set i true).toArray (by simpa using ho) rfl (any_of hT (by simpa using hstep)) (fun c a w hx => (hQp _ _ _ hx).elim) (.inl ⟨hwt, hr⟩) rfl
              (chain_sound all D hD a0 w0 S ds hQp hT r m _ _ _ _ k _ _ hm hrest hk (g'.put hd v) rfl (f.put hin v (Same.refl w)) (fun e => hS (by simpa [stepLast] using e)) hq)
          · exact pure_ (i := i) (l.set i true).toArray (by simpa using ho) rfl (any_of hT (by simpa using hstep)) (fun c a w hx => (hQp _ _ _ hx).elim) (.inr ⟨hwt, rfl⟩) rfl
              (chain_sound all D hD a0 w0 S ds hQp hT r m _ _ _ _ k _ _ hm hrest he (g'.put hd undef) rfl (f.put hin undef (Same.refl w)) (fun e => hS (by simpa [stepLast] using e)) hq)
        · exact hv.elim
    | take i =>
      simp only at hv
      split at hv
      · exact hv.elim
      · rename_i o ho
        have hin : ∀ t, o.dst = some t → t ∈ D := hD o (List.mem_of_getElem? ho)
        split at hv
        · rename_i hd
          have hstep : ok = true ∧ takeT T ds l (l.set i true) i = true := by simpa [stepOk] using hst
          have hSw := hS hstep.1
          refine guard_sound hv g (fun env' g' he hwt => ?_) (fun env' g' he hwt => ?_)
          · obtain ⟨v, hk, hr⟩ := load_take he g'
            exact take_ (i := i) (l.set i true).toArray (by simpa using ho) rfl (take_of hT (by simpa using hstep.2)) (fun c a w hx => (hQp _ _ _ hx).elim) (.inl ⟨hwt, hr⟩) hSw rfl
              (chain_sound all D hD a0 w0 S ds hQp hT r m _ _ _ _ k _ _ hm hrest hk (g'.put hd v) rfl (f.put hin v (Same.refl w)) (fun _ => hSw) hq)
          · exact take_ (i := i) (l.set i true).toArray (by simpa using ho) rfl (take_of hT (by simpa using hstep.2)) (fun c a w hx => (hQp _ _ _ hx).elim) (.inr ⟨hwt, rfl⟩) hSw rfl
              (chain_sound all D hD a0 w0 S ds hQp hT r m _ _ _ _ k _ _ hm hrest he (g'.put hd undef) rfl (f.put hin undef (Same.refl w)) (fun _ => hSw) hq)
        · exact hv.elim
    | one i =>
      have hstep0 : ok = true ∧ readyT T.2 l = [i] ∧ memN i ds = false := by simpa [stepOk] using hst
      have hstep := hstep0.2
      have hSw := hS hstep0.1
      have hni : i ∉ ds := fun e => by rw [memN_iff.2 e] at hstep; cases hstep.2
      obtain ⟨oi, hoi, ki⟩ := one_step (Q := Q) (G := fun a' w' => wpAnyLast P .any all.toArray Q (fun w => S w.heap) ds m (l.set i true).toArray a' w') hD hv g f hSw fun env' a' w' g' f' hs hk => chain_sound all D hD a0 w0 S ds hQp hT r m _ _ _ _ k _ _ hm hrest hk g' rfl f' (fun _ => hs) hq
      exact one_ (i := i) (l.set i true).toArray (by simpa using hoi) rfl (one_of hT (by simp [hstep.1])) hni (fun K hK => ki K hK)
    | last i =>
      simp only at hv
      split at hv
      · exact hv.elim
      · rename_i o ho
        have hin : ∀ t, o.dst = some t → t ∈ D := hD o (List.mem_of_getElem? ho)
        split at hv
        · rename_i hd
          have hstep : readyT T.2 l = [i] ∧ memN i ds = true := by simpa [stepOk] using hst
          have hni : i ∈ ds := memN_iff.1 hstep.2
          refine last_ (i := i) (l.set i true).toArray (by simpa using ho) rfl (one_of hT (by simp [hstep.1])) hni (fun K hK => ?_)
          refine guard_sound hv g (fun env' g' he hwt => ?_) (fun env' g' he hwt => ?_)
          · rw [if_pos hwt]
            refine op_sound he g' rfl fun v w' hs hk => ?_
            refine hK _ _ ?_
            exact chain_sound all D hD a0 w0 S ds hQp hT r m _ _ _ _ k _ _ hm hrest hk (g'.put hd v) rfl (f.put hin v hs) (fun e => by simp [stepLast] at e) hq
          · rw [hwt]
            simp only [Bool.false_eq_true, if_false]
            refine hK _ _ ?_
            exact chain_sound all D hD a0 w0 S ds hQp hT r m _ _ _ _ k _ _ hm hrest he (g'.put hd undef) rfl (f.put hin undef (Same.refl w)) (fun e => by simp [stepLast] at e) hq
        · exact hv.elim

/-! ### code -/
theorem getE_drop {D : List Nat} : ∀ {env : Env} {i : Nat} {v : Value}, getE (dropE D env) i = some v → i ∉ D ∧ getE env i = some v
  | [], i, v, h => by simp [dropE, getE] at h
  | p :: r, i, v, h => by
    unfold dropE at h
    split at h
    · rename_i hm
      obtain ⟨h1, h2⟩ := getE_drop h
      refine ⟨h1, ?_⟩
      rw [getE_cons, if_neg]
      · exact h2
      · intro e; subst e; exact h1 (memN_iff.1 hm)
    · rename_i hm
      rw [getE_cons] at h
      by_cases hi : i = p.1
      · rw [if_pos hi] at h
        refine ⟨fun e => ?_, by rw [getE_cons, if_pos hi]; exact h⟩
        rw [hi] at e
        rw [memN_iff.2 e] at hm
        cases hm
      · rw [if_neg hi] at h
        obtain ⟨h1, h2⟩ := getE_drop h
        exact ⟨h1, by rw [getE_cons, if_neg hi]; exact h2⟩
theorem getE_zip : ∀ {L : List (Nat × CK)} {vs : List Value} {env2 env : Env} {i : Nat} {v : Value}, slotVals env2 L = some vs → getE (zipE L vs ++ env) i = some v → getE env2 i = some v ∨ getE env i = some v
  | [], vs, env2, env, i, v, hs, h => by
    simp only [slotVals, Option.some.injEq] at hs
    subst hs
    right
    simpa [zipE] using h
  | p :: r, vs, env2, env, i, v, hs, h => by
    unfold slotVals at hs
    split at hs
    · rename_i u l h1 h2
      simp only [Option.some.injEq] at hs
      subst hs
      simp only [zipE, List.cons_append, getE_cons] at h
      by_cases hi : i = p.1
      · rw [if_pos hi] at h
        left
        rw [hi, h1]
        exact h
      · rw [if_neg hi] at h
        exact getE_zip h2 h
    · cases hs
/-- The frame where ways have met. -/
theorem Ag.meet {D : List Nat} {L : List (Nat × CK)} {vs : List Value} {env env2 : Env} {a0 a : Act} {w0 w : World} (g0 : Ag n env a0) (g : Ag n env2 a) (f : Fr D a0 w0 a w) (hs : slotVals env2 L = some vs) : Ag n (zipE L vs ++ dropE D env) a :=
  ⟨g.size, fun i v hv => by
    rcases getE_zip hs hv with h | h
    · exact g.known i v h
    · obtain ⟨h1, h2⟩ := getE_drop h
      rw [f.tmps i h1]
      exact g0.known i v h2⟩

theorem curry_apply : ∀ (ks : List CK) (J : JT ks) (f : List Value → H → Prop) (vs : List Value) (h : H), leT ks J (curryT ks f) → applyT ks J vs h → f vs h
  | [], J, f, [], h, hl, ha => hl h ha
  | [], J, f, _ :: _, h, hl, ha => ha.elim
  | _ :: _, J, f, [], h, hl, ha => by rename_i k r; cases k <;> exact ha.elim
  | .int κ :: r, J, f, v :: vs, h, hl, ha => by
    cases v <;> first | exact ha.elim | skip
    rename_i κ' x
    simp only [applyT] at ha
    split at ha
    · rename_i hk
      have := of_decide_eq_true hk
      subst this
      exact curry_apply r (J x) (fun vs => f (.int κ x :: vs)) vs h (hl x) ha
    · exact ha.elim
  | .bool :: r, J, f, v :: vs, h, hl, ha => by
    cases v <;> first | exact ha.elim | exact curry_apply r (J _) (fun vs => f (.bool _ :: vs)) vs h (hl _) ha
  | .str :: r, J, f, v :: vs, h, hl, ha => by
    cases v <;> first | exact ha.elim | exact curry_apply r (J _) (fun vs => f (.string _ :: vs)) vs h (hl _) ha
  | .ptr :: r, J, f, v :: vs, h, hl, ha => by
    cases v <;> first | exact ha.elim | exact curry_apply r (J _) (fun vs => f (.pointer _ :: vs)) vs h (hl _) ha
  | .slice :: r, J, f, v :: vs, h, hl, ha => by
    cases v <;> first | exact ha.elim | exact curry_apply r (J _ _ _) (fun vs => f (.slice _ _ _ :: vs)) vs h (hl _ _ _) ha
  | .agg :: r, J, f, v :: vs, h, hl, ha => by
    cases v <;> first | exact ha.elim | exact curry_apply r (J _) (fun vs => f (.agg _ :: vs)) vs h (hl _) ha
  | .func :: r, J, f, v :: vs, h, hl, ha => by
    cases v <;> first | exact ha.elim | skip
    rename_i fn x y
    cases fn <;> first | exact ha.elim | exact curry_apply r (J _ _ _) (fun vs => f (.func (.func _) _ _ :: vs)) vs h (hl _ _ _) ha

def applyM : (ks : List CK) → MT ks → List Value → H → Nat
  | [], m, [], h => m h
  | .int _ :: r, m, .int _ x :: vs, h => applyM r (m x) vs h
  | .bool :: r, m, .bool x :: vs, h => applyM r (m x) vs h
  | .str :: r, m, .string x :: vs, h => applyM r (m x) vs h
  | .ptr :: r, m, .pointer x :: vs, h => applyM r (m x) vs h
  | .slice :: r, m, .slice A n c :: vs, h => applyM r (m A n c) vs h
  | .agg :: r, m, .agg x :: vs, h => applyM r (m x) vs h
  | .func :: r, m, .func (.func f) a b :: vs, h => applyM r (m f a b) vs h
  | _, _, _, _ => 0

theorem and_apply : ∀ (ks : List CK) (I : JT ks) (m : MT ks) (c : Nat) (vs : List Value) (h : H), applyT ks (andT ks I m c) vs h → applyT ks I vs h ∧ applyM ks m vs h < c
  | [], I, m, c, [], h, ha => ha
  | [], I, m, c, _ :: _, h, ha => ha.elim
  | _ :: _, I, m, c, [], h, ha => by rename_i k r; cases k <;> exact ha.elim
  | .int κ :: r, I, m, c, v :: vs, h, ha => by
    cases v <;> first | exact ha.elim | skip
    rename_i κ' x
    simp only [applyT] at ha ⊢
    split at ha
    · exact and_apply r (I x) (m x) c vs h ha
    · exact ha.elim
  | .bool :: r, I, m, c, v :: vs, h, ha => by
    cases v <;> first | exact ha.elim | exact and_apply r (I _) (m _) c vs h ha
  | .str :: r, I, m, c, v :: vs, h, ha => by
    cases v <;> first | exact ha.elim | exact and_apply r (I _) (m _) c vs h ha
  | .ptr :: r, I, m, c, v :: vs, h, ha => by
    cases v <;> first | exact ha.elim | exact and_apply r (I _) (m _) c vs h ha
  | .slice :: r, I, m, c, v :: vs, h, ha => by
    cases v <;> first | exact ha.elim | exact and_apply r (I _ _ _) (m _ _ _) c vs h ha
  | .agg :: r, I, m, c, v :: vs, h, ha => by
    cases v <;> first | exact ha.elim | exact and_apply r (I _) (m _) c vs h ha
  | .func :: r, I, m, c, v :: vs, h, ha => by
    cases v <;> first | exact ha.elim | skip
    rename_i fn x y
    cases fn <;> first | exact ha.elim | exact and_apply r (I _ _ _) (m _ _ _) c vs h ha

theorem round_apply : ∀ (ks : List CK) (I : JT ks) (m : MT ks) (F : Nat → List Value → H → Prop) (vs : List Value) (h : H), roundT ks I m (fun c => curryT ks (F c)) → applyT ks I vs h → F (applyM ks m vs h) vs h
  | [], I, m, F, [], h, hr, ha => hr h ha
  | [], I, m, F, _ :: _, h, hr, ha => ha.elim
  | _ :: _, I, m, F, [], h, hr, ha => by rename_i k r; cases k <;> exact ha.elim
  | .int κ :: r, I, m, F, v :: vs, h, hr, ha => by
    cases v <;> first | exact ha.elim | skip
    rename_i κ' x
    simp only [applyT] at ha
    split at ha
    · rename_i hk
      have := of_decide_eq_true hk
      subst this
      exact round_apply r (I x) (m x) (fun c vs => F c (.int κ x :: vs)) vs h (hr x) ha
    · exact ha.elim
  | .bool :: r, I, m, F, v :: vs, h, hr, ha => by
    cases v <;> first | exact ha.elim | exact round_apply r (I _) (m _) (fun c vs => F c (.bool _ :: vs)) vs h (hr _) ha
  | .str :: r, I, m, F, v :: vs, h, hr, ha => by
    cases v <;> first | exact ha.elim | exact round_apply r (I _) (m _) (fun c vs => F c (.string _ :: vs)) vs h (hr _) ha
  | .ptr :: r, I, m, F, v :: vs, h, hr, ha => by
    cases v <;> first | exact ha.elim | exact round_apply r (I _) (m _) (fun c vs => F c (.pointer _ :: vs)) vs h (hr _) ha
  | .slice :: r, I, m, F, v :: vs, h, hr, ha => by
    cases v <;> first | exact ha.elim | exact round_apply r (I _ _ _) (m _ _ _) (fun c vs => F c (.slice _ _ _ :: vs)) vs h (hr _ _ _) ha
  | .agg :: r, I, m, F, v :: vs, h, hr, ha => by
    cases v <;> first | exact ha.elim | exact round_apply r (I _) (m _) (fun c vs => F c (.agg _ :: vs)) vs h (hr _) ha
  | .func :: r, I, m, F, v :: vs, h, hr, ha => by
    cases v <;> first | exact ha.elim | skip
    rename_i fn x y
    cases fn <;> first | exact ha.elim | exact round_apply r (I _ _ _) (m _ _ _) (fun c vs => F c (.func (.func _) _ _ :: vs)) vs h (hr _ _ _) ha

def Post (n : Nat) (D : List Nat) (a : Act) (w : World) (N R : Env → H → Prop) (X : Nat → Env → H → Prop) : Exit → Act → World → Prop
  | .normal, a', w' => Fr D a w a' w' ∧ ∃ env', Ag n env' a' ∧ N env' w'.heap
  | .ret, a', w' => Fr D a w a' w' ∧ ∃ env', Ag n env' a' ∧ R env' w'.heap
  | .exit i, a', w' => Fr D a w a' w' ∧ ∃ env', Ag n env' a' ∧ X i env' w'.heap
  | _, _, _ => False
/-- From a later point, and with fewer slots written. -/
theorem Post.of {D D' : List Nat} {a a1 : Act} {w w1 : World} {N R : Env → H → Prop} {X : Nat → Env → H → Prop} (f : Fr D a w a1 w1) (hD : ∀ i, i ∈ D' → i ∈ D) {e : Exit} {a' : Act} {w' : World} (h : Post n D' a1 w1 N R X e a' w') : Post n D a w N R X e a' w' := by
  cases e <;> first | exact h.elim | exact ⟨f.trans (h.1.mono hD), h.2⟩

theorem vc_sound (hm : P.follows .mixedOrders = true) (pl : Plan) : ∀ (c : Code) (env : Env) (h : H) (N R : Env → H → Prop) (X : Nat → Env → H → Prop), vc P n checkPlan pl c env h N R X →
    ∀ (a : Act) (w : World), Ag n env a → w.heap = h → c.wp P (Post n (dsts c) a w N R X) a w := by
  intro c
  induction c with
  | skip =>
    intro env h N R X hv a w g hw
    subst hw
    exact wp_skip ⟨Fr.refl _ _ _, env, g, hv⟩
  | region id ops draw =>
    intro env h N R X hv a w g hw
    have hD : ∀ o ∈ ops.toList, ∀ t, o.dst = some t → t ∈ dstsOps ops.toList := fun o ho t ht => List.mem_filterMap.2 ⟨o, ho, ht⟩
    cases draw with
    | false =>
      have := vcOps_sound (P := P) (n := n) (Q := Post n (dsts (.region id ops false)) a w N R X) ops.toList (dstsOps ops.toList) hD a w ops.toList env h N a w (fun o ho => ho) hv g hw (Fr.refl _ _ _)
        (fun a' env' w' g' f' hk => ⟨f', env', g', hk⟩)
      rw [Array.toArray_toList] at this
      exact wp_region_list this
    | true =>
      simp only [vc] at hv
      split at hv
      · exact hv.elim
      · rename_i ds steps hp
        split at hv
        · rename_i hc
          obtain ⟨S, hS, hch⟩ := hv
          simp only [checkPlan, Bool.and_eq_true] at hc
          subst hw
          have key := chain_sound (P := P) (n := n) (Q := Post n (dsts (.region id ops true)) a w N R X) ops.toList (dstsOps ops.toList) hD a w S ds (fun c a' w' hx => hx) rfl steps _ _ true env w.drew.heap N a w.drew hc.2 hc.1 hch g rfl
            ⟨fun _ _ => rfl, rfl, Same.drew w⟩ (fun _ => hS) (fun a' env' w' g' f' hk => ⟨f', env', g', hk⟩)
          rw [Array.toArray_toList] at key
          refine start_ (n := ops.size) (S := fun w => S w.heap) (ds := ds) (Array.replicate ops.size false) hm rfl rfl hS (fun _ => ?_)
          simpa using key
        · exact hv.elim
  | seq x y ihx ihy =>
    intro env h N R X hv a w g hw
    simp only [vc] at hv
    have hx : ∀ i, i ∈ dsts x → i ∈ dsts (.seq x y) := fun i hi => by simp [dsts, hi]
    have hy : ∀ i, i ∈ dsts y → i ∈ dsts (.seq x y) := fun i hi => by simp [dsts, hi]
    refine wp_seq ?_
    split at hv
    · refine Code.wp_mono ?_ (ihx _ _ _ _ _ hv a w g hw)
      intro e a1 w1 hp
      cases e <;> first
        | exact hp.elim
        | exact Post.of (Fr.refl _ _ _) hx hp
        | (obtain ⟨f, env', g', hn⟩ := hp
           exact Code.wp_mono (fun e a2 w2 hp2 => Post.of (f.mono hx) hy hp2) (ihy _ _ _ _ _ hn a1 w1 g' rfl))
    · rename_i L hL
      obtain ⟨J, hJ, hle⟩ := hv
      refine Code.wp_mono ?_ (ihx _ _ _ _ _ hJ a w g hw)
      intro e a1 w1 hp
      cases e <;> first
        | exact hp.elim
        | exact Post.of (Fr.refl _ _ _) hx hp
        | (obtain ⟨f, env', g', hn⟩ := hp
           split at hn
           · rename_i vs hvs
             have h2 := curry_apply _ J _ vs _ hle hn
             exact Code.wp_mono (fun e a2 w2 hp2 => Post.of (f.mono hx) hy hp2) (ihy _ _ _ _ _ h2 a1 w1 (g.meet g' f hvs) rfl)
           · exact hn.elim)
  | cond cc x y ihx ihy =>
    intro env h N R X hv a w g hw
    simp only [vc] at hv
    have hx : ∀ i, i ∈ dsts x → i ∈ dsts (.cond cc x y) := fun i hi => by simp [dsts, hi]
    have hy : ∀ i, i ∈ dsts y → i ∈ dsts (.cond cc x y) := fun i hi => by simp [dsts, hi]
    split at hv
    · rename_i t
      split at hv
      · rename_i z hz
        have he : a.eval (.tmp t) = .bool z := g.eval (o := .tmp t) hz
        refine wp_cond he ?_
        cases z
        · simp only [ifB] at hv
          exact Code.wp_mono (fun e a2 w2 hp2 => Post.of (Fr.refl _ _ _) hy hp2) (ihy _ _ _ _ _ hv a w (g.known_bool hz) hw)
        · simp only [ifB] at hv
          exact Code.wp_mono (fun e a2 w2 hp2 => Post.of (Fr.refl _ _ _) hx hp2) (ihx _ _ _ _ _ hv a w (g.known_bool hz) hw)
      · exact hv.elim
    · exact wp_cond (t := true) rfl (Code.wp_mono (fun e a2 w2 hp2 => Post.of (Fr.refl _ _ _) hx hp2) (ihx _ _ _ _ _ hv a w g hw))
    · exact wp_cond (t := false) rfl (Code.wp_mono (fun e a2 w2 hp2 => Post.of (Fr.refl _ _ _) hy hp2) (ihy _ _ _ _ _ hv a w g hw))
    · exact hv.elim
  | block id b ih =>
    intro env h N R X hv a w g hw
    refine wp_block (Code.wp_mono ?_ (ih _ _ _ _ _ hv a w g hw))
    intro e a1 w1 hp
    cases e with
    | normal => exact hp
    | ret => exact hp
    | exit i =>
      obtain ⟨f, env', g', hk⟩ := hp
      simp only [Exit.inBlock]
      split at hk
      · rename_i hb
        rw [if_pos (beq_iff.1 hb)]
        exact ⟨f, env', g', hk⟩
      · rename_i hb
        rw [if_neg (fun e => by rw [beq_iff.2 e] at hb; cases hb)]
        exact ⟨f, env', g', hk⟩
    | goto l => exact hp.elim
    | panic c => exact hp.elim
    | outgrown => exact hp.elim
  | loop b ih =>
    intro env h N R X hv a w g hw
    subst hw
    simp only [vc] at hv
    generalize liveL env (dsts b) [] = L at hv
    obtain ⟨I, m, hI, hround'⟩ := hv
    let vals : Act → Option (List Value) := fun a' => L.mapM fun p => a'.tmps[p.1]?
    have hvals : ∀ (env2 : Env) (a2 : Act), Ag n env2 a2 → ∀ (L' : List (Nat × CK)) vs, slotVals env2 L' = some vs → L'.mapM (fun p => a2.tmps[p.1]?) = some vs := by
      intro env2 a2 g2 L'
      induction L' with
      | nil => intro vs h; simp [slotVals] at h; simp [h]
      | cons p r ih2 =>
        intro vs h
        unfold slotVals at h
        split at h
        · rename_i u l h1 h2
          simp only [Option.some.injEq] at h
          subst h
          simp [g2.known _ _ h1, ih2 _ h2]
        · cases h
    refine wp_loop (fun a' w' => Fr (dsts b) a w a' w' ∧ ∃ vs env2, slotVals env2 L = some vs ∧ Ag n env2 a' ∧ applyT (kindsL L) I vs w'.heap) (fun a' w' => applyM (kindsL L) m ((vals a').getD []) w'.heap) ?_ ?_
    · split at hI
      · rename_i vs hvs
        exact ⟨Fr.refl _ _ _, vs, env, hvs, g, hI⟩
      · exact hI.elim
    · rintro a1 w1 ⟨f1, vs, env2, hs2, g2, hap⟩
      have hb := round_apply _ I m _ vs w1.heap hround' hap
      have hv1 : vals a1 = some vs := hvals env2 a1 g2 L vs hs2
      refine Code.wp_mono ?_ (ih _ _ _ _ _ hb a1 w1 (g.meet g2 f1 hs2) rfl)
      intro e a2 w2 hp
      cases e with
      | normal =>
        obtain ⟨f2, env3, g3, hk⟩ := hp
        split at hk
        · rename_i vs3 hvs3
          obtain ⟨h1, h2⟩ := and_apply _ I m _ vs3 _ hk
          refine ⟨⟨f1.trans f2, vs3, env3, hvs3, g3, h1⟩, ?_⟩
          have hv2 : vals a2 = some vs3 := hvals env3 a2 g3 L vs3 hvs3
          show applyM _ m ((vals a2).getD []) _ < applyM _ m ((vals a1).getD []) _
          rw [hv1, hv2]
          exact h2
        · exact hk.elim
      | ret => exact Post.of f1 (fun _ h => h) hp
      | exit i => exact Post.of f1 (fun _ h => h) hp
      | goto l => exact hp.elim
      | panic c => exact hp.elim
      | outgrown => exact hp.elim
  | exit id =>
    intro env h N R X hv a w g hw
    subst hw
    exact wp_exit ⟨Fr.refl _ _ _, env, g, hv⟩
  | scope b ih =>
    intro env h N R X hv a w g hw
    refine wp_scope_straight (Code.wp_mono ?_ (ih _ _ _ _ _ hv a w g hw))
    intro e a1 w1 hp
    cases e <;> exact hp
  | label l =>
    intro env h N R X hv a w g hw
    subst hw
    exact wp_label ⟨Fr.refl _ _ _, env, g, hv⟩
  | ret =>
    intro env h N R X hv a w g hw
    subst hw
    exact wp_ret ⟨Fr.refl _ _ _, env, g, hv⟩
  | rangeFunc f ps x y _ _ => intro env h N R X hv; exact hv.elim
  | goto l => intro env h N R X hv; exact hv.elim
  | refuse s => intro env h N R X hv; exact hv.elim
end
end Go.Oct
