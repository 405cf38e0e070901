/- A step of the road to this law: a generator of conditions over the model of the code, or a lemma on rows in the heap. No conditions. -/
import Derived.Test.YtkhlollengamdaaXOctC
set_option linter.unusedSimpArgs false
set_option linter.unusedVariables false
namespace Go.Oct
open Go.Instr

theorem Same.alloc (w : World) (o : Obj) : Same w (w.alloc o) := ⟨rfl, rfl, rfl⟩
theorem Same.drew (w : World) : Same w w.drew := ⟨rfl, rfl, rfl⟩
theorem Same.setCell (w : World) (a : Addr) (v : Value) : Same w (w.setCell a v) := ⟨rfl, rfl, rfl⟩
theorem cell_heap (w : World) (a : Addr) : w.cell? a = cellH w.heap a := rfl
theorem frozen_heap (w : World) (a : Addr) : w.frozen? a = frozenH w.heap a := rfl
theorem setCell_heap (w : World) (a : Addr) (v : Value) : (w.setCell a v).heap = setH w.heap a v := rfl

section
variable {P : Program} {n : Nat} {env : Env} {a : Act} {o : Oper} {next : Act → World → Prop} {Q : Exit → Act → World → Prop} {w w' : World}

theorem wp_val {v : Value} (hr : (execOp a.eval o).run P w = .ok (.value v) w') (hn : next (a.put o.dst v) w') : o.wp P a w next Q := by
  unfold Oper.wp; rw [hr]; exact hn
theorem wp_skp (hr : (execOp a.eval o).run P w = .ok .skip w') (hn : next (a.put o.dst undef) w') : o.wp P a w next Q := by
  unfold Oper.wp; rw [hr]; exact hn

theorem cells_run (w : World) (ad : Addr) (cs : Array Value) (h : ∀ j, j < cs.size → cellH w.heap (ad.add j) = cs[j]?) : (loadCells ad cs.size).run P w = .ok cs w := by
  have := run_loadCells_list (P := P) w ad cs.toList (fun j v hj => by
    have hlt : j < cs.size := by
      rcases Nat.lt_or_ge j cs.toList.length with h' | h'
      · simpa using h'
      · rw [List.getElem?_eq_none h'] at hj; cases hj
    rw [cell_heap, h j hlt]
    simpa using hj)
  simpa using this

theorem stores_run : ∀ (vs : List Value) (i : Nat) (w : World) (ad : Addr), (∀ v ∈ vs, v.oneCell' = true) → (∀ j, j < vs.length → (∃ u, cellH w.heap (ad.add (i + j)) = some u) ∧ frozenH w.heap (ad.add (i + j)) = false) →
    ∃ w', (storeCells ad vs i).run P w = .ok () w' ∧ Same w w' ∧ w'.heap = setsH w.heap ad vs i
  | [], i, w, ad, _, _ => ⟨w, rfl, Same.refl w, rfl⟩
  | v :: r, i, w, ad, h1, hc => by
    obtain ⟨⟨u, hu⟩, hf⟩ := hc 0 (by simp)
    simp only [Nat.add_zero] at hu hf
    have hst : (store (ad.add i) v).run P w = .ok () (w.setCell (ad.add i) v) := by
      rw [run_store P w _ v _ (h1 v (by simp)), cell_heap, hu]
      simp only [frozen_heap, hf]
      rfl
    obtain ⟨w', hr, hs, hh⟩ := stores_run r (i + 1) (w.setCell (ad.add i) v) ad (fun x hx => h1 x (by simp [hx])) (fun j hj => by
      obtain ⟨⟨u', hu'⟩, hf'⟩ := hc (j + 1) (by simp; omega)
      rw [show i + 1 + j = i + (j + 1) by omega]
      refine ⟨?_, ?_⟩
      · rw [← cell_heap]
        by_cases he : ad.add i = ad.add (i + (j + 1))
        · exact ⟨v, by rw [← he]; exact World.cell?_setCell_same w _ v hu⟩
        · exact ⟨u', by rw [World.cell?_setCell_other w _ _ v he]; exact hu'⟩
      · rw [← frozen_heap, World.frozen?_setCell]
        exact hf')
    refine ⟨w', ?_, (Same.setCell w _ v).trans hs, hh⟩
    simp only [storeCells, Sem.run_bind, hst, Result.andThen_ok, hr]

theorem rows_run (size m : Nat) (A : Option Addr) (l c : Nat) (w : World) (cs : Array Value) (h : RowH w.heap A (m * size) cs) : (Builtin.firstCells size m (.slice A l c)).run P w = .ok cs w := by
  obtain ⟨hs, hc⟩ := h
  cases A with
  | none =>
    have : cs.size = 0 := by
      rcases Nat.eq_zero_or_pos (m * size) with h0 | h0
      · omega
      · obtain ⟨ad, e, _⟩ := hc h0; cases e
    have : cs = #[] := Array.eq_empty_of_size_eq_zero this
    subst this
    simp [Builtin.firstCells]
  | some ad =>
    simp only [Builtin.firstCells]
    rw [← hs]
    refine cells_run w ad cs fun j hj => ?_
    obtain ⟨ad', e, hcell⟩ := hc (by omega)
    cases e
    exact hcell j (by omega)

theorem agg_run {t : TypeId} {b : Bool} (h : aggT P t = some b) (w : World) : (isAgg t).run P w = .ok b w := by
  unfold aggT at h
  cases hu : P.underlying t with
  | none => rw [hu] at h; cases h
  | some d =>
    rw [hu] at h
    simp only [isAgg, Sem.run_bind, under_run hu, Result.andThen_ok]
    cases d <;> simp_all
theorem str_fold : ∀ (xs : List Int) (r : ByteArray), xs.foldl (fun r n => r.push (UInt8.ofNat n.toNat)) r = ⟨r.data ++ (xs.map fun n => UInt8.ofNat n.toNat).toArray⟩
  | [], r => by simp
  | x :: xs, r => by
    rw [List.foldl_cons, str_fold xs]
    simp [ByteArray.push]
theorem decode1_sound {t : TypeId} {v : Value} {k : Value → Prop} (h : decode1 P t v k) : k v := by
  unfold decode1 at h
  split at h
  · obtain ⟨x, rfl, hk⟩ := h; exact hk
  · obtain ⟨x, rfl, hk⟩ := h; exact hk
  · obtain ⟨x, rfl, hk⟩ := h; exact hk
  · obtain ⟨x, rfl, hk⟩ := h; exact hk
  · obtain ⟨A, n, c, rfl, hk⟩ := h; exact hk
  · split at h
    · obtain ⟨cs, rfl, _, hk⟩ := h; exact hk
    · exact h.elim
  · split at h
    · obtain ⟨cs, rfl, _, hk⟩ := h; exact hk
    · exact h.elim
  · obtain ⟨f, x, y, rfl, hk⟩ := h; exact hk
  · exact h
theorem decode_sound {t : TypeId} {v : Value} {k : Value → Prop} (h : decode P t v k) : k v := by
  unfold decode at h
  split at h
  · split at h
    · obtain ⟨x, y, rfl, hk⟩ := h
      have h1 := decode1_sound hk
      have h2 := decode1_sound h1
      exact h2
    · obtain ⟨x, y, z, rfl, hk⟩ := h
      have h1 := decode1_sound hk
      have h2 := decode1_sound h1
      have h3 := decode1_sound h2
      exact h3
    · obtain ⟨x, y, z, u, rfl, hk⟩ := h
      have h1 := decode1_sound hk
      have h2 := decode1_sound h1
      have h3 := decode1_sound h2
      have h4 := decode1_sound h3
      exact h4
    · exact h
  · exact decode1_sound h

theorem info_size {t : TypeId} {i : TypeInfo} (h : P.info? t = some i) (w : World) : (sizeOf t).run P w = .ok i.size w := by simp [sizeOf, typeInfo, h]
theorem info_run {t : TypeId} {i : TypeInfo} (h : P.info? t = some i) (w : World) : (typeInfo t).run P w = .ok i w := by simp [typeInfo, h]

theorem repL_eq (zero : List Value) : ∀ (len : Nat), 0 < zero.length → repL zero len = (List.range (len * zero.length)).map (fun i => zero.getD (i % zero.length) default)
  | 0, _ => by simp [repL]
  | n + 1, hz => by
    rw [repL, repL_eq zero n hz]
    apply List.ext_getElem
    · simp; rw [Nat.add_mul]; omega
    · intro i h1 h2
      simp only [List.getElem_map, List.getElem_range]
      rw [List.getElem_append]
      split
      · rename_i hi
        rw [Nat.mod_eq_of_lt hi, List.getD_eq_getElem?_getD, List.getElem?_eq_getElem hi]
        rfl
      · rename_i hi
        simp only [List.getElem_map, List.getElem_range]
        congr 1
        have : i = (i - zero.length) + zero.length := by omega
        conv => rhs; rw [this, Nat.add_mod_right]
theorem repL_length (zero : List Value) : ∀ len, (repL zero len).length = len * zero.length
  | 0 => by simp [repL]
  | n + 1 => by simp [repL, repL_length zero n, Nat.add_mul, Nat.add_comm]
theorem repL_arr (zero : List Value) (len : Nat) (z : Array Value) (hz : z.toList = zero) (hp : 0 < zero.length ∨ len * zero.length = 0) :
    (Array.range (len * zero.length)).map (fun i => z[i % z.size]!) = (repL zero len).toArray := by
  apply Array.ext'
  rcases hp with hp | hp
  · rw [repL_eq zero len hp]
    subst hz
    simp [List.getD_eq_getElem?_getD, getElem!_def, Option.getD]
    intro i hi
    cases z[i % z.size]? <;> rfl
  · have : repL zero len = [] := by
      have : (repL zero len).length = len * zero.length := by
        clear hp
        induction len with
        | zero => simp [repL]
        | succ n ih => simp [repL, ih, Nat.add_mul, Nat.add_comm]
      exact List.eq_nil_of_length_eq_zero (by omega)
    rw [this, hp]
    simp

theorem callFunc_run {f : FuncId} (hf : okFn P f = true) (args : Array Value) (w : World) : (callFunc f args).run P w = .ok (.enter f args) w := by
  unfold okFn at hf
  split at hf
  · rename_i fn h
    simp only [Bool.and_eq_true, Bool.not_eq_true'] at hf
    have hn : fn.name ≠ "runtime.NumGoroutine" := by simpa using hf.2
    have hb : ¬ fn.body = none := by intro e; rw [e] at hf; simp at hf
    simp [callFunc, h, hn, hb]
  · cases hf

theorem eff_sound {hp : H} {k : Value → H → Prop} (h : effVC P o env hp k) (g : Ag n env a) (hw : w.heap = hp)
    (hk : ∀ v w', Same w w' → k v w'.heap → next (a.put o.dst v) w') : o.wp P a w next Q := by
  unfold effVC at h
  split at h
  · -- alloc
    rename_i e hop
    split at h
    · rename_i z hz
      obtain ⟨zv, hzr, hzc⟩ := zero_run hz w
      have hzc' : zv.cells = z.toArray := by rw [← hzc]
      refine wp_val (v := .pointer (some ⟨w.heap.size, 0, none⟩)) (w' := w.alloc (.cells z.toArray e)) ?_ (hk _ _ (Same.alloc w _) ?_)
      · simp only [execOp, hop, Instr.alloc, Sem.run_bind, hzr, Result.andThen_ok, newVar, newRow, hzc']
        simp
      · subst hw
        exact h
    · exact h.elim
  · -- box
    rename_i e x hop
    split at h
    · rename_i v hv
      refine wp_val (v := .pointer (some ⟨w.heap.size, 0, none⟩)) (w' := w.alloc (.cells v.cells e)) ?_ (hk _ _ (Same.alloc w _) ?_)
      · simp [execOp, hop, Instr.box, newVar, newRow, g.eval hv]
      · subst hw
        exact h
    · exact h.elim
  · -- load
    rename_i t x hop
    split at h
    · rename_i m p ht hz hx
      obtain ⟨ad, cs, rfl, hs, hc, hk'⟩ := h
      subst hw
      subst hs
      refine wp_val (v := .agg cs) (w' := w) ?_ (hk _ _ (Same.refl w) hk')
      simp [execOp, hop, g.eval hx, loadAt, sureAddr, loadVar, agg_run ht, size_run hz, cells_run w ad cs hc]
    · rename_i m p ht hz hx
      obtain ⟨ad, v, rfl, hc, hk'⟩ := h
      subst hw
      refine wp_val (v := v) (w' := w) ?_ (hk _ _ (Same.refl w) (decode1_sound hk'))
      simp [execOp, hop, g.eval hx, loadAt, sureAddr, loadVar, agg_run ht, cell_heap, hc]
    · exact h.elim
  · -- store
    rename_i t x y hop
    split at h
    · rename_i m p v hz hx hy
      obtain ⟨ad, rfl, hs, h1, hm, hk'⟩ := h
      subst hw
      obtain ⟨w', hr, hsm, hh⟩ := stores_run (P := P) v.cells.toList 0 w ad h1 (fun j hj => by
        have := hm j (by simpa [hs] using hj)
        simpa using this)
      refine wp_skp (w' := w') ?_ (hk _ _ hsm (by rw [hh]; exact hk'))
      simp [execOp, hop, g.eval hx, g.eval hy, storeAt, sureAddr, storeVar, size_run hz, hs, hr]
    · exact h.elim
  · -- convert
    rename_i s d x hop
    split at h
    · rename_i e A m c hs hd hx
      split at h
      · rename_i he
        obtain ⟨xs, hrow, hk'⟩ := h
        subst hw
        refine wp_val (v := .string (strOfNums xs)) (w' := w) ?_ (hk _ _ (Same.refl w) hk')
        have hl : (Builtin.firstCells 1 m (.slice A m c)).run P w = .ok (xs.map (Value.int .u8)).toArray w := rows_run 1 m A m c w _ (by simpa using hrow)
        have hbs : (Conv.bytesToString (.slice A m c)).run P w = .ok (.string (strOfNums xs)) w := by
          cases A with
          | none =>
            simp [Builtin.firstCells] at hl
            subst hl
            simp [Conv.bytesToString, strOfNums]
            rfl
          | some ad =>
            simp only [Builtin.firstCells, Nat.mul_one] at hl
            rw [run_bytesToString w ad m c xs hl]
            rw [str_fold]
            simp only [strOfNums]
            congr 3
            exact Array.empty_append ..
        simp only [execOp, hop, g.eval hx, convert, Sem.run_bind, under_run hs, under_run hd, under_run he, Result.andThen_ok]
        cases A <;> simp [under_run he, hbs]
      · exact h.elim
    · rename_i e s' hs hd hx
      split at h
      · rename_i he
        subst hw
        have hr := run_bytes_of_string (P := P) w s d e s' hs hd he
        have hcap : s'.size ≤ grownCap w s'.size 0 e := by unfold grownCap Question.cut; simp
        have hsz : (bytesRow s' (grownCap w s'.size 0 e)).size = grownCap w s'.size 0 e := by
          have h3 : s'.data.size = s'.size := rfl
          simp [bytesRow, h3]
          omega
        rw [hsz] at hr
        refine wp_val ?_ (hk _ _ ((Same.drew w).trans (Same.alloc _ _)) (h _ hcap))
        simp only [execOp, hop, g.eval hx, Sem.run_bind, hr, Result.andThen_ok]
        rfl
      · exact h.elim
    · exact h.elim
  · -- makeSlice
    rename_i t l c hop
    split at h
    · rename_i e l' c' ht hl hc
      split at h
      · rename_i i z hi hz
        obtain ⟨h0, h1, h2, h3, hk'⟩ := h
        subst hw
        obtain ⟨zv, hzr, hzc⟩ := zero_run hz w
        have hzc' : zv.cells = z.toArray := by rw [← hzc]
        have hz0 : i.zero = some zv := by
          simp only [zeroValue, Sem.run_bind, info_run hi, Result.andThen_ok] at hzr
          cases hiz : i.zero with
          | none => rw [hiz] at hzr; simp at hzr
          | some v => rw [hiz] at hzr; simp at hzr; rw [hzr]
        refine wp_val ?_ (hk _ _ (Same.alloc w _) hk')
        simp only [execOp, hop, g.eval hl, g.eval hc, Sem.run_bind, run_make w t e i zv ht hi hz0 .i64 .i64 l' c' h0 h1 (by omega) h2, Result.andThen_ok, hzc']
        rfl
      · exact h.elim
    · exact h.elim
  · -- buildSlice
    rename_i t len parts hop
    split at h
    · rename_i e ps ht hp
      split at h
      · rename_i sz z hsz hz
        split at h
        · rename_i hb hl
          obtain ⟨cs, hf, hk'⟩ := fillVC_sound h
          subst hw
          have hb' : len * sz ≤ 16777216 := Nat.le_of_ble_eq_true hb
          have hl' : z.length = sz := Nat.eq_of_beq_eq_true hl
          obtain ⟨zv, hzr, hzc⟩ := zero_run hz w
          have hpt : (parts.map fun p => (p.1, a.eval p.2)).toList = ps := by rw [g.partsA hp]
          refine wp_val (v := .slice (some ⟨w.heap.size, 0, none⟩) len len) (w' := w.alloc (.cells cs e)) ?_ (hk _ _ (Same.alloc w _) hk')
          have hpt' : (Array.map (fun x => match x with | (i, x) => (i, a.eval x)) parts).toList = ps := hpt
          simp only [execOp, hop, Instr.buildSlice, Sem.run_bind, under_run ht, Result.andThen_ok, size_run hsz]
          have hnot : ¬ (len * sz > 2 ^ 24) := by omega
          have hnot' : ¬ (16777216 < len * sz) := by omega
          rcases Nat.eq_zero_or_pos (len * sz) with h0 | h0
          · have hrep : repL z len = [] := List.eq_nil_of_length_eq_zero (by rw [repL_length, hl']; exact h0)
            rw [hrep] at hf
            have hm0 : (Array.range 0).map (fun x => (#[] : Array Value)[x % (#[] : Array Value).size]!) = #[] := by simp
            have hz0 : ¬ (0 > 2 ^ 24) := by omega
            simp only [h0, hz0, if_false, if_true, Sem.run_pure, Sem.run_bind, Result.andThen_ok, hpt', hm0, hf, newRow, run_newObj]
            rfl
          · have harr := repL_arr z len zv.cells hzc (.inl (by
              rcases Nat.eq_zero_or_pos z.length with h1 | h1
              · rw [hl'] at h1; rw [h1] at h0; simp at h0
              · exact h1))
            rw [hl'] at harr
            have hne : ¬ (len * sz = 0) := by omega
            simp only [hnot, if_false, hne, Sem.run_bind, hzr, Sem.run_pure, Result.andThen_ok, hpt', harr, hf, newRow, run_newObj]
            rfl
        · exact h.elim
      · exact h.elim
    · exact h.elim
  · -- call
    rename_i c hop
    split at h
    · rename_i A m cp B mm c' hc hv
      split at h
      · rename_i e e2 ht hu
        obtain ⟨t, ht0, ht1⟩ := Option.bind_eq_some_iff.1 ht
        obtain ⟨u, hu0, hu1⟩ := Option.bind_eq_some_iff.1 hu
        split at h
        · rename_i i z hi hz
          obtain ⟨B', m', c2, cs, hsl, hrow, h1, hcs, h⟩ := h
          cases hsl
          subst hw
          obtain ⟨zv, hzr, hzc⟩ := zero_run hz w
          have hzc' : zv.cells = z.toArray := by rw [← hzc]
          have hargs := g.evalsA hv
          have hfc := rows_run (P := P) i.size mm B mm c' w cs hrow
          split at h
          · rename_i hroom
            cases A with
            | none =>
              obtain ⟨hm0, hk'⟩ := h
              refine wp_val ?_ (hk _ _ (Same.refl w) hk')
              simp [execOp, hop, resolve, hc, hargs, invoke, builtin, Builtin.append_, ht0, hu0, under_run ht1, under_run hu1, info_size hi, info_run hi, Builtin.lenOf, hroom, hfc]
            | some ad =>
              obtain ⟨hmw, hk'⟩ := h
              obtain ⟨w', hr, hsm, hh⟩ := stores_run (P := P) cs.toList 0 w (ad.add (m * i.size)) h1 (fun j hj => by
                have := hmw j (by rw [← hcs]; simpa using hj)
                simpa using this)
              refine wp_val ?_ (hk _ _ hsm (by rw [hh]; exact hk'))
              simp [execOp, hop, resolve, hc, hargs, invoke, builtin, Builtin.append_, ht0, hu0, under_run ht1, under_run hu1, info_size hi, info_run hi, Builtin.lenOf, hroom, hfc, hr]
          · rename_i hroom
            obtain ⟨h63, hb0, hcap, old, hold, hA, hk'⟩ := h
            have hge : m + mm ≤ grownCap w (m + mm) cp e := by unfold grownCap Question.cut; simp
            refine wp_val ?_ (hk _ _ ((Same.drew w).trans (Same.alloc _ _)) (hk' _ hge))
            have hfo : (Builtin.firstCells i.size m (.slice A m cp)).run P w.drew = .ok old w.drew := rows_run (P := P) i.size m A m cp w.drew old hold
            have hfn : (Builtin.firstCells i.size mm (.slice B mm c')).run P w.drew = .ok cs w.drew := rows_run (P := P) i.size mm B mm c' w.drew cs hrow
            have h63' : ¬ (9223372036854775807 < ((m : Int) + (mm : Int))) := by omega
            have h48' : ¬ (281474976710656 < Builtin.nextslicecap (m + mm) cp * i.bytes) := by unfold capBytes at hcap; omega
            obtain ⟨zv2, hzr2, hzc2⟩ := zero_run hz w.drew
            have hzc2' : zv2.cells = z.toArray := by rw [← hzc2]
            simp [execOp, hop, resolve, hc, hargs, invoke, builtin, Builtin.append_, ht0, hu0, under_run ht1, under_run hu1, info_size hi, info_run hi, Builtin.lenOf, hroom, h63', h48', Question.forced, hfo, hfn, newRow, grownCap, hzr2, hzc2']
        · exact h.elim
      · exact h.elim
    · rename_i A m cp B mm c' hc hv
      split at h
      · rename_i e ht
        obtain ⟨t, ht0, ht1⟩ := Option.bind_eq_some_iff.1 ht
        split at h
        · rename_i sz hz
          obtain ⟨cs, hrow, h1, h⟩ := h
          subst hw
          have hargs := g.evalsA hv
          have hfc := rows_run (P := P) sz (Nat.min mm m) B mm c' w cs hrow
          cases A with
          | none =>
            obtain ⟨hm0, hk'⟩ := h
            refine wp_val ?_ (hk _ _ (Same.refl w) hk')
            simp [execOp, hop, resolve, hc, hargs, invoke, builtin, Builtin.copy_, ht0, under_run ht1, size_run hz, Builtin.lenOf, hfc, goInt]
          | some ad =>
            obtain ⟨hmw, hk'⟩ := h
            obtain ⟨w', hr, hsm, hh⟩ := stores_run (P := P) cs.toList 0 w ad h1 (fun j hj => by
              have := hmw j (by rw [← hrow.1]; simpa using hj)
              simpa using this)
            refine wp_val ?_ (hk _ _ hsm (by rw [hh]; exact hk'))
            simp [execOp, hop, resolve, hc, hargs, invoke, builtin, Builtin.copy_, ht0, under_run ht1, size_run hz, Builtin.lenOf, hfc, hr, goInt]
        · exact h.elim
      · exact h.elim
    · rename_i f vs hc hv
      split at h
      · rename_i gg first cap hf
        obtain ⟨hok, hcalls⟩ := h
        unfold Oper.wp
        have hargs := g.evalsA hv
        have hrun : (execOp a.eval o).run P w = .ok (.enter gg (first ++ vs.toArray ++ cap)) w := by
          simp [execOp, hop, resolve, hc, hargs, g.eval hf, Deferred.ofValue, invoke, callFunc_run hok]
        rw [hrun]
        refine (hcalls w hw).mono ?_
        rintro e w' ⟨hs, v, rfl, hk'⟩
        exact hk v w' hs (decode_sound hk')
      · exact h.elim
    · exact h.elim
  · exact h.elim
end
end Go.Oct
