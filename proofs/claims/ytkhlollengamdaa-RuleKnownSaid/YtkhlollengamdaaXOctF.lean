/- A step of the road to this law: a generator of conditions over the model of the code, or a lemma on rows in the heap. No conditions. -/
import Derived.Test.YtkhlollengamdaaXOctE
set_option linter.unusedSimpArgs false
set_option linter.unusedVariables false
namespace Go.Oct

section
variable {P : Program} {n : Nat}

theorem getE_params : ∀ (args : List Value) (j i : Nat) (v : Value), getE (params j args) i = some v → ∃ k, i = j + k ∧ args[k]? = some v
  | [], j, i, v, h => by simp [params, getE] at h
  | u :: r, j, i, v, h => by
    simp only [params, getE_cons] at h
    by_cases hi : i = j
    · rw [if_pos hi] at h
      exact ⟨0, by omega, by simpa using h⟩
    · rw [if_neg hi] at h
      obtain ⟨k, hk, hv⟩ := getE_params r (j + 1) i v h
      exact ⟨k + 1, by omega, by simpa using hv⟩

def resOne (a : Act) : ResultVar → Sem Value
  | .tmp t => pure (a.tmps.getD t undef)
  | .cell c t => do loadVar t (← asAddr (a.tmps.getD c undef))
theorem res_sound {env : Env} {a : Act} {w : World} (g : Ag n env a) : ∀ (rs : List ResultVar) (k : List Value → Prop), resVC P env w.heap rs k → ∃ vs, (rs.mapM (resOne a)).run P w = Result.ok vs w ∧ k vs
  | [], k, h => ⟨[], rfl, h⟩
  | .tmp t :: r, k, h => by
    simp only [resVC] at h
    split at h
    · rename_i v hv
      obtain ⟨vs, hr, hk⟩ := res_sound g r _ h
      have he : a.tmps.getD t undef = v := by have := g.known t v hv; simp [this]
      have h1 : (resOne a (.tmp t)).run P w = Result.ok v w := by simp only [resOne, he, Sem.run_pure]
      refine ⟨v :: vs, ?_, hk⟩
      simp only [List.mapM_cons, Sem.run_bind, h1, Result.andThen_ok, hr, Sem.run_pure]
    · exact h.elim
  | .cell c t :: r, k, h => by
    simp only [resVC] at h
    split at h
    · rename_i m p ht hz hp
      obtain ⟨ad, cs, rfl, hs, hc, hk'⟩ := h
      subst hs
      obtain ⟨vs, hr, hk⟩ := res_sound g r _ hk'
      have he : a.tmps.getD c undef = .pointer (some ad) := by have := g.known c _ hp; simp [this]
      have h1 : (resOne a (.cell c t)).run P w = Result.ok (.agg cs) w := by
        simp only [resOne, Sem.run_bind, he, asAddr, Sem.run_pure, Result.andThen_ok, loadVar, agg_run ht, if_true, size_run hz, cells_run w ad cs hc]
      refine ⟨.agg cs :: vs, ?_, hk⟩
      simp only [List.mapM_cons, Sem.run_bind, h1, Result.andThen_ok, hr, Sem.run_pure]
    · rename_i m p ht hz hp
      obtain ⟨ad, v, rfl, hc, hk'⟩ := h
      obtain ⟨vs, hr, hk⟩ := res_sound g r _ hk'
      have he : a.tmps.getD c undef = .pointer (some ad) := by have := g.known c _ hp; simp [this]
      have h1 : (resOne a (.cell c t)).run P w = Result.ok v w := by
        simp only [resOne, Sem.run_bind, he, asAddr, Sem.run_pure, Result.andThen_ok, loadVar, agg_run ht, if_false, Bool.false_eq_true, run_load, cell_heap, hc]
      refine ⟨v :: vs, ?_, hk⟩
      simp only [List.mapM_cons, Sem.run_bind, h1, Result.andThen_ok, hr, Sem.run_pure]
    · exact h.elim

theorem results_sound {fn : Func} {env : Env} {a : Act} {w : World} (g : Ag n env a) {k : Value → Prop} (h : resVC P env w.heap fn.results.toList fun vs => k (oneOr vs)) :
    ∃ v, (results fn a.tmps).run P w = Result.ok v w ∧ k v := by
  obtain ⟨vs, hr, hk⟩ := res_sound g _ _ h
  refine ⟨oneOr vs, ?_, hk⟩
  have hres : results fn a.tmps = (do let vs ← fn.results.mapM (resOne a); pure (if h : vs.size = 1 then vs[0] else .tuple vs)) := by
    unfold results
    congr 1
  rw [hres, Array.mapM_eq_mapM_toList, Sem.run_bind, Sem.run_map, hr]
  simp only [Result.andThen_ok, Sem.run_pure]
  congr 1
  match vs with
  | [] => rfl
  | [v] => rfl
  | v :: u :: r => rfl

theorem fn_sound (hm : P.follows .mixedOrders = true) {f : FuncId} {fn : Func} (hf : P.funcs[f]? = some fn) (pl : Plan) (args : List Value) (h : H) (Q : Value → H → Prop) (hv : fnVC P fn checkPlan pl args h Q) : CallsH P f args.toArray h Q := by
  intro w hw
  unfold fnVC at hv
  split at hv
  · exact hv.elim
  · rename_i c hb
    split at hv
    · exact hv.elim
    · rename_i hle
      have hle' : args.length ≤ fn.ntmps := Nat.le_of_ble_eq_true hle
      refine calls_of_wp hf hb ?_
      have g : Ag fn.ntmps (params 0 args) { tmps := args.toArray ++ Array.replicate (fn.ntmps - args.toArray.size) undef, defers := [] } := by
        refine ⟨by simp; omega, fun i v hi => ?_⟩
        obtain ⟨k, hk, hv⟩ := getE_params args 0 i v hi
        have hlt : k < args.length := (List.getElem?_eq_some_iff.1 hv).1
        have : i = k := by omega
        subst this
        show (args.toArray ++ Array.replicate (fn.ntmps - args.toArray.size) undef)[i]? = some v
        rw [Array.getElem?_append_left (by simpa using hlt)]
        simpa using hv
      refine Code.wp_mono ?_ (vc_sound hm pl c _ _ _ _ _ hv _ w g hw)
      intro e a' w' hp
      cases e with
      | normal =>
        obtain ⟨f', env', g', hres⟩ := hp
        obtain ⟨v, hr, hk⟩ := results_sound (fn := fn) (k := fun v => Q v w'.heap) g' hres
        exact ⟨f'.defers, v, hr, f'.same, v, rfl, hk⟩
      | ret =>
        obtain ⟨f', env', g', hres⟩ := hp
        obtain ⟨v, hr, hk⟩ := results_sound (fn := fn) (k := fun v => Q v w'.heap) g' hres
        exact ⟨f'.defers, v, hr, f'.same, v, rfl, hk⟩
      | exit i => exact hp.2.elim fun _ h => h.2
      | goto l => exact hp.elim
      | panic c => exact hp.elim
      | outgrown => exact hp.elim
end
end Go.Oct
