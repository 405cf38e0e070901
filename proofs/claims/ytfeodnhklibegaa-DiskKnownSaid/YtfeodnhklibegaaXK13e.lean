/- What is proved: contracts of functions that the law calls, and of the law itself, over any heap. Conditions stand in each theorem. -/
import Derived.Test.YtfeodnhklibegaaXK13d
set_option linter.unusedSimpArgs false
set_option linter.unusedVariables false
namespace Go.Proofs.Ytfeodnhklibegaa
open Go.Oct Go.Oct.L01
/-- a value is put into a new variable -/
theorem newVar {cells : Array Value} {e n : Nat} {g : H} {xs : Array Value} {k : Option Addr → H → Prop} (hc : cells.size = n) (hx : xs.size = n) (h1 : OneCells xs.toList) (hk : ∀ b g', g.size ≤ b → Blk g' b xs e → Ext g g' → k (some ⟨b, 0, none⟩) g') :
    allocK cells e g (fun p h => storeK n p xs h (fun h => k p h)) := by
  refine alloc_new fun b g1 lb bb x1 => store_blk bb hx (by omega) h1 fun g2 b2 m2 => ?_
  have e1 : over cells 0 xs.toList = xs := by
    apply Array.ext'
    rw [over_list _ _ _ (by simp; omega)]
    simp [List.drop_of_length_le, hc, hx]
  rw [e1] at b2
  exact hk b g2 lb b2 (x1.then m2 (fun i hi => by subst hi; exact lb))
/-- writes of the call's own -/
structure Ws (h : H) (base : Nat) (C : Option Addr) (u e : Nat) (ws : List Wt) (U : List (Int × List Int)) : Prop where
  uns : Lst h base 46 Wt.cells 2 C u e ws
  wts : ∀ w ∈ ws, Byt h base w.A w.n w.c w.bs
  eq : U = ws.map (fun w => (w.At, w.bs))
  dj : ∀ (i j : Nat) (v w : Wt), ws[i]? = some v → ws[j]? = some w → i < j → ∀ b, blkOf v.A b → ¬ blkOf w.A b
section
variable {h : H} {base pd : Nat} {S : Nat → Prop} {D N : List Int} {U : List (Int × List Int)}
/-- Unsynced -/
theorem c16 (d : Dk h base pd S D N U) (hU : U.length ≤ 1073741824) (k : Value → H → Prop) (hk : ∀ C u e ws h', Ext h h' → Ws h' h.size C u e ws U → k (.slice C u e) h') : callK Try.prog 16 #[.pointer (some ⟨pd, 0, none⟩)] h k := by
  obtain ⟨A, n, c, B, m, d', C, u, e, ws, s, hUw, hS⟩ := d
  refine call16 _ _ _ ?_
  unfold d16
  rw [needK_true (by simp)]
  refine ifB_of (fun hA => by simp at hA) (fun _ => ?_)
  rw [nilK_some, addrK_mk]
  refine s.blk.at_.load1 2 rfl rfl (asS_of ?_)
  have hul : ws.length = u := s.uns.1
  have hUl : U.length = u := by rw [hUw, List.length_map]; exact hul
  refine ⟨fun C2 u2 e2 x g => ∃ (j : Nat) (vs : List Wt), x = j ∧ j ≤ u ∧ u2 = j ∧ Ext h g ∧ Ws g h.size C2 u2 e2 vs (U.take j), fun C2 u2 e2 x g => (u - x).toNat, ⟨0, [], rfl, by omega, rfl, Ext.refl _, Lst.nil, by simp, by simp, by simp⟩, ?_⟩
  rintro C2 u2 e2 x g ⟨j, vs, rfl, hj, rfl, eg, wv⟩
  refine ifB_dec (fun hlt => ?_) (fun hge => ?_)
  rotate_left
  · have : u2 = u := by omega
    subst this
    have := wv
    rw [← hUl, List.take_length] at this
    exact hk C2 _ e2 vs g eg (by rw [← hUl]; exact this)
  have hx : ws[u2]? = some ws[u2] := List.getElem?_eq_getElem (by omega)
  have hmem := List.getElem_mem (show u2 < ws.length by omega)
  generalize hw : ws[u2] = w at *
  have sg := s.mod eg.mod (T := fun _ => False) (fun _ _ e => e)
  refine sg.uns.index Wt.len rfl hx fun b _ ha => ha.loadN rfl ?_
  refine newVar (by simp) rfl (Wt.one w) fun p4 g1 y4 b4 x1 => ?_
  refine b4.at_.loadN rfl ?_
  have hsm := s.small
  have hin := s.inb w hmem
  have hwl := (s.wts w hmem).1
  refine c27 w g1 _ (Lst.row (f := bf) ((sg.wts w hmem).ext x1)) (by omega) fun A3 c3 g2 x2 l2 => asA_of rfl (wt_fill _ ?_)
  refine alloc_new fun p19 g3 y3 b3 x3 => src_blk b3 rfl ?_
  have x13 := x1.trans (x2.trans x3)
  have e3 := eg.trans x13
  refine Lst.push (f := Wt.cells) Wt.len (wv.uns.ext x13) ⟨w.At, A3, w.n, c3, w.bs⟩ rfl (Wt.one _) (by omega) e3.size (by omega) fun C' e' g4 l4 m4 d4 => ?_
  have e4 := e3.then m4 (fun i hi => wv.uns.2.base_le hi)
  refine ⟨⟨u2 + 1, vs ++ [⟨w.At, A3, w.n, c3, w.bs⟩], wrap64_id (by omega) (by omega), by omega, rfl, e4, l4, ?_, ?_, ?_⟩, ?_⟩
  · intro v hv
    rcases List.mem_append.1 hv with hv | hv
    · have h1 := (wv.wts v hv).ext x13
      exact h1.mod m4 (h1.2.disj (wv.uns.ext x13).2 (by decide))
    · rw [List.mem_singleton.1 hv]
      have h1 : Byt g3 h.size A3 w.n c3 w.bs := Lst.weaken (l2.ext x3) (eg.trans x1).size
      exact h1.mod m4 (h1.2.disj (wv.uns.ext x13).2 (by decide))
  · have hUj : U[u2]? = some (w.At, w.bs) := by rw [hUw, List.getElem?_map, hx]; rfl
    obtain ⟨hjU, ej⟩ := List.getElem?_eq_some_iff.1 hUj
    rw [List.take_succ_eq_append_getElem hjU, ej, List.map_append, ← wv.eq]
    rfl
  · intro i1 i2 v1 v2 h1 h2 h12 b hb1 hb2
    have hi2 := (List.getElem?_eq_some_iff.1 h2).1
    rw [List.length_append, List.length_singleton] at hi2
    rw [List.getElem?_append_left (by omega)] at h1
    rcases Nat.lt_or_ge i2 vs.length with h3 | h3
    · rw [List.getElem?_append_left h3] at h2
      exact wv.dj i1 i2 v1 v2 h1 h2 h12 b hb1 hb2
    · rw [List.getElem?_append_right h3, show i2 - vs.length = 0 by omega] at h2
      simp only [List.getElem?_cons_zero, Option.some.injEq] at h2
      subst h2
      have h4 := (wv.wts v1 (List.mem_of_getElem? h1)).2.lt hb1
      have h5 := l2.2.base_le hb2
      have h6 := x1.size
      omega
  · rw [wrap64_id (by omega) (by omega)]
    dsimp only
    omega
end
end Go.Proofs.Ytfeodnhklibegaa
