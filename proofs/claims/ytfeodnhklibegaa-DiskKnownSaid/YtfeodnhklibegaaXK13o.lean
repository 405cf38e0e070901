/- What is proved: contracts of functions that the law calls, and of the law itself, over any heap. Conditions stand in each theorem. -/
import Derived.Test.YtfeodnhklibegaaXK13n
import Derived.Test.YtfeodnhklibegaaWEqStruct
set_option linter.unusedSimpArgs false
set_option linter.unusedVariables false
namespace Go.Proofs.Ytfeodnhklibegaa
open Go.Oct Go.Oct.L01 Go.RowKit Go.Proofs.YtfeodnhklibegaaW.PrintWords
theorem cells_one {α : Type} {f : α → List Value} (h1 : ∀ x, OneCells (f x)) (xs : List α) : OneCells (cellsOf f xs).toList := by
  intro v hv
  simp only [cellsOf, List.mem_flatMap] at hv
  obtain ⟨x, _, hx⟩ := hv
  exact h1 x v hx
/-- append(nil, xs...) -/
theorem copyL {α : Type} {f : α → List Value} {sz : Nat} (hf : ∀ x, (f x).length = sz) (h1 : ∀ x, OneCells (f x)) {h : H} {A : Option Addr} {n c e bytes : Nat} {zero : Array Value} {xs : List α} {k : Option Addr → Nat → Nat → H → Prop} (hr : RowH h A (n * sz) (cellsOf f xs)) (hn : xs.length = n) (hz : zero.size = sz) (hb : 0 < bytes)
    (hlen : (2 * n + 192) * bytes ≤ 281474976710656) (hk : ∀ A' c' h', Ext h h' → Lst h' h.size e f sz A' n c' xs → k A' n c' h') : srcK sz (.slice A n c) h (fun cs m => appendK e sz bytes zero none 0 0 cs m h k) := by
  refine ⟨A, n, c, _, rfl, hr, ?_⟩
  refine append_own (base := h.size) Own.nil hz (cells_one h1 xs) (by rw [cellsOf_size hf, hn]) hb (Nat.le_refl _) (by rwa [Nat.zero_add]) fun A' c' h' o m d => ?_
  rw [Nat.zero_add] at o ⊢
  have : (#[] : Array Value) ++ cellsOf f xs = cellsOf f xs := by apply Array.ext'; simp
  rw [this] at o
  exact hk A' c' h' ⟨m.size, fun i hi _ => m.block i hi (by rintro ⟨_, e, _⟩; cases e)⟩ ⟨hn, o⟩
theorem rw_fill (w : Int × List Int) {k : Array Value → Prop} (hk : k (rwc w).toArray) : fillK (fun i => some (i * 2, 2)) (List.toArray [.int .i64 0, .string ⟨#[]⟩]) [(0, (.agg (rwc w).toArray))] k :=
  ⟨_, by simp [Instr.fill, Value.cells, rwc, List.zipIdx], hk⟩
theorem Lst.rd {h : H} {base : Nat} {L : Option Addr} {n q : Nat} {D : List Int} {U : List (Int × List Int)} (l : Lst h base 81 rwc 2 L n q U) (inb : ∀ w ∈ U, 0 ≤ w.1 ∧ w.1 + w.2.length ≤ D.length) (byD : ∀ x ∈ D, isB x) (byU : ∀ w ∈ U, ∀ x ∈ w.2, isB x) (small : D.length ≤ 65536) (few : U.length ≤ 1073741824) : RD h L n D U :=
  ⟨l.2.row, l.1, fun i hi => l.2.lt hi, inb, byD, byU, small, few⟩
section
variable {h : H} {L : Option Addr} {n q : Nat} {D : List Int} {U : List (Int × List Int)}
/-- Put -/
theorem c35 (r : RD h L n D U) (a : Int) (bs : List Int) (k : Value → H → Prop) (ha : a ≤ 9223372036854775807) (hb : ∀ x ∈ bs, isB x) (hU : U.length ≤ 1000) (hno : liesB D.length a bs.length = false → ∀ h', Ext h h' → k (.tuple #[.agg (rdv D L n q), .int .i64 130]) h')
    (hk : liesB D.length a bs.length = true → ∀ L' n' q' h', Ext h h' → RD h' L' n' D (plus U a bs) → (∀ i, blkOf L' i → blkOf L i ∨ h.size ≤ i) → k (.tuple #[.agg (rdv D L' n' q'), .int .i64 0]) h') : callK Try.prog 35 #[.agg (rdv D L n q), .int .i64 a, sv bs] h k := by
  refine call35 _ _ _ _ _ ?_
  unfold d35
  refine alloc_new fun p g1 y1 b1 x1 => alloc_new fun p6 g2 y2 b2 x2 => ?_
  have x12 := x1.trans x2
  have a1 : At g2 p 0 [sv D, .slice L n q] := (b1.ext x2).at_
  have r2 := r.ext x12
  refine a1.loadN rfl ?_
  rw [sv_size]
  refine c43 r2 a bs.length _ ha fun g3 x3 => asB_of ?_
  have a3 := a1.ext x3
  have b3 := b2.ext x3
  have x13 := x12.trans x3
  have s1 := x1.size
  have s2 := x2.size
  refine ifB_of (fun hl => ?_) (fun hl => ?_)
  · refine a3.loadN rfl ?_
    refine store_blk b3 rfl (by simp) (by simp [OneCells, sv, Value.oneCell']) fun g4 b4 m4 => ?_
    have b4 : Blk g4 p6 (rdv D L n q) 66 := b4
    exact b4.at_.loadN rfl (hno (by simpa using hl) g4 (x13.then m4 (fun i hi => by omega)))
  have hl : liesB D.length a bs.length = true := by simpa using hl
  have hl2 : 0 ≤ a ∧ 0 ≤ (bs.length : Int) ∧ a ≤ D.length ∧ (bs.length : Int) ≤ D.length - a := by unfold liesB at hl; simpa using hl
  have hk := hk hl
  rw [sv_nil, str_beq hb (by simp)]
  refine ifB_dec (fun hbs => ?_) (fun hbs => ?_)
  · subst hbs
    refine a3.loadN rfl ?_
    refine store_blk b3 rfl (by simp) (by simp [OneCells, sv, Value.oneCell']) fun g4 b4 m4 => ?_
    have b4 : Blk g4 p6 (rdv D L n q) 66 := b4
    refine b4.at_.loadN rfl (hk L n q g4 (x13.then m4 (fun i hi => by omega)) ?_ (fun i hi => .inl hi))
    have : plus U a [] = U := by simp [plus]
    rw [this]
    exact (r.ext x13).mod m4 (fun i hi he => by have := r.lt i hi; omega)
  · have r3 := r.ext x13
    have hlen := r.len
    refine addrK_of rfl (a3.load1 1 rfl rfl (asS_of ?_))
    refine copyL rwc_len rwc_one r3.row r.len rfl (by omega) (by omega) fun A4 q4 g4 x4 l4 => ?_
    have a4 := a3.ext x4
    have hp4 : ¬ blkOf A4 p := fun hi => by have := l4.2.base_le hi; have := b1.lt; have := x3.size; omega
    have hp6 : ¬ blkOf A4 p6 := fun hi => by have := l4.2.base_le hi; have := b3.lt; omega
    refine ⟨fun g' => Go.Oct.Mod g4 g' (fun i => blkOf A4 i ∨ i = p6), Go.Oct.Mod.refl _ _, ?_⟩
    refine addrK_of rfl (At.loadS1m a4 (fun hi => hi.elim hp4 (fun e => by have := b1.lt; omega)) 0 rfl rfl (asStr_of ?_))
    refine rw_fill (a, bs) (alloc_new fun p29 g5 y5 b5 x5 => ⟨x5.mod, src_blk b5 rfl ?_⟩)
    have s13 := x13.size
    have s4 := x4.size
    have s5 := x5.size
    refine Lst.push (f := rwc) rwc_len (l4.ext x5) (a, bs) rfl (rwc_one _) (by omega) (by omega) (by omega) fun A6 q6 g6 l6 m6 d6 => ?_
    have x14 := x13.trans x4
    refine ⟨x5.mod.trans (m6.mono fun i _ hi => .inl hi), ?_⟩
    have b6 := ((b3.ext x4).ext x5).mod m6 hp6
    refine store_blk b6 rfl (by simp) (by simp [OneCells, sv, Value.oneCell']) fun g7 b7 m7 => ?_
    have b7 : Blk g7 p6 (rdv D A6 (n + 1) q6) 66 := b7
    have e6 := (x14.trans x5).then m6 (fun i hi => by have := l4.2.base_le hi; omega)
    have e7 := e6.then m7 (fun i hi => by omega)
    have hpl : plus U a bs = U ++ [(a, bs)] := by simp [plus, hbs]
    have hA6 : ∀ i, blkOf A6 i → g3.size ≤ i := fun i hi => l6.2.base_le hi
    refine b7.at_.loadN rfl (hk A6 (n + 1) q6 g7 e7 ?_ (fun i hi => .inr (by have := hA6 i hi; omega)))
    rw [hpl]
    refine Lst.rd (l6.mod m7 (fun i hi he => by have := hA6 i hi; have := b3.lt; omega)) ?_ r.byD ?_ r.small (by rw [List.length_append]; simp; omega)
    · intro w hw
      rcases List.mem_append.1 hw with hw | hw
      · exact r.inb w hw
      · rw [List.mem_singleton.1 hw]; exact ⟨hl2.1, by dsimp only; omega⟩
    · intro w hw
      rcases List.mem_append.1 hw with hw | hw
      · exact r.byU w hw
      · rw [List.mem_singleton.1 hw]; exact hb
/-- Crash -/
theorem c37 (r : RD h L n D U) (A1 : Option Addr) (n1 q1 : Nat) (fs : List (Int × Int)) (k : Value → H → Prop) (hr : RowH h A1 (n1 * 2) (cellsOf fcells fs)) (hfl : fs.length = n1) (hk : ∀ h', Ext h h' → RD h' none 0 (cr fs U D U.length) [] → k (.agg (rdv (cr fs U D U.length) none 0 0)) h') :
    callK Try.prog 37 #[.agg (rdv D L n q), .slice A1 n1 q1] h k := by
  refine call37 _ _ _ _ _ _ ?_
  unfold d37
  refine alloc_new fun p g1 y1 b1 x1 => alloc_new fun p4 g2 y2 b2 x2 => ?_
  have x12 := x1.trans x2
  have s1 := x1.size
  have a1 : At g2 p 0 [sv D, .slice L n q] := (b1.ext x2).at_
  refine addrK_of rfl (a1.load1 0 rfl rfl (asStr_of ?_))
  have hlen := r.len
  have hsm := r.small
  have hfew := r.few
  have hcr := cr_facts (fs := fs) r.inb r.byD r.byU
  refine ⟨fun s x g => ∃ j : Nat, x = j ∧ j ≤ n ∧ s = strOfNums (cr fs U D j) ∧ Ext g2 g, fun s x g => (n - x).toNat, ⟨0, rfl, by omega, rfl, Ext.refl _⟩, ?_⟩
  rintro s x g ⟨j, rfl, hj, rfl, xg⟩
  have ag := a1.ext xg
  have x1g := x12.trans xg
  refine addrK_of rfl (ag.load1 1 rfl rfl (asS_of ?_))
  refine ifB_dec (fun hlt => ?_) (fun hge => ?_)
  · have hx : U[j]? = some U[j] := List.getElem?_eq_getElem (by omega)
    have hm := List.getElem_mem (show j < U.length by omega)
    have hi := r.inb _ hm
    have hnext : cr fs U D (j + 1) = lay (cr fs U D j) U[j].1 (U[j].2.take (amt fs j U[j].2.length).toNat) := by
      show (match U[j]? with | some w => lay (cr fs U D j) w.1 (w.2.take (amt fs j w.2.length).toNat) | none => cr fs U D j) = _
      rw [hx]
    generalize hw : U[j] = w at *
    refine addrK_of rfl (ag.load1 1 rfl rfl (asS_of ?_))
    refine rowL_index rwc_len (by omega) (r.ext x1g).row rfl hx fun b q' _ ha => ha.loadN rfl ?_
    refine newVar (by simp) rfl (rwc_one w) fun p7 g3 y7 b7 x3 => ?_
    have a7 : At g3 p7 0 (rwc w) := b7.at_
    have r3 := hr.ext (x1g.trans x3)
    refine ⟨fun b x g' => g' = g3 ∧ x = (if (fs[j]?.map (·.1)) = some 1 then (w.2.length : Int) else 0), ?_, ?_⟩
    · refine ⟨fun b g' => g' = g3 ∧ b = decide ((fs[j]?.map (·.1)) = some 1), ?_, ?_⟩
      · refine ifB_dec (fun h1 => ?_) (fun h1 => ⟨rfl, ?_⟩)
        · have hf : fs[j]? = some fs[j] := List.getElem?_eq_getElem (by omega)
          refine rowL_index fcells_len (by omega) r3 rfl hf fun b q _ ha => addrK_of rfl (ha.load1 0 rfl rfl (asI_of ⟨rfl, ?_⟩))
          rw [hf, beq_dec]; simp
        · have hf : fs[j]? = none := List.getElem?_eq_none (by omega)
          rw [hf]; rfl
      rintro b g' ⟨rfl, rfl⟩
      refine ifB_dec (fun h1 => ?_) (fun h1 => ⟨rfl, by rw [if_neg h1]⟩)
      refine addrK_of rfl (a7.load1 1 rfl rfl (asStr_of ⟨rfl, by rw [if_pos h1, sv_size]⟩))
    rintro b34 x8 g' ⟨rfl, rfl⟩
    refine ⟨fun b x g => g = g' ∧ x = amt fs j w.2.length, ?_, ?_⟩
    · refine ⟨fun b g => g = g' ∧ b = decide ((fs[j]?.map (·.1)) = some 2), ?_, ?_⟩
      · refine ifB_dec (fun h1 => ?_) (fun h1 => ⟨rfl, ?_⟩)
        · have hf : fs[j]? = some fs[j] := List.getElem?_eq_getElem (by omega)
          refine rowL_index fcells_len (by omega) r3 rfl hf fun b q _ ha => addrK_of rfl (ha.load1 0 rfl rfl (asI_of ⟨rfl, ?_⟩))
          rw [hf, beq_dec]; simp
        · have hf : fs[j]? = none := List.getElem?_eq_none (by omega)
          rw [hf]; rfl
      rintro b g ⟨rfl, rfl⟩
      refine ifB_dec (fun h1 => draw_ext ?_) (fun h1 => ⟨rfl, ?_⟩)
      · have hj1 : j < fs.length := by
          rcases Nat.lt_or_ge j fs.length with h2 | h2
          · exact h2
          · rw [List.getElem?_eq_none h2] at h1; cases h1
        have hf : fs[j]? = some fs[j] := List.getElem?_eq_getElem hj1
        refine rowL_index fcells_len (by omega) r3 rfl hf fun b q _ ha => addrK_of rfl (ha.loadS1 1 rfl rfl (asI_of ?_))
        refine addrK_of rfl (a7.loadS1 1 rfl rfl (asStr_of ⟨rfl, ?_⟩))
        rw [hf] at h1
        simp at h1
        rw [sv_size, amt, hf]
        simp [h1]
      · rw [amt]
        cases hf : fs[j]? with
        | none => simp
        | some f => rw [hf] at h1; simp at h1; simp [h1]
    rintro b49 x8 g ⟨rfl, rfl⟩
    have har := amt_range fs j w.2.length
    refine draw_ext ?_
    refine addrK_of rfl (a7.loadS1 0 rfl rfl (asI_of ?_))
    refine addrK_of rfl (a7.loadS1 1 rfl rfl (asStr_of ?_))
    obtain ⟨t, ht⟩ := Int.eq_ofNat_of_zero_le har.1
    rw [ht] at har hnext ⊢
    refine sv_slice (l := 0) (u := t) rfl rfl (by omega) (by omega) ?_
    rw [List.drop_zero, Nat.sub_zero]
    rw [Int.toNat_natCast] at hnext
    have hcl := (hcr j).1
    refine c44 _ _ _ _ _ hi.1 (by rw [List.length_take]; omega) (by omega) (asStr_of ?_)
    rw [← hnext]
    refine ⟨⟨j + 1, wrap64_id (by omega) (by omega), by omega, rfl, xg.trans x3⟩, ?_⟩
    rw [wrap64_id (by omega) (by omega)]
    dsimp only
    omega
  · have : j = n := by omega
    subst this
    refine store_blk (b2.ext xg) rfl (by simp) (by simp [OneCells, Value.oneCell']) fun g4 b4 m4 => ?_
    rw [hlen] at hk
    have b4 : Blk g4 p4 (rdv (cr fs U D j) none 0 0) 66 := b4
    refine b4.at_.loadN rfl (hk g4 (x1g.then m4 (fun i hi => by omega)) (RD.nil g4 (hcr j).2 (by rw [(hcr j).1]; exact hsm)))
end
/-- Fates -/
theorem c38 (A0 : Option Addr) (n0 q0 : Nat) (fs : List (Int × Int)) (h : H) (k : Value → H → Prop) (hr : RowH h A0 (n0 * 2) (cellsOf fcells fs)) (hfl : fs.length = n0) (hn : n0 ≤ 100000) (hk : ∀ A' c' h', Ext h h' → RowH h' A' (n0 * 2) (cellsOf fcells fs) → k (.slice A' n0 c') h') : callK Try.prog 38 #[.slice A0 n0 q0] h k := by
  refine call38 _ _ _ _ _ ?_
  unfold d38
  refine ⟨fun A3 n3 c3 x g => ∃ j : Nat, x = j ∧ j ≤ n0 ∧ n3 = j ∧ Ext h g ∧ Lst g h.size 82 fcells 2 A3 n3 c3 (fs.take j), fun A3 n3 c3 x g => (n0 - x).toNat, ⟨0, rfl, by omega, rfl, Ext.refl _, Lst.nil⟩, ?_⟩
  rintro A3 n3 c3 x g ⟨j, rfl, hj, rfl, xg, l⟩
  refine ifB_dec (fun hlt => draw_ext ?_) (fun hge => ?_)
  · have hx : fs[n3]? = some fs[n3] := List.getElem?_eq_getElem (by omega)
    refine rowL_index fcells_len (by omega) (hr.ext xg) rfl hx fun b q' _ ha => addrK_of rfl (ha.loadS1 0 rfl rfl (asI_of ?_))
    refine rowL_index fcells_len (by omega) (hr.ext xg) rfl hx fun b q' _ ha => addrK_of rfl (ha.loadS1 1 rfl rfl (asI_of ?_))
    refine fate_fill fs[n3] (alloc_new fun p g2 y b x2 => src_blk b rfl ?_)
    refine Lst.push (f := fcells) fcells_len (l.ext x2) fs[n3] rfl (fcells_one _) (by omega) (xg.trans x2).size (by omega) fun A' c' g' l' m' d' => ?_
    refine ⟨⟨n3 + 1, wrap64_id (by omega) (by omega), by omega, rfl, (xg.trans x2).then m' (fun i hi => l.2.base_le hi), by rw [List.take_succ_eq_append_getElem (by omega)]; exact l'⟩, ?_⟩
    rw [wrap64_id (by omega) (by omega)]
    dsimp only
    omega
  · have : n3 = n0 := by omega
    subst this
    rw [← hfl, List.take_length] at l
    rw [← hfl] at hk ⊢
    exact hk A3 c3 g xg l.2.row
end Go.Proofs.Ytfeodnhklibegaa
