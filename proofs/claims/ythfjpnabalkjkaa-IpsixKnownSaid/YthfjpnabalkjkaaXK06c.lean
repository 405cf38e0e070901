/- What is proved: contracts of functions that the law calls, and of the law itself, over any heap. Conditions stand in each theorem. -/
import Derived.Test.YthfjpnabalkjkaaXK06b
set_option linter.unusedSimpArgs false
set_option linter.unusedVariables false
namespace Go.Proofs.Ythfjpnabalkjkaa
open Go.Oct Go.Oct.L01 Go.Oct.L06
/-- xs[i], of a row that S holds fast -/
theorem row_loadT {α : Type} {f : α → Value} {S : H → Prop} {h : H} (h0 : S h) {A : Option Addr} {n : Nat} {xs : List α} (r : ∀ g, S g → RowH g A n (xs.map f).toArray) {i : Int} {j : Nat} {x : α} (hi : i = j) (hx : xs[j]? = some x) {k : Value → Prop} (hk : k (f x)) : indexK 1 A n i (fun p => loadS1 S p k) := by
  subst hi
  have hj : j < xs.length := (List.getElem?_eq_some_iff.1 hx).1
  have hn : xs.length = n := by simpa using (r h h0).1
  obtain ⟨ad, rfl, hc⟩ := (r h h0).2 (by omega)
  refine ⟨ad, rfl, by omega, by omega, ?_⟩
  rw [Int.toNat_natCast, Nat.mul_one]
  refine loadS1_some (v := f x) (fun g hg => ?_) hk
  obtain ⟨ad', e, hc'⟩ := (r g hg).2 (by omega)
  cases e
  rw [hc' j (by omega)]
  simp [hx]
/-- data rows apart -/
def DjX (xs : List Ex) : Prop := ∀ (i j : Nat) (v w : Ex), xs[i]? = some v → xs[j]? = some w → i < j → ∀ b, blkOf v.A b → ¬ blkOf w.A b
theorem DjX.snoc {xs : List Ex} (d : DjX xs) {w : Ex} (h : ∀ v ∈ xs, ∀ b, blkOf v.A b → ¬ blkOf w.A b) : DjX (xs ++ [w]) := by
  intro i j u v hu hv hij b hb1 hb2
  have hj := (List.getElem?_eq_some_iff.1 hv).1
  rw [List.length_append, List.length_singleton] at hj
  rw [List.getElem?_append_left (by omega)] at hu
  rcases Nat.lt_or_ge j xs.length with h3 | h3
  · rw [List.getElem?_append_left h3] at hv
    exact d i j u v hu hv hij b hb1 hb2
  · rw [List.getElem?_append_right h3, show j - xs.length = 0 by omega] at hv
    simp only [List.getElem?_cons_zero, Option.some.injEq] at hv
    subst hv
    exact h u (List.mem_of_getElem? hu) b hb1 hb2
/-- a chain of the call's own -/
structure Cx (h : H) (base : Nat) (A : Option Addr) (n c : Nat) (xs : List Ex) : Prop where
  exts : Lst h base 48 Ex.cells 2 A n c xs
  dat : ∀ x ∈ xs, Byt h base x.A x.n x.c x.d
  dj : DjX xs
  byk : ∀ x ∈ xs, isB x.k ∧ ∀ y ∈ x.d, isB y
  sml : ∀ x ∈ xs, x.n ≤ 2046
  few : n ≤ 16
theorem Cx.ext {h h' : H} {base : Nat} {A : Option Addr} {n c : Nat} {xs : List Ex} (s : Cx h base A n c xs) (x : Ext h h') : Cx h' base A n c xs := { s with exts := s.exts.ext x, dat := fun v hv => (s.dat v hv).ext x }
theorem Cx.mod {h h' : H} {base : Nat} {S : Nat → Prop} {A : Option Addr} {n c : Nat} {xs : List Ex} (s : Cx h base A n c xs) (x : Go.Oct.Mod h h' S) (h1 : ∀ i, blkOf A i → ¬ S i) (h2 : ∀ v ∈ xs, ∀ i, blkOf v.A i → ¬ S i) : Cx h' base A n c xs := { s with exts := s.exts.mod x h1, dat := fun v hv => (s.dat v hv).mod x (h2 v hv) }
theorem Cx.ch {h : H} {base : Nat} {A : Option Addr} {n c : Nat} {xs : List Ex} {p : Int} (s : Cx h base A n c xs) (hp : isB p) : Ch h A n xs p :=
  ⟨s.exts.2.row, s.exts.1, by have := s.few; omega, fun x hx => ⟨Lst.row (f := bf) (s.dat x hx), (s.dat x hx).2.le, by have := s.sml x hx; omega, (s.byk x hx).1, (s.byk x hx).2⟩, hp⟩
/-- a reader of chains; it began at h0 -/
structure RdS (h0 h : H) (pr : Nat) (A : Option Addr) (n c : Nat) (xs : List Ex) (p : Int) (B : Option Addr) (m d : Nat) (b : List Int) (at_ : Nat) : Prop where
  ext : Ext h0 h
  blk : Blk h pr #[.slice A n c, .int .u8 p, .slice B m d, .int .i64 at_] 77
  le : h0.size ≤ pr
  cx : Cx h h0.size A n c xs
  row : RowH h0 B m (b.map bf).toArray
  md : m ≤ d
  at_ : at_ ≤ m
  byb : ∀ x ∈ b, isB x
  byp : isB p
  small : m ≤ 1000000
theorem RdS.grow {h0 h h' : H} {pr : Nat} {A : Option Addr} {n c : Nat} {xs : List Ex} {p : Int} {B : Option Addr} {m d : Nat} {b : List Int} {at_ : Nat} (r : RdS h0 h pr A n c xs p B m d b at_) (x : Ext h h') : RdS h0 h' pr A n c xs p B m d b at_ :=
  { r with ext := r.ext.trans x, blk := r.blk.ext x, cx := r.cx.ext x }
theorem one_60 {xs : List Ext} {p : Int} {rest : List Int} (h : xs.length = 16 ∨ (p = 0 ∧ 0 < xs.length)) : one xs p rest = .inr 60 := by unfold one; rw [if_pos h]
theorem one_s {xs : List Ext} {p : Int} {rest : List Int} (h : ¬ (xs.length = 16 ∨ (p = 0 ∧ 0 < xs.length))) (h2 : rest.length < 2) : one xs p rest = .inr 10 := by
  unfold one; rw [if_neg h]
  match rest, h2 with
  | [], _ => rfl
  | [_], _ => rfl
theorem one_m {xs : List Ext} {p r0 r1 : Int} {t : List Int} (h : ¬ (xs.length = 16 ∨ (p = 0 ∧ 0 < xs.length))) : one xs p (r0 :: r1 :: t) = if (r0 :: r1 :: t).length < sizeOf1 p r1 then .inr 10
      else if p = 44 ∧ (r1 ≠ 0 ∨ rightX (p, ((r0 :: r1 :: t).take (sizeOf1 p r1)).drop 2) = false) then .inr 60
      else .inl ((p, ((r0 :: r1 :: t).take (sizeOf1 p r1)).drop 2), r0, sizeOf1 p r1) := by unfold one; rw [if_neg h]
section
variable {h0 h : H} {pr : Nat} {A : Option Addr} {n c : Nat} {xs : List Ex} {p : Int} {B : Option Addr} {m d : Nat} {b : List Int} {at_ : Nat}
set_option maxHeartbeats 1000000 in
/-- one -/
theorem c33 (r : RdS h0 h pr A n c xs p B m d b at_) (k : Value → H → Prop) (herr : ∀ e, one (pairs xs) p (b.drop at_) = .inr e → ∀ h', Ext h h' → k (.int .i64 e) h')
    (hk : ∀ (ex : Ex) (p' : Int) (sz : Nat), one (pairs xs) p (b.drop at_) = .inl (ex.pair, p', sz) → ∀ A' c' h', RdS h0 h' pr A' (n + 1) c' (xs ++ [ex]) p' B m d b (at_ + sz) → Go.Oct.Mod h h' (fun i => i = pr ∨ blkOf A i) → 8 ≤ sz → k (.int .i64 0) h') : callK Try.prog 33 #[.pointer (some ⟨pr, 0, none⟩)] h k := by
  refine call33 _ _ _ ?_
  unfold d33
  have hxl : xs.length = n := r.cx.exts.1
  have hpl : (pairs xs).length = n := by simp [pairs, hxl]
  have hbl : b.length = m := by simpa using r.row.1
  have hat := r.at_
  have hsm := r.small
  have hmd := r.md
  have ab := r.blk.at_
  refine ⟨fun b' g => g = h ∧ b' = decide ((pairs xs).length = 16 ∨ (p = 0 ∧ 0 < (pairs xs).length)), ?_, ?_⟩
  · refine nilK_of ?_
    refine addrK_of rfl (addrK_of rfl (ab.load1 0 rfl rfl (asS_of ?_)))
    refine ifB_eq (fun h1 => ⟨rfl, ?_⟩) (fun h1 => ?_)
    · rw [eq_comm, decide_eq_true_iff]; omega
    refine nilK_of ?_
    refine addrK_of rfl (addrK_of rfl (ab.load1 1 rfl rfl (asI_of ?_)))
    refine ifB_eq (fun h2 => ?_) (fun h2 => ⟨rfl, ?_⟩)
    · refine nilK_of ?_
      refine addrK_of rfl (addrK_of rfl (ab.load1 0 rfl rfl (asS_of ⟨rfl, ?_⟩)))
      simp only [decide_eq_decide]; omega
    · rw [eq_comm, decide_eq_false_iff_not]; omega
  rintro b' g ⟨rfl, rfl⟩
  refine ifB_dec (fun h1 => herr 60 (one_60 h1) g (Ext.refl g)) (fun h1 => draw_ext ?_)
  refine nilK_of ?_
  refine addrK_of rfl (ab.loadS1 2 rfl rfl (asS_of ?_))
  refine nilK_of ?_
  refine addrK_of rfl (ab.loadS1 3 rfl rfl (asI_of ?_))
  rw [needK_true (by simp)]
  refine row_slice r.row hmd (l := at_) (u := m) rfl rfl (by omega) (by omega) fun A38 c38 r38 hc38 _ d38 => ?_
  rw [List.take_of_length_le (by rw [List.length_drop]; omega)] at r38
  have hrl : (b.drop at_).length = m - at_ := by rw [List.length_drop]; omega
  have hby : ∀ x ∈ b.drop at_, isB x := fun x hx => r.byb x (List.mem_of_mem_drop hx)
  refine ifB_dec (fun h2 => herr 10 (one_s h1 (by omega)) g (Ext.refl g)) (fun h2 => ?_)
  generalize hrest : b.drop at_ = rest at *
  obtain ⟨r0, r1, t, rfl⟩ : ∃ r0 r1 t, rest = r0 :: r1 :: t := match rest, hrl with
    | r0 :: r1 :: t, _ => ⟨r0, r1, t, rfl⟩
    | [_], e => absurd e (by simp; omega)
    | [], e => absurd e (by simp; omega)
  rw [one_m h1] at herr hk
  have b1 : isB r1 := hby r1 (by simp)
  unfold isB at b1
  refine row_load (f := bf) (r38.ext r.ext) (j := 1) rfl rfl (asI_of ?_)
  refine ⟨fun b' x g' => g' = g ∧ x = (sizeOf1 p r1 : Int), ?_, ?_⟩
  · refine nilK_of ?_
    refine addrK_of rfl (addrK_of rfl (ab.load1 1 rfl rfl (asI_of ?_)))
    unfold sizeOf1
    refine ifB_eq (fun h3 => ⟨rfl, by rw [if_pos h3]; rfl⟩) (fun h3 => ⟨rfl, ?_⟩)
    rw [if_neg h3, wrap64_id (x := r1) (by omega) (by omega), wrap64_id (x := r1 + 1) (by omega) (by omega), wrap64_id (by omega) (by omega)]
    omega
  rintro b53 x g' ⟨rfl, rfl⟩
  have hs8 : 8 ≤ sizeOf1 p r1 ∧ sizeOf1 p r1 ≤ 2048 := by unfold sizeOf1; split <;> omega
  refine ifB_dec (fun h3 => herr 10 (by rw [if_pos (by omega)]) g' (Ext.refl g')) (fun h3 => ?_)
  have h3' : ¬ (r0 :: r1 :: t).length < sizeOf1 p r1 := by omega
  rw [if_neg h3'] at herr hk
  generalize hsz : sizeOf1 p r1 = sz at *
  have hdd : ((r0 :: r1 :: t).take sz).drop 2 = ((r0 :: r1 :: t).drop 2).take (sz - 2) := by rw [List.drop_take]
  generalize hdat : ((r0 :: r1 :: t).take sz).drop 2 = dat at *
  have hdl : dat.length = sz - 2 := by rw [← hdat, List.length_drop, List.length_take]; omega
  have hdb : ∀ y ∈ dat, isB y := fun y hy => hby y (by rw [← hdat] at hy; exact List.mem_of_mem_take (List.mem_of_mem_drop hy))
  -- the new header
  refine ⟨fun p5 g2 => ∃ b5 A66 c66, p5 = some ⟨b5, 0, none⟩ ∧ Ext g' g2 ∧ Blk g2 b5 (Ex.cells ⟨p, A66, sz - 2, c66, dat⟩).toArray 48 ∧ g'.size ≤ b5 ∧ Byt g2 g'.size A66 (sz - 2) c66 dat, draw_ext ?_, ?_⟩
  · refine nilK_of ?_
    refine addrK_of rfl (addrK_of rfl (ab.loadS1 1 rfl rfl (asI_of ?_)))
    rw [needK_true (by simp)]
    refine row_slice (r38.ext r.ext) hc38 (l := 2) (u := sz) rfl rfl (by omega) (by omega) fun A65 c65 r65 _ _ _ => ?_
    rw [← hdd] at r65
    constructor
    · refine c41 A65 (sz - 2) c65 dat g' _ r65 (by omega) fun A66 c66 g2 x2 l2 => asS_of ⟨x2, ?_⟩
      refine alloc_new fun b5 g3 y3 b3 x3 => ⟨x2.trans x3, ?_⟩
      refine store_all b3 rfl (by simp) (by simp [OneCells, Value.oneCell']) fun g4 b4 m4 => ?_
      have z2 := x2.size
      exact ⟨b5, A66, c66, rfl, (x2.trans x3).then m4 (fun i hi => by omega), b4, by omega, (l2.ext x3).mod m4 (fun i hi e => by have := l2.2.lt hi; omega)⟩
    · refine alloc_new fun b5 g3 y3 b3 x3 => ⟨x3, ?_⟩
      refine c41 A65 (sz - 2) c65 dat g3 _ (r65.ext x3) (by omega) fun A66 c66 g2 x2 l2 => asS_of ⟨x3.trans x2, ?_⟩
      refine store_all (b3.ext x2) rfl (by simp) (by simp [OneCells, Value.oneCell']) fun g4 b4 m4 => ?_
      have z3 := x3.size
      have lb := b3.lt
      exact ⟨b5, A66, c66, rfl, (x3.trans x2).then m4 (fun i hi => by omega), b4, by omega, Lst.weaken (l2.mod m4 (fun i hi e => by have := l2.2.base_le hi; omega)) z3⟩
  rintro p5 g2 ⟨b5, A66, c66, rfl, x2, k5, y5, l66⟩
  have a5 : At g2 b5 0 (Ex.cells ⟨p, A66, sz - 2, c66, dat⟩) := k5.at_
  have r2 := r.grow x2
  have ab2 := r2.blk.at_
  have o5 : (⟨p, A66, sz - 2, c66, dat⟩ : Ex).ok g2 := ⟨Lst.row (f := bf) l66, l66.2.le, by dsimp only; omega, r.byp, hdb⟩
  refine ⟨fun b' g3 => Ext g2 g3 ∧ b' = decide (p = 44 ∧ (r1 ≠ 0 ∨ rightX (p, dat) = false)), ?_, ?_⟩
  · refine nilK_of ?_
    refine addrK_of rfl (addrK_of rfl (ab2.load1 1 rfl rfl (asI_of ?_)))
    refine ifB_eq (fun h4 => ?_) (fun h4 => ⟨Ext.refl _, by rw [eq_comm, decide_eq_false_iff_not]; exact fun h => h4 h.1⟩)
    refine row_load (f := bf) (r38.ext r2.ext) (j := 1) rfl rfl (asI_of ?_)
    refine ifB_ne (fun h5 => ⟨Ext.refl _, by rw [eq_comm, decide_eq_true_iff]; exact ⟨h4, .inl h5⟩⟩) (fun h5 => ?_)
    refine a5.loadN rfl ?_
    refine c44 _ o5 fun g3 x3 => asB_of ⟨x3, ?_⟩
    show (!rightX (p, dat)) = _
    cases h6 : rightX (p, dat)
    · rw [eq_comm]; simp [h4]
    · rw [eq_comm]; simp [h5]
  rintro b84 g3 ⟨x3, rfl⟩
  refine ifB_dec (fun h4 => herr 60 (by rw [if_pos h4]) g3 (x2.trans x3)) (fun h4 => ?_)
  rw [if_neg h4] at hk
  have hk := hk ⟨p, A66, sz - 2, c66, dat⟩ r0 sz rfl
  have r3 := r2.grow x3
  have ab3 := r3.blk.at_
  have a53 := a5.ext x3
  have z2 := x2.size
  have z3 := x3.size
  have z0 := r.ext.size
  have hAl := fun i (hi : blkOf A i) => r.cx.exts.2.lt hi
  have hAb := fun i (hi : blkOf A i) => r.cx.exts.2.base_le hi
  have hprA : ¬ blkOf A pr := fun hi => r.cx.exts.2.ne_blk r.blk (by decide) _ hi rfl
  refine ⟨fun g4 => Go.Oct.Mod g3 g4 (blkOf A), Go.Oct.Mod.refl _ _, ?_⟩
  refine nilK_of ?_
  refine addrK_of rfl (addrK_of rfl (At.loadS1m ab3 hprA 0 rfl rfl (asS_of ?_)))
  refine At.loadSNm a53 (fun hi => by have := hAl _ hi; omega) rfl ?_
  have r38' : ∀ g4, Go.Oct.Mod g3 g4 (blkOf A) → RowH g4 A38 (m - at_) ((r0 :: r1 :: t).map bf).toArray := fun g4 hm => (r38.ext r3.ext).mod hm (fun ad e hi => by
    have h5 := RowH.lt r38 (by omega) ad.block ⟨ad, e, rfl⟩
    have := hAb _ hi
    omega)
  refine row_loadT (f := bf) (S := fun g4 => Go.Oct.Mod g3 g4 (blkOf A)) (Go.Oct.Mod.refl g3 _) r38' (j := 0) rfl rfl (asI_of ?_)
  refine nilK_of ?_
  refine addrK_of rfl (At.loadS1m ab3 hprA 3 rfl rfl (asI_of ?_))
  refine ⟨(Ex.cells ⟨p, A66, sz - 2, c66, dat⟩).toArray, by simp [Instr.fill, Value.cells, Ex.cells, List.zipIdx], ?_⟩
  refine alloc_new fun p94 g4 y4 b4 x4 => ⟨x4.mod, src_blk b4 rfl ?_⟩
  have r4 := r3.grow x4
  have z4 := x4.size
  have hn16 : n < 16 := by
    have := r.cx.few
    have : ¬ n = 16 := fun e => h1 (.inl (by omega))
    omega
  refine Lst.push (f := Ex.cells) Ex.len r4.cx.exts ⟨p, A66, sz - 2, c66, dat⟩ rfl (Ex.one _) (by omega) (by omega) (by omega) fun A95 c95 g5 l5 m5 d5 => ?_
  refine ⟨x4.mod.trans m5, ?_⟩
  have k5' := r4.blk.mod m5 hprA
  refine nilK_of ?_
  refine addrK_of rfl (addrK_of rfl ?_)
  refine store_blk k5' rfl (by simp) (by simp [OneCells, Value.cells, Value.oneCell']) fun g6 k6 m6 => ?_
  refine nilK_of ?_
  refine addrK_of rfl (addrK_of rfl ?_)
  refine store_blk k6 rfl (by rw [over_size]; simp) (by simp [OneCells, Value.cells, Value.oneCell']) fun g7 k7 m7 => ?_
  rw [wrap64_id (by omega) (by omega)]
  refine nilK_of ?_
  refine addrK_of rfl ?_
  refine store_blk k7 rfl (by rw [over_size, over_size]; simp) (by simp [OneCells, Value.cells, Value.oneCell']) fun g8 k8 m8 => ?_
  have k8 : Blk g8 pr #[.slice A95 (n + 1) c95, .int .u8 r0, .slice B m d, .int .i64 ((at_ : Int) + sz)] 77 := k8
  have m68 : Go.Oct.Mod g5 g8 (· = pr) := m6.trans (m7.trans m8)
  have e5 := r4.ext.then m5 (fun i hi => hAb i hi)
  have e8 := e5.then m68 (fun i hi => by rw [hi]; exact r.le)
  have hpr : pr < g'.size := r.blk.lt
  have hdA : ∀ v ∈ xs, ∀ i, blkOf v.A i → ¬ blkOf A i := fun v hv => (r.cx.dat v hv).2.disj r.cx.exts.2 (by decide)
  have hdp : ∀ v ∈ xs, ∀ i, blkOf v.A i → i ≠ pr := fun v hv => (r.cx.dat v hv).2.ne_blk r.blk (by decide)
  have h66 := fun i (hi : blkOf A66 i) => l66.2.base_le hi
  refine hk A95 c95 g8 ⟨e8, by rw [Int.natCast_add]; exact k8, r.le, ⟨l5.mod m68 (fun i hi e => l5.2.ne_blk k5' (by decide) i hi e), ?_, ?_, ?_, ?_, by omega⟩, r.row, r.md, by omega, r.byb, hby r0 (by simp), r.small⟩ ((x2.trans (x3.trans x4)).mod.trans ((m5.mono fun i _ hi => .inr hi).trans (m68.mono fun i _ hi => .inl hi))) (by omega)
  · intro v hv
    rcases List.mem_append.1 hv with hv | hv
    · exact ((r4.cx.dat v hv).mod m5 (hdA v hv)).mod m68 (hdp v hv)
    · rw [List.mem_singleton.1 hv]
      have h1 : Byt g4 h0.size A66 (sz - 2) c66 dat := Lst.weaken (l66.ext (x3.trans x4)) z0
      exact (h1.mod m5 (fun i hi e => by have := h66 i hi; have := hAl i e; omega)).mod m68 (fun i hi e => by have := h66 i hi; omega)
  · refine r.cx.dj.snoc fun v hv i hi1 hi2 => ?_
    have := (r.cx.dat v hv).2.lt hi1
    have := h66 i hi2
    omega
  · intro v hv
    rcases List.mem_append.1 hv with hv | hv
    · exact r.cx.byk v hv
    · rw [List.mem_singleton.1 hv]; exact ⟨r.byp, hdb⟩
  · intro v hv
    rcases List.mem_append.1 hv with hv | hv
    · exact r.cx.sml v hv
    · rw [List.mem_singleton.1 hv]; dsimp only; omega
end
end Go.Proofs.Ythfjpnabalkjkaa
