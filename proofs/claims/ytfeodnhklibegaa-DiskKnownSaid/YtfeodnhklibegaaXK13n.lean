/- What is proved: contracts of functions that the law calls, and of the law itself, over any heap. Conditions stand in each theorem. -/
import Derived.Test.YtfeodnhklibegaaXK13m
set_option linter.unusedSimpArgs false
set_option linter.unusedVariables false
namespace Go.Proofs.Ytfeodnhklibegaa
open Go.Oct Go.Oct.L01
/-! ### strings of bytes -/
def sv (xs : List Int) : Value := .string (strOfNums xs)
theorem sv_append (xs ys : List Int) : strOfNums xs ++ strOfNums ys = strOfNums (xs ++ ys) := by
  apply ByteArray.ext
  rw [ByteArray.data_append]
  apply Array.ext'
  simp [strOfNums]
theorem sv_extract (xs : List Int) (a b : Nat) : (strOfNums xs).extract a b = strOfNums ((xs.drop a).take (b - a)) := by
  apply ByteArray.ext
  rw [ByteArray.data_extract]
  apply Array.ext'
  simp [strOfNums, List.extract_eq_take_drop]
theorem sv_nil : (⟨#[]⟩ : ByteArray) = strOfNums [] := rfl
theorem sv_size (xs : List Int) : (strOfNums xs).size = xs.length := strOfNums_size xs
theorem sv_slice {xs : List Int} {lo hi : Option Int} {l u : Nat} {k : ByteArray → Prop} (hl : lo.getD 0 = l) (hu : hi.getD xs.length = u) (h1 : l ≤ u) (h2 : u ≤ xs.length) (hk : k (strOfNums ((xs.drop l).take (u - l)))) : sliceStrK (strOfNums xs) lo hi k := by
  unfold sliceStrK
  rw [sv_size, hl, hu]
  refine ⟨by omega, by omega, by omega, ?_⟩
  rw [Int.toNat_natCast, Int.toNat_natCast, sv_extract]
  exact hk
/-- laid -/
theorem c44 (X bs : List Int) (a : Int) (h : H) (k : Value → H → Prop) (ha : 0 ≤ a) (hl : a + bs.length ≤ X.length) (hX : X.length ≤ 1099511627776) (hk : k (sv (lay X a bs)) h) : callK Try.prog 44 #[sv X, .int .i64 a, sv bs] h k := by
  refine call44 _ _ _ _ _ ?_
  unfold d44
  obtain ⟨o, rfl⟩ := Int.eq_ofNat_of_zero_le ha
  refine draw_ext ?_
  refine sv_slice (l := 0) (u := o) rfl rfl (by omega) (by omega) ?_
  simp only [sv_size, List.drop_zero, Nat.sub_zero]
  rw [needK_true (by rw [List.length_take]; omega), wrap64_id (by omega) (by omega)]
  refine sv_slice (l := o + bs.length) (u := X.length) (by simp) rfl (by omega) (by omega) ?_
  simp only [sv_append, sv_size]
  rw [needK_true (by simp only [List.length_append, List.length_take, List.length_drop]; omega)]
  rw [List.take_of_length_le (l := List.drop (o + bs.length) X) (by rw [List.length_drop]; omega)]
  simpa [sv, lay] using hk
/-- an unsynced write of the reference's -/
def rwc (w : Int × List Int) : List Value := [.int .i64 w.1, sv w.2]
theorem rwc_len (w : Int × List Int) : (rwc w).length = 2 := rfl
theorem rwc_one (w : Int × List Int) : OneCells (rwc w) := by simp [OneCells, rwc, sv, Value.oneCell']
/-- the reference's disk -/
structure RD (h : H) (L : Option Addr) (n : Nat) (D : List Int) (U : List (Int × List Int)) : Prop where
  row : RowH h L (n * 2) (cellsOf rwc U)
  len : U.length = n
  lt : ∀ i, blkOf L i → i < h.size
  inb : ∀ w ∈ U, 0 ≤ w.1 ∧ w.1 + w.2.length ≤ D.length
  byD : ∀ x ∈ D, isB x
  byU : ∀ w ∈ U, ∀ x ∈ w.2, isB x
  small : D.length ≤ 65536
  few : U.length ≤ 1073741824
def rdv (D : List Int) (L : Option Addr) (n q : Nat) : Array Value := #[sv D, .slice L n q]
theorem RD.ext {h h' : H} {L : Option Addr} {n : Nat} {D : List Int} {U : List (Int × List Int)} (r : RD h L n D U) (x : Ext h h') : RD h' L n D U := { r with row := r.row.ext x, lt := fun i hi => Nat.lt_of_lt_of_le (r.lt i hi) x.size }
theorem RD.mod {h h' : H} {S : Nat → Prop} {L : Option Addr} {n : Nat} {D : List Int} {U : List (Int × List Int)} (r : RD h L n D U) (x : Go.Oct.Mod h h' S) (hs : ∀ i, blkOf L i → ¬ S i) : RD h' L n D U :=
  { r with row := r.row.mod x (fun ad e => hs _ ⟨ad, e, rfl⟩), lt := fun i hi => Nat.lt_of_lt_of_le (r.lt i hi) x.size }
theorem app_facts {D : List Int} {U : List (Int × List Int)} (hin : ∀ w ∈ U, 0 ≤ w.1 ∧ w.1 + w.2.length ≤ D.length) (hD : ∀ x ∈ D, isB x) (hU : ∀ w ∈ U, ∀ x ∈ w.2, isB x) : ∀ j, (app D (U.take j)).length = D.length ∧ ∀ x ∈ app D (U.take j), isB x
  | 0 => ⟨rfl, hD⟩
  | j + 1 => by
    obtain ⟨h1, h2⟩ := app_facts hin hD hU j
    by_cases hj : j < U.length
    · rw [List.take_succ_eq_append_getElem hj, app_snoc]
      have hm := List.getElem_mem hj
      have hi := hin _ hm
      exact ⟨by rw [lay_len hi.1 (by omega), h1], lay_isB h2 (hU _ hm)⟩
    · rw [List.take_of_length_le (by omega)] at h1 h2 ⊢
      exact ⟨h1, h2⟩
theorem RD.app {h : H} {L : Option Addr} {n : Nat} {D : List Int} {U : List (Int × List Int)} (r : RD h L n D U) : (app D U).length = D.length ∧ ∀ x ∈ Ytfeodnhklibegaa.app D U, isB x := by
  have := app_facts r.inb r.byD r.byU U.length
  rwa [List.take_length] at this
theorem RD.nil (h : H) {D : List Int} (hD : ∀ x ∈ D, isB x) (hs : D.length ≤ 65536) : RD h none 0 D [] :=
  ⟨⟨rfl, fun h => absurd h (by decide)⟩, rfl, by (rintro i ⟨_, e, _⟩; cases e), by simp, hD, by simp, hs, by simp⟩
section
variable {h : H} {L : Option Addr} {n q : Nat} {D : List Int} {U : List (Int × List Int)}
/-- lies -/
theorem c43 (r : RD h L n D U) (a m : Int) (k : Value → H → Prop) (ha : a ≤ 9223372036854775807) (hk : ∀ h', Ext h h' → k (.bool (liesB D.length a m)) h') : callK Try.prog 43 #[.agg (rdv D L n q), .int .i64 a, .int .i64 m] h k := by
  refine call43 _ _ _ _ _ ?_
  unfold d43
  refine alloc_new fun p g y b x => ?_
  have hk := hk g x
  have hsm := r.small
  unfold liesB at hk
  have a1 : At g p 0 [sv D, .slice L n q] := b.at_
  refine ifB_dec (fun h1 => ?_) (fun h1 => ?_)
  · refine ifB_dec (fun h2 => ?_) (fun h2 => ?_)
    · refine addrK_of rfl (a1.load1 0 rfl rfl (asStr_of ?_))
      rw [sv_size]
      refine ifB_dec (fun h3 => ?_) (fun h3 => ?_)
      · refine addrK_of rfl (a1.load1 0 rfl rfl (asStr_of ?_))
        rw [sv_size, wrap64_id (by omega) (by omega)]
        have : decide (m ≤ (D.length : Int) - a) = decide (0 ≤ a ∧ 0 ≤ m ∧ a ≤ D.length ∧ m ≤ D.length - a) := by simp only [decide_eq_decide]; omega
        rw [this]; exact hk
      · rw [decide_eq_false (by omega)] at hk; exact hk
    · rw [decide_eq_false (by omega)] at hk; exact hk
  · rw [decide_eq_false (by omega)] at hk; exact hk
/-- Now -/
theorem c40 (r : RD h L n D U) (k : Value → H → Prop) (hk : ∀ h', Ext h h' → k (sv (app D U)) h') : callK Try.prog 40 #[.agg (rdv D L n q)] h k := by
  refine call40 _ _ _ ?_
  unfold d40
  refine alloc_new fun p g y b x => ?_
  have a1 : At g p 0 [sv D, .slice L n q] := b.at_
  refine addrK_of rfl (a1.load1 0 rfl rfl (asStr_of ?_))
  have rg := r.ext x
  have hsm := r.small
  have hlen := r.len
  have hfew := r.few
  refine ⟨fun s x g' => g' = g ∧ ∃ j : Nat, x = j ∧ j ≤ n ∧ s = strOfNums (app D (U.take j)), fun s x g' => (n - x).toNat, ⟨rfl, 0, rfl, by omega, rfl⟩, ?_⟩
  rintro s x' g' ⟨rfl, j, rfl, hj, rfl⟩
  refine addrK_of rfl (a1.load1 1 rfl rfl (asS_of ?_))
  refine ifB_dec (fun hlt => draw_ext ?_) (fun hge => ?_)
  · have hx : U[j]? = some U[j] := List.getElem?_eq_getElem (by omega)
    have hm := List.getElem_mem (show j < U.length by omega)
    have hi := r.inb _ hm
    have hfa := (app_facts r.inb r.byD r.byU j).1
    refine addrK_of rfl (a1.loadS1 1 rfl rfl (asS_of ?_))
    refine rowL_index rwc_len (by omega) rg.row rfl hx fun b q _ ha => addrK_of rfl (ha.loadS1 0 rfl rfl (asI_of ?_))
    refine addrK_of rfl (a1.loadS1 1 rfl rfl (asS_of ?_))
    refine rowL_index rwc_len (by omega) rg.row rfl hx fun b q _ ha => addrK_of rfl (ha.loadS1 1 rfl rfl (asStr_of ?_))
    refine c44 _ _ _ _ _ hi.1 (by omega) (by omega) (asStr_of ?_)
    refine ⟨⟨rfl, j + 1, wrap64_id (by omega) (by omega), by omega, ?_⟩, ?_⟩
    · rw [List.take_succ_eq_append_getElem (by omega), app_snoc]
    · rw [wrap64_id (by omega) (by omega)]
      dsimp only
      omega
  · have : j = n := by omega
    subst this
    rw [← hlen, List.take_length]
    exact hk g' x
/-- Sync -/
theorem c36 (r : RD h L n D U) (k : Value → H → Prop) (hk : ∀ h', Ext h h' → RD h' none 0 (app D U) [] → k (.agg (rdv (app D U) none 0 0)) h') : callK Try.prog 36 #[.agg (rdv D L n q)] h k := by
  refine call36 _ _ _ ?_
  unfold d36
  refine alloc_new fun p g y b x => alloc_new fun p2 g2 y2 b2 x2 => ?_
  have a1 : At g2 p 0 [sv D, .slice L n q] := (b.ext x2).at_
  refine a1.loadN rfl ?_
  have x12 := x.trans x2
  refine c40 (r.ext x12) _ fun g3 x3 => asStr_of ?_
  refine store_blk (b2.ext x3) rfl (by simp) (by simp [OneCells, Value.oneCell']) fun g4 b4 m4 => ?_
  have b4 : Blk g4 p2 (rdv (app D U) none 0 0) 66 := b4
  have e4 := (x12.trans x3).then m4 (fun i hi => by have := x.size; omega)
  have ha := r.app
  refine b4.at_.loadN rfl ?_
  exact hk g4 e4 (RD.nil g4 ha.2 (by rw [ha.1]; exact r.small))
/-- Part -/
theorem c39 (r : RD h L n D U) (X : List Int) (hX : X.length = D.length) (a m : Int) (k : Value → H → Prop) (ha : a ≤ 9223372036854775807) (hno : liesB D.length a m = false → ∀ h', Ext h h' → k (.tuple #[.slice none 0 0, .int .i64 130]) h')
    (hk : liesB D.length a m = true → ∀ A' c' h', Ext h h' → Byt h' h.size A' m.toNat c' (part X a m) → k (.tuple #[.slice A' m.toNat c', .int .i64 0]) h') : (∀ x ∈ X, isB x) → callK Try.prog 39 #[.agg (rdv D L n q), sv X, .int .i64 a, .int .i64 m] h k := by
  intro hXb
  refine call39 _ _ _ _ _ _ ?_
  unfold d39
  refine alloc_new fun p g y b x => ?_
  have a1 : At g p 0 [sv D, .slice L n q] := b.at_
  refine a1.loadN rfl ?_
  refine c43 (r.ext x) a m _ ha fun g2 x2 => asB_of (ifB_of (fun hl => hno (by simpa using hl) g2 (x.trans x2)) (fun hl => ?_))
  have hl : liesB D.length a m = true := by simpa using hl
  have hl2 : 0 ≤ a ∧ 0 ≤ m ∧ a ≤ D.length ∧ m ≤ D.length - a := by unfold liesB at hl; simpa using hl
  have hk := hk hl
  have hsm := r.small
  obtain ⟨a, rfl⟩ := Int.eq_ofNat_of_zero_le hl2.1
  obtain ⟨m, rfl⟩ := Int.eq_ofNat_of_zero_le hl2.2.1
  rw [wrap64_id (by omega) (by omega)]
  refine sv_slice (l := a) (u := a + m) rfl (by simp) (by omega) (by omega) ?_
  rw [show a + m - a = m by omega]
  have hpl : (List.take m (List.drop a X)).length = m := by rw [List.length_take, List.length_drop]; omega
  intro c' hc'
  have hbl : Ext g2 (g2.push (.cells (((strOfNums (List.take m (List.drop a X))).data.map fun b => Value.int .u8 b.toNat) ++ Array.replicate (c' - (strOfNums (List.take m (List.drop a X))).size) (.int .u8 0)) 5 (c', c' + 1))) := Ext.push _ _
  have hrow : RowH (g2.push (.cells (((strOfNums (List.take m (List.drop a X))).data.map fun b => Value.int .u8 b.toNat) ++ Array.replicate (c' - (strOfNums (List.take m (List.drop a X))).size) (.int .u8 0)) 5 (c', c' + 1))) (some ⟨g2.size, 0, none⟩) m (((List.take m (List.drop a X)).map bf).toArray) := by
    refine ⟨by simpa using hpl, fun _ => ⟨_, rfl, fun j hj => ?_⟩⟩
    rw [add_mk]
    unfold cellH
    simp only [Array.getElem?_push_size, Nat.zero_add, Option.isSome_none, Bool.false_eq_true, if_false]
    have hj2 : j < (List.take m (List.drop a X)).length := by omega
    have hx := List.getElem_mem hj2
    have hb := hXb _ (List.mem_of_mem_drop (List.mem_of_mem_take hx))
    rw [Array.getElem?_append_left (by simp [strOfNums]; rw [List.length_take, List.length_drop] at hj2; omega)]
    rw [Array.getElem?_map]
    have e1 : (strOfNums (List.take m (List.drop a X))).data[j]? = some (UInt8.ofNat ((List.take m (List.drop a X))[j]).toNat) := by
      unfold strOfNums
      rw [List.getElem?_toArray, List.getElem?_map, List.getElem?_eq_getElem hj2]
      rfl
    rw [e1, List.getElem?_toArray, List.getElem?_map, List.getElem?_eq_getElem hj2]
    simp only [Option.map_some, bf]
    unfold isB at hb
    rw [UInt8.toNat_ofNat']
    congr 2
    omega
  rw [sv_size, hpl] at hbl hrow ⊢
  generalize g2.push _ = g3 at *
  have e3 := x.trans (x2.trans hbl)
  refine c34 none 0 0 [] _ m c' _ g3 _ RowH.nil hrow (by omega) ?_
  intro A5 q5 g5 x5 l5
  refine asS_of ?_
  rw [Nat.zero_add, List.nil_append] at l5
  rw [Nat.zero_add]
  exact hk A5 q5 g5 (e3.trans x5) (Lst.weaken l5 e3.size)
end
/-- New -/
theorem c33 (x : Int) (h : H) (k : Value → H → Prop) (hneg : x < 0 → ∀ h', Ext h h' → k (.tuple #[.agg (rdv [] none 0 0), .int .i64 2]) h') (hbig : 65536 < x → ∀ h', Ext h h' → k (.tuple #[.agg (rdv [] none 0 0), .int .i64 3]) h')
    (hk : 0 ≤ x → x ≤ 65536 → ∀ h', Ext h h' → k (.tuple #[.agg (rdv (zeros x.toNat) none 0 0), .int .i64 0]) h') : callK Try.prog 33 #[.int .i64 x] h k := by
  refine call33 _ _ _ ?_
  unfold d33
  refine alloc_new fun p g y b x1 => ?_
  refine ifB_dec (fun h1 => ?_) (fun h1 => ifB_dec (fun h2 => ?_) (fun h2 => ?_))
  · refine store_blk b rfl (by simp) (by simp [OneCells, Value.oneCell']) fun g4 b4 m4 => ?_
    have b4 : Blk g4 p (rdv [] none 0 0) 66 := b4
    exact b4.at_.loadN rfl (hneg h1 g4 (x1.then m4 (fun i hi => by omega)))
  · refine store_blk b rfl (by simp) (by simp [OneCells, Value.oneCell']) fun g4 b4 m4 => ?_
    have b4 : Blk g4 p (rdv [] none 0 0) 66 := b4
    exact b4.at_.loadN rfl (hbig (by omega) g4 (x1.then m4 (fun i hi => by omega)))
  · obtain ⟨n, rfl⟩ := Int.eq_ofNat_of_zero_le (show 0 ≤ x by omega)
    refine made_one (f := bf) (z := 0) rfl (by omega) (by omega) fun b1 g1 l1 y1 x2 => ?_
    refine strK_of (Lst.row (f := bf) l1) ?_
    refine store_blk (b.ext x2) rfl (by simp) (by simp [OneCells, Value.oneCell']) fun g4 b4 m4 => ?_
    have b4 : Blk g4 p (rdv (zeros n) none 0 0) 66 := b4
    exact b4.at_.loadN rfl (hk (by omega) (by omega) g4 ((x1.trans x2).then m4 (fun i hi => by omega)))
end Go.Proofs.Ytfeodnhklibegaa
