/- What is proved: contracts of functions that the law calls, and of the law itself, over any heap. Conditions stand in each theorem. -/
import Derived.Test.YthfjpnabalkjkaaXK06e
set_option linter.unusedSimpArgs false
set_option linter.unusedVariables false
namespace Go.Proofs.Ythfjpnabalkjkaa
open Go.Oct Go.Oct.L01 Go.Oct.L06 Go.RowKit Go.Proofs.YthfjpnabalkjkaaW.PrintWords
/-- no header -/
def zH : Hd := ⟨0, 0, 0, 0, 0, List.replicate 16 0, List.replicate 16 0⟩
theorem hd_fill {z s t : Array Value} {a b c d e : Value} (hz : z.size = 37) (hs : s.size = 16) (ht : t.size = 16) (ha : a.cells = #[a]) (hb : b.cells = #[b]) (hc : c.cells = #[c]) (hd : d.cells = #[d]) (he : e.cells = #[e]) :
    Instr.fill (placeL [(0, 1), (1, 1), (2, 1), (3, 1), (4, 1), (5, 16), (21, 16)]) z [(0, a), (1, b), (2, c), (3, d), (4, e), (5, .agg s), (6, .agg t)] = some ([a, b, c, d, e] ++ (s.toList ++ t.toList)).toArray := by
  have hsl : s.toList.length = 16 := by simpa using hs
  have htl : t.toList.length = 16 := by simpa using ht
  rw [fill_cons (off := 0) (size := 1) rfl (by rw [ha]; rfl) (by omega), ha,
    fill_cons (off := 1) (size := 1) rfl (by rw [hb]; rfl) (by rw [over_size]; omega), hb,
    fill_cons (off := 2) (size := 1) rfl (by rw [hc]; rfl) (by simp only [over_size]; omega), hc,
    fill_cons (off := 3) (size := 1) rfl (by rw [hd]; rfl) (by simp only [over_size]; omega), hd,
    fill_cons (off := 4) (size := 1) rfl (by rw [he]; rfl) (by simp only [over_size]; omega), he,
    fill_cons (v := .agg s) (off := 5) (size := 16) rfl hs (by simp only [over_size]; omega),
    fill_cons (v := .agg t) (off := 21) (size := 16) rfl ht (by simp only [over_size]; omega), fill_nil]
  congr 1
  apply Array.ext_getElem?
  intro i
  have c1 : (Value.agg s).cells.toList = s.toList := rfl
  have c2 : (Value.agg t).cells.toList = t.toList := rfl
  rw [c1, c2, over_get (by simp only [over_size]; omega), over_get (by simp only [over_size]; omega), over_get (by simp only [over_size, List.length_singleton]; omega), over_get (by simp only [over_size, List.length_singleton]; omega), over_get (by simp only [over_size, List.length_singleton]; omega), over_get (by simp only [over_size, List.length_singleton]; omega), over_get (by simp only [List.length_singleton]; omega)]
  have hR : (([a, b, c, d, e] ++ (s.toList ++ t.toList)).toArray)[i]? = ([a, b, c, d, e] ++ (s.toList ++ t.toList))[i]? := by simp only [List.getElem?_toArray]
  rw [hR]
  simp only [List.length_singleton, hsl, htl]
  by_cases h5 : i < 5
  · rw [List.getElem?_append_left (by simpa using h5)]
    have : i = 0 ∨ i = 1 ∨ i = 2 ∨ i = 3 ∨ i = 4 := by omega
    rcases this with rfl | rfl | rfl | rfl | rfl <;> simp
  · rw [List.getElem?_append_right (by simp; omega)]
    simp only [List.length_cons, List.length_nil, Nat.zero_add]
    by_cases h21 : i < 21
    · rw [List.getElem?_append_left (by omega), if_neg (by omega), if_pos (by omega)]
    · rw [List.getElem?_append_right (by omega), hsl]
      by_cases h37 : i < 37
      · rw [if_pos (by omega)]
        congr 1
      · rw [if_neg (by omega), if_neg (by omega), if_neg (by omega), if_neg (by omega), if_neg (by omega), if_neg (by omega), if_neg (by omega), List.getElem?_eq_none (by omega), Array.getElem?_eq_none (by omega)]
section
variable {h : H} {k : Value → H → Prop} {B : Option Addr} {m d : Nat} {b : List Int}
/-- Parse -/
theorem c30 (hr : RowH h B m (b.map bf).toArray) (hmd : m ≤ d) (hm : m ≤ 1000000) (hb : ∀ x ∈ b, isB x)
    (herr : ∀ e, parseH b = .inr e → ∀ h', Go.Oct.Ext h h' → k (.tuple #[.agg (hcells zH).toArray, .int .i64 e]) h')
    (hk : ∀ hh, parseH b = .inl hh → ∀ h', Go.Oct.Ext h h' → k (.tuple #[.agg (hcells hh).toArray, .int .i64 0]) h') : callK Try.prog 30 #[.slice B m d] h k := by
  refine call30 _ _ _ _ _ ?_
  unfold d30
  have hbl : b.length = m := by simpa using hr.1
  refine alloc_new fun p2 g y2 b2 x2 => ?_
  have r2 := hr.ext x2
  have zerr : ∀ (e : Int) (g' : H), Go.Oct.Ext g g' → (∀ h', Go.Oct.Ext h h' → k (.tuple #[.agg (hcells zH).toArray, .int .i64 e]) h') → storeK 37 (some ⟨p2, 0, none⟩) (hcells zH).toArray g' (fun h => loadN 37 (some ⟨p2, 0, none⟩) h (fun c2 => k (.tuple #[(.agg c2), (.int .i64 e)]) h)) := by
    intro e g' xg hk
    refine store_all (b2.ext xg) rfl (by rfl) (hcells_one zH) fun g4 b4 m4 => ?_
    exact b4.at_.loadN rfl (hk g4 ((x2.trans xg).then m4 (fun i hi => by rw [hi]; exact y2)))
  unfold parseH at herr hk
  refine ifB_dec (fun h1 => zerr 10 g (Go.Oct.Ext.refl g) (herr 10 (by rw [if_pos (by omega)]))) (fun h1 => ?_)
  have h1' : ¬ b.length < 40 := by omega
  rw [if_neg h1'] at herr hk
  have g04 : getR b 0 4 = (val (b.take 4), 0) := by
    unfold getR
    rw [if_neg (by omega), if_neg (by omega)]
    simp
  have g42 : getR b 4 2 = (val ((b.drop 4).take 2), 0) := by
    unfold getR
    rw [if_neg (by omega), if_neg (by omega)]
    simp
  have v4 := val_bound 4 (b.take 4) (by rw [List.length_take]; omega) (fun x hx => hb x (List.mem_of_mem_take hx))
  have v2 := val_bound 2 ((b.drop 4).take 2) (by rw [List.length_take, List.length_drop]; omega) (fun x hx => hb x (List.mem_of_mem_drop (List.mem_of_mem_take hx)))
  refine c48 B m d b 0 4 g _ r2 hmd (by omega) (by decide) hb (asT2_of (asI_of (asI_of ?_)))
  refine c48 B m d b 4 2 g _ r2 hmd (by omega) (by decide) hb (asT2_of (asI_of (asI_of ?_)))
  rw [g04, g42, needK_true (by decide)]
  dsimp only
  have e28 : shrK .u64 (val (b.take 4)) 28 = val (b.take 4) / 268435456 := by simpa using shrN (val (b.take 4)) 28 (by decide)
  have e20 : shrK .u64 (val (b.take 4)) 20 = val (b.take 4) / 1048576 := by simpa using shrN (val (b.take 4)) 20 (by decide)
  rw [e28]
  refine ifB_ne (fun h2 => zerr 50 g (Go.Oct.Ext.refl g) (herr 50 (by rw [if_pos h2]))) (fun h2 => draw_ext ?_)
  have h2' : ¬ val (b.take 4) / 268435456 ≠ 6 := fun h => h h2
  rw [if_neg h2'] at hk
  rw [needK_true (by decide)]
  have g6 : b[6]? = some (b.getD 6 0) := by rw [List.getD_eq_getElem?_getD, List.getElem?_eq_getElem (by omega)]; rfl
  have g7 : b[7]? = some (b.getD 7 0) := by rw [List.getD_eq_getElem?_getD, List.getElem?_eq_getElem (by omega)]; rfl
  refine row_loadS (f := bf) r2 (j := 6) rfl g6 (asI_of ?_)
  refine row_loadS (f := bf) r2 (j := 7) rfl g7 (asI_of ?_)
  rw [needK_true (by simp)]
  refine row_slice r2 hmd (l := 8) (u := 24) rfl rfl (by omega) (by omega) fun A41 c41 r41 _ _ _ => ?_
  refine ⟨by decide, row_loadSN (f := bf) r41 (by decide) ?_⟩
  rw [needK_true (by simp)]
  refine row_slice r2 hmd (l := 24) (u := 40) rfl rfl (by omega) (by omega) fun A45 c45 r45 _ _ _ => ?_
  refine ⟨by decide, row_loadSN (f := bf) r45 (by decide) ?_⟩
  have hs : ((b.drop 8).take 16).length = 16 := by rw [List.length_take, List.length_drop]; omega
  have ht : ((b.drop 24).take 16).length = 16 := by rw [List.length_take, List.length_drop]; omega
  refine ⟨_, hd_fill (by rfl) (by simpa using hs) (by simpa using ht) rfl rfl rfl rfl rfl, ?_⟩
  have w1 : IntKind.wrap .u8 (val (b.take 4) / 1048576) = val (b.take 4) / 1048576 % 256 := by rw [IntKind.wrap_u8]
  have w2 : IntKind.wrap .u32 (val (b.take 4) % 1048576) = val (b.take 4) % 1048576 := by rw [IntKind.wrap_u32]; omega
  have w3 : IntKind.wrap .u16 (val ((b.drop 4).take 2)) = val ((b.drop 4).take 2) := by rw [IntKind.wrap_u16]; omega
  rw [e20, and20 (by omega) (by omega), w1, w2, w3]
  have fin : ([Value.int .u8 (val (b.take 4) / 1048576 % 256), .int .u32 (val (b.take 4) % 1048576), .int .u16 (val ((b.drop 4).take 2)), bf (b.getD 6 0), bf (b.getD 7 0)] ++ ((((b.drop 8).take 16).map bf).toArray.toList ++ (((b.drop 24).take 16).map bf).toArray.toList)).toArray = (hcells (hdOf b)).toArray := rfl
  refine (show storeK 37 (some ⟨p2, 0, none⟩) (hcells (hdOf b)).toArray g _ from ?_)
  have hsz : (hcells (hdOf b)).toArray.size = 37 := by rw [List.size_toArray]; exact hcells_len (hdOf_ok hb (by omega))
  refine store_all b2 hsz (by rfl) (hcells_one _) fun g4 b4 m4 => ?_
  exact b4.at_.loadN (by simpa using hsz) (hk _ rfl g4 (x2.then m4 (fun i hi => by rw [hi]; exact y2)))
end
end Go.Proofs.Ythfjpnabalkjkaa
