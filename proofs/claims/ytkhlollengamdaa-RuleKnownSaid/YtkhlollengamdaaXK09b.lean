/- What is proved: contracts of functions that the law calls, and of the law itself, over any heap. Conditions stand in each theorem. -/
import Derived.Test.YtkhlollengamdaaXK09a
set_option linter.unusedSimpArgs false
set_option linter.unusedVariables false
namespace Go.Proofs.Ytkhlollengamdaa
open Go.Oct Go.Oct.L09
theorem At.asix {h : H} {b o : Nat} {a : Ad} (x : At h b o a.cells) : At h b o [.bool a.six] := x.mid (pre := []) (mid := [.bool a.six]) (post := a.b.map bf) rfl rfl
theorem At.aby {h : H} {b o : Nat} {a : Ad} (x : At h b o a.cells) {q : Nat} (hq : q = o + 1) : At h b q (a.b.map bf) := x.mid (pre := [.bool a.six]) (mid := a.b.map bf) (post := []) (by simp [Ad.cells]) hq
theorem At.pa {h : H} {b o : Nat} {p : Pf} (x : At h b o p.cells) {q : Nat} (hq : q = o) : At h b q p.a.cells := x.mid (pre := []) (mid := p.a.cells) (post := [.int .i64 p.n]) rfl hq
theorem At.pn {h : H} {b o : Nat} {p : Pf} (ok : p.ok) (x : At h b o p.cells) {q : Nat} (hq : q = o + 17) : At h b q [.int .i64 p.n] := x.mid (pre := p.a.cells) (mid := [.int .i64 p.n]) (post := []) (by simp [Pf.cells]) (by rw [Ad.len17 ok.a]; exact hq)
theorem row_loadN' {h : H} {A : Option Addr} {n : Nat} {cs : Array Value} (r : RowH h A n cs) (hn : 0 < n) {k : Array Value → Prop} (hk : k cs) : loadN n A h k := by
  obtain ⟨ad, e, hc⟩ := r.2 hn
  exact ⟨ad, cs, e, r.1, hc, hk⟩
theorem sliceArr0 {b o c u : Nat} {hi : Option Int} {k : Option Addr → Nat → Nat → Prop} (hu : hi.getD c = u) (hc : u ≤ c) (hk : k (some ⟨b, o, none⟩) u c) : sliceArrK 1 (some ⟨b, o, none⟩) c none hi k := by
  refine ⟨_, rfl, by simp, by rw [hu]; simp, by rw [hu]; omega, ?_⟩
  rw [hu]
  have : (if c = (Option.getD (none : Option Int) 0).toNat then (⟨b, o, none⟩ : Addr) else (⟨b, o, none⟩ : Addr).add ((Option.getD (none : Option Int) 0).toNat * 1)) = ⟨b, o, none⟩ := by
    split
    · rfl
    · simp [add_mk]
  rw [this]
  simpa using hk
theorem copy_more {sz n m : Nat} {A B : Option Addr} {h : H} {k : H → Prop} (hm : n ≤ m) (hk : copyK sz A n B n h k) : copyK sz A n B m h k := by
  unfold copyK at hk ⊢
  have e1 : Nat.min m n = n := Nat.min_eq_right hm
  have e2 : Nat.min n n = n := Nat.min_self n
  rw [e2] at hk
  rw [e1]
  exact hk
section
variable {h : H} {k : Value → H → Prop}
/-- size -/
theorem c64 {a : Ad} (o : a.ok) (hk : ∀ h', Go.Oct.Ext h h' → k (.int .i64 a.size) h') : callK Try.prog 64 #[.agg a.cells.toArray] h k := by
  refine call64 _ _ _ ?_
  unfold d64
  refine alloc_new fun p1 g1 y1 b1 x1 => ?_
  refine addrK_of rfl ((At.asix b1.at_).load1 0 rfl rfl (asB_of ?_))
  refine ifB_of (fun h => ?_) (fun h => ?_)
  · have := hk g1 x1
    unfold Ad.size at this
    rw [if_pos h] at this; exact this
  · have := hk g1 x1
    unfold Ad.size at this
    rw [if_neg (by rw [h]; decide)] at this; exact this
theorem Ad.size_le (a : Ad) : a.size ≤ 16 := by unfold Ad.size; split <;> omega
/-- right, of an address -/
theorem c63 {a : Ad} (o : a.ok) (hk : ∀ h', Go.Oct.Ext h h' → k (.bool a.right) h') : callK Try.prog 63 #[.agg a.cells.toArray] h k := by
  refine call63 _ _ _ ?_
  unfold d63
  refine alloc_new fun p1 g1 y1 b1 x1 => alloc_new fun p3 g2 y3 b3 x2 => draw_ext ?_
  have k1 := b1.ext x2
  have a1 : At g2 p1 0 a.cells := k1.at_
  refine a1.loadSN (Ad.len17 o) (addrK_of rfl ?_)
  refine sliceArr0 (u := 16) rfl (Nat.le_refl _) ?_
  refine c64 o fun g3 x3 => asI_of ?_
  have hs := Ad.size_le a
  refine sliceArr0 (u := a.size) rfl hs ?_
  have l3 : Lst g3 p3 23 (fun x => [bf x]) 1 (some ⟨p3, 0, none⟩) 16 16 (List.replicate 16 0) := ⟨by simp, Own.of_blk (Nat.le_refl _) (b3.ext x3) rfl⟩
  have a1b : At g3 p1 1 (a.b.map bf) := At.aby (a1.ext x3) rfl
  have rb : RowH g3 (some ⟨p1, 1, none⟩) a.size ((a.b.take a.size).map bf).toArray := by
    refine At.rowf (l := (a.b.take a.size).map bf) (At.mid (pre := []) (post := (a.b.drop a.size).map bf) a1b ?_ rfl) ?_
    · rw [List.nil_append, ← List.map_append, List.take_append_drop]
    · rw [List.length_map, List.length_take, o.len]; omega
  refine copy_more hs (Lst.copies (f := bf) l3 (o := 0) (m := a.size) (a.b.take a.size) rb (fun _ => rfl) (by omega) (Nat.le_refl _) (fun _ => rfl) fun g4 l4 m4 => ?_)
  have hne : p1 ≠ p3 := by have := b1.lt; omega
  have a4 : At g4 p1 0 a.cells := (a1.ext x3).mod m4 (by rintro ⟨ad, e, h2⟩; cases e; exact hne h2.symm)
  refine addrK_of rfl ((At.aby a4 rfl).loadN (by rw [List.length_map, o.len]) ?_)
  refine row_loadN' (Lst.row (f := bf) l4) (by decide) ?_
  have hlen : (List.take 0 (List.replicate 16 (0 : Int)) ++ List.take a.size a.b ++ List.drop (0 + a.size) (List.replicate 16 0)) = a.b.take a.size ++ List.replicate (16 - a.size) 0 := by
    rw [List.take_zero, List.nil_append, Nat.zero_add, List.drop_replicate]
  rw [hlen]
  refine eq23 _ _ o.len (by rw [List.length_append, List.length_take, List.length_replicate, o.len]; omega) o.by_ (fun x hx => ?_) ?_
  · rcases List.mem_append.1 hx with hx | hx
    · exact o.by_ x (List.mem_of_mem_take hx)
    · rw [(List.mem_replicate.1 hx).2]; decide
  · have e := ((x1.trans x2).trans x3).then m4 (by rintro i ⟨ad, e, rfl⟩; cases e; have := x1.size; dsimp only; omega)
    exact hk _ e
/-- none -/
theorem c44 {p : Pf} (o : p.ok) (hk : ∀ h', Go.Oct.Ext h h' → k (.bool p.none) h') : callK Try.prog 44 #[.agg p.cells.toArray] h k := by
  refine call44 _ _ _ ?_
  unfold d44
  refine alloc_new fun p1 g1 y1 b1 x1 => b1.at_.loadN (Pf.len18 o) ?_
  exact (show eqAggK Try.prog 39 p.cells.toArray zP.cells.toArray _ from eq39 p zP o zP_ok (hk g1 x1))
/-- version -/
theorem c45 {p : Pf} (hk : ∀ h', Go.Oct.Ext h h' → k (.int .i64 p.ver) h') : callK Try.prog 45 #[.agg p.cells.toArray] h k := by
  refine call45 _ _ _ ?_
  unfold d45
  refine alloc_new fun p1 g1 y1 b1 x1 => ?_
  refine addrK_of rfl (addrK_of rfl ((At.asix (At.pa b1.at_ rfl)).load1 0 rfl rfl (asB_of ?_)))
  have := hk g1 x1
  unfold Pf.ver at this
  refine ifB_of (fun h => ?_) (fun h => ?_)
  · rw [if_pos h] at this; exact this
  · rw [if_neg (by rw [h]; decide)] at this; exact this
theorem pf_fill {p : Pf} (o : p.ok) {z : Array Value} (hz : z.size = 18) {k : Array Value → Prop} (hk : k p.cells.toArray) : fillK (placeL [(0, 17), (17, 1)]) z [(0, .agg p.a.cells.toArray), (1, .int .i64 p.n)] k := by
  have hl := Ad.len17 o.a
  refine ⟨_, ?_, hk⟩
  rw [fill_cons (off := 0) (size := 17) rfl (by simp [Value.cells, hl]) (by omega), fill_cons (off := 17) (size := 1) rfl (by rfl) (by simp only [over_size]; omega), fill_nil]
  congr 1
  apply Array.ext'
  have e1 : (over z 0 (Value.agg p.a.cells.toArray).cells.toList).toList = p.a.cells ++ z.toList.drop 17 := by
    rw [over_list _ _ _ (by simp [Value.cells, hl]; omega)]
    simp [Value.cells, hl]
  rw [over_list _ _ _ (by simp [Value.cells, over_size, hz]), e1]
  have hz' : z.toList.length = 18 := by simpa using hz
  simp [Value.cells, Pf.cells, hl, hz']
end
end Go.Proofs.Ytkhlollengamdaa
