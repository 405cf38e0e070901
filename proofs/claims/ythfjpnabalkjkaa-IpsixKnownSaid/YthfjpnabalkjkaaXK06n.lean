/- What is proved: contracts of functions that the law calls, and of the law itself, over any heap. Conditions stand in each theorem. -/
import Derived.Test.YthfjpnabalkjkaaXK06m
set_option linter.unusedSimpArgs false
set_option linter.unusedVariables false
namespace Go.Proofs.Ythfjpnabalkjkaa
open Go.Oct Go.Oct.L01 Go.Oct.L06
noncomputable def rightB (xs : List L06.Ext) (p : Int) : Bool := @decide (RightC xs p) (Classical.propDecidable _)
theorem rightB_iff {xs : List L06.Ext} {p : Int} : rightB xs p = true ↔ RightC xs p := by unfold rightB; exact @decide_eq_true_iff _ (Classical.propDecidable _)
theorem rightB_of {xs : List L06.Ext} {p : Int} {b : Bool} (h : b = true ↔ RightC xs p) : b = rightB xs p := by
  rw [← rightB_iff] at h
  cases b <;> cases hr : rightB xs p <;> simp_all
noncomputable def PL (xs : List L06.Ext) (p : Int) : List Int := if rightB xs p = true then putL xs p else []
noncomputable def PK (xs : List L06.Ext) (p : Int) : Int := if rightB xs p = true then firstK xs p else 0
noncomputable def PE (xs : List L06.Ext) (p : Int) : Int := if rightB xs p = true then 0 else 60
noncomputable def fragR (xs : List L06.Ext) (p : Int) : Int × Bool × Int × Bool :=
  if rightB xs p = true then
    match xs.find? (fun x => decide (x.1 = 44)) with
    | some x => (hd x.2 / 8, decide (hd x.2 % 2 = 1), (getR x.2 2 4).1, true)
    | none => (0, false, 0, false)
  else (0, false, 0, false)
theorem find_first {α : Type} {f : α → Bool} : ∀ {xs : List α} {j : Nat} {x : α}, xs[j]? = some x → f x = true → (∀ (i : Nat) (y : α), i < j → xs[i]? = some y → f y = false) → xs.find? f = some x
  | [], j, x, h, _, _ => by simp at h
  | y :: r, 0, x, h, hf, _ => by
    simp at h
    subst h
    simp [hf]
  | y :: r, j + 1, x, h, hf, hall => by
    have h0 := hall 0 y (by omega) rfl
    rw [List.find?_cons, h0]
    exact find_first (by simpa using h) hf (fun i z hi hz => hall (i + 1) z (by omega) (by simpa using hz))
section
variable {h : H} {k : Value → H → Prop}
theorem c10p {A : Option Addr} {n c : Nat} {xs : List Ex} {p : Int} (ch : Ch h A n xs p) (hk : ∀ A' c' h', Go.Oct.Ext h h' → Byt h' h.size A' (PL (pairs xs) p).length c' (PL (pairs xs) p) → k (.tuple #[.slice A' (PL (pairs xs) p).length c', .int .u8 (PK (pairs xs) p), .int .i64 (PE (pairs xs) p)]) h') : callK Try.prog 10 #[.agg (chv A n c p)] h k := by
  unfold PL PK PE at hk
  refine c10 ch (fun hn h' x => ?_) (fun hR A' n' c' h' x l => ?_)
  · have : ¬ rightB (pairs xs) p = true := fun h => hn (rightB_iff.1 h)
    simp only [if_neg this] at hk
    exact hk none 0 h' x Lst.nil
  · simp only [if_pos (rightB_iff.2 hR)] at hk
    have hl : (putL (pairs xs) p).length = n' := l.1
    rw [hl] at hk
    exact hk A' c' h' x l
theorem c19p {L : Option Addr} {n q : Nat} {ys : List L06.Ext} {p : Int} (r : RC h L n ys p) (hk : ∀ A' c' h', Go.Oct.Ext h h' → Byt h' h.size A' (PL ys p).length c' (PL ys p) → k (.tuple #[.slice A' (PL ys p).length c', .int .u8 (PK ys p), .int .i64 (PE ys p)]) h') : callK Try.prog 19 #[.agg (chv L n q p)] h k := by
  unfold PL PK PE at hk
  refine c19 r (fun hn h' x => ?_) (fun hR A' n' c' h' x l => ?_)
  · have : ¬ rightB ys p = true := fun h => hn (rightB_iff.1 h)
    simp only [if_neg this] at hk
    exact hk none 0 h' x Lst.nil
  · simp only [if_pos (rightB_iff.2 hR)] at hk
    have hl : (putL ys p).length = n' := l.1
    rw [hl] at hk
    exact hk A' c' h' x l
theorem c20p {A : Option Addr} {n c : Nat} {xs : List Ex} {p : Int} (ch : Ch h A n xs p) (hk : ∀ h', Go.Oct.Ext h h' → k (.tuple #[.int .u16 (fragR (pairs xs) p).1, .bool (fragR (pairs xs) p).2.1, .int .u32 (fragR (pairs xs) p).2.2.1, .bool (fragR (pairs xs) p).2.2.2]) h') : callK Try.prog 20 #[.agg (chv A n c p)] h k := by
  refine c20 ch (fun hno h' x => ?_) (fun hR j x hx h44 hall h' e => ?_)
  · have : fragR (pairs xs) p = (0, false, 0, false) := by
      unfold fragR
      split
      · rename_i hr
        rcases hno with hn | hn
        · exact absurd (rightB_iff.1 hr) hn
        · have : (pairs xs).find? (fun x => decide (x.1 = 44)) = none := by
            rw [List.find?_eq_none]
            intro y hy
            obtain ⟨z, hz, rfl⟩ := List.mem_map.1 hy
            exact fun h => hn z hz (of_decide_eq_true h)
          rw [this]
      · rfl
    rw [this] at hk
    exact hk h' x
  · have : fragR (pairs xs) p = (hd x.d / 8, decide (hd x.d % 2 = 1), (getR x.d 2 4).1, true) := by
      unfold fragR
      rw [if_pos (rightB_iff.2 hR), find_first (pairs_get hx) (decide_eq_true h44) (fun i y hi hy => ?_)]
      · rfl
      · unfold pairs at hy
        rw [List.getElem?_map] at hy
        cases hz : xs[i]? with
        | none => rw [hz] at hy; cases hy
        | some z =>
          rw [hz] at hy
          cases hy
          exact decide_eq_false (hall i z hi hz)
    rw [this] at hk
    exact hk h' e
theorem c21p {L : Option Addr} {n q : Nat} {ys : List L06.Ext} {p : Int} (r : RC h L n ys p) (hk : ∀ h', Go.Oct.Ext h h' → k (.tuple #[.int .u16 (fragR ys p).1, .bool (fragR ys p).2.1, .int .u32 (fragR ys p).2.2.1, .bool (fragR ys p).2.2.2]) h') : callK Try.prog 21 #[.agg (chv L n q p)] h k := by
  refine c21 r (fun hno h' x => ?_) (fun hR j x hx h44 hall h' e => ?_)
  · have : fragR ys p = (0, false, 0, false) := by
      unfold fragR
      split
      · rename_i hr
        rcases hno with hn | hn
        · exact absurd (rightB_iff.1 hr) hn
        · have : ys.find? (fun x => decide (x.1 = 44)) = none := by
            rw [List.find?_eq_none]
            intro y hy
            exact fun h => hn y hy (of_decide_eq_true h)
          rw [this]
      · rfl
    rw [this] at hk
    exact hk h' x
  · have : fragR ys p = (hd x.2 / 8, decide (hd x.2 % 2 = 1), (getR x.2 2 4).1, true) := by
      unfold fragR
      rw [if_pos (rightB_iff.2 hR), find_first hx (decide_eq_true h44) (fun i y hi hy => decide_eq_false (hall i y hi hy))]
    rw [this] at hk
    exact hk h' e
end
theorem RC.mod {h h' : H} {S : Nat → Prop} {L : Option Addr} {n : Nat} {ys : List L06.Ext} {p : Int} (r : RC h L n ys p) (x : Go.Oct.Mod h h' S) (hs : ∀ i, blkOf L i → ¬ S i) : RC h' L n ys p := { r with row := r.row.mod x (fun ad e => hs _ ⟨ad, e, rfl⟩) }
theorem ifB_self {b : Bool} {A B : Prop} (h : A) : ifB (b == b) A B := by
  have : (b == b) = true := by simp
  rw [this]; exact h
theorem ifB_selfI {b : Int} {A B : Prop} (h : A) : ifB (b == b) A B := by
  have : (b == b) = true := by simp
  rw [this]; exact h
/-- both chains of the reference are put away -/
theorem away {g0 g : H} {L5 L6 : Option Addr} {n m q5 q6 b5 b6 : Nat} {xs ys : List L06.Ext} {p p' : Int} {J : Option Addr → Option Addr → H → Prop} (eg : Go.Oct.Ext g0 g) (l5 : Lst g g0.size 92 ycells 2 L5 n q5 xs) (r5 : RC g L5 n xs p) (l6 : Lst g g0.size 92 ycells 2 L6 m q6 ys) (r6 : RC g L6 m ys p')
    (k5 : Blk g b5 (chv none 0 0 0) 53) (k6 : Blk g b6 (chv none 0 0 0) 53) (ne : b5 ≠ b6) (y5 : g0.size ≤ b5) (y6 : g0.size ≤ b6)
    (hJ : ∀ g', Go.Oct.Ext g0 g' → Blk g' b5 (chv L5 n q5 p) 53 → Blk g' b6 (chv L6 m q6 p') 53 → RC g' L5 n xs p → RC g' L6 m ys p' → J (some ⟨b5, 0, none⟩) (some ⟨b6, 0, none⟩) g') :
    storeK 2 (some ⟨b5, 0, none⟩) (chv L5 n q5 p) g (fun h => storeK 2 (some ⟨b6, 0, none⟩) (chv L6 m q6 p') h (fun h => J (some ⟨b5, 0, none⟩) (some ⟨b6, 0, none⟩) h)) := by
  refine store_all k5 rfl (by rfl) (by simp [OneCells, chv, Value.oneCell']) fun g1 k51 m1 => ?_
  refine store_all (k6.mod m1 (fun e => ne e.symm)) rfl (by rfl) (by simp [OneCells, chv, Value.oneCell']) fun g2 k62 m2 => ?_
  have n5 : ∀ i, blkOf L5 i → i ≠ b5 ∧ i ≠ b6 := fun i hi => ⟨l5.2.ne_blk k5 (by decide) i hi, l5.2.ne_blk k6 (by decide) i hi⟩
  have n6 : ∀ i, blkOf L6 i → i ≠ b5 ∧ i ≠ b6 := fun i hi => ⟨l6.2.ne_blk k5 (by decide) i hi, l6.2.ne_blk k6 (by decide) i hi⟩
  exact hJ g2 ((eg.then m1 (fun i hi => by rw [hi]; exact y5)).then m2 (fun i hi => by rw [hi]; exact y6)) (k51.mod m2 ne) k62 ((r5.mod m1 (fun i hi => (n5 i hi).1)).mod m2 (fun i hi => (n5 i hi).2)) ((r6.mod m1 (fun i hi => (n6 i hi).1)).mod m2 (fun i hi => (n6 i hi).2))
def JC (g0 : H) (n m : Nat) (xs zs : List Ex) (p p' : Int) : Option Addr → Option Addr → H → Prop := fun p5 p6 g => ∃ (b5 b6 : Nat) (L5 L6 : Option Addr) (q5 q6 : Nat), p5 = some ⟨b5, 0, none⟩ ∧ p6 = some ⟨b6, 0, none⟩ ∧ Go.Oct.Ext g0 g ∧ Blk g b5 (chv L5 n q5 p) 53 ∧ Blk g b6 (chv L6 m q6 p') 53 ∧ RC g L5 n (pairs xs) p ∧ RC g L6 m (pairs zs) p'
set_option maxHeartbeats 2000000 in
/-- IpsixChains -/
theorem c5 {h : H} {k : Value → H → Prop} {A : Option Addr} {n c : Nat} {xs : List Ex} {p : Int} (ch0 : Ch0 h A n xs p) {B : Option Addr} {m d : Nat} {zs : List Ex} {p' : Int} (dh0 : Ch0 h B m zs p')
    (hk : ∀ h', Go.Oct.Ext h h' → k (.bool true) h') : callK Try.prog 5 #[.agg (chv A n c p), .agg (chv B m d p')] h k := by
  refine call5 _ _ _ _ ?_
  unfold d5
  refine alloc_new fun p2 g1 y1 b1 x1 => alloc_new fun p3 g2 y2 b2 x2 => ?_
  have x12 := x1.trans x2
  have k2 : Blk g2 p2 (chv A n c p) 29 := b1.ext x2
  have k3 : Blk g2 p3 (chv B m d p') 29 := b2
  refine ⟨fun b g => Go.Oct.Ext g2 g ∧ (b = false → n ≤ 20 ∧ m ≤ 20 ∧ (∀ x ∈ xs.take 21, x.n ≤ 2060) ∧ ∀ x ∈ zs.take 21, x.n ≤ 2060), ?_, ?_⟩
  · refine k2.at_.loadN rfl ?_
    refine c8 (ch0.ext x12) (fun g x => asB_of ⟨x, by simp⟩) (fun hx0 g x => asB_of ?_)
    refine ifB_of (fun _ => ⟨x, by simp⟩) (fun h1 => ?_)
    have h1 : ((n : Int) ≤ 20) := by simpa using h1
    refine (k3.ext x).at_.loadN rfl ?_
    refine c8 (dh0.ext (x12.trans x)) (fun g' x' => asB_of ⟨x.trans x', by simp⟩) (fun hz0 g' x' => asB_of ⟨x.trans x', fun h2 => ?_⟩)
    have h2 : ((m : Int) ≤ 20) := by simpa using h2
    exact ⟨by omega, by omega, hx0, hz0⟩
  rintro b28 g0 ⟨x20, hb⟩
  refine ifB_of (fun _ => c9 _ _ fun h' e => asB_of (hk h' (x12.trans (x20.trans e)))) (fun hb' => ?_)
  obtain ⟨hn, hm, hx0, hz0⟩ := hb hb'
  have ch := ch0.ch hn hx0
  have dh := dh0.ch hm hz0
  have hxn : ∀ x ∈ xs, x.n ≤ 1000000 := fun x hx => by
    have := hx0 x (by rw [List.take_of_length_le (by have := ch.len; omega)]; exact hx)
    omega
  have hzn : ∀ x ∈ zs, x.n ≤ 1000000 := fun x hx => by
    have := hz0 x (by rw [List.take_of_length_le (by have := dh.len; omega)]; exact hx)
    omega
  have x0 := x12.trans x20
  have k20 := k2.ext x20
  have k30 := k3.ext x20
  have ch' := ch.ext x0
  have dh' := dh.ext x0
  refine ⟨JC g0 n m xs zs p p', draw_ext ?_, ?_⟩
  · refine k20.at_.loadSN rfl (k30.at_.loadSN rfl ?_)
    refine ⟨?_, ?_, ?_⟩
    · refine c18 (c := c) ch' (by omega) hxn fun LA qA w1 v1 lA rA => asA_of rfl ⟨v1, ?_⟩
      refine ⟨?_, ?_, ?_⟩
      · refine c18 (c := d) (dh'.ext v1) (by omega) hzn fun LB qB w2 v2 lB rB => asA_of rfl ⟨(v1.trans v2), ?_⟩
        refine ⟨?_, ?_⟩
        · refine alloc_new fun nP w3 yP bP v3 => ⟨(v1.trans (v2.trans v3)), ?_⟩
          refine alloc_new fun nQ w4 yQ bQ v4 => ⟨(v1.trans (v2.trans (v3.trans v4))), ?_⟩
          have s1 := v1.size
          have s2 := v2.size
          have s3 := v3.size
          have s4 := v4.size
          have t5 := bP.lt
          have t6 := bQ.lt
          exact away (J := JC g0 n m xs zs p p') (v1.trans (v2.trans (v3.trans v4))) ⟨lA.1, ((lA.ext (v2.trans (v3.trans v4))).2).weaken (Nat.le_refl _)⟩ (rA.ext (v2.trans (v3.trans v4))) ⟨lB.1, ((lB.ext (v3.trans v4)).2).weaken (v1.size)⟩ (rB.ext (v3.trans v4)) (bP.ext v4) bQ (by omega) (by omega) (by omega) fun g' e' u5 u6 ra rb => ⟨_, _, _, _, _, _, rfl, rfl, e', u5, u6, ra, rb⟩
        · refine alloc_new fun nQ w3 yQ bQ v3 => ⟨(v1.trans (v2.trans v3)), ?_⟩
          refine alloc_new fun nP w4 yP bP v4 => ⟨(v1.trans (v2.trans (v3.trans v4))), ?_⟩
          have s1 := v1.size
          have s2 := v2.size
          have s3 := v3.size
          have s4 := v4.size
          have t5 := bP.lt
          have t6 := bQ.lt
          exact away (J := JC g0 n m xs zs p p') (v1.trans (v2.trans (v3.trans v4))) ⟨lA.1, ((lA.ext (v2.trans (v3.trans v4))).2).weaken (Nat.le_refl _)⟩ (rA.ext (v2.trans (v3.trans v4))) ⟨lB.1, ((lB.ext (v3.trans v4)).2).weaken (v1.size)⟩ (rB.ext (v3.trans v4)) bP (bQ.ext v4) (by omega) (by omega) (by omega) fun g' e' u5 u6 ra rb => ⟨_, _, _, _, _, _, rfl, rfl, e', u5, u6, ra, rb⟩
      · refine alloc_new fun nP w2 yP bP v2 => ⟨(v1.trans v2), ?_⟩
        refine ⟨?_, ?_⟩
        · refine c18 (c := d) (dh'.ext (v1.trans v2)) (by omega) hzn fun LB qB w3 v3 lB rB => asA_of rfl ⟨(v1.trans (v2.trans v3)), ?_⟩
          refine alloc_new fun nQ w4 yQ bQ v4 => ⟨(v1.trans (v2.trans (v3.trans v4))), ?_⟩
          have s1 := v1.size
          have s2 := v2.size
          have s3 := v3.size
          have s4 := v4.size
          have t5 := bP.lt
          have t6 := bQ.lt
          exact away (J := JC g0 n m xs zs p p') (v1.trans (v2.trans (v3.trans v4))) ⟨lA.1, ((lA.ext (v2.trans (v3.trans v4))).2).weaken (Nat.le_refl _)⟩ (rA.ext (v2.trans (v3.trans v4))) ⟨lB.1, ((lB.ext v4).2).weaken ((v1.trans v2).size)⟩ (rB.ext v4) (bP.ext (v3.trans v4)) bQ (by omega) (by omega) (by omega) fun g' e' u5 u6 ra rb => ⟨_, _, _, _, _, _, rfl, rfl, e', u5, u6, ra, rb⟩
        · refine alloc_new fun nQ w3 yQ bQ v3 => ⟨(v1.trans (v2.trans v3)), ?_⟩
          refine c18 (c := d) (dh'.ext (v1.trans (v2.trans v3))) (by omega) hzn fun LB qB w4 v4 lB rB => asA_of rfl ⟨(v1.trans (v2.trans (v3.trans v4))), ?_⟩
          have s1 := v1.size
          have s2 := v2.size
          have s3 := v3.size
          have s4 := v4.size
          have t5 := bP.lt
          have t6 := bQ.lt
          exact away (J := JC g0 n m xs zs p p') (v1.trans (v2.trans (v3.trans v4))) ⟨lA.1, ((lA.ext (v2.trans (v3.trans v4))).2).weaken (Nat.le_refl _)⟩ (rA.ext (v2.trans (v3.trans v4))) ⟨lB.1, (lB.2).weaken ((v1.trans (v2.trans v3)).size)⟩ rB (bP.ext (v3.trans v4)) (bQ.ext v4) (by omega) (by omega) (by omega) fun g' e' u5 u6 ra rb => ⟨_, _, _, _, _, _, rfl, rfl, e', u5, u6, ra, rb⟩
      · refine alloc_new fun nQ w2 yQ bQ v2 => ⟨(v1.trans v2), ?_⟩
        refine ⟨?_, ?_⟩
        · refine c18 (c := d) (dh'.ext (v1.trans v2)) (by omega) hzn fun LB qB w3 v3 lB rB => asA_of rfl ⟨(v1.trans (v2.trans v3)), ?_⟩
          refine alloc_new fun nP w4 yP bP v4 => ⟨(v1.trans (v2.trans (v3.trans v4))), ?_⟩
          have s1 := v1.size
          have s2 := v2.size
          have s3 := v3.size
          have s4 := v4.size
          have t5 := bP.lt
          have t6 := bQ.lt
          exact away (J := JC g0 n m xs zs p p') (v1.trans (v2.trans (v3.trans v4))) ⟨lA.1, ((lA.ext (v2.trans (v3.trans v4))).2).weaken (Nat.le_refl _)⟩ (rA.ext (v2.trans (v3.trans v4))) ⟨lB.1, ((lB.ext v4).2).weaken ((v1.trans v2).size)⟩ (rB.ext v4) bP (bQ.ext (v3.trans v4)) (by omega) (by omega) (by omega) fun g' e' u5 u6 ra rb => ⟨_, _, _, _, _, _, rfl, rfl, e', u5, u6, ra, rb⟩
        · refine alloc_new fun nP w3 yP bP v3 => ⟨(v1.trans (v2.trans v3)), ?_⟩
          refine c18 (c := d) (dh'.ext (v1.trans (v2.trans v3))) (by omega) hzn fun LB qB w4 v4 lB rB => asA_of rfl ⟨(v1.trans (v2.trans (v3.trans v4))), ?_⟩
          have s1 := v1.size
          have s2 := v2.size
          have s3 := v3.size
          have s4 := v4.size
          have t5 := bP.lt
          have t6 := bQ.lt
          exact away (J := JC g0 n m xs zs p p') (v1.trans (v2.trans (v3.trans v4))) ⟨lA.1, ((lA.ext (v2.trans (v3.trans v4))).2).weaken (Nat.le_refl _)⟩ (rA.ext (v2.trans (v3.trans v4))) ⟨lB.1, (lB.2).weaken ((v1.trans (v2.trans v3)).size)⟩ rB (bP.ext v4) (bQ.ext (v3.trans v4)) (by omega) (by omega) (by omega) fun g' e' u5 u6 ra rb => ⟨_, _, _, _, _, _, rfl, rfl, e', u5, u6, ra, rb⟩
    · refine alloc_new fun nP w1 yP bP v1 => ⟨v1, ?_⟩
      refine ⟨?_, ?_⟩
      · refine c18 (c := c) (ch'.ext v1) (by omega) hxn fun LA qA w2 v2 lA rA => asA_of rfl ⟨(v1.trans v2), ?_⟩
        refine ⟨?_, ?_⟩
        · refine c18 (c := d) (dh'.ext (v1.trans v2)) (by omega) hzn fun LB qB w3 v3 lB rB => asA_of rfl ⟨(v1.trans (v2.trans v3)), ?_⟩
          refine alloc_new fun nQ w4 yQ bQ v4 => ⟨(v1.trans (v2.trans (v3.trans v4))), ?_⟩
          have s1 := v1.size
          have s2 := v2.size
          have s3 := v3.size
          have s4 := v4.size
          have t5 := bP.lt
          have t6 := bQ.lt
          exact away (J := JC g0 n m xs zs p p') (v1.trans (v2.trans (v3.trans v4))) ⟨lA.1, ((lA.ext (v3.trans v4)).2).weaken (v1.size)⟩ (rA.ext (v3.trans v4)) ⟨lB.1, ((lB.ext v4).2).weaken ((v1.trans v2).size)⟩ (rB.ext v4) (bP.ext (v2.trans (v3.trans v4))) bQ (by omega) (by omega) (by omega) fun g' e' u5 u6 ra rb => ⟨_, _, _, _, _, _, rfl, rfl, e', u5, u6, ra, rb⟩
        · refine alloc_new fun nQ w3 yQ bQ v3 => ⟨(v1.trans (v2.trans v3)), ?_⟩
          refine c18 (c := d) (dh'.ext (v1.trans (v2.trans v3))) (by omega) hzn fun LB qB w4 v4 lB rB => asA_of rfl ⟨(v1.trans (v2.trans (v3.trans v4))), ?_⟩
          have s1 := v1.size
          have s2 := v2.size
          have s3 := v3.size
          have s4 := v4.size
          have t5 := bP.lt
          have t6 := bQ.lt
          exact away (J := JC g0 n m xs zs p p') (v1.trans (v2.trans (v3.trans v4))) ⟨lA.1, ((lA.ext (v3.trans v4)).2).weaken (v1.size)⟩ (rA.ext (v3.trans v4)) ⟨lB.1, (lB.2).weaken ((v1.trans (v2.trans v3)).size)⟩ rB (bP.ext (v2.trans (v3.trans v4))) (bQ.ext v4) (by omega) (by omega) (by omega) fun g' e' u5 u6 ra rb => ⟨_, _, _, _, _, _, rfl, rfl, e', u5, u6, ra, rb⟩
      · refine alloc_new fun nQ w2 yQ bQ v2 => ⟨(v1.trans v2), ?_⟩
        refine c18 (c := c) (ch'.ext (v1.trans v2)) (by omega) hxn fun LA qA w3 v3 lA rA => asA_of rfl ⟨(v1.trans (v2.trans v3)), ?_⟩
        refine c18 (c := d) (dh'.ext (v1.trans (v2.trans v3))) (by omega) hzn fun LB qB w4 v4 lB rB => asA_of rfl ⟨(v1.trans (v2.trans (v3.trans v4))), ?_⟩
        have s1 := v1.size
        have s2 := v2.size
        have s3 := v3.size
        have s4 := v4.size
        have t5 := bP.lt
        have t6 := bQ.lt
        exact away (J := JC g0 n m xs zs p p') (v1.trans (v2.trans (v3.trans v4))) ⟨lA.1, ((lA.ext v4).2).weaken ((v1.trans v2).size)⟩ (rA.ext v4) ⟨lB.1, (lB.2).weaken ((v1.trans (v2.trans v3)).size)⟩ rB (bP.ext (v2.trans (v3.trans v4))) (bQ.ext (v3.trans v4)) (by omega) (by omega) (by omega) fun g' e' u5 u6 ra rb => ⟨_, _, _, _, _, _, rfl, rfl, e', u5, u6, ra, rb⟩
    · refine alloc_new fun nQ w1 yQ bQ v1 => ⟨v1, ?_⟩
      refine ⟨?_, ?_⟩
      · refine c18 (c := c) (ch'.ext v1) (by omega) hxn fun LA qA w2 v2 lA rA => asA_of rfl ⟨(v1.trans v2), ?_⟩
        refine ⟨?_, ?_⟩
        · refine c18 (c := d) (dh'.ext (v1.trans v2)) (by omega) hzn fun LB qB w3 v3 lB rB => asA_of rfl ⟨(v1.trans (v2.trans v3)), ?_⟩
          refine alloc_new fun nP w4 yP bP v4 => ⟨(v1.trans (v2.trans (v3.trans v4))), ?_⟩
          have s1 := v1.size
          have s2 := v2.size
          have s3 := v3.size
          have s4 := v4.size
          have t5 := bP.lt
          have t6 := bQ.lt
          exact away (J := JC g0 n m xs zs p p') (v1.trans (v2.trans (v3.trans v4))) ⟨lA.1, ((lA.ext (v3.trans v4)).2).weaken (v1.size)⟩ (rA.ext (v3.trans v4)) ⟨lB.1, ((lB.ext v4).2).weaken ((v1.trans v2).size)⟩ (rB.ext v4) bP (bQ.ext (v2.trans (v3.trans v4))) (by omega) (by omega) (by omega) fun g' e' u5 u6 ra rb => ⟨_, _, _, _, _, _, rfl, rfl, e', u5, u6, ra, rb⟩
        · refine alloc_new fun nP w3 yP bP v3 => ⟨(v1.trans (v2.trans v3)), ?_⟩
          refine c18 (c := d) (dh'.ext (v1.trans (v2.trans v3))) (by omega) hzn fun LB qB w4 v4 lB rB => asA_of rfl ⟨(v1.trans (v2.trans (v3.trans v4))), ?_⟩
          have s1 := v1.size
          have s2 := v2.size
          have s3 := v3.size
          have s4 := v4.size
          have t5 := bP.lt
          have t6 := bQ.lt
          exact away (J := JC g0 n m xs zs p p') (v1.trans (v2.trans (v3.trans v4))) ⟨lA.1, ((lA.ext (v3.trans v4)).2).weaken (v1.size)⟩ (rA.ext (v3.trans v4)) ⟨lB.1, (lB.2).weaken ((v1.trans (v2.trans v3)).size)⟩ rB (bP.ext v4) (bQ.ext (v2.trans (v3.trans v4))) (by omega) (by omega) (by omega) fun g' e' u5 u6 ra rb => ⟨_, _, _, _, _, _, rfl, rfl, e', u5, u6, ra, rb⟩
      · refine alloc_new fun nP w2 yP bP v2 => ⟨(v1.trans v2), ?_⟩
        refine c18 (c := c) (ch'.ext (v1.trans v2)) (by omega) hxn fun LA qA w3 v3 lA rA => asA_of rfl ⟨(v1.trans (v2.trans v3)), ?_⟩
        refine c18 (c := d) (dh'.ext (v1.trans (v2.trans v3))) (by omega) hzn fun LB qB w4 v4 lB rB => asA_of rfl ⟨(v1.trans (v2.trans (v3.trans v4))), ?_⟩
        have s1 := v1.size
        have s2 := v2.size
        have s3 := v3.size
        have s4 := v4.size
        have t5 := bP.lt
        have t6 := bQ.lt
        exact away (J := JC g0 n m xs zs p p') (v1.trans (v2.trans (v3.trans v4))) ⟨lA.1, ((lA.ext v4).2).weaken ((v1.trans v2).size)⟩ (rA.ext v4) ⟨lB.1, (lB.2).weaken ((v1.trans (v2.trans v3)).size)⟩ rB (bP.ext (v3.trans v4)) (bQ.ext (v2.trans (v3.trans v4))) (by omega) (by omega) (by omega) fun g' e' u5 u6 ra rb => ⟨_, _, _, _, _, _, rfl, rfl, e', u5, u6, ra, rb⟩
  rintro p5 p6 g5 ⟨b5, b6, L5, L6, q5, q6, rfl, rfl, xg5, kb5, kb6, r5, r6⟩
  have a5 : At g5 b5 0 [.slice L5 n q5, .int .u8 p] := kb5.at_
  have a6 : At g5 b6 0 [.slice L6 m q6, .int .u8 p'] := kb6.at_
  have a2 : At g5 p2 0 [.slice A n c, .int .u8 p] := (k20.ext xg5).at_
  have a3 : At g5 p3 0 [.slice B m d, .int .u8 p'] := (k30.ext xg5).at_
  have c5' := ch'.ext xg5
  have d5' := dh'.ext xg5
  have hpl : (PL (pairs xs) p).length ≤ 40960 := by
    unfold PL
    split
    · rename_i hr
      have hR := rightB_iff.1 hr
      have h1 := putL_len _ p hR.all
      have h2 := hR.few
      omega
    · simp
  refine a2.loadN rfl (c10p (c := c) c5' fun A6 q7 g6 x6 l6 => asT3_of (asS_of (asI_of (asI_of ?_))))
  refine (a5.ext x6).loadN rfl (c19p (q := q5) (r5.ext x6) fun A7 q8 g7 x7 l7 => asT3_of (asS_of (asI_of (asI_of ?_))))
  have x67 := x6.trans x7
  refine (a2.ext x67).loadN rfl (c20p (c := c) (c5'.ext x67) fun g8 x8 => asT4_of (asI_of (asB_of (asI_of (asB_of ?_)))))
  have x68 := x67.trans x8
  refine (a5.ext x68).loadN rfl (c21p (q := q5) (r5.ext x68) fun g9 x9 => asT4_of (asI_of (asB_of (asI_of (asB_of (draw_ext ?_))))))
  have x69 := x68.trans x9
  refine ifB_selfI (ifB_selfI ?_)
  refine c16 _ _ _ (PL (pairs xs) p) _ _ _ (PL (pairs xs) p) g9 _ (Lst.row (f := bf) (l6.ext (x7.trans (x8.trans x9)))) (Lst.row (f := bf) (l7.ext (x8.trans x9))) (by omega) (asB_of ⟨Go.Oct.Ext.refl _, ?_⟩)
  rw [decide_eq_true rfl, ifB_true]
  refine ifB_selfI (ifB_self (ifB_selfI (ifB_self ?_)))
  have a29 := a2.ext x69
  have a39 := a3.ext x69
  have a59 := a5.ext x69
  have a69 := a6.ext x69
  refine a29.loadSN rfl (a59.loadSN rfl ?_)
  refine c17 (c := c) (c5'.ext x69) fun b hb g10 x10 => asB_of ⟨x10, ?_⟩
  refine c22 (q := q5) ((r5.ext x69).ext x10) fun b' hb' g11 x11 => asB_of ⟨x10.trans x11, ?_⟩
  rw [rightB_of hb, rightB_of hb']
  have x1011 := x10.trans x11
  refine ifB_self ?_
  refine a29.loadSN rfl (a39.loadSN rfl (a59.loadSN rfl (a69.loadSN rfl ?_)))
  have x11' := x69.trans x1011
  refine c13 (c := c) (d := d) (c5'.ext x11') (d5'.ext x11') fun g12 x12' => asB_of ⟨x1011.trans x12', ?_⟩
  have x12'' := x11'.trans x12'
  refine c23 (q := q5) (q' := q6) (r5.ext x12'') (r6.ext x12'') fun g13 x13 => asB_of ⟨x1011.trans (x12'.trans x13), ?_⟩
  have x13' := x12''.trans x13
  refine ifB_self ?_
  refine a29.loadSN rfl (a29.loadSN rfl ?_)
  refine c13 (c := c) (d := c) (c5'.ext x13') (c5'.ext x13') fun g14 x14 => asB_of ⟨x1011.trans (x12'.trans (x13.trans x14)), ?_⟩
  rw [decide_eq_true ⟨rfl, rfl⟩, ifB_true]
  have x14' := x13'.trans x14
  refine a29.loadSN rfl (a59.loadSN rfl ?_)
  refine c18 (c := c) (c5'.ext x14') (by omega) hxn fun L q g15 x15 _ rr => asA_of rfl ⟨x1011.trans (x12'.trans (x13.trans (x14.trans x15))), ?_⟩
  have x15' := x14'.trans x15
  refine c23 (q := q) (q' := q5) rr (r5.ext x15') fun g16 x16 => asB_of ?_
  rw [decide_eq_true ⟨rfl, rfl⟩, ifB_true]
  exact c9 _ _ fun h' e => asB_of (hk h' (x0.trans (xg5.trans (x15'.trans (x16.trans e)))))
end Go.Proofs.Ythfjpnabalkjkaa
