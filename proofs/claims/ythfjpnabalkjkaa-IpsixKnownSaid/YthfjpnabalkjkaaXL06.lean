/- What is proved: the plain law, with no program in sight. Conditions stand in each theorem. -/
import Derived.Test.YthfjpnabalkjkaaXL01
set_option linter.unusedSimpArgs false
set_option linter.unusedVariables false
namespace Go.Oct.L06
open Go.Oct Go.Oct.L01
/-- a header behind: its kind, its data -/
abbrev Ext := Int × List Int
/-- the number of the first two bytes -/
def hd (d : List Int) : Int := (getR d 0 2).1
def beh (k : Int) : Bool := decide (k = 0 ∨ k = 43 ∨ k = 44 ∨ k = 60)
def rightX (x : Ext) : Bool := if x.1 = 44 then decide (x.2.length = 6 ∧ hd x.2 / 2 % 4 = 0) else beh x.1 && decide (x.2.length % 8 = 6 ∧ x.2.length ≤ 2046)
def laterX (x : Ext) : Bool := decide (x.1 = 44 ∧ 0 < hd x.2 / 8)
/-- is a chain right? -/
structure RightC (xs : List Ext) (p : Int) : Prop where
  few : xs.length ≤ 16
  all : ∀ x ∈ xs, rightX x = true
  hop : ∀ (i : Nat) (x : Ext), xs[i]? = some x → x.1 = 0 → i = 0
  late : ∀ (i : Nat) (x : Ext), xs[i]? = some x → laterX x = true → i + 1 = xs.length
  last : beh p = true → ∃ x, xs[xs.length - 1]? = some x ∧ laterX x = true
def firstK : List Ext → Int → Int
  | [], p => p
  | x :: _, _ => x.1
/-- the byte of a size -/
def lenB (d : List Int) : Int := ((d.length + 2) / 8 : Nat) - 1
def putL : List Ext → Int → List Int
  | [], _ => []
  | x :: r, p => firstK r p :: lenB x.2 :: (x.2 ++ putL r p)
def sizeOf1 (p r1 : Int) : Nat := if p = 44 then 8 else 8 * (r1.toNat + 1)
/-- one header is read -/
def one (xs : List Ext) (p : Int) (rest : List Int) : (Ext × Int × Nat) ⊕ Int :=
  if xs.length = 16 ∨ (p = 0 ∧ 0 < xs.length) then .inr 60
  else match rest with
    | r0 :: r1 :: _ =>
      if rest.length < sizeOf1 p r1 then .inr 10
      else if p = 44 ∧ (r1 ≠ 0 ∨ rightX (p, (rest.take (sizeOf1 p r1)).drop 2) = false) then .inr 60
      else .inl ((p, (rest.take (sizeOf1 p r1)).drop 2), r0, sizeOf1 p r1)
    | _ => .inr 10
def pc : Nat → List Ext → Int → List Int → Nat → (List Ext × Int × Nat) ⊕ Int
  | 0, _, _, _, _ => .inr 60
  | f + 1, xs, p, rest, at_ =>
    if beh p = true then
      match one xs p rest with
      | .inr e => .inr e
      | .inl (x, p', n) => if laterX x = true then .inl (xs ++ [x], p', at_ + n) else pc f (xs ++ [x]) p' (rest.drop n) (at_ + n)
    else .inl (xs, p, at_)
def parse (first : Int) (b : List Int) : (List Ext × Int × Nat) ⊕ Int := pc 17 [] first b 0

theorem one_err {xs : List Ext} {p : Int} {rest : List Int} {e : Int} (h : one xs p rest = .inr e) : e = 60 ∨ e = 10 := by
  unfold one at h
  split at h
  · cases h; exact .inl rfl
  · split at h
    · split at h
      · cases h; exact .inr rfl
      · split at h
        · cases h; exact .inl rfl
        · cases h
    · cases h; exact .inr rfl
theorem pc_err : ∀ {f : Nat} {xs : List Ext} {p : Int} {rest : List Int} {at_ : Nat} {e : Int}, pc f xs p rest at_ = .inr e → e = 60 ∨ e = 10
  | 0, _, _, _, _, _, h => by cases h; exact .inl rfl
  | f + 1, xs, p, rest, at_, e, h => by
    unfold pc at h
    split at h
    · split at h
      · rename_i e' h1
        cases h
        exact one_err h1
      · split at h
        · cases h
        · exact pc_err h
    · cases h
/-- what one reads is right -/
theorem one_ok {xs : List Ext} {p : Int} {rest : List Int} {x : Ext} {p' : Int} {n : Nat} (hb : ∀ y ∈ rest, isB y) (hp : beh p = true) (h : one xs p rest = .inl (x, p', n)) :
    xs.length ≠ 16 ∧ (p = 0 → xs = []) ∧ x.1 = p ∧ rightX x = true ∧ n = x.2.length + 2 ∧ n ≤ rest.length ∧ rest.take n = p' :: lenB x.2 :: x.2 ∧ x.2.length = n - 2 := by
  unfold one at h
  split at h
  · cases h
  rename_i h0
  split at h
  · rename_i r0 r1 t
    split at h
    · cases h
    rename_i h1
    split at h
    · cases h
    rename_i h2
    cases h
    have b1 := hb r1 (by simp)
    unfold isB at b1
    have hsz : 8 ≤ sizeOf1 p r1 := by unfold sizeOf1; split <;> omega
    have hl : ((p' :: r1 :: t).take (sizeOf1 p r1)).length = sizeOf1 p r1 := by rw [List.length_take]; omega
    obtain ⟨m, hm⟩ : ∃ m, sizeOf1 p r1 = m + 2 := ⟨sizeOf1 p r1 - 2, by omega⟩
    have ht : (p' :: r1 :: t).take (sizeOf1 p r1) = p' :: r1 :: t.take m := by rw [hm]; rfl
    have hd : ((p' :: r1 :: t).take (sizeOf1 p r1)).drop 2 = t.take m := by rw [ht]; rfl
    have hlm : (t.take m).length = m := by
      rw [ht] at hl
      simp only [List.length_cons] at hl
      omega
    rw [hd] at h2 ⊢
    have hr : rightX (p, t.take m) = true ∧ r1 = lenB (t.take m) := by
      by_cases h44 : p = 44
      · subst h44
        have h3 : r1 = 0 ∧ rightX (44, t.take m) = true := by
          constructor
          · apply Decidable.byContradiction
            intro h4
            exact h2 ⟨rfl, .inl h4⟩
          · cases h4 : rightX (44, t.take m)
            · exact (h2 ⟨rfl, .inr h4⟩).elim
            · rfl
        have h5 : m = 6 := by unfold sizeOf1 at hm; simp at hm; omega
        refine ⟨h3.2, ?_⟩
        rw [h3.1]; unfold lenB; rw [hlm, h5]; rfl
      · have h5 : sizeOf1 p r1 = 8 * (r1.toNat + 1) := by unfold sizeOf1; rw [if_neg h44]
        constructor
        · unfold rightX
          rw [if_neg h44, hp]
          simp only [Bool.true_and, decide_eq_true_eq]
          rw [hlm]
          omega
        · unfold lenB
          rw [hlm]
          omega
    refine ⟨fun e => h0 (.inl e), fun e => ?_, rfl, hr.1, ?_, by omega, by rw [ht, hr.2], ?_⟩
    · have : ¬ 0 < xs.length := fun h => h0 (.inr ⟨e, h⟩)
      exact List.length_eq_zero_iff.1 (by omega)
    · show sizeOf1 p r1 = (t.take m).length + 2
      omega
    · show (t.take m).length = _
      omega
  · cases h
/-- what is right is read as it was put -/
theorem one_put {xs : List Ext} {x : Ext} {nx : Int} {B : List Int} (h16 : xs.length < 16) (hop : x.1 = 0 → xs = []) (hr : rightX x = true) : one xs x.1 (nx :: lenB x.2 :: (x.2 ++ B)) = .inl (x, nx, x.2.length + 2) := by
  have hsz : sizeOf1 x.1 (lenB x.2) = x.2.length + 2 := by
    unfold rightX at hr
    unfold sizeOf1
    split at hr
    · rename_i h44
      rw [if_pos h44]
      have := of_decide_eq_true hr
      omega
    · rename_i h44
      rw [if_neg h44]
      simp at hr
      unfold lenB
      omega
  unfold one
  have h0 : ¬ (xs.length = 16 ∨ (x.1 = 0 ∧ 0 < xs.length)) := by
    rintro (h | ⟨h1, h2⟩)
    · omega
    · rw [hop h1] at h2; simp at h2
  rw [if_neg h0]
  dsimp only
  rw [hsz, if_neg (by simp)]
  have ht : ((nx :: lenB x.2 :: (x.2 ++ B)).take (x.2.length + 2)).drop 2 = x.2 := by simp
  rw [ht, if_neg]
  rintro ⟨h44, h1 | h1⟩
  · apply h1
    unfold rightX at hr
    rw [if_pos h44] at hr
    have := of_decide_eq_true hr
    unfold lenB
    rw [this.1]; rfl
  · rw [show ((x.1, x.2) : Ext) = x from rfl, hr] at h1; cases h1
theorem rightX_beh {x : Ext} (h : rightX x = true) : beh x.1 = true := by
  unfold rightX at h
  split at h
  · rename_i h44; rw [h44]; decide
  · simp at h; exact h.1
/-- what was put is parsed as it was -/
theorem parse_put : ∀ (exts acc : List Ext) (p : Int) (B : List Int) (f at_ : Nat), RightC (acc ++ exts) p → (∀ x ∈ acc, laterX x = false) → f + acc.length = 17 →
    pc f acc (firstK exts p) (putL exts p ++ B) at_ = .inl (acc ++ exts, p, at_ + (putL exts p).length)
  | [], acc, p, B, f, at_, hR, hacc, hf => by
    have h16 := hR.few
    rw [List.append_nil] at hR h16
    obtain ⟨f, rfl⟩ : ∃ m, f = m + 1 := ⟨f - 1, by omega⟩
    unfold pc
    have hnb : ¬ beh p = true := by
      intro hb
      obtain ⟨x, hx, hl⟩ := hR.last hb
      rw [hacc x (List.mem_of_getElem? hx)] at hl
      cases hl
    rw [show firstK [] p = p from rfl, if_neg hnb]
    simp [putL]
  | x :: r, acc, p, B, f, at_, hR, hacc, hf => by
    have h16 := hR.few
    rw [List.length_append, List.length_cons] at h16
    obtain ⟨f, rfl⟩ : ∃ m, f = m + 1 := ⟨f - 1, by omega⟩
    have hx : (acc ++ x :: r)[acc.length]? = some x := by simp
    have hrx := hR.all x (by simp)
    unfold pc
    rw [show firstK (x :: r) p = x.1 from rfl, if_pos (rightX_beh hrx)]
    have hput : putL (x :: r) p ++ B = firstK r p :: lenB x.2 :: (x.2 ++ (putL r p ++ B)) := by simp [putL]
    rw [hput, one_put (by omega) (fun h0 => List.length_eq_zero_iff.1 (hR.hop _ x hx h0)) hrx]
    dsimp only
    have hlen : (putL (x :: r) p).length = x.2.length + 2 + (putL r p).length := by simp [putL]; omega
    split
    · rename_i hl
      have h1 := hR.late _ x hx hl
      rw [List.length_append, List.length_cons] at h1
      have hr : r = [] := List.length_eq_zero_iff.1 (by omega)
      subst hr
      rw [hlen]
      simp [putL, firstK]
    · rename_i hl
      have hd : (firstK r p :: lenB x.2 :: (x.2 ++ (putL r p ++ B))).drop (x.2.length + 2) = putL r p ++ B := by simp
      rw [hd]
      have e1 : acc ++ x :: r = (acc ++ [x]) ++ r := by simp
      rw [e1] at hR ⊢
      rw [parse_put r (acc ++ [x]) p B f (at_ + (x.2.length + 2)) hR (fun y hy => ?_) (by rw [List.length_append, List.length_singleton]; omega), hlen]
      · congr 3
        omega
      · rcases List.mem_append.1 hy with hy | hy
        · exact hacc y hy
        · rw [List.mem_singleton.1 hy]; simpa using hl
/-- what was parsed is right, and put again it is what it was parsed of -/
theorem put_parse : ∀ (f : Nat) (acc : List Ext) (p : Int) (rest : List Int) (at_ : Nat) (ys : List Ext) (p' : Int) (m : Nat), (∀ x ∈ rest, isB x) → f + acc.length = 17 → (∀ x ∈ acc, rightX x = true ∧ laterX x = false) → (∀ (i : Nat) (x : Ext), acc[i]? = some x → x.1 = 0 → i = 0) →
    pc f acc p rest at_ = .inl (ys, p', m) → ∃ zs, ys = acc ++ zs ∧ RightC ys p' ∧ firstK zs p' = p ∧ at_ ≤ m ∧ m - at_ ≤ rest.length ∧ putL zs p' = rest.take (m - at_) ∧ (∀ z ∈ zs, ∀ y ∈ z.2, isB y)
  | 0, acc, p, rest, at_, ys, p', m, hb, hf, ha, hh, h => by cases h
  | f + 1, acc, p, rest, at_, ys, p', m, hb, hf, ha, hh, h => by
    unfold pc at h
    split at h
    · rename_i hp
      split at h
      · cases h
      · rename_i x q n hone
        obtain ⟨k16, k0, kx, kr, kn, kl, kt, kd⟩ := one_ok hb hp hone
        have hx2 : ∀ y ∈ x.2, isB y := fun y hy => hb y (List.mem_of_mem_take (i := n) (by rw [kt]; simp [hy]))
        have hh' : ∀ (i : Nat) (y : Ext), (acc ++ [x])[i]? = some y → y.1 = 0 → i = 0 := by
          intro i y hy h0
          rw [List.getElem?_append] at hy
          split at hy
          · exact hh i y hy h0
          · rename_i hi
            have : i - acc.length = 0 := by
              have := (List.getElem?_eq_some_iff.1 hy).1
              simp at this; omega
            rw [this] at hy
            simp at hy
            subst hy
            rw [kx] at h0
            have := k0 h0
            subst this
            simp at *
            omega
        split at h
        · rename_i hl
          cases h
          refine ⟨[x], rfl, ⟨by simp; omega, ?_, hh', ?_, ?_⟩, kx, by omega, by omega, ?_, ?_⟩
          · intro y hy
            rcases List.mem_append.1 hy with hy | hy
            · exact (ha y hy).1
            · rw [List.mem_singleton.1 hy]; exact kr
          · intro i y hy hly
            rw [List.getElem?_append] at hy
            split at hy
            · rw [(ha y (List.mem_of_getElem? hy)).2] at hly; cases hly
            · have := (List.getElem?_eq_some_iff.1 hy).1
              simp at this ⊢; omega
          · intro _
            exact ⟨x, by simp, hl⟩
          · rw [show at_ + n - at_ = n by omega, kt]; simp [putL, firstK]
          · intro z hz
            rw [List.mem_singleton.1 hz]; exact hx2
        · rename_i hl
          have ih := put_parse f (acc ++ [x]) q (rest.drop n) (at_ + n) ys p' m (fun y hy => hb y (List.mem_of_mem_drop hy)) (by rw [List.length_append, List.length_singleton]; omega) (fun y hy => by
            rcases List.mem_append.1 hy with hy | hy
            · exact ha y hy
            · rw [List.mem_singleton.1 hy]; exact ⟨kr, by simpa using hl⟩) hh' h
          obtain ⟨zs, e1, e2, e3, e4, e5, e6, e7⟩ := ih
          rw [List.length_drop] at e5
          refine ⟨x :: zs, by rw [e1]; simp, e2, kx, by omega, by omega, ?_, ?_⟩
          · have : putL (x :: zs) p' = q :: lenB x.2 :: x.2 ++ putL zs p' := by simp [putL, e3]
            rw [this, e6, ← kt]
            rw [← List.take_append_drop n (rest.take (m - at_))]
            rw [List.take_take, Nat.min_eq_left (by omega), List.drop_take]
            congr 2
            omega
          · intro z hz
            rcases List.mem_cons.1 hz with hz | hz
            · rw [hz]; exact hx2
            · exact e7 z hz
    · rename_i hp
      cases h
      have hp : beh p = false := by simpa using hp
      refine ⟨[], by simp, ⟨by omega, fun x hx => (ha x hx).1, hh, fun i x hx hl => ?_, fun hb => by rw [hp] at hb; cases hb⟩, rfl, by omega, by omega, by simp [putL], by simp⟩
      rw [(ha x (List.mem_of_getElem? hx)).2] at hl; cases hl
/-- the whole of it -/
theorem parse_of_put {xs : List Ext} {p : Int} (h : RightC xs p) (B : List Int) : parse (firstK xs p) (putL xs p ++ B) = .inl (xs, p, (putL xs p).length) := by
  have := parse_put xs [] p B 17 0 (by simpa using h) (by simp) rfl
  simpa [parse] using this
theorem put_of_parse {first : Int} {b : List Int} {ys : List Ext} {p : Int} {m : Nat} (hb : ∀ x ∈ b, isB x) (h : parse first b = .inl (ys, p, m)) : RightC ys p ∧ firstK ys p = first ∧ m ≤ b.length ∧ putL ys p = b.take m ∧ ∀ z ∈ ys, ∀ y ∈ z.2, isB y := by
  obtain ⟨zs, e1, e2, e3, e4, e5, e6, e7⟩ := put_parse 17 [] first b 0 ys p m hb rfl (by simp) (by simp) h
  rw [List.nil_append] at e1
  subst e1
  exact ⟨e2, e3, by omega, by simpa using e6, e7⟩
end Go.Oct.L06
