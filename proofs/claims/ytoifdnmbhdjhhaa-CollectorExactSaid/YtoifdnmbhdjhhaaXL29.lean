/- What is proved: the plain law, with no program in sight. Conditions stand in each theorem. -/
namespace Go.Oct.L29
/-- an entry -/
structure Ent where
  E : Int
  N : Int
  P : Int


/-- the mark covers the entry -/
def Cov (x : Ent) (m n : Int) : Prop := x.E < m ∨ x.E = m ∧ x.N < n
def Fresh (x : Ent) (m n : Int) : Prop := ¬ Cov x m n ∧ (x.E = m ∧ x.N = n ∨ m < x.E ∧ (x.P < m ∨ x.P = m ∧ x.N ≤ n))

structure Inv (ep : Int) (there : List Ent) (place : List Nat) (all : List Ent) (cred : List Nat) (m n : Int) : Prop where
  lp : place.length = there.length
  lc : cred.length = all.length
  pl : ∀ (k : Nat) (y : Ent), there[k]? = some y → ∃ p : Nat, place[k]? = some p ∧ all[p]? = some y
  num : ∀ (k : Nat) (y : Ent), there[k]? = some y → y.N = k
  prev0 : ∀ y : Ent, there[0]? = some y → y.P = 0
  prev : ∀ (k : Nat) (y w : Ent), there[k + 1]? = some y → there[k]? = some w → y.P = w.E
  mono : ∀ (i j : Nat) (y w : Ent), i ≤ j → there[i]? = some y → there[j]? = some w → y.E ≤ w.E
  rng : ∀ (p : Nat) (y : Ent), all[p]? = some y → 1 ≤ y.E ∧ y.E ≤ ep ∧ 0 ≤ y.N ∧ y.N < 100 ∧ 0 ≤ y.P ∧ y.P ≤ ep
  ep1 : 1 ≤ ep
  h1 : ∀ (p k : Nat) (x y : Ent), all[p]? = some x → there[k]? = some y → y.E < x.E → y.N < x.N ∧ y.E ≤ x.P
  h2 : ∀ (p q : Nat) (x y : Ent), all[p]? = some x → all[q]? = some y → y.E = x.E → y.N < x.N → x.P = x.E
  h3 : ∀ (p q : Nat) (x y : Ent), all[p]? = some x → all[q]? = some y → y.E = x.E → y.N = x.N → p = q
  h4 : ∀ (p : Nat) (y : Ent), all[p]? = some y → y.E = ep → ∃ k : Nat, there[k]? = some y
  i0 : (m = 0 ∧ n = 0) ∨ ∃ (p : Nat) (z : Ent), all[p]? = some z ∧ m = z.E ∧ n = z.N + 1
  i1 : ∀ (p : Nat) (c : Nat) (y : Ent), cred[p]? = some c → all[p]? = some y → c = 0 ∨ c = 1 ∧ Cov y m n
  i2 : ∀ (k p : Nat) (y : Ent), there[k]? = some y → place[k]? = some p → Cov y m n → cred[p]? = some 1

theorem inv_nil : Inv 1 [] [] [] [] 0 0 where
  lp := rfl
  lc := rfl
  pl := by simp
  num := by simp
  prev0 := by simp
  prev := by simp
  mono := by simp
  rng := by simp
  ep1 := by omega
  h1 := by simp
  h2 := by simp
  h3 := by simp
  h4 := by simp
  i0 := .inl ⟨rfl, rfl⟩
  i1 := by simp
  i2 := by simp

variable {ep : Int} {there : List Ent} {place : List Nat} {all : List Ent} {cred : List Nat} {m n : Int}

theorem Inv.le (v : Inv ep there place all cred m n) {c : Nat} {p : Nat} (h : cred[p]? = some c) : c ≤ 1 := by
  have hp : p < all.length := by rw [← v.lc]; exact (List.getElem?_eq_some_iff.1 h).1
  rcases v.i1 p c _ h (List.getElem?_eq_getElem hp) with h | h <;> omega

/-- a crash -/
theorem Inv.crash (v : Inv ep there place all cred m n) (t : Nat) : Inv (ep + 1) (there.take t) (place.take t) all cred m n := by
  have ht : ∀ (k : Nat) (y : Ent), (there.take t)[k]? = some y → k < t ∧ there[k]? = some y := by
    intro k y h
    rw [List.getElem?_take] at h
    split at h
    · exact ⟨by assumption, h⟩
    · cases h
  have hp : ∀ (k : Nat) (y : Nat), (place.take t)[k]? = some y → place[k]? = some y := by
    intro k y h
    rw [List.getElem?_take] at h
    split at h
    · exact h
    · cases h
  exact {
    lp := by simp [v.lp]
    lc := v.lc
    pl := fun k y h => by
      obtain ⟨h1, h2⟩ := ht k y h
      obtain ⟨p, h3, h4⟩ := v.pl k y h2
      exact ⟨p, by rw [List.getElem?_take, if_pos h1]; exact h3, h4⟩
    num := fun k y h => v.num k y (ht k y h).2
    prev0 := fun y h => v.prev0 y (ht 0 y h).2
    prev := fun k y w h h' => v.prev k y w (ht _ y h).2 (ht _ w h').2
    mono := fun i j y w h h1 h2 => v.mono i j y w h (ht _ y h1).2 (ht _ w h2).2
    rng := fun p y h => by have := v.rng p y h; omega
    ep1 := by have := v.ep1; omega
    h1 := fun p k x y h h' => v.h1 p k x y h (ht k y h').2
    h2 := v.h2
    h3 := v.h3
    h4 := fun p y h h' => by have := v.rng p y h; omega
    i0 := v.i0
    i1 := v.i1
    i2 := fun k p y h h' => v.i2 k p y (ht k y h).2 (hp k p h') }

/-- an entry comes into the spool -/
theorem Inv.append (v : Inv ep there place all cred m n) (x : Ent) (hE : x.E = ep) (hN : x.N = there.length) (hl : there.length < 100)
    (hP0 : there = [] → x.P = 0) (hP : ∀ w, there[there.length - 1]? = some w → there ≠ [] → x.P = w.E) :
    Inv ep (there ++ [x]) (place ++ [all.length]) (all ++ [x]) (cred ++ [0]) m n := by
  have ht : ∀ (k : Nat) (y : Ent), (there ++ [x])[k]? = some y → (there[k]? = some y ∧ k < there.length) ∨ (k = there.length ∧ y = x) := by
    intro k y h
    rw [List.getElem?_append] at h
    split at h
    · exact .inl ⟨h, by assumption⟩
    · have hk : k - there.length = 0 := by
        have := (List.getElem?_eq_some_iff.1 h).1
        simp at this; omega
      rw [hk] at h
      simp at h
      exact .inr ⟨by omega, h.symm⟩
  have ha : ∀ (k : Nat) (y : Ent), (all ++ [x])[k]? = some y → (all[k]? = some y ∧ k < all.length) ∨ (k = all.length ∧ y = x) := by
    intro k y h
    rw [List.getElem?_append] at h
    split at h
    · exact .inl ⟨h, by assumption⟩
    · have hk : k - all.length = 0 := by
        have := (List.getElem?_eq_some_iff.1 h).1
        simp at this; omega
      rw [hk] at h
      simp at h
      exact .inr ⟨by omega, h.symm⟩
  have hm : ∀ (k : Nat) (y : Ent), there[k]? = some y → 1 ≤ y.E ∧ y.E ≤ ep := by
    intro k y h
    obtain ⟨p, _, h2⟩ := v.pl k y h
    have := v.rng p y h2
    omega
  have hP' : ∀ (k : Nat) (y : Ent), there[k]? = some y → y.E ≤ x.P := by
    intro k y h
    have hk := (List.getElem?_eq_some_iff.1 h).1
    have hw : there[there.length - 1]? = some there[there.length - 1] := List.getElem?_eq_getElem (by omega)
    rw [hP _ hw (by intro e; subst e; simp at hk)]
    exact v.mono k _ y _ (by omega) h hw
  have hP2 : 0 ≤ x.P ∧ x.P ≤ ep := by
    by_cases h0 : there = []
    · rw [hP0 h0]; have := v.ep1; omega
    · have hlen := List.length_pos_iff.2 h0
      have hw : there[there.length - 1]? = some there[there.length - 1] := List.getElem?_eq_getElem (by omega)
      rw [hP _ hw h0]
      have := hm _ _ hw
      omega
  have hep := v.ep1
  exact {
    lp := by simp [v.lp]
    lc := by simp [v.lc]
    pl := fun k y g => by
      rcases ht k y g with ⟨h, _⟩ | ⟨rfl, rfl⟩
      · obtain ⟨p, h1, h2⟩ := v.pl k y h
        exact ⟨p, by rw [List.getElem?_append_left (List.getElem?_eq_some_iff.1 h1).1]; exact h1, by rw [List.getElem?_append_left (List.getElem?_eq_some_iff.1 h2).1]; exact h2⟩
      · exact ⟨all.length, by rw [← v.lp]; simp, by simp⟩
    num := fun k y g => by
      rcases ht k y g with ⟨h, _⟩ | ⟨rfl, rfl⟩
      · exact v.num k y h
      · exact hN
    prev0 := fun y g => by
      rcases ht 0 y g with ⟨h, _⟩ | ⟨h, rfl⟩
      · exact v.prev0 y h
      · exact hP0 (List.length_eq_zero_iff.1 h.symm)
    prev := fun k y w g g' => by
      rcases ht _ y g with ⟨h, h0⟩ | ⟨h, rfl⟩
      · rcases ht _ w g' with ⟨h', _⟩ | ⟨h', rfl⟩
        · exact v.prev k y w h h'
        · omega
      · rcases ht _ w g' with ⟨h', h1⟩ | ⟨h', rfl⟩
        · exact hP w (by rw [← h]; exact h') (by intro e; subst e; simp at h)
        · omega
    mono := fun i j y w hij g g' => by
      rcases ht _ y g with ⟨h, h0⟩ | ⟨h, rfl⟩
      · rcases ht _ w g' with ⟨h', _⟩ | ⟨h', rfl⟩
        · exact v.mono i j y w hij h h'
        · have := hm i y h; omega
      · rcases ht _ w g' with ⟨h', h1⟩ | ⟨h', rfl⟩
        · omega
        · omega
    rng := fun p y g => by
      rcases ha p y g with ⟨h, _⟩ | ⟨_, rfl⟩
      · exact v.rng p y h
      · omega
    ep1 := v.ep1
    h1 := fun p k a b g g' hlt => by
      rcases ha _ a g with ⟨h, h0⟩ | ⟨h, rfl⟩
      · rcases ht _ b g' with ⟨h', _⟩ | ⟨h', rfl⟩
        · exact v.h1 p k a b h h' hlt
        · have := v.rng p a h; omega
      · rcases ht _ b g' with ⟨h', h1⟩ | ⟨h', rfl⟩
        · have := v.num k b h'
          exact ⟨by omega, hP' k b h'⟩
        · omega
    h2 := fun p q a b g g' he hlt => by
      rcases ha _ a g with ⟨h, h0⟩ | ⟨h, rfl⟩
      · rcases ha _ b g' with ⟨h', _⟩ | ⟨h', rfl⟩
        · exact v.h2 p q a b h h' he hlt
        · obtain ⟨k, hk⟩ := v.h4 p a h (by omega)
          have := v.num k a hk
          have := (List.getElem?_eq_some_iff.1 hk).1
          omega
      · rcases ha _ b g' with ⟨h', h1⟩ | ⟨h', rfl⟩
        · obtain ⟨k, hk⟩ := v.h4 q b h' (by omega)
          have := hP' k b hk
          omega
        · omega
    h3 := fun p q a b g g' he hlt => by
      rcases ha _ a g with ⟨h, h0⟩ | ⟨h, rfl⟩
      · rcases ha _ b g' with ⟨h', _⟩ | ⟨h', rfl⟩
        · exact v.h3 p q a b h h' he hlt
        · obtain ⟨k, hk⟩ := v.h4 p a h (by omega)
          have := v.num k a hk
          have := (List.getElem?_eq_some_iff.1 hk).1
          omega
      · rcases ha _ b g' with ⟨h', h1⟩ | ⟨h', rfl⟩
        · obtain ⟨k, hk⟩ := v.h4 q b h' (by omega)
          have := v.num k b hk
          have := (List.getElem?_eq_some_iff.1 hk).1
          omega
        · omega
    h4 := fun p y g he => by
      rcases ha p y g with ⟨h, _⟩ | ⟨_, rfl⟩
      · obtain ⟨k, hk⟩ := v.h4 p y h he
        exact ⟨k, by rw [List.getElem?_append_left (List.getElem?_eq_some_iff.1 hk).1]; exact hk⟩
      · exact ⟨there.length, by simp⟩
    i0 := by
      rcases v.i0 with h | ⟨p, z, h, h'⟩
      · exact .inl h
      · exact .inr ⟨p, z, by rw [List.getElem?_append_left (List.getElem?_eq_some_iff.1 h).1]; exact h, h'⟩
    i1 := fun p c y g g' => by
      rcases ha p y g' with ⟨h', hp⟩ | ⟨hp, rfl⟩
      · rw [List.getElem?_append_left (by rw [v.lc]; exact hp)] at g
        exact v.i1 p c y g h'
      · subst hp
        rw [List.getElem?_append_right (by rw [v.lc]; exact Nat.le_refl _), v.lc, Nat.sub_self] at g
        simp at g
        exact .inl g.symm
    i2 := fun k p y g g' hc => by
      rcases ht k y g with ⟨h, hk⟩ | ⟨hk, rfl⟩
      · rw [List.getElem?_append_left (by rw [v.lp]; exact hk)] at g'
        have := v.i2 k p y h g' hc
        rw [List.getElem?_append_left (List.getElem?_eq_some_iff.1 this).1]
        exact this
      · exfalso
        rcases v.i0 with ⟨rfl, rfl⟩ | ⟨q, z, hz, rfl, rfl⟩
        · rcases hc with hc | hc <;> omega
        · have := v.rng q z hz
          rcases hc with hc | hc
          · omega
          · obtain ⟨j, hj⟩ := v.h4 q z hz (by omega)
            have := v.num j z hj
            have := (List.getElem?_eq_some_iff.1 hj).1
            omega }

/-- an entry is credited -/
theorem Inv.credit (v : Inv ep there place all cred m n) {j : Nat} {x : Ent} (hx : all[j]? = some x) (hf : Fresh x m n) :
    cred[j]? = some 0 ∧ Inv ep there place all (cred.set j 1) x.E (x.N + 1) := by
  obtain ⟨hnc, hf⟩ := hf
  have hj : j < all.length := (List.getElem?_eq_some_iff.1 hx).1
  have hjc : j < cred.length := by rw [v.lc]; exact hj
  have hc0 : cred[j]? = some 0 := by
    rcases v.i1 j cred[j] x (List.getElem?_eq_getElem hjc) hx with h | h
    · rw [List.getElem?_eq_getElem hjc, h]
    · exact absurd h.2 hnc
  have hmono : ∀ y : Ent, Cov y m n → Cov y x.E (x.N + 1) := by
    intro y hy
    unfold Cov at *
    omega
  refine ⟨hc0, { v with lc := by simp [v.lc], i0 := .inr ⟨j, x, hx, rfl, rfl⟩, i1 := fun p c y h h' => ?_, i2 := fun k p y h h' hc => ?_ }⟩
  · rw [List.getElem?_set] at h
    by_cases hjp : j = p
    · subst hjp
      rw [if_pos rfl, if_pos hjc] at h
      rw [hx] at h'
      simp at h h'
      subst h h'
      exact .inr ⟨rfl, by unfold Cov; omega⟩
    · rw [if_neg hjp] at h
      rcases v.i1 p c y h h' with h | ⟨h, h2⟩
      · exact .inl h
      · exact .inr ⟨h, hmono y h2⟩
  · rw [List.getElem?_set]
    by_cases hjp : j = p
    · subst hjp
      rw [if_pos rfl, if_pos hjc]
    · rw [if_neg hjp]
      refine v.i2 k p y h h' ?_
      obtain ⟨p', hp1, hp2⟩ := v.pl k y h
      rw [h'] at hp1
      cases hp1
      by_cases hcy : Cov y m n
      · exact hcy
      · exfalso
        have hne : ¬ (y.E = x.E ∧ y.N = x.N) := fun e => hjp (v.h3 j p x y hx hp2 e.1 e.2)
        unfold Cov at *
        rcases Int.lt_trichotomy y.E x.E with hlt | heq | hgt
        · have := v.h1 j k x y hx h hlt
          omega
        · have : y.N < x.N := by omega
          have := v.h2 j p x y hx hp2 heq this
          omega
        · omega

/-- as they come in their order, the next is fresh, or is covered -/
theorem Inv.next (v : Inv ep there place all cred m n) {k : Nat} {y : Ent} (hy : there[k]? = some y) (hb : ∀ (i : Nat) (w : Ent), i < k → there[i]? = some w → Cov w m n) : Cov y m n ∨ Fresh y m n := by
  by_cases hc : Cov y m n
  · exact .inl hc
  refine .inr ⟨hc, ?_⟩
  have hlen := (List.getElem?_eq_some_iff.1 hy).1
  have hN := v.num k y hy
  obtain ⟨py, hpy, hay⟩ := v.pl k y hy
  have hr := v.rng py y hay
  unfold Cov at *
  rcases v.i0 with ⟨rfl, rfl⟩ | ⟨q, z, hz, rfl, rfl⟩
  · cases k with
    | zero => have := v.prev0 y hy; omega
    | succ k =>
      have hw : there[k]? = some there[k] := List.getElem?_eq_getElem (by omega)
      obtain ⟨pw, _, haw⟩ := v.pl k _ hw
      have := v.rng pw _ haw
      have := hb k _ (by omega) hw
      omega
  · have hrz := v.rng q z hz
    cases k with
    | zero =>
      have := v.prev0 y hy
      omega
    | succ k =>
      have hw : there[k]? = some there[k] := List.getElem?_eq_getElem (by omega)
      have hcw := hb k _ (by omega) hw
      have hNw := v.num k _ hw
      have hpv := v.prev k y _ hy hw
      rcases Int.lt_trichotomy y.E z.E with hlt | heq | hgt
      · omega
      · rcases Int.lt_trichotomy there[k].E z.E with hlt' | heq' | hgt'
        · have := v.h1 q k z _ hz hw hlt'
          omega
        · omega
        · omega
      · omega
end Go.Oct.L29
