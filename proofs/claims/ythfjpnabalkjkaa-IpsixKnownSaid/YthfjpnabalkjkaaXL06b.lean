/- What is proved: the plain law, with no program in sight. Conditions stand in each theorem. -/
import Derived.Test.YthfjpnabalkjkaaXL06
set_option linter.unusedSimpArgs false
set_option linter.unusedVariables false
namespace Go.Oct.L06
open Go.Oct Go.Oct.L01
structure Hd where
  cls : Int
  flow : Int
  len : Int
  nx : Int
  hops : Int
  src : List Int
  dst : List Int
structure Hd.ok (h : Hd) : Prop where
  cls : 0 ≤ h.cls ∧ h.cls < 256
  flow : 0 ≤ h.flow ∧ h.flow < 4294967296
  len : 0 ≤ h.len ∧ h.len < 65536
  nx : isB h.nx
  hops : isB h.hops
  src : h.src.length = 16
  dst : h.dst.length = 16
  bsrc : ∀ x ∈ h.src, isB x
  bdst : ∀ x ∈ h.dst, isB x
def num (h : Hd) : Int := 1610612736 + h.cls * 1048576 + h.flow
def putH (h : Hd) : List Int := bytesOf (num h) 4 ++ bytesOf h.len 2 ++ [h.nx, h.hops] ++ h.src ++ h.dst
/-- the header that stands there -/
def hdOf (b : List Int) : Hd :=
  ⟨val (b.take 4) / 1048576 % 256, val (b.take 4) % 1048576, val ((b.drop 4).take 2), b.getD 6 0, b.getD 7 0, (b.drop 8).take 16, (b.drop 24).take 16⟩
def parseH (b : List Int) : Hd ⊕ Int :=
  if b.length < 40 then .inr 10
  else if val (b.take 4) / 268435456 ≠ 6 then .inr 50
  else .inl (hdOf b)
theorem parseH_err {b : List Int} {e : Int} (h : parseH b = .inr e) : e = 10 ∨ e = 50 := by
  unfold parseH at h
  split at h
  · cases h; exact .inl rfl
  · split at h
    · cases h; exact .inr rfl
    · cases h
theorem putH_len {h : Hd} (o : h.ok) : (putH h).length = 40 := by
  simp [putH, bytesOf_length, o.src, o.dst]
theorem putH_isB {h : Hd} (o : h.ok) : ∀ x ∈ putH h, isB x := by
  intro x hx
  simp only [putH, List.mem_append, List.mem_cons, List.not_mem_nil, or_false] at hx
  rcases hx with (((hx | hx) | (rfl | rfl)) | hx) | hx
  · exact bytesOf_isB _ _ x hx
  · exact bytesOf_isB _ _ x hx
  · exact o.nx
  · exact o.hops
  · exact o.bsrc x hx
  · exact o.bdst x hx
/-- what was put is parsed as it was -/
theorem parseH_put {h : Hd} (o : h.ok) (hf : h.flow < 1048576) (B : List Int) : parseH (putH h ++ B) = .inl h := by
  have hl := putH_len o
  have hc := o.cls
  have hfl := o.flow
  have hln := o.len
  have h4 : (bytesOf (num h) 4).length = 4 := bytesOf_length _ _
  have h2 : (bytesOf h.len 2).length = 2 := bytesOf_length _ _
  have e : putH h ++ B = bytesOf (num h) 4 ++ (bytesOf h.len 2 ++ (h.nx :: h.hops :: (h.src ++ (h.dst ++ B)))) := by simp [putH]
  have t4 : (putH h ++ B).take 4 = bytesOf (num h) 4 := by rw [e, List.take_left' h4]
  have d4 : (putH h ++ B).drop 4 = bytesOf h.len 2 ++ (h.nx :: h.hops :: (h.src ++ (h.dst ++ B))) := by rw [e, List.drop_left' h4]
  have t2 : ((putH h ++ B).drop 4).take 2 = bytesOf h.len 2 := by rw [d4, List.take_left' h2]
  have d6 : (putH h ++ B).drop 6 = h.nx :: h.hops :: (h.src ++ (h.dst ++ B)) := by
    have : (putH h ++ B).drop 6 = ((putH h ++ B).drop 4).drop 2 := by rw [List.drop_drop]
    rw [this, d4, List.drop_left' h2]
  have d8 : (putH h ++ B).drop 8 = h.src ++ (h.dst ++ B) := by
    have : (putH h ++ B).drop 8 = ((putH h ++ B).drop 6).drop 2 := by rw [List.drop_drop]
    rw [this, d6]; rfl
  have d24 : (putH h ++ B).drop 24 = h.dst ++ B := by
    have : (putH h ++ B).drop 24 = ((putH h ++ B).drop 8).drop 16 := by rw [List.drop_drop]
    rw [this, d8, List.drop_left' o.src]
  have g6 : (putH h ++ B).getD 6 0 = h.nx := by
    have : ((putH h ++ B).drop 6)[0]? = some h.nx := by rw [d6]; rfl
    rw [List.getElem?_drop] at this
    rw [List.getD_eq_getElem?_getD, this]; rfl
  have g7 : (putH h ++ B).getD 7 0 = h.hops := by
    have : ((putH h ++ B).drop 6)[1]? = some h.hops := by rw [d6]; rfl
    rw [List.getElem?_drop] at this
    rw [List.getD_eq_getElem?_getD, this]; rfl
  have v4 : val (bytesOf (num h) 4) = num h := val_bytesOf 4 _ (by unfold num; omega) (by unfold num; simp; omega)
  have v2 : val (bytesOf h.len 2) = h.len := val_bytesOf 2 _ (by omega) (by simp; omega)
  unfold parseH
  rw [if_neg (by rw [List.length_append]; omega), t4, v4, if_neg (by unfold num; omega)]
  unfold hdOf
  rw [t4, v4, t2, v2, g6, g7, d8, d24, List.take_left' o.src, List.take_left' o.dst]
  have n1 : num h / 1048576 % 256 = h.cls := by unfold num; omega
  have n2 : num h % 1048576 = h.flow := by unfold num; omega
  rw [n1, n2]
theorem hdOf_ok {b : List Int} (hb : ∀ x ∈ b, isB x) (hl : 40 ≤ b.length) : (hdOf b).ok := by
  have hd : ∀ i : Nat, isB (b.getD i 0) := by
    intro i
    rw [List.getD_eq_getElem?_getD]
    cases h : b[i]? with
    | none => exact (by decide : isB 0)
    | some x => exact hb x (List.mem_of_getElem? h)
  have v4 := val_bound 4 (b.take 4) (by rw [List.length_take]; omega) (fun x hx => hb x (List.mem_of_mem_take hx))
  have v2 := val_bound 2 ((b.drop 4).take 2) (by rw [List.length_take, List.length_drop]; omega) (fun x hx => hb x (List.mem_of_mem_drop (List.mem_of_mem_take hx)))
  exact ⟨by unfold hdOf; dsimp only; omega, by unfold hdOf; dsimp only; omega, by unfold hdOf; dsimp only; simpa using v2, hd 6, hd 7,
    by unfold hdOf; dsimp only; rw [List.length_take, List.length_drop]; omega, by unfold hdOf; dsimp only; rw [List.length_take, List.length_drop]; omega,
    fun x hx => hb x (List.mem_of_mem_drop (List.mem_of_mem_take hx)), fun x hx => hb x (List.mem_of_mem_drop (List.mem_of_mem_take hx))⟩
theorem parseH_ok {b : List Int} {h : Hd} (hb : ∀ x ∈ b, isB x) (hp : parseH b = .inl h) : h.ok ∧ h = hdOf b ∧ 40 ≤ b.length := by
  unfold parseH at hp
  split at hp
  · cases hp
  · split at hp
    · cases hp
    · cases hp
      exact ⟨hdOf_ok hb (by omega), rfl, by omega⟩
instance : DecidableEq Hd := fun a b => by
  cases a; cases b
  simp only [Hd.mk.injEq]
  infer_instance
end Go.Oct.L06
