/- Sums, differences and products by digits. Plain arithmetic. No condition. -/
import Derived.Test.YtggojahlhpijeaaN1
namespace Go.Proofs.YtggojahlhpijeaaN
section
variable {B : Nat}
theorem vl_split {xs : List Nat} {i : Nat} (h : i < xs.length) : vl B xs = vl B (xs.take i) + B ^ i * (xs.getD i 0 + B * vl B (xs.drop (i + 1))) := by
  have e := vl_append (B := B) (xs.take i) (xs.drop i)
  rw [List.take_append_drop, List.length_take, Nat.min_eq_left (by omega), List.drop_eq_getElem_cons h, vl] at e
  rw [e, getD_lt h]
/-- Numbers of as many digits are compared by the highest one that differs. -/
theorem vl_lt_of {xs ys : List Nat} {i : Nat} (hx : Dig B xs) (h1 : i < xs.length) (h2 : i < ys.length) (hd : xs.drop (i + 1) = ys.drop (i + 1)) (h : xs.getD i 0 < ys.getD i 0) : vl B xs < vl B ys := by
  rw [vl_split h1, vl_split h2, hd]
  have h3 := vl_lt (hx.take i)
  rw [List.length_take, Nat.min_eq_left (by omega)] at h3
  have h4 : B ^ i * (xs.getD i 0 + B * vl B (ys.drop (i + 1)) + 1) ≤ B ^ i * (ys.getD i 0 + B * vl B (ys.drop (i + 1))) := Nat.mul_le_mul_left _ (by omega)
  rw [Nat.mul_add _ _ 1, Nat.mul_one] at h4
  omega
theorem drop_succ_eq {xs ys : List Nat} {i : Nat} (h1 : i < xs.length) (h2 : i < ys.length) (hd : xs.drop (i + 1) = ys.drop (i + 1)) (h : xs.getD i 0 = ys.getD i 0) : xs.drop i = ys.drop i := by
  rw [List.drop_eq_getElem_cons h1, List.drop_eq_getElem_cons h2, hd, ← getD_lt h1, ← getD_lt h2, h]
theorem vl_zeros {xs : List Nat} (h : ∀ i, xs.getD i 0 = 0) : vl B xs = 0 := by
  induction xs with
  | nil => rfl
  | cons x xs ih =>
    have h0 := h 0
    simp at h0
    rw [vl, h0, ih (fun i => by simpa using h (i + 1))]
    simp
theorem getD_rep (n i : Nat) : (List.replicate n 0).getD i 0 = 0 := by
  rw [List.getD_eq_getElem?_getD, List.getElem?_replicate]; split <;> rfl
/-- A step of a sum: a digit that was 0 is set. -/
theorem vl_set0 (hB : 0 < B) {xs : List Nat} {i : Nat} (v : Nat) (h : i < xs.length) (h0 : xs.getD i 0 = 0) : vl B (xs.set i v) = vl B xs + B ^ i * v := by
  have := vl_set hB v h
  rw [h0, Nat.mul_zero] at this
  exact this
theorem vl_take_succ' (xs : List Nat) (i : Nat) : vl B (xs.take (i + 1)) = vl B (xs.take i) + B ^ i * xs.getD i 0 := by
  rcases Nat.lt_or_ge i xs.length with h | h
  · exact vl_take_succ xs i h
  · rw [List.take_of_length_le (by omega), List.take_of_length_le h, getD_ge h, Nat.mul_zero, Nat.add_zero]
theorem length_dg_mono (hB : 1 < B) {a b : Nat} (h : a ≤ b) : (dg B a).length ≤ (dg B b).length := by
  refine length_dg_le hB (Nat.lt_of_le_of_lt h ?_)
  exact lt_of_length_dg hB (Nat.le_refl _)
theorem lt_dg (hB : 1 < B) (n : Nat) : n < B ^ (dg B n).length := lt_of_length_dg hB (Nat.le_refl _)
theorem length_dg_add (hB : 1 < B) (a b : Nat) : (dg B (a + b)).length ≤ max (dg B a).length (dg B b).length + 1 := by
  refine length_dg_le hB ?_
  have h1 := lt_dg hB a
  have h2 := lt_dg hB b
  have h3 : B ^ (dg B a).length ≤ B ^ max (dg B a).length (dg B b).length := Nat.pow_le_pow_right (by omega) (Nat.le_max_left _ _)
  have h4 : B ^ (dg B b).length ≤ B ^ max (dg B a).length (dg B b).length := Nat.pow_le_pow_right (by omega) (Nat.le_max_right _ _)
  rw [Nat.pow_succ]
  have h5 : B ^ max (dg B a).length (dg B b).length * 2 ≤ B ^ max (dg B a).length (dg B b).length * B := Nat.mul_le_mul_left _ hB
  omega
theorem length_dg_mul (hB : 1 < B) (a b : Nat) : (dg B (a * b)).length ≤ (dg B a).length + (dg B b).length := by
  refine length_dg_le hB ?_
  rw [Nat.pow_add]
  have h1 := lt_dg hB a
  have h2 := lt_dg hB b
  exact Nat.mul_lt_mul'' h1 h2
/-- Numbers that are not of as many digits. -/
theorem lt_of_len (hB : 1 < B) {a b : Nat} (h : (dg B a).length < (dg B b).length) : a < b :=
  Nat.lt_of_lt_of_le (lt_dg hB a) (le_of_length_dg hB h)
end
end Go.Proofs.YtggojahlhpijeaaN
