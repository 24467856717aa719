/- Bytes of a number. Plain arithmetic. No condition. -/
import Derived.Test.YtggojahlhpijeaaN3
namespace Go.Proofs.YtggojahlhpijeaaN
theorem vl_of_digits {B : Nat} {xs : List Nat} {v : Nat} (h : ∀ p, p < xs.length → xs.getD p 0 = v / B ^ p % B) : vl B xs = v % B ^ xs.length := by
  have key : ∀ n, n ≤ xs.length → vl B (xs.take n) = v % B ^ n := by
    intro n
    induction n with
    | zero => intro _; simp [vl, Nat.mod_one]
    | succ n ih =>
      intro hn
      rw [vl_take_succ', ih (by omega), h n (by omega), Nat.mod_pow_succ]
  have := key xs.length (Nat.le_refl _)
  rwa [List.take_length] at this
theorem trimR_zeros (xs : List Nat) (n : Nat) : trimR (xs ++ List.replicate n 0) = trimR xs := by
  induction n with
  | zero => simp
  | succ n ih => rw [List.replicate_succ', ← List.append_assoc, trimR_concat_zero, ih]
theorem getD_reverse {xs : List Nat} {i : Nat} (h : i < xs.length) : xs.reverse.getD i 0 = xs.getD (xs.length - 1 - i) 0 := by
  rw [getD_lt (by simpa using h), getD_lt (by omega), List.getElem_reverse]
theorem take_zeros {xs : List Nat} {m : Nat} (hm : m ≤ xs.length) (h : ∀ j, j < m → xs.getD j 0 = 0) : xs.take m = List.replicate m 0 := by
  refine List.ext_getElem (by simp; omega) (fun i h1 h2 => ?_)
  have hi : i < m := by simp at h1; omega
  rw [List.getElem_take, List.getElem_replicate, ← getD_lt (by omega)]
  exact h i hi
/-- The bytes, without those that are 0 ahead. -/
theorem bytes_drop {bs : List Nat} {v m : Nat} (hv : v < 256 ^ bs.length) (h : ∀ p, p < bs.length → bs.getD (bs.length - 1 - p) 0 = v / 256 ^ p % 256) (hm : m ≤ bs.length) (h0 : ∀ j, j < m → bs.getD j 0 = 0) (he : m = bs.length ∨ bs.getD m 0 ≠ 0) : bs.drop m = (dg 256 v).reverse := by
  have hd : Dig 256 bs.reverse := by
    intro x hx
    obtain ⟨i, hi, e⟩ := List.getElem_of_mem hx
    have hi' : i < bs.length := by simpa using hi
    rw [← getD_lt hi, getD_reverse hi', h i hi'] at e
    rw [← e]; exact Nat.mod_lt _ (by decide)
  have e1 : vl 256 bs.reverse = v := by
    rw [vl_of_digits (v := v) (fun p hp => by rw [getD_reverse (by simpa using hp)]; exact h p (by simpa using hp)), List.length_reverse, Nat.mod_eq_of_lt hv]
  have e2 := dg_vl (by decide) hd
  rw [e1] at e2
  have e3 : bs.reverse = (bs.drop m).reverse ++ List.replicate m 0 := by
    conv => lhs; rw [← List.take_append_drop m bs, List.reverse_append, take_zeros hm h0, List.reverse_replicate]
  rw [e3, trimR_zeros] at e2
  rw [e2]
  rcases he with rfl | he
  · simp [trimR]
  · rcases Nat.lt_or_ge m bs.length with hlt | hge
    · rw [List.drop_eq_getElem_cons hlt, List.reverse_cons, trimR_concat (by rw [← getD_lt hlt]; exact he)]
      simp
    · rw [List.drop_of_length_le hge]; rfl
theorem powH (i : Nat) : H ^ i = 256 ^ (3 * i) := by rw [Nat.pow_mul, show (256 : Nat) ^ 3 = H from by decide]
theorem byte_of_H (v i : Nat) : v / H ^ i % H % 256 = v / 256 ^ (3 * i) % 256 ∧ v / H ^ i % H / 256 % 256 = v / 256 ^ (3 * i + 1) % 256 ∧ v / H ^ i % H / 65536 % 256 = v / 256 ^ (3 * i + 2) % 256 := by
  rw [powH, Nat.pow_add _ _ 1, Nat.pow_add _ _ 2, ← Nat.div_div_eq_div_mul, ← Nat.div_div_eq_div_mul]
  generalize v / 256 ^ (3 * i) = m
  rw [show H = 16777216 from rfl]
  refine ⟨by omega, by omega, by omega⟩
/-- A limb of three bytes. -/
theorem svp_three {f : Nat → Nat} {e n : Nat} (h : svp f e = svp f (e - 3) * 256 ^ (e - (e - 3)) + n) (hn : n < 256 ^ (e - (e - 3))) : svp f e = n + H * svp f (e - 3) ∧ n < H := by
  rcases Nat.lt_or_ge e 3 with h3 | h3
  · have e0 : e - 3 = 0 := by omega
    rw [e0] at h hn ⊢
    have : svp f 0 = 0 := rfl
    rw [this] at h ⊢
    have : 256 ^ (e - 0) ≤ 256 ^ 3 := Nat.pow_le_pow_right (by decide) (by omega)
    have hH : H = 256 ^ 3 := by decide
    omega
  · rw [show e - (e - 3) = 3 from by omega] at h hn
    have hH : H = 256 ^ 3 := by decide
    rw [h, hH, Nat.mul_comm]; omega
end Go.Proofs.YtggojahlhpijeaaN
