/- Numbers by the bytes of a text. Plain arithmetic. No condition. -/
import Derived.Test.YtggojahlhpijeaaN2
namespace Go.Proofs.YtggojahlhpijeaaN
/-- The value of bytes, the highest first. -/
def svp (f : Nat → Nat) : Nat → Nat
  | 0 => 0
  | i + 1 => svp f i * 256 + f i
theorem svp_lt {f : Nat → Nat} (hf : ∀ i, f i < 256) (n : Nat) : svp f n < 256 ^ n := by
  induction n with
  | zero => simp [svp]
  | succ n ih =>
    have := hf n
    simp only [svp, Nat.pow_succ]
    omega
theorem pow256 (q r : Nat) : 256 ^ (8 * q + r) = W ^ q * 256 ^ r := by
  rw [Nat.pow_add, Nat.pow_mul, show (256 : Nat) ^ 8 = W from by decide]
theorem pow256_2 (r : Nat) : 256 ^ r = 2 ^ (8 * r) := by rw [Nat.pow_mul]
/-- A byte is set in a limb of which the lower bytes are 0. -/
theorem limb_or {v b q r : Nat} (hr : r < 8) (hb : b < 256) {m : Nat} (hv : v = m * 256 ^ (8 * q + r + 1)) : (v / W ^ q % W) ||| (b * 2 ^ (8 * r)) = v / W ^ q % W + b * 2 ^ (8 * r) := by
  have hW : 0 < W ^ q := Nat.pow_pos (by decide)
  have e1 : v / W ^ q = m * 256 ^ (r + 1) := by
    rw [hv, Nat.add_assoc, pow256, Nat.mul_left_comm, Nat.mul_div_cancel_left _ hW]
  have hd : 2 ^ (8 * r + 8) ∣ v / W ^ q % W := by
    rw [e1, pow256_2, show 8 * (r + 1) = 8 * r + 8 from by omega, W_eq]
    exact (Nat.dvd_mod_iff (Nat.pow_dvd_pow 2 (by omega))).2 (Nat.dvd_mul_left _ _)
  obtain ⟨t, ht⟩ := hd
  rw [ht]
  have hlt : b * 2 ^ (8 * r) < 2 ^ (8 * r + 8) := by
    rw [Nat.pow_add, Nat.mul_comm]
    exact Nat.mul_lt_mul_of_pos_left hb (Nat.pow_pos (by decide))
  exact (Nat.two_pow_add_eq_or_of_lt hlt t).symm
theorem shl_lt {b r : Nat} (hr : r < 8) (hb : b < 256) : b * 2 ^ (8 * r) < 18446744073709551616 := by
  have h1 : b * 2 ^ (8 * r) < 256 * 2 ^ (8 * r) := Nat.mul_lt_mul_of_pos_right hb (Nat.pow_pos (by decide))
  have h2 : (256 : Nat) * 2 ^ (8 * r) = 2 ^ (8 * r + 8) := by rw [Nat.pow_add, Nat.mul_comm]
  have h3 : (2 : Nat) ^ (8 * r + 8) ≤ 2 ^ 64 := Nat.pow_le_pow_right (by decide) (by omega)
  omega
/-- The limbs of a text, a byte after another. -/
theorem svp_step {f : Nat → Nat} (hf : ∀ i, f i < 256) {o : List Nat} {n i : Nat} (hi : i < n) (ho : Dig W o) (hl : o.length = (n + 7) / 8) (hv : vl W o = svp f i * 256 ^ (n - i)) :
    let k := n - 1 - i
    let x := o.getD (k / 8) 0 ||| (f i * 2 ^ (8 * (k % 8)))
    x < 18446744073709551616 ∧ vl W (o.set (k / 8) x) = svp f (i + 1) * 256 ^ (n - (i + 1)) := by
  intro k x
  have hk : 8 * (k / 8) + k % 8 = k := Nat.div_add_mod k 8
  have hr : k % 8 < 8 := Nat.mod_lt _ (by decide)
  have hkn : n - i = k + 1 := by omega
  have hq : k / 8 < o.length := by omega
  have eg := getD_vl (B := W) (by decide) (k / 8) ho
  have hor := limb_or (v := vl W o) (b := f i) (q := k / 8) (r := k % 8) (m := svp f i) hr (hf i) (by rw [hv, hkn, hk])
  have hx : x = o.getD (k / 8) 0 + f i * 2 ^ (8 * (k % 8)) := by
    show o.getD (k / 8) 0 ||| _ = _
    rw [eg]; exact hor
  constructor
  · have h1 : o.getD (k / 8) 0 < 2 ^ 64 := ho.getD (by decide) (k / 8)
    have h2 : f i * 2 ^ (8 * (k % 8)) < 2 ^ 64 := shl_lt hr (hf i)
    have := Nat.or_lt_two_pow h1 h2
    exact this
  · have e := vl_set (B := W) (by decide) x hq
    rw [hx, Nat.mul_add] at e
    rw [hx]
    have e2 : W ^ (k / 8) * (f i * 2 ^ (8 * (k % 8))) = f i * 256 ^ k := by
      rw [← pow256_2, Nat.mul_left_comm, ← pow256, hk]
    rw [show n - (i + 1) = k from by omega, svp, Nat.add_mul, Nat.mul_assoc, show 256 * 256 ^ k = 256 ^ (k + 1) from by rw [Nat.pow_succ, Nat.mul_comm], ← hkn, ← hv, ← e2]
    omega
end Go.Proofs.YtggojahlhpijeaaN
