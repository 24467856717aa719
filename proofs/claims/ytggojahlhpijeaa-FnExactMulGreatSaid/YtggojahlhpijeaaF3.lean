/- Texts and numbers. -/
import Derived.Test.YtggojahlhpijeaaF2
import Derived.Test.YtggojahlhpijeaaN3
namespace Go.Proofs.YtggojahlhpijeaaF
open Go Go.Proofs Go.Proofs.YtggojahlhpijeaaA Go.Proofs.YtggojahlhpijeaaN Go.Proofs.YtggojahlhpijeaaT
set_option maxRecDepth 10000
set_option maxHeartbeats 1000000
/-- The value of a text. -/
def sv (s : ByteArray) : Nat := svp (byteAt s) s.size
theorem natOf_good (s : ByteArray) (hs : s.size < 10000000) : Good1 Try.prog 50 [.s s] (natV (sv s)) := by
  refine good1_of (io := io) mix Try.func50 rfl (by decide +kernel) (by kernel_rfl) ?_; simp only [Try.f50]
  simp -implicitDefEqProofs (disch := omega) only [go_sem]
  refine loop_in (fun m σ => ∃ i o, m = s.size - i ∧ i ≤ s.size ∧ Dig W o ∧ o.length = (s.size + 7) / 8 ∧ vl W o = svp (byteAt s) i * 256 ^ (s.size - i) ∧
      ∃ g : Nat → AV, σ = ⟨[.s s, g 1, g 2, .ref 0 1 0 ((s.size + 7) / 8), g 4, g 5, g 6, g 7, g 8, g 9, g 10, g 11, .i .i64 (s.size : Nat), .i .i64 (i : Nat), g 14, g 15, g 16, g 17, g 18, g 19, g 20, g 21, g 22, g 23, g 24, g 25, g 26, g 27, g 28, g 29, g 30, g 31, g 32, g 33, g 34, g 35, g 36, g 37, g 38], [some (raws .u64 o)], fun _ => false⟩) s.size ?_ ?_
  · exact ⟨0, List.replicate ((s.size + 7) / 8) 0, by omega, by omega, dig_replicate (by decide) _, by simp, by simp [vl_replicate, svp], inv_intro rfl⟩
  · rintro m σ ⟨i, o, rfl, hi, hdo, hlo, hv, g, rfl⟩
    by_cases hlt : i < s.size
    · obtain ⟨hx, hv2⟩ := svp_step (f := byteAt s) (fun _ => byteAt_lt) hlt hdo hlo hv
      have hb := byteAt_lt (s := s) (n := i)
      have hsh := shl_lt (r := (s.size - 1 - i) % 8) (Nat.mod_lt _ (by decide)) hb
      have hg := getW_lt hdo (i := (s.size - 1 - i) / 8)
      simp -implicitDefEqProofs (disch := omega) only [go_sem]
      exact ⟨s.size - (i + 1), by omega, i + 1, _, rfl, by omega, dig_set hdo hx _, by simpa using hlo, hv2, inv_intro rfl⟩
    · obtain rfl : i = s.size := by omega
      simp -implicitDefEqProofs (disch := omega) only [go_sem]
      have ht := trim_good o hdo (by omega)
      rw [lstV_eq (by omega)]
      refine call1_in ht ?_
      simp -implicitDefEqProofs (disch := omega) only [go_sem]
      rw [hv, Nat.sub_self, Nat.pow_zero, Nat.mul_one]; rfl
/-- How many bits a number has, by its limbs. -/
theorem bl_L {n : Nat} (h : n ≠ 0) : bl n = 64 * L n - (64 - bl ((dg W n).getD (L n - 1) 0)) ∧ 0 < L n := by
  have hL : L n ≠ 0 := fun e => h (L_zero.1 e)
  have hlast : (dg W n).getD (L n - 1) 0 ≠ 0 := last_dg one_lt_W h
  have e : n / W ^ (L n - 1) = (dg W n).getD (L n - 1) 0 := by
    have := getD_dg one_lt_W n (L n - 1)
    rw [this]
    have h1 := lt_L n
    rw [show L n = L n - 1 + 1 from by omega, Nat.pow_succ] at h1
    rw [Nat.mod_eq_of_lt (Nat.div_lt_of_lt_mul h1)]
  have hge : 2 ^ (64 * (L n - 1)) ≤ n := by
    rw [Nat.pow_mul, ← W_eq]
    exact le_of_length_dg one_lt_W (show L n - 1 < L n by omega)
  rw [bl_div (n := n) _ hge, Nat.pow_mul, ← W_eq, e]
  have := bl_le (k := 64) (n := (dg W n).getD (L n - 1) 0) dgW_lt
  omega
theorem size_good (n : Nat) (hn : L n < 1000000) : Good1 Try.prog 88 [natV n] (.i .i64 (bl n : Nat)) := by
  refine good1_of (io := io) mix Try.func88 rfl (by decide +kernel) (by kernel_rfl) ?_; simp only [Try.f88]
  simp -implicitDefEqProofs (disch := omega) only [go_sem, natV_sl]
  by_cases h : n = 0
  · subst h
    have e : L 0 = 0 := L_zero.2 rfl
    simp -implicitDefEqProofs (disch := omega) only [go_sem, e, bl_zero]
    rfl
  · obtain ⟨h1, h2⟩ := bl_L h
    have hl : (dg W n).length = L n := rfl
    have hlast := lz_good ((dg W n).getD (L n - 1) 0) dgW_lt
    have hb := bl_le (k := 64) (n := (dg W n).getD (L n - 1) 0) dgW_lt
    simp -implicitDefEqProofs (disch := omega) only [go_sem]
    refine call1_in hlast ?_
    simp -implicitDefEqProofs (disch := omega) only [go_sem, h1]
/-- The bytes of a number, the highest first. -/
def sbl (n : Nat) : List Nat := (dg 256 n).reverse
def sb (n : Nat) : ByteArray := ⟨((sbl n).map UInt8.ofNat).toArray⟩
theorem bl_bytes (n : Nat) : (bl n + 7) / 8 = (dg 256 n).length := by
  by_cases h : n = 0
  · subst h; rw [bl_zero, dg_zero]; rfl
  · have h0 := length_dg_zero (B := 256) (by decide) (n := n)
    have h1 := lt_bl n
    have h2 := le_bl h
    have h3 := lt_dg (B := 256) (by decide) n
    have h4 := le_of_length_dg (B := 256) (by decide) (n := n) (k := (dg 256 n).length - 1) (by omega)
    rw [pow256_2] at h3 h4
    have h5 := Nat.pow_lt_pow_iff_right (a := 2) (by decide) |>.1 (Nat.lt_of_le_of_lt h4 h1)
    have h6 := Nat.pow_lt_pow_iff_right (a := 2) (by decide) |>.1 (Nat.lt_of_le_of_lt h2 h3)
    omega
theorem byte_of_limb (n k : Nat) : (dg W n).getD (k / 8) 0 / 2 ^ (8 * (k % 8)) % 256 = n / 256 ^ k % 256 := by
  rw [getD_dg one_lt_W]
  have hk : 8 * (k / 8) + k % 8 = k := Nat.div_add_mod k 8
  have hr : k % 8 < 8 := Nat.mod_lt _ (by decide)
  have e1 : 256 ^ k = W ^ (k / 8) * 256 ^ (k % 8) := by rw [← pow256, hk]
  rw [e1, ← Nat.div_div_eq_div_mul, ← pow256_2]
  generalize n / W ^ (k / 8) = m
  have e2 : W = 256 ^ (k % 8) * 256 ^ (8 - k % 8) := by rw [← Nat.pow_add, show k % 8 + (8 - k % 8) = 8 from by omega]; decide
  rw [e2, Nat.mod_mul_right_div_self]
  have e3 : 256 ^ (8 - k % 8) = 256 * 256 ^ (7 - k % 8) := by rw [show 8 - k % 8 = 7 - k % 8 + 1 from by omega, Nat.pow_succ, Nat.mul_comm]
  rw [e3, Nat.mod_mul_right_mod]
/-- The highest bytes, down to one. -/
def hiB (n k : Nat) : List Nat := ((dg 256 n).drop k).reverse
theorem hiB_step {n k : Nat} (h : 0 < k) (hk : k ≤ (dg 256 n).length) : hiB n (k - 1) = hiB n k ++ [n / 256 ^ (k - 1) % 256] := by
  have e := List.drop_eq_getElem_cons (l := dg 256 n) (i := k - 1) (by omega)
  rw [show k - 1 + 1 = k from by omega, ← getD_lt (by omega), getD_dg (by decide)] at e
  rw [hiB, e, List.reverse_cons, hiB]
theorem hiB_len (n k : Nat) : (hiB n k).length = (dg 256 n).length - k := by simp [hiB]
theorem text_good (n : Nat) (hn : L n < 100000) : Good1 Try.prog 74 [natV n] (.s (sb n)) := by
  have hl : (dg W n).length = L n := rfl
  have hlen : (dg 256 n).length ≤ 8 * L n := by
    refine length_dg_le (by decide) ?_
    rw [Nat.pow_mul, show (256 : Nat) ^ 8 = W from by decide]
    exact lt_L n
  refine good1_of (io := io) mix Try.func74 rfl (by decide +kernel) (by kernel_rfl) ?_; simp only [Try.f74]
  simp -implicitDefEqProofs (disch := omega) only [go_sem]
  refine call1_in (size_good n (by omega)) ?_
  have hb := bl_bytes n
  simp -implicitDefEqProofs (disch := omega) only [go_sem, natV_sl]
  refine loop_in (fun k σ => k ≤ (dg 256 n).length ∧ ∃ v S, Buf .u8 (hiB n k) v S ∧ ∃ g : Nat → AV, σ = ⟨[natV n, g 1, g 2, v, .i .i64 (k : Nat), g 5, g 6, g 7, g 8, g 9, g 10, g 11, g 12, g 13, g 14, g 15, g 16, g 17, g 18, g 19, g 20, g 21, g 22, g 23, g 24, g 25, g 26, g 27, g 28, g 29, g 30], S, fun _ => false⟩) (dg 256 n).length ?_ ?_
  · exact ⟨Nat.le_refl _, _, _, .inl ⟨by simp [hiB], rfl, rfl⟩, inv_intro (by rw [hb]; rfl)⟩
  · rintro k σ ⟨hk, v, S, hB, g, rfl⟩
    by_cases h0 : 0 < k
    · have hby := byte_of_limb n (k - 1)
      have hst := hiB_step h0 hk
      have hkl : (k - 1) / 8 < L n := by omega
      have hs : 8 * ((k - 1) % 8) ≤ 56 := by omega
      rcases hB with ⟨hx, rfl, rfl⟩ | ⟨j, hx, rfl, rfl⟩
      · simp -implicitDefEqProofs (disch := omega) only [go_sem, natV_sl, hby]
        refine ⟨k - 1, by omega, by omega, _, _, .inr ⟨0, ?_, rfl, ?_⟩, inv_intro rfl⟩
        · rw [hst, hx]; rfl
        · rw [hst, hx]; rfl
      · simp -implicitDefEqProofs (disch := omega) only [go_sem, natV_sl, hby]
        have hh := hiB_len n k
        simp -implicitDefEqProofs (disch := omega) only [go_sem]
        refine ⟨k - 1, by omega, by omega, _, _, .inr ⟨j + 1, ?_, rfl, ?_⟩, inv_intro rfl⟩
        · rw [hst, List.length_append, hx]; rfl
        · rw [hst]; rfl
    · obtain rfl : k = 0 := by omega
      have he : hiB n 0 = sbl n := by simp [hiB, sbl]
      rcases hB with ⟨hx, rfl, rfl⟩ | ⟨j, hx, rfl, rfl⟩
      · simp -implicitDefEqProofs (disch := omega) only [go_sem]
        rw [sb, ← he, hx]; rfl
      · simp -implicitDefEqProofs (disch := omega) only [go_sem]
        rw [sb, ← he]
end Go.Proofs.YtggojahlhpijeaaF
