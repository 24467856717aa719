/- The functions of math/bits. -/
import Derived.Test.YtggojahlhpijeaaT
import Derived.Laws.Externs
import Derived.Shelf.Spec.BitsCarry
import Derived.Lib.Mul64
namespace Go.Proofs.YtggojahlhpijeaaF
open Go Go.Proofs Go.Proofs.YtggojahlhpijeaaA Go.Proofs.YtggojahlhpijeaaN Go.Proofs.YtggojahlhpijeaaT
set_option maxRecDepth 10000
set_option maxHeartbeats 1000000
theorem relL3 {w : World} {F : Nat → Prop} {φ : Nat → Nat × Nat} {k1 k2 k3 : IntKind} {a b c : Int} {us : List Value} (h : RelL w F φ 0 [.i k1 a, .i k2 b, .i k3 c] us) : us = [.int k1 a, .int k2 b, .int k3 c] := by
  obtain ⟨hl, h⟩ := h
  match us, hl, h with
  | [x, y, z], _, h =>
    have h1 := h 0 _ _ rfl rfl
    have h2 := h 1 _ _ rfl rfl
    have h3 := h 2 _ _ rfl rfl
    cases h1; cases h2; cases h3; rfl
theorem rel_pair {w : World} {F : Nat → Prop} {φ : Nat → Nat × Nat} {k1 k2 : IntKind} {a b : Int} : Rel w F φ 0 (.tup [.i k1 a, .i k2 b]) (.tuple #[.int k1 a, .int k2 b]) := by
  refine .tup [.int k1 a, .int k2 b] rfl (fun j c u h1 h2 => ?_)
  match j with
  | 0 => cases h1; cases h2; constructor
  | 1 => cases h1; cases h2; constructor
  | j + 2 => simp at h1
theorem add64_good (x y c : Nat) (hx : x < 18446744073709551616) (hy : y < 18446744073709551616) (hc : c ≤ 1) : Good1 Try.prog 81 [.i .u64 x, .i .u64 y, .i .u64 c] (.tup [.i .u64 ((x + y + c) % 18446744073709551616 : Nat), .i .u64 ((x + y + c) / 18446744073709551616 : Nat)]) := by
  intro w F φ us hF h
  rw [relL3 h, run_callFunc_extern Try.func81 (by kernel_rfl) (by kernel_rfl) (by kernel_rfl) (e := add64Entry) (by kernel_rfl), run_add64 x y c (by omega) (by omega) (by omega) (by omega)]
  simp only [Result.andThen]
  show Go.RowKit.Below _ _ _ ∧ Rel _ _ _ _ _ _
  have e : (Value.tuple #[.int .u64 (((x : Int) + (y : Int) + (c : Int)) % 18446744073709551616), .int .u64 (((x : Int) + (y : Int) + (c : Int)) / 18446744073709551616)]) = .tuple #[.int .u64 ((x + y + c) % 18446744073709551616 : Nat), .int .u64 ((x + y + c) / 18446744073709551616 : Nat)] := by
    congr 4
  rw [e]
  exact ⟨Go.RowKit.Below.refl _ _, rel_pair⟩
theorem sub64_good (x y c : Nat) (hc : c ≤ 1) : Good1 Try.prog 84 [.i .u64 x, .i .u64 y, .i .u64 c] (.tup [.i .u64 ((x + 18446744073709551616 - y - c) % 18446744073709551616 : Nat), .i .u64 ((if x < y + c then 1 else 0 : Nat) : Int)]) := by
  intro w F φ us hF h
  rw [relL3 h, run_callFunc_extern Try.func84 (by kernel_rfl) (by kernel_rfl) (by kernel_rfl) (e := sub64Entry) (by kernel_rfl), run_sub64 x y c hc]
  simp only [Result.andThen]
  show Go.RowKit.Below _ _ _ ∧ Rel _ _ _ _ _ _
  exact ⟨Go.RowKit.Below.refl _ _, rel_pair⟩
theorem mul64_good (x y : Nat) (hx : x < 18446744073709551616) (hy : y < 18446744073709551616) : Good1 Try.prog 82 [.i .u64 x, .i .u64 y] (.tup [.i .u64 ((x * y) / 18446744073709551616 : Nat), .i .u64 ((x * y) % 18446744073709551616 : Nat)]) := by
  obtain ⟨h1, h2, h3, h4⟩ := Go.Lib.mul64_hi x y hx hy
  refine good1_of (io := io) mix Try.func82 rfl (by decide +kernel) (by kernel_rfl) ?_; simp only [Try.f82]
  simp -implicitDefEqProofs (disch := omega) only [go_sem]
  have h5 : x * y / 18446744073709551616 < 18446744073709551616 := Nat.div_lt_of_lt_mul (Nat.mul_lt_mul'' hx hy)
  congr 4
  omega
theorem byte_tab {s : ByteArray} {n : Nat} (h : ((List.range 256).all fun n => byteAt s n == blF 8 n) = true) (hn : n < 256) : byteAt s n = bl n := by
  rw [← blF_eq 8 n (by omega)]
  have := List.all_eq_true.1 h n (by simpa using hn)
  simpa using this
theorem wrapbl {n : Nat} (h : n < 256) : IntKind.i64.wrap (bl n : Int) = (bl n : Int) := by
  have := bl_le (k := 8) (n := n) (by omega)
  exact wrap64 (by omega) (by omega)
theorem wrapbl2 {n : Nat} {c : Int} (h0 : 0 ≤ c) (h1 : c ≤ 100) (h : n < 256) : IntKind.i64.wrap (c + (bl n : Int)) = c + (bl n : Int) := by
  have := bl_le (k := 8) (n := n) (by omega)
  exact wrap64 (by omega) (by omega)
theorem len64_good (x : Nat) (hx : x < 18446744073709551616) : Good1 Try.prog 103 [.i .u64 x] (.i .i64 (bl x : Nat)) := by
  refine good1_of (io := io) mix Try.func103 rfl (by decide +kernel) (by kernel_rfl) ?_; simp only [Try.f103]
  simp -implicitDefEqProofs (disch := omega) only [go_sem]
  refine cond2_in (fun h1 => ?_) (fun h1 => ?_) <;> simp -implicitDefEqProofs (disch := omega) only [go_sem] <;> refine cond2_in (fun h2 => ?_) (fun h2 => ?_) <;> simp -implicitDefEqProofs (disch := omega) only [go_sem] <;> refine cond2_in (fun h3 => ?_) (fun h3 => ?_) <;> simp -implicitDefEqProofs (disch := omega) only [go_sem]
  all_goals simp only [decide_eq_true_eq, decide_eq_false_iff_not, Nat.not_le] at h1 h2 h3
  all_goals rw [byteO_some (by refine Nat.lt_of_lt_of_eq (m := 256) (by omega) (by kernel_rfl))]
  all_goals simp -implicitDefEqProofs (disch := omega) only [go_sem]
  all_goals rw [byte_tab (by decide +kernel) (by omega), Nat.mod_eq_of_lt (by omega)]
  all_goals refine congrArg (AV.i _) ?_
  all_goals try rw [bl_div (n := x) 32 h1, show (2 : Nat) ^ 32 = 4294967296 from rfl]
  all_goals try rw [bl_div 16 h2, show (2 : Nat) ^ 16 = 65536 from rfl]
  all_goals try rw [bl_div 8 h3, show (2 : Nat) ^ 8 = 256 from rfl]
  all_goals rw [wrapbl (by omega), wrapbl2 (by omega) (by omega) (by omega)]
  all_goals omega
theorem lz_good (x : Nat) (hx : x < 18446744073709551616) : Good1 Try.prog 98 [.i .u64 x] (.i .i64 (64 - bl x : Nat)) := by
  have hb := bl_le (k := 64) hx
  have := len64_good x hx
  refine good1_of (io := io) mix Try.func98 rfl (by decide +kernel) (by kernel_rfl) ?_; simp only [Try.f98]
  simp -implicitDefEqProofs (disch := omega) only [go_sem]
  refine call1_in (len64_good x hx) ?_
  simp -implicitDefEqProofs (disch := omega) only [go_sem]
end Go.Proofs.YtggojahlhpijeaaF
