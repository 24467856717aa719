/- Great numbers: what both texts of the program do. -/
import Derived.Test.YtggojahlhpijeaaF3
import Derived.Test.YtggojahlhpijeaaN4
namespace Go.Proofs.YtggojahlhpijeaaF
open Go Go.Proofs Go.Proofs.YtggojahlhpijeaaA Go.Proofs.YtggojahlhpijeaaN Go.Proofs.YtggojahlhpijeaaT
set_option maxRecDepth 10000
set_option maxHeartbeats 1000000
/-- Whether a text is a great number. -/
def gok (s : ByteArray) : Bool := decide (s.size ≤ 160) && (decide (s.size = 0) || !decide (byteAt s 0 = 0))
theorem ba_empty {s : ByteArray} : s = ⟨#[]⟩ ↔ s.size = 0 := by
  constructor
  · intro h; subst h; rfl
  · intro h
    cases s with
    | mk d => simp [ByteArray.size] at h; subst h; rfl

theorem gok_impl (s : ByteArray) : Good1 Try.prog 79 [.s s] (.b (gok s)) := by
  refine good1_of (io := io) mix Try.func79 rfl (by decide +kernel) (by kernel_rfl) ?_; simp only [Try.f79]
  by_cases h1 : s.size ≤ 160
  · by_cases h2 : s.size = 0
    · simp -implicitDefEqProofs (disch := omega) only [go_sem, ba_empty]
      simp [gok, h2]
    · simp -implicitDefEqProofs (disch := omega) only [go_sem, ba_empty]
      simp [gok, h1, h2]
  · simp -implicitDefEqProofs (disch := omega) only [go_sem, ba_empty]
    simp [gok, h1]

theorem gok_spec (s : ByteArray) : Good1 Try.prog 43 [.s s] (.b (gok s)) := by
  refine good1_of (io := io) mix Try.func43 rfl (by decide +kernel) (by kernel_rfl) ?_; simp only [Try.f43]
  by_cases h1 : s.size ≤ 160
  · by_cases h2 : s.size = 0
    · simp -implicitDefEqProofs (disch := omega) only [go_sem, ba_empty]
      simp [gok, h2]
    · simp -implicitDefEqProofs (disch := omega) only [go_sem, ba_empty]
      simp [gok, h1, h2]
  · simp -implicitDefEqProofs (disch := omega) only [go_sem, ba_empty]
    simp [gok, h1]
theorem areGreat_good (l : List ByteArray) (hl : l.length < 1000000) : Good1 Try.prog 48 [.sl false l.length (l.map .s)] (.b (l.all gok)) := by
  refine good1_of (io := io) mix Try.func48 rfl (by decide +kernel) (by kernel_rfl) ?_; simp only [Try.f48]
  simp -implicitDefEqProofs (disch := omega) only [go_sem]
  refine loop_in (fun m σ => ∃ i, m = l.length - i ∧ i ≤ l.length ∧ (l.take i).all gok = true ∧ ∃ g : Nat → AV, σ = ⟨[.sl false l.length (l.map .s), g 1, g 2, g 3, g 4, .sl false l.length (l.map .s), .i .i64 (l.length : Nat), .i .i64 (i : Nat), g 8, g 9, g 10, g 11, g 12, g 13, g 14], [], fun _ => false⟩) l.length ?_ ?_
  · exact ⟨0, by omega, by omega, by simp, inv_intro rfl⟩
  · rintro m σ ⟨i, rfl, hi, ha, g, rfl⟩
    by_cases hlt : i < l.length
    · have hd : ((l.map AV.s).drop i).head? = some (.s l[i]) := by simp [List.head?_drop, hlt]
      simp -implicitDefEqProofs (disch := omega) only [go_sem, hd]
      refine call1_in (gok_impl _) ?_
      simp -implicitDefEqProofs (disch := omega) only [go_sem]
      have e := List.take_succ_eq_append_getElem hlt
      refine cond2_in (fun hc => ?_) (fun hc => ?_) <;> simp only [Bool.not_eq_true', Bool.not_eq_false'] at hc
      · simp -implicitDefEqProofs (disch := omega) only [go_sem]
        have : l.all gok = false := by
          rw [List.all_eq_false]; exact ⟨l[i], List.getElem_mem hlt, by simp [hc]⟩
        rw [this]
      · simp -implicitDefEqProofs (disch := omega) only [go_sem]
        exact ⟨l.length - (i + 1), by omega, i + 1, rfl, by omega, by rw [e, List.all_append, ha]; simp [hc], inv_intro rfl⟩
    · obtain rfl : i = l.length := by omega
      simp -implicitDefEqProofs (disch := omega) only [go_sem]
      rw [List.take_length] at ha
      rw [ha]
/-- A text that is a great number, else the empty one. -/
def bnd (s : ByteArray) : ByteArray := if gok s then s else ⟨#[]⟩
theorem great_good (n : Nat) (hn : L n < 100000) : Good1 Try.prog 49 [natV n] (.s (bnd (sb n))) := by
  refine good1_of (io := io) mix Try.func49 rfl (by decide +kernel) (by kernel_rfl) ?_; simp only [Try.f49]
  simp -implicitDefEqProofs (disch := omega) only [go_sem]
  refine call1_in (text_good n hn) ?_
  simp -implicitDefEqProofs (disch := omega) only [go_sem]
  refine call1_in (gok_impl _) ?_
  simp -implicitDefEqProofs (disch := omega) only [go_sem]
  refine cond2_in (fun hc => ?_) (fun hc => ?_)
  · simp -implicitDefEqProofs (disch := omega) only [go_sem]
    simp [bnd, hc]
  · simp -implicitDefEqProofs (disch := omega) only [go_sem]
    simp [bnd, hc]
theorem bound_good (s : ByteArray) : Good1 Try.prog 44 [.s s] (.s (bnd s)) := by
  refine good1_of (io := io) mix Try.func44 rfl (by decide +kernel) (by kernel_rfl) ?_; simp only [Try.f44]
  simp -implicitDefEqProofs (disch := omega) only [go_sem]
  refine call1_in (gok_spec _) ?_
  simp -implicitDefEqProofs (disch := omega) only [go_sem]
  refine cond2_in (fun hc => ?_) (fun hc => ?_) <;> simp only [Bool.not_eq_true', Bool.not_eq_false'] at hc
  · simp -implicitDefEqProofs (disch := omega) only [go_sem]
    simp [bnd, hc]
  · simp -implicitDefEqProofs (disch := omega) only [go_sem]
    simp [bnd, hc]
end Go.Proofs.YtggojahlhpijeaaF
