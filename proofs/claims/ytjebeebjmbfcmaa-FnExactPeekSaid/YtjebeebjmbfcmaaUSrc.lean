/- The pure laws of ToCome, Peek and SourceOk: both sides go over the pieces in order. No condition but that lengths are ints. -/
import Derived.Test.YtjebeebjmbfcmaaPS
import Derived.Test.YtjebeebjmbfcmaaKH1
import Derived.Test.YtjebeebjmbfcmaaKToCome
import Derived.Test.YtjebeebjmbfcmaaKPeek
import Derived.Test.YtjebeebjmbfcmaaKSourceOk
namespace Go.Proofs.Ytjebeebjmbfcmaa.Pure
open Go.RowKit Go.Proofs.Ytjebeebjmbfcmaa.K Go.Proofs.YtjebeebjmbfcmaaW.PrintWords Go.Proofs.YtjebeebjmbfcmaaW.PrintLast Go.Proofs.YtjebeebjmbfcmaaW.PrintMore
set_option linter.unusedVariables false
/-- What goods a source's argument brings. -/
abbrev GoodS (l : List ByteArray) : Prop := (∀ x, x ∈ l → x.size ≤ maxLen) ∧ l.length ≤ maxLen

theorem spec_toCome_loop (xs : List ByteArray) (a b c : Int) (hn : xs.length ≤ maxLen) (ht : total xs ≤ 1048576) (d : Nat) : ∀ (j : Nat) (n : Nat), j ≤ xs.length → xs.length - j = d → n + total (xs.drop j) = total xs → Ev (fun k => spec_ToCome.l0 k (n : Int) (j : Int) xs a b c) (total xs : Int) := by
  induction d with
  | zero =>
    intro j n hj hd he
    refine Ev.step (by intro k; rw [spec_ToCome.l0]) ?_
    simp only [if_neg (show ¬ ((j : Int) < (xs.length : Int)) by omega)]
    rw [List.drop_of_length_le (by omega), total] at he
    rw [← he]
    exact Ev.now _
  | succ d ih =>
    intro j n hj hd he
    have hjl : j < xs.length := by omega
    rw [total_drop xs j hjl] at he
    refine Ev.step (by intro k; rw [spec_ToCome.l0]) ?_
    have hw : wrap64 ((n : Int) + ((rdOf ByteArray.empty xs (j : Int)).size : Int)) = ((n + xs[j].size : Nat) : Int) := by
      rw [rdS xs j hjl]; unfold wrap64; omega
    simp only [if_pos (show (j : Int) < (xs.length : Int) by omega), if_pos (show (0 : Int) ≤ j by omega), hw, wsucc j _ hjl hn]
    exact ih (j + 1) _ (by omega) (by omega) (by omega)
theorem spec_toCome (xs : List ByteArray) (a b c : Int) (hn : xs.length ≤ maxLen) (ht : total xs ≤ 1048576) : Ev (fun k => spec_ToCome.f k xs a b c) (total xs : Int) :=
  spec_toCome_loop xs a b c hn ht xs.length 0 0 (by omega) (by omega) (by simp)
theorem impl_toCome_loop (xs : List ByteArray) (a b c : Int) (hn : xs.length ≤ maxLen) (ht : total xs ≤ 1048576) (d : Nat) : ∀ (j : Nat) (n : Nat), j ≤ xs.length → xs.length - j = d → n + total (xs.drop j) = total xs → Ev (fun k => impl_Source_toCome.l0 k (n : Int) xs (xs.length : Int) (j : Int) xs a b c) ((total xs : Int), a, b, c) := by
  induction d with
  | zero =>
    intro j n hj hd he
    refine Ev.step (by intro k; rw [impl_Source_toCome.l0]) ?_
    simp only [if_neg (show ¬ ((j : Int) < (xs.length : Int)) by omega)]
    rw [List.drop_of_length_le (by omega), total] at he
    rw [← he]
    exact Ev.now _
  | succ d ih =>
    intro j n hj hd he
    have hjl : j < xs.length := by omega
    rw [total_drop xs j hjl] at he
    refine Ev.step (by intro k; rw [impl_Source_toCome.l0]) ?_
    have hw : wrap64 ((n : Int) + ((rdOf ByteArray.empty xs (j : Int)).size : Int)) = ((n + xs[j].size : Nat) : Int) := by
      rw [rdS xs j hjl]; unfold wrap64; omega
    simp only [if_pos (show (j : Int) < (xs.length : Int) by omega), if_pos (show (0 : Int) ≤ j by omega), hw, wsucc j _ hjl hn]
    exact ih (j + 1) _ (by omega) (by omega) (by omega)
theorem impl_toCome0 (xs : List ByteArray) (a b c : Int) (hn : xs.length ≤ maxLen) (ht : total xs ≤ 1048576) : Ev (fun k => impl_Source_toCome.f k xs a b c) ((total xs : Int), a, b, c) :=
  impl_toCome_loop xs a b c hn ht xs.length 0 0 (by omega) (by omega) (by simp)
theorem impl_toCome (xs : List ByteArray) (a b c : Int) (hn : xs.length ≤ maxLen) (ht : total xs ≤ 1048576) : Ev (fun k => impl_ToCome.f k xs a b c) (total xs : Int) :=
  Ev.bind (impl_toCome0 xs a b c hn ht) (Ev.now _)
theorem FnExactToCome (l : List ByteArray) (a b c : Int) (h : GoodS l) (_ : (Lit.int .i64 a).wf = true) (_ : (Lit.int .i64 b).wf = true) (_ : (Lit.int .i64 c).wf = true) : ∃ k, laws_FnExactToCome.f k l a b c = some true := by
  refine Ev.rounds (g := fun k => laws_FnExactToCome.f k l a b c) ?_
  unfold laws_FnExactToCome.f
  obtain ⟨r, hr, hr2⟩ := szSource l a b c h.1 h.2 1048576 (by omega) (by omega)
  refine Ev.bind hr ?_
  by_cases h0 : r < 0
  · simp only [if_pos h0]; exact Ev.now _
  simp only [if_neg h0]
  have e := hr2 h0
  have hl : l.length ≤ 1048576 := by omega
  have ht : total l ≤ 1048576 := by omega
  refine Ev.bind (toSource l a b c hl) (Ev.bind (spec_toCome l a b c h.2 ht) (Ev.bind (toSource l a b c hl) (Ev.bind (impl_toCome l a b c h.2 ht) ?_)))
  simp only [if_true]
  refine Ev.bind (toSource l a b c hl) (Ev.bind (eqSource l a b c h.2) ?_)
  simp only [if_true]
  exact Ev.now _

/-- The first byte of the first piece that has one. -/
def firstB : List ByteArray → Int
  | [] => -1
  | x :: xs => if x.toList = ([] : List UInt8) then firstB xs else wrap64 (bt x 0)
theorem size_pos (x : ByteArray) (h : ¬ x.toList = ([] : List UInt8)) : 0 < x.size := by
  rcases Nat.eq_zero_or_pos x.size with h0 | h0
  · exfalso
    apply h
    have : x = ByteArray.empty := ByteArray.size_eq_zero_iff.mp h0
    rw [this]
    simp
  · exact h0
theorem firstB_drop (xs : List ByteArray) (j : Nat) (h : j < xs.length) : firstB (xs.drop j) = if xs[j].toList = ([] : List UInt8) then firstB (xs.drop (j + 1)) else wrap64 (bt xs[j] 0) := by
  rw [List.drop_eq_getElem_cons h, firstB]
theorem spec_peek_loop (xs : List ByteArray) (a b c : Int) (hn : xs.length ≤ maxLen) (d : Nat) : ∀ (j : Nat), j ≤ xs.length → xs.length - j = d → Ev (fun k => spec_Peek.l0 k (j : Int) xs a b c) (firstB (xs.drop j)) := by
  induction d with
  | zero =>
    intro j hj hd
    refine Ev.step (by intro k; rw [spec_Peek.l0]) ?_
    simp only [if_neg (show ¬ ((j : Int) < (xs.length : Int)) by omega)]
    rw [List.drop_of_length_le (by omega), firstB]
    exact Ev.now _
  | succ d ih =>
    intro j hj hd
    have hjl : j < xs.length := by omega
    rw [firstB_drop xs j hjl]
    refine Ev.step (by intro k; rw [spec_Peek.l0]) ?_
    simp only [if_pos (show (j : Int) < (xs.length : Int) by omega), if_pos (show (0 : Int) ≤ j by omega), wsucc j _ hjl hn, rdS xs j hjl]
    by_cases he : xs[j].toList = ([] : List UInt8)
    · simp only [if_pos he]
      exact ih (j + 1) (by omega) (by omega)
    · have := size_pos _ he
      simp only [if_neg he, if_pos (show (0 : Int) < (xs[j].size : Int) by omega)]
      exact Ev.now _
theorem impl_peek_loop (xs : List ByteArray) (a b : Int) (hn : xs.length ≤ maxLen) (d : Nat) : ∀ (j : Nat), j ≤ xs.length → xs.length - j = d → Ev (fun k => impl_Source_peek.l0 k xs (xs.length : Int) (j : Int) xs a b 0) (firstB (xs.drop j), a, b, 0) := by
  induction d with
  | zero =>
    intro j hj hd
    refine Ev.step (by intro k; rw [impl_Source_peek.l0]) ?_
    simp only [if_neg (show ¬ ((j : Int) < (xs.length : Int)) by omega)]
    rw [List.drop_of_length_le (by omega), firstB]
    exact Ev.now _
  | succ d ih =>
    intro j hj hd
    have hjl : j < xs.length := by omega
    rw [firstB_drop xs j hjl]
    refine Ev.step (by intro k; rw [impl_Source_peek.l0]) ?_
    simp only [if_pos (show (j : Int) < (xs.length : Int) by omega), if_pos (show (0 : Int) ≤ j by omega), wsucc j _ hjl hn, rdS xs j hjl, if_true]
    by_cases he : xs[j].toList = ([] : List UInt8)
    · simp only [if_pos he]
      exact ih (j + 1) (by omega) (by omega)
    · have := size_pos _ he
      simp only [if_neg he, if_pos (show (0 : Int) < (xs[j].size : Int) by omega)]
      exact Ev.now _
theorem impl_peek_coded (xs : List ByteArray) (a b c : Int) (hc : ¬ c = 0) (hn : xs.length ≤ maxLen) (d : Nat) : ∀ (j : Nat), j ≤ xs.length → xs.length - j = d → Ev (fun k => impl_Source_peek.l0 k xs (xs.length : Int) (j : Int) xs a b c) (-1, a, b, c) := by
  induction d with
  | zero =>
    intro j hj hd
    refine Ev.step (by intro k; rw [impl_Source_peek.l0]) ?_
    simp only [if_neg (show ¬ ((j : Int) < (xs.length : Int)) by omega)]
    exact Ev.now _
  | succ d ih =>
    intro j hj hd
    have hjl : j < xs.length := by omega
    refine Ev.step (by intro k; rw [impl_Source_peek.l0]) ?_
    simp only [if_pos (show (j : Int) < (xs.length : Int) by omega), if_pos (show (0 : Int) ≤ j by omega), wsucc j _ hjl hn, if_neg hc, ite_self]
    exact ih (j + 1) (by omega) (by omega)
/-- What Peek answers. -/
def peekV (xs : List ByteArray) (c : Int) : Int := if c = 0 then firstB xs else -1
theorem spec_peek (xs : List ByteArray) (a b c : Int) (hn : xs.length ≤ maxLen) : Ev (fun k => spec_Peek.f k xs a b c) (peekV xs c) := by
  unfold spec_Peek.f peekV
  by_cases hc : c = 0
  · simp only [if_pos hc]; exact spec_peek_loop xs a b c hn xs.length 0 (by omega) (by omega)
  · simp only [if_neg hc]; exact Ev.now _
theorem impl_peek (xs : List ByteArray) (a b c : Int) (hn : xs.length ≤ maxLen) : Ev (fun k => impl_Peek.f k xs a b c) (peekV xs c) := by
  unfold impl_Peek.f impl_Source_peek.f peekV
  by_cases hc : c = 0
  · subst hc
    simp only [if_true]
    exact Ev.bind (impl_peek_loop xs a b hn xs.length 0 (by omega) (by omega)) (Ev.now _)
  · simp only [if_neg hc]
    exact Ev.bind (impl_peek_coded xs a b c hc hn xs.length 0 (by omega) (by omega)) (Ev.now _)
theorem FnExactPeek (l : List ByteArray) (a b c : Int) (h : GoodS l) (_ : (Lit.int .i64 a).wf = true) (_ : (Lit.int .i64 b).wf = true) (_ : (Lit.int .i64 c).wf = true) : ∃ k, laws_FnExactPeek.f k l a b c = some true := by
  refine Ev.rounds (g := fun k => laws_FnExactPeek.f k l a b c) ?_
  unfold laws_FnExactPeek.f
  obtain ⟨r, hr, hr2⟩ := szSource l a b c h.1 h.2 1048576 (by omega) (by omega)
  refine Ev.bind hr ?_
  by_cases h0 : r < 0
  · simp only [if_pos h0]; exact Ev.now _
  simp only [if_neg h0]
  have e := hr2 h0
  have hl : l.length ≤ 1048576 := by omega
  refine Ev.bind (toSource l a b c hl) (Ev.bind (spec_peek l a b c h.2) (Ev.bind (toSource l a b c hl) (Ev.bind (impl_peek l a b c h.2) ?_)))
  simp only [if_true]
  refine Ev.bind (toSource l a b c hl) (Ev.bind (eqSource l a b c h.2) ?_)
  simp only [if_true]
  exact Ev.now _

/-- Is some piece empty? -/
def hasE : List ByteArray → Bool
  | [] => false
  | x :: xs => decide (x.toList = ([] : List UInt8)) || hasE xs
theorem hasE_drop (xs : List ByteArray) (j : Nat) (h : j < xs.length) : hasE (xs.drop j) = (decide (xs[j].toList = ([] : List UInt8)) || hasE (xs.drop (j + 1))) := by
  rw [List.drop_eq_getElem_cons h, hasE]
def restOk (n : Nat) (a b c : Int) : Bool := decide ((n : Int) ≤ 400) && decide (a ≥ 0) && decide (b ≥ 0) && decide (c ≥ 0) && decide (c ≤ 40)
theorem spec_ok_loop (xs : List ByteArray) (a b c : Int) (hn : xs.length ≤ maxLen) (d : Nat) : ∀ (j : Nat), j ≤ xs.length → xs.length - j = d → Ev (fun k => spec_SourceOk.l0 k (j : Int) xs a b c) (!hasE (xs.drop j) && restOk xs.length a b c) := by
  induction d with
  | zero =>
    intro j hj hd
    refine Ev.step (by intro k; rw [spec_SourceOk.l0]) ?_
    simp only [if_neg (show ¬ ((j : Int) < (xs.length : Int)) by omega)]
    rw [List.drop_of_length_le (by omega)]
    unfold spec_l01In.f
    by_cases h1 : (xs.length : Int) ≤ 400 <;> by_cases h2 : a ≥ 0 <;> by_cases h3 : b ≥ 0 <;> by_cases h4 : c ≥ 0 <;> simp only [h1, h2, h3, h4, if_true, if_false, Option.bind_some, hasE, restOk, decide_true, decide_false, Bool.not_false, Bool.true_and, Bool.and_true, Bool.false_and, Bool.and_false] <;> exact Ev.now _
  | succ d ih =>
    intro j hj hd
    have hjl : j < xs.length := by omega
    rw [hasE_drop xs j hjl]
    refine Ev.step (by intro k; rw [spec_SourceOk.l0]) ?_
    simp only [if_pos (show (j : Int) < (xs.length : Int) by omega), if_pos (show (0 : Int) ≤ j by omega), wsucc j _ hjl hn, rdS xs j hjl]
    by_cases he : xs[j].toList = ([] : List UInt8)
    · simp only [if_pos he, decide_eq_true he, Bool.true_or, Bool.not_true, Bool.false_and]
      exact Ev.now _
    · simp only [if_neg he, decide_eq_false he, Bool.false_or]
      exact ih (j + 1) (by omega) (by omega)
theorem index_loop (xs : List ByteArray) (hn : xs.length ≤ maxLen) (d : Nat) : ∀ (j : Nat), j ≤ xs.length → xs.length - j = d → ∃ r, Ev (fun k => slices_Index_string_string.l0 k xs ⟨#[]⟩ (xs.length : Int) (j : Int)) r ∧ decide (r ≥ 0) = hasE (xs.drop j) := by
  induction d with
  | zero =>
    intro j hj hd
    refine ⟨-1, Ev.step (by intro k; rw [slices_Index_string_string.l0]) ?_, ?_⟩
    · simp only [if_neg (show ¬ ((j : Int) < (xs.length : Int)) by omega)]; exact Ev.now _
    · rw [List.drop_of_length_le (by omega)]; rfl
  | succ d ih =>
    intro j hj hd
    have hjl : j < xs.length := by omega
    have hemp : (⟨#[]⟩ : ByteArray).toList = ([] : List UInt8) := by
      show ByteArray.empty.toList = []
      simp
    rw [hasE_drop xs j hjl]
    by_cases he : xs[j].toList = ([] : List UInt8)
    · refine ⟨(j : Int), Ev.step (by intro k; rw [slices_Index_string_string.l0]) ?_, ?_⟩
      · simp only [if_pos (show (j : Int) < (xs.length : Int) by omega), if_pos (show (0 : Int) ≤ j by omega), rdS xs j hjl, hemp, he, if_true]
        exact Ev.now _
      · simp [he]
    · obtain ⟨r, hr, hr2⟩ := ih (j + 1) (by omega) (by omega)
      refine ⟨r, Ev.step (by intro k; rw [slices_Index_string_string.l0]) ?_, ?_⟩
      · simp only [if_pos (show (j : Int) < (xs.length : Int) by omega), if_pos (show (0 : Int) ≤ j by omega), rdS xs j hjl, hemp, if_neg (show ¬ ([] : List UInt8) = xs[j].toList from fun e => he e.symm), wsucc j _ hjl hn]
        exact hr
      · rw [hr2, decide_eq_false he, Bool.false_or]
theorem spec_ok (xs : List ByteArray) (a b c : Int) (hn : xs.length ≤ maxLen) : Ev (fun k => spec_SourceOk.f k xs a b c) (!hasE xs && restOk xs.length a b c) :=
  spec_ok_loop xs a b c hn xs.length 0 (by omega) (by omega)
theorem impl_ok (xs : List ByteArray) (a b c : Int) (hn : xs.length ≤ maxLen) : Ev (fun k => impl_SourceOk.f k xs a b c) (!hasE xs && restOk xs.length a b c) := by
  unfold impl_SourceOk.f
  by_cases h1 : (xs.length : Int) ≤ 400
  · simp only [if_pos h1]
    obtain ⟨r, hr, hr2⟩ := index_loop xs hn xs.length 0 (by omega) (by omega)
    refine Ev.bind (a := hasE xs) ?_ ?_
    · unfold slices_Contains_string_string.f slices_Index_string_string.f
      refine Ev.bind hr ?_
      rw [hr2]
      exact Ev.now _
    · unfold impl_within.f
      cases hasE xs <;> by_cases h2 : a ≥ 0 <;> by_cases h3 : b ≥ 0 <;> by_cases h4 : 0 ≤ c <;> simp [h1, h2, h3, h4, restOk] <;> exact Ev.now _
  · simp only [if_neg h1, restOk, decide_eq_false h1, Bool.false_and, Bool.and_false]
    exact Ev.now _
theorem FnExactSourceOk (l : List ByteArray) (a b c : Int) (h : GoodS l) (_ : (Lit.int .i64 a).wf = true) (_ : (Lit.int .i64 b).wf = true) (_ : (Lit.int .i64 c).wf = true) : ∃ k, laws_FnExactSourceOk.f k l a b c = some true := by
  refine Ev.rounds (g := fun k => laws_FnExactSourceOk.f k l a b c) ?_
  unfold laws_FnExactSourceOk.f
  obtain ⟨r, hr, hr2⟩ := szSource l a b c h.1 h.2 1048576 (by omega) (by omega)
  refine Ev.bind hr ?_
  by_cases h0 : r < 0
  · simp only [if_pos h0]; exact Ev.now _
  simp only [if_neg h0]
  have e := hr2 h0
  have hl : l.length ≤ 1048576 := by omega
  refine Ev.bind (toSource l a b c hl) (Ev.bind (spec_ok l a b c h.2) (Ev.bind (toSource l a b c hl) (Ev.bind (impl_ok l a b c h.2) ?_)))
  simp only [bne_self_eq_false, Bool.false_eq_true, if_false]
  refine Ev.bind (toSource l a b c hl) (Ev.bind (eqSource l a b c h.2) ?_)
  simp only [if_true]
  exact Ev.now _
end Go.Proofs.Ytjebeebjmbfcmaa.Pure
