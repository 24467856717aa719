/- Pure laws of the laws' own helpers over sources: the budget, the copies, the comparisons. No condition but that lengths are ints. -/
import Derived.Test.YtjebeebjmbfcmaaKSrc
namespace Go.Proofs.Ytjebeebjmbfcmaa.Pure
open Go.RowKit Go.Proofs.Ytjebeebjmbfcmaa.K Go.Proofs.YtjebeebjmbfcmaaW.PrintWords Go.Proofs.YtjebeebjmbfcmaaW.PrintLast Go.Proofs.YtjebeebjmbfcmaaW.PrintMore
theorem wsucc (j n : Nat) (h : j < n) (hn : n ≤ maxLen) : wrap64 ((j : Int) + 1) = ((j + 1 : Nat) : Int) := by
  unfold maxLen at hn
  unfold wrap64
  omega
theorem rdS (xs : List ByteArray) (j : Nat) (h : j < xs.length) : rdOf ByteArray.empty xs (j : Int) = xs[j] := by
  simp [rdOf, List.getD_eq_getElem?_getD, List.getElem?_eq_getElem h]
/-- How many bytes all of them have. -/
def total : List ByteArray → Nat
  | [] => 0
  | x :: xs => x.size + total xs
theorem total_drop (xs : List ByteArray) (j : Nat) (h : j < xs.length) : total (xs.drop j) = xs[j].size + total (xs.drop (j + 1)) := by
  rw [List.drop_eq_getElem_cons h, total]
theorem szStringS_loop (xs : List ByteArray) (hs : ∀ x, x ∈ xs → x.size ≤ maxLen) (hn : xs.length ≤ maxLen) (d : Nat) : ∀ (j : Nat) (n : Int), j ≤ xs.length → xs.length - j = d → n ≤ 1048576 → 0 ≤ n →
    ∃ r, Ev (fun k => laws_szStringS.l0 k xs n (j : Int)) r ∧ (¬ r < 0 → r = n - total (xs.drop j)) := by
  induction d with
  | zero =>
    intro j n hj hd _ _
    refine ⟨n, Ev.step (by intro k; rw [laws_szStringS.l0]) ?_, ?_⟩
    · simp only [if_neg (show ¬ ((j : Int) < (xs.length : Int)) by omega)]
      exact Ev.now _
    · rw [List.drop_of_length_le (by omega), total]; intro _; omega
  | succ d ih =>
    intro j n hj hd hn1 hn0
    have hjl : j < xs.length := by omega
    have h1 : (j : Int) < (xs.length : Int) := by omega
    have h0 : (0 : Int) ≤ j := by omega
    have hsz := hs _ (List.getElem_mem hjl)
    unfold maxLen at hsz
    have hw : wrap64 (n - ((rdOf ByteArray.empty xs (j : Int)).size : Int)) = n - (xs[j].size : Int) := by
      rw [rdS xs j hjl]
      unfold wrap64
      omega
    by_cases hneg : n - (xs[j].size : Int) < 0
    · refine ⟨-1, Ev.step (by intro k; rw [laws_szStringS.l0]) ?_, by omega⟩
      simp only [if_pos h1, if_pos h0, hw, if_pos hneg]
      exact Ev.now _
    · obtain ⟨r, hr, hr2⟩ := ih (j + 1) (n - (xs[j].size : Int)) (by omega) (by omega) (by omega) (by omega)
      refine ⟨r, Ev.step (by intro k; rw [laws_szStringS.l0]) ?_, ?_⟩
      · simp only [if_pos h1, if_pos h0, hw, if_neg hneg, wsucc j _ hjl hn]
        exact hr
      · intro h
        rw [hr2 h, total_drop xs j hjl]
        omega
theorem szStringS (xs : List ByteArray) (hs : ∀ x, x ∈ xs → x.size ≤ maxLen) (hn : xs.length ≤ maxLen) (n : Int) (hn1 : n ≤ 1048576) (hn0 : 0 ≤ n) : ∃ r, Ev (fun k => laws_szStringS.f k xs n) r ∧ (¬ r < 0 → r = n - xs.length - total xs) := by
  unfold laws_szStringS.f
  have hn' := hn
  unfold maxLen at hn'
  have hw : wrap64 (n - (xs.length : Int)) = n - (xs.length : Int) := by unfold wrap64; omega
  simp only [hw]
  by_cases h : n - (xs.length : Int) < 0
  · simp only [if_pos h]
    exact ⟨-1, Ev.now _, by omega⟩
  · simp only [if_neg h]
    obtain ⟨r, hr, hr2⟩ := szStringS_loop xs hs hn xs.length 0 (n - xs.length) (by omega) (by omega) (by omega) (by omega)
    exact ⟨r, hr, by simpa using hr2⟩
theorem szSource (xs : List ByteArray) (a b c : Int) (hs : ∀ x, x ∈ xs → x.size ≤ maxLen) (hn : xs.length ≤ maxLen) (n : Int) (hn1 : n ≤ 1048576) (hn0 : 0 ≤ n) : ∃ r, Ev (fun k => laws_szSource.f k xs a b c n) r ∧ (¬ r < 0 → r = n - xs.length - total xs) := by
  obtain ⟨r, hr, hr2⟩ := szStringS xs hs hn n hn1 hn0
  unfold laws_szSource.f
  by_cases h : r < 0
  · exact ⟨-1, Ev.bind hr (by simp only [if_pos h]; exact Ev.now _), by omega⟩
  · exact ⟨r, Ev.bind hr (by simp only [if_neg h]; exact Ev.now _), hr2⟩
theorem toStringS_loop (xs : List ByteArray) (hn : xs.length ≤ maxLen) (d : Nat) : ∀ (j : Nat) (ys : List ByteArray), j ≤ xs.length → xs.length - j = d → ys.length = xs.length → Ev (fun k => laws_toStringS.l0 k xs ys (j : Int)) (ys.take j ++ xs.drop j) := by
  induction d with
  | zero =>
    intro j ys hj hd hl
    refine Ev.step (by intro k; rw [laws_toStringS.l0]) ?_
    simp only [if_neg (show ¬ ((j : Int) < (xs.length : Int)) by omega)]
    rw [List.drop_of_length_le (by omega), List.take_of_length_le (by omega)]
    simpa using Ev.now ys
  | succ d ih =>
    intro j ys hj hd hl
    have hjl : j < xs.length := by omega
    have h1 : (j : Int) < (xs.length : Int) := by omega
    have h0 : (0 : Int) ≤ j := by omega
    have h2 : (j : Int) < (ys.length : Int) := by omega
    refine Ev.step (by intro k; rw [laws_toStringS.l0]) ?_
    simp only [if_pos h1, if_pos h0, if_pos h2, wsucc j _ hjl hn, Int.toNat_natCast]
    have := ih (j + 1) (ys.set j (rdOf ByteArray.empty xs (j : Int))) (by omega) (by omega) (by simpa using hl)
    have e : (ys.set j (rdOf ByteArray.empty xs (j : Int))).take (j + 1) ++ xs.drop (j + 1) = ys.take j ++ xs.drop j := by
      rw [List.drop_eq_getElem_cons hjl, List.take_add_one, rdS xs j hjl]
      simp [List.take_set_of_le, show j < ys.length by omega]
    rw [e] at this
    exact this
theorem toStringS (xs : List ByteArray) (hn : xs.length ≤ 1048576) : Ev (fun k => laws_toStringS.f k xs) xs := by
  unfold laws_toStringS.f
  simp only [if_pos (show (0 : Int) ≤ (xs.length : Int) by omega), Int.toNat_natCast, if_pos (show xs.length ≤ 17592186044416 by omega)]
  have := toStringS_loop xs (by unfold maxLen; omega) xs.length 0 (List.replicate xs.length ⟨#[]⟩) (by omega) (by omega) (by simp)
  simpa using this
theorem toSource (xs : List ByteArray) (a b c : Int) (hn : xs.length ≤ 1048576) : Ev (fun k => laws_toSource.f k xs a b c) (xs, a, b, c) := by
  unfold laws_toSource.f
  exact Ev.bind (toStringS xs hn) (Ev.now _)
theorem eqStringS_loop (xs : List ByteArray) (hn : xs.length ≤ maxLen) (d : Nat) : ∀ j : Nat, j ≤ xs.length → xs.length - j = d → Ev (fun k => laws_eqStringS.l0 k xs xs (j : Int)) true := by
  induction d with
  | zero =>
    intro j hj hd
    refine Ev.step (by intro k; rw [laws_eqStringS.l0]) ?_
    simp only [if_neg (show ¬ ((j : Int) < (xs.length : Int)) by omega)]
    exact Ev.now _
  | succ d ih =>
    intro j hj hd
    have h1 : (j : Int) < (xs.length : Int) := by omega
    have h0 : (0 : Int) ≤ j := by omega
    refine Ev.step (by intro k; rw [laws_eqStringS.l0]) ?_
    simp only [if_pos h1, if_pos h0, wsucc j _ (show j < xs.length by omega) hn, if_true]
    exact ih (j + 1) (by omega) (by omega)
theorem eqStringS (xs : List ByteArray) (hn : xs.length ≤ maxLen) : Ev (fun k => laws_eqStringS.f k xs xs) true := by
  unfold laws_eqStringS.f
  simp only [if_true]
  exact eqStringS_loop xs hn xs.length 0 (by omega) (by omega)
theorem eqSource (xs : List ByteArray) (a b c : Int) (hn : xs.length ≤ maxLen) : Ev (fun k => laws_eqSource.f k xs a b c xs a b c) true := by
  unfold laws_eqSource.f
  refine Ev.bind (eqStringS xs hn) ?_
  simp only [if_true]
  exact Ev.now _
end Go.Proofs.Ytjebeebjmbfcmaa.Pure
