/- The pure law of SameCombo: both sides compare the terms one by one. No condition but that a slice's length is an int. -/
import Derived.Test.YtjebeebjmbfcmaaPFnExactSameCombox3
namespace Go.Proofs.Ytjebeebjmbfcmaa.Pure
open Go.RowKit Go.Proofs.Ytjebeebjmbfcmaa.PFnExactSameCombo Go.Proofs.YtjebeebjmbfcmaaW.PrintWords Go.Proofs.YtjebeebjmbfcmaaW.PrintLast Go.Proofs.YtjebeebjmbfcmaaW.PrintMore
theorem wsucc (j n : Nat) (h : j < n) (hn : n ≤ maxLen) : wrap64 ((j : Int) + 1) = ((j + 1 : Nat) : Int) := by
  unfold maxLen at hn
  unfold wrap64
  omega
theorem szTermS_some (xs : List S77) (hn : xs.length ≤ maxLen) (d : Nat) : ∀ (j : Nat) (n : Int), j ≤ xs.length → xs.length - j = d → ∃ r, Ev (fun k => laws_szTermS.l0 k xs n (j : Int)) r := by
  induction d with
  | zero =>
    intro j n hj hd
    refine ⟨n, Ev.step (by intro k; rw [laws_szTermS.l0]) ?_⟩
    simp only [if_neg (show ¬ ((j : Int) < (xs.length : Int)) by omega)]
    exact Ev.now _
  | succ d ih =>
    intro j n hj hd
    have h1 : (j : Int) < (xs.length : Int) := by omega
    have h0 : (0 : Int) ≤ j := by omega
    obtain ⟨q, hq⟩ : ∃ q, laws_szTerm.f ((rd_T77 xs j).f0) ((rd_T77 xs j).f1) n = some q := by unfold laws_szTerm.f; split <;> exact ⟨_, rfl⟩
    by_cases hneg : q < 0
    · refine ⟨-1, Ev.step (by intro k; rw [laws_szTermS.l0]) ?_⟩
      simp only [if_pos h1, if_pos h0, hq, Option.bind_some, if_pos hneg]
      exact Ev.now _
    · obtain ⟨r, hr⟩ := ih (j + 1) q (by omega) (by omega)
      refine ⟨r, Ev.step (by intro k; rw [laws_szTermS.l0]) ?_⟩
      simp only [if_pos h1, if_pos h0, hq, Option.bind_some, if_neg hneg, wsucc j _ (by omega) hn]
      exact hr
theorem szTermS (xs : List S77) (hn : xs.length ≤ maxLen) (n : Int) : ∃ r, Ev (fun k => laws_szTermS.f k xs n) r := by
  unfold laws_szTermS.f
  split
  · exact ⟨_, Ev.now _⟩
  · exact szTermS_some xs hn xs.length 0 _ (by omega) (by omega)
def cv (t : S77) : S78 := ⟨t.f0, t.f1⟩
theorem toTermS_loop (xs : List S77) (hn : xs.length ≤ maxLen) (d : Nat) : ∀ (j : Nat) (ys : List S78), j ≤ xs.length → xs.length - j = d → ys.length = xs.length → Ev (fun k => laws_toTermS.l0 k xs ys (j : Int)) (ys.take j ++ (xs.drop j).map cv) := by
  induction d with
  | zero =>
    intro j ys hj hd hl
    refine Ev.step (by intro k; rw [laws_toTermS.l0]) ?_
    simp only [if_neg (show ¬ ((j : Int) < (xs.length : Int)) by omega)]
    rw [List.drop_of_length_le (by omega), List.take_of_length_le (by omega)]
    simpa using Ev.now ys
  | succ d ih =>
    intro j ys hj hd hl
    have h1 : (j : Int) < (xs.length : Int) := by omega
    have h0 : (0 : Int) ≤ j := by omega
    have h2 : (j : Int) < (ys.length : Int) := by omega
    refine Ev.step (by intro k; rw [laws_toTermS.l0]) ?_
    simp only [if_pos h1, if_pos h0, laws_toTerm.f, Option.bind_some, if_pos h2, wsucc j _ (show j < xs.length by omega) hn, Int.toNat_natCast]
    have := ih (j + 1) (ys.set j ⟨(rd_T77 xs j).f0, (rd_T77 xs j).f1⟩) (by omega) (by omega) (by simpa using hl)
    have e : (ys.set j (⟨(rd_T77 xs j).f0, (rd_T77 xs j).f1⟩ : S78)).take (j + 1) ++ (xs.drop (j + 1)).map cv = ys.take j ++ (xs.drop j).map cv := by
      rw [List.drop_eq_getElem_cons (show j < xs.length by omega), List.map_cons, List.take_add_one]
      simp [List.take_set_of_le, rd_T77, cv, List.getD_eq_getElem?_getD, List.getElem?_eq_getElem (show j < xs.length by omega), show j < ys.length by omega]
    rw [e] at this
    exact this
theorem toTermS (xs : List S77) (hn : xs.length ≤ 1048576) : Ev (fun k => laws_toTermS.f k xs) (xs.map cv) := by
  unfold laws_toTermS.f
  simp only [if_pos (show (0 : Int) ≤ (xs.length : Int) by omega), Int.toNat_natCast, if_pos (show xs.length ≤ 11728124029610 by omega)]
  have := toTermS_loop xs (by unfold maxLen; omega) xs.length 0 (List.replicate xs.length z78) (by omega) (by omega) (by simp)
  simpa using this
def eqv (x y : S78) : Bool := !(!(x.f0 == y.f0) || !(x.f1.toList == y.f1.toList))
def sameL : List S78 → List S78 → Bool
  | x :: xs, y :: ys => eqv x y && sameL xs ys
  | _, _ => true
theorem sameL_refl : ∀ xs, sameL xs xs = true
  | [] => rfl
  | x :: xs => by simp [sameL, eqv, sameL_refl xs]
theorem rd78 (xs : List S78) (j : Nat) (h : j < xs.length) : rd_T78 xs (j : Int) = xs[j] := by
  simp [rd_T78, List.getD_eq_getElem?_getD, List.getElem?_eq_getElem h]
theorem sameL_drop (xs ys : List S78) (j : Nat) (h : j < xs.length) (h' : j < ys.length) : sameL (xs.drop j) (ys.drop j) = (eqv (rd_T78 xs j) (rd_T78 ys j) && sameL (xs.drop (j + 1)) (ys.drop (j + 1))) := by
  rw [List.drop_eq_getElem_cons h, List.drop_eq_getElem_cons h', sameL, rd78 xs j h, rd78 ys j h']
theorem spec_loop (xs ys : List S78) (hl : xs.length = ys.length) (hn : xs.length ≤ maxLen) (d : Nat) : ∀ j : Nat, j ≤ xs.length → xs.length - j = d → Ev (fun k => spec_SameCombo.l0 k xs ys (j : Int)) (sameL (xs.drop j) (ys.drop j)) := by
  induction d with
  | zero =>
    intro j hj hd
    refine Ev.step (by intro k; rw [spec_SameCombo.l0]) ?_
    simp only [if_neg (show ¬ ((j : Int) < (xs.length : Int)) by omega)]
    rw [List.drop_of_length_le (show xs.length ≤ j by omega)]
    exact Ev.now _
  | succ d ih =>
    intro j hj hd
    have h1 : (j : Int) < (xs.length : Int) := by omega
    have h0 : (0 : Int) ≤ j := by omega
    have h2 : (j : Int) < (ys.length : Int) := by omega
    rw [sameL_drop xs ys j (by omega) (by omega)]
    refine Ev.step (by intro k; rw [spec_SameCombo.l0]) ?_
    simp only [if_pos h1, if_pos h0, if_pos h2, wsucc j _ (show j < xs.length by omega) hn]
    by_cases hq : (!(((rd_T78 xs j).f0) == ((rd_T78 ys j).f0)) || (!((((rd_T78 xs j).f1).toList) == (((rd_T78 ys j).f1).toList)))) = true
    · simp only [if_pos hq]
      rw [show eqv (rd_T78 xs j) (rd_T78 ys j) = false by unfold eqv; rw [hq]; rfl]
      exact Ev.now _
    · simp only [if_neg hq]
      rw [show eqv (rd_T78 xs j) (rd_T78 ys j) = true by unfold eqv; rw [Bool.eq_false_iff.mpr hq]; rfl, Bool.true_and]
      exact ih (j + 1) (by omega) (by omega)
theorem impl_loop (xs ys : List S78) (hl : xs.length = ys.length) (hn : xs.length ≤ maxLen) (d : Nat) : ∀ j : Nat, j ≤ xs.length → xs.length - j = d → Ev (fun k => impl_Term.l0 k xs ys (xs.length : Int) (j : Int)) (sameL (xs.drop j) (ys.drop j)) := by
  induction d with
  | zero =>
    intro j hj hd
    refine Ev.step (by intro k; rw [impl_Term.l0]) ?_
    simp only [if_neg (show ¬ ((j : Int) < (xs.length : Int)) by omega)]
    rw [List.drop_of_length_le (show xs.length ≤ j by omega)]
    exact Ev.now _
  | succ d ih =>
    intro j hj hd
    have h1 : (j : Int) < (xs.length : Int) := by omega
    have h0 : (0 : Int) ≤ j := by omega
    have h2 : (j : Int) < (ys.length : Int) := by omega
    rw [sameL_drop xs ys j (by omega) (by omega)]
    refine Ev.step (by intro k; rw [impl_Term.l0]) ?_
    simp only [if_pos h1, if_pos h0, if_pos h2, wsucc j _ (show j < xs.length by omega) hn]
    by_cases hq : (!(((rd_T78 xs j).f0) == ((rd_T78 ys j).f0)) || (!((((rd_T78 xs j).f1).toList) == (((rd_T78 ys j).f1).toList)))) = true
    · simp only [if_pos hq]
      rw [show eqv (rd_T78 xs j) (rd_T78 ys j) = false by unfold eqv; rw [hq]; rfl]
      exact Ev.now _
    · simp only [if_neg hq]
      rw [show eqv (rd_T78 xs j) (rd_T78 ys j) = true by unfold eqv; rw [Bool.eq_false_iff.mpr hq]; rfl, Bool.true_and]
      exact ih (j + 1) (by omega) (by omega)
theorem eq_loop (xs : List S78) (hn : xs.length ≤ maxLen) (d : Nat) : ∀ j : Nat, j ≤ xs.length → xs.length - j = d → Ev (fun k => laws_eqTermS.l0 k xs xs (j : Int)) true := by
  induction d with
  | zero =>
    intro j hj hd
    refine Ev.step (by intro k; rw [laws_eqTermS.l0]) ?_
    simp only [if_neg (show ¬ ((j : Int) < (xs.length : Int)) by omega)]
    exact Ev.now _
  | succ d ih =>
    intro j hj hd
    have h1 : (j : Int) < (xs.length : Int) := by omega
    have h0 : (0 : Int) ≤ j := by omega
    refine Ev.step (by intro k; rw [laws_eqTermS.l0]) ?_
    simp only [if_pos h1, if_pos h0, wsucc j _ (show j < xs.length by omega) hn, laws_eqTerm.f, if_true, Option.bind_some]
    exact ih (j + 1) (by omega) (by omega)
theorem eqTermS_refl (xs : List S78) (hn : xs.length ≤ maxLen) : Ev (fun k => laws_eqTermS.f k xs xs) true := by
  unfold laws_eqTermS.f
  simp only [if_true]
  exact eq_loop xs hn xs.length 0 (by omega) (by omega)
theorem FnExactSameCombo (l0 : List S77) (l1 : List S77) (h0 : (∀ x, x ∈ l0 → (Lit.int .i64 x.f0).wf = true ∧ x.f1.size ≤ maxLen) ∧ l0.length ≤ maxLen) (h1 : (∀ x, x ∈ l1 → (Lit.int .i64 x.f0).wf = true ∧ x.f1.size ≤ maxLen) ∧ l1.length ≤ maxLen) :
    ∃ k, laws_FnExactSameCombo.f k l0 l1 = some true := by
  refine Ev.rounds (g := fun k => laws_FnExactSameCombo.f k l0 l1) ?_
  unfold laws_FnExactSameCombo.f
  have small : ∀ (xs : List S77) (n r : Int), (∀ x, x ∈ xs → x.f1.size ≤ maxLen) → xs.length ≤ maxLen → n ≤ 1048576 → 0 ≤ n → Ev (fun k => laws_szTermS.f k xs n) r → ¬ r < 0 → xs.length ≤ 1048576 ∧ r ≤ 1048576 := by
    intro xs n r hgd hl hn hn0 hr hr0
    have key : ∀ (d j : Nat) (m r : Int), j ≤ xs.length → xs.length - j = d → m ≤ 1048576 → 0 ≤ m → Ev (fun k => laws_szTermS.l0 k xs m (j : Int)) r → ¬ r < 0 → r ≤ 1048576 := by
      intro d
      induction d with
      | zero =>
        intro j m r hj hd hm hm0 hr hr0
        obtain ⟨K, hK⟩ := hr
        have := hK (K + 1) (by omega)
        simp only [laws_szTermS.l0, if_neg (show ¬ ((j : Int) < (xs.length : Int)) by omega), Option.some.injEq] at this
        omega
      | succ d ih =>
        intro j m r hj hd hm hm0 hr hr0
        obtain ⟨K, hK⟩ := hr
        have e1 : (j : Int) < (xs.length : Int) := by omega
        have e0 : (0 : Int) ≤ j := by omega
        obtain ⟨q, hq⟩ : ∃ q, laws_szTerm.f ((rd_T77 xs j).f0) ((rd_T77 xs j).f1) m = some q := by unfold laws_szTerm.f; split <;> exact ⟨_, rfl⟩
        have hsz : (rd_T77 xs j).f1.size ≤ maxLen := by
          have hjl : j < xs.length := by omega
          have e : rd_T77 xs (j : Int) = xs[j] := by simp [rd_T77, List.getD_eq_getElem?_getD, List.getElem?_eq_getElem hjl]
          rw [e]
          exact hgd _ (List.getElem_mem hjl)
        have hqm : ¬ q < 0 → q ≤ 1048576 := by
          intro hq0
          unfold maxLen at hsz
          unfold laws_szTerm.f at hq
          split at hq
          · injection hq with hq; omega
          · injection hq with hq
            rename_i hw
            unfold wrap64 at hq hw
            omega
        by_cases hneg : q < 0
        · have := hK (K + 1) (by omega)
          simp only [laws_szTermS.l0, if_pos e1, if_pos e0, hq, Option.bind_some, if_pos hneg, Option.some.injEq] at this
          omega
        · refine ih (j + 1) q r (by omega) (by omega) (hqm hneg) (by omega) ⟨K, fun k hk => ?_⟩ hr0
          have := hK (k + 1) (by omega)
          simpa only [laws_szTermS.l0, if_pos e1, if_pos e0, hq, Option.bind_some, if_neg hneg, wsucc j _ (show j < xs.length by omega) hl] using this
    unfold laws_szTermS.f at hr
    by_cases hw : wrap64 (n - (xs.length : Int)) < 0
    · simp only [if_pos hw] at hr
      obtain ⟨K, hK⟩ := hr
      have := hK K (Nat.le_refl _)
      injection this with this
      omega
    · simp only [if_neg hw] at hr
      have hl2 : xs.length ≤ 1048576 := by
        unfold maxLen at hl
        unfold wrap64 at hw
        omega
      refine ⟨hl2, ?_⟩
      refine key xs.length 0 _ r (by omega) (by omega) ?_ (by omega) hr hr0
      unfold wrap64
      omega
  obtain ⟨q, hq⟩ := szTermS l0 h0.2 1048576
  refine Ev.bind hq ?_
  by_cases hq0 : q < 0
  · simp only [if_pos hq0]; exact Ev.now _
  simp only [if_neg hq0]
  obtain ⟨b0, hqle⟩ := small l0 1048576 q (fun x hx => (h0.1 x hx).2) h0.2 (by omega) (by omega) hq hq0
  obtain ⟨p, hp⟩ := szTermS l1 h1.2 q
  refine Ev.bind hp ?_
  by_cases hp0 : p < 0
  · simp only [if_pos hp0]; exact Ev.now _
  simp only [if_neg hp0]
  obtain ⟨b1, _⟩ := small l1 q p (fun x hx => (h1.1 x hx).2) h1.2 hqle (by omega) hp hp0
  refine Ev.bind (toTermS l0 b0) (Ev.bind (toTermS l1 b1) ?_)
  have hm0 : (l0.map cv).length ≤ maxLen := by rw [List.length_map]; exact h0.2
  have hm1 : (l1.map cv).length ≤ maxLen := by rw [List.length_map]; exact h1.2
  obtain ⟨b, hs, hi⟩ : ∃ b, Ev (fun k => spec_SameCombo.f k (l0.map cv) (l1.map cv)) b ∧ Ev (fun k => impl_SameCombo.f k (l0.map cv) (l1.map cv)) b := by
    unfold spec_SameCombo.f impl_SameCombo.f impl_Term.f
    by_cases hl : (((l0.map cv).length : Nat) : Int) = ((l1.map cv).length : Int)
    · simp only [if_pos hl]
      refine ⟨_, spec_loop _ _ (by omega) hm0 _ 0 (by omega) rfl, Ev.bind (impl_loop _ _ (by omega) hm0 _ 0 (by omega) rfl) (Ev.now _)⟩
    · simp only [if_neg hl]
      exact ⟨false, Ev.now _, Ev.now _⟩
  refine Ev.bind hs (Ev.bind (toTermS l0 b0) (Ev.bind (toTermS l1 b1) (Ev.bind hi ?_)))
  simp only [bne_self_eq_false, Bool.false_eq_true, if_false]
  refine Ev.bind (toTermS l0 b0) (Ev.bind (eqTermS_refl _ hm0) ?_)
  simp only [if_true]
  refine Ev.bind (toTermS l1 b1) (Ev.bind (eqTermS_refl _ hm1) ?_)
  simp only [if_true]
  exact Ev.now _
end Go.Proofs.Ytjebeebjmbfcmaa.Pure
