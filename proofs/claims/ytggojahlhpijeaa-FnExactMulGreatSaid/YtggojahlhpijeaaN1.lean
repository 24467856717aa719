/- Numbers by their digits. Plain arithmetic. No condition. -/
namespace Go.Proofs.YtggojahlhpijeaaN

/-- The value of digits, the lowest first. -/
def vl (B : Nat) : List Nat → Nat
  | [] => 0
  | x :: xs => x + B * vl B xs

/-- The digits of a number, the lowest first, the last one not 0. -/
def dg (B : Nat) (n : Nat) : List Nat :=
  if _h : n = 0 ∨ B ≤ 1 then [] else n % B :: dg B (n / B)
termination_by n
decreasing_by
  have h1 : n ≠ 0 := fun e => _h (.inl e)
  have h2 : 1 < B := Nat.lt_of_not_le fun e => _h (.inr e)
  exact Nat.div_lt_self (Nat.pos_of_ne_zero h1) h2

/-- Without zeros at the end. -/
def trimR : List Nat → List Nat
  | [] => []
  | x :: xs => match trimR xs with
    | [] => if x = 0 then [] else [x]
    | y :: ys => x :: y :: ys

def Dig (B : Nat) (xs : List Nat) : Prop := ∀ x ∈ xs, x < B

section
variable {B : Nat}
theorem dg_zero : dg B 0 = [] := by rw [dg]; simp
theorem dg_pos (hB : 1 < B) {n : Nat} (h : n ≠ 0) : dg B n = n % B :: dg B (n / B) := by
  rw [dg, dif_neg]
  intro e
  rcases e with e | e
  · exact h e
  · omega
theorem vl_dg (hB : 1 < B) (n : Nat) : vl B (dg B n) = n := by
  induction n using Nat.strongRecOn with
  | _ n ih =>
    by_cases h : n = 0
    · subst h; rw [dg_zero]; rfl
    · rw [dg_pos hB h, vl, ih _ (Nat.div_lt_self (Nat.pos_of_ne_zero h) hB)]
      exact Nat.mod_add_div n B
theorem dig_dg (hB : 1 < B) (n : Nat) : Dig B (dg B n) := by
  induction n using Nat.strongRecOn with
  | _ n ih =>
    by_cases h : n = 0
    · subst h; rw [dg_zero]; intro x hx; cases hx
    · rw [dg_pos hB h]
      intro x hx
      rcases List.mem_cons.1 hx with rfl | hx
      · exact Nat.mod_lt _ (by omega)
      · exact ih _ (Nat.div_lt_self (Nat.pos_of_ne_zero h) hB) x hx
theorem Dig.cons {x : Nat} {xs : List Nat} (h : Dig B (x :: xs)) : x < B ∧ Dig B xs := ⟨h x (by simp), fun y hy => h y (by simp [hy])⟩
theorem dig_cons {x : Nat} {xs : List Nat} (h : x < B) (h' : Dig B xs) : Dig B (x :: xs) := by
  intro y hy
  rcases List.mem_cons.1 hy with rfl | hy
  · exact h
  · exact h' y hy
theorem dig_one {x : Nat} (h : x < B) : Dig B [x] := dig_cons h (fun _ hx => by cases hx)
theorem dig_append {xs ys : List Nat} (h : Dig B xs) (h' : Dig B ys) : Dig B (xs ++ ys) := by
  intro y hy
  rcases List.mem_append.1 hy with hy | hy
  · exact h y hy
  · exact h' y hy
theorem Dig.append {xs ys : List Nat} (h : Dig B (xs ++ ys)) : Dig B xs ∧ Dig B ys := ⟨fun y hy => h y (by simp [hy]), fun y hy => h y (by simp [hy])⟩
theorem Dig.take {xs : List Nat} (h : Dig B xs) (n : Nat) : Dig B (xs.take n) := fun y hy => h y (List.mem_of_mem_take hy)
theorem Dig.drop {xs : List Nat} (h : Dig B xs) (n : Nat) : Dig B (xs.drop n) := fun y hy => h y (List.mem_of_mem_drop hy)
theorem Dig.get {xs : List Nat} (h : Dig B xs) {i x : Nat} (hi : xs[i]? = some x) : x < B := h x (List.mem_of_getElem? hi)
theorem Dig.getD {xs : List Nat} (h : Dig B xs) (hB : 0 < B) (i : Nat) : xs.getD i 0 < B := by
  rw [List.getD_eq_getElem?_getD]
  cases hq : xs[i]? with
  | none => simpa using hB
  | some x => simpa using h.get hq
theorem dig_set {xs : List Nat} (h : Dig B xs) {d : Nat} (hd : d < B) (i : Nat) : Dig B (xs.set i d) := by
  intro y hy
  rcases List.mem_or_eq_of_mem_set hy with hy | rfl
  · exact h y hy
  · exact hd
theorem dig_replicate (hB : 0 < B) (n : Nat) : Dig B (List.replicate n 0) := by
  intro y hy
  rw [List.mem_replicate] at hy
  omega

theorem vl_append (xs ys : List Nat) : vl B (xs ++ ys) = vl B xs + B ^ xs.length * vl B ys := by
  induction xs with
  | nil => simp [vl]
  | cons x xs ih =>
    simp only [List.cons_append, vl, ih, List.length_cons, Nat.pow_succ]
    rw [Nat.mul_add, Nat.add_assoc, Nat.mul_comm (B ^ xs.length) B, Nat.mul_assoc]
theorem vl_lt {xs : List Nat} (h : Dig B xs) : vl B xs < B ^ xs.length := by
  induction xs with
  | nil => simp [vl]
  | cons x xs ih =>
    obtain ⟨h1, h2⟩ := h.cons
    have := ih h2
    simp only [vl, List.length_cons, Nat.pow_succ]
    have : B * (vl B xs + 1) ≤ B * B ^ xs.length := Nat.mul_le_mul_left _ this
    rw [Nat.mul_add, Nat.mul_one] at this
    rw [Nat.mul_comm (B ^ xs.length) B]
    omega
theorem vl_replicate (n : Nat) : vl B (List.replicate n 0) = 0 := by
  induction n with
  | zero => rfl
  | succ n ih => simp [List.replicate_succ, vl, ih]
theorem vl_trimR (xs : List Nat) : vl B (trimR xs) = vl B xs := by
  induction xs with
  | nil => rfl
  | cons x xs ih =>
    simp only [trimR]
    cases hq : trimR xs with
    | nil =>
      rw [hq] at ih
      simp only [vl] at ih
      simp only
      split
      · rename_i h0; subst h0; simp [vl, ← ih]
      · simp [vl, ← ih]
    | cons y ys =>
      rw [hq] at ih
      simp only [vl] at ih ⊢
      rw [ih]
/-- Digits are told by their value. -/
theorem dg_vl (hB : 1 < B) : ∀ {xs : List Nat}, Dig B xs → dg B (vl B xs) = trimR xs
  | [], _ => dg_zero
  | x :: xs, h => by
    obtain ⟨h1, h2⟩ := h.cons
    have ih := dg_vl hB h2
    simp only [vl, trimR]
    by_cases h0 : x + B * vl B xs = 0
    · rw [h0, dg_zero]
      have hx : x = 0 := by omega
      have hv : vl B xs = 0 := by
        have : B * vl B xs = 0 := by omega
        rcases Nat.mul_eq_zero.1 this with h | h
        · omega
        · exact h
      rw [hv, dg_zero] at ih
      rw [← ih, hx]
      rfl
    · rw [dg_pos hB h0]
      have e1 : (x + B * vl B xs) % B = x := by rw [Nat.add_mul_mod_self_left, Nat.mod_eq_of_lt h1]
      have e2 : (x + B * vl B xs) / B = vl B xs := by rw [Nat.add_mul_div_left _ _ (by omega), Nat.div_eq_of_lt h1, Nat.zero_add]
      rw [e1, e2, ih]
      cases hq : trimR xs with
      | nil =>
        simp only
        rw [if_neg]
        intro hx
        have := vl_trimR (B := B) xs
        rw [hq] at this
        simp only [vl] at this
        rw [hx, ← this] at h0
        simp at h0
      | cons y ys => rfl
theorem trimR_dg (hB : 1 < B) (n : Nat) : trimR (dg B n) = dg B n := by
  rw [← dg_vl hB (dig_dg hB n), vl_dg hB]
theorem trimR_concat_zero (xs : List Nat) : trimR (xs ++ [0]) = trimR xs := by
  induction xs with
  | nil => rfl
  | cons x xs ih => simp only [List.cons_append, trimR, ih]
theorem trimR_concat {x : Nat} (hx : x ≠ 0) (xs : List Nat) : trimR (xs ++ [x]) = xs ++ [x] := by
  induction xs with
  | nil => simp [trimR, hx]
  | cons y xs ih =>
    simp only [List.cons_append, trimR, ih]
    cases h : xs ++ [x] with
    | nil => simp at h
    | cons z zs => rfl
theorem length_trimR_le (xs : List Nat) : (trimR xs).length ≤ xs.length := by
  induction xs with
  | nil => exact Nat.le_refl _
  | cons x xs ih =>
    simp only [trimR]
    cases hq : trimR xs with
    | nil => simp only; split <;> simp
    | cons y ys => rw [hq] at ih; simpa using ih
theorem trimR_full : ∀ {xs : List Nat}, xs.length ≤ (trimR xs).length → trimR xs = xs
  | [], _ => rfl
  | x :: xs, h => by
    simp only [trimR] at h ⊢
    cases hq : trimR xs with
    | nil =>
      rw [hq] at h
      have hl := length_trimR_le xs
      rw [hq] at hl
      simp only at h ⊢
      split at h
      · simp at h
      · rename_i hx
        rw [if_neg hx]
        have : xs = [] := by simpa using h
        rw [this]
    | cons y ys =>
      rw [hq] at h
      simp only at h ⊢
      have := trimR_full (xs := xs) (by rw [hq]; simpa using h)
      rw [hq] at this
      rw [this]
/-- How many digits a number has. -/
theorem length_dg_le (hB : 1 < B) {n k : Nat} (h : n < B ^ k) : (dg B n).length ≤ k := by
  induction k generalizing n with
  | zero => simp at h; subst h; rw [dg_zero]; exact Nat.le_refl _
  | succ k ih =>
    by_cases h0 : n = 0
    · subst h0; rw [dg_zero]; simp
    · rw [dg_pos hB h0]
      have := ih (n := n / B) (by rw [Nat.pow_succ] at h; exact Nat.div_lt_of_lt_mul (by rwa [Nat.mul_comm] at h))
      simpa using this
theorem lt_of_length_dg (hB : 1 < B) {n k : Nat} (h : (dg B n).length ≤ k) : n < B ^ k := by
  have h1 := vl_lt (dig_dg hB n)
  rw [vl_dg hB] at h1
  exact Nat.lt_of_lt_of_le h1 (Nat.pow_le_pow_right (by omega) h)
theorem le_of_length_dg (hB : 1 < B) {n k : Nat} (h : k < (dg B n).length) : B ^ k ≤ n := by
  rcases Nat.lt_or_ge n (B ^ k) with h' | h'
  · have := length_dg_le hB h'; omega
  · exact h'
theorem dg_ne_nil (hB : 1 < B) {n : Nat} : dg B n = [] ↔ n = 0 := by
  constructor
  · intro h
    have := vl_dg hB n
    rw [h] at this
    exact this.symm
  · intro h; subst h; exact dg_zero
theorem length_dg_zero (hB : 1 < B) {n : Nat} : (dg B n).length = 0 ↔ n = 0 := by
  rw [List.length_eq_zero_iff]; exact dg_ne_nil hB
/-- The highest digit is not 0. -/
theorem last_dg (hB : 1 < B) {n : Nat} (h : n ≠ 0) : (dg B n).getD ((dg B n).length - 1) 0 ≠ 0 := by
  intro h0
  have hne : dg B n ≠ [] := fun e => h ((dg_ne_nil hB).1 e)
  obtain ⟨xs, x, hx⟩ : ∃ xs x, dg B n = xs ++ [x] := ⟨(dg B n).dropLast, (dg B n).getLast hne, (List.dropLast_concat_getLast hne).symm⟩
  have ht := trimR_dg hB n
  rw [hx] at h0 ht
  simp at h0
  subst h0
  rw [trimR_concat_zero] at ht
  have := length_trimR_le xs
  rw [ht] at this
  simp at this
  omega

/-- A digit by division. -/
theorem getD_dg (hB : 1 < B) (n i : Nat) : (dg B n).getD i 0 = n / B ^ i % B := by
  induction i generalizing n with
  | zero =>
    by_cases h : n = 0
    · subst h; simp [dg_zero]
    · rw [dg_pos hB h]; simp
  | succ i ih =>
    by_cases h : n = 0
    · subst h; simp [dg_zero]
    · rw [dg_pos hB h]
      rw [List.getD_cons_succ, ih, Nat.div_div_eq_div_mul, Nat.pow_succ, Nat.mul_comm B]
theorem getD_vl (hB : 0 < B) : ∀ {xs : List Nat} (i : Nat), Dig B xs → xs.getD i 0 = vl B xs / B ^ i % B
  | [], i, _ => by simp [vl]
  | x :: xs, 0, h => by
    obtain ⟨h1, h2⟩ := h.cons
    simp [vl, Nat.mod_eq_of_lt h1]
  | x :: xs, i + 1, h => by
    obtain ⟨h1, h2⟩ := h.cons
    rw [List.getD_cons_succ, getD_vl hB i h2, vl, Nat.pow_succ, Nat.mul_comm (B ^ i), ← Nat.div_div_eq_div_mul, Nat.add_mul_div_left _ _ hB, Nat.div_eq_of_lt h1, Nat.zero_add]
theorem vl_take (hB : 0 < B) {xs : List Nat} (h : Dig B xs) (i : Nat) : vl B (xs.take i) = vl B xs % B ^ i := by
  rcases Nat.lt_or_ge i xs.length with hi | hi
  · have e := vl_append (B := B) (xs.take i) (xs.drop i)
    rw [List.take_append_drop] at e
    have hl : (xs.take i).length = i := by rw [List.length_take]; omega
    rw [hl] at e
    have hlt := vl_lt (h.take i)
    rw [hl] at hlt
    rw [e, Nat.add_mul_mod_self_left, Nat.mod_eq_of_lt hlt]
  · rw [List.take_of_length_le hi]
    have := vl_lt h
    have h2 : B ^ xs.length ≤ B ^ i := Nat.pow_le_pow_right hB hi
    rw [Nat.mod_eq_of_lt (by omega)]
theorem vl_drop (hB : 0 < B) {xs : List Nat} (h : Dig B xs) (i : Nat) : vl B (xs.drop i) = vl B xs / B ^ i := by
  rcases Nat.lt_or_ge i xs.length with hi | hi
  · have e := vl_append (B := B) (xs.take i) (xs.drop i)
    rw [List.take_append_drop] at e
    have hl : (xs.take i).length = i := by rw [List.length_take]; omega
    rw [hl] at e
    have hlt := vl_lt (h.take i)
    rw [hl] at hlt
    rw [e, Nat.add_mul_div_left _ _ (Nat.pow_pos hB), Nat.div_eq_of_lt hlt, Nat.zero_add]
  · rw [List.drop_of_length_le hi]
    have := vl_lt h
    have h2 : B ^ xs.length ≤ B ^ i := Nat.pow_le_pow_right hB hi
    rw [Nat.div_eq_of_lt (by omega)]
    rfl
theorem vl_concat (xs : List Nat) (x : Nat) : vl B (xs ++ [x]) = vl B xs + B ^ xs.length * x := by
  rw [vl_append]; simp [vl]
theorem getD_lt {xs : List Nat} {i : Nat} (h : i < xs.length) : xs.getD i 0 = xs[i] := by
  rw [List.getD_eq_getElem?_getD, List.getElem?_eq_getElem h]; rfl
theorem getD_ge {xs : List Nat} {i : Nat} (h : xs.length ≤ i) : xs.getD i 0 = 0 := by
  rw [List.getD_eq_getElem?_getD, List.getElem?_eq_none h]; rfl
theorem take_succ_getD {xs : List Nat} {i : Nat} (h : i < xs.length) : xs.take (i + 1) = xs.take i ++ [xs.getD i 0] := by
  rw [List.take_succ_eq_append_getElem h, getD_lt h]
theorem take_pred_getD {xs : List Nat} {i : Nat} (h0 : 0 < i) (h : i ≤ xs.length) : xs.take i = xs.take (i - 1) ++ [xs.getD (i - 1) 0] := by
  rw [← take_succ_getD (by omega), show i - 1 + 1 = i from by omega]
/-- A digit is set. -/
theorem vl_set (hB : 0 < B) : ∀ {xs : List Nat} {i : Nat} (v : Nat), i < xs.length → vl B (xs.set i v) + B ^ i * xs.getD i 0 = vl B xs + B ^ i * v
  | x :: xs, 0, v, _ => by simp [vl]; omega
  | x :: xs, i + 1, v, h => by
    have := vl_set hB v (xs := xs) (i := i) (by simpa using h)
    have e : B * (vl B (xs.set i v) + B ^ i * xs.getD i 0) = B * (vl B xs + B ^ i * v) := by rw [this]
    rw [Nat.mul_add, Nat.mul_add, ← Nat.mul_assoc, ← Nat.mul_assoc] at e
    simp only [List.set_cons_succ, List.getD_cons_succ, vl, Nat.pow_succ, Nat.mul_comm (B ^ i) B]
    omega
theorem getD_set {xs : List Nat} {i j v : Nat} : (xs.set i v).getD j 0 = if i = j ∧ i < xs.length then v else xs.getD j 0 := by
  rw [List.getD_eq_getElem?_getD, List.getD_eq_getElem?_getD, List.getElem?_set]
  by_cases h : i = j
  · subst h
    by_cases h2 : i < xs.length
    · simp [h2]
    · simp [h2]
  · simp [h]
/-- Numbers of as many digits are compared by their digits, the highest first. -/
theorem vl_take_succ (xs : List Nat) (i : Nat) (hi : i < xs.length) : vl B (xs.take (i + 1)) = vl B (xs.take i) + B ^ i * xs.getD i 0 := by
  rw [List.take_succ_eq_append_getElem hi, vl_concat, List.length_take]
  congr 2
  · congr 1; omega
  · rw [List.getD_eq_getElem?_getD, List.getElem?_eq_getElem hi]; rfl
end

/-- How many bits a number has. -/
def bl (n : Nat) : Nat := (dg 2 n).length
theorem bl_zero : bl 0 = 0 := by rw [bl, dg_zero]; rfl
theorem bl_pos {n : Nat} (h : n ≠ 0) : bl n = bl (n / 2) + 1 := by rw [bl, dg_pos (by decide) h]; rfl
theorem lt_bl (n : Nat) : n < 2 ^ bl n := lt_of_length_dg (by decide) (Nat.le_refl _)
theorem bl_le {n k : Nat} (h : n < 2 ^ k) : bl n ≤ k := length_dg_le (by decide) h
theorem le_bl {n : Nat} (h : n ≠ 0) : 2 ^ (bl n - 1) ≤ n := by
  refine le_of_length_dg (by decide) ?_
  have := bl_pos h
  rw [show (dg 2 n).length = bl n from rfl]
  omega
theorem bl_div {n : Nat} (k : Nat) (h : 2 ^ k ≤ n) : bl n = bl (n / 2 ^ k) + k := by
  induction k generalizing n with
  | zero => simp
  | succ k ih =>
    have hn : n ≠ 0 := by have := Nat.pow_pos (n := k + 1) (show 0 < 2 by decide); omega
    rw [bl_pos hn, ih (by rw [Nat.pow_succ] at h; omega), Nat.div_div_eq_div_mul, Nat.pow_succ, Nat.mul_comm 2]
    omega

def blF : Nat → Nat → Nat
  | 0, _ => 0
  | k + 1, n => if n = 0 then 0 else blF k (n / 2) + 1
theorem blF_eq : ∀ (k n : Nat), n < 2 ^ k → blF k n = bl n
  | 0, n, h => by
    have : n = 0 := by simpa using h
    rw [this, bl_zero]; rfl
  | k + 1, n, h => by
    rw [blF]
    split
    · rename_i h0; rw [h0, bl_zero]
    · rename_i h0; rw [bl_pos h0, blF_eq k (n / 2) (by rw [Nat.pow_succ] at h; omega)]

/-- 64 bits, 24 bits. -/
def W : Nat := 18446744073709551616
def H : Nat := 16777216
theorem one_lt_W : 1 < W := by decide
theorem one_lt_H : 1 < H := by decide
theorem W_eq : W = 2 ^ 64 := by decide
theorem H_eq : H = 2 ^ 24 := by decide
end Go.Proofs.YtggojahlhpijeaaN
