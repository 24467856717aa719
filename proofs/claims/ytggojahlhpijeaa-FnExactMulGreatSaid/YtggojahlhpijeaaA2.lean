/- How the values of the other machine stand to the model's own, and how such a standing lasts while the memory grows. No condition. -/
import Derived.Test.YtggojahlhpijeaaA1
namespace Go.Proofs.YtggojahlhpijeaaA
open Go Go.RowKit

/-- The value v stands for the model's value u: F are blocks that nothing writes to any more, φ says where the store's blocks lie. -/
inductive Rel (w : World) (F : Nat → Prop) (φ : Nat → Nat × Nat) : Nat → AV → Value → Prop
  | b {N} (x) : Rel w F φ N (.b x) (.bool x)
  | i {N} (k n) : Rel w F φ N (.i k n) (.int k n)
  | s {N} (x) : Rel w F φ N (.s x) (.string x)
  | raw {N} (v : Value) (hv : ∀ x, v ≠ .bool x) : Rel w F φ N (.raw v) v
  | sl {N full n cs A cap} (us : List Value) (hn : n ≤ cap) (hf : full = true → cap = n) (hl : us.length = cs.length)
      (hat : ∀ j u, us[j]? = some u → ∃ a, A = some a ∧ a.spot = none ∧ F a.block ∧ w.cell? ⟨a.block, a.off + j, none⟩ = some u)
      (h : ∀ (j : Nat) c u, cs[j]? = some c → us[j]? = some u → Rel w F φ 0 c u) : Rel w F φ N (.sl full n cs) (.slice A n cap)
  | fad {N cs a} (us : List Value) (hs : a.spot = none) (hl : us.length = cs.length)
      (hat : ∀ j u, us[j]? = some u → F a.block ∧ w.cell? ⟨a.block, a.off + j, none⟩ = some u)
      (h : ∀ (j : Nat) c u, cs[j]? = some c → us[j]? = some u → Rel w F φ 0 c u) : Rel w F φ N (.fad cs) (.pointer (some a))
  | ref {N id sz off n A cap} (hid : id < N) (hn : n ≤ cap) (hA : 0 < cap → A = some ⟨(φ id).1, (φ id).2 + off, none⟩)
      (hc : ∀ j, j < cap * sz → (w.cell? ⟨(φ id).1, (φ id).2 + off + j, none⟩).isSome = true) : Rel w F φ N (.ref id sz off n) (.slice A n cap)
  | ptr {N id off} (hid : id < N) : Rel w F φ N (.ptr id off) (.pointer (some ⟨(φ id).1, (φ id).2 + off, none⟩))
  | agg {N cs} (us : List Value) (hl : us.length = cs.length) (h : ∀ (j : Nat) c u, cs[j]? = some c → us[j]? = some u → Rel w F φ N c u) : Rel w F φ N (.agg cs) (.agg us.toArray)
  | tup {N cs} (us : List Value) (hl : us.length = cs.length) (h : ∀ (j : Nat) c u, cs[j]? = some c → us[j]? = some u → Rel w F φ N c u) : Rel w F φ N (.tup cs) (.tuple us.toArray)
  | fn {N f a c} (us vs : List Value) (hl : us.length = a.length) (hl' : vs.length = c.length) (h : ∀ (j : Nat) x u, a[j]? = some x → us[j]? = some u → Rel w F φ N x u)
      (h' : ∀ (j : Nat) x u, c[j]? = some x → vs[j]? = some u → Rel w F φ N x u) : Rel w F φ N (.fn f a c) (.func f us.toArray vs.toArray)

theorem Rel.mono {w w' : World} {F F' : Nat → Prop} {φ φ' : Nat → Nat × Nat} {N : Nat} {v : AV} {u : Value} (h : Rel w F φ N v u)
    (hF : ∀ k, F k → F' k) (hw : ∀ k, F k → w'.heap[k]? = w.heap[k]?) (hc : ∀ a, (w.cell? a).isSome = true → (w'.cell? a).isSome = true) :
    ∀ {N' : Nat}, N ≤ N' → (∀ id, id < N → φ' id = φ id) → Rel w' F' φ' N' v u := by
  induction h with
  | b => intros; constructor
  | i => intros; constructor
  | s => intros; constructor
  | raw v hv => intros; exact .raw v hv
  | sl us hn hf hl hat h ih =>
    intro N' hN hφ
    refine .sl us hn hf hl (fun j u hj => ?_) (fun j c u h1 h2 => ih j c u h1 h2 (Nat.le_refl _) (fun id hid => absurd hid (Nat.not_lt_zero _)))
    obtain ⟨a, e1, e2, e3, e4⟩ := hat j u hj
    exact ⟨a, e1, e2, hF _ e3, (World.cell?_of_block (w := w) (a := ⟨a.block, a.off + j, none⟩) (hw _ e3)).trans e4⟩
  | fad us hs hl hat h ih =>
    intro N' hN hφ
    refine .fad us hs hl (fun j u hj => ?_) (fun j c u h1 h2 => ih j c u h1 h2 (Nat.le_refl _) (fun id hid => absurd hid (Nat.not_lt_zero _)))
    obtain ⟨e3, e4⟩ := hat j u hj
    exact ⟨hF _ e3, (World.cell?_of_block (w := w) (a := ⟨_, _, none⟩) (hw _ e3)).trans e4⟩
  | ref hid hn hA hcl =>
    intro N' hN hφ
    refine .ref (Nat.lt_of_lt_of_le hid hN) hn ?_ ?_
    · rw [hφ _ hid]; exact hA
    · rw [hφ _ hid]; exact fun j hj => hc _ (hcl j hj)
  | @ptr N id off hid =>
    intro N' hN hφ
    rw [← hφ id hid]
    exact .ptr (Nat.lt_of_lt_of_le hid hN)
  | agg us hl h ih => intro N' hN hφ; exact .agg us hl (fun j c u h1 h2 => ih j c u h1 h2 hN hφ)
  | tup us hl h ih => intro N' hN hφ; exact .tup us hl (fun j c u h1 h2 => ih j c u h1 h2 hN hφ)
  | fn us vs hl hl' h h' ih ih' => intro N' hN hφ; exact .fn us vs hl hl' (fun j c u h1 h2 => ih j c u h1 h2 hN hφ) (fun j c u h1 h2 => ih' j c u h1 h2 hN hφ)

/-- Lists, place by place. -/
def RelL (w : World) (F : Nat → Prop) (φ : Nat → Nat × Nat) (N : Nat) (cs : List AV) (us : List Value) : Prop :=
  us.length = cs.length ∧ ∀ (j : Nat) c u, cs[j]? = some c → us[j]? = some u → Rel w F φ N c u

section
variable {w : World} {F : Nat → Prop} {φ : Nat → Nat × Nat} {N : Nat}
theorem RelL.nil : RelL w F φ N [] [] := ⟨rfl, fun j c u h _ => by simp at h⟩
theorem RelL.cons {c : AV} {u : Value} {cs : List AV} {us : List Value} (h : Rel w F φ N c u) (h' : RelL w F φ N cs us) : RelL w F φ N (c :: cs) (u :: us) := by
  refine ⟨by simp [h'.1], fun j x y h1 h2 => ?_⟩
  cases j with
  | zero => simp at h1 h2; subst h1; subst h2; exact h
  | succ j => simp at h1 h2; exact h'.2 j x y h1 h2
theorem RelL.get {cs : List AV} {us : List Value} (h : RelL w F φ N cs us) {j : Nat} {c : AV} (hj : cs[j]? = some c) : ∃ u, us[j]? = some u ∧ Rel w F φ N c u := by
  have hlt : j < us.length := by rw [h.1]; exact (List.getElem?_eq_some_iff.1 hj).1
  exact ⟨us[j], List.getElem?_eq_getElem hlt, h.2 j c _ hj (List.getElem?_eq_getElem hlt)⟩
theorem RelL.uncons {c : AV} {cs : List AV} {us : List Value} (h : RelL w F φ N (c :: cs) us) : ∃ u us', us = u :: us' ∧ Rel w F φ N c u ∧ RelL w F φ N cs us' := by
  obtain ⟨hl, hh⟩ := h
  cases us with
  | nil => simp at hl
  | cons u us' => exact ⟨u, us', rfl, hh 0 c u rfl rfl, by simpa using hl, fun j x y h1 h2 => hh (j + 1) x y (by simpa using h1) (by simpa using h2)⟩
theorem RelL.nil_inv {us : List Value} (h : RelL w F φ N [] us) : us = [] := List.length_eq_zero_iff.1 h.1
theorem RelL.append {cs ds : List AV} {us vs : List Value} (h : RelL w F φ N cs us) (h' : RelL w F φ N ds vs) : RelL w F φ N (cs ++ ds) (us ++ vs) := by
  refine ⟨by simp [h.1, h'.1], fun j x y h1 h2 => ?_⟩
  by_cases hj : j < cs.length
  · rw [List.getElem?_append_left hj] at h1
    rw [List.getElem?_append_left (by rw [h.1]; exact hj)] at h2
    exact h.2 j x y h1 h2
  · rw [List.getElem?_append_right (by omega)] at h1
    rw [List.getElem?_append_right (by rw [h.1]; omega), h.1] at h2
    exact h'.2 _ x y h1 h2
theorem RelL.drop {cs : List AV} {us : List Value} (h : RelL w F φ N cs us) (n : Nat) : RelL w F φ N (cs.drop n) (us.drop n) :=
  ⟨by simp [h.1], fun j x y h1 h2 => by rw [List.getElem?_drop] at h1 h2; exact h.2 _ x y h1 h2⟩
theorem RelL.take {cs : List AV} {us : List Value} (h : RelL w F φ N cs us) (n : Nat) : RelL w F φ N (cs.take n) (us.take n) :=
  ⟨by simp [h.1], fun j x y h1 h2 => by
    rw [List.getElem?_take] at h1 h2
    split at h1
    · rename_i hj; rw [if_pos hj] at h2; exact h.2 _ x y h1 h2
    · cases h1⟩
theorem RelL.set {cs : List AV} {us : List Value} (h : RelL w F φ N cs us) (n : Nat) {c : AV} {u : Value} (hc : Rel w F φ N c u) : RelL w F φ N (cs.set n c) (us.set n u) :=
  ⟨by simp [h.1], fun j x y h1 h2 => by
    rw [List.getElem?_set] at h1 h2
    split at h1
    · rename_i hj
      subst hj
      rw [if_pos rfl] at h2
      split at h1
      · cases h1
        split at h2
        · cases h2; exact hc
        · cases h2
      · cases h1
    · rename_i hj; rw [if_neg hj] at h2; exact h.2 _ x y h1 h2⟩
theorem RelL.replicate (n : Nat) {c : AV} {u : Value} (hc : Rel w F φ N c u) : RelL w F φ N (List.replicate n c) (List.replicate n u) :=
  ⟨by simp, fun j x y h1 h2 => by
    rw [List.getElem?_replicate] at h1 h2
    split at h1
    · rename_i hj; rw [if_pos hj] at h2; cases h1; cases h2; exact hc
    · cases h1⟩
theorem RelL.rep (n : Nat) {cs : List AV} {us : List Value} (hc : RelL w F φ N cs us) : RelL w F φ N (List.replicate n cs).flatten (List.replicate n us).flatten := by
  induction n with
  | zero => exact RelL.nil
  | succ n ih => simp only [List.replicate_succ, List.flatten_cons]; exact hc.append ih
theorem RelL.setAt {vs : List AV} {xs : List Value} : ∀ {cs : List AV} {us : List Value} (o : Nat), RelL w F φ N cs us → RelL w F φ N vs xs → RelL w F φ N (setAt cs o vs) (xs.zipIdx.foldl (fun l (c, j) => l.set (o + j) c) us) := by
  induction vs generalizing xs with
  | nil => intro cs us o h h'; cases h'.nil_inv; exact h
  | cons v vs ih =>
    intro cs us o h h'
    obtain ⟨x, xs', rfl, hx, hxs⟩ := h'.uncons
    have := ih (o + 1) (h.set o hx) hxs
    simp only [Go.Proofs.YtggojahlhpijeaaA.setAt]
    refine cast ?_ this
    congr 1
    simp only [List.zipIdx_cons, List.foldl_cons, Nat.add_zero, Nat.zero_add]
    generalize us.set o x = l
    have : ∀ (ys : List Value) (l : List Value) (k : Nat), List.foldl (fun l x => l.set (o + 1 + x.2) x.1) l (ys.zipIdx k) = List.foldl (fun l x => l.set (o + x.2) x.1) l (ys.zipIdx (k + 1)) := by
      intro ys
      induction ys with
      | nil => intros; rfl
      | cons y ys ih2 => intro l k; simp only [List.zipIdx_cons, List.foldl_cons]; rw [show o + 1 + k = o + (k + 1) by omega, ih2]
    exact this xs' l 0
end

/-- Every value has cells that stand as it does. -/
theorem Rel.cells {w : World} {F : Nat → Prop} {φ : Nat → Nat × Nat} {N : Nat} {v : AV} {u : Value} (h : Rel w F φ N v u) (hr : v.okc = true) : RelL w F φ N v.cells u.cells.toList := by
  cases h with
  | agg us hl h => exact ⟨hl, h⟩
  | raw _ hx => cases u <;> first | exact (RelL.cons (.raw _ hx) RelL.nil) | (simp [AV.okc, Value.oneCell'] at hr)
  | _ => exact RelL.cons (by constructor <;> assumption) RelL.nil
theorem Rel.one {w : World} {F : Nat → Prop} {φ : Nat → Nat × Nat} {N : Nat} {v : AV} {u : Value} (h : Rel w F φ N v u) (h1 : v.one = true) : u.oneCell' = true := by
  cases h <;> first | rfl | exact h1 | (simp [AV.one] at h1)
theorem RelL.one {w : World} {F : Nat → Prop} {φ : Nat → Nat × Nat} {N : Nat} {cs : List AV} {us : List Value} (h : RelL w F φ N cs us) (h1 : cs.all AV.one = true) : ∀ u ∈ us, u.oneCell' = true := by
  intro u hu
  obtain ⟨j, hj⟩ := List.getElem?_of_mem hu
  have hlt : j < cs.length := by rw [← h.1]; exact (List.getElem?_eq_some_iff.1 hj).1
  exact (h.2 j _ u (List.getElem?_eq_getElem hlt) hj).one (List.all_eq_true.1 h1 _ (List.getElem_mem hlt))
theorem RelL.mono {w w' : World} {F F' : Nat → Prop} {φ φ' : Nat → Nat × Nat} {N N' : Nat} {cs : List AV} {us : List Value} (h : RelL w F φ N cs us)
    (hF : ∀ k, F k → F' k) (hw : ∀ k, F k → w'.heap[k]? = w.heap[k]?) (hc : ∀ a, (w.cell? a).isSome = true → (w'.cell? a).isSome = true) (hN : N ≤ N') (hφ : ∀ id, id < N → φ' id = φ id) : RelL w' F' φ' N' cs us :=
  ⟨h.1, fun j c u h1 h2 => (h.2 j c u h1 h2).mono hF hw hc hN hφ⟩

theorem rel_ofC {w : World} {F : Nat → Prop} {φ : Nat → Nat × Nat} {N : Nat} (v : Value) : Rel w F φ N (ofC v) v := by
  unfold ofC
  split
  · constructor
  · constructor
  · constructor
  · refine .sl [] (Nat.le_refl _) (fun _ => rfl) rfl (fun j u h => by simp at h) (fun j c u h => by simp at h)
  · rename_i h _ _ _
    exact .raw _ h
theorem rel_ofConst {w : World} {F : Nat → Prop} {φ : Nat → Nat × Nat} {N : Nat} (v : Value) : Rel w F φ N (ofConst v) v := by
  unfold ofConst
  split
  · rename_i cs
    refine .agg cs.toList (by simp) (fun j c u h1 h2 => ?_)
    rw [List.getElem?_map, h2] at h1
    simp at h1
    subst h1
    exact rel_ofC _
  · exact rel_ofC _
theorem rel_undef {w : World} {F : Nat → Prop} {φ : Nat → Nat × Nat} {N : Nat} : Rel w F φ N .undef undef := .tup [] rfl (fun j c u h _ => by simp at h)

theorem rel_getD {w : World} {F : Nat → Prop} {φ : Nat → Nat × Nat} {N : Nat} {t : List AV} {a : Act} (h : RelL w F φ N t a.tmps.toList) (n : Nat) : Rel w F φ N (t.getD n .undef) (a.tmps.getD n undef) := by
  simp only [List.getD_eq_getElem?_getD]
  by_cases hn : n < t.length
  · rw [List.getElem?_eq_getElem hn]
    have hn' : n < a.tmps.size := by have := h.1; rw [Array.length_toList] at this; omega
    have := h.2 n _ (a.tmps[n]) (List.getElem?_eq_getElem hn) (by simp [hn'])
    simpa [Array.getD, hn'] using this
  · rw [List.getElem?_eq_none (by omega)]
    have hn' : ¬ n < a.tmps.size := by have := h.1; rw [Array.length_toList] at this; omega
    simpa [Array.getD, hn'] using rel_undef

/-- Operands stand as the temporaries do. -/
theorem rel_eval {w : World} {F : Nat → Prop} {φ : Nat → Nat × Nat} {N : Nat} {t : List AV} {a : Act} (h : RelL w F φ N t a.tmps.toList) (x : Operand) : Rel w F φ N (evalT t x) (a.eval x) := by
  cases x with
  | tmp n => exact rel_getD h n
  | const v => exact rel_ofConst v
  | global g => exact .raw _ (fun x h => by cases h)
  | func f => exact .fn [] [] rfl rfl (fun j c u h => by simp at h) (fun j c u h => by simp at h)

theorem rel_putD {w : World} {F : Nat → Prop} {φ : Nat → Nat × Nat} {N : Nat} {t : List AV} {a : Act} (h : RelL w F φ N t a.tmps.toList) (d : Option Tmp) {v : AV} {u : Value} (hv : Rel w F φ N v u) : RelL w F φ N (putD t d v) (a.put d u).tmps.toList := by
  cases d with
  | none => exact h
  | some d => simp only [putD, Act.put, Array.toList_setIfInBounds]; exact h.set d hv

theorem rel_bool {w : World} {F : Nat → Prop} {φ : Nat → Nat × Nat} {N : Nat} {v : AV} {x : Bool} (h : Rel w F φ N v (.bool x)) : v = .b x := by
  cases h with
  | b => rfl
  | raw v hv => exact absurd rfl (hv x)

theorem awanted_eq {w : World} {F : Nat → Prop} {φ : Nat → Nat × Nat} {N : Nat} {t : List AV} {a : Act} (h : RelL w F φ N t a.tmps.toList) (ops : Array Oper) (o : Oper) : awanted ops o t = Region.wanted o (yielded ops a.tmps) := by
  unfold awanted Region.wanted yielded
  cases o.guard with
  | none => rfl
  | some gw =>
    obtain ⟨g, want⟩ := gw
    cases hd : (ops[g]?).bind (·.dst) with
    | none => simp [hd]
    | some d =>
      simp only [hd, Option.bind_some]
      have hr := rel_getD h d
      have he : a.tmps[d]? = some (a.tmps.getD d undef) ∨ (a.tmps[d]? = none ∧ a.tmps.getD d undef = undef) := by
        rcases Nat.lt_or_ge d a.tmps.size with hn | hn
        · left; rw [Array.getElem?_eq_getElem hn]; simp [Array.getD, hn]
        · right; rw [Array.getElem?_eq_none hn]; simp [Array.getD, Nat.not_lt.2 hn]
      generalize t.getD d .undef = v at hr
      rcases he with he | ⟨he, he2⟩
      · rw [he]
        generalize a.tmps.getD d undef = u at hr
        cases hr <;> simp
        rename_i hv
        split
        · rename_i hb; exact absurd (Option.some.inj hb) (hv _)
        · simp
      · rw [he]
        rw [he2] at hr
        cases v <;> first | rfl | (simp; done) | (cases hr)

/-- The blocks of the store that may still be written. -/
def LiveB (φ : Nat → Nat × Nat) (S : Store) (z : Nat → Bool) (k : Nat) : Prop := ∃ id cs, S[id]? = some (some cs) ∧ z id = false ∧ (φ id).1 = k

/-- The store stands for the memory. -/
structure Sim (w : World) (F : Nat → Prop) (φ : Nat → Nat × Nat) (S : Store) (z : Nat → Bool) : Prop where
  cont : ∀ (id : Nat) cs, S[id]? = some (some cs) → ∃ us, RelL w F φ S.length cs us ∧ ∀ j u, us[j]? = some u → w.cell? ⟨(φ id).1, (φ id).2 + j, none⟩ = some u
  froz : ∀ (id : Nat) cs, S[id]? = some (some cs) → z id = true → F (φ id).1
  live : ∀ (id : Nat) cs, S[id]? = some (some cs) → z id = false → ¬ F (φ id).1 ∧ (φ id).1 < w.heap.size ∧ ∀ o, (w.cell? ⟨(φ id).1, o, none⟩).isSome = true → w.frozen? ⟨(φ id).1, o, none⟩ = false
  inj : ∀ (id id' : Nat) cs cs', S[id]? = some (some cs) → S[id']? = some (some cs') → z id = false → z id' = false → (φ id).1 = (φ id').1 → id = id'
  Fs : ∀ k, F k → k < w.heap.size
  zb : ∀ id, S.length ≤ id → z id = false

/-- From one world to the next: B, L bound what may have been written. -/
structure Evo (B : Nat) (L : Nat → Prop) (w : World) (F : Nat → Prop) (φ : Nat → Nat × Nat) (N : Nat) (w' : World) (F' : Nat → Prop) (φ' : Nat → Nat × Nat) (N' : Nat) : Prop where
  Fle : ∀ k, F k → F' k
  Fnew : ∀ k, F' k → F k ∨ B ≤ k ∨ L k
  φeq : ∀ id, id < N → φ' id = φ id
  Nle : N ≤ N'
  Fkeep : ∀ k, F k → w'.heap[k]? = w.heap[k]?
  keep : ∀ k, k < B → ¬ L k → w'.heap[k]? = w.heap[k]?
  cells : ∀ a, (w.cell? a).isSome = true → (w'.cell? a).isSome = true
  os : w'.os = w.os
  tape : w'.tape = w.tape
  output : w'.output = w.output
  size : w.heap.size ≤ w'.heap.size

theorem Evo.refl {B : Nat} {L : Nat → Prop} {w : World} {F : Nat → Prop} {φ : Nat → Nat × Nat} {N : Nat} : Evo B L w F φ N w F φ N :=
  ⟨fun _ h => h, fun _ h => .inl h, fun _ _ => rfl, Nat.le_refl _, fun _ _ => rfl, fun _ _ _ => rfl, fun _ h => h, rfl, rfl, rfl, Nat.le_refl _⟩
theorem Evo.trans {B : Nat} {L : Nat → Prop} {w w1 w2 : World} {F F1 F2 : Nat → Prop} {φ φ1 φ2 : Nat → Nat × Nat} {N N1 N2 : Nat} (h : Evo B L w F φ N w1 F1 φ1 N1) (k : Evo B L w1 F1 φ1 N1 w2 F2 φ2 N2) : Evo B L w F φ N w2 F2 φ2 N2 where
  Fle := fun _ hk => k.Fle _ (h.Fle _ hk)
  Fnew := fun x hx => (k.Fnew x hx).elim (h.Fnew x) .inr
  φeq := fun id hid => (k.φeq id (Nat.lt_of_lt_of_le hid h.Nle)).trans (h.φeq id hid)
  Nle := Nat.le_trans h.Nle k.Nle
  Fkeep := fun x hx => (k.Fkeep x (h.Fle x hx)).trans (h.Fkeep x hx)
  keep := fun x hx hl => (k.keep x hx hl).trans (h.keep x hx hl)
  cells := fun a ha => k.cells a (h.cells a ha)
  os := k.os.trans h.os
  tape := k.tape.trans h.tape
  output := k.output.trans h.output
  size := Nat.le_trans h.size k.size
theorem Evo.rel {B : Nat} {L : Nat → Prop} {w w' : World} {F F' : Nat → Prop} {φ φ' : Nat → Nat × Nat} {N N' : Nat} (h : Evo B L w F φ N w' F' φ' N') {v : AV} {u : Value} (hv : Rel w F φ N v u) : Rel w' F' φ' N' v u :=
  hv.mono h.Fle h.Fkeep h.cells h.Nle h.φeq
theorem Evo.relL {B : Nat} {L : Nat → Prop} {w w' : World} {F F' : Nat → Prop} {φ φ' : Nat → Nat × Nat} {N N' : Nat} (h : Evo B L w F φ N w' F' φ' N') {cs : List AV} {us : List Value} (hv : RelL w F φ N cs us) : RelL w' F' φ' N' cs us :=
  hv.mono h.Fle h.Fkeep h.cells h.Nle h.φeq
end Go.Proofs.YtggojahlhpijeaaA
