/- The operations that make memory or write to it. No condition. -/
import Derived.Test.YtggojahlhpijeaaA6
namespace Go.Proofs.YtggojahlhpijeaaA
open Go Go.RowKit
set_option linter.unusedSimpArgs false
set_option linter.unusedVariables false
section
variable {P : Program} {w : World} {F : Nat → Prop} {φ : Nat → Nat × Nat} {S : Store} {z : Nat → Bool} {B : Nat} {L : Nat → Prop}

/-- One block more, of cells. -/
structure Pushed (w w' : World) (c : Array Value) : Prop where
  old : ∀ k, k < w.heap.size → w'.heap[k]? = w.heap[k]?
  new : ∃ e fr, w'.heap[w.heap.size]? = some (.cells c e fr) ∧ ∀ o, o < c.size → ¬ (fr.1 ≤ o ∧ o < fr.2)
  size : w'.heap.size = w.heap.size + 1
  os : w'.os = w.os
  tape : w'.tape = w.tape
  output : w'.output = w.output

theorem pushed_alloc (w : World) (c : Array Value) (e : TypeId) : Pushed w (w.alloc (.cells c e)) c where
  old := fun k hk => by show (w.heap.push _)[k]? = _; rw [Array.getElem?_push, if_neg (by omega)]
  new := ⟨e, (0, 0), by show (w.heap.push _)[w.heap.size]? = _; simp, fun o _ h => by omega⟩
  size := by simp
  os := rfl
  tape := rfl
  output := rfl

theorem cell_some {w : World} {a : Addr} {u : Value} (h : w.cell? a = some u) : a.block < w.heap.size := by
  unfold World.cell? at h
  cases hq : w.heap[a.block]? with
  | none => simp [hq] at h
  | some o => exact (Array.getElem?_eq_some_iff.1 hq).1

def upd (φ : Nat → Nat × Nat) (n : Nat) (p : Nat × Nat) : Nat → Nat × Nat := fun id => if id = n then p else φ id
theorem upd_same (φ : Nat → Nat × Nat) (n : Nat) (p : Nat × Nat) : upd φ n p n = p := by simp [upd]
theorem upd_lt (φ : Nat → Nat × Nat) (n : Nat) (p : Nat × Nat) {id : Nat} (h : id < n) : upd φ n p id = φ id := by simp [upd, Nat.ne_of_lt h]

theorem evo_push (hs : Sim w F φ S z) {w' : World} {c : Array Value} (hp : Pushed w w' c) (hB : B ≤ w.heap.size) (p : Nat × Nat) {F' : Nat → Prop} (hF : ∀ k, F k → F' k) (hF' : ∀ k, F' k → F k ∨ w.heap.size ≤ k) {N' : Nat} (hN : S.length ≤ N') : Evo B L w F φ S.length w' F' (upd φ S.length p) N' where
  Fle := hF
  Fnew := fun k h => (hF' k h).imp id (fun h => .inl (by omega))
  φeq := fun id h => upd_lt φ _ _ h
  Nle := hN
  Fkeep := fun k h => hp.old k (hs.Fs k h)
  keep := fun k h _ => hp.old k (by omega)
  cells := fun a h => by
    obtain ⟨u, hu⟩ := Option.isSome_iff_exists.1 h
    rw [World.cell?_of_block (w := w) (hp.old _ (cell_some hu))]
    exact h
  os := hp.os
  tape := hp.tape
  output := hp.output
  size := by rw [hp.size]; omega

theorem pushed_cell {w w' : World} {c : Array Value} (hp : Pushed w w' c) (o : Nat) : w'.cell? ⟨w.heap.size, o, none⟩ = c[o]? := by
  obtain ⟨e, fr, h, _⟩ := hp.new
  simp [World.cell?, h]
theorem pushed_frozen {w w' : World} {c : Array Value} (hp : Pushed w w' c) (o : Nat) (ho : o < c.size) : w'.frozen? ⟨w.heap.size, o, none⟩ = false := by
  obtain ⟨e, fr, h, hf⟩ := hp.new
  have := hf o ho
  simp [World.frozen?, h]
  omega

theorem frozen_of_block {w w' : World} {a : Addr} (h : w'.heap[a.block]? = w.heap[a.block]?) : w'.frozen? a = w.frozen? a := by simp [World.frozen?, h]

/-- The store has one block more. -/
theorem sim_push (hs : Sim w F φ S z) {w' : World} {c : Array Value} (hp : Pushed w w' c) {cs : List AV} (hl : cs.length ≤ c.size) (hr : RelL w F φ S.length cs (c.toList.take cs.length)) :
    Sim w' F (upd φ S.length (w.heap.size, 0)) (S ++ [some cs]) z := by
  have hev : Evo w.heap.size (fun _ => False) w F φ S.length w' F (upd φ S.length (w.heap.size, 0)) (S ++ [some cs]).length := evo_push hs hp (Nat.le_refl _) _ (fun _ h => h) (fun _ h => .inl h) (by simp)
  have hget : ∀ {id : Nat} {cs'}, (S ++ [some cs])[id]? = some (some cs') → (id < S.length ∧ S[id]? = some (some cs')) ∨ (id = S.length ∧ cs' = cs) := by
    intro id cs' h
    rcases Nat.lt_or_ge id S.length with hlt | hge
    · rw [List.getElem?_append_left hlt] at h; exact .inl ⟨hlt, h⟩
    · rw [List.getElem?_append_right hge] at h
      have : id - S.length = 0 := by
        have := (List.getElem?_eq_some_iff.1 h).1
        simpa using this
      rw [this] at h
      simp at h
      exact .inr ⟨by omega, h.symm⟩
  refine ⟨fun id cs' h => ?_, fun id cs' h hz => ?_, fun id cs' h hz => ?_, fun id id' cs1 cs2 h h' hz hz' he => ?_, fun k hk => ?_, fun id hid => ?_⟩
  · rcases hget h with ⟨hlt, h⟩ | ⟨rfl, rfl⟩
    · obtain ⟨us, hru, hat⟩ := hs.cont id cs' h
      refine ⟨us, hev.relL hru, fun j u hj => ?_⟩
      rw [upd_lt φ _ _ hlt]
      have := hat j u hj
      rw [World.cell?_of_block (w := w) (hp.old _ (cell_some this))]
      exact this
    · refine ⟨_, hev.relL hr, fun j u hj => ?_⟩
      rw [upd_same]
      simp only [Nat.zero_add]
      rw [pushed_cell hp]
      rw [List.getElem?_take] at hj
      split at hj
      · simpa using hj
      · cases hj
  · rcases hget h with ⟨hlt, h⟩ | ⟨rfl, rfl⟩
    · rw [upd_lt φ _ _ hlt]; exact hs.froz id cs' h hz
    · rw [hs.zb _ (Nat.le_refl _)] at hz; cases hz
  · rcases hget h with ⟨hlt, h⟩ | ⟨rfl, rfl⟩
    · rw [upd_lt φ _ _ hlt]
      obtain ⟨h1, h2, h3⟩ := hs.live id cs' h hz
      refine ⟨h1, by rw [hp.size]; omega, fun o ho => ?_⟩
      have hb := hp.old _ h2
      rw [frozen_of_block (w := w) hb]
      rw [World.cell?_of_block (w := w) (a := ⟨_, o, none⟩) hb] at ho
      exact h3 o ho
    · rw [upd_same]
      refine ⟨fun hF => absurd (hs.Fs _ hF) (Nat.lt_irrefl _), by rw [hp.size]; omega, fun o ho => ?_⟩
      refine pushed_frozen hp o ?_
      obtain ⟨u, hu⟩ := Option.isSome_iff_exists.1 ho
      rw [pushed_cell hp] at hu
      exact (Array.getElem?_eq_some_iff.1 hu).1
  · rcases hget h with ⟨hlt, h1⟩ | ⟨rfl, rfl⟩ <;> rcases hget h' with ⟨hlt', h1'⟩ | ⟨rfl, rfl⟩
    · rw [upd_lt φ _ _ hlt, upd_lt φ _ _ hlt'] at he; exact hs.inj _ _ _ _ h1 h1' hz hz' he
    · rw [upd_lt φ _ _ hlt, upd_same] at he
      have := (hs.live _ _ h1 hz).2.1
      simp at he; omega
    · rw [upd_lt φ _ _ hlt', upd_same] at he
      have := (hs.live _ _ h1' hz').2.1
      simp at he; omega
    · rfl
  · have := hs.Fs k hk; rw [hp.size]; omega
  · exact hs.zb id (by simp at hid; omega)

theorem live_push {k : Nat} {b : Nat} {cs : List AV} (h : LiveB (upd φ S.length (b, 0)) (S ++ [some cs]) z k) : LiveB φ S z k ∨ k = b := by
  obtain ⟨id, cs', h1, h2, rfl⟩ := h
  rcases Nat.lt_or_ge id S.length with hlt | hge
  · rw [List.getElem?_append_left hlt] at h1
    rw [upd_lt φ _ _ hlt]
    exact .inl ⟨id, cs', h1, h2, rfl⟩
  · right
    have : id = S.length := by
      have := (List.getElem?_eq_some_iff.1 h1).1
      simp at this; omega
    rw [this, upd_same]

theorem sim_block (hs : Sim w F φ S z) {id : Nat} {cs : List AV} (h : S.getD id none = some cs) : S[id]? = some (some cs) := by
  rw [List.getD_eq_getElem?_getD] at h
  cases hq : S[id]? with
  | none => simp [hq] at h
  | some o => simp [hq] at h; rw [h]

theorem getElem?_setAt {α : Type} : ∀ (vs cs : List α) (off j : Nat), off + vs.length ≤ cs.length → (setAt cs off vs)[j]? = if off ≤ j ∧ j < off + vs.length then vs[j - off]? else cs[j]?
  | [], cs, off, j, _ => by
    simp only [setAt, List.length_nil, Nat.add_zero]
    rw [if_neg (by omega)]
  | v :: vs, cs, off, j, h => by
    simp only [setAt]
    simp only [List.length_cons] at h ⊢
    rw [getElem?_setAt vs _ _ _ (by simp; omega)]
    by_cases h1 : off = j
    · subst h1
      rw [if_neg (by omega), if_pos (by omega), List.getElem?_set_self (by omega)]
      simp
    · rw [List.getElem?_set_ne h1]
      by_cases h2 : off + 1 ≤ j ∧ j < off + 1 + vs.length
      · rw [if_pos h2, if_pos (by omega)]
        obtain ⟨m, rfl⟩ : ∃ m, j = off + 1 + m := ⟨j - (off + 1), by omega⟩
        rw [show off + 1 + m - (off + 1) = m by omega, show off + 1 + m - off = m + 1 by omega]
        simp
      · rw [if_neg h2, if_neg (by omega)]
theorem length_setAt {α : Type} : ∀ (vs cs : List α) (off : Nat), (setAt cs off vs).length = cs.length
  | [], _, _ => rfl
  | v :: vs, cs, off => by simp only [setAt]; rw [length_setAt vs]; simp
theorem relL_setAt2 {N : Nat} {cs vs : List AV} {us xs : List Value} {off : Nat} (h : RelL w F φ N cs us) (h' : RelL w F φ N vs xs) (hle : off + vs.length ≤ cs.length) : RelL w F φ N (setAt cs off vs) (setAt us off xs) := by
  refine ⟨by rw [length_setAt, length_setAt, h.1], fun j c u h1 h2 => ?_⟩
  rw [getElem?_setAt _ _ _ _ hle] at h1
  rw [getElem?_setAt _ _ _ _ (by rw [h.1, h'.1]; exact hle), h'.1] at h2
  split at h1
  · rename_i hc
    rw [if_pos hc] at h2
    exact h'.2 _ c u h1 h2
  · rename_i hc
    rw [if_neg hc] at h2
    exact h.2 _ c u h1 h2

theorem heap_setCells (b : Nat) : ∀ (vs : List Value) (o : Nat) (w : World) (k : Nat), k ≠ b → (w.setCells b o vs).heap[k]? = w.heap[k]?
  | [], _, _, _, _ => rfl
  | v :: vs, o, w, k, h => by
    rw [World.setCells, heap_setCells b vs _ _ _ h]
    exact Below.heap_setCell w _ v k h
theorem size_setCells (b : Nat) : ∀ (vs : List Value) (o : Nat) (w : World), (w.setCells b o vs).heap.size = w.heap.size ∧ (w.setCells b o vs).os = w.os ∧ (w.setCells b o vs).tape = w.tape ∧ (w.setCells b o vs).output = w.output
  | [], _, _ => ⟨rfl, rfl, rfl, rfl⟩
  | v :: vs, o, w => by
    rw [World.setCells]
    obtain ⟨h1, h2, h3, h4⟩ := size_setCells b vs (o + 1) (w.setCell ⟨b, o, none⟩ v)
    exact ⟨by rw [h1]; simp, h2, h3, h4⟩
theorem some_setCells (b : Nat) : ∀ (vs : List Value) (o : Nat) (w : World) (a : Addr), ((w.setCells b o vs).cell? a).isSome = (w.cell? a).isSome
  | [], _, _, _ => rfl
  | v :: vs, o, w, a => by
    rw [World.setCells, some_setCells b vs]
    by_cases h : a = ⟨b, o, none⟩
    · subst h
      cases hq : w.cell? ⟨b, o, none⟩ with
      | some u => rw [World.cell?_setCell_same _ _ _ hq]; rfl
      | none =>
        simp only [Option.isSome_none]
        unfold World.cell? at hq ⊢
        simp only [World.setCell, Array.getElem?_modify]
        simp only [if_true]
        cases hb : w.heap[b]? with
        | none => simp
        | some ob =>
          cases ob <;> simp_all
    · rw [World.cell?_setCell_other _ _ _ _ (fun e => h e.symm)]

/-- A block of the store is written. -/
theorem sim_store (hs : Sim w F φ S z) {id : Nat} {cs : List AV} (hid : S[id]? = some (some cs)) (hz : z id = false) {off : Nat} {vs : List AV} {us : List Value} (hr : RelL w F φ S.length vs us) (hle : off + vs.length ≤ cs.length) :
    Sim (w.setCells (φ id).1 ((φ id).2 + off) us) F φ (S.set id (some (setAt cs off vs))) z := by
  obtain ⟨hnF, hlt, hfr⟩ := hs.live id cs hid hz
  obtain ⟨us0, hr0, hat0⟩ := hs.cont id cs hid
  have hlen : us0.length = cs.length := hr0.1
  have hsz := size_setCells (φ id).1 us ((φ id).2 + off) w
  have hidlt : id < S.length := (List.getElem?_eq_some_iff.1 hid).1
  have hget : ∀ {i : Nat} {cs'}, (S.set id (some (setAt cs off vs)))[i]? = some (some cs') → (i = id ∧ cs' = setAt cs off vs) ∨ (i ≠ id ∧ S[i]? = some (some cs')) := by
    intro i cs' h
    by_cases hi : i = id
    · subst hi
      rw [List.getElem?_set_self hidlt] at h
      exact .inl ⟨rfl, by cases h; rfl⟩
    · rw [List.getElem?_set_ne (fun e => hi e.symm)] at h
      exact .inr ⟨hi, h⟩
  have hold : ∀ {i : Nat} {cs'}, (S.set id (some (setAt cs off vs)))[i]? = some (some cs') → ∃ cs2, S[i]? = some (some cs2) := by
    intro i cs' h
    rcases hget h with ⟨rfl, rfl⟩ | ⟨_, h⟩
    · exact ⟨_, hid⟩
    · exact ⟨_, h⟩
  have hheap : ∀ k, F k → (w.setCells (φ id).1 ((φ id).2 + off) us).heap[k]? = w.heap[k]? := fun k hk => heap_setCells _ _ _ _ _ (fun e => hnF (e ▸ hk))
  have hcell : ∀ a, ((w.setCells (φ id).1 ((φ id).2 + off) us).cell? a).isSome = (w.cell? a).isSome := some_setCells _ _ _ _
  have hmono : ∀ {cs3 us'}, RelL w F φ S.length cs3 us' → RelL (w.setCells (φ id).1 ((φ id).2 + off) us) F φ (S.set id (some (setAt cs off vs))).length cs3 us' := by
    intro cs3 us' h
    exact h.mono (fun _ h => h) hheap (fun a h => by rw [hcell]; exact h) (by simp) (fun _ _ => rfl)
  refine ⟨fun i cs' h => ?_, fun i cs' h hzi => ?_, fun i cs' h hzi => ?_, fun i i' cs1 cs2 h h' hzi hzi' he => ?_, fun k hk => ?_, fun i hi => hs.zb i (by simpa using hi)⟩
  · rcases hget h with ⟨rfl, rfl⟩ | ⟨hne, h⟩
    · refine ⟨setAt us0 off us, ?_, fun j u hj => ?_⟩
      · have := relL_setAt2 hr0 hr hle
        exact this.mono (fun _ h => h) hheap (fun a h => by rw [hcell]; exact h) (by simp) (fun _ _ => rfl)
      · rw [getElem?_setAt _ _ _ _ (by rw [hlen, hr.1]; exact hle)] at hj
        split at hj
        · rename_i hc
          have hin := World.cell?_setCells_in (φ i).1 us ((φ i).2 + off) w (fun j hj => by
            have := hat0 (off + j) (us0[off + j]'(by rw [hlen]; have := hr.1; omega)) (List.getElem?_eq_getElem _)
            rw [Nat.add_assoc, this]; rfl) (j - off) (by omega)
          rw [show (φ i).2 + off + (j - off) = (φ i).2 + j by omega] at hin
          rw [hin]
          rw [List.getElem?_eq_getElem (by omega)] at hj
          exact hj
        · rename_i hc
          rw [World.cell?_setCells_out _ _ _ _ _ (fun _ _ => by simp only; omega)]
          exact hat0 j u hj
    · obtain ⟨us1, hr1, hat1⟩ := hs.cont i cs' h
      refine ⟨us1, hmono hr1, fun j u hj => ?_⟩
      have hne2 : (φ i).1 ≠ (φ id).1 := by
        intro e
        cases hzi : z i with
        | true => exact hnF (e ▸ hs.froz i cs' h hzi)
        | false => exact hne (hs.inj i id cs' cs h hid hzi hz e)
      rw [World.cell?_setCells_out _ _ _ _ _ (fun e => absurd e hne2)]
      exact hat1 j u hj
  · obtain ⟨cs2, h2⟩ := hold h
    exact hs.froz i cs2 h2 hzi
  · obtain ⟨cs2, h2⟩ := hold h
    obtain ⟨h3, h4, h5⟩ := hs.live i cs2 h2 hzi
    refine ⟨h3, by rw [hsz.1]; exact h4, fun o ho => ?_⟩
    rw [hcell] at ho
    rw [World.frozen?_setCells]
    exact h5 o ho
  · obtain ⟨cs3, h3⟩ := hold h
    obtain ⟨cs4, h4⟩ := hold h'
    exact hs.inj i i' cs3 cs4 h3 h4 hzi hzi' he
  · rw [hsz.1]; exact hs.Fs k hk

theorem evo_store (hs : Sim w F φ S z) {id : Nat} {cs : List AV} (hid : S[id]? = some (some cs)) (hz : z id = false) (hL : ∀ k, LiveB φ S z k → B ≤ k ∨ L k) (o : Nat) (us : List Value) {N' : Nat} (hN : S.length ≤ N') :
    Evo B L w F φ S.length (w.setCells (φ id).1 o us) F φ N' := by
  obtain ⟨hnF, hlt, hfr⟩ := hs.live id cs hid hz
  have hsz := size_setCells (φ id).1 us o w
  have hb := hL _ ⟨id, cs, hid, hz, rfl⟩
  refine ⟨fun _ h => h, fun _ h => .inl h, fun _ _ => rfl, hN, fun k hk => heap_setCells _ _ _ _ _ (fun e => hnF (e ▸ hk)), fun k hk hl => heap_setCells _ _ _ _ _ (fun e => ?_), fun a h => by rw [some_setCells]; exact h, hsz.2.1, hsz.2.2.1, hsz.2.2.2, by rw [hsz.1]; exact Nat.le_refl _⟩
  rcases hb with hb | hb
  · omega
  · exact hl (e ▸ hb)

theorem sim_evo0 (hs : Sim w F φ S z) {w' : World} (ho : ∀ k, k < w.heap.size → w'.heap[k]? = w.heap[k]?) (hsz : w.heap.size ≤ w'.heap.size) {F' : Nat → Prop} (hF : ∀ k, F k → F' k) (hF' : ∀ k, F' k → F k ∨ (w.heap.size ≤ k ∧ k < w'.heap.size)) : Sim w' F' φ S z := by
  have hcell : ∀ {a u}, w.cell? a = some u → w'.cell? a = some u := fun {a u} h => by rw [World.cell?_of_block (w := w) (ho _ (cell_some h))]; exact h
  have hmono : ∀ {cs us'}, RelL w F φ S.length cs us' → RelL w' F' φ S.length cs us' := fun h => h.mono hF (fun k hk => ho k (hs.Fs k hk)) (fun a h => by
    obtain ⟨u, hu⟩ := Option.isSome_iff_exists.1 h
    rw [hcell hu]; rfl) (Nat.le_refl _) (fun _ _ => rfl)
  refine ⟨fun id cs h => ?_, fun id cs h hz => hF _ (hs.froz id cs h hz), fun id cs h hz => ?_, hs.inj, fun k hk => ?_, hs.zb⟩
  · obtain ⟨us, hr, hat⟩ := hs.cont id cs h
    exact ⟨us, hmono hr, fun j u hj => hcell (hat j u hj)⟩
  · obtain ⟨h1, h2, h3⟩ := hs.live id cs h hz
    refine ⟨fun h => ?_, by omega, fun o hoo => ?_⟩
    · rcases hF' _ h with h | ⟨h, _⟩
      · exact h1 h
      · omega
    · rw [frozen_of_block (w := w) (ho _ h2)]
      rw [World.cell?_of_block (w := w) (a := ⟨_, o, none⟩) (ho _ h2)] at hoo
      exact h3 o hoo
  · rcases hF' k hk with h | ⟨_, h⟩
    · have := hs.Fs k h; omega
    · exact h
theorem evo0 (hs : Sim w F φ S z) {w' : World} (ho : ∀ k, k < w.heap.size → w'.heap[k]? = w.heap[k]?) (hsz : w.heap.size ≤ w'.heap.size) (h1 : w'.os = w.os) (h2 : w'.tape = w.tape) (h3 : w'.output = w.output) (hB : B ≤ w.heap.size) {F' : Nat → Prop} (hF : ∀ k, F k → F' k) (hF' : ∀ k, F' k → F k ∨ (w.heap.size ≤ k ∧ k < w'.heap.size)) : Evo B L w F φ S.length w' F' φ S.length where
  Fle := hF
  Fnew := fun k h => (hF' k h).imp id (fun h => .inl (by omega))
  φeq := fun _ _ => rfl
  Nle := Nat.le_refl _
  Fkeep := fun k h => ho k (hs.Fs k h)
  keep := fun k h _ => ho k (by omega)
  cells := fun a h => by
    obtain ⟨u, hu⟩ := Option.isSome_iff_exists.1 h
    rw [World.cell?_of_block (w := w) (ho _ (cell_some hu))]
    exact h
  os := h1
  tape := h2
  output := h3
  size := hsz

/-- The cells of a slice as the model reads them. -/
theorem slice_cells (hs : Sim w F φ S z) {sz : Nat} {v : AV} {u : Value} (hv : Rel w F φ S.length v u) {n : Nat} {cs : List AV} (h : cellsOfSlice S sz v = some (n, cs)) :
    ∃ A cap, u = .slice A n cap ∧ cs.length = n * sz ∧ ∃ us, RelL w F φ S.length cs us ∧ ∀ j x, us[j]? = some x → ∃ a, A = some a ∧ a.spot = none ∧ w.cell? ⟨a.block, a.off + j, none⟩ = some x := by
  unfold cellsOfSlice at h
  split at h
  · split at h
    · rename_i hl
      cases h
      cases hv with
      | sl us hn hf hlen hat hh =>
        refine ⟨_, _, rfl, hl.symm, us, ⟨hlen, fun j c x h1 h2 => (hh j c x h1 h2).mono (fun _ h => h) (fun _ _ => rfl) (fun _ h => h) (Nat.zero_le _) (fun id hid => absurd hid (Nat.not_lt_zero _))⟩, fun j x hj => ?_⟩
        obtain ⟨a, h1, h2, _, h3⟩ := hat j x hj
        exact ⟨a, h1, h2, h3⟩
    · cases h
  · rename_i id sz' off n'
    split at h
    · rename_i cs0 hcs
      split at h
      · rename_i hc
        cases h
        cases hv with
        | ref hid hn hA hcl =>
          obtain ⟨us, hr, hat⟩ := hs.cont id cs0 (sim_block hs hcs)
          have hr2 := (hr.drop off).take (n * sz)
          refine ⟨_, _, rfl, by rw [List.length_take, List.length_drop]; omega, _, hr2, fun j x hj => ?_⟩
          rw [List.getElem?_take] at hj
          split at hj
          · rename_i hjn
            rw [List.getElem?_drop] at hj
            have hcap : 0 < n := by
              rcases Nat.eq_zero_or_pos n with h0 | h0
              · rw [h0, Nat.zero_mul] at hjn; omega
              · exact h0
            refine ⟨_, hA (by omega), rfl, ?_⟩
            have := hat _ x hj
            rwa [← Nat.add_assoc] at this
          · cases hj
      · cases h
    · cases h
  · cases h
end
end Go.Proofs.YtggojahlhpijeaaA
