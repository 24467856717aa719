/- The built-in functions: len, max, min, append. No condition. -/
import Derived.Test.YtggojahlhpijeaaA8
import Derived.Deep.Upon
namespace Go.Proofs.YtggojahlhpijeaaA
open Go Go.RowKit
set_option linter.unusedSimpArgs false
set_option linter.unusedVariables false
section
variable {P : Program} {w : World} {F : Nat → Prop} {φ : Nat → Nat × Nat} {S : Store} {z : Nat → Bool} {B : Nat} {L : Nat → Prop}

theorem sim_drew (hs : Sim w F φ S z) : Sim w.drew F φ S z :=
  sim_evo0 (w' := w.drew) hs (fun _ _ => rfl) (Nat.le_refl _) (fun _ h => h) (fun _ h => .inl h)

theorem sim_kill (hs : Sim w F φ S z) (id : Nat) : Sim w F φ (S.set id none) z := by
  have hget : ∀ {i : Nat} {cs}, (S.set id none)[i]? = some (some cs) → S[i]? = some (some cs) := by
    intro i cs h
    by_cases hi : id = i
    · subst hi
      rw [List.getElem?_set] at h
      split at h
      · split at h <;> cases h
      · rename_i h0; exact absurd rfl h0
    · rwa [List.getElem?_set_ne hi] at h
  refine ⟨fun i cs h => ?_, fun i cs h => hs.froz i cs (hget h), fun i cs h => hs.live i cs (hget h), fun i i' cs cs' h h' => hs.inj i i' cs cs' (hget h) (hget h'), hs.Fs, fun i hi => hs.zb i (by simpa using hi)⟩
  obtain ⟨us, hr, hat⟩ := hs.cont i cs (hget h)
  exact ⟨us, by simpa using hr, hat⟩
theorem live_kill {id k : Nat} (h : LiveB φ (S.set id none) z k) : LiveB φ S z k := by
  obtain ⟨i, cs, h1, h2, h3⟩ := h
  refine ⟨i, cs, ?_, h2, h3⟩
  by_cases hi : id = i
  · subst hi
    rw [List.getElem?_set] at h1
    split at h1
    · split at h1 <;> cases h1
    · rename_i h0; exact absurd rfl h0
  · rwa [List.getElem?_set_ne hi] at h1

/-- What is appended. -/
theorem src_sound (hs : Sim w F φ S z) {td tx e : TypeId} {y : TI} {i : TypeInfo} (hy : mkT P e = some y) (hi : P.info? e = some i) {x : AV} {u : Value} (hx : Rel w F φ S.length x u) {m : Nat} {news : List AV}
    (h : asrc (mkT P) S y.size tx x = some (m, news)) (hone : news.all AV.one = true) :
    ∃ us, RelL w F φ S.length news us ∧ news.length = m * y.size ∧ Src P i.size tx u m us w := by
  obtain ⟨i', d, zv, hi', hd, hz, hsz, hbz, hzero, _⟩ := mkT_spec hy
  have : i' = i := by rw [hi] at hi'; cases hi'; rfl
  subst this
  unfold asrc at h
  split at h
  · rename_i e' _ _ _ hT
    have hu := und_slice hT rfl
    obtain ⟨A, cap, rfl, hlen, us, hr, hat⟩ := slice_cells hs hx h
    refine ⟨us, hr, hlen, ?_⟩
    have h1 := hr.one hone
    have hl : us.length = m * y.size := by rw [hr.1]; exact hlen
    cases A with
    | none =>
      have : us = [] := by
        cases us with
        | nil => rfl
        | cons v us => obtain ⟨a, h, _⟩ := hat 0 v rfl; cases h
      subst this
      refine ⟨.inl ⟨_, hu⟩, fun _ => rfl, run_firstCells_none w _ _ _ _, run_firstCells_none w.drew _ _ _ _, by rw [hsz]; exact hl, fun _ h => by cases h⟩
    | some a =>
      refine Src.ofSlice w hu a m cap us (by rw [hsz]; exact hl) (fun j u hj => ?_) h1
      obtain ⟨a', ha, hs', hc⟩ := hat j u hj
      cases ha
      rw [add_addr a hs']; exact hc
  · rename_i _ _ _ hT
    have hu := und_str hT rfl
    split at h
    · rename_i v
      split at h
      · rename_i hsz1
        cases h
        cases rel_s hx
        refine ⟨byteCells v, relL_bytes v, by rw [bytesOf_length, hsz1, Nat.mul_one], ?_⟩
        rw [hsz, hsz1]
        exact Src.ofString w hu v
      · cases h
    · cases h
  · cases h

/-- A row that is made anew: what was there and what is appended. -/
theorem append_grow (hs : Sim w F φ S z) (hB : B ≤ w.heap.size) (hL : ∀ k, LiveB φ S z k → B ≤ k ∨ L k) {td tx ty e : TypeId} {y : TI} (ht : P.underlying td = some (.slice e)) (hy : mkT P e = some y) (hzl : y.zero.length = y.size) (hby : y.bytes ≤ 1024)
    {A : Option Addr} {n cap : Nat} {olds : List AV} {us : List Value} (hr : RelL w F φ S.length olds us) (hol : olds.length = n * y.size) (hat : ∀ j x, us[j]? = some x → ∃ a, A = some a ∧ a.spot = none ∧ w.cell? ⟨a.block, a.off + j, none⟩ = some x)
    {x : Value} {m : Nat} {news : List AV} {vs : List Value} (hv : RelL w F φ S.length news vs) (hnl : news.length = m * y.size) (hsrc : ∀ i, P.info? e = some i → Src P i.size tx x m vs w) (hcap : cap < n + m) (hle : n + m ≤ 1073741824) :
    ∃ u w', (Builtin.append_ #[td, tx] ty #[.slice A n cap, x]).run P w = .ok u w' ∧ Left B L w F φ S (.ref S.length y.size 0 (n + m)) (S ++ [some (olds ++ news)]) z u w' := by
  obtain ⟨i, d, zv, hi, hd, hz, hsz, hbz, hzero, _⟩ := mkT_spec hy
  have hzc : zv.cells.size = y.size := by rw [← hzl, hzero]; simp
  have hold : (Builtin.firstCells i.size n (.slice A n cap)).run P w.drew = .ok us.toArray w.drew := by
    cases A with
    | none =>
      have : us = [] := by
        cases us with
        | nil => rfl
        | cons v us => obtain ⟨a, h, _⟩ := hat 0 v rfl; cases h
      subst this
      exact run_firstCells_none w.drew _ _ _ _
    | some a =>
      refine run_firstCells_some w.drew _ _ a _ _ us (by rw [hr.1, hol, hsz]) (fun j u hj => ?_)
      obtain ⟨a', ha, hs', hc⟩ := hat j u hj
      cases ha
      rw [add_addr a hs']; simpa using hc
  have hfit : Builtin.nextslicecap (n + m) cap * i.bytes ≤ 281474976710656 := by
    refine growslice_fits hcap ?_
    rw [hbz]
    calc (n + m) * y.bytes ≤ 1073741824 * 1024 := Nat.mul_le_mul hle hby
      _ ≤ 140737488355328 := by decide
  have hrun := run_append_grow_src w td tx ty e i zv ht hi hz A n cap us hold x m vs (hsrc i hi) hcap (by omega) hfit
  have hge := grownCap_ge w (n + m) cap e
  have hsd := sim_drew hs
  have hul : us.length = n * y.size := by rw [hr.1, hol]
  have hvl : vs.length = m * y.size := by rw [hv.1, hnl]
  have hp := pushed_alloc w.drew ((us ++ vs).toArray ++ Builtin.zeroCells zv.cells (grownCap w (n + m) cap e - (n + m))) e
  have hsize : ((us ++ vs).toArray ++ Builtin.zeroCells zv.cells (grownCap w (n + m) cap e - (n + m))).size = grownCap w (n + m) cap e * y.size := by
    rw [Array.size_append, size_zeroCells, hzc]
    simp only [List.size_toArray, List.length_append, hul, hvl]
    rw [← Nat.add_mul, ← Nat.add_mul]
    congr 1; omega
  have hlen : (olds ++ news).length = (n + m) * y.size := by rw [List.length_append, hol, hnl, Nat.add_mul]
  refine ⟨_, _, hrun, ?_⟩
  have hleft : Left B L w.drew F φ S (.ref S.length y.size 0 (n + m)) (S ++ [some (olds ++ news)]) z (.slice (some ⟨w.heap.size, 0, none⟩) (n + m) (grownCap w (n + m) cap e)) (w.drew.alloc (.cells ((us ++ vs).toArray ++ Builtin.zeroCells zv.cells (grownCap w (n + m) cap e - (n + m))) e)) := by
    refine left_push hsd hB hL hp ?_ ?_ ?_
    · rw [hlen, hsize]; exact Nat.mul_le_mul_right _ hge
    · rw [hlen, Array.toList_append, List.take_append_of_le_length (by simp only [List.length_append, hul, hvl, Nat.add_mul]; exact Nat.le_refl _), List.take_of_length_le (by simp only [List.length_append, hul, hvl, Nat.add_mul]; exact Nat.le_refl _)]
      have := hr.append hv
      exact this.mono (fun _ h => h) (fun _ _ => rfl) (fun _ h => h) (Nat.le_refl _) (fun _ _ => rfl)
    · refine .ref (by omega) hge (fun _ => by rw [upd_same]; rfl) (fun j hj => ?_)
      rw [upd_same]
      simp only [Nat.zero_add]
      rw [pushed_cell hp, Array.getElem?_eq_getElem (by rw [hsize]; exact hj)]
      rfl
  obtain ⟨F', φ', h1, h2, h3, h4⟩ := hleft
  exact ⟨F', φ', h1, h2, ⟨h3.Fle, h3.Fnew, h3.φeq, h3.Nle, h3.Fkeep, h3.keep, h3.cells, h3.os, h3.tape, h3.output, h3.size⟩, h4⟩

/-- Room behind what the call owns. -/
theorem append_room (hs : Sim w F φ S z) (hB : B ≤ w.heap.size) (hL : ∀ k, LiveB φ S z k → B ≤ k ∨ L k) {td tx ty e : TypeId} {y : TI} (ht : P.underlying td = some (.slice e)) (hy : mkT P e = some y)
    {id off n cap : Nat} {cs : List AV} (hid : S[id]? = some (some cs)) (hz : z id = false) (hend : off + n * y.size = cs.length) (hcl : ∀ j, j < cap * y.size → (w.cell? ⟨(φ id).1, (φ id).2 + off + j, none⟩).isSome = true)
    {x : Value} {m : Nat} {news : List AV} {vs : List Value} (hv : RelL w F φ S.length news vs) (hnl : news.length = m * y.size) (hsrc : ∀ i, P.info? e = some i → Src P i.size tx x m vs w) (hcap : n + m ≤ cap) :
    ∃ u w', (Builtin.append_ #[td, tx] ty #[.slice (some ⟨(φ id).1, (φ id).2 + off, none⟩) n cap, x]).run P w = .ok u w' ∧ Left B L w F φ S (.ref S.length y.size 0 (n + m)) (S.set id none ++ [some (cs.drop off ++ news)]) z u w' := by
  obtain ⟨i, d, zv, hi, hd, hzv, hsz, hbz, hzero, _⟩ := mkT_spec hy
  obtain ⟨hnF, hlt, hfr⟩ := hs.live id cs hid hz
  obtain ⟨us0, hr0, hat0⟩ := hs.cont id cs hid
  have hvl : vs.length = m * y.size := by rw [hv.1, hnl]
  have hroom : n * y.size + m * y.size ≤ cap * y.size := by rw [← Nat.add_mul]; exact Nat.mul_le_mul_right _ hcap
  have hc : ∀ j, j < vs.length → (w.cell? ⟨(φ id).1, (φ id).2 + off + n * i.size + j, none⟩).isSome = true := by
    intro j hj
    rw [hsz, Nat.add_assoc _ (n * y.size) j]
    exact hcl _ (by omega)
  have hf : ∀ j, j < vs.length → w.frozen? ⟨(φ id).1, (φ id).2 + off + n * i.size + j, none⟩ = false := fun j hj => hfr _ (hc j hj)
  have hrun := run_append_room_src w td tx ty e i ht hi (φ id).1 ((φ id).2 + off) n cap x m vs (hsrc i hi) hcap hc hf
  rw [hsz] at hrun
  refine ⟨_, _, hrun, F, upd φ S.length ((φ id).1, (φ id).2 + off), ?_, ?_, ?_, ?_⟩
  · have hlen : (S.set id none ++ [some (cs.drop off ++ news)]).length = S.length + 1 := by simp
    rw [hlen]
    refine .ref (by omega) (by omega) (fun _ => by rw [upd_same]; rfl) (fun j hj => ?_)
    rw [upd_same, some_setCells]
    simp only [Nat.add_zero]
    exact hcl j hj
  · have hs2 := sim_kill hs id
    have hev : Evo B L w F φ S.length (w.setCells (φ id).1 ((φ id).2 + off + n * y.size) vs) F φ S.length := evo_store hs hid hz hL _ _ (Nat.le_refl _)
    have hset : ∀ (k : Nat), k ≠ (φ id).1 → (w.setCells (φ id).1 ((φ id).2 + off + n * y.size) vs).heap[k]? = w.heap[k]? := fun k hk => heap_setCells _ _ _ _ _ hk
    have hget : ∀ {i : Nat} {cs'}, (S.set id none ++ [some (cs.drop off ++ news)])[i]? = some (some cs') → (i < S.length ∧ i ≠ id ∧ S[i]? = some (some cs')) ∨ (i = S.length ∧ cs' = cs.drop off ++ news) := by
      intro i cs' h
      rcases Nat.lt_or_ge i S.length with hlt | hge
      · rw [List.getElem?_append_left (by simpa using hlt)] at h
        by_cases hi : id = i
        · subst hi; rw [List.getElem?_set_self hlt] at h; cases h
        · rw [List.getElem?_set_ne hi] at h
          exact .inl ⟨hlt, fun e => hi e.symm, h⟩
      · rw [List.getElem?_append_right (by simpa using hge)] at h
        have : i - (S.set id none).length = 0 := by
          have := (List.getElem?_eq_some_iff.1 h).1
          simpa using this
        rw [this] at h
        simp at h this
        exact .inr ⟨by omega, h.symm⟩
    have hmono : ∀ {cs3 us'}, RelL w F φ S.length cs3 us' → RelL (w.setCells (φ id).1 ((φ id).2 + off + n * y.size) vs) F (upd φ S.length ((φ id).1, (φ id).2 + off)) (S.set id none ++ [some (cs.drop off ++ news)]).length cs3 us' := by
      intro cs3 us' h
      exact h.mono (fun _ h => h) hev.Fkeep hev.cells (by simp) (fun i hi => upd_lt φ _ _ hi)
    have hsz2 := size_setCells (φ id).1 vs ((φ id).2 + off + n * y.size) w
    refine ⟨fun i cs' h => ?_, fun i cs' h hzi => ?_, fun i cs' h hzi => ?_, fun i i' cs1 cs2 h h' hzi hzi' he => ?_, fun k hk => by rw [hsz2.1]; exact hs.Fs k hk, fun i hi => hs.zb i (by simp at hi; omega)⟩
    · rcases hget h with ⟨hlt2, hne, h⟩ | ⟨rfl, rfl⟩
      · obtain ⟨us1, hr1, hat1⟩ := hs.cont i cs' h
        refine ⟨us1, hmono hr1, fun j u hj => ?_⟩
        rw [upd_lt φ _ _ hlt2]
        have hne2 : (φ i).1 ≠ (φ id).1 := by
          intro e
          cases hzi : z i with
          | true => exact hnF (e ▸ hs.froz i cs' h hzi)
          | false => exact hne (hs.inj i id cs' cs h hid hzi hz e)
        rw [World.cell?_of_block (w := w) (a := ⟨(φ i).1, _, none⟩) (hset _ hne2)]
        exact hat1 j u hj
      · refine ⟨us0.drop off ++ vs, hmono ((hr0.drop off).append hv), fun j u hj => ?_⟩
        rw [upd_same]
        have hdl : (us0.drop off).length = n * y.size := by rw [List.length_drop, hr0.1]; omega
        rcases Nat.lt_or_ge j (n * y.size) with hjl | hjl
        · rw [List.getElem?_append_left (by omega), List.getElem?_drop] at hj
          rw [World.cell?_setCells_out _ _ _ _ _ (fun _ _ => by simp only; omega)]
          have := hat0 _ u hj
          rwa [← Nat.add_assoc] at this
        · rw [List.getElem?_append_right (by omega), hdl] at hj
          have hin := World.cell?_setCells_in (φ id).1 vs ((φ id).2 + off + n * y.size) w (fun q hq => by have := hc q hq; rwa [hsz] at this) (j - n * y.size) (List.getElem?_eq_some_iff.1 hj).1
          rw [show (φ id).2 + off + n * y.size + (j - n * y.size) = (φ id).2 + off + j by omega] at hin
          rw [hin]
          rw [List.getElem?_eq_getElem (List.getElem?_eq_some_iff.1 hj).1] at hj
          exact hj
    · rcases hget h with ⟨hlt2, hne, h⟩ | ⟨rfl, rfl⟩
      · rw [upd_lt φ _ _ hlt2]; exact hs.froz i cs' h hzi
      · rw [hs.zb _ (Nat.le_refl _)] at hzi; cases hzi
    · rcases hget h with ⟨hlt2, hne, h⟩ | ⟨rfl, rfl⟩
      · rw [upd_lt φ _ _ hlt2]
        obtain ⟨h3, h4, h5⟩ := hs.live i cs' h hzi
        refine ⟨h3, by rw [hsz2.1]; exact h4, fun o ho => ?_⟩
        rw [some_setCells] at ho
        rw [World.frozen?_setCells]
        exact h5 o ho
      · rw [upd_same]
        refine ⟨hnF, by rw [hsz2.1]; exact hlt, fun o ho => ?_⟩
        rw [some_setCells] at ho
        rw [World.frozen?_setCells]
        exact hfr o ho
    · rcases hget h with ⟨hlt2, hne, h⟩ | ⟨rfl, rfl⟩ <;> rcases hget h' with ⟨hlt2', hne', h'⟩ | ⟨rfl, rfl⟩
      · rw [upd_lt φ _ _ hlt2, upd_lt φ _ _ hlt2'] at he; exact hs.inj _ _ _ _ h h' hzi hzi' he
      · rw [upd_lt φ _ _ hlt2, upd_same] at he
        exact absurd (hs.inj _ _ _ _ h hid hzi hz he) hne
      · rw [upd_lt φ _ _ hlt2', upd_same] at he
        exact absurd (hs.inj _ _ _ _ h' hid hzi' hz he.symm) hne'
      · rfl
  · have hev : Evo B L w F φ S.length (w.setCells (φ id).1 ((φ id).2 + off + n * y.size) vs) F φ S.length := evo_store hs hid hz hL _ _ (Nat.le_refl _)
    exact ⟨hev.Fle, hev.Fnew, fun i hi => upd_lt φ _ _ hi, by simp, hev.Fkeep, hev.keep, hev.cells, hev.os, hev.tape, hev.output, hev.size⟩
  · intro k hk
    obtain ⟨i, cs', h1, h2, h3⟩ := hk
    rcases Nat.lt_or_ge i S.length with hlt2 | hge
    · rw [upd_lt φ _ _ hlt2] at h3
      rw [List.getElem?_append_left (by simpa using hlt2)] at h1
      by_cases hi2 : id = i
      · subst hi2; rw [List.getElem?_set_self hlt2] at h1; cases h1
      · rw [List.getElem?_set_ne hi2] at h1
        exact hL k ⟨i, cs', h1, h2, h3⟩
    · have : i = S.length := by
        have := (List.getElem?_eq_some_iff.1 h1).1
        simp at this; omega
      subst this
      rw [upd_same] at h3
      exact hL k ⟨id, cs, hid, hz, h3⟩

theorem aappend_sound (hs : Sim w F φ S z) (hB : B ≤ w.heap.size) (hL : ∀ k, LiveB φ S z k → B ≤ k ∨ L k) {td tx ty e : TypeId} {y : TI} (ht : P.underlying td = some (.slice e)) (hy : mkT P e = some y) (hsz0 : 0 < y.size) (hby : y.bytes ≤ 1024) (hzl : y.zero.length = y.size)
    {d : AV} {ud ux : Value} (hd : Rel w F φ S.length d ud) {m : Nat} {news : List AV} {vs : List Value} (hv : RelL w F φ S.length news vs) (hnl : news.length = m * y.size) (hsr : ∀ i, P.info? e = some i → Src P i.size tx ux m vs w) {v : AV} {S' : Store}
    (h : aappend S z y m news d = some (v, S')) : ∃ u w', (Builtin.append_ #[td, tx] ty #[ud, ux]).run P w = .ok u w' ∧ Left B L w F φ S v S' z u w' := by
  obtain ⟨i, di, zi, hi, _⟩ := mkT_spec hy
  have hnone : m = 0 → vs = [] := by
    intro hm
    apply List.eq_nil_of_length_eq_zero
    rw [hv.1, hnl, hm, Nat.zero_mul]
  unfold aappend at h
  split at h
  · obtain ⟨A, rfl⟩ : ∃ A, ud = .slice A 0 0 := by
      cases hd with
      | sl us0 hn hf hl hat hh => exact ⟨_, by rw [hf rfl]⟩
    split at h
    · rename_i hm
      cases h
      have hvn := hnone hm
      subst hvn; subst hm
      exact ⟨_, w, run_append_nothing w td tx ty e i ht hi A 0 0 (Nat.le_refl _) ux (hsr i hi), left_same hs hL hd⟩
    · rename_i hm
      split at h
      · rename_i hmax
        cases h
        have := append_grow hs hB hL (td := td) (tx := tx) (ty := ty) ht hy hzl hby (A := A) (n := 0) (cap := 0) (olds := []) (us := []) RelL.nil (by simp) (fun j x h => by simp at h) hv hnl hsr (by omega) (by omega)
        simp only [List.nil_append, Nat.zero_add] at this
        exact this
      · cases h
  · rename_i n cs _
    split at h
    · rename_i hc
      obtain ⟨hl, hm0, hmax⟩ := hc
      cases h
      cases hd with
      | sl us0 hn hf hlen hat hh =>
        rename_i A cap
        have := hf rfl
        subst this
        exact append_grow hs hB hL (td := td) (tx := tx) (ty := ty) ht hy hzl hby (A := A) (n := cap) (cap := cap) (olds := cs) (us := us0) ⟨hlen, fun j c u h1 h2 => (hh j c u h1 h2).mono (fun _ h => h) (fun _ _ => rfl) (fun _ h => h) (Nat.zero_le _) (fun id hid => absurd hid (Nat.not_lt_zero _))⟩ hl.symm (fun j x hj => by obtain ⟨a, h1, h2, _, h3⟩ := hat j x hj; exact ⟨a, h1, h2, h3⟩) hv hnl hsr (by omega) hmax
    · cases h
  · rename_i id sz off n
    split at h
    · rename_i cs hcs
      have hid := sim_block hs hcs
      split at h
      · rename_i hc
        obtain ⟨rfl, hz, hend, hmax⟩ := hc
        split at h
        · rename_i hm
          cases h
          have hvn := hnone hm
          subst hvn; subst hm
          obtain ⟨A, cap, rfl, hle⟩ : ∃ A cap, ud = .slice A n cap ∧ n ≤ cap := by cases hd; exact ⟨_, _, rfl, by assumption⟩
          exact ⟨_, w, run_append_nothing w td tx ty e i ht hi A n cap hle ux (hsr i hi), left_same hs hL hd⟩
        · rename_i hm
          cases h
          cases hd with
          | ref hidl hn hA hcl =>
            rename_i A cap
            by_cases hroom : n + m ≤ cap
            · have hA' := hA (by omega)
              subst hA'
              exact append_room hs hB hL ht hy hid hz hend hcl hv hnl hsr hroom
            · obtain ⟨us0, hr0, hat0⟩ := hs.cont id cs hid
              have hk := sim_kill hs id
              have hLk : ∀ k, LiveB φ (S.set id none) z k → B ≤ k ∨ L k := fun k h => hL k (live_kill h)
              have hg := append_grow (S := S.set id none) hk hB hLk (td := td) (tx := tx) (ty := ty) ht hy hzl hby (A := A) (n := n) (cap := cap) (olds := cs.drop off) (us := us0.drop off) (by simpa using hr0.drop off) (by rw [List.length_drop]; omega) (fun j x hj => by
                rw [List.getElem?_drop] at hj
                have hlt := (List.getElem?_eq_some_iff.1 hj).1
                rw [hr0.1] at hlt
                have hn0 : 0 < n := by
                  rcases Nat.eq_zero_or_pos n with h0 | h0
                  · rw [h0, Nat.zero_mul] at hend; omega
                  · exact h0
                refine ⟨_, hA (by omega), rfl, ?_⟩
                have := hat0 _ x hj
                rwa [← Nat.add_assoc] at this) (by simpa using hv) hnl hsr (by omega) hmax
              obtain ⟨u, w', h1, F', φ', h2, h3, h4, h5⟩ := hg
              simp only [List.length_set] at h2 h4
              exact ⟨u, w', h1, F', φ', h2, h3, h4, h5⟩
      · cases h
    · cases h
  · cases h

theorem builtin_sound (hs : Sim w F φ S z) (hB : B ≤ w.heap.size) (hL : ∀ k, LiveB φ S z k → B ≤ k ∨ L k) {b : Builtin} {ts : List TypeId} {ty : TypeId} {cn : Array Bool} {args : List AV} {us : List Value} (hr : RelL w F φ S.length args us) {v : AV} {S' : Store}
    (h : abuiltin (mkT P) S z b ts args = some (v, S')) : ∃ u w', (builtin b ts.toArray ty cn us.toArray).run P w = .ok (.value u) w' ∧ Left B L w F φ S v S' z u w' := by
  unfold abuiltin at h
  split at h
  · rename_i t x
    obtain ⟨u, us', rfl, hx, hr⟩ := hr.uncons
    cases hr.nil_inv
    split at h
    · rename_i _ _ _ hT
      have hu := und_str hT rfl
      split at h
      · cases h
        cases rel_s hx
        exact ⟨_, w, by simp [builtin, Builtin.len_, run_underlying hu]; rfl, left_same hs hL (.i _ _)⟩
      · cases h
    · rename_i _ _ _ _ hT
      have hu := und_slice hT rfl
      split at h
      · rename_i fu n cs
        cases h
        obtain ⟨A, cap, rfl⟩ : ∃ A cap, u = .slice A n cap := by cases hx; exact ⟨_, _, rfl⟩
        exact ⟨_, w, by simp [builtin, Builtin.len_, run_underlying hu]; rfl, left_same hs hL (.i _ _)⟩
      · rename_i id sz off n
        cases h
        obtain ⟨A, cap, rfl⟩ : ∃ A cap, u = .slice A n cap := by cases hx; exact ⟨_, _, rfl⟩
        exact ⟨_, w, by simp [builtin, Builtin.len_, run_underlying hu]; rfl, left_same hs hL (.i _ _)⟩
      · cases h
    · cases h
  · rename_i k x k' y
    obtain ⟨u, us', rfl, hx, hr⟩ := hr.uncons
    obtain ⟨u2, us2, rfl, hx2, hr⟩ := hr.uncons
    cases hr.nil_inv
    cases rel_i hx; cases rel_i hx2
    cases h
    exact ⟨_, w, by simp [builtin, Builtin.max_, Builtin.max2]; rfl, left_same hs hL (.i _ _)⟩
  · rename_i k x k' y
    obtain ⟨u, us', rfl, hx, hr⟩ := hr.uncons
    obtain ⟨u2, us2, rfl, hx2, hr⟩ := hr.uncons
    cases hr.nil_inv
    cases rel_i hx; cases rel_i hx2
    cases h
    exact ⟨_, w, by simp [builtin, Builtin.min_, Builtin.min2]; rfl, left_same hs hL (.i _ _)⟩
  · rename_i td tx d x
    obtain ⟨ud, us', rfl, hd, hr⟩ := hr.uncons
    obtain ⟨ux, us2, rfl, hx, hr⟩ := hr.uncons
    cases hr.nil_inv
    split at h
    · rename_i e _ _ _ hT
      have ht := und_slice hT rfl
      split at h
      · rename_i y hy
        split at h
        · rename_i hcond
          obtain ⟨hsz0, hby, hzl⟩ := hcond
          split at h
          · rename_i m news hsrc
            split at h
            · rename_i hone
              obtain ⟨i, di, zi, hi, _⟩ := mkT_spec hy
              obtain ⟨vs, hv, hnl, hsr⟩ := src_sound (td := td) hs hy hi hx hsrc hone
              obtain ⟨u, w', h1, h2⟩ := aappend_sound (tx := tx) (ty := ty) (ux := ux) hs hB hL ht hy hsz0 hby hzl hd hv hnl (fun i' hi' => by rw [hi] at hi'; cases hi'; exact hsr) h
              refine ⟨u, w', ?_, h2⟩
              simp only [builtin, Sem.run_bind]
              rw [h1]; rfl
            · cases h
          · cases h
        · cases h
      · cases h
    · cases h
  · cases h
end
end Go.Proofs.YtggojahlhpijeaaA
