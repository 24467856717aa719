/- Calls: what a function is said to do, and how its caller takes it. No condition. -/
import Derived.Test.YtggojahlhpijeaaA9
namespace Go.Proofs.YtggojahlhpijeaaA
open Go Go.RowKit
set_option linter.unusedSimpArgs false
set_option linter.unusedVariables false
section
variable {P : Program} {w : World} {F : Nat → Prop} {φ : Nat → Nat × Nat} {S : Store} {z : Nat → Bool} {B : Nat} {L : Nat → Prop} {N : Nat}

/-- The blocks behind names. -/
def Fr (F : Nat → Prop) (φ : Nat → Nat × Nat) (S : Store) (l : List Nat) (k : Nat) : Prop := F k ∨ ∃ id, id ∈ l ∧ (∃ cs, S[id]? = some (some cs)) ∧ (φ id).1 = k

theorem rel_nf {v : AV} {u : Value} (hv : Rel w F φ N v u) (h : v.closed = true) : Rel w F φ 0 v.nf u := by
  cases hv with
  | b => constructor
  | i => constructor
  | s => constructor
  | raw _ hv => exact .raw _ hv
  | sl us hn hf hl hat hh => exact .sl us hn (fun h => by cases h) hl hat hh
  | _ => simp [AV.closed] at h

theorem relF {F' : Nat → Prop} {v : AV} {u : Value} (hv : Rel w F φ N v u) (hF : ∀ k, F k → F' k) : Rel w F' φ N v u :=
  hv.mono hF (fun _ _ => rfl) (fun _ h => h) (Nat.le_refl _) (fun _ _ => rfl)
theorem relLF {F' : Nat → Prop} {v : List AV} {u : List Value} (hv : RelL w F φ N v u) (hF : ∀ k, F k → F' k) : RelL w F' φ N v u :=
  hv.mono hF (fun _ _ => rfl) (fun _ h => h) (Nat.le_refl _) (fun _ _ => rfl)

theorem mapO_sound {f : AV → Option AV} {g : AV → List Nat} (hf : ∀ v u v', Rel w F φ S.length v u → f v = some v' → Rel w (Fr F φ S (g v)) φ 0 v' u) : ∀ {vs : List AV} {us : List Value} {vs' : List AV}, RelL w F φ S.length vs us → mapO f vs = some vs' → RelL w (Fr F φ S (vs.flatMap g)) φ 0 vs' us
  | [], us, vs', hr, h => by cases hr.nil_inv; simp [mapO] at h; subst h; exact RelL.nil
  | v :: vs, us, vs', hr, h => by
    obtain ⟨u, us', rfl, hv, hvs⟩ := hr.uncons
    simp only [mapO] at h
    split at h
    · rename_i y hy
      split at h
      · rename_i ys hys
        cases h
        refine RelL.cons (relF (hf v u y hv hy) (fun k hk => ?_)) (relLF (mapO_sound hf hvs hys) (fun k hk => ?_))
        · rcases hk with hk | ⟨id, h1, h2⟩
          · exact .inl hk
          · exact .inr ⟨id, by simp [h1], h2⟩
        · rcases hk with hk | ⟨id, h1, h2⟩
          · exact .inl hk
          · refine .inr ⟨id, ?_, h2⟩
            simp only [List.flatMap_cons, List.mem_append]
            exact .inr h1
      · cases h
    · cases h

theorem deep_sound (hs : Sim w F φ S z) : ∀ (d : Nat) (v : AV) (u : Value) (v' : AV), Rel w F φ S.length v u → deep S d v = some v' → Rel w (Fr F φ S (refs d v)) φ 0 v' u
  | 0, v, u, v', hv, h => by simp [deep] at h
  | d + 1, v, u, v', hv, h => by
    have ih := deep_sound hs d
    have hF : ∀ {l : List Nat} k, F k → Fr F φ S l k := fun k hk => .inl hk
    cases hv with
    | b => simp [deep] at h; subst h; constructor
    | i => simp [deep] at h; subst h; constructor
    | s => simp [deep] at h; subst h; constructor
    | raw _ hv => simp [deep] at h; subst h; exact .raw _ hv
    | sl us hn hf hl hat hh =>
      simp [deep] at h; subst h
      exact relF (.sl us hn (fun h => by cases h) hl hat hh) hF
    | fad => simp [deep] at h
    | ptr => simp [deep] at h
    | ref hid hn hA hc =>
      rename_i id sz off n A cap
      simp only [deep] at h
      split at h
      · rename_i cs hcs
        split at h
        · rename_i hcond
          cases h
          have hid2 := sim_block hs hcs
          obtain ⟨us, hr, hat⟩ := hs.cont id cs hid2
          have hr2 := (hr.drop off).take (n * sz)
          refine .sl ((us.drop off).take (n * sz)) hn (fun h => by cases h) (by rw [List.length_map]; exact hr2.1) (fun j u hj => ?_) (fun j c u h1 h2 => ?_)
          · rw [List.getElem?_take] at hj
            split at hj
            · rename_i hjn
              rw [List.getElem?_drop] at hj
              have hn0 : 0 < n := by
                rcases Nat.eq_zero_or_pos n with h0 | h0
                · rw [h0, Nat.zero_mul] at hjn; omega
                · exact h0
              refine ⟨_, hA (by omega), rfl, .inr ⟨id, by simp [refs], ⟨cs, hid2⟩, rfl⟩, ?_⟩
              have := hat _ u hj
              rwa [← Nat.add_assoc] at this
            · cases hj
          · rw [List.getElem?_map] at h1
            cases hq : ((cs.drop off).take (n * sz))[j]? with
            | none => rw [hq] at h1; cases h1
            | some c0 =>
              rw [hq] at h1
              cases h1
              have hm : c0 ∈ cs := List.mem_of_mem_drop (List.mem_of_mem_take (List.mem_of_getElem? hq))
              exact relF (rel_nf (hr2.2 j c0 u hq h2) (List.all_eq_true.1 hcond.2 _ hm)) hF
        · cases h
      · cases h
    | agg us hl hh =>
      simp only [deep] at h
      rename_i cs
      cases hq : mapO (deep S d) cs with
      | none => rw [hq] at h; cases h
      | some cs' =>
        rw [hq] at h; cases h
        have := mapO_sound (g := refs d) ih ⟨hl, hh⟩ hq
        exact .agg us this.1 this.2
    | tup us hl hh =>
      simp only [deep] at h
      rename_i cs
      cases hq : mapO (deep S d) cs with
      | none => rw [hq] at h; cases h
      | some cs' =>
        rw [hq] at h; cases h
        have := mapO_sound (g := refs d) ih ⟨hl, hh⟩ hq
        exact .tup us this.1 this.2
    | fn us vs hl hl' hh hh' =>
      rename_i ff aa cc
      simp only [deep] at h
      split at h
      · rename_i a1 c1 h1 h2
        cases h
        have e1 := mapO_sound (g := refs d) ih ⟨hl, hh⟩ h1
        have e2 := mapO_sound (g := refs d) ih ⟨hl', hh'⟩ h2
        have f1 := relLF e1 (F' := Fr F φ S (refs (d + 1) (.fn ff aa cc))) (fun k hk => by
          rcases hk with hk | ⟨id, h1, h2⟩
          · exact .inl hk
          · exact .inr ⟨id, by simp only [refs, List.mem_append]; exact .inl h1, h2⟩)
        have f2 := relLF e2 (F' := Fr F φ S (refs (d + 1) (.fn ff aa cc))) (fun k hk => by
          rcases hk with hk | ⟨id, h1, h2⟩
          · exact .inl hk
          · exact .inr ⟨id, by simp only [refs, List.mem_append]; exact .inr h1, h2⟩)
        exact .fn us vs f1.1 f2.1 f1.2 f2.2
      · cases h

theorem refs_lt : ∀ (d : Nat) (v : AV) (u : Value), Rel w F φ N v u → ∀ id ∈ refs d v, id < N
  | 0, v, u, hv, id, h => by simp [refs] at h
  | d + 1, v, u, hv, id, h => by
    have ih := refs_lt d
    have key : ∀ {cs : List AV} {us : List Value}, RelL w F φ N cs us → id ∈ cs.flatMap (refs d) → id < N := by
      intro cs us hr hm
      obtain ⟨c, hc, hm⟩ := List.mem_flatMap.1 hm
      obtain ⟨j, hj⟩ := List.getElem?_of_mem hc
      obtain ⟨u, _, hu⟩ := hr.get hj
      exact ih c u hu id hm
    cases hv with
    | ref hid => simp [refs] at h; subst h; exact hid
    | agg us hl hh => simp only [refs] at h; exact key ⟨hl, hh⟩ h
    | tup us hl hh => simp only [refs] at h; exact key ⟨hl, hh⟩ h
    | fn us vs hl hl' hh hh' =>
      simp only [refs, List.mem_append] at h
      rcases h with h | h
      · exact key ⟨hl, hh⟩ h
      · exact key ⟨hl', hh'⟩ h
    | _ => simp [refs] at h

theorem frz_apply (l : List Nat) : ∀ (z : Nat → Bool) (k : Nat), frz z l k = (z k || l.contains k) := by
  induction l with
  | nil => intro z k; simp [frz]
  | cons a l ih =>
    intro z k
    have := ih (fun k => z k || k == a) k
    simp only [frz, List.foldl_cons] at this ⊢
    rw [this, List.contains_cons, Bool.or_assoc]

/-- What a call may have handed on is frozen. -/
theorem sim_frz (hs : Sim w F φ S z) (l : List Nat) (hl : ∀ id ∈ l, id < S.length) : Sim w (Fr F φ S l) φ S (frz z l) := by
  refine ⟨fun id cs h => ?_, fun id cs h hz => ?_, fun id cs h hz => ?_, fun id id' cs cs' h h' hz hz' => ?_, fun k hk => ?_, fun id hid => ?_⟩
  · obtain ⟨us, hr, hat⟩ := hs.cont id cs h
    exact ⟨us, relLF hr (fun k hk => .inl hk), hat⟩
  · rw [frz_apply] at hz
    simp only [Bool.or_eq_true] at hz
    rcases hz with hz | hz
    · exact .inl (hs.froz id cs h hz)
    · exact .inr ⟨id, by simpa using hz, ⟨cs, h⟩, rfl⟩
  · rw [frz_apply] at hz
    simp only [Bool.or_eq_false_iff] at hz
    obtain ⟨h1, h2, h3⟩ := hs.live id cs h hz.1
    refine ⟨fun hk => ?_, h2, h3⟩
    rcases hk with hk | ⟨id', hm, ⟨cs', h'⟩, he⟩
    · exact h1 hk
    · cases hz' : z id' with
      | true => exact h1 (he ▸ hs.froz id' cs' h' hz')
      | false =>
        have := hs.inj id' id cs' cs h' h hz' hz.1 he
        subst this
        have := hz.2
        simp at this
        exact this hm
  · rw [frz_apply] at hz hz'
    simp only [Bool.or_eq_false_iff] at hz hz'
    exact hs.inj id id' cs cs' h h' hz.1 hz'.1
  · rcases hk with hk | ⟨id, hm, ⟨cs, h⟩, rfl⟩
    · exact hs.Fs k hk
    · cases hz : z id with
      | true => exact hs.Fs _ (hs.froz id cs h hz)
      | false => exact (hs.live id cs h hz).2.1
  · rw [frz_apply, hs.zb id hid]
    simp
    intro hm
    have := hl id hm
    omega
theorem live_frz {l : List Nat} {k : Nat} (h : LiveB φ S (frz z l) k) : LiveB φ S z k := by
  obtain ⟨id, cs, h1, h2, h3⟩ := h
  rw [frz_apply] at h2
  simp only [Bool.or_eq_false_iff] at h2
  exact ⟨id, cs, h1, h2.1, h3⟩
theorem fr_new (hs : Sim w F φ S z) (hL : ∀ k, LiveB φ S z k → B ≤ k ∨ L k) {l : List Nat} {k : Nat} (h : Fr F φ S l k) : F k ∨ B ≤ k ∨ L k := by
  rcases h with h | ⟨id, hm, ⟨cs, h⟩, rfl⟩
  · exact .inl h
  · cases hz : z id with
    | true => exact .inl (hs.froz id cs h hz)
    | false => exact .inr (hL _ ⟨id, cs, h, hz, rfl⟩)

theorem rel_flat : ∀ (d : Nat) (v : AV) (u : Value), flat d v = true → Rel w F φ N v u → ∀ {w' F' φ' N'}, Rel w' F' φ' N' v u
  | 0, v, u, h, _ => by simp [flat] at h
  | d + 1, v, u, h, hv => by
    have ih := rel_flat d
    cases hv with
    | b => constructor
    | i => constructor
    | s => constructor
    | agg us hl hh =>
      simp only [flat] at h
      exact .agg us hl (fun j c u h1 h2 => ih c u (List.all_eq_true.1 h c (List.mem_of_getElem? h1)) (hh j c u h1 h2))
    | tup us hl hh =>
      simp only [flat] at h
      exact .tup us hl (fun j c u h1 h2 => ih c u (List.all_eq_true.1 h c (List.mem_of_getElem? h1)) (hh j c u h1 h2))
    | _ => simp [flat] at h

/-- Where an operation that calls arrives. -/
def Upon (P : Program) (R : Value → World → Prop) : Result Next → Prop
  | .ok (.value v) w' => R v w'
  | .ok (.enter f args) w' => Calls P f args w' fun e w'' => ∃ u, e = .returned u ∧ R u w''
  | _ => False

theorem Upon.mono {R R' : Value → World → Prop} {r : Result Next} (h : Upon P R r) (hr : ∀ v w, R v w → R' v w) : Upon P R' r := by
  cases r with
  | ok n w => cases n <;> first | exact hr _ _ h | exact Calls.mono h (fun e w' ⟨u, h1, h2⟩ => ⟨u, h1, hr _ _ h2⟩) | exact h
  | halt x w => exact h

/-- g, called with these values, returns that value, and writes to nothing that was there. -/
def Good1 (P : Program) (g : FuncId) (args : List AV) (v : AV) : Prop :=
  ∀ (w : World) (F : Nat → Prop) (φ : Nat → Nat × Nat) (us : List Value), (∀ k, F k → k < w.heap.size) → RelL w F φ 0 args us →
    Upon P (fun u w' => Below w.heap.size w w' ∧ Rel w' (fun k => F k ∨ (w.heap.size ≤ k ∧ k < w'.heap.size)) φ 0 v u) ((callFunc g us.toArray).run P w)

/-- g, called with these values over this store, returns that value and leaves that store. -/
def Good2 (P : Program) (g : FuncId) (args : List AV) (S : Store) (z : Nat → Bool) (v : AV) (S' : Store) (z' : Nat → Bool) : Prop :=
  ∀ (w : World) (F : Nat → Prop) (φ : Nat → Nat × Nat) (us : List Value), Sim w F φ S z → RelL w F φ S.length args us →
    Upon P (fun u w' => Left w.heap.size (LiveB φ S z) w F φ S v S' z' u w') ((callFunc g us.toArray).run P w)

/-- Whether a function is one that works on its caller's store. -/
def isIo (io : FuncId → Bool) : Operand → FuncId → Bool
  | .func _, g => io g
  | _, _ => false

/-- A call of what works on values alone. -/
def call1 (P : Program) (g : FuncId) (as : Option (List AV)) (l : List Nat) (S : Store) (z : Nat → Bool) (k : AV → Store → (Nat → Bool) → Prop) : Prop :=
  match as with
  | some as => ∃ v, Good1 P g as v ∧ k v S (if flat 6 v = true then z else frz z l)
  | none => False
/-- A call of what works on its caller's store. -/
def call2 (P : Program) (g : FuncId) (args : List AV) (S : Store) (z : Nat → Bool) (k : AV → Store → (Nat → Bool) → Prop) : Prop :=
  ∃ v S' z', Good2 P g args S z v S' z' ∧ k v S' z'

/-- A call. -/
def acall (P : Program) (io : FuncId → Bool) (c : Call) (σ : St) (k : AV → Store → (Nat → Bool) → Prop) : Prop :=
  match c.callee with
  | .builtin b => match abuiltin (mkT P) σ.S σ.z b c.argTypes.toList (c.args.toList.map (evalT σ.t)) with
    | some (v, S') => k v S' σ.z
    | none => False
  | .value f => match evalT σ.t f with
    | .fn (.func g) first cap =>
      if isIo io f g = true then call2 P g (first ++ c.args.toList.map (evalT σ.t) ++ cap) σ.S σ.z k
      else call1 P g (mapO (deep σ.S 6) (first ++ c.args.toList.map (evalT σ.t) ++ cap)) ((first ++ c.args.toList.map (evalT σ.t) ++ cap).flatMap (refs 6)) σ.S σ.z k
    | _ => False
  | _ => False

theorem toArray_map {a : Act} (args : Array Operand) : args.map a.eval = (args.toList.map a.eval).toArray := by
  apply Array.ext'; simp

theorem left_evo {w1 w2 : World} {F1 F2 : Nat → Prop} {φ1 φ2 : Nat → Nat × Nat} {S1 S2 : Store} (hB : B ≤ w1.heap.size) (hL : ∀ k, LiveB φ1 S1 z k → B ≤ k ∨ L k)
    (h : Evo w1.heap.size (LiveB φ1 S1 z) w1 F1 φ1 S1.length w2 F2 φ2 S2.length) : Evo B L w1 F1 φ1 S1.length w2 F2 φ2 S2.length where
  Fle := h.Fle
  Fnew := fun k hk => by
    rcases h.Fnew k hk with h1 | h1 | h1
    · exact .inl h1
    · exact .inr (.inl (Nat.le_trans hB h1))
    · exact .inr (hL k h1)
  φeq := h.φeq
  Nle := h.Nle
  Fkeep := h.Fkeep
  keep := fun k hk hl => h.keep k (Nat.lt_of_lt_of_le hk hB) (fun hlv => by
    rcases hL k hlv with h1 | h1
    · omega
    · exact hl h1)
  cells := h.cells
  os := h.os
  tape := h.tape
  output := h.output
  size := h.size

theorem acall_sound {io : FuncId → Bool} (hs : Sim w F φ S z) (hB : B ≤ w.heap.size) (hL : ∀ k, LiveB φ S z k → B ≤ k ∨ L k) {t : List AV} {a : Act} (ht : RelL w F φ S.length t a.tmps.toList) {o : Oper} {c : Call} (ho : o.op = .call c) {k : AV → Store → (Nat → Bool) → Prop}
    (h : acall P io c ⟨t, S, z⟩ k) : Upon P (fun u w' => ∃ v S' z', k v S' z' ∧ Left B L w F φ S v S' z' u w') ((execOp a.eval o).run P w) := by
  have hargs : RelL w F φ S.length (c.args.toList.map (evalT t)) (c.args.toList.map a.eval) := relL_map (rel_eval ht) _
  unfold acall at h
  cases hc : c.callee with
  | builtin b =>
    rw [hc] at h
    simp only at h
    split at h
    · rename_i v S' hb
      have hrun : ∃ cn, (execOp a.eval o).run P w = (builtin b c.argTypes.toList.toArray o.type cn (c.args.toList.map a.eval).toArray).run P w := by
        have hres : ∃ cn, resolve a.eval c o.type = pure { target := .builtin b c.argTypes o.type cn, args := c.args.map a.eval } := ⟨_, by unfold resolve; rw [hc]⟩
        obtain ⟨cn, hres⟩ := hres
        refine ⟨cn, ?_⟩
        simp only [execOp, ho, hres, Sem.run_bind, Sem.run_pure, Result.andThen_ok, invoke]
        rw [toArray_map]
      obtain ⟨cn, hrun⟩ := hrun
      obtain ⟨u, w', h1, h2⟩ := builtin_sound (ty := o.type) (cn := cn) hs hB hL hargs hb
      rw [h1] at hrun
      rw [hrun]
      exact ⟨v, S', z, h, h2⟩
    · exact h.elim
  | invoke r m => rw [hc] at h; exact h.elim
  | value f =>
    rw [hc] at h
    simp only at h
    have hf := rel_eval ht f
    split at h
    · rename_i g first cap hev
      rw [hev] at hf
      obtain ⟨us, vs, hq, hl1, hl2⟩ : ∃ us vs : List Value, a.eval f = .func (.func g) us.toArray vs.toArray ∧ RelL w F φ S.length first us ∧ RelL w F φ S.length cap vs := by
        generalize a.eval f = q at hf
        cases hf with
        | fn us vs a1 a2 a3 a4 => exact ⟨us, vs, rfl, ⟨a1, a3⟩, ⟨a2, a4⟩⟩
      have hall := (hl1.append hargs).append hl2
      have hrun : (execOp a.eval o).run P w = (callFunc g (us ++ c.args.toList.map a.eval ++ vs).toArray).run P w := by
        simp only [execOp, ho, resolve, hc, hq, Deferred.ofValue, Sem.run_bind, Sem.run_pure, Result.andThen_ok, invoke]
        congr 2
        rw [toArray_map]
        simp
      rw [hrun]
      split at h
      · obtain ⟨v, S', z', h1, h2⟩ := h
        refine (h1 w F φ _ hs hall).mono (fun u w' hl => ⟨v, S', z', h2, ?_⟩)
        obtain ⟨F', φ', e1, e2, e3, e4⟩ := hl
        exact ⟨F', φ', e1, e2, left_evo hB hL e3, fun k hk => by
          rcases e4 k hk with h1 | h1
          · exact .inl (Nat.le_trans hB h1)
          · exact hL k h1⟩
      · unfold call1 at h
        split at h
        · rename_i as hdeep
          obtain ⟨v, h1, h2⟩ := h
          have hd := mapO_sound (g := refs 6) (deep_sound hs 6) hall hdeep
          have hlt : ∀ id ∈ (first ++ c.args.toList.map (evalT t) ++ cap).flatMap (refs 6), id < S.length := by
            intro id hm
            obtain ⟨x, hx, hm⟩ := List.mem_flatMap.1 hm
            obtain ⟨j, hj⟩ := List.getElem?_of_mem hx
            obtain ⟨u, _, hu⟩ := hall.get hj
            exact refs_lt 6 x u hu id hm
          have hfr := sim_frz hs _ hlt
          refine (h1 w _ φ _ hfr.Fs hd).mono (fun u w' hp => ⟨v, S, _, h2, ?_⟩)
          obtain ⟨hbelow, hrel⟩ := hp
          by_cases hflat : flat 6 v = true
          · rw [if_pos hflat]
            refine ⟨F, φ, rel_flat 6 v u hflat hrel, sim_evo0 hs (fun k hk => hbelow.block k hk) hbelow.size (fun _ h => h) (fun _ h => .inl h), evo0 hs (fun k hk => hbelow.block k hk) hbelow.size hbelow.os hbelow.tape hbelow.output hB (fun _ h => h) (fun _ h => .inl h), hL⟩
          · rw [if_neg hflat]
            have hLf : ∀ k, LiveB φ S (frz z ((first ++ c.args.toList.map (evalT t) ++ cap).flatMap (refs 6))) k → B ≤ k ∨ L k := fun k hk => hL k (live_frz hk)
            refine ⟨fun k => Fr F φ S ((first ++ c.args.toList.map (evalT t) ++ cap).flatMap (refs 6)) k ∨ (w.heap.size ≤ k ∧ k < w'.heap.size), φ, ?_, sim_evo0 hfr (fun k hk => hbelow.block k hk) hbelow.size (fun _ h => .inl h) (fun _ h => h), ?_, hLf⟩
            · exact hrel.mono (fun _ h => h) (fun _ _ => rfl) (fun _ h => h) (Nat.zero_le _) (fun id hid => absurd hid (Nat.not_lt_zero _))
            · have e2 := evo0 (B := B) (L := L) hfr (fun k hk => hbelow.block k hk) hbelow.size hbelow.os hbelow.tape hbelow.output hB (F' := fun k => Fr F φ S ((first ++ c.args.toList.map (evalT t) ++ cap).flatMap (refs 6)) k ∨ (w.heap.size ≤ k ∧ k < w'.heap.size)) (fun _ h => .inl h) (fun _ h => h)
              exact ⟨fun k hk => .inl (.inl hk), fun k hk => by
                rcases hk with hk | ⟨hk, _⟩
                · exact fr_new hs hL hk
                · exact .inr (.inl (Nat.le_trans hB hk)), fun _ _ => rfl, Nat.le_refl _, fun k hk => hbelow.block k (hs.Fs k hk), e2.keep, e2.cells, e2.os, e2.tape, e2.output, e2.size⟩
        · exact h.elim
    · exact h.elim
end
end Go.Proofs.YtggojahlhpijeaaA
