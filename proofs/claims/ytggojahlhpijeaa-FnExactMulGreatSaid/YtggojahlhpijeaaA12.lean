/- Operations that nothing puts in order may change places. No condition. -/
import Derived.Test.YtggojahlhpijeaaA11
namespace Go.Proofs.YtggojahlhpijeaaA
open Go Go.RowKit
set_option linter.unusedSimpArgs false
set_option linter.unusedVariables false
section
variable {P : Program} {io : FuncId → Bool} {ops : Array Oper}

theorem grow_get {S : Store} {b : Option (List AV)} {id : Nat} {cs : List AV} (h : S.getD id none = some cs) : (S ++ [b]).getD id none = some cs := by
  rw [List.getD_eq_getElem?_getD] at h ⊢
  cases hq : S[id]? with
  | none => simp [hq] at h
  | some o =>
    have hlt := (List.getElem?_eq_some_iff.1 hq).1
    rw [List.getElem?_append_left hlt, hq]
    rw [hq] at h
    exact h
theorem grow_load {S : Store} {b : Option (List AV)} {x : TI} {a v : AV} (h : aload S x a = some v) : aload (S ++ [b]) x a = some v := by
  unfold aload at h ⊢
  split at h
  · split at h
    · rename_i cs hcs
      rw [grow_get hcs]; exact h
    · cases h
  · exact h
  · cases h
theorem grow_cells {S : Store} {b : Option (List AV)} {sz : Nat} {v : AV} {r : Nat × List AV} (h : cellsOfSlice S sz v = some r) : cellsOfSlice (S ++ [b]) sz v = some r := by
  unfold cellsOfSlice at h ⊢
  split at h
  · exact h
  · split at h
    · rename_i cs hcs
      rw [grow_get hcs]; exact h
    · cases h
  · cases h
theorem grow_mapO {f g : AV → Option AV} (h : ∀ v v', f v = some v' → g v = some v') : ∀ {vs vs' : List AV}, mapO f vs = some vs' → mapO g vs = some vs'
  | [], vs', e => e
  | v :: vs, vs', e => by
    simp only [mapO] at e ⊢
    split at e
    · rename_i y hy
      split at e
      · rename_i ys hys
        rw [h v y hy, grow_mapO h hys]
        exact e
      · cases e
    · cases e
theorem grow_deep {S : Store} {b : Option (List AV)} : ∀ (d : Nat) (v v' : AV), deep S d v = some v' → deep (S ++ [b]) d v = some v'
  | 0, v, v', h => by simp [deep] at h
  | d + 1, v, v', h => by
    have ih := grow_deep (S := S) (b := b) d
    cases v with
    | ref id sz off n =>
      simp only [deep] at h ⊢
      split at h
      · rename_i cs hcs
        rw [grow_get hcs]; exact h
      · cases h
    | agg cs =>
      simp only [deep] at h ⊢
      cases hq : mapO (deep S d) cs with
      | none => rw [hq] at h; cases h
      | some cs' => rw [hq] at h; rw [grow_mapO ih hq]; exact h
    | tup cs =>
      simp only [deep] at h ⊢
      cases hq : mapO (deep S d) cs with
      | none => rw [hq] at h; cases h
      | some cs' => rw [hq] at h; rw [grow_mapO ih hq]; exact h
    | fn f a c =>
      simp only [deep] at h ⊢
      split at h
      · rename_i a1 c1 h1 h2
        rw [grow_mapO ih h1, grow_mapO ih h2]; exact h
      · cases h
    | _ => exact h

theorem builtin0 {T : TT} {S : Store} {z : Nat → Bool} {b : Builtin} {ts : List TypeId} {args : List AV} {v : AV} {S' : Store} (hb : b = .len ∨ b = .max ∨ b = .min) (h : abuiltin T S z b ts args = some (v, S')) : S' = S ∧ ∀ S2 z2, abuiltin T S2 z2 b ts args = some (v, S2) := by
  unfold abuiltin at h
  split at h
  · rename_i t x
    split at h
    · rename_i a b c hT
      split at h
      · cases h; exact ⟨rfl, fun S2 z2 => by simp [abuiltin, hT]⟩
      · cases h
    · rename_i a b c d hT
      split at h
      · cases h; exact ⟨rfl, fun S2 z2 => by simp [abuiltin, hT]⟩
      · cases h; exact ⟨rfl, fun S2 z2 => by simp [abuiltin, hT]⟩
      · cases h
    · cases h
  · cases h; exact ⟨rfl, fun S2 z2 => by simp [abuiltin]⟩
  · cases h; exact ⟨rfl, fun S2 z2 => by simp [abuiltin]⟩
  · rcases hb with hb | hb | hb <;> cases hb
  · cases h

/-- What is said of the classes. -/
theorem do_cls0 {o : Oper} (hc : cls P io o.op = 0) {σ : St} {v : AV} {S' : Store} {z' : Nat → Bool} (h : Do P io ops o σ v S' z') : S' = σ.S ∧ z' = σ.z ∧ ∀ S z, Do P io ops o ⟨σ.t, S, z⟩ v S z := by
  unfold Do at h ⊢
  by_cases hw : awanted ops o σ.t = true
  · simp only [hw, if_true] at h ⊢
    cases hop : o.op with
    | call c =>
      rw [hop] at h hc
      simp only [cls] at hc
      simp only at h ⊢
      unfold acall at h ⊢
      cases hq : c.callee with
      | builtin b =>
        rw [hq] at h hc
        cases b <;> simp only at hc <;> (try (cases hc; done))
        all_goals
          simp only at h ⊢
          split at h
          · rename_i v1 S1 he
            obtain ⟨rfl, rfl, rfl⟩ := h
            obtain ⟨rfl, hany⟩ := builtin0 (by simp) he
            exact ⟨rfl, rfl, fun S z => by simp [hany S z]⟩
          · exact h.elim
      | value f =>
        rw [hq] at hc
        simp only at hc
        split at hc
        · split at hc <;> cases hc
        · cases hc
      | invoke r m => rw [hq] at hc; cases hc
    | load t a => rw [hop] at hc; cases hc
    | alloc t => rw [hop] at hc; cases hc
    | box t a => rw [hop] at hc; cases hc
    | makeSlice t l c => rw [hop] at hc; cases hc
    | store t a v => rw [hop] at hc; cases hc
    | select cs b => rw [hop] at hc; cases hc
    | convert s t x =>
      rw [hop] at hc h
      simp only [cls] at hc
      simp only [astep] at h ⊢
      obtain ⟨h, rfl⟩ := h
      split at h
      · rename_i a c ha hcc
        split at h
        · cases h; rename_i e1 e2 e3; exact ⟨rfl, rfl, fun S z => by simp [ha, hcc, e1, e2, e3]⟩
        · cases h; rename_i e1 e2 e3; exact ⟨rfl, rfl, fun S z => by simp [ha, hcc, e1, e2, e3]⟩
        · rename_i e v' e1 e2 e3
          exfalso
          rw [ha, hcc] at hc
          obtain ⟨d1, n1, b1, z1⟩ := a
          obtain ⟨d2, n2, b2, z2⟩ := c
          simp only at e1 e2
          subst e1; subst e2
          simp at hc
        · rename_i v' e e1 e2
          exfalso
          rw [ha, hcc] at hc
          obtain ⟨d1, n1, b1, z1⟩ := a
          simp only at e1
          subst e1
          simp at hc
        · cases h
      · cases h
    | _ =>
      rw [hop] at h
      simp only [astep] at h ⊢
      obtain ⟨h, rfl⟩ := h
      generalize apure (mkT P) (evalT σ.t) _ = r at h ⊢
      cases r with
      | none => cases h
      | some v' => cases h; exact ⟨rfl, rfl, fun S z => by simp⟩
  · simp only [hw, if_false, Bool.false_eq_true] at h ⊢
    obtain ⟨rfl, rfl, rfl⟩ := h
    exact ⟨rfl, rfl, fun S z => by simp⟩

theorem do_cls1 {o : Oper} (hc : cls P io o.op = 1) {σ : St} {v : AV} {S' : Store} {z' : Nat → Bool} (h : Do P io ops o σ v S' z') : S' = σ.S ∧ ∃ l, z' = frz σ.z l ∧ ∀ z, Do P io ops o ⟨σ.t, σ.S, z⟩ v σ.S (frz z l) ∧ ∀ b, Do P io ops o ⟨σ.t, σ.S ++ [b], z⟩ v (σ.S ++ [b]) (frz z l) := by
  unfold Do at h ⊢
  by_cases hw : awanted ops o σ.t = true
  · simp only [hw, if_true] at h ⊢
    cases hop : o.op with
    | call c =>
      rw [hop] at h hc
      simp only [cls] at hc
      simp only at h ⊢
      unfold acall at h ⊢
      cases hq : c.callee with
      | builtin b => rw [hq] at hc; cases b <;> cases hc
      | invoke r m => rw [hq] at hc; cases hc
      | value f =>
        rw [hq] at hc h
        simp only at hc h ⊢
        split at h
        · rename_i g first cap he
          have hio : ∀ g', g' = g → isIo io f g' ≠ true := by
            intro g' hgg hg
            subst hgg
            cases f with
            | func g0 =>
              simp only [evalT] at he
              cases he
              simp only [isIo] at hg
              simp only [hg, if_true] at hc
              cases hc
            | _ => simp [isIo] at hg
          rw [if_neg (hio g rfl)] at h
          unfold call1 at h
          split at h
          · rename_i as hd
            obtain ⟨u, h1, rfl, rfl, rfl⟩ := h
            by_cases hf : flat 6 u = true
            · refine ⟨rfl, [], by simp [hf, frz], fun z => ⟨?_, fun b => ?_⟩⟩
              · simp only [he, if_neg (hio g rfl), call1, hd]; exact ⟨u, h1, by simp [hf, frz]⟩
              · simp only [he, if_neg (hio g rfl), call1, grow_mapO (grow_deep (b := b) 6) hd]; exact ⟨u, h1, by simp [hf, frz]⟩
            · refine ⟨rfl, (first ++ c.args.toList.map (evalT σ.t) ++ cap).flatMap (refs 6), by simp [hf], fun z => ⟨?_, fun b => ?_⟩⟩
              · simp only [he, if_neg (hio g rfl), call1, hd]; exact ⟨u, h1, by simp [hf]⟩
              · simp only [he, if_neg (hio g rfl), call1, grow_mapO (grow_deep (b := b) 6) hd]; exact ⟨u, h1, by simp [hf]⟩
          · exact h.elim
        · exact h.elim
    | load t a =>
      rw [hop] at h
      simp only [astep] at h ⊢
      obtain ⟨h, rfl⟩ := h
      split at h
      · rename_i x hx
        cases hl : aload σ.S x (evalT σ.t a) with
        | none => rw [hl] at h; cases h
        | some v' =>
          rw [hl] at h; cases h
          exact ⟨rfl, [], rfl, fun z => ⟨⟨by simp [hx, hl], rfl⟩, fun b => ⟨by simp [hx, grow_load hl], rfl⟩⟩⟩
      · cases h
    | convert s t x =>
      rw [hop] at hc h
      simp only [cls] at hc
      simp only [astep] at h ⊢
      obtain ⟨h, rfl⟩ := h
      split at h
      · rename_i a c ha hcc
        rw [ha, hcc] at hc
        split at h
        · cases h; rename_i e1 e2 e3; exact ⟨rfl, [], rfl, fun z => ⟨⟨by simp [ha, hcc, e1, e2, e3], rfl⟩, fun b => ⟨by simp [ha, hcc, e1, e2, e3], rfl⟩⟩⟩
        · cases h; rename_i e1 e2 e3; exact ⟨rfl, [], rfl, fun z => ⟨⟨by simp [ha, hcc, e1, e2, e3], rfl⟩, fun b => ⟨by simp [ha, hcc, e1, e2, e3], rfl⟩⟩⟩
        · rename_i e v' e1 e2 e3
          exfalso
          obtain ⟨d1, n1, b1, z1⟩ := a
          obtain ⟨d2, n2, b2, z2⟩ := c
          simp only at e1 e2
          subst e1; subst e2
          simp at hc
        · rename_i v' e e1 e2
          split at h
          · rename_i bt zr hT
            split at h
            · rename_i n cs hcs
              cases hb : toBytes cs with
              | none => rw [hb] at h; cases h
              | some l =>
                rw [hb] at h; cases h
                refine ⟨rfl, [], rfl, fun z => ⟨⟨?_, rfl⟩, fun b => ⟨?_, rfl⟩⟩⟩
                · simp [ha, hcc, e1, e2, hT, hcs, hb]
                · simp [ha, hcc, e1, e2, hT, grow_cells hcs, hb]
            · cases h
          · cases h
        · cases h
      · cases h
    | _ => rw [hop] at hc; cases hc
  · simp only [hw, if_false, Bool.false_eq_true] at h ⊢
    obtain ⟨rfl, rfl, rfl⟩ := h
    exact ⟨rfl, [], rfl, fun z => ⟨by simp [frz], fun b => by simp [frz]⟩⟩

theorem do_cls2 {o : Oper} (hc : cls P io o.op = 2) {σ : St} {v : AV} {S' : Store} {z' : Nat → Bool} (h : Do P io ops o σ v S' z') : z' = σ.z ∧ (∃ b, S' = σ.S ++ [b] ∨ S' = σ.S) ∧ ∀ z, Do P io ops o ⟨σ.t, σ.S, z⟩ v S' z := by
  unfold Do at h ⊢
  by_cases hw : awanted ops o σ.t = true
  · simp only [hw, if_true] at h ⊢
    cases hop : o.op with
    | alloc t =>
      rw [hop] at h
      simp only [astep] at h ⊢
      obtain ⟨h, rfl⟩ := h
      split at h
      · cases h; exact ⟨rfl, ⟨_, .inl rfl⟩, fun z => by simp⟩
      · cases h
    | box t x =>
      rw [hop] at h
      simp only [astep] at h ⊢
      obtain ⟨h, rfl⟩ := h
      split at h
      · rename_i hok
        cases h; exact ⟨rfl, ⟨_, .inl rfl⟩, fun z => by simp [hok]⟩
      · cases h
    | makeSlice t l c =>
      rw [hop] at h
      simp only [astep] at h ⊢
      obtain ⟨h, rfl⟩ := h
      refine ⟨rfl, ?_, fun z => ⟨h, by trivial⟩⟩
      split at h
      · split at h
        · split at h
          · split at h
            · cases h; exact ⟨_, .inl rfl⟩
            · cases h
          · cases h
        · cases h
      · cases h
    | convert s t x =>
      rw [hop] at h
      simp only [astep] at h ⊢
      obtain ⟨h, rfl⟩ := h
      refine ⟨rfl, ?_, fun z => ⟨h, by trivial⟩⟩
      split at h
      · split at h
        · cases h; exact ⟨none, .inr rfl⟩
        · cases h; exact ⟨none, .inr rfl⟩
        · split at h
          · cases h; exact ⟨_, .inl rfl⟩
          · cases h
        · split at h
          · split at h
            · rename_i n cs hcs
              cases hb : toBytes cs with
              | none => rw [hb] at h; cases h
              | some l => rw [hb] at h; cases h; exact ⟨none, .inr rfl⟩
            · cases h
          · cases h
        · cases h
      · cases h
    | call c =>
      rw [hop] at hc
      simp only [cls] at hc
      cases hq : c.callee with
      | builtin b => rw [hq] at hc; cases b <;> cases hc
      | invoke r m => rw [hq] at hc; cases hc
      | value f =>
        rw [hq] at hc
        simp only at hc
        split at hc
        · split at hc <;> cases hc
        · cases hc
    | _ => rw [hop] at hc; cases hc
  · simp only [hw, if_false, Bool.false_eq_true] at h ⊢
    obtain ⟨rfl, rfl, rfl⟩ := h
    exact ⟨rfl, ⟨none, .inr rfl⟩, fun z => by simp⟩

theorem frz_comm (z : Nat → Bool) (l l' : List Nat) : frz (frz z l) l' = frz (frz z l') l := by
  funext k
  rw [frz_apply, frz_apply, frz_apply, frz_apply, Bool.or_assoc, Bool.or_assoc, Bool.or_comm (l.contains k)]

/-- Two operations that nothing puts in order change places. -/
theorem swap {x y : Oper} (hc : compat P io ops x y = true) {k : St → Prop} {σ : St} (h : AWo P io ops x (AWo P io ops y k) σ) : AWo P io ops y (AWo P io ops x k) σ := by
  unfold compat at hc
  rw [Bool.and_eq_true] at hc
  obtain ⟨hap, hcl⟩ := hc
  obtain ⟨a1, a2, a3⟩ := Oper.apart_spec hap
  obtain ⟨vx, S1, z1, hx, h⟩ := awo_ex h
  obtain ⟨vy, S2, z2, hy, hk⟩ := awo_ex h
  have hy0 := do_unput a1 hy
  simp only [putD_comm σ.t vx vy a2] at hk
  simp only [Bool.or_eq_true, Bool.and_eq_true, beq_iff_eq] at hcl
  rcases hcl with (h0 | h0) | ⟨h1, h2⟩
  · obtain ⟨rfl, rfl, hany⟩ := do_cls0 h0 hx
    refine awo_of hy0 (awo_of (do_put a3 (hany S2 z2)) hk)
  · obtain ⟨rfl, rfl, hany⟩ := do_cls0 h0 hy0
    exact awo_of (hany σ.S σ.z) (awo_of (do_put a3 hx) hk)
  · obtain ⟨rfl, l, rfl, hany⟩ := do_cls1 h1 hx
    rcases h2 with h2 | h2
    · obtain ⟨rfl, l', rfl, hany'⟩ := do_cls1 h2 hy0
      simp only at hk
      rw [frz_comm] at hk
      exact awo_of (hany' σ.z).1 (awo_of (do_put a3 (hany (frz σ.z l')).1) hk)
    · obtain ⟨rfl, ⟨b, rfl | rfl⟩, hany'⟩ := do_cls2 h2 hy0
      · exact awo_of (hany' σ.z) (awo_of (do_put a3 ((hany σ.z).2 b)) hk)
      · exact awo_of (hany' σ.z) (awo_of (do_put a3 (hany σ.z).1) hk)
end
end Go.Proofs.YtggojahlhpijeaaA
