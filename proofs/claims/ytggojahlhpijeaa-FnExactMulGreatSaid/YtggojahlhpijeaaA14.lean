/- What a function does, told by its body. No condition. -/
import Derived.Test.YtggojahlhpijeaaA13
namespace Go.Proofs.YtggojahlhpijeaaA
open Go Go.RowKit
set_option linter.unusedSimpArgs false
set_option linter.unusedVariables false

def kret (next : St → Prop) : Exit → St → Prop
  | .normal, σ => next σ
  | .ret, σ => next σ
  | _, _ => False

def ares1 (T : TT) (σ : St) : ResultVar → Option AV
  | .tmp t => some (σ.t.getD t .undef)
  | .cell a t => match T t with
    | some x => aload σ.S x (σ.t.getD a .undef)
    | none => none

def one1 : List AV → AV
  | [x] => x
  | l => .tup l

def ares (T : TT) (rs : List ResultVar) (σ : St) : Option AV := (mapO2 (ares1 T σ) rs).map one1
where
  mapO2 (f : ResultVar → Option AV) : List ResultVar → Option (List AV)
    | [] => some []
    | x :: xs => match f x with
      | some y => match mapO2 f xs with
        | some ys => some (y :: ys)
        | none => none
      | none => none

section
variable {P : Program} {io : FuncId → Bool} {w : World} {F : Nat → Prop} {φ : Nat → Nat × Nat} {B : Nat} {L : Nat → Prop}

theorem ares_sound {fn : Func} {σ : St} {a : Act} (hA : SimA B L w F φ σ a) {r : AV} (h : ares (mkT P) fn.results.toList σ = some r) : ∃ u, (results fn a.tmps).run P w = .ok u w ∧ Rel w F φ σ.S.length r u := by
  obtain ⟨f, hres, hf1, hf2⟩ : ∃ f : ResultVar → Sem Value, results fn a.tmps = (do let vs ← fn.results.mapM f; pure (if h : vs.size = 1 then vs[0] else .tuple vs)) ∧ (∀ t, f (.tmp t) = pure (a.tmps.getD t undef)) ∧ (∀ x t, f (.cell x t) = (do loadVar t (← asAddr (a.tmps.getD x undef)))) :=
    ⟨_, rfl, fun _ => rfl, fun _ _ => rfl⟩
  have key : ∀ (rs : List ResultVar) (l : List AV), ares.mapO2 (ares1 (mkT P) σ) rs = some l → ∃ us : List Value, (rs.mapM f).run P w = .ok us w ∧ RelL w F φ σ.S.length l us := by
    intro rs
    induction rs with
    | nil => intro l h; simp [ares.mapO2] at h; subst h; exact ⟨[], rfl, RelL.nil⟩
    | cons x rs ih =>
      intro l h
      simp only [ares.mapO2] at h
      split at h
      · rename_i y hy
        split at h
        · rename_i ys hys
          cases h
          obtain ⟨us, h1, h2⟩ := ih ys hys
          have hx : ∃ u, (f x).run P w = .ok u w ∧ Rel w F φ σ.S.length y u := by
            cases x with
            | tmp t =>
              simp only [ares1] at hy
              cases hy
              exact ⟨_, by rw [hf1]; rfl, rel_getD hA.t t⟩
            | cell x t =>
              simp only [ares1] at hy
              split at hy
              · rename_i ti hti
                obtain ⟨ad, u, he, hu, hr⟩ := aload_sound hA.s hti (rel_getD hA.t x) hy
                refine ⟨u, ?_, hr⟩
                rw [hf2]
                simp only [he, asAddr, Sem.run_bind, Sem.run_pure, Result.andThen_ok, hu]
              · cases hy
          obtain ⟨u, h3, h4⟩ := hx
          refine ⟨u :: us, ?_, RelL.cons h4 h2⟩
          rw [List.mapM_cons]
          simp only [Sem.run_bind, h3, h1, Result.andThen_ok, Sem.run_pure]
        · cases h
      · cases h
  unfold ares at h
  cases hq : ares.mapO2 (ares1 (mkT P) σ) fn.results.toList with
  | none => rw [hq] at h; cases h
  | some l =>
    rw [hq] at h
    cases h
    obtain ⟨us, h1, h2⟩ := key _ _ hq
    refine ⟨if h : us.toArray.size = 1 then us.toArray[0] else .tuple us.toArray, ?_, ?_⟩
    · rw [hres, Array.mapM_eq_mapM_toList]
      simp only [Sem.run_bind, Sem.run_map, h1]
      rfl
    · cases l with
      | nil => cases h2.nil_inv; exact .tup [] rfl (fun j c u h => by simp at h)
      | cons x l =>
        obtain ⟨u, us', rfl, hx, hr⟩ := h2.uncons
        cases l with
        | nil => cases hr.nil_inv; exact hx
        | cons y l =>
          obtain ⟨u2, us2, rfl, hy, hr⟩ := hr.uncons
          rw [dif_neg (by simp)]
          exact .tup _ h2.1 h2.2

/-- A function that works on values alone. -/
theorem good1_of (hmix : P.follows .mixedOrders = true) {g : FuncId} {fn : Func} {c : Code} {args : List AV} {v : AV} (hf : P.funcs[g]? = some fn) (hb : fn.body = some c) (hname : (fn.name == "runtime.NumGoroutine") = false) (hok : codeOk P io c = true)
    (h : AW P io c (kret fun σ => ∃ r, ares (mkT P) fn.results.toList σ = some r ∧ deep σ.S 6 r = some v) ⟨args ++ List.replicate (fn.ntmps - args.length) .undef, [], fun _ => false⟩) : Good1 P g args v := by
  intro w F φ us hF hr
  have hrun : (callFunc g us.toArray).run P w = .ok (.enter g us.toArray) w := by
    simp only [beq_eq_false_iff_ne] at hname
    simp [callFunc, hf, hname, hb]
  rw [hrun]
  have hu : (AV.undef : AV) = AV.undef := rfl
  have hA : SimA w.heap.size (fun _ => False) w F φ ⟨args ++ List.replicate (fn.ntmps - args.length) .undef, [], fun _ => false⟩ { tmps := us.toArray ++ Array.replicate (fn.ntmps - us.toArray.size) undef, defers := [] } := by
    refine ⟨?_, rfl, ⟨fun id cs h => by simp at h, fun id cs h => by simp at h, fun id cs h => by simp at h, fun id id' cs cs' h => by simp at h, hF, fun _ _ => rfl⟩, Nat.le_refl _, fun k hk => by obtain ⟨id, cs, h, _⟩ := hk; simp at h⟩
    simp only [List.length_nil, Array.toList_append, Array.toList_replicate, List.size_toArray, hr.1]
    exact hr.append (RelL.replicate _ rel_undef)
  refine calls_of_wp hf hb (code_sound hmix c hok hA h (fun x τ a' w' F' φ' hk hA' hev => ?_))
  have post : ∀ {τ : St} {a' : Act} {w' : World} {F' : Nat → Prop} {φ' : Nat → Nat × Nat}, SimA w.heap.size (fun _ => False) w' F' φ' τ a' → Evo w.heap.size (fun _ => False) w F φ 0 w' F' φ' τ.S.length → (∃ r, ares (mkT P) fn.results.toList τ = some r ∧ deep τ.S 6 r = some v) →
      a'.defers = [] ∧ ∃ u, (results fn a'.tmps).run P w' = .ok u w' ∧ ∃ u', Ending.returned u = .returned u' ∧ Below w.heap.size w w' ∧ Rel w' (fun k => F k ∨ (w.heap.size ≤ k ∧ k < w'.heap.size)) φ 0 v u' := by
    intro τ a' w' F' φ' hA' hev ⟨r, h1, h2⟩
    obtain ⟨u, hu, hrel⟩ := ares_sound hA' h1
    refine ⟨hA'.d, u, hu, u, rfl, ⟨hev.os, hev.tape, hev.output, hev.size, fun k hk => hev.keep k hk id⟩, ?_⟩
    have hd := deep_sound hA'.s 6 r u v hrel h2
    refine hd.mono (fun k hk => ?_) (fun _ _ => rfl) (fun _ h => h) (Nat.le_refl _) (fun id hid => absurd hid (Nat.not_lt_zero _))
    have hk2 : F' k ∨ w.heap.size ≤ k ∨ False := fr_new hA'.s hA'.hL hk
    have hlt : k < w'.heap.size := by
      rcases hk with hk | ⟨id, hm, ⟨cs, h⟩, rfl⟩
      · exact hA'.s.Fs k hk
      · cases hz : τ.z id with
        | true => exact hA'.s.Fs _ (hA'.s.froz id cs h hz)
        | false => exact (hA'.s.live id cs h hz).2.1
    rcases hk2 with h | h | h
    · rcases hev.Fnew k h with h | h | h
      · exact .inl h
      · exact .inr ⟨h, hlt⟩
      · exact h.elim
    · exact .inr ⟨h, hlt⟩
    · exact h.elim
  cases x <;> first | exact hk.elim | exact post hA' hev hk

/-- What is said of a function with a body, as the kit's calls say it. -/
theorem calls_of_good1 {g : FuncId} {fn : Func} {c : Code} {args : List AV} {v : AV} (hf : P.funcs[g]? = some fn) (hb : fn.body = some c) (hname : (fn.name == "runtime.NumGoroutine") = false) (h : Good1 P g args v)
    {w : World} {F : Nat → Prop} {φ : Nat → Nat × Nat} {us : List Value} (hF : ∀ k, F k → k < w.heap.size) (hr : RelL w F φ 0 args us) :
    Calls P g us.toArray w fun e w' => ∃ u, e = .returned u ∧ Below w.heap.size w w' ∧ Rel w' (fun k => F k ∨ (w.heap.size ≤ k ∧ k < w'.heap.size)) φ 0 v u := by
  have hrun : (callFunc g us.toArray).run P w = .ok (.enter g us.toArray) w := by
    simp only [beq_eq_false_iff_ne] at hname
    simp [callFunc, hf, hname, hb]
  have := h w F φ us hF hr
  rw [hrun] at this
  exact this

/-- A function that works on its caller's store. -/
theorem good2_of (hmix : P.follows .mixedOrders = true) {g : FuncId} {fn : Func} {c : Code} {args : List AV} {S S' : Store} {z z' : Nat → Bool} {v : AV} (hf : P.funcs[g]? = some fn) (hb : fn.body = some c) (hname : (fn.name == "runtime.NumGoroutine") = false) (hok : codeOk P io c = true)
    (h : AW P io c (kret fun σ => ares (mkT P) fn.results.toList σ = some v ∧ σ.S = S' ∧ σ.z = z') ⟨args ++ List.replicate (fn.ntmps - args.length) .undef, S, z⟩) : Good2 P g args S z v S' z' := by
  intro w F φ us hs hr
  have hrun : (callFunc g us.toArray).run P w = .ok (.enter g us.toArray) w := by
    simp only [beq_eq_false_iff_ne] at hname
    simp [callFunc, hf, hname, hb]
  rw [hrun]
  have hA : SimA w.heap.size (LiveB φ S z) w F φ ⟨args ++ List.replicate (fn.ntmps - args.length) .undef, S, z⟩ { tmps := us.toArray ++ Array.replicate (fn.ntmps - us.toArray.size) undef, defers := [] } := by
    refine ⟨?_, rfl, hs, Nat.le_refl _, fun k hk => .inr hk⟩
    simp only [Array.toList_append, Array.toList_replicate, List.size_toArray, hr.1]
    exact hr.append (RelL.replicate _ rel_undef)
  refine calls_of_wp hf hb (code_sound hmix c hok hA h (fun x τ a' w' F' φ' hk hA' hev => ?_))
  have post : ∀ {τ : St} {a' : Act} {w' : World} {F' : Nat → Prop} {φ' : Nat → Nat × Nat}, SimA w.heap.size (LiveB φ S z) w' F' φ' τ a' → Evo w.heap.size (LiveB φ S z) w F φ S.length w' F' φ' τ.S.length → (ares (mkT P) fn.results.toList τ = some v ∧ τ.S = S' ∧ τ.z = z') →
      a'.defers = [] ∧ ∃ u, (results fn a'.tmps).run P w' = .ok u w' ∧ ∃ u', Ending.returned u = .returned u' ∧ Left w.heap.size (LiveB φ S z) w F φ S v S' z' u' w' := by
    rintro τ a' w' F' φ' hA' hev ⟨h1, rfl, rfl⟩
    obtain ⟨u, hu, hrel⟩ := ares_sound hA' h1
    exact ⟨hA'.d, u, hu, u, rfl, F', φ', hrel, hA'.s, hev, hA'.hL⟩
  cases x <;> first | exact hk.elim | exact post hA' hev hk
end
end Go.Proofs.YtggojahlhpijeaaA
