/- Regions: operations in their order, or in any order that their edges let in. No condition. -/
import Derived.Test.YtggojahlhpijeaaA10
namespace Go.Proofs.YtggojahlhpijeaaA
open Go Go.RowKit
set_option linter.unusedSimpArgs false
set_option linter.unusedVariables false

/-- A value is put, and on. -/
def kput (k : St → Prop) (t : List AV) (d : Option Tmp) (v : AV) (S : Store) (z : Nat → Bool) : Prop := k ⟨putD t d v, S, z⟩

/-- One operation. -/
def AWo (P : Program) (io : FuncId → Bool) (ops : Array Oper) (o : Oper) (k : St → Prop) (σ : St) : Prop :=
  if awanted ops o σ.t = true then
    match o.op with
    | .call c => acall P io c σ (kput k σ.t o.dst)
    | op => match astep (mkT P) (evalT σ.t) σ.S σ.z op with
      | some (v, S') => k ⟨putD σ.t o.dst v, S', σ.z⟩
      | none => False
  else k ⟨putD σ.t o.dst .undef, σ.S, σ.z⟩

def AWs (P : Program) (io : FuncId → Bool) (ops : Array Oper) : List Oper → (St → Prop) → St → Prop
  | [], k, σ => k σ
  | o :: r, k, σ => AWo P io ops o (AWs P io ops r k) σ

section
variable {P : Program} {io : FuncId → Bool} {w : World} {F : Nat → Prop} {φ : Nat → Nat × Nat} {B : Nat} {L : Nat → Prop} {ops : Array Oper}

/-- The machine's state stands for the model's. -/
structure SimA (B : Nat) (L : Nat → Prop) (w : World) (F : Nat → Prop) (φ : Nat → Nat × Nat) (σ : St) (a : Act) : Prop where
  t : RelL w F φ σ.S.length σ.t a.tmps.toList
  d : a.defers = []
  s : Sim w F φ σ.S σ.z
  hB : B ≤ w.heap.size
  hL : ∀ k, LiveB φ σ.S σ.z k → B ≤ k ∨ L k

theorem simA_put {σ : St} {a : Act} (h : SimA B L w F φ σ a) {v : AV} {S' : Store} {z' : Nat → Bool} {u : Value} {w' : World} (hl : Left B L w F φ σ.S v S' z' u w') (d : Option Tmp) : ∃ F' φ', SimA B L w' F' φ' ⟨putD σ.t d v, S', z'⟩ (a.put d u) ∧ Evo B L w F φ σ.S.length w' F' φ' S'.length := by
  obtain ⟨F', φ', h1, h2, h3, h4⟩ := hl
  refine ⟨F', φ', ⟨rel_putD (h3.relL h.t) d h1, ?_, h2, Nat.le_trans h.hB h3.size, h4⟩, h3⟩
  cases d <;> exact h.d

theorem awo_sound {σ : St} {a : Act} {o : Oper} {i : Nat} {k : St → Prop} {next : Act → World → Prop} {Q : Exit → Act → World → Prop} (ho : ops[i]? = some o) (hA : SimA B L w F φ σ a) (h : AWo P io ops o k σ)
    (hn : ∀ τ a' w' F' φ', k τ → SimA B L w' F' φ' τ a' → Evo B L w F φ σ.S.length w' F' φ' τ.S.length → next a' w') : wpOp P ops Q i next a w := by
  unfold wpOp
  rw [ho]
  simp only
  rw [← awanted_eq hA.t ops o]
  unfold AWo at h
  by_cases hw : awanted ops o σ.t = true
  · rw [if_pos hw] at h
    rw [if_pos hw]
    left
    unfold Oper.wp
    by_cases hc : ∃ c, o.op = .call c
    · obtain ⟨c, hc⟩ := hc
      rw [hc] at h
      simp only at h
      have hs := acall_sound hA.s hA.hB hA.hL hA.t hc h
      generalize (execOp a.eval o).run P w = r at hs
      cases r with
      | ok n w' =>
        cases n <;> first | exact hs.elim | skip
        · obtain ⟨v, S', z', hk, hl⟩ := hs
          obtain ⟨F', φ', hA', he⟩ := simA_put hA hl o.dst
          exact hn _ _ _ _ _ hk hA' he
        · refine Calls.mono hs (fun e w'' he => ?_)
          obtain ⟨u, rfl, v, S', z', hk, hl⟩ := he
          obtain ⟨F', φ', hA', he⟩ := simA_put hA hl o.dst
          exact hn _ _ _ _ _ hk hA' he
      | halt x w' => exact hs.elim
    · have hst : ∃ v S', astep (mkT P) (evalT σ.t) σ.S σ.z o.op = some (v, S') ∧ k ⟨putD σ.t o.dst v, S', σ.z⟩ := by
        split at h
        · rename_i c hcc; exact absurd ⟨c, hcc⟩ hc
        · split at h
          · rename_i v S' he; exact ⟨v, S', he, h⟩
          · exact h.elim
      obtain ⟨v, S', he, hk⟩ := hst
      obtain ⟨r, u, w', hrun, hr, hl⟩ := astep_sound hA.s hA.hB hA.hL (rel_eval hA.t) he
      rw [hrun]
      obtain ⟨F', φ', hA', hev⟩ := simA_put hA hl o.dst
      rcases hr with rfl | ⟨rfl, rfl⟩
      · exact hn _ _ _ _ _ hk hA' hev
      · exact hn _ _ _ _ _ hk hA' hev
  · rw [if_neg hw] at h
    rw [if_neg hw]
    obtain ⟨F', φ', hA', hev⟩ := simA_put hA (left_same hA.s hA.hL (rel_undef (w := w) (F := F) (φ := φ))) o.dst
    exact hn _ _ _ _ _ h hA' hev

/-- By the operations' numbers. -/
def AWl (P : Program) (io : FuncId → Bool) (ops : Array Oper) : List Nat → (St → Prop) → St → Prop
  | [], k, σ => k σ
  | i :: r, k, σ => match ops[i]? with
    | some o => AWo P io ops o (AWl P io ops r k) σ
    | none => AWl P io ops r k σ

theorem acall_ex {c : Call} {σ : St} {k : AV → Store → (Nat → Bool) → Prop} (h : acall P io c σ k) : ∃ v S' z', acall P io c σ (fun v1 S1 z1 => v1 = v ∧ S1 = S' ∧ z1 = z') ∧ k v S' z' := by
  unfold acall at h
  split at h
  · rename_i b hb
    split at h
    · rename_i v S' he
      exact ⟨v, S', σ.z, by unfold acall; simp only [hb, he, and_self], h⟩
    · exact h.elim
  · rename_i f hf
    split at h
    · rename_i g first cap he
      split at h
      · rename_i hio
        obtain ⟨v, S', z', h1, h2⟩ := h
        refine ⟨v, S', z', ?_, h2⟩
        unfold acall
        simp only [hf, he]
        rw [if_pos hio]
        exact ⟨v, S', z', h1, by simp⟩
      · rename_i hio
        unfold call1 at h
        split at h
        · rename_i as hd
          obtain ⟨v, h1, h2⟩ := h
          refine ⟨v, _, _, ?_, h2⟩
          unfold acall
          simp only [hf, he]
          rw [if_neg hio]
          simp only [hd, call1]
          exact ⟨v, h1, by simp⟩
        · exact h.elim
    · exact h.elim
  · exact h.elim
theorem acall_mono {c : Call} {σ : St} {k k' : AV → Store → (Nat → Bool) → Prop} (h : acall P io c σ k) (hk : ∀ v S z, k v S z → k' v S z) : acall P io c σ k' := by
  unfold acall at h ⊢
  cases hc : c.callee with
  | builtin b =>
    rw [hc] at h
    simp only at h ⊢
    generalize abuiltin (mkT P) σ.S σ.z b c.argTypes.toList (c.args.toList.map (evalT σ.t)) = r at h ⊢
    cases r with
    | none => exact h
    | some p => exact hk _ _ _ h
  | invoke r m => rw [hc] at h; exact h
  | value f =>
    rw [hc] at h
    simp only at h ⊢
    generalize evalT σ.t f = q at h ⊢
    split at h
    · rename_i g first cap
      by_cases hio : isIo io f g = true
      · rw [if_pos hio] at h
        rw [if_pos hio]
        obtain ⟨v, S', z', h1, h2⟩ := h
        exact ⟨v, S', z', h1, hk _ _ _ h2⟩
      · rw [if_neg hio] at h
        rw [if_neg hio]
        unfold call1 at h ⊢
        generalize mapO (deep σ.S 6) (first ++ c.args.toList.map (evalT σ.t) ++ cap) = r at h ⊢
        cases r with
        | none => exact h
        | some as =>
          obtain ⟨v, h1, h2⟩ := h
          exact ⟨v, h1, hk _ _ _ h2⟩
    · exact h.elim

/-- What one operation comes to. -/
def Do (P : Program) (io : FuncId → Bool) (ops : Array Oper) (o : Oper) (σ : St) (v : AV) (S' : Store) (z' : Nat → Bool) : Prop :=
  if awanted ops o σ.t = true then
    match o.op with
    | .call c => acall P io c σ (fun v1 S1 z1 => v1 = v ∧ S1 = S' ∧ z1 = z')
    | op => astep (mkT P) (evalT σ.t) σ.S σ.z op = some (v, S') ∧ z' = σ.z
  else v = .undef ∧ S' = σ.S ∧ z' = σ.z

theorem awo_ex {o : Oper} {k : St → Prop} {σ : St} (h : AWo P io ops o k σ) : ∃ v S' z', Do P io ops o σ v S' z' ∧ k ⟨putD σ.t o.dst v, S', z'⟩ := by
  unfold AWo at h
  by_cases hw : awanted ops o σ.t = true
  · rw [if_pos hw] at h
    split at h
    · rename_i c hc
      obtain ⟨v, S', z', h1, h2⟩ := acall_ex h
      refine ⟨v, S', z', ?_, h2⟩
      unfold Do
      rw [if_pos hw, hc]
      exact h1
    · rename_i hne
      split at h
      · rename_i v S' he
        refine ⟨v, S', σ.z, ?_, h⟩
        unfold Do
        rw [if_pos hw]
        split
        · rename_i c hc; exact absurd hc (hne c)
        · exact ⟨he, rfl⟩
      · exact h.elim
  · rw [if_neg hw] at h
    refine ⟨.undef, σ.S, σ.z, ?_, h⟩
    unfold Do
    rw [if_neg hw]
    exact ⟨rfl, rfl, rfl⟩
theorem awo_of {o : Oper} {k : St → Prop} {σ : St} {v : AV} {S' : Store} {z' : Nat → Bool} (h : Do P io ops o σ v S' z') (hk : k ⟨putD σ.t o.dst v, S', z'⟩) : AWo P io ops o k σ := by
  unfold Do at h
  unfold AWo
  by_cases hw : awanted ops o σ.t = true
  · rw [if_pos hw] at h ⊢
    split
    · rename_i c hc
      rw [hc] at h
      exact acall_mono h (fun v1 S1 z1 ⟨e1, e2, e3⟩ => by subst e1; subst e2; subst e3; exact hk)
    · rename_i hne
      split at h
      · rename_i c hc; exact absurd hc (hne c)
      · obtain ⟨h1, rfl⟩ := h
        rw [h1]
        exact hk
  · rw [if_neg hw] at h ⊢
    obtain ⟨rfl, rfl, rfl⟩ := h
    exact hk
theorem awo_mono {o : Oper} {k k' : St → Prop} {σ : St} (h : AWo P io ops o k σ) (hk : ∀ τ, k τ → k' τ) : AWo P io ops o k' σ := by
  obtain ⟨v, S', z', h1, h2⟩ := awo_ex h
  exact awo_of h1 (hk _ h2)

theorem awl_of_aws {k : St → Prop} : ∀ (l : List Oper) (n : Nat) (σ : St), (∀ j, ops[n + j]? = l[j]?) → AWs P io ops l k σ → AWl P io ops (List.range' n l.length) k σ
  | [], n, σ, h, hw => by simpa [AWl, AWs] using hw
  | o :: l, n, σ, h, hw => by
    rw [List.length_cons, List.range'_succ]
    simp only [AWl]
    have h0 := h 0
    simp only [Nat.add_zero, List.getElem?_cons_zero] at h0
    rw [h0]
    simp only [AWs] at hw
    refine awo_mono hw (fun τ hτ => awl_of_aws l (n + 1) τ (fun j => ?_) hτ)
    have := h (j + 1)
    simp only [List.getElem?_cons_succ] at this
    rw [← this]; congr 1; omega

/-! #### any order -/

/-- 0: reads nothing but its operands; 1: reads; 2: makes a block; 3: writes. -/
def cls (P : Program) (io : FuncId → Bool) : Op → Nat
  | .load _ _ => 1
  | .alloc _ | .box _ _ | .makeSlice _ _ _ => 2
  | .convert s t _ => match mkT P s, mkT P t with
    | some ⟨.slice _, _, _, _⟩, _ => 1
    | _, some ⟨.slice _, _, _, _⟩ => 2
    | _, _ => 0
  | .store _ _ _ => 3
  | .call c => match c.callee with
    | .builtin .len | .builtin .max | .builtin .min => 0
    | .value f => match f with
      | .func g => if io g = true then 3 else 1
      | _ => 1
    | _ => 3
  | .select _ _ => 3
  | _ => 0

def compat (P : Program) (io : FuncId → Bool) (ops : Array Oper) (x y : Oper) : Bool :=
  x.apart ops y && (cls P io x.op == 0 || cls P io y.op == 0 || (cls P io x.op == 1 && (cls P io y.op == 1 || cls P io y.op == 2)))

theorem evalT_put {t : List AV} {d : Option Tmp} {v : AV} {x : Operand} (h : ∀ e, d = some e → x ≠ .tmp e) : evalT (putD t d v) x = evalT t x := by
  cases d with
  | none => rfl
  | some d =>
    cases x with
    | tmp n =>
      have : d ≠ n := fun e => h d rfl (e ▸ rfl)
      simp only [evalT, putD, List.getD_eq_getElem?_getD, List.getElem?_set_ne this]
    | _ => rfl
theorem putD_comm (t : List AV) {x y : Option Tmp} (v u : AV) (h : ∀ d, x = some d → y ≠ some d) : putD (putD t x v) y u = putD (putD t y u) x v := by
  cases x with
  | none => rfl
  | some d =>
    cases y with
    | none => rfl
    | some e =>
      have hne : d ≠ e := fun he => h d rfl (he ▸ rfl)
      exact List.set_comm v u hne

theorem awanted_put {o : Oper} {t : List AV} {d : Option Tmp} {v : AV} (h : ∀ e, d = some e → e ∉ o.looksAt ops) : awanted ops o (putD t d v) = awanted ops o t := by
  cases d with
  | none => rfl
  | some d =>
    unfold awanted
    cases hg : o.guard with
    | none => rfl
    | some gw =>
      obtain ⟨g, want⟩ := gw
      cases ht : (ops[g]?).bind (·.dst) with
      | none => simp only [ht]
      | some e =>
        have hne : d ≠ e := fun he => h d rfl (by subst he; simp [Oper.looksAt, hg, ht])
        simp only [ht, putD, List.getD_eq_getElem?_getD, List.getElem?_set_ne hne]

theorem apure_congr {T : TT} {ρ ρ' : Operand → AV} {op : Op} (h : ∀ x ∈ op.operands, ρ x = ρ' x) : apure T ρ op = apure T ρ' op := by
  have pairs : ∀ ps : Array (Nat × Operand), (∀ x ∈ ps.map (·.2), ρ x = ρ' x) → (ps.toList.map fun p => (p.1, ρ p.2)) = (ps.toList.map fun p => (p.1, ρ' p.2)) := fun ps hp => by
    refine List.map_congr_left fun p hm => ?_
    rw [hp p.2 (Array.mem_map.2 ⟨p, Array.mem_toList_iff.1 hm, rfl⟩)]
  cases op <;> simp only [Op.operands] at h <;> simp only [apure]
  case build t ps => rw [pairs ps fun x hx => h x (by simpa using hx)]
  case buildSlice t n ps => rw [pairs ps fun x hx => h x (by simpa using hx)]
  case makeFunc fn first captured =>
    cases fn <;> simp only
    rw [List.map_congr_left (l := first.toList) fun x hx => h x (by simp; exact .inl (Array.mem_toList_iff.1 hx)), List.map_congr_left (l := captured.toList) fun x hx => h x (by simp; exact .inr (Array.mem_toList_iff.1 hx))]
  case slice t x lo hi mx => cases lo <;> cases hi <;> cases mx <;> simp_all
  all_goals (first | rfl | (simp_all; done))

theorem astep_congr {T : TT} {ρ ρ' : Operand → AV} {S : Store} {z : Nat → Bool} {op : Op} (h : ∀ x ∈ op.operands, ρ x = ρ' x) : astep T ρ S z op = astep T ρ' S z op := by
  have hp := apure_congr (T := T) h
  cases op <;> simp only [astep] <;> (try (rw [hp])) <;> simp only [Op.operands] at h
  all_goals (first | rfl | (simp_all; done))

theorem acall_congr {c : Call} {σ σ' : St} {k : AV → Store → (Nat → Bool) → Prop} (hS : σ'.S = σ.S) (hz : σ'.z = σ.z) (h : ∀ x ∈ c.operands, evalT σ'.t x = evalT σ.t x) (hc : acall P io c σ k) : acall P io c σ' k := by
  have ha : c.args.toList.map (evalT σ'.t) = c.args.toList.map (evalT σ.t) := List.map_congr_left fun x hx => h x (by simp [Call.operands]; right; exact Array.mem_toList_iff.1 hx)
  unfold acall at hc ⊢
  rw [hS, hz, ha]
  cases hq : c.callee with
  | value f => rw [hq] at hc; simp only at hc ⊢; rw [h f (by simp [Call.operands, hq])]; exact hc
  | _ => rw [hq] at hc; exact hc

theorem do_congr {o : Oper} {σ : St} {t' : List AV} {v : AV} {S' : Store} {z' : Nat → Bool} (hw : awanted ops o t' = awanted ops o σ.t) (h : ∀ x ∈ o.op.operands, evalT t' x = evalT σ.t x) (hd : Do P io ops o σ v S' z') : Do P io ops o ⟨t', σ.S, σ.z⟩ v S' z' := by
  unfold Do at hd ⊢
  simp only
  rw [hw]
  by_cases hwt : awanted ops o σ.t = true
  · rw [if_pos hwt] at hd ⊢
    cases hop : o.op with
    | call c =>
      rw [hop] at hd h
      simp only at hd ⊢
      exact acall_congr (σ := σ) (σ' := ⟨t', σ.S, σ.z⟩) rfl rfl h hd
    | _ => rw [hop] at hd h; simp only at hd ⊢; rw [astep_congr h]; exact hd
  · rw [if_neg hwt] at hd ⊢; exact hd

theorem do_put {x y : Oper} (hap : ∀ d, x.dst = some d → d ∉ y.looksAt ops) {σ : St} {u v : AV} {S' : Store} {z' : Nat → Bool} (hd : Do P io ops y σ v S' z') : Do P io ops y ⟨putD σ.t x.dst u, σ.S, σ.z⟩ v S' z' :=
  do_congr (awanted_put hap) (fun w hw => evalT_put fun d hdx hwd => hap d hdx (by
    subst hwd
    exact List.mem_append_left _ (List.mem_filterMap.2 ⟨.tmp d, by simpa using hw, rfl⟩))) hd
theorem do_unput {x y : Oper} (hap : ∀ d, x.dst = some d → d ∉ y.looksAt ops) {t : List AV} {S : Store} {z : Nat → Bool} {u v : AV} {S' : Store} {z' : Nat → Bool} (hd : Do P io ops y ⟨putD t x.dst u, S, z⟩ v S' z') : Do P io ops y ⟨t, S, z⟩ v S' z' :=
  do_congr (awanted_put hap).symm (fun w hw => (evalT_put fun d hdx hwd => hap d hdx (by
    subst hwd
    exact List.mem_append_left _ (List.mem_filterMap.2 ⟨.tmp d, by simpa using hw, rfl⟩))).symm) hd
end
end Go.Proofs.YtggojahlhpijeaaA
