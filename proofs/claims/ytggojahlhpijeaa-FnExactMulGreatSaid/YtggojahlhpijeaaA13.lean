/- Whole bodies, and whole functions. No condition. -/
import Derived.Test.YtggojahlhpijeaaA12
namespace Go.Proofs.YtggojahlhpijeaaA
open Go Go.RowKit
set_option linter.unusedSimpArgs false
set_option linter.unusedVariables false

def preds (o : Oper) : List Nat := (o.after.toList.filter (Region.binds .any)).map (·.on)
def maskOf (A : List Nat) (o : Oper) : Nat := (preds o).foldl (fun s m => s ||| 2 ^ m ||| A.getD m 0) 0
def masks (A : List Nat) : List Oper → List Nat
  | [] => A
  | o :: r => masks (A ++ [maskOf A o]) r

/-- Whether the operations of a region may go in any order that the edges let in. -/
def regOk (P : Program) (io : FuncId → Bool) (ops : Array Oper) : Bool :=
  let A := masks [] ops.toList
  (List.range ops.size).all fun i =>
    let o := ops.getD i default
    A.getD i 0 == maskOf A o && (preds o).all (fun m => decide (m < i)) &&
    (List.range i).all fun j => compat P io ops (ops.getD j default) o || (A.getD i 0).testBit j

def codeOk (P : Program) (io : FuncId → Bool) : Code → Bool
  | .region _ ops d => !d || regOk P io ops
  | .seq a b => codeOk P io a && codeOk P io b
  | .cond _ a b => codeOk P io a && codeOk P io b
  | .block _ a => codeOk P io a
  | .loop a => codeOk P io a
  | _ => true

def kseq (next : St → Prop) (K : Exit → St → Prop) : Exit → St → Prop
  | .normal, σ => next σ
  | e, σ => K e σ
def kblock (id : Nat) (K : Exit → St → Prop) : Exit → St → Prop
  | .exit id', σ => if id' = id then K .normal σ else K (.exit id') σ
  | e, σ => K e σ
def kloop (I : Nat → St → Prop) (m : Nat) (K : Exit → St → Prop) : Exit → St → Prop
  | .normal, σ => ∃ m', m' < m ∧ I m' σ
  | e, σ => K e σ

/-- A loop: what holds at its head, and a measure that falls. -/
def loop2 (body : (Exit → St → Prop) → St → Prop) (K : Exit → St → Prop) (σ : St) : Prop := ∃ I : Nat → St → Prop, (∃ m, I m σ) ∧ ∀ m τ, I m τ → body (kloop I m K) τ

def cond2 (t : Bool) (A B : St → Prop) (σ : St) : Prop := if t = true then A σ else B σ

/-- What a body comes to. -/
def AW (P : Program) (io : FuncId → Bool) : Code → (Exit → St → Prop) → St → Prop
  | .skip, K, σ => K .normal σ
  | .region _ ops _, K, σ => AWs P io ops ops.toList (K .normal) σ
  | .seq a b, K, σ => AW P io a (kseq (AW P io b K) K) σ
  | .cond c x y, K, σ => match evalT σ.t c with
    | .b t => cond2 t (AW P io x K) (AW P io y K) σ
    | _ => False
  | .block id c, K, σ => AW P io c (kblock id K) σ
  | .loop c, K, σ => loop2 (AW P io c) K σ
  | .exit id, K, σ => K (.exit id) σ
  | .ret, K, σ => K .ret σ
  | _, _, _ => False

section
variable {P : Program} {io : FuncId → Bool} {w : World} {F : Nat → Prop} {φ : Nat → Nat × Nat} {B : Nat} {L : Nat → Prop} {ops : Array Oper}

/-- The rest of a region, the operations that wait in the order of their numbers. -/
theorem awl_mono {k k' : St → Prop} (hk : ∀ τ, k τ → k' τ) : ∀ (l : List Nat) (σ : St), AWl P io ops l k σ → AWl P io ops l k' σ
  | [], σ, h => hk σ h
  | i :: l, σ, h => by
    simp only [AWl] at h ⊢
    cases ho : ops[i]? with
    | none => rw [ho] at h; exact awl_mono hk l σ h
    | some o => rw [ho] at h; exact awo_mono h (fun τ hτ => awl_mono hk l τ hτ)
theorem awl_first {k : St → Prop} {i : Nat} {o : Oper} (ho : ops[i]? = some o) (l2 : List Nat) : ∀ (l1 : List Nat) (σ : St), (∀ j ∈ l1, ∃ x, ops[j]? = some x ∧ compat P io ops x o = true) → AWl P io ops (l1 ++ i :: l2) k σ → AWo P io ops o (AWl P io ops (l1 ++ l2) k) σ
  | [], σ, _, h => by simpa [AWl, ho] using h
  | j :: l1, σ, hc, h => by
    obtain ⟨x, hx, hcx⟩ := hc j (by simp)
    simp only [List.cons_append, AWl, hx] at h
    have h2 := awo_mono h (fun τ hτ => awl_first ho l2 l1 τ (fun j hj => hc j (by simp [hj])) hτ)
    have h3 := swap hcx h2
    exact awo_mono h3 (fun τ hτ => by simp only [List.cons_append, AWl, hx]; exact hτ)

theorem testBit_foldl (A : List Nat) (j : Nat) : ∀ (l : List Nat) (s : Nat), (l.foldl (fun s m => s ||| 2 ^ m ||| A.getD m 0) s).testBit j = true → s.testBit j = true ∨ ∃ m ∈ l, m = j ∨ (A.getD m 0).testBit j = true
  | [], s, h => .inl h
  | m :: l, s, h => by
    simp only [List.foldl_cons] at h
    rcases testBit_foldl A j l _ h with h | ⟨m', h1, h2⟩
    · rw [Nat.testBit_or, Nat.testBit_or, Bool.or_eq_true, Bool.or_eq_true] at h
      rcases h with (h | h) | h
      · exact .inl h
      · refine .inr ⟨m, by simp, .inl ?_⟩
        rw [Nat.testBit_two_pow] at h
        exact of_decide_eq_true h
      · exact .inr ⟨m, by simp, .inr h⟩
    · exact .inr ⟨m', by simp [h1], h2⟩

theorem getD_of {i : Nat} {o : Oper} (h : ops[i]? = some o) : ops.getD i default = o := by
  obtain ⟨hlt, rfl⟩ := Array.getElem?_eq_some_iff.1 h
  simp [Array.getD, hlt]

/-- In any order. -/
theorem any_sound (hok : regOk P io ops = true) {Q : Exit → Act → World → Prop} {k : St → Prop} : ∀ (fuel : Nat) (listed : Array Bool), listed.size = ops.size →
    (∀ i o, listed.getD i false = true → ops[i]? = some o → ∀ m ∈ preds o, listed.getD m false = true) →
    ∀ {w : World} {F : Nat → Prop} {φ : Nat → Nat × Nat} {σ : St} {a : Act}, SimA B L w F φ σ a →
    AWl P io ops ((List.range ops.size).filter fun i => !listed.getD i false) k σ →
    ((List.range ops.size).filter fun i => !listed.getD i false).length ≤ fuel →
    (∀ τ a' w' F' φ', k τ → SimA B L w' F' φ' τ a' → Evo B L w F φ σ.S.length w' F' φ' τ.S.length → Q .normal a' w') →
    wpAny P .any ops Q fuel listed a w := by
  intro fuel
  have hall := List.all_eq_true.1 hok
  have hready : ∀ (listed : Array Bool), listed.size = ops.size → ∀ i, i ∈ Region.ready .any ops listed ↔ i < ops.size ∧ listed.getD i false = false ∧ ∃ o, ops[i]? = some o ∧ ∀ m ∈ preds o, listed.getD m false = true := by
    intro listed hsz i
    unfold Region.ready
    rw [List.mem_filter, List.mem_range]
    have hd : i < ops.size → listed.getD i true = listed.getD i false := by
      intro hi; simp [Array.getD, hsz, hi]
    constructor
    · rintro ⟨hi, h⟩
      rw [Bool.and_eq_true, Bool.not_eq_true', hd hi] at h
      obtain ⟨o, ho⟩ : ∃ o, ops[i]? = some o := ⟨_, Array.getElem?_eq_getElem hi⟩
      rw [ho] at h
      refine ⟨hi, h.1, o, ho, fun m hm => ?_⟩
      obtain ⟨e, he, rfl⟩ := List.mem_map.1 hm
      rw [List.mem_filter] at he
      have := h.2
      simp only [Option.map_some, Option.getD_some, Array.all_eq_true'] at this
      have := this e (Array.mem_toList_iff.1 he.1)
      rw [he.2] at this
      simpa using this
    · rintro ⟨hi, h1, o, ho, h2⟩
      refine ⟨hi, ?_⟩
      rw [Bool.and_eq_true, Bool.not_eq_true', hd hi, ho]
      refine ⟨h1, ?_⟩
      simp only [Option.map_some, Option.getD_some, Array.all_eq_true']
      intro e he
      cases hb : Region.binds .any e with
      | false => rfl
      | true =>
        simp only [Bool.not_true, Bool.false_or]
        exact h2 e.on (List.mem_map.2 ⟨e, List.mem_filter.2 ⟨Array.mem_toList_iff.2 he, hb⟩, rfl⟩)
  have hnone : ∀ (listed : Array Bool), listed.size = ops.size → Region.ready .any ops listed = [] → ((List.range ops.size).filter fun i => !listed.getD i false) = [] := by
    intro listed hsz hr
    rw [List.filter_eq_nil_iff]
    intro i hi
    induction i using Nat.strongRecOn with
    | _ i ih =>
      intro hn
      rw [List.mem_range] at hi
      obtain ⟨o, ho⟩ : ∃ o, ops[i]? = some o := ⟨_, Array.getElem?_eq_getElem hi⟩
      have hi2 := hall i (List.mem_range.2 hi)
      rw [getD_of ho] at hi2
      simp only [Bool.and_eq_true] at hi2
      have hpl := List.all_eq_true.1 hi2.1.2
      have : i ∈ Region.ready .any ops listed := (hready listed hsz i).2 ⟨hi, by simpa using hn, o, ho, fun m hm => by
        have hmi : m < i := of_decide_eq_true (hpl m hm)
        have := ih m hmi (List.mem_range.2 (by omega))
        simpa using this⟩
      rw [hr] at this
      cases this
  induction fuel with
  | zero =>
    intro listed hsz hcl w F φ σ a hA h hlen hQ
    have hnil : ((List.range ops.size).filter fun i => !listed.getD i false) = [] := List.eq_nil_of_length_eq_zero (by omega)
    rw [hnil] at h
    refine ⟨?_, hQ σ a w F φ h hA Evo.refl⟩
    rw [List.eq_nil_iff_forall_not_mem]
    intro i hi
    obtain ⟨h1, h2, _⟩ := (hready listed hsz i).1 hi
    have : i ∈ ((List.range ops.size).filter fun i => !listed.getD i false) := List.mem_filter.2 ⟨List.mem_range.2 h1, by simpa using h2⟩
    rw [hnil] at this
    cases this
  | succ fuel ih =>
    intro listed hsz hcl w F φ σ a hA h hlen hQ
    refine ⟨fun hr => ?_, fun i hi => ?_⟩
    · rw [hnone listed hsz hr] at h
      exact hQ σ a w F φ h hA Evo.refl
    · obtain ⟨hlt, hun, o, ho, hpr⟩ := (hready listed hsz i).1 hi
      obtain ⟨l1, l2, hsplit, hl1⟩ : ∃ l1 l2, ((List.range ops.size).filter fun i => !listed.getD i false) = l1 ++ i :: l2 ∧ ∀ j ∈ l1, j < i ∧ listed.getD j false = false := by
        refine ⟨(List.range i).filter fun j => !listed.getD j false, (List.range' (i + 1) (ops.size - (i + 1))).filter fun j => !listed.getD j false, ?_, fun j hj => ?_⟩
        · have e : List.range ops.size = List.range i ++ i :: List.range' (i + 1) (ops.size - (i + 1)) := by
            rw [show ops.size = i + (1 + (ops.size - (i + 1))) by omega, List.range_eq_range', ← List.range'_append_1, List.range_eq_range']
            congr 1
            rw [Nat.add_comm 1, List.range'_succ]
            simp
            congr 1
            omega
          rw [e, List.filter_append, List.filter_cons]
          simp [hun]
        · rw [List.mem_filter, List.mem_range] at hj
          exact ⟨hj.1, by simpa using hj.2⟩
      rw [hsplit] at h
      have hi2 := hall i (List.mem_range.2 hlt)
      rw [getD_of ho] at hi2
      simp only [Bool.and_eq_true] at hi2
      have hpl := List.all_eq_true.1 hi2.1.2
      -- whatever a bit names is listed
      have hbits : ∀ (n : Nat) (x : Oper), n < ops.size → ops[n]? = some x → (∀ m ∈ preds x, listed.getD m false = true) → ∀ j, ((masks [] ops.toList).getD n 0).testBit j = true → listed.getD j false = true := by
        intro n
        induction n using Nat.strongRecOn with
        | _ n ihn =>
          intro x hn hx hpx j hj
          have hn2 := hall n (List.mem_range.2 hn)
          rw [getD_of hx] at hn2
          simp only [Bool.and_eq_true, beq_iff_eq] at hn2
          rw [hn2.1.1] at hj
          unfold maskOf at hj
          rcases testBit_foldl _ j _ _ hj with h0 | ⟨m, hm, hmj⟩
          · simp at h0
          · rcases hmj with rfl | hmj
            · exact hpx _ hm
            · have hmn : m < n := of_decide_eq_true (List.all_eq_true.1 hn2.1.2 m hm)
              obtain ⟨y, hy⟩ : ∃ y, ops[m]? = some y := ⟨_, Array.getElem?_eq_getElem (by omega)⟩
              exact ihn m hmn y (by omega) hy (hcl m y (hpx m hm) hy) j hmj
      have hfirst := awl_first ho l2 l1 σ (fun j hj => by
        obtain ⟨hji, hju⟩ := hl1 j hj
        obtain ⟨x, hx⟩ : ∃ x, ops[j]? = some x := ⟨_, Array.getElem?_eq_getElem (by omega)⟩
        refine ⟨x, hx, ?_⟩
        have := List.all_eq_true.1 hi2.2 j (List.mem_range.2 hji)
        rw [getD_of hx, Bool.or_eq_true] at this
        rcases this with h | h
        · exact h
        · have := hbits i o hlt ho hpr j h
          rw [hju] at this; cases this) h
      have hset : ∀ n, (listed.setIfInBounds i true).getD n false = if n = i then true else listed.getD n false := by
        intro n
        by_cases hni : n = i
        · subst hni
          simp [Array.getD, hsz, hlt]
        · rw [if_neg hni]
          simp only [Array.getD, Array.size_setIfInBounds]
          split
          · simp only [Array.getInternal_eq_getElem]
            exact Array.getElem_setIfInBounds_ne _ (fun e => hni e.symm)
          · rfl
      have hrem : ((List.range ops.size).filter fun n => !(listed.setIfInBounds i true).getD n false) = l1 ++ l2 := by
        have e1 : (fun n => !(listed.setIfInBounds i true).getD n false) = (fun n => (n != i) && !listed.getD n false) := by
          funext n
          rw [hset]
          by_cases hni : n = i <;> simp [hni]
        rw [e1, ← List.filter_filter, hsplit, List.filter_append, List.filter_cons]
        simp only [bne_self_eq_false, Bool.false_eq_true, if_false]
        have nd : (l1 ++ i :: l2).Nodup := by rw [← hsplit]; exact List.nodup_range.filter _
        rw [List.nodup_append] at nd
        have n2 := nd.2.1
        rw [List.nodup_cons] at n2
        congr 1
        · rw [List.filter_eq_self]
          intro x hx
          have := (hl1 x hx).1
          simp; omega
        · rw [List.filter_eq_self]
          intro x hx
          simp
          intro e
          subst e
          exact n2.1 hx
      refine awo_sound ho hA hfirst (fun τ a' w' F' φ' hk hA' hev => ?_)
      refine ih (listed.setIfInBounds i true) (by simpa using hsz) (fun n x hn hx m hm => ?_) hA' (by rw [hrem]; exact hk) ?_ (fun τ2 a2 w2 F2 φ2 hk2 hA2 hev2 => hQ τ2 a2 w2 F2 φ2 hk2 hA2 (hev.trans hev2))
      · rw [hset] at hn ⊢
        by_cases hmi : m = i
        · rw [if_pos hmi]
        · rw [if_neg hmi]
          split at hn
          · rename_i hni
            subst hni
            rw [ho] at hx; cases hx
            exact hpr m hm
          · exact hcl n x hn hx m hm
      · rw [hrem]
        rw [hsplit] at hlen
        simp at hlen ⊢
        omega

theorem code_sound (hmix : P.follows .mixedOrders = true) : ∀ (c : Code), codeOk P io c = true → ∀ {w : World} {F : Nat → Prop} {φ : Nat → Nat × Nat} {σ : St} {a : Act} {K : Exit → St → Prop} {Q : Exit → Act → World → Prop}, SimA B L w F φ σ a → AW P io c K σ →
    (∀ x τ a' w' F' φ', K x τ → SimA B L w' F' φ' τ a' → Evo B L w F φ σ.S.length w' F' φ' τ.S.length → Q x a' w') → c.wp P Q a w := by
  intro c
  induction c with
  | skip => intro _ w F φ σ a K Q hA h hQ; exact wp_skip (hQ _ _ _ _ _ _ h hA Evo.refl)
  | exit id => intro _ w F φ σ a K Q hA h hQ; exact wp_exit (hQ _ _ _ _ _ _ h hA Evo.refl)
  | ret => intro _ w F φ σ a K Q hA h hQ; exact wp_ret (hQ _ _ _ _ _ _ h hA Evo.refl)
  | seq x y ihx ihy =>
    intro hok w F φ σ a K Q hA h hQ
    simp only [codeOk, Bool.and_eq_true] at hok
    refine wp_seq (ihx hok.1 hA h (fun e τ a' w' F' φ' hk hA' hev => ?_))
    cases e with
    | normal => exact ihy hok.2 hA' hk (fun e2 τ2 a2 w2 F2 φ2 hk2 hA2 hev2 => hQ e2 τ2 a2 w2 F2 φ2 hk2 hA2 (hev.trans hev2))
    | _ => exact hQ _ _ _ _ _ _ hk hA' hev
  | cond c x y ihx ihy =>
    intro hok w F φ σ a K Q hA h hQ
    simp only [codeOk, Bool.and_eq_true] at hok
    simp only [AW] at h
    have hc := rel_eval hA.t c
    split at h
    · rename_i t he
      rw [he] at hc
      have hb := rel_b hc
      refine wp_cond hb ?_
      cases t with
      | true => exact ihx hok.1 hA h hQ
      | false => exact ihy hok.2 hA h hQ
    · exact h.elim
  | block id c ih =>
    intro hok w F φ σ a K Q hA h hQ
    refine wp_block (ih hok hA h (fun e τ a' w' F' φ' hk hA' hev => ?_))
    cases e with
    | exit id' =>
      simp only [kblock] at hk
      simp only [Exit.inBlock]
      split
      · rename_i hid; rw [if_pos hid] at hk; exact hQ _ _ _ _ _ _ hk hA' hev
      · rename_i hid; rw [if_neg hid] at hk; exact hQ _ _ _ _ _ _ hk hA' hev
    | _ => exact hQ _ _ _ _ _ _ hk hA' hev
  | loop c ih =>
    intro hok w F φ σ a K Q hA h hQ
    obtain ⟨I, ⟨m0, h0⟩, hstep⟩ := h
    intro b k cs
    have key : ∀ m, ∀ {w1 : World} {F1 : Nat → Prop} {φ1 : Nat → Nat × Nat} {τ : St} {a1 : Act}, SimA B L w1 F1 φ1 τ a1 → Evo B L w F φ σ.S.length w1 F1 φ1 τ.S.length → I m τ →
        ∃ e a' w', Q e a' w' ∧ Arrives P (lone (b.at a1 (.code c :: .inLoop c :: k)) cs w1) b k cs e a' w' := by
      intro m
      induction m using Nat.strongRecOn with
      | _ m ihm =>
        intro w1 F1 φ1 τ a1 hA1 hev1 hI
        have hw := ih hok hA1 (hstep m τ hI) (Q := fun e a' w' => ∃ τ' F' φ', kloop I m K e τ' ∧ SimA B L w' F' φ' τ' a' ∧ Evo B L w1 F1 φ1 τ.S.length w' F' φ' τ'.S.length) (fun e τ' a' w' F' φ' hk hA' hev' => ⟨τ', F', φ', hk, hA', hev'⟩)
        obtain ⟨e, a2, w2, ⟨τ', F', φ', hk, hA', hev'⟩, harr⟩ := hw b (.inLoop c :: k) cs
        cases e with
        | normal =>
          obtain ⟨m', hlt, hI'⟩ := hk
          obtain ⟨e3, a3, w3, hq3, harr3⟩ := ihm m' hlt hA' (hev1.trans hev') hI'
          exact ⟨e3, a3, w3, hq3, .of_steps (Steps.trans harr (.one step_inLoop)) harr3⟩
        | exit id => exact ⟨_, a2, w2, hQ _ _ _ _ _ _ hk hA' (hev1.trans hev'), .pass (x := .inLoop c) rfl (fun _ _ => .inl (by simp)) harr⟩
        | goto l => exact ⟨_, a2, w2, hQ _ _ _ _ _ _ hk hA' (hev1.trans hev'), .pass (x := .inLoop c) rfl (fun _ _ => .inl (by simp)) harr⟩
        | ret => exact ⟨_, a2, w2, hQ _ _ _ _ _ _ hk hA' (hev1.trans hev'), .pass (x := .inLoop c) rfl (fun _ _ => .inl (by simp)) harr⟩
        | panic ch => exact ⟨_, a2, w2, hQ _ _ _ _ _ _ hk hA' (hev1.trans hev'), .pass (x := .inLoop c) rfl (fun _ _ => .inl (by simp)) harr⟩
        | outgrown => exact ⟨_, a2, w2, hQ _ _ _ _ _ _ hk hA' (hev1.trans hev'), .pass (x := .inLoop c) rfl (fun _ _ => .inl (by simp)) harr⟩
    obtain ⟨e, a', w', hq, harr⟩ := key m0 hA Evo.refl h0
    exact ⟨e, a', w', hq, .of_steps (.one step_loop) harr⟩
  | region id ops d =>
    intro hok w F φ σ a K Q hA h hQ
    simp only [AW] at h
    have hl := awl_of_aws (ops := ops) ops.toList 0 σ (fun j => by simp) h
    rw [Array.length_toList, ← List.range_eq_range'] at hl
    cases d with
    | false =>
      refine wp_region ?_
      have key : ∀ (l : List Nat) {w1 : World} {F1 : Nat → Prop} {φ1 : Nat → Nat × Nat} {τ : St} {a1 : Act}, SimA B L w1 F1 φ1 τ a1 → Evo B L w F φ σ.S.length w1 F1 φ1 τ.S.length → AWl P io ops l (K .normal) τ → wpOps P ops Q l a1 w1 := by
        intro l
        induction l with
        | nil => intro w1 F1 φ1 τ a1 hA1 hev1 hk; exact hQ _ _ _ _ _ _ hk hA1 hev1
        | cons i l ihl =>
          intro w1 F1 φ1 τ a1 hA1 hev1 hk
          rw [wpOps_cons]
          simp only [AWl] at hk
          cases ho : ops[i]? with
          | none =>
            rw [ho] at hk
            unfold wpOp
            rw [ho]
            exact ihl hA1 hev1 hk
          | some o =>
            rw [ho] at hk
            exact awo_sound ho hA1 hk (fun τ' a' w' F' φ' hk' hA' hev' => ihl hA' (hev1.trans hev') hk')
      exact key _ hA Evo.refl hl
    | true =>
      simp only [codeOk, Bool.not_true, Bool.false_or] at hok
      refine wp_region_any hmix ?_
      have hA2 : SimA B L { w with drawn := w.drawn + 1 } F φ σ a := ⟨hA.t.mono (fun _ h => h) (fun _ _ => rfl) (fun _ h => h) (Nat.le_refl _) (fun _ _ => rfl), hA.d, sim_drew hA.s, hA.hB, hA.hL⟩
      have hall : ((List.range ops.size).filter fun i => !(Array.replicate ops.size false).getD i false) = List.range ops.size := by
        rw [List.filter_eq_self]
        intro i hi
        rw [List.mem_range] at hi
        simp [Array.getD, hi]
      refine any_sound hok ops.size (Array.replicate ops.size false) (by simp) (fun i o h => ?_) hA2 (by rw [hall]; exact hl) (by rw [hall]; simp) (fun τ a' w' F' φ' hk hA' hev => ?_)
      · exfalso
        simp only [Array.getD] at h
        split at h
        · simp at h
        · cases h
      · exact hQ _ _ _ _ _ _ hk hA' ⟨hev.Fle, hev.Fnew, hev.φeq, hev.Nle, hev.Fkeep, hev.keep, hev.cells, hev.os, hev.tape, hev.output, hev.size⟩
  | _ => intro _ w F φ σ a K Q hA h hQ; exact h.elim
end
end Go.Proofs.YtggojahlhpijeaaA
