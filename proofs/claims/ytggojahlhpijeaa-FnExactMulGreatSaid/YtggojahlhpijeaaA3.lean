/- Each operation that is no call comes, in the model, to what the other machine computes. No condition. -/
import Derived.Test.YtggojahlhpijeaaA2
import Derived.Laws.Entries
namespace Go.Proofs.YtggojahlhpijeaaA
open Go Go.RowKit

/-- The kinds of the cells of a type whose values are compared cell by cell. -/
def kindsF (K : TypeId → Option (List CK)) (C : TypeId → Nat) : List Field → Nat → Option (List CK)
  | [], _ => some []
  | f :: fs, o => if f.name ≠ "_" ∧ f.offset = o then
    match K f.type with
    | some a => if a.length = C f.type then match kindsF K C fs (o + C f.type) with
      | some r => some (a ++ r)
      | none => none
      else none
    | none => none
    else none

def kinds (P : Program) : Nat → TypeId → Option (List CK)
  | 0, _ => none
  | d + 1, t => match P.underlying t with
    | some .bool => some [.b]
    | some (.int _) => some [.i]
    | some .string => some [.s]
    | some (.struct fs) => if P.stoodInHeld t = false then kindsF (kinds P d) P.cellsOf fs.toList 0 else none
    | _ => none

def aggOf (P : Program) (t : TypeId) : Bool :=
  match P.underlying t with
  | some (.struct _) | some (.array _ _) => true
  | _ => false

def tdOf (P : Program) (t : TypeId) : TypeDesc → TD
  | .bool => .bool
  | .int k => .int k
  | .string => .str
  | .slice e => .slice e
  | .struct fs => .struct (fs.toList.map fun f => (f.offset, P.cellsOf f.type, aggOf P f.type)) (if P.eqGuardType P.depth t = false then kinds P 5 t else none)
  | .array n e => .array n e
  | _ => .other

def tdFine (P : Program) : TypeDesc → Bool
  | .struct fs => fs.toList.all fun f => (P.underlying f.type).isSome
  | _ => true

/-- What the program says of its types. -/
def mkT (P : Program) : TT := fun t =>
  match P.info? t, P.underlying t with
  | some i, some d => match i.zero with
    | some z => if tdFine P d = true then some { d := tdOf P t d, size := i.size, bytes := i.bytes, zero := z.cells.toList.map ofC } else none
    | none => none
  | _, _ => none

section
variable {P : Program} {w : World} {F : Nat → Prop} {φ : Nat → Nat × Nat} {N : Nat}

theorem mkT_spec {t : TypeId} {x : TI} (h : mkT P t = some x) : ∃ i d z, P.info? t = some i ∧ P.underlying t = some d ∧ i.zero = some z ∧ i.size = x.size ∧ i.bytes = x.bytes ∧ x.zero = z.cells.toList.map ofC ∧ x.d = tdOf P t d ∧ tdFine P d = true := by
  unfold mkT at h
  split at h
  · rename_i i d hi hd
    split at h
    · rename_i z hz
      split at h
      · rename_i hfine
        cases h
        exact ⟨i, d, z, hi, hd, hz, rfl, rfl, rfl, rfl, hfine⟩
      · cases h
    · cases h
  · cases h

theorem run_sizeOf {t : TypeId} {x : TI} (h : mkT P t = some x) : (sizeOf t).run P w = .ok x.size w := by
  obtain ⟨i, d, z, hi, hd, hz, hs, _⟩ := mkT_spec h
  simp [sizeOf, typeInfo, hi, hs]
theorem run_bytes {t : TypeId} {x : TI} (h : mkT P t = some x) : (typeInfo t).run P w = .ok ((P.info? t).getD default) w ∧ ((P.info? t).getD default).bytes = x.bytes ∧ ((P.info? t).getD default).size = x.size := by
  obtain ⟨i, d, z, hi, hd, hz, hs, hb, _⟩ := mkT_spec h
  simp [typeInfo, hi, hs, hb]
theorem cellsOf_eq {t : TypeId} {x : TI} (h : mkT P t = some x) : P.cellsOf t = x.size := by
  obtain ⟨i, d, z, hi, hd, hz, hs, hb, _⟩ := mkT_spec h
  simp [Program.cellsOf, hi, hs]
theorem run_isAgg {t : TypeId} {x : TI} (h : mkT P t = some x) : (isAgg t).run P w = .ok x.agg w := by
  obtain ⟨i, d, z, hi, hd, hz, hs, hb, h0, hx, hfine⟩ := mkT_spec h
  unfold isAgg TI.agg
  rw [hx]
  simp only [Sem.run_bind, run_underlying hd, Result.andThen_ok]
  cases d <;> rfl
theorem und_slice {t e : TypeId} {x : TI} (h : mkT P t = some x) (hd : x.d = .slice e) : P.underlying t = some (.slice e) := by
  obtain ⟨i, d, z, hi, hu, hz, hs, hb, h0, hx, hfine⟩ := mkT_spec h
  rw [hu]
  rw [hx] at hd
  cases d <;> simp only [tdOf] at hd <;> (try (split at hd)) <;> (try (cases hd; done))
  cases hd; rfl
theorem und_array {t e : TypeId} {n : Nat} {x : TI} (h : mkT P t = some x) (hd : x.d = .array n e) : P.underlying t = some (.array n e) := by
  obtain ⟨i, d, z, hi, hu, hz, hs, hb, h0, hx, hfine⟩ := mkT_spec h
  rw [hu]
  rw [hx] at hd
  cases d <;> simp only [tdOf] at hd <;> (try (split at hd)) <;> (try (cases hd; done))
  cases hd; rfl
theorem und_str {t : TypeId} {x : TI} (h : mkT P t = some x) (hd : x.d = .str) : P.underlying t = some .string := by
  obtain ⟨i, d, z, hi, hu, hz, hs, hb, h0, hx, hfine⟩ := mkT_spec h
  rw [hu]
  rw [hx] at hd
  cases d <;> simp only [tdOf] at hd <;> (try (split at hd)) <;> (try (cases hd; done))
  rfl
theorem und_bool {t : TypeId} {x : TI} (h : mkT P t = some x) (hd : x.d = .bool) : P.underlying t = some .bool := by
  obtain ⟨i, d, z, hi, hu, hz, hs, hb, h0, hx, hfine⟩ := mkT_spec h
  rw [hu]
  rw [hx] at hd
  cases d <;> simp only [tdOf] at hd <;> (try (split at hd)) <;> (try (cases hd; done))
  rfl
theorem und_int {t : TypeId} {x : TI} {k : IntKind} (h : mkT P t = some x) (hd : x.d = .int k) : P.underlying t = some (.int k) := by
  obtain ⟨i, d, z, hi, hu, hz, hs, hb, h0, hx, hfine⟩ := mkT_spec h
  rw [hu]
  rw [hx] at hd
  cases d <;> simp only [tdOf] at hd <;> (try (split at hd)) <;> (try (cases hd; done))
  cases hd; rfl
theorem und_struct {t : TypeId} {fs : List (Nat × Nat × Bool)} {eq : Option (List CK)} {x : TI} (h : mkT P t = some x) (hd : x.d = .struct fs eq) : ∃ fields, P.underlying t = some (.struct fields) ∧ fs = fields.toList.map (fun f => (f.offset, P.cellsOf f.type, aggOf P f.type)) ∧ eq = (if P.eqGuardType P.depth t = false then kinds P 5 t else none) ∧ ∀ f ∈ fields.toList, ∃ d, P.underlying f.type = some d := by
  obtain ⟨i, d, z, hi, hu, hz, hs, hb, h0, hx, hfine⟩ := mkT_spec h
  rw [hu]
  rw [hx] at hd
  cases d with
  | struct fields =>
    simp only [tdOf] at hd
    cases hd
    exact ⟨_, rfl, rfl, rfl, fun f hf => Option.isSome_iff_exists.1 (List.all_eq_true.1 hfine f hf)⟩
  | _ => simp [tdOf] at hd
theorem zero_rel {t : TypeId} {x : TI} (h : mkT P t = some x) : ∃ z, (zeroValue t).run P w = .ok z w ∧ RelL w F φ N x.zero z.cells.toList ∧ (P.info? t).bind (·.zero) = some z := by
  obtain ⟨i, d, z, hi, hu, hz, hs, hb, h0, hx, hfine⟩ := mkT_spec h
  refine ⟨z, by simp [zeroValue, typeInfo, hi, hz], ?_, by simp [hi, hz]⟩
  rw [h0]
  refine ⟨by simp, fun j c u h1 h2 => ?_⟩
  rw [List.getElem?_map, h2] at h1
  simp at h1
  subst h1
  exact rel_ofC _

/-- Reading a variable whose cells are known. -/
theorem rd_sound {t : TypeId} {x : TI} (h : mkT P t = some x) {b o : Nat} {cs : List AV} {us : List Value} (hr : RelL w F φ N cs us) (hat : ∀ j u, us[j]? = some u → w.cell? ⟨b, o + j, none⟩ = some u)
    {v : AV} (hv : rd x cs = some v) : ∃ u, (loadVar t ⟨b, o, none⟩).run P w = .ok u w ∧ Rel w F φ N v u := by
  have hadd : ∀ j, (⟨b, o, none⟩ : Addr).add j = ⟨b, o + j, none⟩ := fun j => by unfold Addr.add; split <;> simp_all
  unfold rd at hv
  simp only [loadVar, Sem.run_bind, run_isAgg h, Result.andThen_ok]
  cases hx : x.agg with
  | true =>
    rw [hx] at hv
    simp only [if_true] at hv
    split at hv
    · rename_i hle
      cases hv
      have hl : (us.take x.size).length = x.size := by rw [List.length_take, hr.1]; omega
      have hrun := run_loadCells_list (P := P) w ⟨b, o, none⟩ (us.take x.size) (fun j u hj => by
        rw [hadd]
        rw [List.getElem?_take] at hj
        split at hj
        · exact hat j u hj
        · cases hj)
      rw [hl] at hrun
      refine ⟨.agg (us.take x.size).toArray, by simp [run_sizeOf h, hrun], ?_⟩
      have := hr.take x.size
      exact .agg _ this.1 this.2
    · cases hv
  | false =>
    rw [hx] at hv
    simp only [Bool.false_eq_true, if_false] at hv
    have h0 : cs[0]? = some v := by rw [← List.head?_eq_getElem?]; exact hv
    obtain ⟨u, hu, hru⟩ := hr.get h0
    have := hat 0 u hu
    simp only [Nat.add_zero] at this
    exact ⟨u, by simp [this], hru⟩

theorem aload_sound {S : Store} {z : Nat → Bool} (hs : Sim w F φ S z) {t : TypeId} {x : TI} (h : mkT P t = some x) {a : AV} {ua : Value} (ha : Rel w F φ S.length a ua)
    {v : AV} (hv : aload S x a = some v) : ∃ ad u, ua = .pointer (some ad) ∧ (loadVar t ad).run P w = .ok u w ∧ Rel w F φ S.length v u := by
  unfold aload at hv
  split at hv
  · rename_i id off
    cases ha
    split at hv
    · rename_i cs hcs
      have hcs' : S[id]? = some (some cs) := by
        rw [List.getD_eq_getElem?_getD] at hcs
        cases hq : S[id]? with
        | none => simp [hq] at hcs
        | some o => simp [hq] at hcs; rw [hcs]
      obtain ⟨us, hr, hat⟩ := hs.cont id cs hcs'
      obtain ⟨u, hu, hru⟩ := rd_sound h (hr.drop off) (b := (φ id).1) (o := (φ id).2 + off) (fun j u hj => by
        rw [List.getElem?_drop] at hj
        have := hat _ u hj
        rwa [← Nat.add_assoc] at this) hv
      exact ⟨_, u, rfl, hu, hru⟩
    · cases hv
  · rename_i cs
    cases ha with
    | fad us hsp hl hat hh =>
      rename_i ad
      obtain ⟨u, hu, hru⟩ := rd_sound (N := 0) h ⟨hl, hh⟩ (b := ad.block) (o := ad.off) (fun j u hj => (hat j u hj).2) hv
      have he : ad = ⟨ad.block, ad.off, none⟩ := by cases ad; simp_all
      refine ⟨ad, u, rfl, by rw [he]; exact hu, ?_⟩
      exact hru.mono (fun _ h => h) (fun _ _ => rfl) (fun _ h => h) (Nat.zero_le _) (fun id hid => absurd hid (Nat.not_lt_zero _))
  · cases hv
end
end Go.Proofs.YtggojahlhpijeaaA
