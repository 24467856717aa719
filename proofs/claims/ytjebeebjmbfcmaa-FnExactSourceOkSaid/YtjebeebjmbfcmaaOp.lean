/- How an argument that came in reads as a kind's value: whole numbers, bools, strings, slices, structs. No condition. -/
import Derived.Test.YtjebeebjmbfcmaaWMore
import Derived.ProofKit
import Derived.WideShapes
import Derived.Deep.Fields
namespace Go.Proofs.YtjebeebjmbfcmaaO
open Go.RowKit Go.WideShapes Go.Proofs.YtjebeebjmbfcmaaW.PrintWords Go.Proofs.YtjebeebjmbfcmaaW.PrintLast Go.Proofs.YtjebeebjmbfcmaaW.PrintMore
set_option linter.unusedVariables false

/-- Whatever reads as type t has cells that say a value of the kind d, and that value is good. -/
def Opens {α : Type} (P : Program) (d : Kd α) (t : TypeId) (good : α → Prop) : Prop :=
  ∀ (H : Type) (enc : TypeId × Value → H) (w : World) (base : Nat) (spare : Nat → Bool) (held : Bool) (fuel : Nat) (cs : List Value) (x : DataW H × List MemPlace),
    DataW.trod enc P w base spare held fuel t cs = some x → ∃ a, d.K w a cs ∧ good a

section
variable {α β : Type} {P : Program} {t e : TypeId}
theorem opens_int {k : IntKind} (ht : P.underlying t = some (.int k)) : Opens P (Kd.int k) t (fun n => (Lit.int k n).wf = true) := by
  intro H enc w base spare held fuel cs x h
  obtain ⟨n, rfl, _, hw⟩ := DataW.trod_int ht h
  exact ⟨n, rfl, hw⟩
theorem opens_bool (ht : P.underlying t = some .bool) : Opens P Kd.bool t (fun _ => True) := by
  intro H enc w base spare held fuel cs x h
  obtain ⟨n, rfl, _⟩ := DataW.trod_bool ht h
  exact ⟨n, rfl, trivial⟩
theorem opens_string (ht : P.underlying t = some .string) : Opens P Kd.string t (fun s => s.size ≤ maxLen) := by
  intro H enc w base spare held fuel cs x h
  obtain ⟨s, rfl, _, hs⟩ := DataW.trod_string ht h
  exact ⟨s, rfl, hs⟩
theorem exists_list {α : Type} {p : Nat → α → Prop} : ∀ (n : Nat), (∀ i, i < n → ∃ a, p i a) → ∃ xs : List α, xs.length = n ∧ ∀ i x, xs[i]? = some x → p i x
  | 0, _ => ⟨[], rfl, fun i x h => by simp at h⟩
  | n + 1, h => by
    obtain ⟨xs, hl, hx⟩ := exists_list n (fun i hi => h i (by omega))
    obtain ⟨a, ha⟩ := h n (by omega)
    refine ⟨xs ++ [a], by simp [hl], fun i x hi => ?_⟩
    rcases Nat.lt_or_ge i xs.length with h1 | h1
    · rw [List.getElem?_append_left h1] at hi
      exact hx i x hi
    · have hi' : i = n := by
        have := (List.getElem?_eq_some_iff.1 hi).1
        simp at this
        omega
      subst hi'
      rw [← hl] at hi
      simp at hi
      subst hi
      exact ha
theorem opens_slice {d : Kd α} {good : α → Prop} (ht : P.underlying t = some (.slice e)) (hs : P.cellsOf e = d.sz) (he : Opens P d e good) : Opens P (Kd.slice e d) t (fun l => (∀ x, x ∈ l → good x) ∧ l.length ≤ maxLen) := by
  intro H enc w base spare held fuel cs x h
  rcases DataW.trod_slice ht h with ⟨rfl, _⟩ | ⟨ad, len, cap, elems, rest, n, _, rfl, _, _, hl, hc, hel, hi, _, _⟩
  · exact ⟨[], ⟨none, 0, rfl, Nat.le_refl _, rfl, by simp, fun h => absurd h (by simp)⟩, fun x hx => by simp at hx, by simp⟩
  · have key : ∀ i, i < len → ∃ a, (∃ c : List Value, c.length = d.sz ∧ d.K w a c ∧ ∀ j u, c[j]? = some u → w.cell? (ad.add (i * d.sz + j)) = some u) ∧ good a := by
      intro i hil
      have h1 := hi i hil
      have hlt : i < elems.length := by omega
      rw [List.getElem?_eq_getElem hlt] at h1
      obtain ⟨cs, hcs, htr⟩ := Option.bind_eq_some_iff.1 h1
      obtain ⟨_, hlen, hat⟩ := World.cells?_some hcs
      obtain ⟨a, hK, hg⟩ := he H enc w base spare held n cs _ htr
      refine ⟨a, ⟨cs, by rw [hlen, hs], hK, fun j u hj => ?_⟩, hg⟩
      have hjl : j < P.cellsOf e := by
        have := (List.getElem?_eq_some_iff.1 hj).1
        omega
      have := hat j hjl
      rw [hj] at this
      rw [← hs, ← Go.Deep.add_add]
      exact this
    obtain ⟨xs, hxl, hxs⟩ := exists_list len key
    subst hxl
    have hmax : xs.length ≤ maxLen := by omega
    refine ⟨xs, ⟨some ad, cap, rfl, hl, rfl, by simpa [maxLen] using hmax, fun _ => ⟨ad, rfl, fun j p hj => ?_⟩⟩, fun x hx => ?_, hmax⟩
    · obtain ⟨⟨c, h1, h2, h3⟩, _⟩ := hxs j p hj
      exact ⟨c, h1, h2, h3⟩
    · obtain ⟨j, hj⟩ := List.getElem?_of_mem hx
      exact (hxs j x hj).2
theorem opens_iso {d : Kd α} {good : α → Prop} {f : β → α} {g : α → β} (hfg : ∀ a, f (g a) = a) (h : Opens P d t good) : Opens P (Kd.iso d f) t (fun b => good (f b)) := by
  intro H enc w base spare held fuel cs x hx
  obtain ⟨a, hK, hg⟩ := h H enc w base spare held fuel cs x hx
  exact ⟨g a, by show d.K w (f (g a)) cs; rw [hfg]; exact hK, by show good (f (g a)); rw [hfg]; exact hg⟩

/-- The fields from the i-th on, beginning at cell 'off', say a value of the kind d. -/
def Fields (P : Program) (fs : Array Field) (i off : Nat) (d : Kd α) (good : α → Prop) : Prop :=
  ∀ (H : Type) (enc : TypeId × Value → H) (w : World) (base : Nat) (spare : Nat → Bool) (held : Bool) (n : Nat) (cs : List Value) (xs : List (DataW H × List MemPlace)), cs.length = off + d.sz → xs.length = fs.size →
    (∀ (j : Nat) (f : Field), fs[j]? = some f → DataW.trod enc P w base spare held n f.type ((cs.drop f.offset).take (P.cellsOf f.type)) = xs[j]?) → ∃ a, d.K w a (cs.drop off) ∧ good a
theorem field_one {fs : Array Field} {i off : Nat} {f : Field} {d : Kd α} {good : α → Prop} (hf : fs[i]? = some f) (ho : f.offset = off) (hs : P.cellsOf f.type = d.sz) (h : Opens P d f.type good) : Fields P fs i off d good := by
  intro H enc w base spare held n cs xs hl hxl hall
  have h1 := hall i f hf
  have hi : i < xs.length := by rw [hxl]; exact (Array.getElem?_eq_some_iff.1 hf).1
  rw [List.getElem?_eq_getElem hi, ho, hs] at h1
  obtain ⟨a, hK, hg⟩ := h H enc w base spare held n _ _ h1
  rw [List.take_of_length_le (by rw [List.length_drop]; omega)] at hK
  exact ⟨a, hK, hg⟩
theorem field_cons {fs : Array Field} {i off off' : Nat} {f : Field} {d : Kd α} {d' : Kd β} {good : α → Prop} {good' : β → Prop} (hf : fs[i]? = some f) (ho : f.offset = off) (hs : P.cellsOf f.type = d.sz) (ho' : off' = off + d.sz) (h : Opens P d f.type good)
    (h' : Fields P fs (i + 1) off' d' good') : Fields P fs i off (Kd.pair d d') (fun x => good x.1 ∧ good' x.2) := by
  intro H enc w base spare held n cs xs hl hxl hall
  subst ho'
  have hl' : cs.length = off + d.sz + d'.sz := by rw [hl]; show off + (d.sz + d'.sz) = _; omega
  have h1 := hall i f hf
  have hi : i < xs.length := by rw [hxl]; exact (Array.getElem?_eq_some_iff.1 hf).1
  rw [List.getElem?_eq_getElem hi, ho, hs] at h1
  obtain ⟨a, hK, hg⟩ := h H enc w base spare held n _ _ h1
  obtain ⟨b, hK', hg'⟩ := h' H enc w base spare held n cs xs hl' hxl hall
  refine ⟨(a, b), ⟨(cs.drop off).take d.sz, cs.drop (off + d.sz), ?_, hK, hK'⟩, hg, hg'⟩
  rw [← List.drop_drop, List.take_append_drop]
theorem opens_struct {fs : Array Field} {d : Kd α} {good : α → Prop} (ht : P.underlying t = some (.struct fs)) (hc : P.cellsOf t = d.sz) (h : Fields P fs 0 0 d good) : Opens P d t good := by
  intro H enc w base spare held fuel cs x hx
  obtain ⟨xs, n, _, _, hl, hxl, hall⟩ := DataW.trod_struct ht hx
  obtain ⟨a, hK, hg⟩ := h H enc w base spare held n cs xs (by omega) hxl hall
  exact ⟨a, by simpa using hK, hg⟩

/-- An argument that is a struct by value. -/
theorem arg_struct {fs : Array Field} {d : Kd α} {good : α → Prop} {H : Type} {enc : TypeId × Value → H} {w : World} {r : Reach} {b base : Nat} {spare : Nat → Bool} {held : Bool} {v : Value} {x : DataW H} {ps : List MemPlace}
    (ht : P.underlying t = some (.struct fs)) (h : Opens P d t good) (hv : Value.okWide P w r b t v) (hx : DataW.Trod enc P w base spare held t v x ps) : ∃ a cs, v = .agg cs ∧ d.K w a cs.toList ∧ good a := by
  obtain ⟨cs, rfl, _⟩ := okWide_struct ht hv
  obtain ⟨fuel, hf⟩ := hx
  obtain ⟨a, hK, hg⟩ := h H enc w base spare held fuel _ _ hf
  exact ⟨a, cs, rfl, hK, hg⟩
/-- An argument that is a slice. -/
theorem arg_slice {d : Kd α} {good : List α → Prop} {H : Type} {enc : TypeId × Value → H} {w : World} {r : Reach} {b base : Nat} {spare : Nat → Bool} {held : Bool} {v : Value} {x : DataW H} {ps : List MemPlace}
    (ht : P.underlying t = some (.slice e)) (h : Opens P (Kd.slice e d) t good) (hv : Value.okWide P w r b t v) (hx : DataW.Trod enc P w base spare held t v x ps) :
    ∃ A c l, v = .slice A l.length c ∧ l.length ≤ c ∧ d.C w A l.length l ∧ good l := by
  obtain ⟨a0, len, cap, rfl⟩ := okWide_slice ht hv
  obtain ⟨fuel, hf⟩ := hx
  obtain ⟨l, ⟨A, c, he, hc, hC⟩, hg⟩ := h H enc w base spare held fuel _ _ hf
  simp [Value.cells] at he
  obtain ⟨rfl, rfl, rfl⟩ := he
  exact ⟨_, _, l, rfl, hc, hC, hg⟩
end
end Go.Proofs.YtjebeebjmbfcmaaO
