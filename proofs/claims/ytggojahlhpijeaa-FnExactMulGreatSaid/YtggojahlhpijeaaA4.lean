/- The operations that only compute. No condition. -/
import Derived.Test.YtggojahlhpijeaaA3
import Derived.Laws.StructEq
namespace Go.Proofs.YtggojahlhpijeaaA
open Go Go.RowKit
section
variable {P : Program} {w : World} {F : Nat → Prop} {φ : Nat → Nat × Nat} {N : Nat}

theorem rel_i {k n} {u : Value} (h : Rel w F φ N (.i k n) u) : u = .int k n := by cases h; rfl
theorem rel_b {x} {u : Value} (h : Rel w F φ N (.b x) u) : u = .bool x := by cases h; rfl
theorem rel_s {x} {u : Value} (h : Rel w F φ N (.s x) u) : u = .string x := by cases h; rfl
theorem rel_agg {cs} {u : Value} (h : Rel w F φ N (.agg cs) u) : ∃ us : List Value, u = .agg us.toArray ∧ RelL w F φ N cs us := by
  cases h with | agg us hl hh => exact ⟨us, rfl, hl, hh⟩
theorem rel_tup {cs} {u : Value} (h : Rel w F φ N (.tup cs) u) : ∃ us : List Value, u = .tuple us.toArray ∧ RelL w F φ N cs us := by
  cases h with | tup us hl hh => exact ⟨us, rfl, hl, hh⟩

theorem part_sound {t : TypeId} {o sz : Nat} {ag : Bool} (hsz : P.cellsOf t = sz) (hag : aggOf P t = ag) (hu : ∃ d, P.underlying t = some d) (hi : ∃ i, P.info? t = some i) {cs : List AV} {us : List Value} (hr : RelL w F φ N cs us) {v : AV} (hv : partA o sz ag cs = some v) :
    ∃ u, (part t us.toArray o).run P w = .ok u w ∧ Rel w F φ N v u := by
  obtain ⟨d, hd⟩ := hu
  obtain ⟨i, hi⟩ := hi
  have hsize : (sizeOf t).run P w = .ok sz w := by
    simp [sizeOf, typeInfo, hi, ← hsz, Program.cellsOf]
  have hagg : (isAgg t).run P w = .ok ag w := by
    unfold isAgg
    simp only [Sem.run_bind, run_underlying hd, Result.andThen_ok]
    unfold aggOf at hag
    rw [hd] at hag
    cases d <;> simp_all
  unfold partA at hv
  unfold part
  simp only [Sem.run_bind, hagg, Result.andThen_ok]
  cases ag with
  | true =>
    simp only [if_true] at hv
    split at hv
    · rename_i hle
      cases hv
      have h2 := (hr.drop o).take sz
      refine ⟨.agg ((us.drop o).take sz).toArray, ?_, .agg _ h2.1 h2.2⟩
      simp [hsize]
    · cases hv
  | false =>
    simp only [Bool.false_eq_true, if_false] at hv
    obtain ⟨u, hu, hru⟩ := hr.get hv
    refine ⟨u, ?_, hru⟩
    simp [hu]

theorem toList_foldl_set (o : Nat) : ∀ (ps : List (Value × Nat)) (cells : Array Value), (ps.foldl (fun cs (c, j) => cs.setIfInBounds (o + j) c) cells).toList = ps.foldl (fun l (c, j) => l.set (o + j) c) cells.toList
  | [], _ => rfl
  | _ :: ps, cells => by simp only [List.foldl_cons]; rw [toList_foldl_set o ps]; simp

/-- Parts, place by place. -/
def RelP (w : World) (F : Nat → Prop) (φ : Nat → Nat × Nat) (N : Nat) : List (Nat × AV) → List (Nat × Value) → Prop
  | [], [] => True
  | (i, v) :: ps, (j, u) :: us => i = j ∧ Rel w F φ N v u ∧ RelP w F φ N ps us
  | _, _ => False

theorem fill_sound (place : Nat → Option (Nat × Nat)) : ∀ (ps : List (Nat × AV)) (us : List (Nat × Value)) (cs : List AV) (cells : Array Value) (r : List AV), RelP w F φ N ps us → RelL w F φ N cs cells.toList → fillA place cs ps = some r →
    ∃ x, Instr.fill place cells us = some x ∧ RelL w F φ N r x.toList
  | [], [], cs, cells, r, _, hc, h => by simp [fillA] at h; subst h; exact ⟨cells, rfl, hc⟩
  | (i, v) :: ps, (j, u) :: us, cs, cells, r, hp, hc, h => by
    obtain ⟨rfl, hv, hp⟩ := hp
    simp only [fillA] at h
    split at h
    · rename_i off size hpl
      split at h
      · rename_i hle
        obtain ⟨hok, hl, hle⟩ := hle
        have hvc := hv.cells hok
        have hl1 : u.cells.size = v.cells.length := by have := hvc.1; rwa [Array.length_toList] at this
        have hl2 : cells.size = cs.length := by have := hc.1; rwa [Array.length_toList] at this
        have hset := hc.setAt off hvc
        rw [show u.cells.toList.zipIdx.foldl (fun l (c, j) => l.set (off + j) c) cells.toList = (u.cells.toList.zipIdx.foldl (fun cs (c, j) => cs.setIfInBounds (off + j) c) cells).toList from (toList_foldl_set off _ cells).symm] at hset
        obtain ⟨x, hx, hrx⟩ := fill_sound place ps us _ _ r hp hset h
        refine ⟨x, ?_, hrx⟩
        simp only [Instr.fill, hpl]
        rw [if_neg (by simp; omega)]
        rw [← hx]
        congr 1
        rw [← Array.foldl_toList, Array.toList_zipIdx]
      · cases h
    · cases h
  | [], _ :: _, _, _, _, hp, _, _ => hp.elim
  | _ :: _, [], _, _, _, hp, _, _ => hp.elim

theorem relP_map {ρ : Operand → AV} {a : Act} (hρ : ∀ x, Rel w F φ N (ρ x) (a.eval x)) : ∀ (ps : List (Nat × Operand)), RelP w F φ N (ps.map fun p => (p.1, ρ p.2)) (ps.map fun p => (p.1, a.eval p.2))
  | [] => trivial
  | _ :: ps => ⟨rfl, hρ _, relP_map hρ ps⟩

theorem relL_map {ρ : Operand → AV} {a : Act} (hρ : ∀ x, Rel w F φ N (ρ x) (a.eval x)) (xs : List Operand) : RelL w F φ N (xs.map ρ) (xs.map a.eval) := by
  induction xs with
  | nil => exact RelL.nil
  | cons x xs ih => exact RelL.cons (hρ x) ih

/-! #### comparing -/
theorem bytes_beq (p q : ByteArray) : (p == q) = decide (p = q) := by
  rw [beq_toListBytes, Bool.eq_iff_iff, ByteArray.toList_eq, ByteArray.toList_eq]
  simp
  constructor
  · intro h
    obtain ⟨⟨p⟩⟩ := p
    obtain ⟨⟨q⟩⟩ := q
    simp_all
  · intro h; rw [h]
theorem aeqc_sound {k : CK} {x y : AV} {u v : Value} {r : Bool} (hx : Rel w F φ N x u) (hy : Rel w F φ N y v) (h : aeqc k x y = some r) :
    (k = .b ∧ ∃ a b, u = .bool a ∧ v = .bool b ∧ r = (a == b)) ∨ (k = .i ∧ ∃ k1 a b, u = .int k1 a ∧ v = .int k1 b ∧ r = decide (a = b)) ∨ (k = .s ∧ ∃ a b, u = .string a ∧ v = .string b ∧ r = decide (a = b)) := by
  unfold aeqc at h
  split at h
  · cases hx; cases hy; cases h; exact .inl ⟨rfl, _, _, rfl, rfl, rfl⟩
  · split at h
    · rename_i hk
      subst hk
      cases hx; cases hy; cases h; exact .inr (.inl ⟨rfl, _, _, _, rfl, rfl, rfl⟩)
    · cases h
  · cases hx; cases hy; cases h; exact .inr (.inr ⟨rfl, _, _, rfl, rfl, rfl⟩)
  · cases h
theorem aeqs_append {ks ks' : List CK} : ∀ {xs ys : List AV} {r : Bool}, aeqs (ks ++ ks') xs ys = some r → ∃ r1 r2, aeqs ks (xs.take ks.length) (ys.take ks.length) = some r1 ∧ aeqs ks' (xs.drop ks.length) (ys.drop ks.length) = some r2 ∧ r = (r1 && r2) := by
  induction ks with
  | nil => intro xs ys r h; exact ⟨true, r, by simp [aeqs], by simpa using h, by simp⟩
  | cons k ks ih =>
    intro xs ys r h
    cases xs with
    | nil => simp [aeqs] at h
    | cons x xs =>
      cases ys with
      | nil => simp [aeqs] at h
      | cons y ys =>
        simp only [List.cons_append, aeqs] at h
        split at h
        · rename_i a ha
          split at h
          · rename_i b hb
            cases h
            obtain ⟨r1, r2, h1, h2, rfl⟩ := ih hb
            exact ⟨a && r1, r2, by simp [aeqs, ha, h1], by simpa using h2, by cases a <;> cases r1 <;> rfl⟩
          · cases h
        · cases h

theorem info_of_und {t : TypeId} {d : TypeDesc} (h : P.underlying t = some d) : ∃ i, P.info? t = some i := by
  unfold Program.underlying at h
  cases hi : P.info? t with
  | none => simp [hi] at h
  | some i => exact ⟨i, rfl⟩

/-- A value of a type out of the cells of a struct, for the comparison. -/
theorem eq_sound : ∀ (d : Nat) (t : TypeId) (ks : List CK), kinds P d t = some ks →
    (∀ D xs ys (us vs : List Value) r, d ≤ D → RelL w F φ N xs us → RelL w F φ N ys vs → aeqs ks xs ys = some r →
      (∀ fs, P.underlying t = some (.struct fs) → (Op.equalIn D t (.agg us.toArray) (.agg vs.toArray)).run P w = .ok r w) ∧
      ((∀ fs, P.underlying t ≠ some (.struct fs)) → aggOf P t = false ∧ ∃ u v, us = [u] ∧ vs = [v] ∧ (Op.equalIn D t u v).run P w = .ok r w))
  | 0, _, _, h => by simp [kinds] at h
  | d + 1, t, ks, h => by
    intro D xs ys us vs r hD hx hy hr
    obtain ⟨D, rfl⟩ : ∃ D', D = D' + 1 := ⟨D - 1, by omega⟩
    simp only [kinds] at h
    split at h
    · rename_i hu
      cases h
      refine ⟨fun fs hf => absurd (hu.symm.trans hf) (fun h => by cases h), fun _ => ⟨by simp [aggOf, hu], ?_⟩⟩
      cases xs with
      | nil => simp [aeqs] at hr
      | cons x xs => cases ys with
        | nil => simp [aeqs] at hr
        | cons y ys =>
          obtain ⟨u, us', rfl, hxu, hxs⟩ := hx.uncons
          obtain ⟨v, vs', rfl, hyv, hys⟩ := hy.uncons
          simp only [aeqs] at hr
          split at hr
          · rename_i a ha
            cases xs <;> cases ys <;> simp [aeqs] at hr
            subst hr
            cases hxs.nil_inv; cases hys.nil_inv
            rcases aeqc_sound hxu hyv ha with ⟨_, p, q, rfl, rfl, rfl⟩ | ⟨hk, _⟩ | ⟨hk, _⟩
            · exact ⟨_, _, rfl, rfl, run_equalIn_bool w D t p q hu⟩
            · cases hk
            · cases hk
          · cases hr
    · rename_i hu
      cases h
      refine ⟨fun fs hf => absurd (hu.symm.trans hf) (fun h => by cases h), fun _ => ⟨by simp [aggOf, hu], ?_⟩⟩
      cases xs with
      | nil => simp [aeqs] at hr
      | cons x xs => cases ys with
        | nil => simp [aeqs] at hr
        | cons y ys =>
          obtain ⟨u, us', rfl, hxu, hxs⟩ := hx.uncons
          obtain ⟨v, vs', rfl, hyv, hys⟩ := hy.uncons
          simp only [aeqs] at hr
          split at hr
          · rename_i a ha
            cases xs <;> cases ys <;> simp [aeqs] at hr
            subst hr
            cases hxs.nil_inv; cases hys.nil_inv
            rcases aeqc_sound hxu hyv ha with ⟨hk, _⟩ | ⟨_, k1, p, q, rfl, rfl, rfl⟩ | ⟨hk, _⟩
            · cases hk
            · exact ⟨_, _, rfl, rfl, run_equalIn_int w D t k1 _ p q hu⟩
            · cases hk
          · cases hr
    · rename_i hu
      cases h
      refine ⟨fun fs hf => absurd (hu.symm.trans hf) (fun h => by cases h), fun _ => ⟨by simp [aggOf, hu], ?_⟩⟩
      cases xs with
      | nil => simp [aeqs] at hr
      | cons x xs => cases ys with
        | nil => simp [aeqs] at hr
        | cons y ys =>
          obtain ⟨u, us', rfl, hxu, hxs⟩ := hx.uncons
          obtain ⟨v, vs', rfl, hyv, hys⟩ := hy.uncons
          simp only [aeqs] at hr
          split at hr
          · rename_i a ha
            cases xs <;> cases ys <;> simp [aeqs] at hr
            subst hr
            cases hxs.nil_inv; cases hys.nil_inv
            rcases aeqc_sound hxu hyv ha with ⟨hk, _⟩ | ⟨hk, _⟩ | ⟨_, p, q, rfl, rfl, rfl⟩
            · cases hk
            · cases hk
            · refine ⟨_, _, rfl, rfl, ?_⟩
              rw [run_equalIn_string w D t p q hu, ← beq_toListBytes]
              rw [bytes_beq]
          · cases hr
    · rename_i fs hu
      split at h
      · rename_i hst
        have hfo : P.fieldsOf t = fs := by simp [Program.fieldsOf, hu]
        refine ⟨fun fs' hf => ?_, fun hn => absurd hu (hn fs)⟩
        rw [run_equalIn_struct w D t _ _ (by rw [hfo]; exact hu) hst, hfo]
        have key : ∀ (l : List Field) (o : Nat) (ks : List CK) r, kindsF (kinds P d) P.cellsOf l o = some ks → aeqs ks (xs.drop o) (ys.drop o) = some r → (Op.eqFields D us.toArray vs.toArray l).run P w = .ok r w := by
          intro l
          induction l with
          | nil =>
            intro o ks r hk hr
            simp [kindsF] at hk
            subst hk
            have : true = r := by
              cases hxo : xs.drop o <;> cases hyo : ys.drop o <;> simp [hxo, hyo, aeqs] at hr
              exact hr.symm
            simp [Op.eqFields, ← this]
          | cons f l ih =>
            intro o ks r hk hr
            simp only [kindsF] at hk
            split at hk
            · rename_i hnm
              obtain ⟨hnm, hoff⟩ := hnm
              split at hk
              · rename_i a ha
                split at hk
                · rename_i hla
                  split at hk
                  · rename_i b hb
                    cases hk
                    obtain ⟨r1, r2, h1, h2, rfl⟩ := aeqs_append hr
                    rw [List.drop_drop, List.drop_drop, hla] at h2
                    have ih2 := ih _ _ _ hb h2
                    have hrec := eq_sound d f.type a ha D _ _ _ _ r1 (by omega) ((hx.drop o).take a.length) ((hy.drop o).take a.length) h1
                    simp only [Op.eqFields, hnm, ne_eq, not_false_eq_true, if_true, Sem.run_bind]
                    have hex : ∀ (us : List Value), (Array.extract us.toArray o (o + P.cellsOf f.type)) = ((us.drop o).take a.length).toArray := by
                      intro us
                      rw [hla]
                      simp
                    by_cases hs : ∃ fs, P.underlying f.type = some (.struct fs)
                    · obtain ⟨fs2, hs⟩ := hs
                      obtain ⟨i, hi⟩ := info_of_und hs
                      have hsz : (sizeOf f.type).run P w = .ok (P.cellsOf f.type) w := by simp [sizeOf, typeInfo, hi, Program.cellsOf]
                      have hp : ∀ (us : List Value), (part f.type us.toArray f.offset).run P w = .ok (.agg ((us.drop o).take a.length).toArray) w := by
                        intro us
                        rw [← hex]
                        simp [part, isAgg, run_underlying hs, hsz, hoff]
                      simp only [hp, Result.andThen_ok, hrec.1 _ hs]
                      cases r1 <;> simp [ih2]
                    · obtain ⟨hagg, u, v, hu1, hv1, he⟩ := hrec.2 (fun fs h => hs ⟨fs, h⟩)
                      have hund : ∃ dd, P.underlying f.type = some dd := by
                        cases hq : P.underlying f.type with
                        | none => cases d <;> simp [kinds, hq] at ha
                        | some dd => exact ⟨dd, rfl⟩
                      obtain ⟨dd, hund⟩ := hund
                      have hp : ∀ (us : List Value) (u : Value), ((us.drop o).take a.length) = [u] → (part f.type us.toArray f.offset).run P w = .ok u w := by
                        intro us u hu
                        have h0 : us[o]? = some u := by
                          have : ((us.drop o).take a.length)[0]? = some u := by rw [hu]; rfl
                          rw [List.getElem?_take] at this
                          split at this
                          · rw [List.getElem?_drop] at this; simpa using this
                          · cases this
                        have hag2 : (isAgg f.type).run P w = .ok false w := by
                          unfold isAgg
                          simp only [Sem.run_bind, run_underlying hund, Result.andThen_ok]
                          unfold aggOf at hagg
                          rw [hund] at hagg
                          cases dd <;> simp_all
                        simp [part, hag2, hoff, h0]
                      simp only [hp us u hu1, hp vs v hv1, Result.andThen_ok, he]
                      cases r1 <;> simp [ih2]
                  · cases hk
                · cases hk
              · cases hk
            · cases hk
        exact key fs.toList 0 ks r h (by simpa using hr)
      · cases h
    · cases h
end
end Go.Proofs.YtggojahlhpijeaaA
