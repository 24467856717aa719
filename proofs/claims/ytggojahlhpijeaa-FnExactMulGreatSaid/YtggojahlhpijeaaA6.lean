/- All operations that only compute, and those that make memory or write to it. No condition. -/
import Derived.Test.YtggojahlhpijeaaA5
namespace Go.Proofs.YtggojahlhpijeaaA
open Go Go.RowKit
set_option linter.unusedSimpArgs false
set_option linter.unusedVariables false
section
variable {P : Program} {w : World} {F : Nat → Prop} {φ : Nat → Nat × Nat} {N : Nat}

/-- A place inside what is read alone. -/
theorem fad_drop {cs : List AV} {A : Option Addr} {full : Bool} {n cap k : Nat} (h : Rel w F φ N (.sl full n cs) (.slice A n cap)) (hn : 0 < n) (hk : k < cs.length) : ∃ a, A = some a ∧ a.spot = none ∧ Rel w F φ N (.fad (cs.drop k)) (.pointer (some ⟨a.block, a.off + k, none⟩)) := by
  cases h with
  | sl us hn0 hf hl hat hh =>
    have hr : RelL w F φ 0 cs us := ⟨hl, hh⟩
    have hk' : k < us.length := by omega
    obtain ⟨a, rfl, hs, _, _⟩ := hat k _ (List.getElem?_eq_getElem hk')
    have hr2 := hr.drop k
    refine ⟨a, rfl, hs, .fad (us.drop k) rfl hr2.1 (fun j u hj => ?_) hr2.2⟩
    rw [List.getElem?_drop] at hj
    obtain ⟨a', he, _, hF, hc⟩ := hat _ u hj
    cases he
    exact ⟨hF, by rw [Nat.add_assoc]; exact hc⟩
theorem fad_fad {cs : List AV} {a : Addr} {k : Nat} (h : Rel w F φ N (.fad cs) (.pointer (some a))) : Rel w F φ N (.fad (cs.drop k)) (.pointer (some (a.add k))) := by
  cases h with
  | fad us hs hl hat hh =>
    have hr : RelL w F φ 0 cs us := ⟨hl, hh⟩
    have hr2 := hr.drop k
    rw [add_addr a hs]
    refine .fad (us.drop k) rfl hr2.1 (fun j u hj => ?_) hr2.2
    rw [List.getElem?_drop] at hj
    have := hat _ u hj
    exact ⟨this.1, by rw [Nat.add_assoc]; exact this.2⟩

theorem fieldAt_sound {t : TypeId} {fs : List (Nat × Nat × Bool)} {eq : Option (List CK)} {sz b0 : Nat} {zr : List AV} (hT : mkT P t = some ⟨.struct fs eq, sz, b0, zr⟩) {f o fsz : Nat} {ag : Bool} (hf : fs[f]? = some (o, fsz, ag)) (hz : fsz ≠ 0) (a : Addr) :
    (Instr.fieldAt t (.pointer (some a)) f).run P w = .ok (.pointer (some (a.add o))) w := by
  obtain ⟨fields, hu, hfs, _, hty⟩ := und_struct hT rfl
  subst hfs
  rw [List.getElem?_map] at hf
  cases hq : fields.toList[f]? with
  | none => rw [hq] at hf; cases hf
  | some fd =>
    rw [hq] at hf
    simp at hf
    obtain ⟨rfl, rfl, rfl⟩ := hf
    have hq' : fields[f]? = some fd := by rw [← Array.getElem?_toList]; exact hq
    have hi : ∃ i, P.info? fd.type = some i := by
      cases hi : P.info? fd.type with
      | none => simp [Program.cellsOf, hi] at hz
      | some i => exact ⟨i, rfl⟩
    obtain ⟨i, hi⟩ := hi
    have hsz : (sizeOf fd.type).run P w = .ok (P.cellsOf fd.type) w := by simp [sizeOf, typeInfo, hi, Program.cellsOf]
    simp [Instr.fieldAt, run_underlying hu, hq', Instr.sureAddr, fieldPlace, hsz, hz]

theorem field_sound {t : TypeId} {fs : List (Nat × Nat × Bool)} {eq : Option (List CK)} {sz b0 : Nat} {zr : List AV} (hT : mkT P t = some ⟨.struct fs eq, sz, b0, zr⟩) {f o fsz : Nat} {ag : Bool} (hf : fs[f]? = some (o, fsz, ag)) (hz : fsz ≠ 0) {cs : List AV} {us : List Value} (hr : RelL w F φ N cs us) {v : AV} (hv : partA o fsz ag cs = some v) :
    ∃ u, (Instr.field t (.agg us.toArray) f).run P w = .ok u w ∧ Rel w F φ N v u := by
  obtain ⟨fields, hu, hfs, _, hty⟩ := und_struct hT rfl
  subst hfs
  rw [List.getElem?_map] at hf
  cases hq : fields.toList[f]? with
  | none => rw [hq] at hf; cases hf
  | some fd =>
    rw [hq] at hf
    simp at hf
    obtain ⟨rfl, rfl, rfl⟩ := hf
    have hq' : fields[f]? = some fd := by rw [← Array.getElem?_toList]; exact hq
    have hi : ∃ i, P.info? fd.type = some i := by
      cases hi : P.info? fd.type with
      | none => simp [Program.cellsOf, hi] at hz
      | some i => exact ⟨i, rfl⟩
    obtain ⟨u, hu2, hru⟩ := part_sound (P := P) (t := fd.type) rfl rfl (hty fd (List.mem_of_getElem? hq)) hi hr hv
    exact ⟨u, by simp [Instr.field, run_underlying hu, hq', asAgg, hu2], hru⟩

theorem run_asIntOf {k : IntKind} {i : Int} : (asIntOf (.int k i)).run P w = .ok (k, i) w := rfl

theorem run_mapM_sizes (fields : Array Field) (w : World) (h : ∀ f ∈ fields.toList, ∃ d, P.underlying f.type = some d) :
    (fields.mapM fun f => do pure (f.offset, ← sizeOf f.type) : Sem (Array (Nat × Nat))).run P w = .ok (fields.map fun f => (f.offset, P.cellsOf f.type)) w := by
  have key : ∀ (l : List Field) (w : World), (∀ f ∈ l, ∃ d, P.underlying f.type = some d) → (l.mapM fun f => (do pure (f.offset, ← sizeOf f.type) : Sem (Nat × Nat))).run P w = .ok (l.map fun f => (f.offset, P.cellsOf f.type)) w := by
    intro l
    induction l with
    | nil => intro w _; rfl
    | cons f l ih =>
      intro w h
      obtain ⟨d, hd⟩ := h f (by simp)
      obtain ⟨i, hi⟩ := info_of_und hd
      have hsz : (sizeOf f.type).run P w = .ok (P.cellsOf f.type) w := by simp [sizeOf, typeInfo, hi, Program.cellsOf]
      have ih' := ih w (fun f hf => h f (by simp [hf]))
      simp only [List.mapM_cons, Sem.run_bind, hsz, Result.andThen_ok, Sem.run_pure, ih', List.map_cons]
  rw [Array.mapM_eq_mapM_toList]
  simp only [Sem.run_map, key fields.toList w h, Result.andThen_ok]
  congr 1
  apply Array.ext'
  simp

/-- The operations without memory. -/
theorem apure_sound {ρ : Operand → AV} {a : Act} (hρ : ∀ x, Rel w F φ N (ρ x) (a.eval x)) {o : Oper} {v : AV} (hb : ∀ t n ps, o.op ≠ .buildSlice t n ps) (h : apure (mkT P) ρ o.op = some v) :
    ∃ u, (execOp a.eval o).run P w = .ok (.value u) w ∧ Rel w F φ N v u := by
  obtain ⟨dst, op, ty, pos, after, guard⟩ := o
  cases op <;> simp only [apure] at h <;> (try (cases h; done))
  case move x => cases h; exact ⟨_, rfl, hρ x⟩
  case assign x => cases h; exact ⟨_, rfl, hρ x⟩
  case pick c x y =>
    have hc := hρ c
    split at h
    · rename_i b hb
      rw [hb] at hc
      cases h
      refine ⟨if b = true then a.eval x else a.eval y, by simp [execOp, rel_b hc, asBool], ?_⟩
      cases b
      · exact hρ y
      · exact hρ x
    · cases h
  case build t ps =>
    have hps := relP_map hρ ps.toList
    split at h
    · rename_i fs eq sz bt zr hT
      obtain ⟨z, hz, hzr, _⟩ := zero_rel (P := P) (w := w) (F := F) (φ := φ) (N := N) hT
      obtain ⟨fields, hu, hfs, _, hty⟩ := und_struct hT rfl
      cases hfill : fillA (fun j => (fs[j]?).map fun f : Nat × Nat × Bool => (f.1, f.2.1)) zr (ps.toList.map fun p => (p.1, ρ p.2)) with
      | none => rw [hfill] at h; cases h
      | some cs =>
        rw [hfill] at h
        cases h
        have hm : (fields.mapM fun f => do pure (f.offset, ← sizeOf f.type) : Sem (Array (Nat × Nat))).run P w = .ok (fields.map fun f => (f.offset, P.cellsOf f.type)) w := by
          exact run_mapM_sizes fields w (fun f hf => hty f hf)
        obtain ⟨x, hx, hrx⟩ := fill_sound (fun j => (fs[j]?).map fun f : Nat × Nat × Bool => (f.1, f.2.1)) _ _ zr z.cells cs hps hzr hfill
        refine ⟨.agg x, ?_, .agg x.toList hrx.1 hrx.2⟩
        have hpl : (fun j : Nat => (fields.map fun f => (f.offset, P.cellsOf f.type))[j]?) = (fun j : Nat => (fs[j]?).map fun f : Nat × Nat × Bool => (f.1, f.2.1)) := by
          funext j
          rw [hfs]
          simp
          rfl
        simp only [execOp, Instr.build, Sem.run_bind, hz, Result.andThen_ok, run_underlying hu, hm, hpl]
        simp [hx]
    · rename_i n e sz bt zr hT
      obtain ⟨z, hz, hzr, _⟩ := zero_rel (P := P) (w := w) (F := F) (φ := φ) (N := N) hT
      have hu := und_array hT rfl
      split at h
      · rename_i x hx
        cases hfill : fillA (fun j => some (j * x.size, x.size)) zr (ps.toList.map fun p => (p.1, ρ p.2)) with
        | none => rw [hfill] at h; cases h
        | some cs =>
          rw [hfill] at h
          cases h
          obtain ⟨y, hy, hry⟩ := fill_sound (fun j => some (j * x.size, x.size)) _ _ zr z.cells cs hps hzr hfill
          refine ⟨.agg y, ?_, .agg y.toList hry.1 hry.2⟩
          simp only [execOp, Instr.build, Sem.run_bind, hz, Result.andThen_ok, run_underlying hu, run_sizeOf hx]
          simp [hy]
      · cases h
    · cases h
  case nilCheck x =>
    have hx := hρ x
    split at h
    · rename_i id off he
      rw [he] at hx; cases h
      obtain ⟨ad, hq⟩ : ∃ ad, a.eval x = .pointer (some ad) := by generalize a.eval x = q at hx; cases hx; exact ⟨_, rfl⟩
      exact ⟨_, by simp only [execOp, hq]; rfl, hq ▸ hx⟩
    · rename_i cs he
      rw [he] at hx; cases h
      obtain ⟨ad, hq⟩ : ∃ ad, a.eval x = .pointer (some ad) := by generalize a.eval x = q at hx; cases hx; exact ⟨_, rfl⟩
      exact ⟨_, by simp only [execOp, hq]; rfl, hq ▸ hx⟩
    · rename_i f c1 c2 he
      rw [he] at hx; cases h
      obtain ⟨u1, u2, hq⟩ : ∃ u1 u2, a.eval x = .func (.func f) u1 u2 := by generalize a.eval x = q at hx; cases hx; exact ⟨_, _, rfl⟩
      exact ⟨_, by simp only [execOp, hq]; rfl, hq ▸ hx⟩
    · cases h
  case binOp op t x y yt =>
    obtain ⟨z, hz, hr⟩ := bin_sound (ox := x) (oy := y) (hρ x) (hρ y) h
    exact ⟨z, by simp only [execOp, Sem.run_bind] at hz ⊢; rw [hz]; rfl, hr⟩
  case unOp op t x =>
    obtain ⟨z, hz, hr⟩ := un_sound (P := P) (w := w) (hρ x) h
    exact ⟨z, by simp [execOp, hz], hr⟩
  case makeFunc fn first cap =>
    cases fn <;> simp only at h <;> (try (cases h; done))
    cases h
    have h1 := relL_map hρ first.toList
    have h2 := relL_map hρ cap.toList
    refine ⟨.func _ (first.toList.map a.eval).toArray (cap.toList.map a.eval).toArray, by simp [execOp, Instr.makeFunc]; constructor <;> (apply Array.ext'; simp), .fn _ _ h1.1 h2.1 h1.2 h2.2⟩
  case slice t x lo hi mx =>
    obtain ⟨z, hz, hr⟩ := slice_sound (lo := lo) (hi := hi) (mx := mx) hρ (hρ x) h
    exact ⟨z, by simp only [execOp, Sem.run_bind, hz, Result.andThen_ok]; rfl, hr⟩
  case fieldAddr t x f =>
    have hx := hρ x
    split at h
    · rename_i fs eq sz bt zr hT
      split at h
      · rename_i o fsz ag hf
        split at h
        · cases h
        · rename_i hz
          split at h
          · rename_i id off he
            rw [he] at hx; cases h
            obtain ⟨hq, hid⟩ : a.eval x = .pointer (some ⟨(φ id).1, (φ id).2 + off, none⟩) ∧ id < N := by
              generalize a.eval x = q at hx; cases hx; exact ⟨rfl, by assumption⟩
            refine ⟨_, by simp only [execOp, hq, Sem.run_bind, fieldAt_sound hT hf hz, Result.andThen_ok]; rfl, ?_⟩
            rw [add_addr _ rfl, Nat.add_assoc]
            exact .ptr hid
          · rename_i cs he
            rw [he] at hx; cases h
            obtain ⟨ad, hq⟩ : ∃ ad, a.eval x = .pointer (some ad) := by generalize a.eval x = q at hx; cases hx; exact ⟨_, rfl⟩
            rw [hq] at hx
            exact ⟨_, by simp only [execOp, hq, Sem.run_bind, fieldAt_sound hT hf hz, Result.andThen_ok]; rfl, fad_fad hx⟩
          · cases h
      · cases h
    · cases h
  case field t x f =>
    have hx := hρ x
    split at h
    · rename_i fs eq sz bt zr hT
      split at h
      · rename_i o fsz ag hf
        split at h
        · rename_i cs he
          split at h
          · cases h
          · rename_i hz
            rw [he] at hx
            obtain ⟨us, hq, hr⟩ := rel_agg hx
            obtain ⟨u, hu, hru⟩ := field_sound (P := P) hT hf hz hr h
            exact ⟨u, by simp only [execOp, hq, Sem.run_bind, hu, Result.andThen_ok]; rfl, hru⟩
        · cases h
      · cases h
    · cases h
  case indexAddr t x ix =>
    have hx := hρ x
    have hix := hρ ix
    split at h
    · rename_i k i hi
      rw [hi] at hix
      have hqi := rel_i hix
      split at h
      · rename_i e sz bt zr hT
        have hu := und_slice hT rfl
        split at h
        · rename_i y hy
          split at h
          · rename_i fu n cs he
            rw [he] at hx
            split at h
            · rename_i hc
              cases h
              obtain ⟨A, cap, hq⟩ : ∃ A cap, a.eval x = .slice A n cap := by generalize a.eval x = q at hx; cases hx; exact ⟨_, _, rfl⟩
              rw [hq] at hx
              obtain ⟨ad, rfl, hs, hr⟩ := fad_drop (k := i.toNat * y.size) hx (by omega) hc.2.2
              refine ⟨_, ?_, hr⟩
              simp [execOp, hq, hqi, Instr.indexAt, run_asIntOf, run_underlying hu, hc.1, hc.2.1, run_sizeOf hy, add_addr ad hs]
            · cases h
          · rename_i id sz2 off n he
            rw [he] at hx
            split at h
            · rename_i hc
              cases h
              generalize hq : a.eval x = q at hx
              cases hx with
              | ref hid hn hA hcl =>
                have hA' := hA (by omega)
                refine ⟨_, ?_, .ptr hid⟩
                simp [execOp, hq, hqi, Instr.indexAt, run_asIntOf, run_underlying hu, hA', hc.2.2.1, hc.2.2.2, run_sizeOf hy, add_addr, Nat.add_assoc]
            · cases h
          · cases h
        · cases h
      · rename_i n e sz bt zr hT
        have hu := und_array hT rfl
        split at h
        · rename_i y hy
          split at h
          · rename_i id off he
            rw [he] at hx
            split at h
            · rename_i hc
              cases h
              generalize hq : a.eval x = q at hx
              cases hx with
              | ptr hid =>
                refine ⟨_, ?_, .ptr hid⟩
                simp [execOp, hq, hqi, Instr.indexAt, Instr.sureAddr, run_asIntOf, run_underlying hu, hc.1, hc.2, run_sizeOf hy, add_addr, Nat.add_assoc]
            · cases h
          · rename_i cs he
            rw [he] at hx
            split at h
            · rename_i hc
              cases h
              obtain ⟨ad, hq⟩ : ∃ ad, a.eval x = .pointer (some ad) := by generalize a.eval x = q at hx; cases hx; exact ⟨_, rfl⟩
              rw [hq] at hx
              refine ⟨_, ?_, fad_fad (k := i.toNat * y.size) hx⟩
              simp [execOp, hq, hqi, Instr.indexAt, Instr.sureAddr, run_asIntOf, run_underlying hu, hc.1, hc.2, run_sizeOf hy]
            · cases h
          · cases h
        · cases h
      · cases h
    · cases h
  case index t x ix =>
    have hx := hρ x
    have hix := hρ ix
    split at h
    · rename_i k i hi
      rw [hi] at hix
      have hqi := rel_i hix
      split at h
      · rename_i s he
        rw [he] at hx
        have hq := rel_s hx
        split at h
        · rename_i e1 e2 e3 hT
          have hu := und_str hT rfl
          split at h
          · rename_i h0
            split at h
            · rename_i b hb
              cases h
              refine ⟨_, ?_, .i _ _⟩
              simp [execOp, hq, hqi, Instr.index, run_asIntOf, run_underlying hu, h0, hb]
            · cases h
          · cases h
        · cases h
      · rename_i cs he
        rw [he] at hx
        obtain ⟨us, hq, hr⟩ := rel_agg hx
        split at h
        · rename_i n e sz bt zr hT
          have hu := und_array hT rfl
          split at h
          · rename_i y hy
            split at h
            · rename_i hc
              obtain ⟨ii, d, z, hi1, hi2, _⟩ := mkT_spec hy
              have hag : aggOf P e = y.agg := by
                have := run_isAgg (P := P) (w := w) hy
                unfold isAgg at this
                simp only [Sem.run_bind, run_underlying hi2, Result.andThen_ok] at this
                unfold aggOf
                rw [hi2]
                cases d <;> simp at this <;> simp [this]
              obtain ⟨u, hu2, hru⟩ := part_sound (P := P) (t := e) (cellsOf_eq hy) hag ⟨d, hi2⟩ ⟨ii, hi1⟩ hr h
              refine ⟨u, ?_, hru⟩
              simp only [execOp, hq, hqi, Instr.index, Sem.run_bind, run_asIntOf, Result.andThen_ok, run_underlying hu, hc.1, hc.2, and_self, if_true, run_sizeOf hy, hu2]
              rfl
            · cases h
          · cases h
        · cases h
      · cases h
    · cases h
  case extract x j =>
    have hx := hρ x
    split at h
    · rename_i vs he
      rw [he] at hx
      obtain ⟨us, hq, hr⟩ := rel_tup hx
      obtain ⟨u, hu, hru⟩ := hr.get h
      exact ⟨u, by simp [execOp, hq, Instr.extract, hu], hru⟩
    · cases h
  case buildSlice t n ps => exact absurd rfl (hb t n ps)
end
end Go.Proofs.YtggojahlhpijeaaA
