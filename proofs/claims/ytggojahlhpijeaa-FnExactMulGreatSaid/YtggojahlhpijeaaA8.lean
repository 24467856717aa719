/- Every operation that is no call. No condition. -/
import Derived.Test.YtggojahlhpijeaaA7
import Derived.Lib.ConvBytes
import Derived.Laws.BytesString
namespace Go.Proofs.YtggojahlhpijeaaA
open Go Go.RowKit
set_option linter.unusedSimpArgs false
set_option linter.unusedVariables false
section
variable {P : Program} {w : World} {F : Nat → Prop} {φ : Nat → Nat × Nat} {S : Store} {z : Nat → Bool} {B : Nat} {L : Nat → Prop}

theorem replicate_made (zc : Array Value) (n : Nat) (h : 0 < zc.size) : ((Array.range (n * zc.size)).map (zc[· % zc.size]!)).toList = (List.replicate n zc.toList).flatten := by
  rw [Array.toList_map, Array.toList_range]
  induction n with
  | zero => simp
  | succ n ih =>
    rw [List.replicate_succ', List.flatten_append, ← ih, Nat.succ_mul, List.range_add, List.map_append]
    congr 1
    simp only [List.map_map, List.flatten_cons, List.flatten_nil, List.append_nil]
    apply List.ext_getElem
    · simp
    · intro i h1 h2
      simp at h1
      simp only [List.getElem_map, List.getElem_range, Function.comp]
      have e : (n * zc.size + i) % zc.size = i := by rw [Nat.mul_comm, Nat.mul_add_mod, Nat.mod_eq_of_lt h1]
      rw [e]
      simp [h1]

/-- What a step leaves. -/
def Left (B : Nat) (L : Nat → Prop) (w : World) (F : Nat → Prop) (φ : Nat → Nat × Nat) (S : Store) (v : AV) (S' : Store) (z' : Nat → Bool) (u : Value) (w' : World) : Prop :=
  ∃ F' φ', Rel w' F' φ' S'.length v u ∧ Sim w' F' φ' S' z' ∧ Evo B L w F φ S.length w' F' φ' S'.length ∧ ∀ k, LiveB φ' S' z' k → B ≤ k ∨ L k

theorem left_same (hs : Sim w F φ S z) (hL : ∀ k, LiveB φ S z k → B ≤ k ∨ L k) {v : AV} {u : Value} (hv : Rel w F φ S.length v u) : Left B L w F φ S v S z u w :=
  ⟨F, φ, hv, hs, Evo.refl, hL⟩

theorem left_push (hs : Sim w F φ S z) (hB : B ≤ w.heap.size) (hL : ∀ k, LiveB φ S z k → B ≤ k ∨ L k) {w' : World} {c : Array Value} (hp : Pushed w w' c) {cs : List AV} (hl : cs.length ≤ c.size) (hr : RelL w F φ S.length cs (c.toList.take cs.length)) {v : AV} {u : Value}
    (hv : Rel w' F (upd φ S.length (w.heap.size, 0)) (S.length + 1) v u) : Left B L w F φ S v (S ++ [some cs]) z u w' :=
  ⟨F, upd φ S.length (w.heap.size, 0), by simpa using hv, sim_push hs hp hl hr, evo_push hs hp hB _ (fun _ h => h) (fun _ h => .inl h) (by simp), fun k h => (live_push h).elim (hL k) (fun e => .inl (by omega))⟩

theorem ptr_new {w' : World} : Rel w' F (upd φ S.length (w.heap.size, 0)) (S.length + 1) (.ptr S.length 0) (.pointer (some ⟨w.heap.size, 0, none⟩)) := by
  have h : Rel w' F (upd φ S.length (w.heap.size, 0)) (S.length + 1) (.ptr S.length 0) _ := .ptr (by omega)
  rw [upd_same] at h
  exact h

theorem pushed_bytes (w : World) (e : TypeId) (s : ByteArray) : Pushed w (Lib.bytesWorld w e s) (Lib.bytesCells w e s) where
  old := fun k hk => Lib.bytesWorld_at_old w e s k hk
  new := ⟨e, _, Lib.bytesWorld_at_new w e s, fun o ho h => by omega⟩
  size := Lib.bytesWorld_size w e s
  os := by simp [Lib.bytesWorld, World.freeze]; rfl
  tape := by simp [Lib.bytesWorld, World.freeze]
  output := by simp [Lib.bytesWorld, World.freeze]; rfl

theorem bytesOf_length (s : ByteArray) : (bytesOf s).length = s.size := by
  unfold bytesOf
  rw [List.length_map, Array.length_toList]
  rfl
theorem relL_bytes {N : Nat} (s : ByteArray) : RelL w F φ N (bytesOf s) (byteCells s) := by
  unfold bytesOf byteCells
  refine ⟨by simp, fun j c u h1 h2 => ?_⟩
  rw [List.getElem?_map] at h1 h2
  cases hq : s.data.toList[j]? with
  | none => rw [hq] at h1; cases h1
  | some b => rw [hq] at h1 h2; cases h1; cases h2; exact .i _ _
theorem toBytes_rel {N : Nat} : ∀ {cs : List AV} {us : List Value} {l : List UInt8}, RelL w F φ N cs us → toBytes cs = some l → ∃ ns : List Int, us = ns.map (Value.int .u8) ∧ l = ns.map fun n => UInt8.ofNat n.toNat
  | [], us, l, hr, h => by cases hr.nil_inv; simp [toBytes] at h; exact ⟨[], rfl, by simp [h]⟩
  | c :: cs, us, l, hr, h => by
    obtain ⟨u, us', rfl, hc, hcs⟩ := hr.uncons
    cases c with
    | i k n =>
      cases k <;> simp only [toBytes] at h <;> (try (cases h; done))
      split at h
      · rename_i l' hl
        cases h
        obtain ⟨ns, rfl, rfl⟩ := toBytes_rel hcs hl
        cases rel_i hc
        exact ⟨n :: ns, rfl, rfl⟩
      · cases h
    | _ => simp [toBytes] at h
theorem foldl_push : ∀ (ns : List Int) (s : ByteArray), ns.foldl (fun r n => r.push (UInt8.ofNat n.toNat)) s = ⟨s.data ++ (ns.map fun n => UInt8.ofNat n.toNat).toArray⟩
  | [], s => by simp
  | n :: ns, s => by
    simp only [List.foldl_cons]
    rw [foldl_push ns]
    congr 1
    simp [ByteArray.push]

theorem astep_sound (hs : Sim w F φ S z) (hB : B ≤ w.heap.size) (hL : ∀ k, LiveB φ S z k → B ≤ k ∨ L k) {ρ : Operand → AV} {a : Act} (hρ : ∀ x, Rel w F φ S.length (ρ x) (a.eval x)) {o : Oper} {v : AV} {S' : Store} (h : astep (mkT P) ρ S z o.op = some (v, S')) :
    ∃ r u w', (execOp a.eval o).run P w = .ok r w' ∧ (r = .value u ∨ r = .skip ∧ u = Go.undef) ∧ Left B L w F φ S v S' z u w' := by
  by_cases hpure : (∀ t n ps, o.op ≠ .buildSlice t n ps) ∧ astep (mkT P) ρ S z o.op = (apure (mkT P) ρ o.op).map (·, S)
  · obtain ⟨hb, he⟩ := hpure
    rw [he] at h
    cases hq : apure (mkT P) ρ o.op with
    | none => rw [hq] at h; cases h
    | some v' =>
      rw [hq] at h; cases h
      obtain ⟨u, hu, hr⟩ := apure_sound hρ hb hq
      exact ⟨_, u, w, hu, .inl rfl, left_same hs hL hr⟩
  obtain ⟨dst, op, ty, pos, after, guard⟩ := o
  cases op
  case alloc t =>
    simp only [astep] at h
    split at h
    · rename_i x hx
      cases h
      obtain ⟨zv, hz, hzr, _⟩ := zero_rel (P := P) (w := w) (F := F) (φ := φ) (N := S.length) hx
      have hsz : zv.cells.size = x.zero.length := by have := hzr.1; rwa [Array.length_toList] at this
      refine ⟨_, .pointer (some ⟨w.heap.size, 0, none⟩), w.alloc (.cells zv.cells t), ?_, .inl rfl, left_push hs hB hL (pushed_alloc w zv.cells t) (by omega) ?_ ptr_new⟩
      · simp [execOp, Instr.alloc, hz, newVar, newRow]
      · rw [List.take_of_length_le (by rw [Array.length_toList]; omega)]; exact hzr
    · cases h
  case box t x =>
    simp only [astep] at h
    split at h
    · rename_i hok
      cases h
      have hx := hρ x
      have hc := hx.cells hok
      have hsz : (a.eval x).cells.size = (ρ x).cells.length := by have := hc.1; rwa [Array.length_toList] at this
      refine ⟨_, .pointer (some ⟨w.heap.size, 0, none⟩), w.alloc (.cells (a.eval x).cells t), ?_, .inl rfl, left_push hs hB hL (pushed_alloc w _ t) (by omega) ?_ ptr_new⟩
      · simp [execOp, Instr.box, newVar, newRow]
      · rw [List.take_of_length_le (by rw [Array.length_toList]; omega)]; exact hc
    · cases h
  case load t x =>
    simp only [astep] at h
    split at h
    · rename_i y hy
      cases hq : aload S y (ρ x) with
      | none => rw [hq] at h; cases h
      | some v' =>
        rw [hq] at h; cases h
        obtain ⟨ad, u, he, hu, hr⟩ := aload_sound hs hy (hρ x) hq
        exact ⟨_, u, w, by simp [execOp, Instr.loadAt, he, Instr.sureAddr, hu], .inl rfl, left_same hs hL hr⟩
    · cases h
  case store t x y =>
    simp only [astep] at h
    split at h
    · rename_i ti hti
      cases hq : astore S z ti (ρ x) (ρ y) with
      | none => rw [hq] at h; cases h
      | some S2 =>
        rw [hq] at h; cases h
        have hx := hρ x
        have hy := hρ y
        unfold astore at hq
        split at hq
        · rename_i id off he
          split at hq
          · rename_i cs hcs
            split at hq
            · rename_i hc
              obtain ⟨hz, hl, hle, hone⟩ := hc
              cases hq
              rw [he] at hx
              obtain ⟨hqx, hid⟩ : a.eval x = .pointer (some ⟨(φ id).1, (φ id).2 + off, none⟩) ∧ id < S.length := by
                generalize a.eval x = q at hx; cases hx; exact ⟨rfl, by assumption⟩
              have hok : (ρ y).okc = true := by
                cases hy2 : ρ y <;> simp [AV.okc]
                rw [hy2] at hone
                simpa [AV.cells, AV.one] using hone
              have hc := hy.cells hok
              have hblk := sim_block hs hcs
              have hcl : (a.eval y).cells.size = ti.size := by have := hc.1; rw [Array.length_toList] at this; omega
              obtain ⟨us0, hr0, hat0⟩ := hs.cont id cs hblk
              have hst := run_storeCells_cells (P := P) (φ id).1 ((φ id).2 + off) (a.eval y).cells.toList 0 w (fun j hj => by
                  have hlt : off + j < us0.length := by rw [hr0.1]; rw [Array.length_toList] at hj; omega
                  have := hat0 (off + j) _ (List.getElem?_eq_getElem hlt)
                  simp only [Nat.add_zero]
                  rw [Nat.add_assoc, this]; rfl)
                (fun j hj => by
                  refine (hs.live id cs hblk hz).2.2 _ ?_
                  have hlt : off + j < us0.length := by rw [hr0.1]; rw [Array.length_toList] at hj; omega
                  have := hat0 (off + j) _ (List.getElem?_eq_getElem hlt)
                  simp only [Nat.add_zero]
                  rw [Nat.add_assoc, this]; rfl) (hc.one hone)
              simp only [Nat.add_zero] at hst
              refine ⟨.skip, Go.undef, _, ?_, .inr ⟨rfl, rfl⟩, F, φ, rel_undef, sim_store hs hblk hz hc (by omega), evo_store hs hblk hz hL _ _ (by simp), fun k hk => ?_⟩
              · simp only [execOp, hqx, Instr.storeAt, Instr.sureAddr, Sem.run_bind, Sem.run_pure, Result.andThen_ok, storeVar, run_sizeOf hti, hcl, ne_eq, not_true_eq_false, if_false, hst]
              · obtain ⟨i, cs', h1, h2, h3⟩ := hk
                by_cases hi : i = id
                · subst hi; exact hL k ⟨i, cs, hblk, h2, h3⟩
                · rw [List.getElem?_set_ne (fun e => hi e.symm)] at h1
                  exact hL k ⟨i, cs', h1, h2, h3⟩
            · cases hq
          · cases hq
        · cases hq
    · cases h
  case makeSlice t l c =>
    simp only [astep] at h
    split at h
    · rename_i kl l' kc c' hl hc
      split at h
      · rename_i e sz bt zr hT
        have hu := und_slice hT rfl
        split at h
        · rename_i x hx
          split at h
          · rename_i hcond
            obtain ⟨h0, h1, h2, h3, hsz2⟩ := hcond
            cases h
            obtain ⟨i, d, zv, hi, hd, hz, hsz, hbz, hzero, _⟩ := mkT_spec hx
            have el := rel_i (hl ▸ hρ l)
            have ec := rel_i (hc ▸ hρ c)
            have hrun := run_make (P := P) w t e i zv hu hi hz kl kc l' c' h0 h1 (by rw [hbz, Int.mul_comm]; exact h2) h3
            obtain ⟨zv2, _, hzr, hz2⟩ := zero_rel (P := P) (w := w) (F := F) (φ := φ) (N := S.length) hx
            have : zv2 = zv := by simp [hi, hz] at hz2; exact hz2.symm
            subst this
            have hzl : zv2.cells.size = x.zero.length := by have := hzr.1; rwa [Array.length_toList] at this
            have hxz : x.zero.length = x.size := hsz2
            rw [hsz] at hrun
            have hcells : (madeCells zv2.cells (c'.toNat * x.size)).toList = (List.replicate c'.toNat zv2.cells.toList).flatten := by
              rcases Nat.eq_zero_or_pos x.size with h00 | h00
              · rw [h00]
                have : zv2.cells.toList = [] := by apply List.eq_nil_of_length_eq_zero; rw [Array.length_toList]; omega
                rw [this]; simp [madeCells]
              · rw [show x.size = zv2.cells.size by omega]
                exact replicate_made _ _ (by omega)
            have hlen : ((List.replicate l'.toNat x.zero).flatten).length = l'.toNat * x.size := by simp [hxz]
            have hle : l'.toNat ≤ c'.toNat := by omega
            have hmul : l'.toNat * x.size ≤ c'.toNat * x.size := Nat.mul_le_mul_right _ hle
            refine ⟨_, .slice (some ⟨w.heap.size, 0, none⟩) l'.toNat c'.toNat, w.alloc (.cells (madeCells zv2.cells (c'.toNat * x.size)) e), ?_, .inl rfl, left_push hs hB hL (pushed_alloc w _ e) ?_ ?_ ?_⟩
            · simp only [execOp, el, ec, Sem.run_bind, hrun, Result.andThen_ok]; rfl
            · rw [hlen, size_madeCells]; exact hmul
            · rw [hlen, hcells]
              have hr := hzr.rep l'.toNat
              have e1 : (List.replicate c'.toNat zv2.cells.toList).flatten.take (l'.toNat * x.size) = (List.replicate l'.toNat zv2.cells.toList).flatten := by
                rw [show c'.toNat = l'.toNat + (c'.toNat - l'.toNat) by omega, ← List.replicate_append_replicate, List.flatten_append, List.take_left']
                simp [hzl, hxz]
              rw [e1]
              exact hr
            · refine .ref (by omega) hle (fun _ => by rw [upd_same]) (fun j hj => ?_)
              rw [upd_same]
              simp only [Nat.zero_add]
              rw [World.cell?_alloc_new]
              rw [Array.getElem?_eq_getElem (by rw [size_madeCells]; exact hj)]
              rfl
          · cases h
        · cases h
      · cases h
    · cases h
  case convert s t x =>
    simp only [astep] at h
    have hx := hρ x
    split at h
    · rename_i ti tj hi hj
      split at h
      · rename_i k1 k k3 n e1 e2 e3
        cases h
        rw [e3] at hx
        have h1 := und_int hi e1
        have h2 := und_int hj e2
        exact ⟨_, _, w, by simp only [execOp, rel_i hx, convert, Sem.run_bind, run_underlying h1, run_underlying h2, Result.andThen_ok, Conv.intToInt, Sem.run_pure], .inl rfl, left_same hs hL (.i _ _)⟩
      · rename_i s' e1 e2 e3
        cases h
        rw [e3] at hx
        have h1 := und_str hi e1
        have h2 := und_str hj e2
        exact ⟨_, _, w, by simp only [execOp, rel_s hx, convert, Sem.run_bind, run_underlying h1, run_underlying h2, Result.andThen_ok, Sem.run_pure], .inl rfl, left_same hs hL (.s _)⟩
      · rename_i e v' e1 e2 e3
        rw [e3] at hx
        split at h
        · rename_i bt zr hT
          cases h
          have h1 := und_str hi e1
          have h2 := und_slice hj e2
          have h3 := und_int hT rfl
          have hcells : (Lib.bytesCells w e v').toList.take (bytesOf v').length = byteCells v' := by
            rw [bytesOf_length]
            unfold Lib.bytesCells byteCells
            rw [Array.toList_append, List.take_append_of_le_length (by simp)]
            rw [List.take_of_length_le (by simp)]
            simp
          have hsz : v'.size ≤ (Lib.bytesCells w e v').size := by
            have := congrArg List.length hcells
            rw [List.length_take, byteCells_length, bytesOf_length] at this
            rw [← Array.length_toList]; omega
          have hge := grownCap_ge w v'.size 0 e
          refine ⟨_, .slice (some ⟨w.heap.size, 0, none⟩) v'.size (grownCap w v'.size 0 e), Lib.bytesWorld w e v', ?_, .inl rfl, left_push hs hB hL (pushed_bytes w e v') ?_ ?_ ?_⟩
          · simp only [execOp, rel_s hx, Sem.run_bind, Lib.run_convert_string_bytes w s t e v' h1 h2 h3, Result.andThen_ok]; rfl
          · rw [bytesOf_length]; exact hsz
          · rw [hcells]; exact relL_bytes v'
          · refine .ref (by omega) hge (fun _ => by rw [upd_same]) (fun j hj => ?_)
            rw [upd_same]
            simp only [Nat.zero_add]
            rw [pushed_cell (pushed_bytes w e v')]
            have : (Lib.bytesCells w e v').size = grownCap w v'.size 0 e := by
              simp [Lib.bytesCells]
              have : v'.data.size = v'.size := rfl
              omega
            rw [Array.getElem?_eq_getElem (by omega)]
            rfl
        · cases h
      · rename_i v' e e1 e2
        split at h
        · rename_i bt zr hT
          split at h
          · rename_i n cs hcs
            have h1 := und_slice hi e1
            have h2 := und_str hj e2
            have h3 := und_int hT rfl
            cases hb : toBytes cs with
            | none => rw [hb] at h; cases h
            | some l =>
              rw [hb] at h; cases h
              obtain ⟨A, cap, hq, hlen, us, hr, hat⟩ := slice_cells hs hx hcs
              obtain ⟨ns, rfl, rfl⟩ := toBytes_rel hr hb
              have hnl : ns.length = n := by have := hr.1; rw [List.length_map] at this; omega
              refine ⟨_, .string ⟨(ns.map fun n => UInt8.ofNat n.toNat).toArray⟩, w, ?_, .inl rfl, left_same hs hL (.s _)⟩
              simp only [execOp, hq, Sem.run_bind, run_convert_bytes_string w s t e _ _ _ h1 h3 h2]
              cases A with
              | none =>
                have : ns = [] := by
                  cases ns with
                  | nil => rfl
                  | cons m ns =>
                    obtain ⟨a, h, _⟩ := hat 0 (.int .u8 m) rfl
                    cases h
                subst this
                simp [Conv.bytesToString]
                rfl
              | some ad =>
                have hl2 := run_loadCells_list (P := P) w ad (ns.map (Value.int .u8)) (fun j u hj => by
                  obtain ⟨a, ha, hs2, hc⟩ := hat j u hj
                  cases ha
                  rw [add_addr ad hs2]
                  exact hc)
                rw [List.length_map, hnl] at hl2
                rw [run_bytesToString w ad n cap ns hl2, foldl_push]
                simp
          · cases h
        · cases h
      · cases h
    · cases h
  case buildSlice t n ps =>
    simp only [astep] at h
    cases hq : apure (mkT P) ρ (.buildSlice t n ps) with
    | none => rw [hq] at h; cases h
    | some v' =>
      rw [hq] at h; cases h
      simp only [apure] at hq
      split at hq
      · rename_i e sz bt zr hT
        have hu := und_slice hT rfl
        split at hq
        · rename_i x hx
          split at hq
          · rename_i hmax
            split at hq
            · rename_i cs hfill
              split at hq
              · rename_i hcond
                obtain ⟨hlen, hxz, hall⟩ := hcond
                cases hq
                obtain ⟨zv, hz, hzr, _⟩ := zero_rel (P := P) (w := w) (F := F) (φ := φ) (N := S.length) hx
                have hzl : zv.cells.size = x.zero.length := by have := hzr.1; rwa [Array.length_toList] at this
                have hps := relP_map hρ ps.toList
                have hbase : RelL w F φ S.length (List.replicate n x.zero).flatten ((Array.range (n * x.size)).map (zv.cells[· % zv.cells.size]!)).toList := by
                  rcases Nat.eq_zero_or_pos x.size with h00 | h00
                  · rw [h00]
                    have : x.zero = [] := by apply List.eq_nil_of_length_eq_zero; omega
                    rw [this]
                    refine cast ?_ (RelL.nil (w := w) (F := F) (φ := φ) (N := S.length))
                    congr 1 <;> simp
                  · rw [show x.size = zv.cells.size by omega, replicate_made _ _ (by omega)]
                    exact hzr.rep n
                obtain ⟨y, hy, hry⟩ := fill_sound (fun j => some (j * x.size, x.size)) _ _ _ _ cs hps hbase hfill
                have hyl : y.size = cs.length := by have := hry.1; rwa [Array.length_toList] at this
                have hp := pushed_alloc w y e
                have hF : ∀ k, F k → (F k ∨ k = w.heap.size) := fun k h => .inl h
                have hF' : ∀ k, (F k ∨ k = w.heap.size) → F k ∨ (w.heap.size ≤ k ∧ k < (w.alloc (.cells y e)).heap.size) := fun k h => h.imp id (fun h => by rw [hp.size]; omega)
                refine ⟨_, .slice (some ⟨w.heap.size, 0, none⟩) n n, w.alloc (.cells y e), ?_, .inl rfl, fun k => F k ∨ k = w.heap.size, φ, ?_, sim_evo0 hs hp.old (by rw [hp.size]; omega) hF hF', evo0 hs hp.old (by rw [hp.size]; omega) rfl rfl rfl hB hF hF', hL⟩
                · simp only [execOp, Instr.buildSlice, Sem.run_bind, run_underlying hu, Result.andThen_ok, run_sizeOf hx]
                  rw [if_neg (by omega)]
                  rcases Nat.eq_zero_or_pos (n * x.size) with h00 | h00
                  · have hm : ((Array.range 0).map (zv.cells[· % zv.cells.size]!)) = (#[] : Array Value) := by simp [Array.range]
                    have hm2 : ∀ zz : Array Value, ((Array.range 0).map (zz[· % zz.size]!)) = (#[] : Array Value) := by intro zz; simp [Array.range]
                    rw [h00, hm] at hy
                    rw [if_pos h00]
                    simp only [Sem.run_pure, Result.andThen_ok, h00, hm2, hy]
                    simp [newRow]
                    rw [hy]
                    simp
                  · rw [if_neg (by omega)]
                    simp [hz, hy, newRow]
                · refine .sl y.toList (Nat.le_refl _) (fun _ => rfl) (by rw [Array.length_toList]; exact hyl) (fun j u hj => ⟨⟨w.heap.size, 0, none⟩, rfl, rfl, .inr rfl, ?_⟩) (fun j c u h1 h2 => ?_)
                  · simp only [Nat.zero_add]
                    rw [World.cell?_alloc_new, ← Array.getElem?_toList]; exact hj
                  · have hr := hry.2 j c u h1 h2
                    have hm : c ∈ cs := List.mem_of_getElem? h1
                    have hcc := List.all_eq_true.1 hall c hm
                    have h0 : Rel w F φ 0 c u := by
                      cases hr <;> first | (simp at hcc; done) | constructor <;> assumption
                    exact h0.mono hF (fun k hk => hp.old k (hs.Fs k hk)) (fun a h => by
                      obtain ⟨u, hu⟩ := Option.isSome_iff_exists.1 h
                      rw [World.cell?_of_block (w := w) (hp.old _ (cell_some hu))]
                      exact h) (Nat.le_refl _) (fun id hid => absurd hid (Nat.not_lt_zero _))
              · cases hq
            · cases hq
          · cases hq
        · cases hq
      · cases hq
  all_goals exact absurd ⟨fun t n ps h => (nomatch h), rfl⟩ hpure
end
end Go.Proofs.YtggojahlhpijeaaA
