/- The operations that only compute: numbers, strings, slices, places. No condition. -/
import Derived.Test.YtggojahlhpijeaaA4
namespace Go.Proofs.YtggojahlhpijeaaA
open Go Go.RowKit
set_option linter.unusedSimpArgs false
set_option linter.unusedVariables false
section
variable {P : Program} {w : World} {F : Nat → Prop} {φ : Nat → Nat × Nat} {N : Nat}

/-- A scalar's own value. -/
def AV.val : AV → Value
  | .b x => .bool x
  | .i k n => .int k n
  | .s x => .string x
  | _ => Go.undef
def AV.sc : AV → Bool
  | .b _ | .i _ _ | .s _ => true
  | _ => false
theorem rel_val {v : AV} (h : v.sc = true) : Rel w F φ N v v.val := by
  cases v <;> first | (cases h; done) | exact .b _ | exact .i _ _ | exact .s _

theorem binI_run {op : BinOp} {k k' : IntKind} {a b : Int} {t : TypeId} {ox oy : Operand} {r : AV} (h : abin (mkT P) op t (.i k a) (.i k' b) = some r) :
    (do eqGuard op t ox oy (.int k a) (.int k' b); binOp op t (.int k a) (.int k' b) : Sem Value).run P w = .ok r.val w ∧ r.sc = true := by
  simp only [abin] at h
  cases op <;> simp only [abinI, ashift] at h
  case shl => split at h <;> cases h; refine ⟨?_, rfl⟩; simp [eqGuard, binOp, Op.shift, AV.val, *]
  case shr => split at h <;> cases h; refine ⟨?_, rfl⟩; simp [eqGuard, binOp, Op.shift, AV.val, *]
  all_goals
    split at h
    · rename_i hk
      subst hk
      first
      | (cases h; refine ⟨?_, rfl⟩; simp [eqGuard, binOp, Op.intArith, Op.intBits, Op.intCmp, AV.val]; done)
      | (cases h; refine ⟨?_, rfl⟩; simp [eqGuard, binOp, Op.intArith, Op.intBits, Op.intCmp, AV.val]; rfl)
      | (split at h <;> cases h; refine ⟨?_, rfl⟩; simp [eqGuard, binOp, Op.intDiv, AV.val, *])
    · cases h

theorem binI_sound {op : BinOp} {k k' : IntKind} {a b : Int} {t : TypeId} {ox oy : Operand} {r : AV} (h : abin (mkT P) op t (.i k a) (.i k' b) = some r) :
    ∃ u, (do eqGuard op t ox oy (.int k a) (.int k' b); binOp op t (.int k a) (.int k' b) : Sem Value).run P w = .ok u w ∧ Rel w F φ N r u :=
  ⟨_, (binI_run (w := w) (ox := ox) (oy := oy) h).1, rel_val (binI_run (w := w) (ox := ox) (oy := oy) h).2⟩

theorem binS_sound {op : BinOp} {a b : ByteArray} {t : TypeId} {ox oy : Operand} {r : AV} (h : abinS op a b = some r) :
    ∃ u, (do eqGuard op t ox oy (.string a) (.string b); binOp op t (.string a) (.string b) : Sem Value).run P w = .ok u w ∧ Rel w F φ N r u := by
  have e : (a.toList == b.toList) = decide (a = b) := by rw [← beq_toListBytes, bytes_beq]
  cases op <;> simp only [abinS] at h <;> (try (cases h; done))
  · split at h
    · rename_i hle
      cases h
      refine ⟨.string (a ++ b), ?_, .s _⟩
      have hn : ¬ ((a.size : Int) + (b.size : Int) > IntKind.i64.max) := by
        have : IntKind.i64.max = 9223372036854775807 := by decide
        omega
      have hn' : ¬ (IntKind.i64.max < (a.size : Int) + (b.size : Int)) := hn
      simp [eqGuard, binOp, Op.stringOp]
      omega
    · cases h
  · cases h
    exact ⟨.bool (decide (a = b)), by simp [eqGuard, binOp, Op.stringOp, e], .b _⟩
  · cases h
    exact ⟨.bool (!decide (a = b)), by simp [eqGuard, binOp, Op.stringOp, e], .b _⟩

theorem bin_sound {op : BinOp} {t : TypeId} {ox oy : Operand} {x y r : AV} {u v : Value} (hx : Rel w F φ N x u) (hy : Rel w F φ N y v) (h : abin (mkT P) op t x y = some r) :
    ∃ z, (do eqGuard op t ox oy u v; binOp op t u v : Sem Value).run P w = .ok z w ∧ Rel w F φ N r z := by
  cases x with
  | i k a =>
    cases y with
    | i k' b => cases rel_i hx; cases rel_i hy; exact binI_sound h
    | _ => simp [abin] at h
  | s a =>
    cases y with
    | s b => cases rel_s hx; cases rel_s hy; simp only [abin] at h; exact binS_sound h
    | _ => simp [abin] at h
  | b a =>
    cases y with
    | b b =>
      cases rel_b hx; cases rel_b hy
      simp only [abin] at h
      split at h
      · rename_i sz by' zr hT
        have hu := und_bool hT rfl
        cases op <;> simp only at h <;> (try (cases h; done))
        · cases h; exact ⟨_, by simp [eqGuard, binOp, run_equal_bool w t a b hu], .b _⟩
        · cases h; exact ⟨_, by simp [eqGuard, binOp, run_equal_bool w t a b hu], .b _⟩
      · cases h
    | _ => simp [abin] at h
  | agg xs =>
    cases y with
    | agg ys =>
      obtain ⟨us, rfl, hus⟩ := rel_agg hx
      obtain ⟨vs, rfl, hvs⟩ := rel_agg hy
      simp only [abin] at h
      split at h
      · rename_i fs ks sz by' zr hT
        obtain ⟨fields, hu, _, hk, _⟩ := und_struct hT rfl
        split at hk
        · rename_i hg
          split at h
          · rename_i q hq
            have he := (eq_sound 5 t ks hk.symm 10000 xs ys us vs q (by omega) hus hvs hq).1 _ hu
            cases op <;> simp only at h <;> (try (cases h; done))
            · cases h
              refine ⟨.bool q, ?_, .b _⟩
              simp only [Sem.run_bind, run_eqGuard_agg w .eql t ox oy us.toArray vs.toArray hg, Result.andThen_ok, run_eql_struct, he]
            · cases h
              refine ⟨.bool (!q), ?_, .b _⟩
              simp only [Sem.run_bind, run_eqGuard_agg w .neq t ox oy us.toArray vs.toArray hg, Result.andThen_ok, run_neq_struct, he]
          · cases h
        · cases hk
      · cases h
    | _ => simp [abin] at h
  | _ => simp [abin] at h

theorem un_sound {op : UnOp} {x r : AV} {u : Value} (hx : Rel w F φ N x u) (h : aun op x = some r) : ∃ z, (Op.unary op u).run P w = .ok z w ∧ Rel w F φ N r z := by
  cases x with
  | i k n =>
    cases rel_i hx
    cases op <;> simp only [aun] at h <;> (try (cases h; done))
    · cases h; exact ⟨_, by simp [Op.unary, Op.intArith]; rfl, by simpa using (.i k (k.wrap (0 - n)) : Rel w F φ N _ _)⟩
    · cases h; exact ⟨_, by simp [Op.unary, Op.intBits], .i _ _⟩
  | b x =>
    cases rel_b hx
    cases op <;> simp only [aun] at h <;> (try (cases h; done))
    cases h; exact ⟨_, by simp [Op.unary], .b _⟩
  | _ => simp [aun] at h


theorem sliceBound_ok {k : IntKind} {i : Int} {y : Nat} {c : BoundsCode} (h0 : 0 ≤ i) (h1 : i ≤ y) : (Instr.sliceBound (.int k i) y c).run P w = .ok i.toNat w := by
  simp [Instr.sliceBound, asIntOf, h0, h1]

theorem bounds_lh {b : Bool} {n cap : Nat} {kl kh : IntKind} {l h : Int} (h0 : 0 ≤ l) (h1 : l ≤ h) (h2 : h ≤ cap) :
    (Instr.sliceBounds b n cap (some (.int kl l)) (some (.int kh h)) none).run P w = .ok (l.toNat, h.toNat, cap) w := by
  have e1 := sliceBound_ok (P := P) (w := w) (k := kh) (c := if b then .sliceAcap else .sliceAlen) (by omega : 0 ≤ h) h2
  have e2 := sliceBound_ok (P := P) (w := w) (k := kl) (y := h.toNat) (c := .sliceB) h0 (by omega)
  simp [Instr.sliceBounds, e1, e2]
theorem bounds_h {b : Bool} {n cap : Nat} {kh : IntKind} {h : Int} (h1 : 0 ≤ h) (h2 : h ≤ cap) :
    (Instr.sliceBounds b n cap none (some (.int kh h)) none).run P w = .ok (0, h.toNat, cap) w := by
  have e1 := sliceBound_ok (P := P) (w := w) (k := kh) (c := if b then .sliceAcap else .sliceAlen) (by omega : 0 ≤ h) h2
  simp [Instr.sliceBounds, e1]
theorem bounds_l {b : Bool} {n cap : Nat} {kl : IntKind} {l : Int} (h1 : 0 ≤ l) (h2 : l ≤ n) :
    (Instr.sliceBounds b n cap (some (.int kl l)) none none).run P w = .ok (l.toNat, n, cap) w := by
  have e1 := sliceBound_ok (P := P) (w := w) (k := kl) (c := .sliceB) h1 h2
  simp [Instr.sliceBounds, e1]
theorem bounds_n {b : Bool} {n cap : Nat} : (Instr.sliceBounds b n cap none none none).run P w = .ok (0, n, cap) w := by
  simp [Instr.sliceBounds]
theorem bounds_lhm {b : Bool} {n cap : Nat} {kl kh km : IntKind} {l h : Int} (h0 : 0 ≤ l) (h1 : l ≤ h) (h2 : h ≤ cap) :
    (Instr.sliceBounds b n cap (some (.int kl l)) (some (.int kh h)) (some (.int km h))).run P w = .ok (l.toNat, h.toNat, h.toNat) w := by
  have e0 := sliceBound_ok (P := P) (w := w) (k := km) (c := if b then .slice3Acap else .slice3Alen) (by omega : 0 ≤ h) h2
  have e1 := sliceBound_ok (P := P) (w := w) (k := kh) (y := h.toNat) (c := .slice3B) (by omega : 0 ≤ h) (by omega)
  have e2 := sliceBound_ok (P := P) (w := w) (k := kl) (y := h.toNat) (c := .slice3C) h0 (by omega)
  simp [Instr.sliceBounds, e0, e1, e2]
theorem bounds_hm {b : Bool} {n cap : Nat} {kh km : IntKind} {h : Int} (h1 : 0 ≤ h) (h2 : h ≤ cap) :
    (Instr.sliceBounds b n cap none (some (.int kh h)) (some (.int km h))).run P w = .ok (0, h.toNat, h.toNat) w := by
  have e0 := sliceBound_ok (P := P) (w := w) (k := km) (c := if b then .slice3Acap else .slice3Alen) (by omega : 0 ≤ h) h2
  have e1 := sliceBound_ok (P := P) (w := w) (k := kh) (y := h.toNat) (c := .slice3B) (by omega : 0 ≤ h) (by omega)
  simp [Instr.sliceBounds, e0, e1]

/-- The bounds of a slice expression, all forms at once. -/
def LoOk (lo : Option Value) (l : Int) : Prop := (lo = none ∧ l = 0) ∨ ∃ k, lo = some (.int k l)
theorem bounds_loh {b : Bool} {n cap : Nat} {lo : Option Value} {kh : IntKind} {l h : Int} (hlo : LoOk lo l) (h0 : 0 ≤ l) (h1 : l ≤ h) (h2 : h ≤ cap) :
    (Instr.sliceBounds b n cap lo (some (.int kh h)) none).run P w = .ok (l.toNat, h.toNat, cap) w := by
  rcases hlo with ⟨rfl, rfl⟩ | ⟨k, rfl⟩
  · exact bounds_h h1 h2
  · exact bounds_lh h0 h1 h2
theorem bounds_lo {b : Bool} {n cap : Nat} {lo : Option Value} {l : Int} (hlo : LoOk lo l) (h0 : 0 ≤ l) (h1 : l ≤ n) :
    (Instr.sliceBounds b n cap lo none none).run P w = .ok (l.toNat, n, cap) w := by
  rcases hlo with ⟨rfl, rfl⟩ | ⟨k, rfl⟩
  · exact bounds_n
  · exact bounds_l h0 h1
theorem bounds_lohm {b : Bool} {n cap : Nat} {lo : Option Value} {kh km : IntKind} {l h : Int} (hlo : LoOk lo l) (h0 : 0 ≤ l) (h1 : l ≤ h) (h2 : h ≤ cap) :
    (Instr.sliceBounds b n cap lo (some (.int kh h)) (some (.int km h))).run P w = .ok (l.toNat, h.toNat, h.toNat) w := by
  rcases hlo with ⟨rfl, rfl⟩ | ⟨k, rfl⟩
  · exact bounds_hm h1 h2
  · exact bounds_lhm h0 h1 h2

theorem slice_str {t : TypeId} {s : ByteArray} {lo hi : Option Value} {l h : Nat} (ht : P.underlying t = some .string) (hb : (Instr.sliceBounds false s.size s.size lo hi none).run P w = .ok (l, h, s.size) w) :
    (Instr.sliceAt t (.string s) lo hi none).run P w = .ok (.string (s.extract l h)) w := by
  simp [Instr.sliceAt, Instr.slice, run_underlying ht, hb]
theorem slice_sl {t e : TypeId} {x : TI} {A : Option Addr} {n cap : Nat} {lo hi mx : Option Value} {l h m : Nat} (ht : P.underlying t = some (.slice e)) (he : mkT P e = some x) (hb : (Instr.sliceBounds true n cap lo hi mx).run P w = .ok (l, h, m) w) :
    (Instr.sliceAt t (.slice A n cap) lo hi mx).run P w = .ok (.slice (if m = l then A else A.map (·.add (l * x.size))) (h - l) (m - l)) w := by
  simp [Instr.sliceAt, Instr.slice, run_underlying ht, hb, run_sizeOf he]

theorem add_addr (a : Addr) (hs : a.spot = none) (n : Nat) : a.add n = ⟨a.block, a.off + n, none⟩ := by
  unfold Addr.add; split
  · rename_i h; subst h; cases a; simp_all
  · rfl

/-- A part of a list that is read alone. -/
theorem sub_sl {full full' : Bool} {n cap l h m sz : Nat} {cs cs' : List AV} {A : Option Addr} (hv : Rel w F φ N (.sl full n cs) (.slice A n cap)) (hlh : l ≤ h) (hhn : h ≤ n) (hm : h ≤ m) (hf : full' = true → m = h) (hml : m = l → cs' = [])
    (hcs : ∃ q, cs' = (cs.drop (l * sz)).take q) : Rel w F φ N (.sl full' (h - l) cs') (.slice (if m = l then A else A.map (·.add (l * sz))) (h - l) (m - l)) := by
  cases hv with
  | sl us hn hf0 hl hat hh =>
    obtain ⟨q, rfl⟩ := hcs
    have hr : RelL w F φ 0 cs us := ⟨hl, hh⟩
    have hr2 := (hr.drop (l * sz)).take q
    refine .sl ((us.drop (l * sz)).take q) (by omega) (fun hx => by rw [hf hx]) hr2.1 (fun j u hj => ?_) hr2.2
    rw [List.getElem?_take] at hj
    split at hj
    · rename_i hq
      rw [List.getElem?_drop] at hj
      obtain ⟨a, rfl, hs, hF, hc⟩ := hat _ u hj
      have hne : m ≠ l := by
        intro e
        have := hml e
        have hlen : ((us.drop (l * sz)).take q).length = 0 := by rw [hr2.1, this]; rfl
        rw [List.length_take, List.length_drop] at hlen
        have := (List.getElem?_eq_some_iff.1 hj).1
        omega
      rw [if_neg hne]
      refine ⟨⟨a.block, a.off + l * sz, none⟩, by simp [add_addr a hs], rfl, hF, ?_⟩
      rw [Nat.add_assoc]
      exact hc
    · cases hj

theorem sub_ref {id sz off n cap l h : Nat} {A : Option Addr} (hv : Rel w F φ N (.ref id sz off n) (.slice A n cap)) (hlh : l ≤ h) (hhn : h ≤ n) :
    Rel w F φ N (.ref id sz (off + l * sz) (h - l)) (.slice (if cap = l then A else A.map (·.add (l * sz))) (h - l) (cap - l)) := by
  cases hv with
  | ref hid hn hA hc =>
    refine .ref hid (by omega) (fun hp => ?_) (fun j hj => ?_)
    · rw [if_neg (by omega), hA (by omega)]
      simp [add_addr, Nat.add_assoc]
    · have := hc (l * sz + j) (by
        have e : cap * sz = l * sz + (cap - l) * sz := by rw [← Nat.add_mul]; congr 1; omega
        omega)
      rwa [show (φ id).2 + (off + l * sz) + j = (φ id).2 + off + (l * sz + j) by omega]

theorem slice_sound {t : TypeId} {x : AV} {u : Value} {lo hi mx : Option Operand} {ρ : Operand → AV} {a : Act} (hρ : ∀ x, Rel w F φ N (ρ x) (a.eval x)) (hx : Rel w F φ N x u) {r : AV}
    (h : asl (mkT P) t x ((lo.map ρ).getD (.i .i64 0)) (hi.map ρ) (mx.map ρ) = some r) :
    ∃ z, (Instr.sliceAt t u (lo.map a.eval) (hi.map a.eval) (mx.map a.eval)).run P w = .ok z w ∧ Rel w F φ N r z := by
  have hlo : ∀ k l, (lo.map ρ).getD (.i .i64 0) = .i k l → LoOk (lo.map a.eval) l := by
    intro k l hl
    cases lo with
    | none => simp at hl; exact .inl ⟨rfl, hl.2.symm⟩
    | some y => simp at hl; have := hρ y; rw [hl] at this; exact .inr ⟨k, by simp [rel_i this]⟩
  have hop : ∀ (y : Option Operand) k l, y.map ρ = some (.i k l) → y.map a.eval = some (.int k l) := by
    intro y k l hl
    cases y with
    | none => simp at hl
    | some y => simp at hl; have := hρ y; rw [hl] at this; simp [rel_i this]
  have hno : ∀ (y : Option Operand), y.map ρ = none → y.map a.eval = none := by intro y h; cases y <;> simp at h ⊢
  generalize (lo.map ρ).getD (.i .i64 0) = lv at h hlo
  unfold asl at h
  split at h
  · -- a string
    rename_i s kl l
    cases rel_s hx
    have hl := hlo _ _ rfl
    split at h
    · rename_i hT
      have hu := und_str hT rfl
      split at h
      · rename_i kh hh h1 h2
        split at h
        · rename_i hc
          cases h
          rw [hop hi _ _ h1, hno mx h2]
          exact ⟨_, slice_str hu (bounds_loh hl hc.1 hc.2.1 hc.2.2), .s _⟩
        · cases h
      · rename_i h1 h2
        split at h
        · rename_i hc
          cases h
          rw [hno hi h1, hno mx h2]
          exact ⟨_, slice_str hu (bounds_lo hl hc.1 hc.2), .s _⟩
        · cases h
      · cases h
    · cases h
  · rename_i full n cs kl l
    have hl := hlo _ _ rfl
    obtain ⟨A, cap, rfl⟩ : ∃ A cap, u = .slice A n cap := by cases hx; exact ⟨_, _, rfl⟩
    have hncap : n ≤ cap ∧ (full = true → cap = n) := by cases hx; exact ⟨‹_›, ‹_›⟩
    split at h
    · rename_i e _ _ _ hT
      have hu := und_slice hT rfl
      split at h
      · rename_i x he
        split at h
        · rename_i kh hh h1 h2
          split at h
          · rename_i hc
            cases h
            rw [hop hi _ _ h1, hno mx h2]
            refine ⟨_, slice_sl hu he (bounds_loh hl hc.1 hc.2.1 (by omega)), sub_sl hx (by omega) (by omega) (by omega) (fun hf => ?_) (fun hm => ?_) ⟨_, rfl⟩⟩
            · simp at hf
              rw [hncap.2 hf.1, hf.2]
            · have : hh.toNat - l.toNat = 0 := by omega
              rw [this, Nat.zero_mul, List.take_zero]
          · cases h
        · rename_i h1 h2
          split at h
          · rename_i hc
            cases h
            rw [hno hi h1, hno mx h2]
            refine ⟨_, slice_sl hu he (bounds_lo hl hc.1 hc.2.1), sub_sl hx (by omega) (by omega) (by omega) (fun hf => hncap.2 hf) (fun hm => ?_) ⟨cs.length, by rw [List.take_of_length_le (by rw [List.length_drop]; omega)]⟩⟩
            have : l.toNat = n := by omega
            rw [List.drop_of_length_le]
            rw [this, hc.2.2]; exact Nat.le_refl _
          · cases h
        · rename_i kh hh km m h1 h2
          split at h
          · rename_i hc
            obtain ⟨c0, c1, rfl, c2⟩ := hc
            cases h
            rw [hop hi _ _ h1, hop mx _ _ h2]
            refine ⟨_, slice_sl hu he (bounds_lohm hl c0 c1 (by omega)), sub_sl hx (by omega) (by omega) (by omega) (fun hf => rfl) (fun hm => ?_) ⟨_, rfl⟩⟩
            have : hh.toNat - l.toNat = 0 := by omega
            rw [this, Nat.zero_mul, List.take_zero]
          · cases h
        · cases h
      · cases h
    · cases h
  · rename_i id sz off n kl l
    have hl := hlo _ _ rfl
    obtain ⟨A, cap, rfl⟩ : ∃ A cap, u = .slice A n cap := by cases hx; exact ⟨_, _, rfl⟩
    have hncap : n ≤ cap := by cases hx; assumption
    split at h
    · rename_i e _ _ _ hT
      have hu := und_slice hT rfl
      split at h
      · rename_i x he
        split at h
        · rename_i hsz
          subst hsz
          split at h
          · rename_i kh hh h1 h2
            split at h
            · rename_i hc
              cases h
              rw [hop hi _ _ h1, hno mx h2]
              exact ⟨_, slice_sl hu he (bounds_loh hl hc.1 hc.2.1 (by omega)), sub_ref hx (by omega) (by omega)⟩
            · cases h
          · rename_i h1 h2
            split at h
            · rename_i hc
              cases h
              rw [hno hi h1, hno mx h2]
              exact ⟨_, slice_sl hu he (bounds_lo hl hc.1 hc.2), sub_ref hx (by omega) (by omega)⟩
            · cases h
          · cases h
        · cases h
      · cases h
    · cases h
  · cases h
end
end Go.Proofs.YtggojahlhpijeaaA
