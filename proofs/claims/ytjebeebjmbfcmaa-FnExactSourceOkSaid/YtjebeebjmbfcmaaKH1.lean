/- The contracts of Peek and ToCome, which box their source and ask its method. No condition. -/
import Derived.Test.YtjebeebjmbfcmaaK1
namespace Go.Proofs.Ytjebeebjmbfcmaa.K
open Go.RowKit Go.Proofs.YtjebeebjmbfcmaaW.PrintWords Go.Proofs.YtjebeebjmbfcmaaW.PrintLast Go.Proofs.YtjebeebjmbfcmaaW.PrintMore
set_option linter.unusedVariables false
def impl_Peek.f (k : Nat) (l : List ByteArray) (a b c : Int) : Option Int := (impl_Source_peek.f k l a b c).bind fun r => some r.1
def impl_ToCome.f (k : Nat) (l : List ByteArray) (a b c : Int) : Option Int := (impl_Source_toCome.f k l a b c).bind fun r => some r.1
theorem impl_Peek.mono : ∀ a0 a1 a2 a3 k, LeO (impl_Peek.f k a0 a1 a2 a3) (impl_Peek.f (k + 1) a0 a1 a2 a3) := by
  intro a0 a1 a2 a3 k
  unfold impl_Peek.f
  exact LeO.bind (impl_Source_peek.mono _ _ _ _ _) (fun _ => LeO.refl _)
theorem impl_ToCome.mono : ∀ a0 a1 a2 a3 k, LeO (impl_ToCome.f k a0 a1 a2 a3) (impl_ToCome.f (k + 1) a0 a1 a2 a3) := by
  intro a0 a1 a2 a3 k
  unfold impl_ToCome.f
  exact LeO.bind (impl_Source_toCome.mono _ _ _ _ _) (fun _ => LeO.refl _)
set_option maxHeartbeats 1000000 in
set_option maxRecDepth 100000 in
theorem impl_Peek.calls (k : Nat) (A0_0 : Option Addr) (c0_0 : Nat) (l0_0 : List ByteArray) (a0_1 : Int) (a0_2 : Int) (a0_3 : Int) (r : Int) (w : World) (hr0_0 : Kd.C Kd.string w A0_0 l0_0.length l0_0) (hc0_0 : l0_0.length ≤ c0_0) (h : impl_Peek.f k l0_0 a0_1 a0_2 a0_3 = some r) :
    Calls Try.prog 44 #[.agg #[.slice A0_0 l0_0.length c0_0, .int .i64 a0_1, .int .i64 a0_2, .int .i64 a0_3]] w fun e w' => e = .returned (.int .i64 r) ∧ Below w.heap.size w w' := by
  unfold impl_Peek.f at h
  obtain ⟨⟨r1, r2, r3, r4⟩, hp0, he⟩ := Option.bind_eq_some_iff.mp h
  obtain rfl := Option.some.inj he
  clear h he
  have hp := Aside0.mk hp0
  have HI := Aside0.mk (show IsS59 w (w.alloc (.cells #[.slice A0_0 l0_0.length c0_0, .int .i64 a0_1, .int .i64 a0_2, .int .i64 a0_3] 59)) w.heap.size l0_0 a0_1 a0_2 a0_3 from ⟨A0_0, c0_0, heap_alloc_new w _, Nat.le_refl _, hr0_0⟩)
  have HB := Aside0.mk ((Below.refl w.heap.size w).alloc (Nat.le_refl _) (.cells #[.slice A0_0 l0_0.length c0_0, .int .i64 a0_1, .int .i64 a0_2, .int .i64 a0_3] 59))
  clear hp0 hr0_0 hc0_0
  have hu := Try.underlying59
  go_enter Try.func44, Try.ntmps44
  go_wp2_with fail
  refine (impl_Source_peek.calls k w.heap.size l0_0 a0_1 a0_2 a0_3 r1 r2 r3 r4 w _ HI.out HB.out hp.out).mono ?_
  rintro e w' ⟨rfl, hI', hb', hk'⟩
  have HBB := Aside0.mk hb'
  clear hI' hb' hk'
  go_wp2
  go_ret
  exact ⟨rfl, HBB.out⟩
set_option maxHeartbeats 1000000 in
set_option maxRecDepth 100000 in
theorem impl_ToCome.calls (k : Nat) (A0_0 : Option Addr) (c0_0 : Nat) (l0_0 : List ByteArray) (a0_1 : Int) (a0_2 : Int) (a0_3 : Int) (r : Int) (w : World) (hr0_0 : Kd.C Kd.string w A0_0 l0_0.length l0_0) (hc0_0 : l0_0.length ≤ c0_0) (h : impl_ToCome.f k l0_0 a0_1 a0_2 a0_3 = some r) :
    Calls Try.prog 41 #[.agg #[.slice A0_0 l0_0.length c0_0, .int .i64 a0_1, .int .i64 a0_2, .int .i64 a0_3]] w fun e w' => e = .returned (.int .i64 r) ∧ Below w.heap.size w w' := by
  unfold impl_ToCome.f at h
  obtain ⟨⟨r1, r2, r3, r4⟩, hp0, he⟩ := Option.bind_eq_some_iff.mp h
  obtain rfl := Option.some.inj he
  clear h he
  have hp := Aside0.mk hp0
  have HI := Aside0.mk (show IsS59 w (w.alloc (.cells #[.slice A0_0 l0_0.length c0_0, .int .i64 a0_1, .int .i64 a0_2, .int .i64 a0_3] 59)) w.heap.size l0_0 a0_1 a0_2 a0_3 from ⟨A0_0, c0_0, heap_alloc_new w _, Nat.le_refl _, hr0_0⟩)
  have HB := Aside0.mk ((Below.refl w.heap.size w).alloc (Nat.le_refl _) (.cells #[.slice A0_0 l0_0.length c0_0, .int .i64 a0_1, .int .i64 a0_2, .int .i64 a0_3] 59))
  clear hp0 hr0_0 hc0_0
  have hu := Try.underlying59
  go_enter Try.func41, Try.ntmps41
  go_wp2_with fail
  refine (impl_Source_toCome.calls k w.heap.size l0_0 a0_1 a0_2 a0_3 r1 r2 r3 r4 w _ HI.out HB.out hp.out).mono ?_
  rintro e w' ⟨rfl, hI', hb', hk'⟩
  have HBB := Aside0.mk hb'
  clear hI' hb' hk'
  go_wp2
  go_ret
  exact ⟨rfl, HBB.out⟩
end Go.Proofs.Ytjebeebjmbfcmaa.K
