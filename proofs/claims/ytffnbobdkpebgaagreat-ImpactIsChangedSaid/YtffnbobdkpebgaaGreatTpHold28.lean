/- ImpactIsChanged returns true for every impact, and its argument reads as it did. There is no condition. -/
import Derived.Test.YtffnbobdkpebgaaGreatVzC6
import Derived.Test.YtffnbobdkpebgaaGreatTpGlue2
import Derived.Test.YtffnbobdkpebgaaGreatAbIn
import Derived.Test.YtffnbobdkpebgaaGreatRows
import Derived.Shelf.Vars
set_option linter.unusedVariables false
namespace Go.Proofs.YtffnbobdkpebgaaGreat
open Go

theorem HA.own : ownKnob Tryz.prog.godebug = none := by kernel_rfl
theorem HA.laidOut : laidOutB Tryz.prog = true := by kernel_rfl
open Go.Ab

theorem glob_of (W : World) (h : W.ShapedOpen Tryz.prog) : Glob (fun b => b < W.heap.size) W := fun _ => by
  obtain ⟨m, hm⟩ := cell_of_shapedOpen_int (g := gMax) (t := 3) (k := .i64) h (of_decide_eq_true (by kernel_rfl)) (zero := #[.int .i64 0]) (by kernel_rfl) rfl (by kernel_rfl) (by kernel_rfl) Tryz.underlying3
  refine ⟨?_, m, hm⟩
  rcases Nat.lt_or_ge gMax W.heap.size with h | h
  · exact h
  · exfalso
    have e : W.heap[gMax]? = none := by simp [h]
    simp [World.cell?, e] at hm
def impTypes : List Nat := [3, 9, 24, 23, 50, 25, 27]
theorem p_awake52 : m_law52_awake 1000 = some true := by decide +kernel
theorem p_IsChanged (i : MImpact) : m_law52_ImpactIsChanged 1000 i = some true := by
  obtain ⟨v, hv⟩ : ∃ v, m_impact_IsChanged 1000 i = some v := by
    unfold m_impact_IsChanged
    cases (!((i.oldCode == 0) == (i.newCode == 0))) <;> exact ⟨_, rfl⟩
  have hr : m_ref52_IsChanged 1000 i = some v := hv
  unfold m_law52_ImpactIsChanged
  rw [hv, bd_of, hr, bd_of, beq_self_eq_true, cond_true, p_awake52, bd_of]

set_option maxRecDepth 100000 in
theorem isChanged_lifted (os : Os) (started : os.Started) (H : Type) (enc : TypeId × Value → H) :
    ReturnsInHanded {} Tryz.checked os 3 .any (Rows.impactIsChangedSpec.pre6 enc Tryz.prog Tryz.f3 Rows.impactIsChangedRow.domain false) (Rows.impactIsChangedSpec.post enc Tryz.prog Tryz.f3 false true false false) :=
  lifted (C := Tryz.checked) (tab := tab) (tb := 4) impTypes HA.own started (by kernel_rfl) Tryz.func3
    (ChangeSpec.witness6 (enc := enc) (C := Tryz.checked) false ⟨#[], #[.agg #[.int .i64 0, .int .i64 0, .int .i64 0, .int .i64 0, .int .i64 0, .int .i64 0, .int .i64 0, .int .i64 0, .slice none 0 0]], []⟩ 8 (by kernel_rfl) (by kernel_rfl) (by kernel_rfl) (by kernel_rfl))
    HA.laidOut htab (by kernel_rfl) (by kernel_rfl) (by kernel_rfl) Tryz.underlying4 rfl
    (fun ds hd => by
      rw [Tryz.params3] at hd
      match ds, hd with
      | [a], _ => exact ⟨rfl, rfl, rfl⟩)
    glob_of
    (fun xs hx => by
      rw [Tryz.params3] at hx
      match xs, hx with
      | [a], hx =>
        obtain ⟨m, rfl⟩ := wdv_Impact hx.1
        exact (gg_36.1) 1000 m true (p_IsChanged m))

theorem impactIsChanged_holds : Rows.ImpactIsChangedSaid :=
  OpenClaim.holds_of_wide 3 Tryz.f3 rfl rfl rfl rfl rfl rfl rfl ⟨rfl, rfl, rfl, rfl, rfl⟩ rfl rfl rfl rfl rfl (by kernel_rfl) Tryz.func3 (by kernel_rfl)
    (of_decide_eq_true (by kernel_rfl)) (by unfold Func.isWrapper; first | (rw [if_pos (by decide +kernel)]; kernel_rfl) | (rw [if_neg (by decide +kernel)]; exact ⟨rfl, rfl⟩))
    (fun os started H enc _ => isChanged_lifted os started H enc)
end Go.Proofs.YtffnbobdkpebgaaGreat
