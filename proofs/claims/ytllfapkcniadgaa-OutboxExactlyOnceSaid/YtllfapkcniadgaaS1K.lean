/- For every input OutboxExactlyOnce returns true, and its arguments read as they did; so does OutboxCompletes. There is no condition. -/
import Derived.Test.YtllfapkcniadgaaS1J
import Derived.Test.YtllfapkcniadgaaS1H
set_option linter.unusedVariables false
namespace Go.Proofs.Ytllfapkcniadgaa
open Go Go.Ab

set_option maxRecDepth 100000 in
theorem once_lifted (os : Os) (started : os.Started) (H : Type) (enc : TypeId × Value → H) :
    ReturnsInHanded {} Try.checked os 5 .any (Rows.outboxExactlyOnceSpec.pre6 enc Try.prog Try.f5 Rows.outboxExactlyOnceRow.domain false) (Rows.outboxExactlyOnceSpec.post enc Try.prog Try.f5 false true false false) :=
  lifted (C := Try.checked) (tab := tab) (tb := 4) [3, 22, 24, 26, 33] Try.own started (by kernel_rfl) Try.func5
    (ChangeSpec.witness6 (enc := enc) (C := Try.checked) false ⟨#[], #[.agg #[.slice none 0 0], .slice none 0 0, .slice none 0 0], []⟩ 8 (by kernel_rfl) (by kernel_rfl) (by kernel_rfl) (by kernel_rfl))
    Try.laidOut htab (by kernel_rfl) (by kernel_rfl) (by kernel_rfl) Try.underlying4 rfl
    (fun ds hd => by
      rw [Try.params5] at hd
      match ds, hd with
      | [a, b, c], _ => exact ⟨rfl, rfl, rfl⟩)
    (fun xs hx => by
      rw [Try.params5] at hx
      obtain ⟨a, b, c, rfl, ha, hb, hc⟩ := wdvs_three hx
      obtain ⟨m, rfl⟩ := wdv_box ha
      obtain ⟨p, rfl⟩ := wdv_nts hb
      obtain ⟨q, rfl⟩ := wdv_ints hc
      exact fn5 m p q)

theorem outboxExactlyOnce_holds : Rows.OutboxExactlyOnceSaid :=
  OpenClaim.holds_of_wide 5 Try.f5 rfl rfl rfl rfl rfl rfl rfl ⟨rfl, rfl, rfl, rfl, rfl⟩ rfl rfl rfl rfl rfl (by kernel_rfl) Try.func5 (by kernel_rfl)
    (of_decide_eq_true (by kernel_rfl)) (by unfold Func.isWrapper; first | (rw [if_pos (by decide +kernel)]; kernel_rfl) | (rw [if_neg (by decide +kernel)]; exact ⟨rfl, rfl⟩))
    (fun os started H enc _ => once_lifted os started H enc)

set_option maxRecDepth 100000 in
theorem completes_lifted (os : Os) (started : os.Started) (H : Type) (enc : TypeId × Value → H) :
    ReturnsInHanded {} Try.checked os 6 .any (Rows.outboxCompletesSpec.pre6 enc Try.prog Try.f6 Rows.outboxCompletesRow.domain false) (Rows.outboxCompletesSpec.post enc Try.prog Try.f6 false true false false) :=
  lifted (C := Try.checked) (tab := tab) (tb := 4) [3, 22, 24, 26, 33] Try.own started (by kernel_rfl) Try.func6
    (ChangeSpec.witness6 (enc := enc) (C := Try.checked) false ⟨#[], #[.agg #[.slice none 0 0], .slice none 0 0, .slice none 0 0], []⟩ 8 (by kernel_rfl) (by kernel_rfl) (by kernel_rfl) (by kernel_rfl))
    Try.laidOut htab (by kernel_rfl) (by kernel_rfl) (by kernel_rfl) Try.underlying4 rfl
    (fun ds hd => by
      rw [Try.params6] at hd
      match ds, hd with
      | [a, b, c], _ => exact ⟨rfl, rfl, rfl⟩)
    (fun xs hx => by
      rw [Try.params6] at hx
      obtain ⟨a, b, c, rfl, ha, hb, hc⟩ := wdvs_three hx
      obtain ⟨m, rfl⟩ := wdv_box ha
      obtain ⟨p, rfl⟩ := wdv_nts hb
      obtain ⟨q, rfl⟩ := wdv_ints hc
      exact fn6 m p q)

theorem outboxCompletes_holds : Rows.OutboxCompletesSaid :=
  OpenClaim.holds_of_wide 6 Try.f6 rfl rfl rfl rfl rfl rfl rfl ⟨rfl, rfl, rfl, rfl, rfl⟩ rfl rfl rfl rfl rfl (by kernel_rfl) Try.func6 (by kernel_rfl)
    (of_decide_eq_true (by kernel_rfl)) (by unfold Func.isWrapper; first | (rw [if_pos (by decide +kernel)]; kernel_rfl) | (rw [if_neg (by decide +kernel)]; exact ⟨rfl, rfl⟩))
    (fun os started H enc _ => completes_lifted os started H enc)
end Go.Proofs.Ytllfapkcniadgaa
