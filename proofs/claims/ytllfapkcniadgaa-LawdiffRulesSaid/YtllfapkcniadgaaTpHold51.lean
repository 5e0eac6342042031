/- For every two laws LawdiffRules returns true, and its arguments read as they did; so does LawdiffInterface. There is no condition. -/
import Derived.Test.YtllfapkcniadgaaTpRow51
import Derived.Test.YtllfapkcniadgaaRows
set_option linter.unusedVariables false
namespace Go.Proofs.Ytllfapkcniadgaa
open Go

theorem L51.own : ownKnob Try.prog.godebug = none := by kernel_rfl
theorem L51.laidOut : laidOutB Try.prog = true := by kernel_rfl
open Go.Ab

theorem wdvs_2 {t u : Nat} {xs : List DV} (h : WDVs tab [t, u] xs) : ∃ a b, xs = [a, b] ∧ WDV tab t a ∧ WDV tab u b := by
  match xs, h with
  | [a, b], h => exact ⟨a, b, rfl, h.1, h.2.1⟩

def lawTypes : List Nat := [3, 9, 43, 39, 40, 41, 70, 75, 52, 68, 73, 113, 72, 49, 98, 50, 57, 54, 55, 79]

set_option maxRecDepth 100000 in
theorem rules_lifted (os : Os) (started : os.Started) (H : Type) (enc : TypeId × Value → H) :
    ReturnsInHanded {} Try.checked os 7 .any (Rows.lawdiffRulesSpec.pre6 enc Try.prog Try.f7 Rows.lawdiffRulesRow.domain false) (Rows.lawdiffRulesSpec.post enc Try.prog Try.f7 false true false false) :=
  lifted (C := Try.checked) (tab := tab) (tb := 4) lawTypes L51.own started (by kernel_rfl) Try.func7
    (ChangeSpec.witness6 (enc := enc) (C := Try.checked) false ⟨#[], #[.agg #[.slice none 0 0, .slice none 0 0, .slice none 0 0], .agg #[.slice none 0 0, .slice none 0 0, .slice none 0 0]], []⟩ 8 (by kernel_rfl) (by kernel_rfl) (by kernel_rfl) (by kernel_rfl))
    L51.laidOut htab (by kernel_rfl) (by kernel_rfl) (by kernel_rfl) Try.underlying4 rfl
    (fun ds hd => by
      rw [Try.params7] at hd
      match ds, hd with
      | [a, b], _ => exact ⟨rfl, rfl, rfl⟩)
    (fun xs hx => by
      rw [Try.params7] at hx
      obtain ⟨a, b, rfl, ha, hb⟩ := wdvs_2 hx
      obtain ⟨m, rfl, sm⟩ := wdv_Law ha
      obtain ⟨n, rfl, sn⟩ := wdv_Law hb
      exact c_LawdiffRules m n sm sn)

theorem lawdiffRules_holds : Rows.LawdiffRulesSaid :=
  OpenClaim.holds_of_wide 7 Try.f7 rfl rfl rfl rfl rfl rfl rfl ⟨rfl, rfl, rfl, rfl, rfl⟩ rfl rfl rfl rfl rfl (by kernel_rfl) Try.func7 (by kernel_rfl)
    (of_decide_eq_true (by kernel_rfl)) (by unfold Func.isWrapper; first | (rw [if_pos (by decide +kernel)]; kernel_rfl) | (rw [if_neg (by decide +kernel)]; exact ⟨rfl, rfl⟩))
    (fun os started H enc _ => rules_lifted os started H enc)

set_option maxRecDepth 100000 in
theorem interface_lifted (os : Os) (started : os.Started) (H : Type) (enc : TypeId × Value → H) :
    ReturnsInHanded {} Try.checked os 8 .any (Rows.lawdiffInterfaceSpec.pre6 enc Try.prog Try.f8 Rows.lawdiffInterfaceRow.domain false) (Rows.lawdiffInterfaceSpec.post enc Try.prog Try.f8 false true false false) :=
  lifted (C := Try.checked) (tab := tab) (tb := 4) lawTypes L51.own started (by kernel_rfl) Try.func8
    (ChangeSpec.witness6 (enc := enc) (C := Try.checked) false ⟨#[], #[.agg #[.slice none 0 0, .slice none 0 0, .slice none 0 0], .agg #[.slice none 0 0, .slice none 0 0, .slice none 0 0]], []⟩ 8 (by kernel_rfl) (by kernel_rfl) (by kernel_rfl) (by kernel_rfl))
    L51.laidOut htab (by kernel_rfl) (by kernel_rfl) (by kernel_rfl) Try.underlying4 rfl
    (fun ds hd => by
      rw [Try.params8] at hd
      match ds, hd with
      | [a, b], _ => exact ⟨rfl, rfl, rfl⟩)
    (fun xs hx => by
      rw [Try.params8] at hx
      obtain ⟨a, b, rfl, ha, hb⟩ := wdvs_2 hx
      obtain ⟨m, rfl, sm⟩ := wdv_Law ha
      obtain ⟨n, rfl, sn⟩ := wdv_Law hb
      exact c_LawdiffInterface m n sm sn)

theorem lawdiffInterface_holds : Rows.LawdiffInterfaceSaid :=
  OpenClaim.holds_of_wide 8 Try.f8 rfl rfl rfl rfl rfl rfl rfl ⟨rfl, rfl, rfl, rfl, rfl⟩ rfl rfl rfl rfl rfl (by kernel_rfl) Try.func8 (by kernel_rfl)
    (of_decide_eq_true (by kernel_rfl)) (by unfold Func.isWrapper; first | (rw [if_pos (by decide +kernel)]; kernel_rfl) | (rw [if_neg (by decide +kernel)]; exact ⟨rfl, rfl⟩))
    (fun os started H enc _ => interface_lifted os started H enc)
end Go.Proofs.Ytllfapkcniadgaa
