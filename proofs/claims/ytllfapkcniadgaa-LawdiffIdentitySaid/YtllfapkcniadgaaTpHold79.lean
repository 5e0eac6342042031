/- For every two laws LawdiffIdentity, LawdiffSymmetry and LawdiffOneRule return true, and their arguments read as they did. There is no condition. -/
import Derived.Test.YtllfapkcniadgaaVbC2
import Derived.Test.YtllfapkcniadgaaPlDiff
import Derived.Test.YtllfapkcniadgaaAbIn
import Derived.Test.YtllfapkcniadgaaTpGlue
import Derived.Test.YtllfapkcniadgaaRows
set_option linter.unusedVariables false
namespace Go.Proofs.Ytllfapkcniadgaa
open Go

theorem H79.own : ownKnob Try.prog.godebug = none := by kernel_rfl
theorem H79.laidOut : laidOutB Try.prog = true := by kernel_rfl
open Go.Ab

theorem h79_2 {t u : Nat} {xs : List DV} (h : WDVs tab [t, u] xs) : ∃ a b, xs = [a, b] ∧ WDV tab t a ∧ WDV tab u b := by
  match xs, h with
  | [a, b], h => exact ⟨a, b, rfl, h.1, h.2.1⟩
theorem h79_4 {t u v x : Nat} {xs : List DV} (h : WDVs tab [t, u, v, x] xs) : ∃ a b c d, xs = [a, b, c, d] ∧ WDV tab t a ∧ WDV tab u b ∧ WDV tab v c ∧ WDV tab x d := by
  match xs, h with
  | [a, b, c, d], h => exact ⟨a, b, c, d, rfl, h.1, h.2.1, h.2.2.1, h.2.2.2.1⟩

/-- What lies in memory at a law: its nodes hold numbers of 64 bits. -/
theorem nodesIn_of {l : MLaw} (h : ∀ d ∈ cLaw l, In64 d) : NodesIn l := by
  intro s hs r hr
  have h1 : In64 (scopes l.scopes) := h _ (by simp [cLaw])
  have h2 : In64 (mrules s.rules) := h1.elem hs _ (by simp [cScope])
  have h3 := h2.elem hr
  have g : In64 (nodes r.guard) := h3 _ (by simp [cRule])
  have v : In64 (nodes r.value) := h3 _ (by simp [cRule])
  exact ⟨fun n hn => wf_i64 (g.elem hn (iD n.n) (by simp [cNode])).int_inv, fun n hn => wf_i64 (v.elem hn (iD n.n) (by simp [cNode])).int_inv⟩
def lawTypes79 : List Nat := [3, 5, 9, 43, 39, 40, 41, 70, 75, 52, 68, 73, 113, 72, 49, 98, 50, 57, 54, 55, 79]
theorem cov : covB tab lawTypes79 = true := by kernel_rfl
theorem wdv_LawIn {x : DV} (h : WDV tab 43 x) : ∃ l : MLaw, x = .agg (cLaw l) ∧ SizedLaw l ∧ NodesIn l := by
  obtain ⟨i, ds, hi, hw, hl, h | h⟩ := h
  · obtain ⟨n, rfl, p⟩ := w_Law hw
    exact ⟨n, h.2, p, nodesIn_of (hw.in64 cov (by kernel_rfl))⟩
  · cases hi; cases h.1
theorem wdv_u8 {x : DV} (h : WDV tab 5 x) : ∃ n : Int, x = .c (.int .u8 n) ∧ 0 ≤ n ∧ n ≤ 255 := by
  obtain ⟨i, ds, hi, hw, hl, h | h⟩ := h
  · cases hi; cases h.1
  · obtain ⟨n, rfl, hn⟩ := hw.int_inv (k := .u8) rfl rfl rfl
    obtain ⟨_, y, e, rfl⟩ := h
    cases e
    exact ⟨n, rfl, wf_u8 hn⟩
theorem wdv_str79 {x : DV} (h : WDV tab 9 x) : ∃ n : BA, x = .c (.str n) := by
  obtain ⟨i, ds, hi, hw, hl, h | h⟩ := h
  · cases hi; cases h.1
  · obtain ⟨n, rfl, hn⟩ := hw.str_inv rfl rfl
    obtain ⟨_, y, e, rfl⟩ := h
    cases e
    exact ⟨n, rfl⟩


set_option maxRecDepth 100000 in
theorem identity_lifted (os : Os) (started : os.Started) (H : Type) (enc : TypeId × Value → H) :
    ReturnsInHanded {} Try.checked os 9 .any (Rows.lawdiffIdentitySpec.pre6 enc Try.prog Try.f9 Rows.lawdiffIdentityRow.domain false) (Rows.lawdiffIdentitySpec.post enc Try.prog Try.f9 false true false false) :=
  lifted (C := Try.checked) (tab := tab) (tb := 4) lawTypes79 H79.own started (by kernel_rfl) Try.func9
    (ChangeSpec.witness6 (enc := enc) (C := Try.checked) false ⟨#[], #[.agg #[.slice none 0 0, .slice none 0 0, .slice none 0 0], .agg #[.slice none 0 0, .slice none 0 0, .slice none 0 0]], []⟩ 8 (by kernel_rfl) (by kernel_rfl) (by kernel_rfl) (by kernel_rfl))
    H79.laidOut htab (by kernel_rfl) (by kernel_rfl) (by kernel_rfl) Try.underlying4 rfl
    (fun ds hd => by
      rw [Try.params9] at hd
      match ds, hd with
      | [a, b], _ => exact ⟨rfl, rfl, rfl⟩)
    (fun xs hx => by
      rw [Try.params9] at hx
      obtain ⟨a, b, rfl, ha, hb⟩ := h79_2 hx
      obtain ⟨m, rfl, sm, im⟩ := wdv_LawIn ha
      obtain ⟨n, rfl, sn, iN⟩ := wdv_LawIn hb
      exact gc_law51_LawdiffIdentity 1000 m n true (l_Identity sm sn im iN))

theorem lawdiffIdentity_holds : Rows.LawdiffIdentitySaid :=
  OpenClaim.holds_of_wide 9 Try.f9 rfl rfl rfl rfl rfl rfl rfl ⟨rfl, rfl, rfl, rfl, rfl⟩ rfl rfl rfl rfl rfl (by kernel_rfl) Try.func9 (by kernel_rfl)
    (of_decide_eq_true (by kernel_rfl)) (by unfold Func.isWrapper; first | (rw [if_pos (by decide +kernel)]; kernel_rfl) | (rw [if_neg (by decide +kernel)]; exact ⟨rfl, rfl⟩))
    (fun os started H enc _ => identity_lifted os started H enc)

set_option maxRecDepth 100000 in
theorem symmetry_lifted (os : Os) (started : os.Started) (H : Type) (enc : TypeId × Value → H) :
    ReturnsInHanded {} Try.checked os 10 .any (Rows.lawdiffSymmetrySpec.pre6 enc Try.prog Try.f10 Rows.lawdiffSymmetryRow.domain false) (Rows.lawdiffSymmetrySpec.post enc Try.prog Try.f10 false true false false) :=
  lifted (C := Try.checked) (tab := tab) (tb := 4) lawTypes79 H79.own started (by kernel_rfl) Try.func10
    (ChangeSpec.witness6 (enc := enc) (C := Try.checked) false ⟨#[], #[.agg #[.slice none 0 0, .slice none 0 0, .slice none 0 0], .agg #[.slice none 0 0, .slice none 0 0, .slice none 0 0]], []⟩ 8 (by kernel_rfl) (by kernel_rfl) (by kernel_rfl) (by kernel_rfl))
    H79.laidOut htab (by kernel_rfl) (by kernel_rfl) (by kernel_rfl) Try.underlying4 rfl
    (fun ds hd => by
      rw [Try.params10] at hd
      match ds, hd with
      | [a, b], _ => exact ⟨rfl, rfl, rfl⟩)
    (fun xs hx => by
      rw [Try.params10] at hx
      obtain ⟨a, b, rfl, ha, hb⟩ := h79_2 hx
      obtain ⟨m, rfl, sm, im⟩ := wdv_LawIn ha
      obtain ⟨n, rfl, sn, iN⟩ := wdv_LawIn hb
      exact gc_law51_LawdiffSymmetry 1000 m n true (l_Symmetry sm sn im iN))

theorem lawdiffSymmetry_holds : Rows.LawdiffSymmetrySaid :=
  OpenClaim.holds_of_wide 10 Try.f10 rfl rfl rfl rfl rfl rfl rfl ⟨rfl, rfl, rfl, rfl, rfl⟩ rfl rfl rfl rfl rfl (by kernel_rfl) Try.func10 (by kernel_rfl)
    (of_decide_eq_true (by kernel_rfl)) (by unfold Func.isWrapper; first | (rw [if_pos (by decide +kernel)]; kernel_rfl) | (rw [if_neg (by decide +kernel)]; exact ⟨rfl, rfl⟩))
    (fun os started H enc _ => symmetry_lifted os started H enc)

set_option maxRecDepth 100000 in
theorem oneRule_lifted (os : Os) (started : os.Started) (H : Type) (enc : TypeId × Value → H) :
    ReturnsInHanded {} Try.checked os 11 .any (Rows.lawdiffOneRuleSpec.pre6 enc Try.prog Try.f11 Rows.lawdiffOneRuleRow.domain false) (Rows.lawdiffOneRuleSpec.post enc Try.prog Try.f11 false true false false) :=
  lifted (C := Try.checked) (tab := tab) (tb := 4) lawTypes79 H79.own started (by kernel_rfl) Try.func11
    (ChangeSpec.witness6 (enc := enc) (C := Try.checked) false ⟨#[], #[.agg #[.slice none 0 0, .slice none 0 0, .slice none 0 0], .int .u8 0, .int .u8 0, .string ⟨#[]⟩], []⟩ 8 (by kernel_rfl) (by kernel_rfl) (by kernel_rfl) (by kernel_rfl))
    H79.laidOut htab (by kernel_rfl) (by kernel_rfl) (by kernel_rfl) Try.underlying4 rfl
    (fun ds hd => by
      rw [Try.params11] at hd
      match ds, hd with
      | [a, b, c, d], _ => exact ⟨rfl, rfl, rfl⟩)
    (fun xs hx => by
      rw [Try.params11] at hx
      obtain ⟨a, b, c, d, rfl, ha, hb, hc, hd⟩ := h79_4 hx
      obtain ⟨m, rfl, sm, im⟩ := wdv_LawIn ha
      obtain ⟨i, rfl, i0, i1⟩ := wdv_u8 hb
      obtain ⟨j, rfl, j0, j1⟩ := wdv_u8 hc
      obtain ⟨s, rfl⟩ := wdv_str79 hd
      exact gc_law51_LawdiffOneRule 1000 m i j s true (l_OneRule sm im i0 i1 j0 j1))

theorem lawdiffOneRule_holds : Rows.LawdiffOneRuleSaid :=
  OpenClaim.holds_of_wide 11 Try.f11 rfl rfl rfl rfl rfl rfl rfl ⟨rfl, rfl, rfl, rfl, rfl⟩ rfl rfl rfl rfl rfl (by kernel_rfl) Try.func11 (by kernel_rfl)
    (of_decide_eq_true (by kernel_rfl)) (by unfold Func.isWrapper; first | (rw [if_pos (by decide +kernel)]; kernel_rfl) | (rw [if_neg (by decide +kernel)]; exact ⟨rfl, rfl⟩))
    (fun os started H enc _ => oneRule_lifted os started H enc)
end Go.Proofs.Ytllfapkcniadgaa
