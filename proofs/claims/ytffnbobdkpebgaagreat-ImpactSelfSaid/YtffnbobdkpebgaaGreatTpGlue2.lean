/- Data at the types Value, Change, Impact and Case of package api. -/
import Derived.Test.YtffnbobdkpebgaaGreatTpGlue
import Derived.Test.YtffnbobdkpebgaaGreatVzM1
set_option linter.unusedVariables false
namespace Go.Proofs.YtffnbobdkpebgaaGreat
open Go Go.Ab

theorem w_errno {ds : List D} (h : WTy tab 24 ds) : ∃ n : Int, ds = [iD n] := by
  obtain ⟨n, hn, _⟩ := h.int_inv (k := .i64) rfl rfl rfl
  exact ⟨n, hn⟩

theorem w_Value {ds : List D} (h : WTy tab 23 ds) : ∃ x : MValue, ds = cValue x := by
  obtain ⟨h1, h2⟩ := h.struct_inv rfl rfl
  match ds, h1 with
  | [d0, d1, d2], _ =>
    obtain ⟨n0, k0⟩ := w_int (h2 0 3 (by decide) _ rfl)
    obtain ⟨n1, k1⟩ := w_int (h2 1 3 (by decide) _ rfl)
    obtain ⟨n2, k2⟩ := w_int (h2 2 3 (by decide) _ rfl)
    have z0_0 := List.cons.inj k0
    have y0_0 := z0_0.1
    have z1_0 := List.cons.inj k1
    have y1_0 := z1_0.1
    have z2_0 := List.cons.inj k2
    have y2_0 := z2_0.1
    subst y0_0
    subst y1_0
    subst y2_0
    exact ⟨⟨n0, n1, n2⟩, rfl⟩

theorem w_values {ds : List D} (h : WTy tab 35 ds) : ∃ l : List MValue, ds = [.slice 3 (l.map cValue)] ∧ l.length ≤ 140737488355328 ∧ ∀ a ∈ l, True := by
  obtain ⟨es, h1, h2, h3⟩ := h.slice_inv rfl rfl rfl
  obtain ⟨l, hl, hp⟩ := list_of_p (f := cValue) (p := fun a => True) (fun e he => by obtain ⟨x, hx⟩ := w_Value (h2 e he); exact ⟨x, hx, trivial⟩)
  subst hl
  have hR : reachBytes = 140737488351232 := rfl
  exact ⟨l, h1, by simp at h3; omega, hp⟩

theorem w_Change {ds : List D} (h : WTy tab 50 ds) : ∃ x : MChange, ds = cChange x := by
  obtain ⟨h1, h2⟩ := h.struct_inv rfl rfl
  match ds, h1 with
  | [d0, d1, d2], _ =>
    obtain ⟨n0, k0⟩ := w_str (h2 0 9 (by decide) _ rfl)
    obtain ⟨n1, k1⟩ := w_str (h2 1 9 (by decide) _ rfl)
    obtain ⟨n2, k2⟩ := w_int (h2 2 3 (by decide) _ rfl)
    have z0_0 := List.cons.inj k0
    have y0_0 := z0_0.1
    have z1_0 := List.cons.inj k1
    have y1_0 := z1_0.1
    have z2_0 := List.cons.inj k2
    have y2_0 := z2_0.1
    subst y0_0
    subst y1_0
    subst y2_0
    exact ⟨⟨n0, n1, n2⟩, rfl⟩

theorem w_changes {ds : List D} (h : WTy tab 25 ds) : ∃ l : List MChange, ds = [.slice 3 (l.map cChange)] ∧ l.length ≤ 140737488355328 ∧ ∀ a ∈ l, True := by
  obtain ⟨es, h1, h2, h3⟩ := h.slice_inv rfl rfl rfl
  obtain ⟨l, hl, hp⟩ := list_of_p (f := cChange) (p := fun a => True) (fun e he => by obtain ⟨x, hx⟩ := w_Change (h2 e he); exact ⟨x, hx, trivial⟩)
  subst hl
  have hR : reachBytes = 140737488351232 := rfl
  exact ⟨l, h1, by simp at h3; omega, hp⟩

theorem w_Impact {ds : List D} (h : WTy tab 27 ds) : ∃ x : MImpact, ds = cImpact x := by
  obtain ⟨h1, h2⟩ := h.struct_inv rfl rfl
  match ds, h1 with
  | [d0, d1, d2, d3, d4, d5, d6, d7, d8], _ =>
    obtain ⟨n0, k0⟩ := w_Value (h2 0 23 (by decide) _ rfl)
    obtain ⟨n1, k1⟩ := w_Value (h2 3 23 (by decide) _ rfl)
    obtain ⟨n2, k2⟩ := w_errno (h2 6 24 (by decide) _ rfl)
    obtain ⟨n3, k3⟩ := w_errno (h2 7 24 (by decide) _ rfl)
    obtain ⟨n4, k4, l4, p4⟩ := w_changes (h2 8 25 (by decide) _ rfl)
    have z0_0 := List.cons.inj k0
    have z0_1 := List.cons.inj z0_0.2
    have z0_2 := List.cons.inj z0_1.2
    have y0_0 := z0_0.1
    have y0_1 := z0_1.1
    have y0_2 := z0_2.1
    have z1_0 := List.cons.inj k1
    have z1_1 := List.cons.inj z1_0.2
    have z1_2 := List.cons.inj z1_1.2
    have y1_0 := z1_0.1
    have y1_1 := z1_1.1
    have y1_2 := z1_2.1
    have z2_0 := List.cons.inj k2
    have y2_0 := z2_0.1
    have z3_0 := List.cons.inj k3
    have y3_0 := z3_0.1
    have z4_0 := List.cons.inj k4
    have y4_0 := z4_0.1
    subst y0_0
    subst y0_1
    subst y0_2
    subst y1_0
    subst y1_1
    subst y1_2
    subst y2_0
    subst y3_0
    subst y4_0
    exact ⟨⟨n0, n1, n2, n3, n4⟩, rfl⟩

theorem wdv_Impact {x : DV} (h : WDV tab 27 x) : ∃ l : MImpact, x = .agg (cImpact l) := by
  obtain ⟨i, ds, hi, hw, hl, h | h⟩ := h
  · obtain ⟨n, rfl⟩ := w_Impact hw; exact ⟨n, h.2⟩
  · cases hi; cases h.1

end Go.Proofs.YtffnbobdkpebgaaGreat
