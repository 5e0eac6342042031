/- Data at the types Value, Change, Impact and Case of package api. -/
import Derived.Test.YtffnbobdkpebgaaGreatTpGlue
import Derived.Test.YtffnbobdkpebgaaGreatVzM1
set_option linter.unusedVariables false
namespace Go.Proofs.YtffnbobdkpebgaaGreat
open Go Go.Ab
theorem w_errno {ds : List D} (h : WTy tab 24 ds) : ∃ n : Int, ds = [iD n] := by
 obtain ⟨n, hn, _⟩ := h.int_inv (k := .i64) rfl rfl rfl
 exact ⟨n, hn⟩
theorem w_Value {ds : List D} (h : WTy tab 23 ds) : ∃ x : MValue, ds = cValue x := by
 obtain ⟨h1, h2⟩ := h.struct_inv rfl rfl
 match ds, h1 with
 | [d0, d1, d2], _ =>
  obtain ⟨n0, k0⟩ := w_int (h2 0 3 (by decide) _ rfl)
  obtain ⟨n1, k1⟩ := w_int (h2 1 3 (by decide) _ rfl)
  obtain ⟨n2, k2⟩ := w_int (h2 2 3 (by decide) _ rfl)
  have z0_0 := List.cons.inj k0
  have y0_0 := z0_0.1
  have z1_0 := List.cons.inj k1
  have y1_0 := z1_0.1
  have z2_0 := List.cons.inj k2
  have y2_0 := z2_0.1
  subst y0_0
  subst y1_0
  subst y2_0
  exact ⟨⟨n0, n1, n2⟩, rfl⟩
theorem w_values {ds : List D} (h : WTy tab 35 ds) : ∃ l : List MValue, ds = [.slice 3 (l.map cValue)] ∧ l.length ≤ 140737488355328 ∧ ∀ a ∈ l, True := by
 obtain ⟨es, h1, h2, h3⟩ := h.slice_inv rfl rfl rfl
 obtain ⟨l, hl, hp⟩ := list_of_p (f := cValue) (p := fun a => True) (fun e he => by obtain ⟨x, hx⟩ := w_Value (h2 e he); exact ⟨x, hx, trivial⟩)
 subst hl
 have hR : reachBytes = 140737488351232 := rfl
 exact ⟨l, h1, by simp at h3; omega, hp⟩
end Go.Proofs.YtffnbobdkpebgaaGreat
