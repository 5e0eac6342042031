/- Data at the type Case of package api, and at int. -/
import Derived.Test.YtffnbobdkpebgaaGreatTpGlue2
set_option linter.unusedVariables false
namespace Go.Proofs.YtffnbobdkpebgaaGreat
open Go Go.Ab
theorem w_vlist {ds : List D} (h : WTy tab 35 ds) : ∃ x : List MValue, ds = cSlc 3 cValue x := by
 obtain ⟨l, h1, _⟩ := w_values h
 exact ⟨l, h1⟩
theorem w_vals {ds : List D} (h : WTy tab 36 ds) : ∃ l : List (List MValue), ds = [.slice 1 (l.map (cSlc 3 cValue))] := by
 obtain ⟨es, h1, h2, h3⟩ := h.slice_inv rfl rfl rfl
 obtain ⟨l, hl, hp⟩ := list_of_p (f := cSlc 3 cValue) (p := fun a => True) (fun e he => by obtain ⟨x, hx⟩ := w_vlist (h2 e he); exact ⟨x, hx, trivial⟩)
 subst hl
 exact ⟨l, h1⟩
theorem w_Case {ds : List D} (h : WTy tab 38 ds) : ∃ x : MCase, ds = cCase x := by
 obtain ⟨h1, h2⟩ := h.struct_inv rfl rfl
 match ds, h1 with
 | [d0, d1, d2], _ =>
  obtain ⟨n0, k0⟩ := w_int (h2 0 3 (by decide) _ rfl)
  obtain ⟨n1, k1, _⟩ := w_values (h2 1 35 (by decide) _ rfl)
  obtain ⟨n2, k2⟩ := w_vals (h2 2 36 (by decide) _ rfl)
  have e0 := (List.cons.inj k0).1
  have e1 := (List.cons.inj k1).1
  have e2 := (List.cons.inj k2).1
  subst e0 e1 e2
  exact ⟨⟨n0, n1, n2⟩, rfl⟩
theorem wdv_Case {x : DV} (h : WDV tab 38 x) : ∃ l : MCase, x = .agg (cCase l) := by
 obtain ⟨i, ds, hi, hw, hl, h | h⟩ := h
 ·obtain ⟨n, rfl⟩ := w_Case hw; exact ⟨n, h.2⟩
 ·cases hi; cases h.1
theorem wdv_int {x : DV} (h : WDV tab 3 x) : ∃ n : Int, x = .c (iD n) := by
 obtain ⟨i, ds, hi, hw, hl, h | h⟩ := h
 ·cases hi; cases h.1
 ·obtain ⟨n, rfl⟩ := w_int hw
  obtain ⟨_, y, e, rfl⟩ := h
  cases e
  exact ⟨n, rfl⟩
end Go.Proofs.YtffnbobdkpebgaaGreat
