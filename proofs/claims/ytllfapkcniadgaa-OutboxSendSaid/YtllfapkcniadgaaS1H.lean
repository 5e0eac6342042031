/- For every input OutboxDeliver returns true, and its arguments read as they did. There is no condition. -/
import Derived.Test.YtllfapkcniadgaaS1G
import Derived.Test.YtllfapkcniadgaaAbRow
import Derived.Test.YtllfapkcniadgaaRows
set_option linter.unusedVariables false
namespace Go.Proofs.Ytllfapkcniadgaa
open Go

theorem Try.own : ownKnob Try.prog.godebug = none := by kernel_rfl
theorem Try.laidOut : laidOutB Try.prog = true := by kernel_rfl
open Go.Ab

/-! ### Data of the types, as lists of numbers and notices -/
theorem wty_int {ds : List D} (h : WTy tab 3 ds) : ∃ n : Int, ds = [.int .i64 n] := by
  obtain ⟨n, hn, _⟩ := h.int_inv (k := .i64) rfl rfl rfl
  exact ⟨n, hn⟩
theorem wty_ints {ds : List D} (h : WTy tab 22 ds) : ∃ xs : List Int, ds = [.slice 1 (ints xs)] ∧ xs.length ≤ reachBytes := by
  obtain ⟨es, h1, h2, h3⟩ := h.slice_inv rfl rfl rfl
  obtain ⟨l, hl⟩ := list_of (f := fun n : Int => [D.int .i64 n]) fun e he => wty_int (h2 e he)
  subst hl
  exact ⟨l, h1, by simp at h3; omega⟩
theorem wty_box {ds : List D} (h : WTy tab 24 ds) : ∃ xs : List Int, ds = [.slice 1 (ints xs)] ∧ xs.length ≤ reachBytes := by
  obtain ⟨h1, h2⟩ := h.struct_inv rfl rfl
  match ds, h1 with
  | [x], _ => exact wty_ints (h2 0 22 (by decide) _ rfl)
theorem wty_nt {ds : List D} (h : WTy tab 26 ds) : ∃ n : Nt, ds = nRow n := by
  obtain ⟨h1, h2⟩ := h.struct_inv rfl rfl
  match ds, h1 with
  | [a, b, c, d, e], _ =>
    obtain ⟨n1, k1⟩ := wty_int (h2 0 3 (by decide) _ rfl)
    obtain ⟨n2, k2⟩ := wty_int (h2 1 3 (by decide) _ rfl)
    obtain ⟨n3, k3⟩ := wty_int (h2 2 3 (by decide) _ rfl)
    obtain ⟨n4, k4⟩ := wty_int (h2 3 3 (by decide) _ rfl)
    obtain ⟨n5, k5⟩ := wty_int (h2 4 3 (by decide) _ rfl)
    simp at k1 k2 k3 k4 k5
    subst k1; subst k2; subst k3; subst k4; subst k5
    exact ⟨⟨n1, n2, n3, n4, n5⟩, rfl⟩
theorem wty_nts {ds : List D} (h : WTy tab 33 ds) : ∃ xs : List Nt, ds = [.slice 5 (nts xs)] ∧ xs.length ≤ reachBytes := by
  obtain ⟨es, h1, h2, h3⟩ := h.slice_inv rfl rfl rfl
  obtain ⟨l, hl⟩ := list_of (f := nRow) fun e he => wty_nt (h2 e he)
  subst hl
  exact ⟨l, h1, by simp at h3; omega⟩

theorem wdv_box {x : DV} (h : WDV tab 24 x) : ∃ xs : List Int, x = mA xs := by
  obtain ⟨i, ds, hi, hw, hl, h | h⟩ := h
  · obtain ⟨xs, rfl, _⟩ := wty_box hw; exact ⟨xs, h.2⟩
  · cases hi; cases h.1
theorem wdv_nt {x : DV} (h : WDV tab 26 x) : ∃ n : Nt, x = nA n := by
  obtain ⟨i, ds, hi, hw, hl, h | h⟩ := h
  · obtain ⟨n, rfl⟩ := wty_nt hw; exact ⟨n, h.2⟩
  · cases hi; cases h.1
theorem wdv_nts {x : DV} (h : WDV tab 33 x) : ∃ xs : List Nt, x = .c (.slice 5 (nts xs)) := by
  obtain ⟨i, ds, hi, hw, hl, h | h⟩ := h
  · cases hi; cases h.1
  · obtain ⟨xs, rfl, _⟩ := wty_nts hw
    obtain ⟨_, y, hy, rfl⟩ := h
    cases hy
    exact ⟨xs, rfl⟩
theorem wdv_ints {x : DV} (h : WDV tab 22 x) : ∃ xs : List Int, x = sI xs := by
  obtain ⟨i, ds, hi, hw, hl, h | h⟩ := h
  · cases hi; cases h.1
  · obtain ⟨xs, rfl, _⟩ := wty_ints hw
    obtain ⟨_, y, hy, rfl⟩ := h
    cases hy
    exact ⟨xs, rfl⟩

theorem wdvs_two {t u : Nat} {xs : List DV} (h : WDVs tab [t, u] xs) : ∃ a b, xs = [a, b] ∧ WDV tab t a ∧ WDV tab u b := by
  match xs, h with
  | [a, b], h => exact ⟨a, b, rfl, h.1, h.2.1⟩
theorem wdvs_three {t u v : Nat} {xs : List DV} (h : WDVs tab [t, u, v] xs) : ∃ a b c, xs = [a, b, c] ∧ WDV tab t a ∧ WDV tab u b ∧ WDV tab v c := by
  match xs, h with
  | [a, b, c], h => exact ⟨a, b, c, rfl, h.1, h.2.1, h.2.2.1⟩

set_option maxRecDepth 100000 in
theorem deliver_lifted (os : Os) (started : os.Started) (H : Type) (enc : TypeId × Value → H) :
    ReturnsInHanded {} Try.checked os 3 .any (Rows.outboxDeliverSpec.pre6 enc Try.prog Try.f3 Rows.outboxDeliverRow.domain false) (Rows.outboxDeliverSpec.post enc Try.prog Try.f3 false true false false) :=
  lifted (C := Try.checked) (tab := tab) (tb := 4) [3, 22, 24, 26, 33] Try.own started (by kernel_rfl) Try.func3
    (ChangeSpec.witness6 (enc := enc) (C := Try.checked) false ⟨#[], #[.agg #[.slice none 0 0], .agg #[.int .i64 0, .int .i64 0, .int .i64 0, .int .i64 0, .int .i64 0]], []⟩ 8 (by kernel_rfl) (by kernel_rfl) (by kernel_rfl) (by kernel_rfl))
    Try.laidOut htab (by kernel_rfl) (by kernel_rfl) (by kernel_rfl) Try.underlying4 rfl
    (fun ds hd => by
      rw [Try.params3] at hd
      match ds, hd with
      | [a, b], _ => exact ⟨rfl, rfl, rfl⟩)
    (fun xs hx => by
      rw [Try.params3] at hx
      obtain ⟨a, b, rfl, ha, hb⟩ := wdvs_two hx
      obtain ⟨m, rfl⟩ := wdv_box ha
      obtain ⟨n, rfl⟩ := wdv_nt hb
      exact fn3 m n)

theorem outboxDeliver_holds : Rows.OutboxDeliverSaid :=
  OpenClaim.holds_of_wide 3 Try.f3 rfl rfl rfl rfl rfl rfl rfl ⟨rfl, rfl, rfl, rfl, rfl⟩ rfl rfl rfl rfl rfl (by kernel_rfl) Try.func3 (by kernel_rfl)
    (of_decide_eq_true (by kernel_rfl)) (by unfold Func.isWrapper; first | (rw [if_pos (by decide +kernel)]; kernel_rfl) | (rw [if_neg (by decide +kernel)]; exact ⟨rfl, rfl⟩))
    (fun os started H enc _ => deliver_lifted os started H enc)
end Go.Proofs.Ytllfapkcniadgaa

