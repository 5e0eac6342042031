/- Data at the types of package api are laws, scopes, rules. -/
import Derived.Test.YtffnbobdkpebgaaGreatTpTab
import Derived.Test.YtffnbobdkpebgaaGreatAbApi
import Derived.Test.YtffnbobdkpebgaaGreatAbRow
set_option linter.unusedVariables false
namespace Go.Proofs.YtffnbobdkpebgaaGreat
open Go Go.Ab
theorem list_of_p {α : Type} {f : α → List D} {p : α → Prop} : ∀ {es : List (List D)}, (∀ e ∈ es, ∃ a, e = f a ∧ p a) → ∃ l : List α, es = l.map f ∧ ∀ a ∈ l, p a
 | [], _ => ⟨[], rfl, fun a h => by cases h⟩
 | e :: es, h => by
  obtain ⟨a, ha, hp⟩ := h e (by simp)
  obtain ⟨l, hl, hq⟩ := list_of_p (es := es) (fun e he => h e (by simp [he]))
  exact ⟨a :: l, by simp [ha, hl], fun x hx => by
   rcases List.mem_cons.1 hx with rfl | hx
   ·exact hp
   ·exact hq x hx⟩
theorem w_int {ds : List D} (h : WTy tab 3 ds) : ∃ n : Int, ds = [iD n] := by
 obtain ⟨n, hn, _⟩ := h.int_inv (k := .i64) rfl rfl rfl
 exact ⟨n, hn⟩
theorem w_str {ds : List D} (h : WTy tab 9 ds) : ∃ n : BA, ds = [.str n] := by
 obtain ⟨n, hn, _⟩ := h.str_inv rfl rfl
 exact ⟨n, hn⟩
theorem w_Node {ds : List D} (h : WTy tab 94 ds) : ∃ x : MNode, ds = cNode x := by
 obtain ⟨h1, h2⟩ := h.struct_inv rfl rfl
 match ds, h1 with
 | [d0, d1], _ =>
  obtain ⟨n0, k0⟩ := w_int (h2 0 3 (by decide) _ rfl)
  obtain ⟨n1, k1⟩ := w_int (h2 1 3 (by decide) _ rfl)
  have e0 := (List.cons.inj k0).1
  subst e0
  have e1 := (List.cons.inj k1).1
  subst e1
  exact ⟨⟨n0, n1⟩, rfl⟩
theorem w_nodes {ds : List D} (h : WTy tab 95 ds) : ∃ l : List MNode, ds = [.slice 2 (l.map cNode)] ∧ l.length ≤ 140737488355328 ∧ ∀ a ∈ l, True := by
 obtain ⟨es, h1, h2, h3⟩ := h.slice_inv rfl rfl rfl
 obtain ⟨l, hl, hp⟩ := list_of_p (f := cNode) (p := fun a => True) (fun e he => by obtain ⟨x, hx⟩ := w_Node (h2 e he); exact ⟨x, hx, trivial⟩)
 subst hl
 have hR : reachBytes = 140737488351232 := rfl
 exact ⟨l, h1, by simp at h3; omega, hp⟩
theorem w_Ty {ds : List D} (h : WTy tab 82 ds) : ∃ x : MTy, ds = cTy x := by
 obtain ⟨h1, h2⟩ := h.struct_inv rfl rfl
 match ds, h1 with
 | [d0, d1], _ =>
  obtain ⟨n0, k0⟩ := w_int (h2 0 3 (by decide) _ rfl)
  obtain ⟨n1, k1⟩ := w_int (h2 1 3 (by decide) _ rfl)
  have e0 := (List.cons.inj k0).1
  subst e0
  have e1 := (List.cons.inj k1).1
  subst e1
  exact ⟨⟨n0, n1⟩, rfl⟩
theorem w_Range {ds : List D} (h : WTy tab 136 ds) : ∃ x : (Int × Int), ds = (fun x => [iD x.1, iD x.2]) x := by
 obtain ⟨h1, h2⟩ := h.struct_inv rfl rfl
 match ds, h1 with
 | [d0, d1], _ =>
  obtain ⟨n0, k0⟩ := w_int (h2 0 3 (by decide) _ rfl)
  obtain ⟨n1, k1⟩ := w_int (h2 1 3 (by decide) _ rfl)
  have e0 := (List.cons.inj k0).1
  subst e0
  have e1 := (List.cons.inj k1).1
  subst e1
  exact ⟨(n0, n1), rfl⟩
theorem w_strs {ds : List D} (h : WTy tab 115 ds) : ∃ l : List BA, ds = [.slice 1 (l.map cStr)] ∧ l.length ≤ 140737488355328 ∧ ∀ a ∈ l, True := by
 obtain ⟨es, h1, h2, h3⟩ := h.slice_inv rfl rfl rfl
 obtain ⟨l, hl, hp⟩ := list_of_p (f := cStr) (p := fun a => True) (fun e he => by obtain ⟨x, hx⟩ := w_str (h2 e he); exact ⟨x, hx, trivial⟩)
 subst hl
 have hR : reachBytes = 140737488351232 := rfl
 exact ⟨l, h1, by simp at h3; omega, hp⟩
theorem w_Enum {ds : List D} (h : WTy tab 117 ds) : ∃ x : MEnum, ds = cEnum x := by
 obtain ⟨h1, h2⟩ := h.struct_inv rfl rfl
 match ds, h1 with
 | [d0, d1], _ =>
  obtain ⟨n0, k0⟩ := w_str (h2 0 9 (by decide) _ rfl)
  obtain ⟨n1, k1, l1, p1⟩ := w_strs (h2 1 115 (by decide) _ rfl)
  have e0 := (List.cons.inj k0).1
  subst e0
  have e1 := (List.cons.inj k1).1
  subst e1
  exact ⟨⟨n0, n1⟩, rfl⟩
theorem w_enums {ds : List D} (h : WTy tab 30 ds) : ∃ l : List MEnum, ds = [.slice 2 (l.map cEnum)] ∧ l.length ≤ 140737488355328 ∧ ∀ a ∈ l, True := by
 obtain ⟨es, h1, h2, h3⟩ := h.slice_inv rfl rfl rfl
 obtain ⟨l, hl, hp⟩ := list_of_p (f := cEnum) (p := fun a => True) (fun e he => by obtain ⟨x, hx⟩ := w_Enum (h2 e he); exact ⟨x, hx, trivial⟩)
 subst hl
 have hR : reachBytes = 140737488351232 := rfl
 exact ⟨l, h1, by simp at h3; omega, hp⟩
theorem w_Row {ds : List D} (h : WTy tab 237 ds) : ∃ x : MRow, ds = cRow x := by
 obtain ⟨h1, h2⟩ := h.struct_inv rfl rfl
 match ds, h1 with
 | [d0, d1, d2, d3, d4], _ =>
  obtain ⟨n0, k0⟩ := w_Range (h2 0 136 (by decide) _ rfl)
  obtain ⟨n1, k1⟩ := w_int (h2 2 3 (by decide) _ rfl)
  obtain ⟨n2, k2⟩ := w_int (h2 3 3 (by decide) _ rfl)
  obtain ⟨n3, k3⟩ := w_int (h2 4 3 (by decide) _ rfl)
  obtain ⟨q0a, q0r⟩ := List.cons.inj k0; have q0b := (List.cons.inj q0r).1; subst q0a; subst q0b
  have e1 := (List.cons.inj k1).1
  subst e1
  have e2 := (List.cons.inj k2).1
  subst e2
  have e3 := (List.cons.inj k3).1
  subst e3
  exact ⟨⟨⟨n0.1, n0.2⟩, n1, n2, n3⟩, rfl⟩
theorem w_rows {ds : List D} (h : WTy tab 118 ds) : ∃ l : List MRow, ds = [.slice 5 (l.map cRow)] ∧ l.length ≤ 140737488355328 ∧ ∀ a ∈ l, True := by
 obtain ⟨es, h1, h2, h3⟩ := h.slice_inv rfl rfl rfl
 obtain ⟨l, hl, hp⟩ := list_of_p (f := cRow) (p := fun a => True) (fun e he => by obtain ⟨x, hx⟩ := w_Row (h2 e he); exact ⟨x, hx, trivial⟩)
 subst hl
 have hR : reachBytes = 140737488351232 := rfl
 exact ⟨l, h1, by simp at h3; omega, hp⟩
theorem w_Table {ds : List D} (h : WTy tab 120 ds) : ∃ x : MTable, ds = cTable x ∧ x.rows.length ≤ 140737488355328 := by
 obtain ⟨h1, h2⟩ := h.struct_inv rfl rfl
 match ds, h1 with
 | [d0, d1, d2, d3, d4, d5], _ =>
  obtain ⟨n0, k0⟩ := w_str (h2 0 9 (by decide) _ rfl)
  obtain ⟨n1, k1⟩ := w_Ty (h2 1 82 (by decide) _ rfl)
  obtain ⟨n2, k2⟩ := w_Ty (h2 3 82 (by decide) _ rfl)
  obtain ⟨n3, k3, l3, p3⟩ := w_rows (h2 5 118 (by decide) _ rfl)
  have e0 := (List.cons.inj k0).1
  subst e0
  obtain ⟨q1a, q1r⟩ := List.cons.inj k1; have q1b := (List.cons.inj q1r).1; subst q1a; subst q1b
  obtain ⟨q2a, q2r⟩ := List.cons.inj k2; have q2b := (List.cons.inj q2r).1; subst q2a; subst q2b
  have e3 := (List.cons.inj k3).1
  subst e3
  exact ⟨⟨n0, n1, n2, n3⟩, rfl, l3⟩
theorem w_tables {ds : List D} (h : WTy tab 31 ds) : ∃ l : List MTable, ds = [.slice 6 (l.map cTable)] ∧ l.length ≤ 140737488355328 ∧ ∀ a ∈ l, a.rows.length ≤ 140737488355328 := by
 obtain ⟨es, h1, h2, h3⟩ := h.slice_inv rfl rfl rfl
 obtain ⟨l, hl, hp⟩ := list_of_p (f := cTable) (p := fun a => a.rows.length ≤ 140737488355328) (fun e he => w_Table (h2 e he))
 subst hl
 have hR : reachBytes = 140737488351232 := rfl
 exact ⟨l, h1, by simp at h3; omega, hp⟩
theorem w_Field {ds : List D} (h : WTy tab 84 ds) : ∃ x : MField, ds = cField x := by
 obtain ⟨h1, h2⟩ := h.struct_inv rfl rfl
 match ds, h1 with
 | [d0, d1, d2], _ =>
  obtain ⟨n0, k0⟩ := w_str (h2 0 9 (by decide) _ rfl)
  obtain ⟨n1, k1⟩ := w_Ty (h2 1 82 (by decide) _ rfl)
  have e0 := (List.cons.inj k0).1
  subst e0
  obtain ⟨q1a, q1r⟩ := List.cons.inj k1; have q1b := (List.cons.inj q1r).1; subst q1a; subst q1b
  exact ⟨⟨n0, n1⟩, rfl⟩
theorem w_fields {ds : List D} (h : WTy tab 74 ds) : ∃ l : List MField, ds = [.slice 3 (l.map cField)] ∧ l.length ≤ 140737488355328 ∧ ∀ a ∈ l, True := by
 obtain ⟨es, h1, h2, h3⟩ := h.slice_inv rfl rfl rfl
 obtain ⟨l, hl, hp⟩ := list_of_p (f := cField) (p := fun a => True) (fun e he => by obtain ⟨x, hx⟩ := w_Field (h2 e he); exact ⟨x, hx, trivial⟩)
 subst hl
 have hR : reachBytes = 140737488351232 := rfl
 exact ⟨l, h1, by simp at h3; omega, hp⟩
theorem w_Rule {ds : List D} (h : WTy tab 138 ds) : ∃ x : MRule, ds = cRule x := by
 obtain ⟨h1, h2⟩ := h.struct_inv rfl rfl
 match ds, h1 with
 | [d0, d1, d2, d3, d4, d5, d6, d7, d8], _ =>
  obtain ⟨n0, k0⟩ := w_str (h2 0 9 (by decide) _ rfl)
  obtain ⟨n1, k1⟩ := w_int (h2 1 3 (by decide) _ rfl)
  obtain ⟨n2, k2⟩ := w_int (h2 2 3 (by decide) _ rfl)
  obtain ⟨n3, k3⟩ := w_int (h2 3 3 (by decide) _ rfl)
  obtain ⟨n4, k4⟩ := w_Range (h2 4 136 (by decide) _ rfl)
  obtain ⟨n5, k5, l5, p5⟩ := w_nodes (h2 6 95 (by decide) _ rfl)
  obtain ⟨n6, k6, l6, p6⟩ := w_nodes (h2 7 95 (by decide) _ rfl)
  obtain ⟨n7, k7⟩ := w_str (h2 8 9 (by decide) _ rfl)
  have e0 := (List.cons.inj k0).1
  subst e0
  have e1 := (List.cons.inj k1).1
  subst e1
  have e2 := (List.cons.inj k2).1
  subst e2
  have e3 := (List.cons.inj k3).1
  subst e3
  obtain ⟨q4a, q4r⟩ := List.cons.inj k4; have q4b := (List.cons.inj q4r).1; subst q4a; subst q4b
  have e5 := (List.cons.inj k5).1
  subst e5
  have e6 := (List.cons.inj k6).1
  subst e6
  have e7 := (List.cons.inj k7).1
  subst e7
  exact ⟨⟨n0, n1, n2, n3, ⟨n4.1, n4.2⟩, n5, n6, n7⟩, rfl⟩
theorem w_rules {ds : List D} (h : WTy tab 75 ds) : ∃ l : List MRule, ds = [.slice 9 (l.map cRule)] ∧ l.length ≤ 140737488355328 ∧ ∀ a ∈ l, True := by
 obtain ⟨es, h1, h2, h3⟩ := h.slice_inv rfl rfl rfl
 obtain ⟨l, hl, hp⟩ := list_of_p (f := cRule) (p := fun a => True) (fun e he => by obtain ⟨x, hx⟩ := w_Rule (h2 e he); exact ⟨x, hx, trivial⟩)
 subst hl
 have hR : reachBytes = 140737488351232 := rfl
 exact ⟨l, h1, by simp at h3; omega, hp⟩
theorem w_Scope {ds : List D} (h : WTy tab 77 ds) : ∃ x : MScope, ds = cScope x ∧ x.rules.length ≤ 140737488355328 := by
 obtain ⟨h1, h2⟩ := h.struct_inv rfl rfl
 match ds, h1 with
 | [d0, d1, d2, d3, d4], _ =>
  obtain ⟨n0, k0⟩ := w_str (h2 0 9 (by decide) _ rfl)
  obtain ⟨n1, k1⟩ := w_int (h2 1 3 (by decide) _ rfl)
  obtain ⟨n2, k2, l2, p2⟩ := w_fields (h2 2 74 (by decide) _ rfl)
  obtain ⟨n3, k3, l3, p3⟩ := w_fields (h2 3 74 (by decide) _ rfl)
  obtain ⟨n4, k4, l4, p4⟩ := w_rules (h2 4 75 (by decide) _ rfl)
  have e0 := (List.cons.inj k0).1
  subst e0
  have e1 := (List.cons.inj k1).1
  subst e1
  have e2 := (List.cons.inj k2).1
  subst e2
  have e3 := (List.cons.inj k3).1
  subst e3
  have e4 := (List.cons.inj k4).1
  subst e4
  exact ⟨⟨n0, n1, n2, n3, n4⟩, rfl, l4⟩
theorem w_scopes {ds : List D} (h : WTy tab 32 ds) : ∃ l : List MScope, ds = [.slice 5 (l.map cScope)] ∧ l.length ≤ 140737488355328 ∧ ∀ a ∈ l, a.rules.length ≤ 140737488355328 := by
 obtain ⟨es, h1, h2, h3⟩ := h.slice_inv rfl rfl rfl
 obtain ⟨l, hl, hp⟩ := list_of_p (f := cScope) (p := fun a => a.rules.length ≤ 140737488355328) (fun e he => w_Scope (h2 e he))
 subst hl
 have hR : reachBytes = 140737488351232 := rfl
 exact ⟨l, h1, by simp at h3; omega, hp⟩
theorem w_Law {ds : List D} (h : WTy tab 34 ds) : ∃ x : MLaw, ds = cLaw x ∧ SizedLaw x := by
 obtain ⟨h1, h2⟩ := h.struct_inv rfl rfl
 match ds, h1 with
 | [d0, d1, d2], _ =>
  obtain ⟨n0, k0, l0, p0⟩ := w_enums (h2 0 30 (by decide) _ rfl)
  obtain ⟨n1, k1, l1, p1⟩ := w_tables (h2 1 31 (by decide) _ rfl)
  obtain ⟨n2, k2, l2, p2⟩ := w_scopes (h2 2 32 (by decide) _ rfl)
  have e0 := (List.cons.inj k0).1
  subst e0
  have e1 := (List.cons.inj k1).1
  subst e1
  have e2 := (List.cons.inj k2).1
  subst e2
  exact ⟨⟨n0, n1, n2⟩, rfl, ⟨p1, p2⟩⟩
theorem wdv_Law {x : DV} (h : WDV tab 34 x) : ∃ l : MLaw, x = .agg (cLaw l) ∧ SizedLaw l := by
 obtain ⟨i, ds, hi, hw, hl, h | h⟩ := h
 ·obtain ⟨n, rfl, p⟩ := w_Law hw; exact ⟨n, h.2, p⟩
 ·cases hi; cases h.1
end Go.Proofs.YtffnbobdkpebgaaGreat
