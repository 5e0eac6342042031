/- Part of the proof of ImpactSymmetric: the call from every world. -/
import Derived.Test.YtffnbobdkpebgaaGreatVzC6
import Derived.Test.YtffnbobdkpebgaaGreatTpGlue3
import Derived.Test.YtffnbobdkpebgaaGreatTaC
import Derived.Test.YtffnbobdkpebgaaGreatRows
import Derived.Shelf.Vars
set_option linter.unusedVariables false
namespace Go.Proofs.YtffnbobdkpebgaaGreat
open Go

theorem HA.own : ownKnob Tryz.prog.godebug = none := by kernel_rfl
theorem HA.laidOut : laidOutB Tryz.prog = true := by kernel_rfl
open Go.Ab

theorem glob_of (W : World) (h : W.ShapedOpen Tryz.prog) : Glob (fun b => b < W.heap.size) W := fun _ => by
  obtain ⟨m, hm⟩ := cell_of_shapedOpen_int (g := gMax) (t := 3) (k := .i64) h (of_decide_eq_true (by kernel_rfl)) (zero := #[.int .i64 0]) (by kernel_rfl) rfl (by kernel_rfl) (by kernel_rfl) Tryz.underlying3
  refine ⟨?_, m, hm⟩
  rcases Nat.lt_or_ge gMax W.heap.size with h | h
  · exact h
  · exfalso
    have e : W.heap[gMax]? = none := by simp [h]
    simp [World.cell?, e] at hm
def lawTypes11 : List Nat := [3, 9, 34, 30, 31, 32, 117, 120, 77, 115, 118, 237, 82, 74, 84, 75, 138, 136, 95, 94, 38, 41, 35, 36, 23]

theorem wdv_Pair {x : DV} (h : WDV tab 41 x) : ∃ l : MGuerdonlaw52Pair, x = .agg (cGuerdonlaw52Pair l) ∧ SizedLaw l.a ∧ SizedLaw l.b := by
  obtain ⟨i, ds, hi, hw, hl, h | h⟩ := h
  · obtain ⟨h1, h2⟩ := hw.struct_inv rfl rfl
    match ds, h1 with
    | [d0, d1, d2, d3, d4, d5], _ =>
      obtain ⟨n0, k0, p0⟩ := w_Law (h2 0 34 (by decide) _ rfl)
      obtain ⟨n1, k1, p1⟩ := w_Law (h2 3 34 (by decide) _ rfl)
      have z0 := List.cons.inj k0
      have z1 := List.cons.inj z0.2
      have z2 := List.cons.inj z1.2
      have z3 := List.cons.inj k1
      have z4 := List.cons.inj z3.2
      have z5 := List.cons.inj z4.2
      have y0 := z0.1
      have y1 := z1.1
      have y2 := z2.1
      have y3 := z3.1
      have y4 := z4.1
      have y5 := z5.1
      subst y0 y1 y2 y3 y4 y5
      exact ⟨⟨n0, n1⟩, h.2, p0, p1⟩
  · cases hi; cases h.1

set_option maxRecDepth 100000 in
theorem symmetric_lifted (os : Os) (started : os.Started) (H : Type) (enc : TypeId × Value → H) :
    ReturnsInHanded {} Tryz.checked os 5 .any (Rows.impactSymmetricSpec.pre6 enc Tryz.prog Tryz.f5 Rows.impactSymmetricRow.domain false) (Rows.impactSymmetricSpec.post enc Tryz.prog Tryz.f5 false true false false) :=
  lifted (C := Tryz.checked) (tab := tab) (tb := 4) lawTypes11 HA.own started (by kernel_rfl) Tryz.func5
    (ChangeSpec.witness6 (enc := enc) (C := Tryz.checked) false ⟨#[], #[.agg #[.slice none 0 0, .slice none 0 0, .slice none 0 0, .slice none 0 0, .slice none 0 0, .slice none 0 0], .int .i64 0, .agg #[.int .i64 0, .slice none 0 0, .slice none 0 0], .int .i64 0], []⟩ 8 (by kernel_rfl) (by kernel_rfl) (by kernel_rfl) (by kernel_rfl))
    HA.laidOut htab (by kernel_rfl) (by kernel_rfl) (by kernel_rfl) Tryz.underlying4 rfl
    (fun ds hd => by
      rw [Tryz.params5] at hd
      match ds, hd with
      | [a, b, c, d], _ => exact ⟨rfl, rfl, rfl⟩)
    glob_of
    (fun xs hx => by
      rw [Tryz.params5] at hx
      match xs, hx with
      | [a, b, c, d], hx =>
        obtain ⟨m, rfl, sa, sb⟩ := wdv_Pair hx.1
        obtain ⟨n, rfl⟩ := wdv_int hx.2.1
        obtain ⟨k, rfl⟩ := wdv_Case hx.2.2.1
        obtain ⟨q, rfl⟩ := wdv_int hx.2.2.2.1
        exact (gg_36.2.2) 300000 m n k q true (l_ImpactSymmetric sa sb n k q))
end Go.Proofs.YtffnbobdkpebgaaGreat
