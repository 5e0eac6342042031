/- Part of the proof of InterpDefAgrees: the call from every world. -/
import Derived.Test.YtffnbobdkpebgaaGreatVzC6
import Derived.Test.YtffnbobdkpebgaaGreatTpGlue3
import Derived.Test.YtffnbobdkpebgaaGreatTaC
import Derived.Test.YtffnbobdkpebgaaGreatRows
import Derived.Shelf.Vars
set_option linter.unusedVariables false
namespace Go.Proofs.YtffnbobdkpebgaaGreat
open Go
theorem HA.own : ownKnob Tryz.prog.godebug = none := by kernel_rfl
theorem HA.laidOut : laidOutB Tryz.prog = true := by kernel_rfl
open Go.Ab
theorem glob_of (W : World) (h : W.ShapedOpen Tryz.prog) : Glob (fun b => b < W.heap.size) W := fun _ => by
 obtain ⟨m, hm⟩ := cell_of_shapedOpen_int (g := gMax) (t := 3) (k := .i64) h (of_decide_eq_true (by kernel_rfl)) (zero := #[.int .i64 0]) (by kernel_rfl) rfl (by kernel_rfl) (by kernel_rfl) Tryz.underlying3
 refine ⟨?_, m, hm⟩
 rcases Nat.lt_or_ge gMax W.heap.size with h | h
 ·exact h
 ·exfalso
  have e : W.heap[gMax]? = none := by simp [h]
  simp [World.cell?, e] at hm
def lawTypes11 : List Nat := [3, 9, 34, 30, 31, 32, 117, 120, 77, 115, 118, 237, 82, 74, 84, 75, 138, 136, 95, 94, 38, 35, 36, 23]
set_option maxRecDepth 100000 in
theorem agrees_lifted (os : Os) (started : os.Started) (H : Type) (enc : TypeId × Value → H) :
  ReturnsInHanded {} Tryz.checked os 8 .any (Rows.interpDefAgreesSpec.pre6 enc Tryz.prog Tryz.f8 Rows.interpDefAgreesRow.domain false) (Rows.interpDefAgreesSpec.post enc Tryz.prog Tryz.f8 false true false false) :=
 lifted (C := Tryz.checked) (tab := tab) (tb := 4) lawTypes11 HA.own started (by kernel_rfl) Tryz.func8
  (ChangeSpec.witness6 (enc := enc) (C := Tryz.checked) false ⟨#[], #[.agg #[.slice none 0 0, .slice none 0 0, .slice none 0 0], .int .i64 0, .agg #[.int .i64 0, .slice none 0 0, .slice none 0 0], .int .i64 0], []⟩ 8 (by kernel_rfl) (by kernel_rfl) (by kernel_rfl) (by kernel_rfl))
  HA.laidOut htab (by kernel_rfl) (by kernel_rfl) (by kernel_rfl) Tryz.underlying4 rfl
  (fun ds hd => by
   rw [Tryz.params8] at hd
   match ds, hd with
   | [a, b, c, d], _ => exact ⟨rfl, rfl, rfl⟩)
  glob_of
  (fun xs hx => by
   rw [Tryz.params8] at hx
   match xs, hx with
   | [a, b, c, d], hx =>
    obtain ⟨m, rfl, sm⟩ := wdv_Law hx.1
    obtain ⟨n, rfl⟩ := wdv_int hx.2.1
    obtain ⟨k, rfl⟩ := wdv_Case hx.2.2.1
    obtain ⟨q, rfl⟩ := wdv_int hx.2.2.2.1
    exact (gg_35.2.2.2.2.2) 300000 m n k q true (l_DefAgrees sm n k q))
end Go.Proofs.YtffnbobdkpebgaaGreat
