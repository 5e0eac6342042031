/- The abstract machine: bytes of strings, fields of struct values, conversions, min and max. -/
import Derived.Test.YtffnbobdkpebgaaGreatAbOps5
set_option linter.unusedVariables false
namespace Go.Ab
open Go.RowKit
def strAt (s : ByteArray) (n : Int) : Option Int := match decide (0 ≤ n) with
 | true => (s[n.toNat]?).map fun b => (b.toNat : Int)
 | false => none
theorem ok_index_str {P : Program} {tab : Tab} {σ : St} {o : Oper} {t : Nat} {x y : Operand} {i : TI} {s : ByteArray} {k : IntKind} {n v : Int} (ho : o.op = .index t x y) (hi : TIOk P t i) (htag : i.tag = 3)
  (hx : opnd tab σ 0 x = .s (.c (.d (.str s)))) (hy : opnd tab σ 0 y = .s (.c (.d (.int k n)))) (hv : strAt s n = some v) : StepOK P o σ (.s (.c (.d (.int .u8 v)))) [] :=
 step_pure fun S ρ F H a w ok hs hop hh => by
  have h0 := hop tab 0 x (by simp [ho, Op.operands])
  have h1 := hop tab 0 y (by simp [ho, Op.operands])
  rw [hx] at h0; rw [hy] at h1
  have hu := str_of_rel h0
  have hw := int_of_rel h1
  unfold strAt at hv
  split at hv
  ·rename_i h2
   have h2 := of_decide_eq_true h2
   simp only [Option.map_eq_some_iff] at hv
   obtain ⟨b, hb, rfl⟩ := hv
   refine ⟨.int .u8 b.toNat, ?_, .int _ _⟩
   simp [execOp, ho, hu, hw, Instr.index, asIntOf, run_underlying (hi.string htag), h2, hb]
  ·cases hv
theorem ok_field_agg {P : Program} {tab : Tab} {σ : St} {o : Oper} {t f fo ft : Nat} {x : Operand} {i fi : TI} {cs : List C} (ho : o.op = .field t x f) (hi : TIOk P t i) (htag : i.tag = 6) (hf : i.fields[f]? = some (fo, ft)) (hfi : TIOk P ft fi)
  (hx : opnd tab σ 0 x = .s (.agg cs)) (hl : ((cs.drop fo).take fi.size).length = fi.size) {r : SV} (hr : (fi.agg = true ∧ r = .agg ((cs.drop fo).take fi.size)) ∨ (fi.agg = false ∧ ∃ c, (cs.drop fo).take fi.size = [c] ∧ r = .c c)) : StepOK P o σ (.s r) [] :=
 step_pure fun S ρ F H a w ok hs hop hh => by
  have h0 := hop tab 0 x (by simp [ho, Op.operands])
  rw [hx] at h0
  obtain ⟨vs, hv, hvs⟩ := h0
  obtain ⟨info, desc, h1, h2, h3, h4, h5, h6, _, h7⟩ := hi.info
  rw [htag] at h6
  cases desc <;> simp [descTag] at h6
  rename_i fs
  simp only [descOk] at h7
  obtain ⟨fd, hfd, ho', ht, hne, hsome⟩ := field_of h7 hf
  have hfd' : fs[f]? = some fd := by simpa using hfd
  subst ho'; subst ht
  have hsub := All2.take fi.size (All2.drop fd.offset hvs)
  rcases hr with ⟨ha, rfl⟩ | ⟨ha, c, hc, rfl⟩
  ·refine ⟨.agg (vs.toArray.extract fd.offset (fd.offset + fi.size)), ?_, (vs.drop fd.offset).take fi.size, ?_, hsub⟩
   ·simp [execOp, ho, hv, Instr.field, run_underlying h2, hfd', asAgg, part, hfi.isAgg, ha, hfi.sizeOf]
   ·simp [List.extract_eq_take_drop]
  ·rw [hc] at hsub
   cases hq : (vs.drop fd.offset).take fi.size with
   | nil => rw [hq] at hsub; exact hsub.elim
   | cons u us =>
    rw [hq] at hsub
    have hget : vs[fd.offset]? = some u := by
     have := (sub_get (cs := vs) (off := fd.offset) (n := fi.size) (j := 0) (x := u) (by rw [hq]; rfl)).1
     simpa using this
    refine ⟨u, ?_, hsub.1⟩
    simp [execOp, ho, hv, Instr.field, run_underlying h2, hfd', asAgg, part, hfi.isAgg, ha, hget]
def maxI (x y : Int) : Int := bif decide (x < y) then y else x
def minI (x y : Int) : Int := bif decide (y < x) then y else x
theorem ok_max {P : Program} {tab : Tab} {σ : St} {o : Oper} {t t' : Nat} {x y : Operand} {k : IntKind} {a b : Int} (ho : o.op = .call { callee := .builtin .max, args := #[x, y], argTypes := #[t, t'] })
  (hx : opnd tab σ t x = .s (.c (.d (.int k a)))) (hy : opnd tab σ t' y = .s (.c (.d (.int k b)))) : StepOK P o σ (.s (.c (.d (.int k (maxI a b))))) [] :=
 step_pure fun S ρ F H ac w ok hs hop hh => by
  have h0 := hop tab t x (by simp [ho, Op.operands, Call.operands])
  have h1 := hop tab t' y (by simp [ho, Op.operands, Call.operands])
  rw [hx] at h0; rw [hy] at h1
  have hu := int_of_rel h0
  have hv := int_of_rel h1
  refine ⟨.int k (maxI a b), ?_, .int _ _⟩
  by_cases h : a < b
  ·simp [execOp, ho, resolve, invoke, builtin, Builtin.max_, Builtin.max2, hu, hv, maxI, h]
  ·simp [execOp, ho, resolve, invoke, builtin, Builtin.max_, Builtin.max2, hu, hv, maxI, h]
theorem ok_min {P : Program} {tab : Tab} {σ : St} {o : Oper} {t t' : Nat} {x y : Operand} {k : IntKind} {a b : Int} (ho : o.op = .call { callee := .builtin .min, args := #[x, y], argTypes := #[t, t'] })
  (hx : opnd tab σ t x = .s (.c (.d (.int k a)))) (hy : opnd tab σ t' y = .s (.c (.d (.int k b)))) : StepOK P o σ (.s (.c (.d (.int k (minI a b))))) [] :=
 step_pure fun S ρ F H ac w ok hs hop hh => by
  have h0 := hop tab t x (by simp [ho, Op.operands, Call.operands])
  have h1 := hop tab t' y (by simp [ho, Op.operands, Call.operands])
  rw [hx] at h0; rw [hy] at h1
  have hu := int_of_rel h0
  have hv := int_of_rel h1
  refine ⟨.int k (minI a b), ?_, .int _ _⟩
  by_cases h : b < a
  ·simp [execOp, ho, resolve, invoke, builtin, Builtin.min_, Builtin.min2, hu, hv, minI, h]
  ·simp [execOp, ho, resolve, invoke, builtin, Builtin.min_, Builtin.min2, hu, hv, minI, h]
theorem ok_makeSlice {P : Program} {tab : Tab} {σ : St} {o : Oper} {t id : Nat} {x y : Operand} {i ie : TI} {k k' : IntKind} {n : Int} {z : List D} (ho : o.op = .makeSlice t x y) (hi : TIOk P t i) (htag : i.tag = 4) (he : TIOk P i.elem ie)
  (hx : opnd tab σ 0 x = .s (.c (.d (.int k n)))) (hy : opnd tab σ 0 y = .s (.c (.d (.int k' n)))) (h0 : 0 ≤ n) (h1 : n ≤ 1000000) (hb : ie.bytes ≤ 100000) (hz : allD ie.zero = some z) (hsz : ie.size ≤ 1000) :
  StepOK P o σ (.s (.c (.own id ie.size))) [(id, .row i.elem ie.size (List.replicate n.toNat z))] :=
 step_new fun S ρ F H a w ok hs hnw hop hh => by
  have hx0 := hop tab 0 x (by simp [ho, Op.operands])
  have hy0 := hop tab 0 y (by simp [ho, Op.operands])
  rw [hx] at hx0; rw [hy] at hy0
  have hu := int_of_rel hx0
  have hv := int_of_rel hy0
  obtain ⟨m, rfl⟩ : ∃ m : Nat, n = m := ⟨n.toNat, by omega⟩
  have hm : m ≤ 1000000 := by omega
  simp only [Int.toNat_natCast]
  obtain ⟨zv, hzv, hzz⟩ := he.zero w
  obtain ⟨info, desc, g1, g2, g3, g4, _⟩ := he.info
  have hzr := allD_rel (zrels_crel (ρ := ρ) (F := F) (w := w) (H := H) hzz) hz
  have hzl := All2.length hzr
  have hzc : zv.cells.size = ie.size := by
   have h3 := All2.length (zrels_crel (ρ := ρ) (F := F) (w := w) (H := H) hzz)
   have := he.zlen
   simp at h3; omega
  have hwrap : IntKind.i64.wrap (m : Int) = m := IntWalk.i64_in _ (by omega)
  have hneg : ¬ (m : Int) < 0 := by omega
  let zero : Array Value := if m * ie.size = 0 then #[] else zv.cells
  have hbig : ¬ ((m : Int) < 0) := by omega
  have hpos : ¬ (281474976710656 < (info.bytes : Int) * (m : Int)) := by
   rw [g4]
   have h1 : ie.bytes * m ≤ 100000 * 1000000 := Nat.mul_le_mul hb hm
   have h2 : ((ie.bytes : Int) * (m : Int)) = ((ie.bytes * m : Nat) : Int) := by simp
   rw [h2]
   omega
  have hlt : ¬ ((m : Int) > (m : Int)) := by omega
  refine ⟨.slice (some ⟨w.heap.size, 0, none⟩) m m, ((Array.range (m * ie.size)).map (zero[· % zero.size]!)).toList, i.elem, ?_, fun ρ' w' hρ hid hw hbk => ⟨⟨i.elem, _, hnw _ _ (look_self _ _), .inr ⟨_, _, m, hid, by rw [List.length_replicate, Int.toNat_natCast], by rw [List.length_replicate, Int.toNat_natCast]; exact Nat.le_refl _, by unfold maxLen; omega, by rw [Array.length_toList, Array.size_map, Array.size_range]⟩⟩, ?_⟩⟩
  ·by_cases hn0 : m * ie.size = 0
   ·have hz0 : zero = #[] := if_pos hn0
    rw [hz0]
    simp [execOp, ho, Instr.makeSlice, hu, hv, run_underlying (hi.slice htag), asInt, asIntOf, typeInfo, g1, hwrap, hneg, hpos, he.sizeOf, hn0, run_newRow]
    exact congrArg (fun c => w.alloc (Obj.cells c i.elem)) (by apply Array.ext'; simp)
   ·have hz0 : zero = zv.cells := if_neg hn0
    rw [hz0]
    simp [execOp, ho, Instr.makeSlice, hu, hv, run_underlying (hi.slice htag), asInt, asIntOf, typeInfo, g1, hwrap, hneg, hpos, he.sizeOf, hn0, hzv, run_newRow]
    exact congrArg (fun c => w.alloc (Obj.cells c i.elem)) (by apply Array.ext'; simp)
  ·refine ⟨_, by simpa using hbk, rfl, by simp, fun e hm' => ?_, fun p e j q hp hj => ?_⟩
   ·rw [List.mem_replicate] at hm'
    rw [hm'.2, ← hzl]; simpa using hzc
   ·rw [List.getElem?_replicate] at hp
    split at hp
    ·rename_i hpm
     cases hp
     obtain ⟨u, hu', hd⟩ := All2.get hzr hj
     have hjl : j < ie.size := by
      have := (List.getElem?_eq_some_iff.1 hu').1
      simp at this; omega
     have hlt2 : p * ie.size + j < m * ie.size := by
      have : (p + 1) * ie.size ≤ m * ie.size := Nat.mul_le_mul_right _ hpm
      rw [Nat.succ_mul] at this; omega
     have hz0 : zero = zv.cells := if_neg (by omega)
     refine ⟨u, ?_, DRel.mono (fun _ h => h) hw hd⟩
     have hmod : (p * ie.size + j) % zv.cells.size = j := by
      rw [hzc, Nat.mul_comm, Nat.mul_add_mod]; exact Nat.mod_eq_of_lt hjl
     have hget : zv.cells[j]! = u := by
      have h9 : zv.cells[j]? = some u := by simpa using hu'
      rw [Array.getElem!_eq_getD, Array.getD_eq_getD_getElem?, h9]; rfl
     have hr : ((Array.range (m * ie.size)).map (zero[· % zero.size]!))[p * ie.size + j]? = some (zero[(p * ie.size + j) % zero.size]!) := by simp [hlt2]
     rw [hz0, hmod, hget] at hr
     rw [Array.getElem?_toList]
     exact (hz0 ▸ hr)
    ·cases hp
end Go.Ab
