/- The abstract machine: == and != on structs. -/
import Derived.Test.YtllfapkcniadgaaAbCommit
import Derived.Test.YtllfapkcniadgaaAbEq
set_option linter.unusedVariables false
namespace Go.Ab
open Go.RowKit

def eqBin (op : BinOp) (b : Bool) : Option Bool := match op with
  | .eql => some b
  | .neq => some (!b)
  | _ => none

theorem ok_binagg {P : Program} {tab : Tab} {σ : St} {o : Oper} {op : BinOp} {t t' : TypeId} {x y : Operand} {i : TI} {xs ys : List C} {dx dy : List D} {b c : Bool} (ho : o.op = .binOp op t x y t') (hi : TIOk P t i) (htag : i.tag = 6) (hne : i.eqk ≠ [])
    (hx : opnd tab σ 0 x = .s (.agg xs)) (hy : opnd tab σ 0 y = .s (.agg ys)) (hdx : allD xs = some dx) (hdy : allD ys = some dy) (hb : eqKs i.eqk dx dy = some b) (hc : eqBin op b = some c) :
    StepOK P o σ (.s (.c (.d (.bool c)))) [] :=
  step_pure fun S ρ F H ac w ok hs hop hh => by
    have h0 := hop tab 0 x (by simp [ho, Op.operands])
    have h1 := hop tab 0 y (by simp [ho, Op.operands])
    rw [hx] at h0; rw [hy] at h1
    obtain ⟨us, hu, h0⟩ := h0
    obtain ⟨vs, hv, h1⟩ := h1
    have k0 := allD_rel h0 hdx
    have k1 := allD_rel h1 hdy
    obtain ⟨hk, hg⟩ := hi.eqk hne
    obtain ⟨info, desc, hinf, hdesc, _, _, _, htg, _⟩ := hi.info
    have hst : ∃ fs, P.underlying t = some (.struct fs) := by
      rw [htag] at htg
      cases desc <;> simp [descTag] at htg
      exact ⟨_, hdesc⟩
    obtain ⟨fs, hst⟩ := hst
    have heq := equalIn_flat (w := w) hk (u := .agg us.toArray) (v := .agg vs.toArray) (by unfold VRel; rw [hst]; exact ⟨us, rfl, k0⟩) (by unfold VRel; rw [hst]; exact ⟨vs, rfl, k1⟩) hb 9992
    have heq : (Op.equalIn 10000 t (.agg us.toArray) (.agg vs.toArray)).run P w = .ok b w := heq
    refine ⟨.bool c, ?_, .bool c⟩
    cases op <;> simp only [eqBin, Option.some.injEq, reduceCtorEq] at hc <;> subst hc
    · simp only [execOp, ho, hu, hv, Sem.run_bind, run_eqGuard_agg w _ t x y us.toArray vs.toArray hg, Result.andThen_ok, run_eql_struct, heq, Sem.run_pure]
    · simp only [execOp, ho, hu, hv, Sem.run_bind, run_eqGuard_agg w _ t x y us.toArray vs.toArray hg, Result.andThen_ok, run_neq_struct, heq, Sem.run_pure]

end Go.Ab
