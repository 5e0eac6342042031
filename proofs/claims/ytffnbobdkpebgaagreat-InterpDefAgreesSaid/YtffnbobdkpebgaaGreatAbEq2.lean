/- The abstract machine: == and != on structs. -/
import Derived.Test.YtffnbobdkpebgaaGreatAbCommit
import Derived.Test.YtffnbobdkpebgaaGreatAbEq
set_option linter.unusedVariables false
namespace Go.Ab
open Go.RowKit
def eqBin (op : BinOp) (b : Bool) : Option Bool := match op with
 | .eql => some b
 | .neq => some (!b)
 | _ => none
theorem ok_binagg {P : Program} {tab : Tab} {σ : St} {o : Oper} {op : BinOp} {t t' : TypeId} {x y : Operand} {i : TI} {xs ys : List C} {dx dy : List D} {b c : Bool} (ho : o.op = .binOp op t x y t') (hi : TIOk P t i) (htag : i.tag = 6) (hne : i.eqk ≠ [])
  (hx : opnd tab σ 0 x = .s (.agg xs)) (hy : opnd tab σ 0 y = .s (.agg ys)) (hdx : allD xs = some dx) (hdy : allD ys = some dy) (hb : eqKs i.eqk dx dy = some b) (hc : eqBin op b = some c) :
  StepOK P o σ (.s (.c (.d (.bool c)))) [] :=
 step_pure fun S ρ F H ac w ok hs hop hh => by
  have h0 := hop tab 0 x (by simp [ho, Op.operands])
  have h1 := hop tab 0 y (by simp [ho, Op.operands])
  rw [hx] at h0; rw [hy] at h1
  obtain ⟨us, hu, h0⟩ := h0
  obtain ⟨vs, hv, h1⟩ := h1
  have k0 := allD_rel h0 hdx
  have k1 := allD_rel h1 hdy
  obtain ⟨hk, hg⟩ := hi.eqk hne
  obtain ⟨info, desc, hinf, hdesc, _, _, _, htg, _⟩ := hi.info
  have hst : ∃ fs, P.underlying t = some (.struct fs) := by
   rw [htag] at htg
   cases desc <;> simp [descTag] at htg
   exact ⟨_, hdesc⟩
  obtain ⟨fs, hst⟩ := hst
  have heq := equalIn_flat (w := w) hk (u := .agg us.toArray) (v := .agg vs.toArray) (by unfold VRel; rw [hst]; exact ⟨us, rfl, k0⟩) (by unfold VRel; rw [hst]; exact ⟨vs, rfl, k1⟩) hb 9992
  have heq : (Op.equalIn 10000 t (.agg us.toArray) (.agg vs.toArray)).run P w = .ok b w := heq
  refine ⟨.bool c, ?_, .bool c⟩
  cases op <;> simp only [eqBin, Option.some.injEq, reduceCtorEq] at hc <;> subst hc
  ·simp only [execOp, ho, hu, hv, Sem.run_bind, run_eqGuard_agg w _ t x y us.toArray vs.toArray hg, Result.andThen_ok, run_eql_struct, heq, Sem.run_pure]
  ·simp only [execOp, ho, hu, hv, Sem.run_bind, run_eqGuard_agg w _ t x y us.toArray vs.toArray hg, Result.andThen_ok, run_neq_struct, heq, Sem.run_pure]
def capsD (tab : Tab) (σ : St) : List Operand → Option (List D)
 | [] => some []
 | x :: r => match opnd tab σ 0 x, capsD tab σ r with
  | .s (.c c), some ds => match pureD c with
   | some d => some (d :: ds)
   | none => none
  | _, _ => none
theorem capsD_rel {tab : Tab} {σ : St} {a : Act} {ρ : Map} {F : Nat → Prop} {w : World} {H : Heap} : ∀ {l : List Operand} {ds : List D}, (∀ x ∈ l, ARel ρ F w H (a.eval x) (opnd tab σ 0 x)) → capsD tab σ l = some ds → All2 (DRel F w) (l.map a.eval) ds
 | [], ds, _, h => by simp [capsD] at h; subst h; trivial
 | x :: l, ds, hr, h => by
  simp only [capsD] at h
  split at h
  ·rename_i c ds' hx hds
   split at h
   ·rename_i d hd
    cases h
    have h0 := hr x (by simp)
    rw [hx] at h0
    exact ⟨pureD_rel h0 hd, capsD_rel (fun y hy => hr y (by simp [hy])) hds⟩
   ·cases h
  ·cases h
def capsC (tab : Tab) (σ : St) : List Operand → Option (List C)
 | [] => some []
 | x :: r => match opnd tab σ 0 x, capsC tab σ r with
  | .s (.c c), some cs => some (c :: cs)
  | _, _ => none
theorem capsC_rel {tab : Tab} {σ : St} {a : Act} {ρ : Map} {F : Nat → Prop} {w : World} {H : Heap} : ∀ {l : List Operand} {cs : List C}, (∀ x ∈ l, ARel ρ F w H (a.eval x) (opnd tab σ 0 x)) → capsC tab σ l = some cs → All2 (CRel ρ F w H) (l.map a.eval) cs
 | [], cs, _, h => by simp [capsC] at h; subst h; trivial
 | x :: r, cs, hr, h => by
  simp only [capsC] at h
  split at h
  ·rename_i c cs' h1 h2
   simp only [Option.some.injEq] at h
   subst h
   have h0 := hr x (by simp)
   rw [h1] at h0
   exact ⟨h0, capsC_rel (fun y hy => hr y (by simp [hy])) h2⟩
  ·cases h
theorem ok_makeFn {P : Program} {tab : Tab} {σ : St} {o : Oper} {g : FuncId} {first caps : Array Operand} {cs : List C} (ho : o.op = .makeFunc (.func g) first caps) (hf : first.toList = []) (hc : capsC tab σ caps.toList = some cs) :
  StepOK P o σ (.s (.fn g cs)) [] :=
 step_pure fun S ρ F H ac w ok hs hop hh => by
  have hf' : first = #[] := by apply Array.ext'; simpa using hf
  subst hf'
  have e : Array.map ac.eval caps = (List.map ac.eval caps.toList).toArray := by apply Array.ext'; simp
  have h1 := capsC_rel (a := ac) (ρ := ρ) (F := F) (w := w) (H := H) (fun x hx => hop tab 0 x (by rw [ho]; simp [Op.operands] at hx ⊢; exact hx)) hc
  exact ⟨.func (.func g) #[] (caps.toList.map ac.eval).toArray, by simp [execOp, ho, Instr.makeFunc, e], _, rfl, h1⟩
theorem ok_makeFunc {P : Program} {tab : Tab} {σ : St} {o : Oper} {g : FuncId} {first caps : Array Operand} {ds : List D} (ho : o.op = .makeFunc (.func g) first caps) (hf : first.toList = []) (hc : capsD tab σ caps.toList = some ds) :
  StepOK P o σ (.s (.c (.d (.clos g ds)))) [] :=
 step_pure fun S ρ F H ac w ok hs hop hh => by
  have hf' : first = #[] := by apply Array.ext'; simpa using hf
  subst hf'
  have h1 := capsD_rel (a := ac) (ρ := ρ) (F := F) (w := w) (H := H) (fun x hx => hop tab 0 x (by rw [ho]; simp [Op.operands] at hx ⊢; exact hx)) hc
  refine ⟨.func (.func g) #[] (caps.toList.map ac.eval).toArray, ?_, ?_⟩
  ·have e : Array.map ac.eval caps = (List.map ac.eval caps.toList).toArray := by apply Array.ext'; simp
   simp [execOp, ho, Instr.makeFunc, e]
  refine DRel.clos g ds _ (by have := All2.length h1; simpa using this) (fun j x v hx hv => ?_)
  obtain ⟨u, hu, hr⟩ := All2.get h1 hx
  rw [hu] at hv; cases hv
  exact hr
end Go.Ab
