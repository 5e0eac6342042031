/- Mirrored models of the functions, by my generator. -/
import Derived.Test.YtffnbobdkpebgaaGreatVzM0
set_option linter.unusedVariables false
set_option linter.unusedSimpArgs false
namespace Go.Ab

def m_table_rounding (fu : Nat) (whole : Int) (parts : Int) (mode : Int) : Option Int :=
  bd (m_money_DivRound fu (w64 ((w64 ((Int.tmod whole 2) * 1000000)) + parts)) 1000000 mode) fun c_1 => some (w64 (c_1.1 - (Int.tmod whole 2)))

def m_table_Brackets_L1 (t : MTable) (fu : Nat) (date : Int) (cV : Int) (k_1 : ((Int × Int) → Option (Int × Int))) : Nat → (Int × Int × Nat) → Option (Int × Int)
  | 0, _ => none
  | fl_4 + 1, (whole_1, parts_2, t46_3) => (bif (decide ((nI t46_3) < (ln cRow t.rows))) then bd (ix t.rows (nI t46_3)) fun e_5 => bd (m_daterange_Contains fu e_5.valid date) fun c_6 => (bif (!c_6) then cnt t46_3 (m_table_Brackets_L1 t fu date cV k_1 fl_4 (whole_1, parts_2, t46_3 + 1)) else bd (m_table_contribution fu e_5 cV) fun c_7 => (bif (!c_7.2.2) then some (0, 3) else cnt t46_3 (m_table_Brackets_L1 t fu date cV k_1 fl_4 ((w64 (whole_1 + c_7.1)), (w64 (parts_2 + c_7.2.1)), t46_3 + 1)))) else k_1 (whole_1, parts_2))

def m_table_Brackets (fu : Nat) (t : MTable) (date : Int) (cV : Int) (mode : Int) : Option (Int × Int) :=
  (bif ((decide (mode < 0)) || (decide (5 < mode))) then some (0, 1) else (bif ((!((t.key.kind == 3) && (t.key.en == 0))) || (!((t.val.kind == 4) && (t.val.en == 0)))) then some (0, 8) else (bif ((decide (1000000000000000 < cV)) || (decide (cV < (-1000000000000000)))) then some (0, 3) else m_table_Brackets_L1 t fu date cV (fun p_8 => (bif ((decide (0 < (w64 (p_8.1 + (w64 (Int.tdiv p_8.2 1000000)))))) && (decide ((Int.tmod p_8.2 1000000) < 0))) then bd (m_table_rounding fu (w64 ((w64 (p_8.1 + (w64 (Int.tdiv p_8.2 1000000)))) - 1)) (w64 ((Int.tmod p_8.2 1000000) + 1000000)) mode) fun c_9 => (bif ((decide (1000000000000000 < (w64 ((w64 ((w64 (p_8.1 + (w64 (Int.tdiv p_8.2 1000000)))) - 1)) + c_9)))) || (decide ((w64 ((w64 ((w64 (p_8.1 + (w64 (Int.tdiv p_8.2 1000000)))) - 1)) + c_9)) < (-1000000000000000)))) then some (0, 3) else some ((w64 ((w64 ((w64 (p_8.1 + (w64 (Int.tdiv p_8.2 1000000)))) - 1)) + c_9)), 0)) else (bif ((decide ((w64 (p_8.1 + (w64 (Int.tdiv p_8.2 1000000)))) < 0)) && (decide (0 < (Int.tmod p_8.2 1000000)))) then bd (m_table_rounding fu (w64 ((w64 (p_8.1 + (w64 (Int.tdiv p_8.2 1000000)))) + 1)) (w64 ((Int.tmod p_8.2 1000000) - 1000000)) mode) fun c_10 => (bif ((decide (1000000000000000 < (w64 ((w64 ((w64 (p_8.1 + (w64 (Int.tdiv p_8.2 1000000)))) + 1)) + c_10)))) || (decide ((w64 ((w64 ((w64 (p_8.1 + (w64 (Int.tdiv p_8.2 1000000)))) + 1)) + c_10)) < (-1000000000000000)))) then some (0, 3) else some ((w64 ((w64 ((w64 (p_8.1 + (w64 (Int.tdiv p_8.2 1000000)))) + 1)) + c_10)), 0)) else bd (m_table_rounding fu (w64 (p_8.1 + (w64 (Int.tdiv p_8.2 1000000)))) (Int.tmod p_8.2 1000000) mode) fun c_11 => (bif ((decide (1000000000000000 < (w64 ((w64 (p_8.1 + (w64 (Int.tdiv p_8.2 1000000)))) + c_11)))) || (decide ((w64 ((w64 (p_8.1 + (w64 (Int.tdiv p_8.2 1000000)))) + c_11)) < (-1000000000000000)))) then some (0, 3) else some ((w64 ((w64 (p_8.1 + (w64 (Int.tdiv p_8.2 1000000)))) + c_11)), 0))))) fu (0, 0, 0))))

def m_eval_operate (fu : Nat) (nV : MNode) (l : (List MValue)) (env : MEnv) : Option (MValue × Int) :=
  (bif (nV.op == 6) then some ((MValue.mk 6 (w64 (Int.tdiv nV.n 16)) (Int.tmod nV.n 16)), 0) else (bif (decide (nV.op < 6)) then some ((MValue.mk nV.op 0 nV.n), 0) else (bif ((decide (10 ≤ nV.op)) && (decide (nV.op ≤ 18))) then bd (m_eval_arithmetic fu nV l) fun c_1 => some (c_1.1, c_1.2) else (bif ((decide (27 ≤ nV.op)) && (decide (nV.op ≤ 32))) then bd (m_eval_dates fu nV l) fun c_2 => some (c_2.1, c_2.2) else (bif (decide (36 ≤ nV.op)) then bd (m_eval_members fu nV env) fun c_3 => some (c_3.1, c_3.2) else (bif (nV.op == 7) then bd (ix env.inputs nV.n) fun e_4 => some (e_4, 0) else (bif (nV.op == 8) then bd (ix env.defs nV.n) fun e_5 => some (e_5, 0) else (bif (nV.op == 9) then some ((MValue.mk 5 0 env.date), 0) else (bif (nV.op == 19) then bd (ix l 0) fun e_6 => bd (ix l 1) fun e_7 => bd (m_eval_boolean fu (e_6.nF == e_7.nF)) fun c_8 => some (c_8, 0) else (bif (nV.op == 20) then bd (ix l 0) fun e_9 => bd (ix l 1) fun e_10 => bd (m_eval_boolean fu (e_9.nF != e_10.nF)) fun c_11 => some (c_11, 0) else (bif (nV.op == 21) then bd (ix l 0) fun e_12 => bd (ix l 1) fun e_13 => bd (m_eval_boolean fu (decide (e_12.nF < e_13.nF))) fun c_14 => some (c_14, 0) else (bif (nV.op == 22) then bd (ix l 0) fun e_15 => bd (ix l 1) fun e_16 => bd (m_eval_boolean fu (decide (e_15.nF ≤ e_16.nF))) fun c_17 => some (c_17, 0) else (bif (nV.op == 23) then bd (ix l 0) fun e_18 => (bif (e_18.nF == 1) then bd (ix l 1) fun e_19 => bd (m_eval_boolean fu (e_19.nF == 1)) fun c_20 => some (c_20, 0) else bd (m_eval_boolean fu false) fun c_21 => some (c_21, 0)) else (bif (nV.op == 24) then bd (ix l 0) fun e_22 => (bif (e_22.nF == 1) then bd (m_eval_boolean fu true) fun c_23 => some (c_23, 0) else bd (ix l 1) fun e_24 => bd (m_eval_boolean fu (e_24.nF == 1)) fun c_25 => some (c_25, 0)) else (bif (nV.op == 25) then bd (ix l 0) fun e_26 => bd (m_eval_boolean fu (e_26.nF == 0)) fun c_27 => some (c_27, 0) else (bif (nV.op == 26) then bd (ix l 0) fun e_28 => (bif (e_28.nF == 1) then bd (ix l 1) fun e_29 => some (e_29, 0) else bd (ix l 2) fun e_30 => some (e_30, 0)) else (bif (nV.op == 33) then bd (ix env.tables nV.n) fun e_31 => bd (ix l 0) fun e_32 => bd (m_table_Lookup fu e_31 env.date e_32.nF) fun c_33 => (bif (!c_33.2) then some ((MValue.mk 0 0 0), 6) else bd (ix e_31.rows c_33.1) fun e_34 => some ((MValue.mk e_31.val.kind e_31.val.en e_34.n), 0)) else (bif (nV.op == 34) then bd (ix env.tables (w64 (Int.tdiv nV.n 8))) fun e_35 => bd (ix l 0) fun e_36 => bd (m_table_Brackets fu e_35 env.date e_36.nF (Int.tmod nV.n 8)) fun c_37 => some ((MValue.mk 3 0 c_37.1), c_37.2) else some ((MValue.mk 2 0 (ln (cSlc 3 cValue) env.members)), 0)))))))))))))))))))

def m_eval_Apply_L1 (args : (List MValue)) (fu : Nat) (k_1 : (Unit → Option (MValue × Int))) : Nat → (Nat) → Option (MValue × Int)
  | 0, _ => none
  | fl_4 + 1, t25_3 => (bif (decide ((nI t25_3) < (ln cValue args))) then bd (ix args (nI t25_3)) fun e_5 => bd (m_eval_plausible fu e_5) fun c_6 => (bif (!c_6) then some ((MValue.mk 0 0 0), 8) else cnt t25_3 (m_eval_Apply_L1 args fu k_1 fl_4 (t25_3 + 1))) else k_1 ())

def m_eval_Apply (fu : Nat) (nV : MNode) (args : (List MValue)) (env : MEnv) : Option (MValue × Int) :=
  bd (m_eval_wellFormed fu nV (ln cValue args)) fun c_1 => (bif (!c_1) then some ((MValue.mk 0 0 0), 2) else bd (m_eval_exists fu nV env) fun c_2 => (bif (!c_2) then some ((MValue.mk 0 0 0), 6) else m_eval_Apply_L1 args fu (fun p_7 => bd (m_eval_allowed fu nV args env) fun c_8 => (bif (!c_8) then some ((MValue.mk 0 0 0), 8) else bd (m_eval_operate fu nV args env) fun c_9 => (bif (c_9.2 != 0) then some ((MValue.mk 0 0 0), c_9.2) else bd (m_eval_plausible fu c_9.1) fun c_10 => (bif (!c_10) then some ((MValue.mk 0 0 0), 3) else some (c_9.1, 0))))) fu 0))

def m_eval_evaluator_node_L1 (c_2 : (List Int)) (xV : MEvalEvaluator) (k_1 : ((List MValue) → Option (MValue × Int))) (R80 : MEvalEvaluator → Int → Option (MValue × Int)) : Nat → ((List MValue) × Nat) → Option (MValue × Int)
  | 0, _ => none
  | fl_23 + 1, (args_21, t108_22) => (bif (decide ((nI t108_22) < (ln cInt c_2))) then bd (ix c_2 (nI t108_22)) fun e_24 => bd (R80 xV e_24) fun c_25 => (bif (c_25.2 != 0) then some ((MValue.mk 0 0 0), c_25.2) else bd (ap args_21 [c_25.1]) fun z_26 => cnt t108_22 (m_eval_evaluator_node_L1 c_2 xV k_1 R80 fl_23 (z_26, t108_22 + 1))) else k_1 args_21)

def o_eval_evaluator_node (fu : Nat) (R80 : MEvalEvaluator → Int → Option (MValue × Int)) (R124 : MEvalEvaluator → Int → Option (Bool × Int)) (xV : MEvalEvaluator) (atV : Int) : Option (MValue × Int) :=
  bd (ix xV.e atV) fun e_1 => bd (m_expr_Operands fu xV.e atV) fun c_2 => (bif (e_1.op == 23) then (bif (e_1.n != 0) then some ((MValue.mk 0 0 0), 2) else bd (ix c_2 0) fun e_3 => bd (R124 xV e_3) fun c_4 => (bif (c_4.2 != 0) then some ((MValue.mk 0 0 0), c_4.2) else (bif (c_4.1 == (e_1.op == 24)) then bd (m_eval_boolean fu c_4.1) fun c_5 => some (c_5, 0) else bd (ix c_2 1) fun e_6 => bd (R124 xV e_6) fun c_7 => (bif (c_7.2 != 0) then some ((MValue.mk 0 0 0), c_7.2) else bd (m_eval_boolean fu c_7.1) fun c_8 => some (c_8, 0))))) else (bif (e_1.op == 24) then (bif (e_1.n != 0) then some ((MValue.mk 0 0 0), 2) else bd (ix c_2 0) fun e_9 => bd (R124 xV e_9) fun c_10 => (bif (c_10.2 != 0) then some ((MValue.mk 0 0 0), c_10.2) else (bif (c_10.1 == (e_1.op == 24)) then bd (m_eval_boolean fu c_10.1) fun c_11 => some (c_11, 0) else bd (ix c_2 1) fun e_12 => bd (R124 xV e_12) fun c_13 => (bif (c_13.2 != 0) then some ((MValue.mk 0 0 0), c_13.2) else bd (m_eval_boolean fu c_13.1) fun c_14 => some (c_14, 0))))) else (bif (e_1.op == 26) then (bif (e_1.n != 0) then some ((MValue.mk 0 0 0), 2) else bd (ix c_2 0) fun e_15 => bd (R124 xV e_15) fun c_16 => (bif (c_16.2 != 0) then some ((MValue.mk 0 0 0), c_16.2) else (bif c_16.1 then bd (ix c_2 1) fun e_17 => bd (R80 xV e_17) fun c_18 => some (c_18.1, c_18.2) else bd (ix c_2 2) fun e_19 => bd (R80 xV e_19) fun c_20 => some (c_20.1, c_20.2)))) else m_eval_evaluator_node_L1 c_2 xV (fun p_27 => bd (m_eval_Apply fu e_1 p_27 xV.env) fun c_28 => some (c_28.1, c_28.2)) R80 fu (([] : List MValue), 0))))

def o_eval_evaluator_truth (fu : Nat) (R80 : MEvalEvaluator → Int → Option (MValue × Int)) (R124 : MEvalEvaluator → Int → Option (Bool × Int)) (xV : MEvalEvaluator) (atV : Int) : Option (Bool × Int) :=
  bd (R80 xV atV) fun c_1 => (bif (c_1.2 != 0) then some (false, c_1.2) else (bif (c_1.1.kind != 1) then some (false, 8) else bd (m_eval_plausible fu c_1.1) fun c_2 => (bif (!c_2) then some (false, 8) else some ((c_1.1.nF == 1), 0))))

mutual
def m_eval_evaluator_node : Nat → MEvalEvaluator → Int → Option (MValue × Int)
  | 0 => fun _ _ => none
  | fu + 1 => fun x0 x1 => o_eval_evaluator_node fu (m_eval_evaluator_node fu) (m_eval_evaluator_truth fu) x0 x1
def m_eval_evaluator_truth : Nat → MEvalEvaluator → Int → Option (Bool × Int)
  | 0 => fun _ _ => none
  | fu + 1 => fun x0 x1 => o_eval_evaluator_truth fu (m_eval_evaluator_node fu) (m_eval_evaluator_truth fu) x0 x1
end

def m_eval_Eval (fu : Nat) (e : (List MNode)) (env : MEnv) : Option (MValue × Int) :=
  bd (m_expr_Starts fu e) fun c_1 => (bif (c_1.2 != 0) then some ((MValue.mk 0 0 0), c_1.2) else bd (m_eval_evaluator_node fu (MEvalEvaluator.mk e env) (w64 ((ln cNode e) - 1))) fun c_2 => some (c_2.1, c_2.2))

def m_interp_unit_fail (fu : Nat) (u : MInterpUnit) (code : Int) (defV : Int) (ruleV : Int) : Option MEvalError :=
  some (MEvalError.mk code u.member defV ruleV)

def m_ruletree_Validate_L1 (parent : (List Int)) (priority : (List Int)) (k_1 : (Unit → Option Int)) : Nat → (Nat) → Option Int
  | 0, _ => none
  | fl_2 + 1, t17_1 => (bif (decide ((nI t17_1) < (ln cInt parent))) then bd (ix parent (nI t17_1)) fun e_3 => (bif ((decide (e_3 < (-1))) || (decide ((nI t17_1) ≤ e_3))) then some 9 else bd (ix priority (nI t17_1)) fun e_4 => (bif (decide (e_4 < 0)) then some 3 else bd (ix priority (nI t17_1)) fun e_5 => (bif (decide (9 < e_5)) then some 3 else cnt t17_1 (m_ruletree_Validate_L1 parent priority k_1 fl_2 (t17_1 + 1))))) else k_1 ())

def m_ruletree_Validate (fu : Nat) (parent : (List Int)) (priority : (List Int)) : Option Int :=
  (bif ((ln cInt parent) != (ln cInt priority)) then some 2 else (bif (decide (8 < (ln cInt parent))) then some 4 else m_ruletree_Validate_L1 parent priority (fun p_6 => some 0) fu 0))

def m_ruletree_Children_L1 (parent : (List Int)) (atV : Int) (k_1 : ((List Int) → Option (List Int))) : Nat → ((List Int) × Nat) → Option (List Int)
  | 0, _ => none
  | fl_3 + 1, (out_1, t10_2) => (bif (decide ((nI t10_2) < (ln cInt parent))) then bd (ix parent (nI t10_2)) fun e_4 => (bif (e_4 == atV) then bd (ap out_1 [(nI t10_2)]) fun z_5 => cnt t10_2 (m_ruletree_Children_L1 parent atV k_1 fl_3 (z_5, t10_2 + 1)) else cnt t10_2 (m_ruletree_Children_L1 parent atV k_1 fl_3 (out_1, t10_2 + 1))) else k_1 out_1)

def m_ruletree_Children (fu : Nat) (parent : (List Int)) (atV : Int) : Option (List Int) :=
  m_ruletree_Children_L1 parent atV (fun p_6 => some p_6) fu (([] : List Int), 0)

def o_ruletree_tree_outcome (fu : Nat) (R133 : MRuletreeTree → Int → Option Int) (R178 : MRuletreeTree → Int → Option (List Int)) (t : MRuletreeTree) (atV : Int) : Option Int :=
  bd (R178 t atV) fun c_1 => (bif (decide (1 < (ln cInt c_1))) then some (-2) else (bif ((ln cInt c_1) == 1) then bd (ix c_1 0) fun e_2 => bd (R133 t e_2) fun c_3 => some c_3 else (bif (decide (0 ≤ atV)) then bd (ix t.applies atV) fun e_4 => (bif e_4 then some atV else some (-1)) else some (-1))))

def m_ruletree_tree_contenders_L1 (c_1 : (List Int)) (t : MRuletreeTree) (k_1 : ((List Int) → Option (List Int))) (R133 : MRuletreeTree → Int → Option Int) : Nat → ((List Int) × Nat) → Option (List Int)
  | 0, _ => none
  | fl_4 + 1, (out_2, t13_3) => (bif (decide ((nI t13_3) < (ln cInt c_1))) then bd (ix c_1 (nI t13_3)) fun e_5 => bd (R133 t e_5) fun c_6 => (bif (c_6 == (-1)) then cnt t13_3 (m_ruletree_tree_contenders_L1 c_1 t k_1 R133 fl_4 (out_2, t13_3 + 1)) else (bif (decide (0 < (ln cInt out_2))) then bd (ix t.priority e_5) fun e_7 => bd (ix out_2 0) fun e_8 => bd (ix t.priority e_8) fun e_9 => (bif (decide (e_9 < e_7)) then (bif ((ln cInt ([] : List Int)) == 0) then bd (ap ([] : List Int) [e_5]) fun z_10 => cnt t13_3 (m_ruletree_tree_contenders_L1 c_1 t k_1 R133 fl_4 (z_10, t13_3 + 1)) else bd (ix t.priority e_5) fun e_11 => none) else (bif ((ln cInt out_2) == 0) then bd (ap out_2 [e_5]) fun z_12 => cnt t13_3 (m_ruletree_tree_contenders_L1 c_1 t k_1 R133 fl_4 (z_12, t13_3 + 1)) else bd (ix t.priority e_5) fun e_13 => bd (ix out_2 0) fun e_14 => bd (ix t.priority e_14) fun e_15 => (bif (e_13 == e_15) then bd (ap out_2 [e_5]) fun z_16 => cnt t13_3 (m_ruletree_tree_contenders_L1 c_1 t k_1 R133 fl_4 (z_16, t13_3 + 1)) else cnt t13_3 (m_ruletree_tree_contenders_L1 c_1 t k_1 R133 fl_4 (out_2, t13_3 + 1))))) else (bif ((ln cInt out_2) == 0) then bd (ap out_2 [e_5]) fun z_17 => cnt t13_3 (m_ruletree_tree_contenders_L1 c_1 t k_1 R133 fl_4 (z_17, t13_3 + 1)) else bd (ix t.priority e_5) fun e_18 => bd (ix out_2 0) fun e_19 => bd (ix t.priority e_19) fun e_20 => (bif (e_18 == e_20) then bd (ap out_2 [e_5]) fun z_21 => cnt t13_3 (m_ruletree_tree_contenders_L1 c_1 t k_1 R133 fl_4 (z_21, t13_3 + 1)) else cnt t13_3 (m_ruletree_tree_contenders_L1 c_1 t k_1 R133 fl_4 (out_2, t13_3 + 1)))))) else k_1 out_2)

def o_ruletree_tree_contenders (fu : Nat) (R133 : MRuletreeTree → Int → Option Int) (R178 : MRuletreeTree → Int → Option (List Int)) (t : MRuletreeTree) (atV : Int) : Option (List Int) :=
  bd (m_ruletree_Children fu t.parent atV) fun c_1 => m_ruletree_tree_contenders_L1 c_1 t (fun p_22 => some p_22) R133 fu (([] : List Int), 0)

mutual
def m_ruletree_tree_outcome : Nat → MRuletreeTree → Int → Option Int
  | 0 => fun _ _ => none
  | fu + 1 => fun x0 x1 => o_ruletree_tree_outcome fu (m_ruletree_tree_outcome fu) (m_ruletree_tree_contenders fu) x0 x1
def m_ruletree_tree_contenders : Nat → MRuletreeTree → Int → Option (List Int)
  | 0 => fun _ _ => none
  | fu + 1 => fun x0 x1 => o_ruletree_tree_contenders fu (m_ruletree_tree_outcome fu) (m_ruletree_tree_contenders fu) x0 x1
end

def m_ruletree_Select (fu : Nat) (parent : (List Int)) (priority : (List Int)) (applies : (List Bool)) : Option Int :=
  bd (m_ruletree_Validate fu parent priority) fun c_1 => (bif ((c_1 != 0) || ((ln cBool applies) != (ln cInt parent))) then some (-1) else bd (m_ruletree_tree_outcome fu (MRuletreeTree.mk parent priority applies) (-1)) fun c_2 => some c_2)

def m_interp_unit_choose_L1 (c_1 : ((List Int) × (List Int) × (List Int))) (u : MInterpUnit) (fu : Nat) (defV : Int) (k_1 : ((List Bool) → Option (Int × MEvalError))) : Nat → (Nat × (List Bool)) → Option (Int × MEvalError)
  | 0, _ => none
  | fl_5 + 1, (t36_3, rw_4) => (bif (decide ((nI t36_3) < (ln cInt c_1.1))) then bd (ix c_1.1 (nI t36_3)) fun e_6 => bd (ix u.scope.rules e_6) fun e_7 => (bif ((ln cNode e_7.guard) == 0) then bd (ix rw_4 (nI t36_3)) fun e_8 => cnt t36_3 (m_interp_unit_choose_L1 c_1 u fu defV k_1 fl_5 (t36_3 + 1, (List.set rw_4 (Int.toNat (nI t36_3)) true))) else bd (m_eval_Eval fu e_7.guard u.env) fun c_9 => (bif (c_9.2 != 0) then bd (m_interp_unit_fail fu u c_9.2 defV e_6) fun c_10 => some (0, c_10) else bd (ix rw_4 (nI t36_3)) fun e_11 => cnt t36_3 (m_interp_unit_choose_L1 c_1 u fu defV k_1 fl_5 (t36_3 + 1, (List.set rw_4 (Int.toNat (nI t36_3)) (c_9.1.nF == 1)))))) else k_1 rw_4)

def m_interp_unit_choose (fu : Nat) (u : MInterpUnit) (defV : Int) : Option (Int × MEvalError) :=
  bd (m_effective_TreeOn fu u.scope defV u.env.date) fun c_1 => bd (mkS (ln cInt c_1.1) false) fun mk_2 => m_interp_unit_choose_L1 c_1 u fu defV (fun p_12 => bd (m_ruletree_Select fu c_1.2.1 c_1.2.2 p_12) fun c_13 => (bif (decide (c_13 < 0)) then some (c_13, (MEvalError.mk 0 0 0 0)) else bd (ix c_1.1 c_13) fun e_14 => some (e_14, (MEvalError.mk 0 0 0 0)))) fu (0, mk_2)

def n_interp_unit_define (fu : Nat) (scope : MScope) (Date : Int) (Inputs : (List MValue)) (Defs : (List MValue)) (Members : (List (List MValue))) (MemberTypes : (List MTy)) (Tables : (List MTable)) (member : Int) (rules : (List Int)) (defV : Int) : Option (MEvalError × (List MValue) × (List Int)) :=
  bd (m_interp_unit_choose fu (MInterpUnit.mk scope (MEnv.mk Date Inputs Defs Members MemberTypes Tables) member rules) defV) fun c_1 => (bif (c_1.2.code != 0) then some (c_1.2, Defs, rules) else (bif (c_1.1 == (-1)) then bd (m_interp_unit_fail fu (MInterpUnit.mk scope (MEnv.mk Date Inputs Defs Members MemberTypes Tables) member rules) 10 defV (-1)) fun c_2 => some (c_2, Defs, rules) else (bif (c_1.1 == (-2)) then bd (m_interp_unit_fail fu (MInterpUnit.mk scope (MEnv.mk Date Inputs Defs Members MemberTypes Tables) member rules) 11 defV (-1)) fun c_3 => some (c_3, Defs, rules) else bd (ix scope.rules c_1.1) fun e_4 => bd (m_eval_Eval fu e_4.value (MEnv.mk Date Inputs Defs Members MemberTypes Tables)) fun c_5 => (bif (c_5.2 != 0) then bd (m_interp_unit_fail fu (MInterpUnit.mk scope (MEnv.mk Date Inputs Defs Members MemberTypes Tables) member rules) c_5.2 defV c_1.1) fun c_6 => some (c_6, Defs, rules) else bd (ix Defs defV) fun e_7 => bd (ix rules defV) fun e_8 => some ((MEvalError.mk 0 0 0 0), (List.set Defs (Int.toNat defV) c_5.1), (List.set rules (Int.toNat defV) c_1.1))))))

def m_interp_unit_define (fu : Nat) (scope : MScope) (Date : Int) (Inputs : (List MValue)) (Defs : (List MValue)) (Members : (List (List MValue))) (MemberTypes : (List MTy)) (Tables : (List MTable)) (member : Int) (rules : (List Int)) (defV : Int) : Option (MEvalError × (List MValue) × (List Int)) := lk (n_interp_unit_define fu scope Date Inputs Defs Members MemberTypes Tables member rules defV) fun r_ => decide (List.length r_.2.1 = List.length Defs) && decide (List.length r_.2.2 = List.length rules)

def m_interp_unit_run_L1 (c_1 : ((List Int) × Int)) (want : (List Bool)) (fu : Nat) (scope : MScope) (Date : Int) (Inputs : (List MValue)) (Members : (List (List MValue))) (MemberTypes : (List MTy)) (Tables : (List MTable)) (member : Int) (k_1 : (((List MValue) × (List Int)) → Option (MEvalError × (List MValue) × (List Int)))) : Nat → (Nat × (List MValue) × (List Int)) → Option (MEvalError × (List MValue) × (List Int))
  | 0, _ => none
  | fl_5 + 1, (t20_2, rw_3, rw_4) => (bif (decide ((nI t20_2) < (ln cInt c_1.1))) then bd (ix c_1.1 (nI t20_2)) fun e_6 => bd (ix want e_6) fun e_7 => (bif (!e_7) then cnt t20_2 (m_interp_unit_run_L1 c_1 want fu scope Date Inputs Members MemberTypes Tables member k_1 fl_5 (t20_2 + 1, rw_3, rw_4)) else bd (m_interp_unit_define fu scope Date Inputs rw_3 Members MemberTypes Tables member rw_4 e_6) fun c_8 => (bif (c_8.1.code != 0) then some (c_8.1, c_8.2.1, c_8.2.2) else cnt t20_2 (m_interp_unit_run_L1 c_1 want fu scope Date Inputs Members MemberTypes Tables member k_1 fl_5 (t20_2 + 1, c_8.2.1, c_8.2.2)))) else k_1 (rw_3, rw_4))

def n_interp_unit_run (fu : Nat) (scope : MScope) (Date : Int) (Inputs : (List MValue)) (Defs : (List MValue)) (Members : (List (List MValue))) (MemberTypes : (List MTy)) (Tables : (List MTable)) (member : Int) (rules : (List Int)) (want : (List Bool)) : Option (MEvalError × (List MValue) × (List Int)) :=
  bd (m_deps_EvaluationOrder fu scope) fun c_1 => m_interp_unit_run_L1 c_1 want fu scope Date Inputs Members MemberTypes Tables member (fun p_9 => some ((MEvalError.mk 0 0 0 0), p_9.1, p_9.2)) fu (0, Defs, rules)

def m_interp_unit_run (fu : Nat) (scope : MScope) (Date : Int) (Inputs : (List MValue)) (Defs : (List MValue)) (Members : (List (List MValue))) (MemberTypes : (List MTy)) (Tables : (List MTable)) (member : Int) (rules : (List Int)) (want : (List Bool)) : Option (MEvalError × (List MValue) × (List Int)) := lk (n_interp_unit_run fu scope Date Inputs Defs Members MemberTypes Tables member rules want) fun r_ => decide (List.length r_.2.1 = List.length Defs) && decide (List.length r_.2.2 = List.length rules)

def m_interp_machine_run_L2 (cV : MCase) (members : MScope) (fu : Nat) (law : MLaw) (want : (List Bool)) (k_2 : (((List (List MValue)) × (List Bool) × (List MInterpUnit)) → Option (MEvalError × (List Bool) × (List Bool) × (List MInterpUnit) × (Option MInterpUnit)))) : Nat → (Nat × (List (List MValue)) × (List Bool) × (List MInterpUnit)) → Option (MEvalError × (List Bool) × (List Bool) × (List MInterpUnit) × (Option MInterpUnit))
  | 0, _ => none
  | fl_11 + 1, (t50_7, lf_8, lf_9, lf_10) => (bif (decide ((nI t50_7) < (ln (cSlc 3 cValue) cV.members))) then bd (ix cV.members (nI t50_7)) fun e_12 => bd (m_interp_newUnit fu members (MEnv.mk cV.date e_12 ([] : List MValue) ([] : List (List MValue)) ([] : List MTy) law.tables) (nI t50_7)) fun c_13 => bd (m_interp_unit_run fu c_13.1 c_13.2.1 c_13.2.2.1 c_13.2.2.2.1 c_13.2.2.2.2.1 c_13.2.2.2.2.2.1 c_13.2.2.2.2.2.2.1 c_13.2.2.2.2.2.2.2.1 c_13.2.2.2.2.2.2.2.2 lf_9) fun c_14 => (bif (c_14.1.code != 0) then some (c_14.1, want, lf_9, lf_10, none) else bd (ap lf_10 [(MInterpUnit.mk c_13.1 (MEnv.mk c_13.2.1 c_13.2.2.1 c_14.2.1 c_13.2.2.2.2.1 c_13.2.2.2.2.2.1 c_13.2.2.2.2.2.2.1) c_13.2.2.2.2.2.2.2.1 c_14.2.2)]) fun z_15 => bd (ap lf_8 [((MInterpUnit.mk c_13.1 (MEnv.mk c_13.2.1 c_13.2.2.1 c_14.2.1 c_13.2.2.2.2.1 c_13.2.2.2.2.2.1 c_13.2.2.2.2.2.2.1) c_13.2.2.2.2.2.2.2.1 c_14.2.2).env).defs]) fun z_16 => cnt t50_7 (m_interp_machine_run_L2 cV members fu law want k_2 fl_11 (t50_7 + 1, z_16, lf_9, z_15))) else k_2 (lf_8, lf_9, lf_10))

def m_interp_machine_run_L1 (members : MScope) (k_1 : ((List MTy) → Option (MEvalError × (List Bool) × (List Bool) × (List MInterpUnit) × (Option MInterpUnit)))) : Nat → (Nat × (List MTy)) → Option (MEvalError × (List Bool) × (List Bool) × (List MInterpUnit) × (Option MInterpUnit))
  | 0, _ => none
  | fl_3 + 1, (t32_1, lf_2) => (bif (decide ((nI t32_1) < (ln cField members.defs))) then bd (ix members.defs (nI t32_1)) fun e_4 => bd (ap lf_2 [e_4.ty]) fun z_5 => cnt t32_1 (m_interp_machine_run_L1 members k_1 fl_3 (t32_1 + 1, z_5)) else k_1 lf_2)

def m_interp_machine_run (fu : Nat) (law : MLaw) (scope : MScope) (members : MScope) (cV : MCase) (want : (List Bool)) (inner : (List Bool)) : Option (MEvalError × (List Bool) × (List Bool) × (List MInterpUnit) × (Option MInterpUnit)) :=
  m_interp_machine_run_L1 members (fun p_6 => m_interp_machine_run_L2 cV members fu law want (fun p_17 => bd (m_interp_newUnit fu scope (MEnv.mk cV.date cV.inputs ([] : List MValue) p_17.1 p_6 law.tables) (-1)) fun c_18 => bd (m_interp_unit_run fu c_18.1 c_18.2.1 c_18.2.2.1 c_18.2.2.2.1 c_18.2.2.2.2.1 c_18.2.2.2.2.2.1 c_18.2.2.2.2.2.2.1 c_18.2.2.2.2.2.2.2.1 c_18.2.2.2.2.2.2.2.2 want) fun c_19 => some (c_19.1, want, p_17.2.1, p_17.2.2, (some (MInterpUnit.mk c_18.1 (MEnv.mk c_18.2.1 c_18.2.2.1 c_19.2.1 c_18.2.2.2.2.1 c_18.2.2.2.2.2.1 c_18.2.2.2.2.2.2.1) c_18.2.2.2.2.2.2.2.1 c_19.2.2)))) fu (0, ([] : List (List MValue)), inner, ([] : List MInterpUnit))) fu (0, ([] : List MTy))

def m_interp_EvalDef (fu : Nat) (l : MLaw) (scope : Int) (cV : MCase) (defV : Int) : Option (MValue × Int × MEvalError) :=
  bd (m_interp_check fu l scope cV defV true) fun c_1 => (bif (c_1.code != 0) then some ((MValue.mk 0 0 0), 0, c_1) else bd (m_interp_newMachine fu l scope cV) fun c_2 => bd (m_interp_machine_require fu c_2.1 c_2.2.1 c_2.2.2.1 c_2.2.2.2.1 c_2.2.2.2.2.1 c_2.2.2.2.2.2 defV) fun c_3 => bd (m_interp_machine_run fu c_2.1 c_2.2.1 c_2.2.2.1 c_2.2.2.2.1 c_3.1 c_3.2) fun c_4 => (bif (c_4.1.code != 0) then some ((MValue.mk 0 0 0), 0, c_4.1) else bd (c_4.2.2.2.2) fun pt_5 => bd (ix pt_5.env.defs defV) fun e_6 => bd (ix pt_5.rules defV) fun e_7 => some (e_6, e_7, (MEvalError.mk 0 0 0 0))))

def m_lawdiff_counterpart_1 (fu : Nat) (s : MScope) (cap : BA) : Option Bool :=
  some (decide (s.name = cap))

def m_slices_IndexFunc_Scope_106_L1 (s : (List MScope)) (fu : Nat) (cap : BA) (k_1 : (Unit → Option Int)) : Nat → (Nat) → Option Int
  | 0, _ => none
  | fl_2 + 1, t8_1 => (bif (decide ((nI t8_1) < (ln cScope s))) then bd (ix s (nI t8_1)) fun e_3 => bd (m_lawdiff_counterpart_1 fu e_3 cap) fun c_4 => (bif c_4 then some (nI t8_1) else cnt t8_1 (m_slices_IndexFunc_Scope_106_L1 s fu cap k_1 fl_2 (t8_1 + 1))) else k_1 ())

def m_slices_IndexFunc_Scope_106 (fu : Nat) (s : (List MScope)) (cap : BA) : Option Int :=
  m_slices_IndexFunc_Scope_106_L1 s fu cap (fun p_5 => some (-1)) fu 0

def m_lawdiff_counterpart_2 (fu : Nat) (rV : MRule) (cap : BA) : Option Bool :=
  some (decide (rV.name = cap))

def m_slices_IndexFunc_Rule_108_L1 (s : (List MRule)) (fu : Nat) (cap : BA) (k_1 : (Unit → Option Int)) : Nat → (Nat) → Option Int
  | 0, _ => none
  | fl_2 + 1, t8_1 => (bif (decide ((nI t8_1) < (ln cRule s))) then bd (ix s (nI t8_1)) fun e_3 => bd (m_lawdiff_counterpart_2 fu e_3 cap) fun c_4 => (bif c_4 then some (nI t8_1) else cnt t8_1 (m_slices_IndexFunc_Rule_108_L1 s fu cap k_1 fl_2 (t8_1 + 1))) else k_1 ())

def m_slices_IndexFunc_Rule_108 (fu : Nat) (s : (List MRule)) (cap : BA) : Option Int :=
  m_slices_IndexFunc_Rule_108_L1 s fu cap (fun p_5 => some (-1)) fu 0

def m_lawdiff_counterpart (fu : Nat) (l : MLaw) (scope : BA) (ruleV : BA) : Option (MScope × MRule × Bool) :=
  bd (m_slices_IndexFunc_Scope_106 fu l.scopes scope) fun c_1 => (bif (decide (c_1 < 0)) then some ((MScope.mk ByteArray.empty 0 ([] : List MField) ([] : List MField) ([] : List MRule)), (MRule.mk ByteArray.empty 0 0 0 (MRange.mk 0 0) ([] : List MNode) ([] : List MNode) ByteArray.empty), false) else bd (ix l.scopes c_1) fun e_2 => bd (m_slices_IndexFunc_Rule_108 fu e_2.rules ruleV) fun c_3 => (bif (decide (c_3 < 0)) then some ((MScope.mk ByteArray.empty 0 ([] : List MField) ([] : List MField) ([] : List MRule)), (MRule.mk ByteArray.empty 0 0 0 (MRange.mk 0 0) ([] : List MNode) ([] : List MNode) ByteArray.empty), false) else bd (ix e_2.rules c_3) fun e_4 => some (e_2, e_4, true)))

def m_lawdiff_props (fu : Nat) (s : MScope) (rV : MRule) : Option MLawdiffProperties :=
  (bif ((decide (0 ≤ rV.df)) && (decide (rV.df < (ln cField s.defs)))) then bd (ix s.defs rV.df) fun e_1 => (bif ((decide (0 ≤ rV.parent)) && (decide (rV.parent < (ln cRule s.rules)))) then bd (ix s.rules rV.parent) fun e_2 => some (MLawdiffProperties.mk e_1.name e_2.name rV.source rV.prio rV.valid) else some (MLawdiffProperties.mk e_1.name ByteArray.empty rV.source rV.prio rV.valid)) else (bif ((decide (0 ≤ rV.parent)) && (decide (rV.parent < (ln cRule s.rules)))) then bd (ix s.rules rV.parent) fun e_3 => some (MLawdiffProperties.mk ByteArray.empty e_3.name rV.source rV.prio rV.valid) else some (MLawdiffProperties.mk ByteArray.empty ByteArray.empty rV.source rV.prio rV.valid)))

def m_lawdiff_ChangedRules_L2 (e_4 : MScope) (fu : Nat) (b : MLaw) (k_2 : ((List MChange) → Option (List MChange))) : Nat → ((List MChange) × Nat) → Option (List MChange)
  | 0, _ => none
  | fl_7 + 1, (out_5, t30_6) => (bif (decide ((nI t30_6) < (ln cRule e_4.rules))) then bd (ix e_4.rules (nI t30_6)) fun e_8 => bd (m_lawdiff_counterpart fu b e_4.name e_8.name) fun c_9 => (bif (!c_9.2.2) then bd (ap out_5 [(MChange.mk e_4.name e_8.name 1)]) fun z_10 => cnt t30_6 (m_lawdiff_ChangedRules_L2 e_4 fu b k_2 fl_7 (z_10, t30_6 + 1)) else bd (m_lawdiff_props fu e_4 e_8) fun c_11 => bd (m_lawdiff_props fu c_9.1 c_9.2.1) fun c_12 => (bif (!((decide (c_11.defF = c_12.defF)) && ((decide (c_11.parent = c_12.parent)) && ((decide (c_11.source = c_12.source)) && ((c_11.priority == c_12.priority) && ((c_11.valid.fr == c_12.valid.fr) && (c_11.valid.to == c_12.valid.to))))))) then bd (ap out_5 [(MChange.mk e_4.name e_8.name 3)]) fun z_13 => cnt t30_6 (m_lawdiff_ChangedRules_L2 e_4 fu b k_2 fl_7 (z_13, t30_6 + 1)) else bd (m_slices_Equal_Node fu e_8.guard c_9.2.1.guard) fun c_14 => (bif (!c_14) then bd (ap out_5 [(MChange.mk e_4.name e_8.name 3)]) fun z_15 => cnt t30_6 (m_lawdiff_ChangedRules_L2 e_4 fu b k_2 fl_7 (z_15, t30_6 + 1)) else bd (m_slices_Equal_Node fu e_8.value c_9.2.1.value) fun c_16 => (bif (!c_16) then bd (ap out_5 [(MChange.mk e_4.name e_8.name 3)]) fun z_17 => cnt t30_6 (m_lawdiff_ChangedRules_L2 e_4 fu b k_2 fl_7 (z_17, t30_6 + 1)) else cnt t30_6 (m_lawdiff_ChangedRules_L2 e_4 fu b k_2 fl_7 (out_5, t30_6 + 1)))))) else k_2 out_5)

def m_lawdiff_ChangedRules_L4 (e_23 : MScope) (fu : Nat) (a : MLaw) (k_4 : ((List MChange) → Option (List MChange))) : Nat → ((List MChange) × Nat) → Option (List MChange)
  | 0, _ => none
  | fl_26 + 1, (out_24, t95_25) => (bif (decide ((nI t95_25) < (ln cRule e_23.rules))) then bd (ix e_23.rules (nI t95_25)) fun e_27 => bd (m_lawdiff_counterpart fu a e_23.name e_27.name) fun c_28 => (bif (!c_28.2.2) then bd (ap out_24 [(MChange.mk e_23.name e_27.name 2)]) fun z_29 => cnt t95_25 (m_lawdiff_ChangedRules_L4 e_23 fu a k_4 fl_26 (z_29, t95_25 + 1)) else cnt t95_25 (m_lawdiff_ChangedRules_L4 e_23 fu a k_4 fl_26 (out_24, t95_25 + 1))) else k_4 out_24)

def m_lawdiff_ChangedRules_L3 (b : MLaw) (fu : Nat) (a : MLaw) (k_3 : ((List MChange) → Option (List MChange))) : Nat → ((List MChange) × Nat) → Option (List MChange)
  | 0, _ => none
  | fl_22 + 1, (out_20, t88_21) => (bif (decide ((nI t88_21) < (ln cScope b.scopes))) then bd (ix b.scopes (nI t88_21)) fun e_23 => m_lawdiff_ChangedRules_L4 e_23 fu a (fun p_30 => cnt t88_21 (m_lawdiff_ChangedRules_L3 b fu a k_3 fl_22 (p_30, t88_21 + 1))) fu (out_20, 0) else k_3 out_20)

def m_lawdiff_ChangedRules_L1 (a : MLaw) (fu : Nat) (b : MLaw) (k_1 : ((List MChange) → Option (List MChange))) : Nat → ((List MChange) × Nat) → Option (List MChange)
  | 0, _ => none
  | fl_3 + 1, (out_1, t23_2) => (bif (decide ((nI t23_2) < (ln cScope a.scopes))) then bd (ix a.scopes (nI t23_2)) fun e_4 => m_lawdiff_ChangedRules_L2 e_4 fu b (fun p_18 => cnt t23_2 (m_lawdiff_ChangedRules_L1 a fu b k_1 fl_3 (p_18, t23_2 + 1))) fu (out_1, 0) else k_1 out_1)

def m_lawdiff_ChangedRules (fu : Nat) (a : MLaw) (b : MLaw) : Option (List MChange) :=
  m_lawdiff_ChangedRules_L1 a fu b (fun p_19 => m_lawdiff_ChangedRules_L3 b fu a (fun p_31 => some p_31) fu (p_19, 0)) fu (([] : List MChange), 0)

def m_slices_Clone_110 (fu : Nat) (xs : List Int) : Option (List Int) := ap [] xs

def m_impact_closure_L1 (defs : (List Int)) (fu : Nat) (s : MScope) (k_1 : ((List Int) → Option (List Int))) : Nat → ((List Int) × Nat) → Option (List Int)
  | 0, _ => none
  | fl_4 + 1, (out_2, t12_3) => (bif (decide ((nI t12_3) < (ln cInt defs))) then bd (ix defs (nI t12_3)) fun e_5 => bd (m_deps_Transitive fu s e_5) fun c_6 => bd (ap out_2 c_6) fun z_7 => cnt t12_3 (m_impact_closure_L1 defs fu s k_1 fl_4 (z_7, t12_3 + 1)) else k_1 out_2)

def m_impact_closure (fu : Nat) (s : MScope) (defs : (List Int)) : Option (List Int) :=
  bd (m_slices_Clone_110 fu defs) fun c_1 => m_impact_closure_L1 defs fu s (fun p_8 => some p_8) fu (c_1, 0)

def m_impact_contains_1 (fu : Nat) (rV : MRule) (cap : BA) : Option Bool :=
  some (decide (rV.name = cap))

def m_slices_IndexFunc_Rule_109_L1 (s : (List MRule)) (fu : Nat) (cap : BA) (k_1 : (Unit → Option Int)) : Nat → (Nat) → Option Int
  | 0, _ => none
  | fl_2 + 1, t8_1 => (bif (decide ((nI t8_1) < (ln cRule s))) then bd (ix s (nI t8_1)) fun e_3 => bd (m_impact_contains_1 fu e_3 cap) fun c_4 => (bif c_4 then some (nI t8_1) else cnt t8_1 (m_slices_IndexFunc_Rule_109_L1 s fu cap k_1 fl_2 (t8_1 + 1))) else k_1 ())

def m_slices_IndexFunc_Rule_109 (fu : Nat) (s : (List MRule)) (cap : BA) : Option Int :=
  m_slices_IndexFunc_Rule_109_L1 s fu cap (fun p_5 => some (-1)) fu 0

def m_impact_contains (fu : Nat) (s : MScope) (defs : (List Int)) (ruleV : BA) : Option Bool :=
  bd (m_slices_IndexFunc_Rule_109 fu s.rules ruleV) fun c_1 => (bif (decide (0 ≤ c_1)) then bd (ix s.rules c_1) fun e_2 => bd (m_slices_Contains_int fu defs e_2.df) fun c_3 => some c_3 else some false)

def m_impact_relevant (fu : Nat) (l : MLaw) (scope : Int) (defV : Int) (cV : MChange) : Option Bool :=
  bd (ix l.scopes scope) fun e_1 => (bif (decide (e_1.name = cV.scope)) then bd (m_impact_closure fu e_1 [defV]) fun c_2 => bd (m_impact_contains fu e_1 c_2 cV.rule) fun c_3 => some c_3 else (bif (decide (e_1.ms < 0)) then some false else bd (ix l.scopes e_1.ms) fun e_4 => (bif (decide (e_4.name = cV.scope)) then bd (m_deps_MemberDefs fu e_1 defV) fun c_5 => bd (m_impact_closure fu e_4 c_5) fun c_6 => bd (m_impact_contains fu e_4 c_6 cV.rule) fun c_7 => some c_7 else some false)))

def m_impact_Compare_L1 (c_7 : (List MChange)) (fu : Nat) (a : MLaw) (scope : Int) (defV : Int) (b : MLaw) (k_1 : ((List MChange) → Option (MImpact × Int))) : Nat → (Nat × (List MChange)) → Option (MImpact × Int)
  | 0, _ => none
  | fl_10 + 1, (t94_8, lf_9) => (bif (decide ((nI t94_8) < (ln cChange c_7))) then bd (ix c_7 (nI t94_8)) fun e_11 => bd (m_impact_relevant fu a scope defV e_11) fun c_12 => (bif c_12 then bd (ap lf_9 [e_11]) fun z_13 => cnt t94_8 (m_impact_Compare_L1 c_7 fu a scope defV b k_1 fl_10 (t94_8 + 1, z_13)) else bd (m_impact_relevant fu b scope defV e_11) fun c_14 => (bif c_14 then bd (ap lf_9 [e_11]) fun z_15 => cnt t94_8 (m_impact_Compare_L1 c_7 fu a scope defV b k_1 fl_10 (t94_8 + 1, z_15)) else cnt t94_8 (m_impact_Compare_L1 c_7 fu a scope defV b k_1 fl_10 (t94_8 + 1, lf_9)))) else k_1 lf_9)

def m_impact_Compare (fu : Nat) (a : MLaw) (b : MLaw) (scope : Int) (cV : MCase) (defV : Int) : Option (MImpact × Int) :=
  bd (m_law_Validate fu a) fun c_1 => (bif (c_1.code != 0) then some ((MImpact.mk (MValue.mk 0 0 0) (MValue.mk 0 0 0) 0 0 ([] : List MChange)), 1) else bd (m_law_Validate fu b) fun c_2 => (bif (c_2.code != 0) then some ((MImpact.mk (MValue.mk 0 0 0) (MValue.mk 0 0 0) 0 0 ([] : List MChange)), 1) else (bif (((decide (scope < 0)) || (decide ((ln cScope a.scopes) ≤ scope))) || (decide (defV < 0))) then some ((MImpact.mk (MValue.mk 0 0 0) (MValue.mk 0 0 0) 0 0 ([] : List MChange)), 6) else bd (ix a.scopes scope) fun e_3 => (bif (decide ((ln cField e_3.defs) ≤ defV)) then some ((MImpact.mk (MValue.mk 0 0 0) (MValue.mk 0 0 0) 0 0 ([] : List MChange)), 6) else bd (m_lawdiff_SameInterface fu a b) fun c_4 => (bif (!c_4) then some ((MImpact.mk (MValue.mk 0 0 0) (MValue.mk 0 0 0) 0 0 ([] : List MChange)), 8) else bd (m_interp_EvalDef fu a scope cV defV) fun c_5 => bd (m_interp_EvalDef fu b scope cV defV) fun c_6 => bd (m_lawdiff_ChangedRules fu a b) fun c_7 => m_impact_Compare_L1 c_7 fu a scope defV b (fun p_16 => some ((MImpact.mk c_5.1 c_6.1 c_5.2.2.code c_6.2.2.code p_16), 0)) fu (0, ([] : List MChange)))))))

def m_same_Changes_L1 (a : (List MChange)) (b : (List MChange)) (k_1 : (Unit → Option Bool)) : Nat → (Nat) → Option Bool
  | 0, _ => none
  | fl_2 + 1, i_1 => (bif ((decide ((nI i_1) < (ln cChange a))) && (decide ((nI i_1) < (ln cChange b)))) then bd (ix a (nI i_1)) fun e_3 => bd (ix b (nI i_1)) fun e_4 => (bif (!((decide (e_3.scope = e_4.scope)) && ((decide (e_3.rule = e_4.rule)) && (e_3.kind == e_4.kind)))) then some false else cnt i_1 (m_same_Changes_L1 a b k_1 fl_2 (i_1 + 1))) else k_1 ())

def m_same_Changes (fu : Nat) (a : (List MChange)) (b : (List MChange)) : Option Bool :=
  (bif ((ln cChange a) != (ln cChange b)) then some false else m_same_Changes_L1 a b (fun p_5 => some true) fu 0)

def m_law52_awake (fu : Nat) : Option Bool :=
  bd (m_same_TinyLaw fu [(MNode.mk 3 500)]) fun c_1 => bd (m_same_TinyLaw fu [(MNode.mk 3 600)]) fun c_2 => bd (m_impact_Compare fu (MLaw.mk c_1.1 c_1.2.1 c_1.2.2) (MLaw.mk c_2.1 c_2.2.1 c_2.2.2) 0 (MCase.mk 1 [(MValue.mk 3 0 0)] ([] : List (List MValue))) 0) fun c_3 => (bif (((((c_3.2 != 0) || (!((c_3.1.old.kind == 3) && ((c_3.1.old.enum == 0) && (c_3.1.old.nF == 500))))) || (!((c_3.1.new.kind == 3) && ((c_3.1.new.enum == 0) && (c_3.1.new.nF == 600))))) || (c_3.1.oldCode != 0)) || (c_3.1.newCode != 0)) then some false else bd (m_same_Changes fu c_3.1.rules [(MChange.mk (⟨#[104, 111, 117, 115, 101]⟩) (⟨#[98, 97, 115, 101]⟩) 3)]) fun c_4 => (bif c_4 then bd (m_impact_IsChanged fu c_3.1) fun c_5 => (bif c_5 then bd (m_impact_IsChanged fu (MImpact.mk (MValue.mk 0 0 0) (MValue.mk 0 0 0) 0 0 ([] : List MChange))) fun c_6 => some (!c_6) else some false) else some false))

def m_law52_ImpactIsChanged (fu : Nat) (i : MImpact) : Option Bool :=
  bd (m_impact_IsChanged fu i) fun c_1 => bd (m_ref52_IsChanged fu i) fun c_2 => (bif (c_1 == c_2) then bd (m_law52_awake fu) fun c_3 => some c_3 else some false)

def m_same_smallScope_L3 (s : MScope) (k_3 : (Unit → Option Bool)) : Nat → (Nat) → Option Bool
  | 0, _ => none
  | fl_10 + 1, i_9 => (bif (decide ((nI i_9) < (ln cRule s.rules))) then bd (ix s.rules (nI i_9)) fun e_11 => (bif ((((decide (80 < (sz e_11.name))) || (decide (80 < (sz e_11.source)))) || (decide (50 < (ln cNode e_11.guard)))) || (decide (50 < (ln cNode e_11.value)))) then some false else cnt i_9 (m_same_smallScope_L3 s k_3 fl_10 (i_9 + 1))) else k_3 ())

def m_same_smallScope_L2 (s : MScope) (k_2 : (Unit → Option Bool)) : Nat → (Nat) → Option Bool
  | 0, _ => none
  | fl_6 + 1, i_5 => (bif (decide ((nI i_5) < (ln cField s.defs))) then bd (ix s.defs (nI i_5)) fun e_7 => (bif (decide (80 < (sz e_7.name))) then some false else cnt i_5 (m_same_smallScope_L2 s k_2 fl_6 (i_5 + 1))) else k_2 ())

def m_same_smallScope_L1 (s : MScope) (k_1 : (Unit → Option Bool)) : Nat → (Nat) → Option Bool
  | 0, _ => none
  | fl_2 + 1, i_1 => (bif (decide ((nI i_1) < (ln cField s.inputs))) then bd (ix s.inputs (nI i_1)) fun e_3 => (bif (decide (80 < (sz e_3.name))) then some false else cnt i_1 (m_same_smallScope_L1 s k_1 fl_2 (i_1 + 1))) else k_1 ())

def m_same_smallScope (fu : Nat) (s : MScope) : Option Bool :=
  (bif ((((decide (80 < (sz s.name))) || (decide (14 < (ln cField s.inputs)))) || (decide (14 < (ln cField s.defs)))) || (decide (60 < (ln cRule s.rules)))) then some false else m_same_smallScope_L1 s (fun p_4 => m_same_smallScope_L2 s (fun p_8 => m_same_smallScope_L3 s (fun p_12 => some true) fu 0) fu 0) fu 0)

def m_same_SmallLaw_L2 (l : MLaw) (i_1 : Nat) (k_2 : (Unit → Option Bool)) : Nat → (Nat) → Option Bool
  | 0, _ => none
  | fl_6 + 1, k_5 => bd (ix l.enums (nI i_1)) fun e_7 => (bif (decide ((nI k_5) < (ln cStr e_7.members))) then bd (ix l.enums (nI i_1)) fun e_8 => bd (ix e_8.members (nI k_5)) fun e_9 => (bif (decide (80 < (sz e_9))) then some false else cnt k_5 (m_same_SmallLaw_L2 l i_1 k_2 fl_6 (k_5 + 1))) else k_2 ())

def m_same_SmallLaw_L4 (l : MLaw) (fu : Nat) (k_4 : (Unit → Option Bool)) : Nat → (Int × Nat) → Option Bool
  | 0, _ => none
  | fl_20 + 1, (rules_18, i_19) => (bif (decide ((nI i_19) < (ln cScope l.scopes))) then bd (ix l.scopes (nI i_19)) fun e_21 => (bif (decide (60 < (w64 (rules_18 + (ln cRule e_21.rules))))) then some false else bd (ix l.scopes (nI i_19)) fun e_22 => bd (m_same_smallScope fu e_22) fun c_23 => (bif (!c_23) then some false else cnt i_19 (m_same_SmallLaw_L4 l fu k_4 fl_20 ((w64 (rules_18 + (ln cRule e_21.rules))), i_19 + 1)))) else k_4 ())

def m_same_SmallLaw_L3 (l : MLaw) (k_3 : (Unit → Option Bool)) : Nat → (Int × Nat) → Option Bool
  | 0, _ => none
  | fl_14 + 1, (rows_12, i_13) => (bif (decide ((nI i_13) < (ln cTable l.tables))) then bd (ix l.tables (nI i_13)) fun e_15 => bd (ix l.tables (nI i_13)) fun e_16 => (bif ((decide (80 < (sz e_16.name))) || (decide (150 < (w64 (rows_12 + (ln cRow e_15.rows)))))) then some false else cnt i_13 (m_same_SmallLaw_L3 l k_3 fl_14 ((w64 (rows_12 + (ln cRow e_15.rows))), i_13 + 1))) else k_3 ())

def m_same_SmallLaw_L1 (l : MLaw) (fu : Nat) (k_1 : (Unit → Option Bool)) : Nat → (Nat) → Option Bool
  | 0, _ => none
  | fl_2 + 1, i_1 => (bif (decide ((nI i_1) < (ln cEnum l.enums))) then bd (ix l.enums (nI i_1)) fun e_3 => (bif (decide (80 < (sz e_3.name))) then some false else bd (ix l.enums (nI i_1)) fun e_4 => (bif (decide (20 < (ln cStr e_4.members))) then some false else m_same_SmallLaw_L2 l i_1 (fun p_10 => cnt i_1 (m_same_SmallLaw_L1 l fu k_1 fl_2 (i_1 + 1))) fu 0)) else k_1 ())

def m_same_SmallLaw (fu : Nat) (l : MLaw) : Option Bool :=
  (bif (((decide (9 < (ln cEnum l.enums))) || (decide (9 < (ln cTable l.tables)))) || (decide (5 < (ln cScope l.scopes)))) then some false else m_same_SmallLaw_L1 l fu (fun p_11 => m_same_SmallLaw_L3 l (fun p_17 => m_same_SmallLaw_L4 l fu (fun p_24 => some true) fu (0, 0)) fu (0, 0)) fu 0)

def m_same_SmallCase_L1 (cV : MCase) (k_1 : (Unit → Option Bool)) : Nat → (Nat) → Option Bool
  | 0, _ => none
  | fl_2 + 1, i_1 => (bif (decide ((nI i_1) < (ln (cSlc 3 cValue) cV.members))) then bd (ix cV.members (nI i_1)) fun e_3 => (bif (decide (14 < (ln cValue e_3))) then some false else cnt i_1 (m_same_SmallCase_L1 cV k_1 fl_2 (i_1 + 1))) else k_1 ())

def m_same_SmallCase (fu : Nat) (cV : MCase) : Option Bool :=
  (bif ((decide (14 < (ln cValue cV.inputs))) || (decide (10 < (ln (cSlc 3 cValue) cV.members)))) then some false else m_same_SmallCase_L1 cV (fun p_4 => some true) fu 0)

def m_law52_small (fu : Nat) (p : MGuerdonlaw52Pair) (cV : MCase) : Option Bool :=
  bd (m_same_SmallLaw fu p.a) fun c_1 => (bif c_1 then bd (m_same_SmallLaw fu p.b) fun c_2 => (bif c_2 then bd (m_same_SmallCase fu cV) fun c_3 => some c_3 else some false) else some false)

def m_law52_ImpactSelf (fu : Nat) (l : MLaw) (scope : Int) (cV : MCase) (defV : Int) : Option Bool :=
  bd (m_law52_small fu (MGuerdonlaw52Pair.mk l l) cV) fun c_1 => (bif (!c_1) then bd (m_law52_awake fu) fun c_2 => some c_2 else bd (m_impact_Compare fu l l scope cV defV) fun c_3 => (bif (c_3.2 != 0) then (bif ((ln cChange c_3.1.rules) == 0) then bd (m_law52_awake fu) fun c_4 => some c_4 else some false) else bd (m_interp_EvalDef fu l scope cV defV) fun c_5 => (bif ((((((c_3.1.old.kind == c_5.1.kind) && ((c_3.1.old.enum == c_5.1.enum) && (c_3.1.old.nF == c_5.1.nF))) && ((c_3.1.new.kind == c_5.1.kind) && ((c_3.1.new.enum == c_5.1.enum) && (c_3.1.new.nF == c_5.1.nF)))) && (c_3.1.oldCode == c_5.2.2.code)) && (c_3.1.newCode == c_5.2.2.code)) && ((ln cChange c_3.1.rules) == 0)) then bd (m_impact_IsChanged fu c_3.1) fun c_6 => (bif (!c_6) then bd (m_law52_awake fu) fun c_7 => some c_7 else some false) else some false)))

def m_law52_ImpactSymmetric_L2 (c_4 : (MImpact × Int)) (c_3 : (MImpact × Int)) (n_6 : Nat) (scope : Int) (k_2 : (Bool → Option Bool)) : Nat → (Bool × Nat) → Option Bool
  | 0, _ => none
  | fl_10 + 1, (found_8, m_9) => (bif (decide ((nI m_9) < (ln cChange c_4.1.rules))) then (bif found_8 then cnt m_9 (m_law52_ImpactSymmetric_L2 c_4 c_3 n_6 scope k_2 fl_10 (true, m_9 + 1)) else bd (ix c_3.1.rules (nI n_6)) fun e_11 => bd (ix c_4.1.rules (nI m_9)) fun e_12 => (bif (decide (e_11.scope = e_12.scope)) then bd (ix c_3.1.rules (nI n_6)) fun e_13 => bd (ix c_4.1.rules (nI m_9)) fun e_14 => cnt m_9 (m_law52_ImpactSymmetric_L2 c_4 c_3 n_6 scope k_2 fl_10 ((decide (e_13.rule = e_14.rule)), m_9 + 1)) else cnt m_9 (m_law52_ImpactSymmetric_L2 c_4 c_3 n_6 scope k_2 fl_10 (false, m_9 + 1)))) else k_2 found_8)

def m_law52_ImpactSymmetric_L1 (c_3 : (MImpact × Int)) (c_4 : (MImpact × Int)) (scope : Int) (fu : Nat) (k_1 : (Unit → Option Bool)) : Nat → (Nat) → Option Bool
  | 0, _ => none
  | fl_7 + 1, n_6 => (bif (decide ((nI n_6) < (ln cChange c_3.1.rules))) then m_law52_ImpactSymmetric_L2 c_4 c_3 n_6 scope (fun p_15 => (bif (!p_15) then some false else cnt n_6 (m_law52_ImpactSymmetric_L1 c_3 c_4 scope fu k_1 fl_7 (n_6 + 1)))) fu (false, 0) else k_1 ())

def m_law52_ImpactSymmetric (fu : Nat) (p : MGuerdonlaw52Pair) (scope : Int) (cV : MCase) (defV : Int) : Option Bool :=
  bd (m_law52_small fu p cV) fun c_1 => (bif (!c_1) then bd (m_law52_awake fu) fun c_2 => some c_2 else bd (m_impact_Compare fu p.a p.b scope cV defV) fun c_3 => bd (m_impact_Compare fu p.b p.a scope cV defV) fun c_4 => (bif ((c_3.2 != 0) || (c_4.2 != 0)) then (bif ((c_3.2 == 0) == (c_4.2 == 0)) then bd (m_law52_awake fu) fun c_5 => some c_5 else some false) else (bif (((((!((c_3.1.old.kind == c_4.1.new.kind) && ((c_3.1.old.enum == c_4.1.new.enum) && (c_3.1.old.nF == c_4.1.new.nF)))) || (!((c_3.1.new.kind == c_4.1.old.kind) && ((c_3.1.new.enum == c_4.1.old.enum) && (c_3.1.new.nF == c_4.1.old.nF))))) || (c_3.1.oldCode != c_4.1.newCode)) || (c_3.1.newCode != c_4.1.oldCode)) || ((ln cChange c_3.1.rules) != (ln cChange c_4.1.rules))) then some false else m_law52_ImpactSymmetric_L1 c_3 c_4 scope fu (fun p_16 => bd (m_law52_awake fu) fun c_17 => some c_17) fu 0)))

def m_ref60_Points (fu : Nat) (rV : MKeyRange) (step : Int) : Option Int :=
  (bif (decide (rV.hi ≤ rV.lo)) then some 0 else bd (nz step) fun u_1 => some (minI (w64 ((w64 (Int.tdiv (w64 ((w64 (rV.hi - rV.lo)) - 1)) step)) + 1)) 4097))

def m_law60_few (fu : Nat) (rV : MKeyRange) (step : Int) : Option Bool :=
  (bif (((((decide (step < 1)) || (decide (1000000000000000 < step))) || (decide (rV.lo < (-1000000000000001)))) || (decide (1000000000000001 < rV.hi))) || (decide (rV.hi ≤ rV.lo))) then some true else bd (m_ref60_Points fu rV step) fun c_1 => some ((decide (c_1 ≤ 60)) || (decide (4096 < c_1))))

def m_law60_income (fu : Nat) (nV : Int) : Option MCase :=
  some (MCase.mk 36525 [(MValue.mk 3 0 nV)] ([] : List (List MValue)))

def m_marginal_query_check (fu : Nat) (q : MMarginalQuery) : Option Int :=
  bd (m_law_Validate fu q.law) fun c_1 => (bif (c_1.code != 0) then some 1 else (bif ((decide (q.scope < 0)) || (decide ((ln cScope q.law.scopes) ≤ q.scope))) then some 6 else bd (ix q.law.scopes q.scope) fun e_2 => (bif ((((decide (q.defF < 0)) || (decide ((ln cField e_2.defs) ≤ q.defF))) || (decide (q.input < 0))) || (decide ((ln cField e_2.inputs) ≤ q.input))) then some 6 else bd (ix e_2.defs q.defF) fun e_3 => (bif (e_3.ty.kind != 3) then some 8 else bd (ix e_2.inputs q.input) fun e_4 => (bif (e_4.ty.kind != 3) then some 8 else some 0)))))

def m_slices_Clone_78 (fu : Nat) (xs : List MValue) : Option (List MValue) := ap [] xs

def m_marginal_query_at (fu : Nat) (q : MMarginalQuery) (nV : Int) : Option (Int × Int) :=
  (bif (decide (q.input < (ln cValue q.cF.inputs))) then bd (m_slices_Clone_78 fu q.cF.inputs) fun c_1 => bd (ix c_1 q.input) fun e_2 => bd (m_interp_EvalDef fu q.law q.scope (MCase.mk q.cF.date (List.set c_1 (Int.toNat q.input) (MValue.mk 3 0 nV)) q.cF.members) q.defF) fun c_3 => (bif (c_3.2.2.code != 0) then some (0, c_3.2.2.code) else some (c_3.1.nF, 0)) else bd (m_interp_EvalDef fu q.law q.scope q.cF q.defF) fun c_4 => (bif (c_4.2.2.code != 0) then some (0, c_4.2.2.code) else some (c_4.1.nF, 0)))

def m_marginal_ValueAt (fu : Nat) (l : MLaw) (scope : Int) (cV : MCase) (defV : Int) (input : Int) (nV : Int) : Option (Int × Int) :=
  bd (m_marginal_query_check fu (MMarginalQuery.mk l scope defV input cV)) fun c_1 => (bif (c_1 != 0) then some (0, c_1) else bd (m_marginal_query_at fu (MMarginalQuery.mk l scope defV input cV) nV) fun c_2 => some (c_2.1, c_2.2))

def m_marginal_validStep (fu : Nat) (step : Int) : Option Bool :=
  some ((decide (1 ≤ step)) && (decide (step ≤ 1000000000000000)))

def m_marginal_Rate (fu : Nat) (l : MLaw) (scope : Int) (cV : MCase) (defV : Int) (input : Int) (step : Int) : Option (Int × Int) :=
  bd (m_marginal_query_check fu (MMarginalQuery.mk l scope defV input cV)) fun c_1 => (bif (c_1 != 0) then some (0, c_1) else bd (m_marginal_validStep fu step) fun c_2 => (bif (!c_2) then some (0, 3) else (bif (decide ((ln cValue cV.inputs) ≤ input)) then some (0, 5) else bd (ix cV.inputs input) fun e_3 => bd (m_marginal_query_at fu (MMarginalQuery.mk l scope defV input cV) e_3.nF) fun c_4 => (bif (c_4.2 != 0) then some (0, c_4.2) else bd (m_marginal_query_at fu (MMarginalQuery.mk l scope defV input cV) (w64 (e_3.nF + step))) fun c_5 => (bif (c_5.2 != 0) then some (0, c_5.2) else bd (m_rate_FromRatio fu (w64 (c_5.1 - c_4.1)) step 4) fun c_6 => some (c_6.1, c_6.2))))))

def m_marginal_points (fu : Nat) (rV : MKeyRange) (step : Int) : Option Int :=
  (bif (decide (rV.hi ≤ rV.lo)) then some 0 else bd (nz step) fun u_1 => some (w64 ((w64 (Int.tdiv (w64 ((w64 (rV.hi - rV.lo)) - 1)) step)) + 1)))

def m_marginal_FindCliffs_L1 (c_3 : Int) (fu : Nat) (l : MLaw) (scope : Int) (defV : Int) (input : Int) (cV : MCase) (rV : MKeyRange) (step : Int) (k_1 : ((List MCliff) → Option ((List MCliff) × Int))) : Nat → ((List MCliff) × Int × Nat) → Option ((List MCliff) × Int)
  | 0, _ => none
  | fl_7 + 1, (out_4, before_5, t65_6) => (bif (decide ((nI t65_6) < c_3)) then bd (m_marginal_query_at fu (MMarginalQuery.mk l scope defV input cV) (w64 (rV.lo + (w64 ((nI t65_6) * step))))) fun c_8 => (bif (c_8.2 != 0) then some (([] : List MCliff), c_8.2) else (bif ((decide (0 < (nI t65_6))) && (decide (c_8.1 < before_5))) then bd (ap out_4 [(MCliff.mk (w64 (rV.lo + (w64 ((nI t65_6) * step)))) before_5 c_8.1)]) fun z_9 => cnt t65_6 (m_marginal_FindCliffs_L1 c_3 fu l scope defV input cV rV step k_1 fl_7 (z_9, c_8.1, t65_6 + 1)) else cnt t65_6 (m_marginal_FindCliffs_L1 c_3 fu l scope defV input cV rV step k_1 fl_7 (out_4, c_8.1, t65_6 + 1)))) else k_1 out_4)

def m_marginal_FindCliffs (fu : Nat) (l : MLaw) (scope : Int) (cV : MCase) (defV : Int) (input : Int) (rV : MKeyRange) (step : Int) : Option ((List MCliff) × Int) :=
  bd (m_marginal_query_check fu (MMarginalQuery.mk l scope defV input cV)) fun c_1 => (bif (c_1 != 0) then some (([] : List MCliff), c_1) else bd (m_marginal_validStep fu step) fun c_2 => (bif (((((!c_2) || (decide (rV.lo < (-1000000000000001)))) || (decide (1000000000000001 < rV.lo))) || (decide (rV.hi < (-1000000000000001)))) || (decide (1000000000000001 < rV.hi))) then some (([] : List MCliff), 3) else bd (m_marginal_points fu rV step) fun c_3 => (bif (decide (4096 < c_3)) then some (([] : List MCliff), 4) else m_marginal_FindCliffs_L1 c_3 fu l scope defV input cV rV step (fun p_10 => some (p_10, 0)) fu (([] : List MCliff), 0, 0))))

def m_same_Cliffs_L1 (a : (List MCliff)) (b : (List MCliff)) (k_1 : (Unit → Option Bool)) : Nat → (Nat) → Option Bool
  | 0, _ => none
  | fl_2 + 1, i_1 => (bif ((decide ((nI i_1) < (ln cCliff a))) && (decide ((nI i_1) < (ln cCliff b)))) then bd (ix a (nI i_1)) fun e_3 => bd (ix b (nI i_1)) fun e_4 => (bif (!((e_3.atF == e_4.atF) && ((e_3.before == e_4.before) && (e_3.after == e_4.after)))) then some false else cnt i_1 (m_same_Cliffs_L1 a b k_1 fl_2 (i_1 + 1))) else k_1 ())

def m_same_Cliffs (fu : Nat) (a : (List MCliff)) (b : (List MCliff)) : Option Bool :=
  (bif ((ln cCliff a) != (ln cCliff b)) then some false else m_same_Cliffs_L1 a b (fun p_5 => some true) fu 0)

def m_law20_small (fu : Nat) (l : MLaw) (cV : MCase) : Option Bool :=
  bd (m_same_SmallLaw fu l) fun c_1 => (bif c_1 then bd (m_same_SmallCase fu cV) fun c_2 => some c_2 else some false)

def m_interp_machine_all_L2 (inner : (List Bool)) (k_2 : ((List Bool) → Option ((List Bool) × (List Bool)))) : Nat → (Nat × (List Bool)) → Option ((List Bool) × (List Bool))
  | 0, _ => none
  | fl_8 + 1, (t24_6, rw_7) => (bif (decide ((nI t24_6) < (ln cBool inner))) then bd (ix rw_7 (nI t24_6)) fun e_9 => cnt t24_6 (m_interp_machine_all_L2 inner k_2 fl_8 (t24_6 + 1, (List.set rw_7 (Int.toNat (nI t24_6)) true))) else k_2 rw_7)

def m_interp_machine_all_L1 (want : (List Bool)) (k_1 : ((List Bool) → Option ((List Bool) × (List Bool)))) : Nat → (Nat × (List Bool)) → Option ((List Bool) × (List Bool))
  | 0, _ => none
  | fl_3 + 1, (t9_1, rw_2) => (bif (decide ((nI t9_1) < (ln cBool want))) then bd (ix rw_2 (nI t9_1)) fun e_4 => cnt t9_1 (m_interp_machine_all_L1 want k_1 fl_3 (t9_1 + 1, (List.set rw_2 (Int.toNat (nI t9_1)) true))) else k_1 rw_2)

def n_interp_machine_all (fu : Nat) (law : MLaw) (scope : MScope) (members : MScope) (cV : MCase) (want : (List Bool)) (inner : (List Bool)) : Option ((List Bool) × (List Bool)) :=
  m_interp_machine_all_L1 want (fun p_5 => m_interp_machine_all_L2 inner (fun p_10 => some (p_5, p_10)) fu (0, inner)) fu (0, want)

def m_interp_machine_all (fu : Nat) (law : MLaw) (scope : MScope) (members : MScope) (cV : MCase) (want : (List Bool)) (inner : (List Bool)) : Option ((List Bool) × (List Bool)) := lk (n_interp_machine_all fu law scope members cV want inner) fun r_ => decide (List.length r_.1 = List.length want) && decide (List.length r_.2 = List.length inner)

def m_interp_Run_L1 (c_4 : (MEvalError × (List Bool) × (List Bool) × (List MInterpUnit) × (Option MInterpUnit))) (k_1 : ((List MMemberResult) → Option (MResult × MEvalError))) : Nat → (Nat × (List MMemberResult)) → Option (MResult × MEvalError)
  | 0, _ => none
  | fl_8 + 1, (t57_6, lf_7) => (bif (decide ((nI t57_6) < (ln (cPtr cInterpUnit) c_4.2.2.2.1))) then bd (ix c_4.2.2.2.1 (nI t57_6)) fun e_9 => bd (ap lf_7 [(MMemberResult.mk e_9.env.defs e_9.rules)]) fun z_10 => cnt t57_6 (m_interp_Run_L1 c_4 k_1 fl_8 (t57_6 + 1, z_10)) else k_1 lf_7)

def m_interp_Run (fu : Nat) (l : MLaw) (scope : Int) (cV : MCase) : Option (MResult × MEvalError) :=
  bd (m_interp_check fu l scope cV 0 false) fun c_1 => (bif (c_1.code != 0) then some ((MResult.mk ([] : List MValue) ([] : List Int) ([] : List MMemberResult)), c_1) else bd (m_interp_newMachine fu l scope cV) fun c_2 => bd (m_interp_machine_all fu c_2.1 c_2.2.1 c_2.2.2.1 c_2.2.2.2.1 c_2.2.2.2.2.1 c_2.2.2.2.2.2) fun c_3 => bd (m_interp_machine_run fu c_2.1 c_2.2.1 c_2.2.2.1 c_2.2.2.2.1 c_3.1 c_3.2) fun c_4 => (bif (c_4.1.code != 0) then some ((MResult.mk ([] : List MValue) ([] : List Int) ([] : List MMemberResult)), c_4.1) else bd (c_4.2.2.2.2) fun pt_5 => m_interp_Run_L1 c_4 (fun p_11 => some ((MResult.mk pt_5.env.defs pt_5.rules p_11), (MEvalError.mk 0 0 0 0))) fu (0, ([] : List MMemberResult))))

def m_same_Ints_L1 (a : (List Int)) (b : (List Int)) (k_1 : (Unit → Option Bool)) : Nat → (Nat) → Option Bool
  | 0, _ => none
  | fl_2 + 1, i_1 => (bif ((decide ((nI i_1) < (ln cInt a))) && (decide ((nI i_1) < (ln cInt b)))) then bd (ix a (nI i_1)) fun e_3 => bd (ix b (nI i_1)) fun e_4 => (bif (e_3 != e_4) then some false else cnt i_1 (m_same_Ints_L1 a b k_1 fl_2 (i_1 + 1))) else k_1 ())

def m_same_Ints (fu : Nat) (a : (List Int)) (b : (List Int)) : Option Bool :=
  (bif ((ln cInt a) != (ln cInt b)) then some false else m_same_Ints_L1 a b (fun p_5 => some true) fu 0)

def m_interp_newMachine_o (fu : Nat) (l : MLaw) (scope : Int) (cV : MCase) : Option ((List MEnum) × (List MTable) × (List MScope) × MScope × MScope × MCase × (List Bool) × (List Bool)) :=
  bd (ix l.scopes scope) fun e_1 => (bif (decide (0 ≤ e_1.ms)) then bd (ix l.scopes e_1.ms) fun e_2 => bd (mkS (ln cField e_1.defs) false) fun mk_3 => bd (mkS (ln cField e_2.defs) false) fun mk_4 => some (l.enums, l.tables, l.scopes, e_1, e_2, cV, mk_3, mk_4) else bd (mkS (ln cField e_1.defs) false) fun mk_5 => bd (mkS (ln cField ([] : List MField)) false) fun mk_6 => some (l.enums, l.tables, l.scopes, e_1, (MScope.mk ByteArray.empty 0 ([] : List MField) ([] : List MField) ([] : List MRule)), cV, mk_5, mk_6))

def m_interp_machine_all_o_L2 (inner : (List Bool)) (k_2 : ((List Bool) → Option ((List Bool) × (List Bool)))) : Nat → (Nat × (List Bool)) → Option ((List Bool) × (List Bool))
  | 0, _ => none
  | fl_8 + 1, (t24_6, rw_7) => (bif (decide ((nI t24_6) < (ln cBool inner))) then bd (ix rw_7 (nI t24_6)) fun e_9 => cnt t24_6 (m_interp_machine_all_o_L2 inner k_2 fl_8 (t24_6 + 1, (List.set rw_7 (Int.toNat (nI t24_6)) true))) else k_2 rw_7)

def m_interp_machine_all_o_L1 (want : (List Bool)) (k_1 : ((List Bool) → Option ((List Bool) × (List Bool)))) : Nat → (Nat × (List Bool)) → Option ((List Bool) × (List Bool))
  | 0, _ => none
  | fl_3 + 1, (t9_1, rw_2) => (bif (decide ((nI t9_1) < (ln cBool want))) then bd (ix rw_2 (nI t9_1)) fun e_4 => cnt t9_1 (m_interp_machine_all_o_L1 want k_1 fl_3 (t9_1 + 1, (List.set rw_2 (Int.toNat (nI t9_1)) true))) else k_1 rw_2)

def n_interp_machine_all_o (fu : Nat) (Enums : (List MEnum)) (Tables : (List MTable)) (Scopes : (List MScope)) (scope : MScope) (members : MScope) (cV : MCase) (want : (List Bool)) (inner : (List Bool)) : Option ((List Bool) × (List Bool)) :=
  m_interp_machine_all_o_L1 want (fun p_5 => m_interp_machine_all_o_L2 inner (fun p_10 => some (p_5, p_10)) fu (0, inner)) fu (0, want)

def m_interp_machine_all_o (fu : Nat) (Enums : (List MEnum)) (Tables : (List MTable)) (Scopes : (List MScope)) (scope : MScope) (members : MScope) (cV : MCase) (want : (List Bool)) (inner : (List Bool)) : Option ((List Bool) × (List Bool)) := lk (n_interp_machine_all_o fu Enums Tables Scopes scope members cV want inner) fun r_ => decide (List.length r_.1 = List.length want) && decide (List.length r_.2 = List.length inner)

def m_interp_machine_run_o_L2 (cV : MCase) (members : MScope) (fu : Nat) (Tables : (List MTable)) (want : (List Bool)) (k_2 : (((List (List MValue)) × (List Bool) × (List MInterpUnit)) → Option (MEvalError × (List Bool) × (List Bool) × (List MInterpUnit) × (Option MInterpUnit)))) : Nat → (Nat × (List (List MValue)) × (List Bool) × (List MInterpUnit)) → Option (MEvalError × (List Bool) × (List Bool) × (List MInterpUnit) × (Option MInterpUnit))
  | 0, _ => none
  | fl_11 + 1, (t50_7, lf_8, lf_9, lf_10) => (bif (decide ((nI t50_7) < (ln (cSlc 3 cValue) cV.members))) then bd (ix cV.members (nI t50_7)) fun e_12 => bd (m_interp_newUnit fu members (MEnv.mk cV.date e_12 ([] : List MValue) ([] : List (List MValue)) ([] : List MTy) Tables) (nI t50_7)) fun c_13 => bd (m_interp_unit_run fu c_13.1 c_13.2.1 c_13.2.2.1 c_13.2.2.2.1 c_13.2.2.2.2.1 c_13.2.2.2.2.2.1 c_13.2.2.2.2.2.2.1 c_13.2.2.2.2.2.2.2.1 c_13.2.2.2.2.2.2.2.2 lf_9) fun c_14 => (bif (c_14.1.code != 0) then some (c_14.1, want, lf_9, lf_10, none) else bd (ap lf_10 [(MInterpUnit.mk c_13.1 (MEnv.mk c_13.2.1 c_13.2.2.1 c_14.2.1 c_13.2.2.2.2.1 c_13.2.2.2.2.2.1 c_13.2.2.2.2.2.2.1) c_13.2.2.2.2.2.2.2.1 c_14.2.2)]) fun z_15 => bd (ap lf_8 [((MInterpUnit.mk c_13.1 (MEnv.mk c_13.2.1 c_13.2.2.1 c_14.2.1 c_13.2.2.2.2.1 c_13.2.2.2.2.2.1 c_13.2.2.2.2.2.2.1) c_13.2.2.2.2.2.2.2.1 c_14.2.2).env).defs]) fun z_16 => cnt t50_7 (m_interp_machine_run_o_L2 cV members fu Tables want k_2 fl_11 (t50_7 + 1, z_16, lf_9, z_15))) else k_2 (lf_8, lf_9, lf_10))

def m_interp_machine_run_o_L1 (members : MScope) (k_1 : ((List MTy) → Option (MEvalError × (List Bool) × (List Bool) × (List MInterpUnit) × (Option MInterpUnit)))) : Nat → (Nat × (List MTy)) → Option (MEvalError × (List Bool) × (List Bool) × (List MInterpUnit) × (Option MInterpUnit))
  | 0, _ => none
  | fl_3 + 1, (t32_1, lf_2) => (bif (decide ((nI t32_1) < (ln cField members.defs))) then bd (ix members.defs (nI t32_1)) fun e_4 => bd (ap lf_2 [e_4.ty]) fun z_5 => cnt t32_1 (m_interp_machine_run_o_L1 members k_1 fl_3 (t32_1 + 1, z_5)) else k_1 lf_2)

def m_interp_machine_run_o (fu : Nat) (Enums : (List MEnum)) (Tables : (List MTable)) (Scopes : (List MScope)) (scope : MScope) (members : MScope) (cV : MCase) (want : (List Bool)) (inner : (List Bool)) : Option (MEvalError × (List Bool) × (List Bool) × (List MInterpUnit) × (Option MInterpUnit)) :=
  m_interp_machine_run_o_L1 members (fun p_6 => m_interp_machine_run_o_L2 cV members fu Tables want (fun p_17 => bd (m_interp_newUnit fu scope (MEnv.mk cV.date cV.inputs ([] : List MValue) p_17.1 p_6 Tables) (-1)) fun c_18 => bd (m_interp_unit_run fu c_18.1 c_18.2.1 c_18.2.2.1 c_18.2.2.2.1 c_18.2.2.2.2.1 c_18.2.2.2.2.2.1 c_18.2.2.2.2.2.2.1 c_18.2.2.2.2.2.2.2.1 c_18.2.2.2.2.2.2.2.2 want) fun c_19 => some (c_19.1, want, p_17.2.1, p_17.2.2, (some (MInterpUnit.mk c_18.1 (MEnv.mk c_18.2.1 c_18.2.2.1 c_19.2.1 c_18.2.2.2.2.1 c_18.2.2.2.2.2.1 c_18.2.2.2.2.2.2.1) c_18.2.2.2.2.2.2.2.1 c_19.2.2)))) fu (0, ([] : List (List MValue)), inner, ([] : List MInterpUnit))) fu (0, ([] : List MTy))

def m_interp_Run_o_L1 (c_4 : (MEvalError × (List Bool) × (List Bool) × (List MInterpUnit) × (Option MInterpUnit))) (k_1 : ((List MMemberResult) → Option (MResult × MEvalError))) : Nat → (Nat × (List MMemberResult)) → Option (MResult × MEvalError)
  | 0, _ => none
  | fl_8 + 1, (t57_6, lf_7) => (bif (decide ((nI t57_6) < (ln (cPtr cInterpUnit) c_4.2.2.2.1))) then bd (ix c_4.2.2.2.1 (nI t57_6)) fun e_9 => bd (ap lf_7 [(MMemberResult.mk e_9.env.defs e_9.rules)]) fun z_10 => cnt t57_6 (m_interp_Run_o_L1 c_4 k_1 fl_8 (t57_6 + 1, z_10)) else k_1 lf_7)

def m_interp_Run_o (fu : Nat) (l : MLaw) (scope : Int) (cV : MCase) : Option (MResult × MEvalError) :=
  bd (m_interp_check fu (MLaw.mk l.enums l.tables l.scopes) scope cV 0 false) fun c_1 => (bif (c_1.code != 0) then some ((MResult.mk ([] : List MValue) ([] : List Int) ([] : List MMemberResult)), c_1) else bd (m_interp_newMachine_o fu (MLaw.mk l.enums l.tables l.scopes) scope cV) fun c_2 => bd (m_interp_machine_all_o fu c_2.1 c_2.2.1 l.scopes c_2.2.2.2.1 c_2.2.2.2.2.1 c_2.2.2.2.2.2.1 c_2.2.2.2.2.2.2.1 c_2.2.2.2.2.2.2.2) fun c_3 => bd (m_interp_machine_run_o fu c_2.1 c_2.2.1 l.scopes c_2.2.2.2.1 c_2.2.2.2.2.1 c_2.2.2.2.2.2.1 c_3.1 c_3.2) fun c_4 => (bif (c_4.1.code != 0) then some ((MResult.mk ([] : List MValue) ([] : List Int) ([] : List MMemberResult)), c_4.1) else bd (c_4.2.2.2.2) fun pt_5 => m_interp_Run_o_L1 c_4 (fun p_11 => some ((MResult.mk pt_5.env.defs pt_5.rules p_11), (MEvalError.mk 0 0 0 0))) fu (0, ([] : List MMemberResult))))

def m_law20_awake (fu : Nat) : Option Bool :=
  bd (m_same_TinyLaw fu [(MNode.mk 7 0)]) fun c_1 => bd (m_interp_Run_o fu (MLaw.mk c_1.1 c_1.2.1 c_1.2.2) 0 (MCase.mk 0 [(MValue.mk 3 0 500)] ([] : List (List MValue)))) fun c_2 => (bif ((!((c_2.2.code == 0) && ((c_2.2.member == 0) && ((c_2.2.defF == 0) && (c_2.2.ruleF == 0))))) || ((ln cValue c_2.1.values) != 1)) then some false else bd (ix c_2.1.values 0) fun e_3 => bd (ix [(MValue.mk 3 0 500)] 0) fun e_4 => (bif (!((e_3.kind == e_4.kind) && ((e_3.enum == e_4.enum) && (e_3.nF == e_4.nF)))) then some false else bd (m_same_Ints fu c_2.1.rules [0]) fun c_5 => (bif (!c_5) then some false else bd (ix c_1.2.2 0) fun e_6 => bd (m_interp_Run_o fu (MLaw.mk c_1.1 c_1.2.1 (List.set c_1.2.2 (Int.toNat 0) (MScope.mk e_6.name e_6.ms e_6.inputs e_6.defs ([] : List MRule)))) 0 (MCase.mk 0 [(MValue.mk 3 0 500)] ([] : List (List MValue)))) fun c_7 => some ((c_7.2.code == 10) && ((c_7.2.member == (-1)) && ((c_7.2.defF == 0) && (c_7.2.ruleF == (-1))))))))

def m_law20_inForce_L1 (c_1 : (List Int)) (ruleV : Int) (s : MScope) (k_1 : (Unit → Option Bool)) : Nat → (Nat) → Option Bool
  | 0, _ => none
  | fl_3 + 1, i_2 => (bif (decide ((nI i_2) < (ln cInt c_1))) then bd (ix c_1 (nI i_2)) fun e_4 => (bif (e_4 == ruleV) then some ((decide (0 ≤ ruleV)) && (decide (ruleV < (ln cRule s.rules)))) else cnt i_2 (m_law20_inForce_L1 c_1 ruleV s k_1 fl_3 (i_2 + 1))) else k_1 ())

def m_law20_inForce (fu : Nat) (s : MScope) (defV : Int) (ruleV : Int) (date : Int) : Option Bool :=
  bd (m_effective_RulesOn fu s defV date) fun c_1 => m_law20_inForce_L1 c_1 ruleV s (fun p_5 => some false) fu 0

def m_law20_follows_L1 (s : MScope) (rules : (List Int)) (fu : Nat) (env : MEnv) (values : (List MValue)) (k_1 : (Unit → Option Bool)) : Nat → (Nat) → Option Bool
  | 0, _ => none
  | fl_2 + 1, d_1 => (bif (decide ((nI d_1) < (ln cField s.defs))) then bd (ix rules (nI d_1)) fun e_3 => bd (m_law20_inForce fu s (nI d_1) e_3 env.date) fun c_4 => (bif (!c_4) then some false else bd (ix rules (nI d_1)) fun e_5 => bd (ix s.rules e_5) fun e_6 => bd (m_eval_Eval fu e_6.value (MEnv.mk env.date env.inputs values env.members env.memberTypes env.tables)) fun c_7 => (bif (c_7.2 != 0) then some false else bd (ix values (nI d_1)) fun e_8 => (bif (!((c_7.1.kind == e_8.kind) && ((c_7.1.enum == e_8.enum) && (c_7.1.nF == e_8.nF)))) then some false else cnt d_1 (m_law20_follows_L1 s rules fu env values k_1 fl_2 (d_1 + 1))))) else k_1 ())

def m_law20_follows (fu : Nat) (s : MScope) (env : MEnv) (values : (List MValue)) (rules : (List Int)) : Option Bool :=
  (bif (((ln cValue values) != (ln cField s.defs)) || ((ln cInt rules) != (ln cField s.defs))) then some false else m_law20_follows_L1 s rules fu env values (fun p_9 => some true) fu 0)

def m_law20_InterpSelectedRule_L2 (c_3 : (MResult × MEvalError)) (cV : MCase) (fu : Nat) (e_6 : MScope) (l : MLaw) (k_2 : ((List (List MValue)) → Option Bool)) : Nat → (Nat × (List (List MValue))) → Option Bool
  | 0, _ => none
  | fl_15 + 1, (m_13, lf_14) => (bif (decide ((nI m_13) < (ln cMemberResult c_3.1.members))) then bd (ix cV.members (nI m_13)) fun e_16 => bd (ix c_3.1.members (nI m_13)) fun e_17 => bd (ix c_3.1.members (nI m_13)) fun e_18 => bd (m_law20_follows fu e_6 (MEnv.mk cV.date e_16 ([] : List MValue) ([] : List (List MValue)) ([] : List MTy) l.tables) e_17.values e_18.rules) fun c_19 => (bif (!c_19) then some false else bd (ix c_3.1.members (nI m_13)) fun e_20 => bd (ap lf_14 [e_20.values]) fun z_21 => cnt m_13 (m_law20_InterpSelectedRule_L2 c_3 cV fu e_6 l k_2 fl_15 (m_13 + 1, z_21))) else k_2 lf_14)

def m_law20_InterpSelectedRule_L1 (e_6 : MScope) (k_1 : ((List MTy) → Option Bool)) : Nat → (Nat × (List MTy)) → Option Bool
  | 0, _ => none
  | fl_9 + 1, (i_7, lf_8) => (bif (decide ((nI i_7) < (ln cField e_6.defs))) then bd (ix e_6.defs (nI i_7)) fun e_10 => bd (ap lf_8 [e_10.ty]) fun z_11 => cnt i_7 (m_law20_InterpSelectedRule_L1 e_6 k_1 fl_9 (i_7 + 1, z_11)) else k_1 lf_8)

def m_law20_InterpSelectedRule (fu : Nat) (l : MLaw) (scope : Int) (cV : MCase) : Option Bool :=
  bd (m_law20_small fu l cV) fun c_1 => (bif (!c_1) then bd (m_law20_awake fu) fun c_2 => some c_2 else bd (m_interp_Run fu l scope cV) fun c_3 => (bif (c_3.2.code != 0) then (bif ((ln cValue c_3.1.values) == 0) then bd (m_law20_awake fu) fun c_4 => some c_4 else some false) else (bif (((decide (scope < 0)) || (decide ((ln cScope l.scopes) ≤ scope))) || ((ln cMemberResult c_3.1.members) != (ln (cSlc 3 cValue) cV.members))) then some false else bd (ix l.scopes scope) fun e_5 => (bif ((decide (0 ≤ e_5.ms)) && (decide (e_5.ms < (ln cScope l.scopes)))) then bd (ix l.scopes e_5.ms) fun e_6 => m_law20_InterpSelectedRule_L1 e_6 (fun p_12 => m_law20_InterpSelectedRule_L2 c_3 cV fu e_6 l (fun p_22 => bd (m_law20_follows fu e_5 (MEnv.mk cV.date cV.inputs ([] : List MValue) p_22 p_12 l.tables) c_3.1.values c_3.1.rules) fun c_23 => (bif c_23 then bd (m_law20_awake fu) fun c_24 => some c_24 else some false)) fu (0, ([] : List (List MValue)))) fu (0, ([] : List MTy)) else bd (m_law20_follows fu e_5 (MEnv.mk cV.date cV.inputs ([] : List MValue) ([] : List (List MValue)) ([] : List MTy) l.tables) c_3.1.values c_3.1.rules) fun c_25 => (bif c_25 then bd (m_law20_awake fu) fun c_26 => some c_26 else some false)))))

def m_interp_guardMembers (fu : Nat) (s : MScope) (defV : Int) : Option (List Int) :=
  bd (m_deps_MemberDefs fu s defV) fun c_1 => some c_1

def m_interp_SelectRule_L3 (c_19 : (List Int)) (fu : Nat) (c_2 : (MLaw × MScope × MScope × MCase × (List Bool) × (List Bool))) (p_18 : ((List Bool) × (List Bool))) (k_3 : ((List Bool) → Option (Int × MEvalError))) : Nat → (Nat × (List Bool)) → Option (Int × MEvalError)
  | 0, _ => none
  | fl_22 + 1, (t84_20, rw_21) => (bif (decide ((nI t84_20) < (ln cInt c_19))) then bd (ix c_19 (nI t84_20)) fun e_23 => bd (m_interp_machine_memberDef fu c_2.1 c_2.2.1 c_2.2.2.1 c_2.2.2.2.1 p_18.1 rw_21 e_23) fun c_24 => cnt t84_20 (m_interp_SelectRule_L3 c_19 fu c_2 p_18 k_3 fl_22 (t84_20 + 1, c_24)) else k_3 rw_21)

def m_interp_SelectRule_L2 (c_11 : (List Int)) (fu : Nat) (c_2 : (MLaw × MScope × MScope × MCase × (List Bool) × (List Bool))) (k_2 : (((List Bool) × (List Bool)) → Option (Int × MEvalError))) : Nat → (Nat × (List Bool) × (List Bool)) → Option (Int × MEvalError)
  | 0, _ => none
  | fl_15 + 1, (t72_12, rw_13, rw_14) => (bif (decide ((nI t72_12) < (ln cInt c_11))) then bd (ix c_11 (nI t72_12)) fun e_16 => bd (m_interp_machine_require fu c_2.1 c_2.2.1 c_2.2.2.1 c_2.2.2.2.1 rw_13 rw_14 e_16) fun c_17 => cnt t72_12 (m_interp_SelectRule_L2 c_11 fu c_2 k_2 fl_15 (t72_12 + 1, c_17.1, c_17.2)) else k_2 (rw_13, rw_14))

def m_interp_SelectRule_L1 (c_3 : (List Int)) (c_2 : (MLaw × MScope × MScope × MCase × (List Bool) × (List Bool))) (defV : Int) (k_1 : ((List MRule) → Option (Int × MEvalError))) : Nat → (Nat × (List MRule)) → Option (Int × MEvalError)
  | 0, _ => none
  | fl_6 + 1, (t47_4, lf_5) => (bif (decide ((nI t47_4) < (ln cInt c_3))) then bd (ix c_3 (nI t47_4)) fun e_7 => bd (ix c_2.2.1.rules e_7) fun e_8 => bd (ap lf_5 [(MRule.mk ByteArray.empty defV 0 0 (MRange.mk 0 0) ([] : List MNode) e_8.guard ByteArray.empty)]) fun z_9 => cnt t47_4 (m_interp_SelectRule_L1 c_3 c_2 defV k_1 fl_6 (t47_4 + 1, z_9)) else k_1 lf_5)

def m_interp_SelectRule (fu : Nat) (l : MLaw) (scope : Int) (cV : MCase) (defV : Int) : Option (Int × MEvalError) :=
  bd (m_interp_check fu l scope cV defV true) fun c_1 => (bif (c_1.code != 0) then some (0, c_1) else bd (m_interp_newMachine fu l scope cV) fun c_2 => bd (m_effective_RulesOn fu c_2.2.1 defV cV.date) fun c_3 => m_interp_SelectRule_L1 c_3 c_2 defV (fun p_10 => bd (m_deps_Direct fu (MScope.mk c_2.2.1.name c_2.2.1.ms c_2.2.1.inputs c_2.2.1.defs p_10) defV) fun c_11 => m_interp_SelectRule_L2 c_11 fu c_2 (fun p_18 => bd (m_interp_guardMembers fu (MScope.mk c_2.2.1.name c_2.2.1.ms c_2.2.1.inputs c_2.2.1.defs p_10) defV) fun c_19 => m_interp_SelectRule_L3 c_19 fu c_2 p_18 (fun p_25 => bd (m_interp_machine_run fu c_2.1 c_2.2.1 c_2.2.2.1 c_2.2.2.2.1 p_18.1 p_25) fun c_26 => (bif (c_26.1.code != 0) then some (0, c_26.1) else bd (c_26.2.2.2.2) fun pt_27 => bd (m_interp_unit_choose fu pt_27 defV) fun c_28 => some (c_28.1, c_28.2))) fu (0, p_18.2)) fu (0, c_2.2.2.2.2.1, c_2.2.2.2.2.2)) fu (0, ([] : List MRule)))

def m_law20_InterpDefAgrees (fu : Nat) (l : MLaw) (scope : Int) (cV : MCase) (defV : Int) : Option Bool :=
  bd (m_law20_small fu l cV) fun c_1 => (bif (!c_1) then bd (m_law20_awake fu) fun c_2 => some c_2 else bd (m_interp_Run fu l scope cV) fun c_3 => (bif ((c_3.2.code != 0) || ((ln cValue c_3.1.values) == 0)) then bd (m_law20_awake fu) fun c_4 => some c_4 else (bif ((ln cInt c_3.1.rules) != (ln cValue c_3.1.values)) then some false else bd (nz (ln cValue c_3.1.values)) fun u_5 => bd (nz (ln cValue c_3.1.values)) fun u_6 => bd (m_interp_EvalDef fu l scope cV (Int.tmod (w64 ((Int.tmod defV (ln cValue c_3.1.values)) + (ln cValue c_3.1.values))) (ln cValue c_3.1.values))) fun c_7 => bd (m_interp_SelectRule fu l scope cV (Int.tmod (w64 ((Int.tmod defV (ln cValue c_3.1.values)) + (ln cValue c_3.1.values))) (ln cValue c_3.1.values))) fun c_8 => (bif ((c_7.2.2.code == 0) && ((c_7.2.2.member == 0) && ((c_7.2.2.defF == 0) && (c_7.2.2.ruleF == 0)))) then bd (ix c_3.1.values (Int.tmod (w64 ((Int.tmod defV (ln cValue c_3.1.values)) + (ln cValue c_3.1.values))) (ln cValue c_3.1.values))) fun e_9 => (bif ((c_7.1.kind == e_9.kind) && ((c_7.1.enum == e_9.enum) && (c_7.1.nF == e_9.nF))) then bd (ix c_3.1.rules (Int.tmod (w64 ((Int.tmod defV (ln cValue c_3.1.values)) + (ln cValue c_3.1.values))) (ln cValue c_3.1.values))) fun e_10 => (bif (((c_7.2.1 == e_10) && ((c_8.2.code == 0) && ((c_8.2.member == 0) && ((c_8.2.defF == 0) && (c_8.2.ruleF == 0))))) && (c_8.1 == c_7.2.1)) then bd (m_law20_awake fu) fun c_11 => some c_11 else some false) else some false) else some false))))

def m_value_typeOf (fu : Nat) (v : MValue) : Option MTy :=
  some (MTy.mk v.kind v.enum)

def m_value_within (fu : Nat) (nV : Int) (t : MTy) (enums : (List MEnum)) : Option Bool :=
  bd (m_value_Bounds fu t enums) fun c_1 => some ((decide (c_1.1 ≤ nV)) && (decide (nV ≤ c_1.2)))

def m_value_Valid (fu : Nat) (v : MValue) (enums : (List MEnum)) : Option Bool :=
  bd (m_value_typeOf fu v) fun c_1 => bd (m_value_within fu v.nF c_1 enums) fun c_2 => some c_2

def m_law20_InterpTypeSound_L1 (c_3 : (MResult × MEvalError)) (l : MLaw) (scope : Int) (fu : Nat) (k_1 : (Unit → Option Bool)) : Nat → (Nat) → Option Bool
  | 0, _ => none
  | fl_7 + 1, d_6 => (bif (decide ((nI d_6) < (ln cValue c_3.1.values))) then bd (ix l.scopes scope) fun e_8 => bd (ix e_8.defs (nI d_6)) fun e_9 => bd (ix c_3.1.values (nI d_6)) fun e_10 => bd (m_value_Valid fu e_10 l.enums) fun c_11 => (bif (!c_11) then some false else bd (ix c_3.1.values (nI d_6)) fun e_12 => (bif (e_12.kind != e_9.ty.kind) then some false else bd (ix c_3.1.values (nI d_6)) fun e_13 => (bif (e_13.enum != e_9.ty.en) then some false else cnt d_6 (m_law20_InterpTypeSound_L1 c_3 l scope fu k_1 fl_7 (d_6 + 1))))) else k_1 ())

def m_law20_InterpTypeSound (fu : Nat) (l : MLaw) (scope : Int) (cV : MCase) : Option Bool :=
  bd (m_law20_small fu l cV) fun c_1 => (bif (!c_1) then bd (m_law20_awake fu) fun c_2 => some c_2 else bd (m_interp_Run fu l scope cV) fun c_3 => (bif (c_3.2.code != 0) then bd (m_law20_awake fu) fun c_4 => some c_4 else (bif ((decide (scope < 0)) || (decide ((ln cScope l.scopes) ≤ scope))) then some false else bd (ix l.scopes scope) fun e_5 => (bif ((ln cValue c_3.1.values) != (ln cField e_5.defs)) then some false else m_law20_InterpTypeSound_L1 c_3 l scope fu (fun p_14 => bd (m_law20_awake fu) fun c_15 => some c_15) fu 0))))

end Go.Ab
