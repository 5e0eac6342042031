/- Contracts: the functions answer as their models, by my generator. -/
import Derived.Test.YtffnbobdkpebgaaGreatVzC4
set_option linter.unusedVariables false
set_option linter.unusedSimpArgs false
set_option maxRecDepth 100000
set_option maxHeartbeats 4000000
namespace Go.Proofs.YtffnbobdkpebgaaGreat
open Go Go.Ab
theorem gc_law_scope (fu : Nat) (l : MLaw) (item : Int) (r_ : MLawError) (H : m_law_scope fu l item = some r_) : Go.Ab.Fn Tryz.prog 63 [.agg (cLaw l), .c ((iD item))] (.s (.agg (List.map C.d (cLawError r_)))) [] := by
 refine Go.Ab.Fn.intro htab hm Tryz.func63 rfl Tryz.call63 (by kernel_rfl) 115 Tryz.ntmps63 rfl (fun hr => ?_)
 unfold m_law_scope at H
 conv => whnf
 repeat' first
  | (refine leafI ?_; obtain rfl := Option.some.inj H; (repeat' (first | exact trivial | rfl | refine And.intro ?_ ?_ | (show D.bool _ = D.bool _; simp [*]; done))); done)
  | (refine RegP_intro _ [] ?_; conv => whnf)
  | (refine cK (by with_reducible assumption) (fun q => ?_); (first | with_reducible replace H := hK q H | rw [q] at H | skip); conv => whnf)
  | (refine cBif H (by with_reducible rfl) ?_ ?_ <;> clear H <;> intro q H <;> conv => whnf)
  | (refine condP_intro ?_ ?_ <;> intro q <;> (try rw [q] at H) <;> conv => whnf)
  | (replace H := cnt_some H; obtain ⟨_, H⟩ := H)
  | (refine eIx H ?_; clear H; intro _ _ H; conv => whnf)
  | (refine eCall H (gg_0.2.2.1 fu _ _ _ _) (fun _ => .inl rfl) ?_; clear H; intro _ H; conv => whnf)
  | (refine eCall H (gg_26.2.2.2.1 fu _ _ _ _ _) (fun _ => .inl rfl) ?_; clear H; intro _ H; conv => whnf)
  | (refine eCall H (gg_1.2.2.1 fu _) (fun _ => .inl rfl) ?_; clear H; intro _ H; conv => whnf)
  | (refine eCall H (gg_26.2.2.2.1 fu _ _ _ _ _) (fun _ => .inr ⟨rfl, rfl⟩) ?_; clear H; intro _ H; conv => whnf)
  | (refine eCall H (gg_18.2.2.2.1 fu _ _) (fun _ => .inl rfl) ?_; clear H; intro _ H; conv => whnf)
  | (refine eCall H (gg_30.1 fu _ _ _) (fun _ => .inl rfl) ?_; clear H; intro _ H; conv => whnf)
  | (refine eCall H (gc_deps_Transitive fu _ _) (fun _ => .inl rfl) ?_; clear H; intro _ H; conv => whnf)
  | (refine Or.inl (Or.inl ?_); (conv => whnf); refine eCall H (gg_14.1 fu _ _) (fun _ => .inr ⟨rfl, rfl⟩) ?_; clear H; intro _ H; conv => whnf)
  | (refine eLoop (m_law_scope_L2 _ _ _ _) [1, 4, 5, 100] [32, 40] (fun t101_16 => [(101, vDc (iD (nI t101_16)))]) (fun t101_16 => []) H (by refine Le.sub rfl ?_ ?_; (repeat' (first | exact trivial | rfl | exact inc64' (by assumption) | refine And.intro ?_ ?_ | (show D.bool _ = D.bool _; simp [*]; done)))) ?_; clear H; intro n x H; obtain _ | n := n; rw [m_law_scope_L2] at H; cases H; rw [m_law_scope_L2] at H; conv => whnf)
  | (refine ⟨(_, _), H, ?_, Nat.lt_succ_self _⟩; refine Le.sub rfl ?_ ?_; (repeat' (first | exact trivial | rfl | exact inc64' (by assumption) | refine And.intro ?_ ?_ | (show D.bool _ = D.bool _; simp [*]; done))); done)
  | (refine eLoop (m_law_scope_L1 _ _ _ _ _) [1, 4, 5, 9, 82] [32, 40, 72] (fun t83_11 => [(83, vDc (iD (nI t83_11)))]) (fun t83_11 => []) H (by refine Le.sub rfl ?_ ?_; (repeat' (first | exact trivial | rfl | exact inc64' (by assumption) | refine And.intro ?_ ?_ | (show D.bool _ = D.bool _; simp [*]; done)))) ?_; clear H; intro n x H; obtain _ | n := n; rw [m_law_scope_L1] at H; cases H; rw [m_law_scope_L1] at H; conv => whnf)
  | (refine eLoop (m_law_scope_L4 _ _ _ _) [1, 4, 5, 100] [32, 40] (fun t101_33 => [(101, vDc (iD (nI t101_33)))]) (fun t101_33 => []) H (by refine Le.sub rfl ?_ ?_; (repeat' (first | exact trivial | rfl | exact inc64' (by assumption) | refine And.intro ?_ ?_ | (show D.bool _ = D.bool _; simp [*]; done)))) ?_; clear H; intro n x H; obtain _ | n := n; rw [m_law_scope_L4] at H; cases H; rw [m_law_scope_L4] at H; conv => whnf)
  | (refine eLoop (m_law_scope_L3 _ _ _ _ _) [1, 4, 5, 9, 82] [32, 40, 72] (fun t83_28 => [(83, vDc (iD (nI t83_28)))]) (fun t83_28 => []) H (by refine Le.sub rfl ?_ ?_; (repeat' (first | exact trivial | rfl | exact inc64' (by assumption) | refine And.intro ?_ ?_ | (show D.bool _ = D.bool _; simp [*]; done)))) ?_; clear H; intro n x H; obtain _ | n := n; rw [m_law_scope_L3] at H; cases H; rw [m_law_scope_L3] at H; conv => whnf)
theorem gc_eval_evaluator_node (fu : Nat) (xV : MEvalEvaluator) (atV : Int) (r_ : (MValue × Int)) (H : m_eval_evaluator_node fu xV atV = some r_) : Go.Ab.Fn Tryz.prog 80 [.c (.ptr (cEvalEvaluator xV) 0), .c ((iD atV))] (.tup [.agg (List.map C.d (cValue r_.1)), .c (.d (iD r_.2))]) [] := (gr_eval_evaluator_node fu).1 xV atV r_ H
theorem gc_eval_evaluator_truth (fu : Nat) (xV : MEvalEvaluator) (atV : Int) (r_ : (Bool × Int)) (H : m_eval_evaluator_truth fu xV atV = some r_) : Go.Ab.Fn Tryz.prog 124 [.c (.ptr (cEvalEvaluator xV) 0), .c ((iD atV))] (.tup [.c (.d (.bool r_.1)), .c (.d (iD r_.2))]) [] := (gr_eval_evaluator_node fu).2 xV atV r_ H
theorem gc_law_Validate (fu : Nat) (l : MLaw) (r_ : MLawError) (H : m_law_Validate fu l = some r_) : Go.Ab.Fn Tryz.prog 30 [.agg (cLaw l)] (.s (.agg (List.map C.d (cLawError r_)))) [] := by
 refine Go.Ab.Fn.intro htab hm Tryz.func30 rfl Tryz.call30 (by kernel_rfl) 124 Tryz.ntmps30 rfl (fun hr => ?_)
 unfold m_law_Validate at H
 conv => whnf
 repeat' first
  | (refine leafI ?_; obtain rfl := Option.some.inj H; (repeat' (first | exact trivial | rfl | refine And.intro ?_ ?_ | (show D.bool _ = D.bool _; simp [*]; done))); done)
  | (refine cK (by with_reducible assumption) (fun q => ?_); (first | with_reducible replace H := hK q H | rw [q] at H | skip); conv => whnf)
  | (refine cBif H (by with_reducible rfl) ?_ ?_ <;> clear H <;> intro q H <;> conv => whnf)
  | (refine condP_intro ?_ ?_ <;> intro q <;> (try rw [q] at H) <;> conv => whnf)
  | (replace H := cnt_some H; obtain ⟨_, H⟩ := H)
  | (refine eIx H ?_; clear H; intro _ _ H; conv => whnf)
  | (refine eAp (f := cStr) H rfl rfl (by decide) ?_; clear H; intro _ H; conv => whnf)
  | (refine eCall H (gg_0.2.2.1 fu _ _ _ _) (fun _ => .inl rfl) ?_; clear H; intro _ H; conv => whnf)
  | (refine Or.inl (Or.inl ?_); (conv => whnf); refine eCall H (gg_26.1 fu _ _ _ _) (fun _ => .inr ⟨rfl, rfl⟩) ?_; clear H; intro _ H; conv => whnf)
  | (refine eCall H (gg_26.2.1 fu _ _) (fun _ => .inl rfl) ?_; clear H; intro _ H; conv => whnf)
  | (refine eCall H (gg_28.1 fu _ _ _) (fun _ => .inl rfl) ?_; clear H; intro _ H; conv => whnf)
  | (refine eCall H (gc_law_scope fu _ _) (fun _ => .inl rfl) ?_; clear H; intro _ H; conv => whnf)
  | (refine eLoop (m_law_Validate_L3 _ _ _) [1, 2, 94, 95] [8, 16] (fun (taken_20, t96_21) => [(3, .s (.c (.own 160024 1))), (96, vDc (iD (nI t96_21)))]) (fun (taken_20, t96_21) => [(160024, .row 9 1 (List.map cStr taken_20))]) H (by refine Le.sub rfl ?_ ?_; (repeat' (first | exact trivial | rfl | exact inc64' (by assumption) | refine And.intro ?_ ?_ | (show D.bool _ = D.bool _; simp [*]; done)))) ?_; clear H; intro n x H; obtain _ | n := n; rw [m_law_Validate_L3] at H; cases H; obtain ⟨_, _⟩ := x; rw [m_law_Validate_L3] at H; conv => whnf)
  | (refine ⟨(_, _), H, ?_, Nat.lt_succ_self _⟩; refine Le.sub rfl ?_ ?_; (repeat' (first | exact trivial | rfl | exact inc64' (by assumption) | refine And.intro ?_ ?_ | (show D.bool _ = D.bool _; simp [*]; done))); done)
  | (refine eLoop (m_law_Validate_L2 _ _ _) [1, 2, 57, 58] [8, 16] (fun (taken_11, t59_12) => [(3, .s (.c (.own 160024 1))), (59, vDc (iD (nI t59_12)))]) (fun (taken_11, t59_12) => [(160024, .row 9 1 (List.map cStr taken_11))]) H (by refine Le.sub rfl ?_ ?_; (repeat' (first | exact trivial | rfl | exact inc64' (by assumption) | refine And.intro ?_ ?_ | (show D.bool _ = D.bool _; simp [*]; done)))) ?_; clear H; intro n x H; obtain _ | n := n; rw [m_law_Validate_L2] at H; cases H; obtain ⟨_, _⟩ := x; rw [m_law_Validate_L2] at H; conv => whnf)
  | (refine eLoop (m_law_Validate_L1 _ _ _) [1, 2, 22, 23] [8, 16] (fun (taken_2, t24_3) => [(3, .s (.c (.own 160024 1))), (24, vDc (iD (nI t24_3)))]) (fun (taken_2, t24_3) => [(160024, .row 9 1 (List.map cStr taken_2))]) H (by refine Le.sub rfl ?_ ?_; (repeat' (first | exact trivial | rfl | exact inc64' (by assumption) | refine And.intro ?_ ?_ | (show D.bool _ = D.bool _; simp [*]; done)))) ?_; clear H; intro n x H; obtain _ | n := n; rw [m_law_Validate_L1] at H; cases H; obtain ⟨_, _⟩ := x; rw [m_law_Validate_L1] at H; conv => whnf)
theorem gg_31 : (∀ (fu : Nat) (l : MLaw) (scope : Int) (cV : MCase) (defV : Int) (single : Bool) (r_ : MEvalError) (H : m_interp_check fu l scope cV defV single = some r_), Go.Ab.Fn Tryz.prog 34 [.agg (cLaw l), .c ((iD scope)), .agg (cCase cV), .c ((iD defV)), .c ((.bool single))] (.s (.agg (List.map C.d (cEvalError r_)))) []) ∧ (∀ (fu : Nat) (e : (List MNode)) (env : MEnv) (r_ : (MValue × Int)) (H : m_eval_Eval fu e env = some r_), Go.Ab.Fn Tryz.prog 51 [.c ((.slice 2 (List.map cNode e))), .agg (cEnv env)] (.tup [.agg (List.map C.d (cValue r_.1)), .c (.d (iD r_.2))]) []) ∧ (∀ (fu : Nat) (q : MMarginalQuery) (r_ : Int) (H : m_marginal_query_check fu q = some r_), Go.Ab.Fn Tryz.prog 44 [.agg (cMarginalQuery q)] (.s (.c (.d (iD r_)))) []) := by
 refine ⟨fun fu l scope cV defV single r_ H => ?_, fun fu e env r_ H => ?_, fun fu q r_ H => ?_⟩
 all_goals first
  | (refine Go.Ab.Fn.intro htab hm Tryz.func34 rfl Tryz.call34 (by kernel_rfl) 61 Tryz.ntmps34 rfl (fun hr => ?_); unfold m_interp_check at H)
  | (refine Go.Ab.Fn.intro htab hm Tryz.func51 rfl Tryz.call51 (by kernel_rfl) 29 Tryz.ntmps51 rfl (fun hr => ?_); unfold m_eval_Eval at H)
  | (refine Go.Ab.Fn.intro htab hm Tryz.func44 rfl Tryz.call44 (by kernel_rfl) 72 Tryz.ntmps44 rfl (fun hr => ?_); unfold m_marginal_query_check at H)
 all_goals conv => whnf
 repeat' first
  | (refine leafI ?_; obtain rfl := Option.some.inj H; (repeat' (first | exact trivial | rfl | refine And.intro ?_ ?_ | (show D.bool _ = D.bool _; simp [*]; done))); done)
  | (refine cK (by with_reducible assumption) (fun q => ?_); (first | with_reducible replace H := hK q H | rw [q] at H | skip); conv => whnf)
  | (refine cBif H (by with_reducible rfl) ?_ ?_ <;> clear H <;> intro q H <;> conv => whnf)
  | (refine condP_intro ?_ ?_ <;> intro q <;> (try rw [q] at H) <;> conv => whnf)
  | (refine eIx H ?_; clear H; intro _ _ H; conv => whnf)
  | (refine eCall H (gc_law_Validate fu _) (fun _ => .inl rfl) ?_; clear H; intro _ H; conv => whnf)
  | (refine eCall H (gg_4.2.2.2.2.1 fu _ _) (fun _ => .inl rfl) ?_; clear H; intro _ H; conv => whnf)
  | (refine eCall H (gg_23.2.2.2.2.2 fu _ _ _) (fun _ => .inl rfl) ?_; clear H; intro _ H; conv => whnf)
  | (refine eCall H (gg_20.2.1 fu _) (fun _ => .inl rfl) ?_; clear H; intro _ H; conv => whnf)
  | (refine Or.inl (Or.inl ?_); (conv => whnf); refine eCall H (gc_eval_evaluator_node fu _ _) (fun _ => .inr ⟨rfl, rfl⟩) ?_; clear H; intro _ H; conv => whnf)
theorem gg_32 : (∀ (fu : Nat) (u : MInterpUnit) (defV : Int) (r_ : (Int × MEvalError)) (H : m_interp_unit_choose fu u defV = some r_), Go.Ab.Fn Tryz.prog 56 [.c (.ptr (cInterpUnit u) 0), .c ((iD defV))] (.tup [.c (.d (iD r_.1)), .agg (List.map C.d (cEvalError r_.2))]) []) ∧ (∀ (fu : Nat) (s : MScope) (env : MEnv) (values : (List MValue)) (rules : (List Int)) (r_ : Bool) (H : m_law20_follows fu s env values rules = some r_), Go.Ab.Fn Tryz.prog 25 [.agg (cScope s), .agg (cEnv env), .c ((.slice 3 (List.map cValue values))), .c ((.slice 1 (List.map cInt rules)))] (.s (.c (.d (.bool r_)))) []) := by
 refine ⟨fun fu u defV r_ H => ?_, fun fu s env values rules r_ H => ?_⟩
 all_goals first
  | (refine Go.Ab.Fn.intro htab hm Tryz.func56 rfl Tryz.call56 (by kernel_rfl) 92 Tryz.ntmps56 rfl (fun hr => ?_); unfold m_interp_unit_choose at H)
  | (refine Go.Ab.Fn.intro htab hm Tryz.func25 rfl Tryz.call25 (by kernel_rfl) 69 Tryz.ntmps25 rfl (fun hr => ?_); unfold m_law20_follows at H)
 all_goals conv => whnf
 repeat' first
  | (refine leafI ?_; obtain rfl := Option.some.inj H; (repeat' (first | exact trivial | rfl | refine And.intro ?_ ?_ | (show D.bool _ = D.bool _; simp [*]; done))); done)
  | (refine RegP_intro _ [] ?_; conv => whnf)
  | (refine cK (by with_reducible assumption) (fun q => ?_); (first | with_reducible replace H := hK q H | rw [q] at H | skip); conv => whnf)
  | (refine cBif H (by with_reducible rfl) ?_ ?_ <;> clear H <;> intro q H <;> conv => whnf)
  | (refine condP_intro ?_ ?_ <;> intro q <;> (try rw [q] at H) <;> conv => whnf)
  | (replace H := cnt_some H; obtain ⟨_, H⟩ := H)
  | (refine eIx H ?_; clear H; intro _ _ H; conv => whnf)
  | (refine eIo H ?_; clear H; intro _ _ H; conv => whnf)
  | (refine eSt (f := cBool) (fun v x => v) _ (by assumption) (by (try dsimp only [cBool, MRule.fr, MRule.to, MRow.fr, MRow.to]); rfl) ?_; conv => whnf)
  | (refine eRd (by assumption) ?_; conv => whnf)
  | (refine eMk (f := cBool) H rfl ?_; clear H; intro _ H; conv => whnf)
  | (refine eCall H (gc_effective_TreeOn fu _ _ _) (fun _ => .inl rfl) ?_; clear H; intro _ H; conv => whnf)
  | (refine eCall H (gg_25.2.1 fu _ _ _ _) (fun _ => .inl rfl) ?_; clear H; intro _ H; conv => whnf)
  | (refine eCall H (gg_31.2.1 fu _ _) (fun _ => .inl rfl) ?_; clear H; intro _ H; conv => whnf)
  | (refine eCall H (gg_8.2.2.2.1 fu _ _ _ _) (fun _ => .inl rfl) ?_; clear H; intro _ H; conv => whnf)
  | (refine Or.inl (Or.inl ?_); (conv => whnf); refine eCall H (gg_24.2.2.2.2.2 fu _ _ _) (fun _ => .inr ⟨rfl, rfl⟩) ?_; clear H; intro _ H; conv => whnf)
  | (refine eLoop (m_interp_unit_choose_L1 _ _ _ _ _) [0, 1, 5, 6, 7, 8, 9, 34, 35] [40, 216, 217] (fun (t36_3, rw_4) => [(36, vDc (iD (nI t36_3)))]) (fun (t36_3, rw_4) => [(264, .row 4 1 (List.map cBool rw_4))]) H (by refine Le.sub rfl ?_ ?_; (repeat' (first | exact trivial | rfl | exact inc64' (by assumption) | refine And.intro ?_ ?_ | (show D.bool _ = D.bool _; simp [*]; done)))) ?_; clear H; intro n x H; obtain _ | n := n; rw [m_interp_unit_choose_L1] at H; cases H; obtain ⟨_, _⟩ := x; rw [m_interp_unit_choose_L1] at H; conv => whnf)
  | (refine eLoop (m_law20_follows_L1 _ _ _ _ _ _) [2, 3, 4, 5] [32, 40] (fun d_1 => [(9, vDc (iD (nI d_1)))]) (fun d_1 => []) H (by refine Le.sub rfl ?_ ?_; (repeat' (first | exact trivial | rfl | exact inc64' (by assumption) | refine And.intro ?_ ?_ | (show D.bool _ = D.bool _; simp [*]; done)))) ?_; clear H; intro n x H; obtain _ | n := n; rw [m_law20_follows_L1] at H; cases H; rw [m_law20_follows_L1] at H; conv => whnf)
  | (refine ⟨(_, _), H, ?_, Nat.lt_succ_self _⟩; refine Le.sub rfl ?_ ?_; (repeat' (first | exact trivial | rfl | exact inc64' (by assumption) | refine And.intro ?_ ?_ | (show D.bool _ = D.bool _; simp [*]; done))); done)
theorem gc_interp_unit_define (fu : Nat) (scope : MScope) (Date : Int) (Inputs : (List MValue)) (Defs : (List MValue)) (Members : (List (List MValue))) (MemberTypes : (List MTy)) (Tables : (List MTable)) (member : Int) (rules : (List Int)) (defV : Int) (r_ : (MEvalError × (List MValue) × (List Int))) (H : m_interp_unit_define fu scope Date Inputs Defs Members MemberTypes Tables member rules defV = some r_) : Go.Ab.FnH Tryz.prog 115 [.c (.ref 7000000 0 0 0), .c (.d ((iD defV)))] [(7000000, .var ((List.map C.d (cScope scope)) ++ ([.d (iD Date)] ++ [.d (.slice 3 (List.map cValue Inputs))] ++ [.own 7000001 3] ++ [.d (.slice 1 (List.map (cSlc 3 cValue) Members))] ++ [.d (.slice 2 (List.map cTy MemberTypes))] ++ [.d (.slice 6 (List.map cTable Tables))]) ++ [.d (iD member)] ++ [.own 7000002 1])), (7000001, .row 23 3 (List.map cValue Defs)), (7000002, .row 3 1 (List.map cInt rules))] (.s (.agg (List.map C.d (cEvalError r_.1)))) [(7000000, .var ((List.map C.d (cScope scope)) ++ ([.d (iD Date)] ++ [.d (.slice 3 (List.map cValue Inputs))] ++ [.own 7000001 3] ++ [.d (.slice 1 (List.map (cSlc 3 cValue) Members))] ++ [.d (.slice 2 (List.map cTy MemberTypes))] ++ [.d (.slice 6 (List.map cTable Tables))]) ++ [.d (iD member)] ++ [.own 7000002 1])), (7000001, .row 23 3 (List.map cValue r_.2.1)), (7000002, .row 3 1 (List.map cInt r_.2.2))] := by
 unfold m_interp_unit_define at H
 obtain ⟨H, hl⟩ := lk_some H
 simp only [Bool.and_eq_true, decide_eq_true_eq] at hl
 obtain ⟨hl0, hl1⟩ := hl
 refine Go.Ab.FnH.intro htab hm Tryz.func115 rfl Tryz.call115 (by kernel_rfl) 72 Tryz.ntmps115 rfl ?_ (fun hr => ?_)
 · repeat' (first | exact trivial | rfl | refine And.intro ?_ ?_ | (simp only [List.length_map]; assumption))
 unfold n_interp_unit_define at H
 conv => whnf
 repeat' first
  | (refine leafI ?_; obtain rfl := Option.some.inj H; (repeat' (first | exact trivial | rfl | refine And.intro ?_ ?_ | (show D.bool _ = D.bool _; simp [*]; done))); done)
  | (refine RegP_intro _ [] ?_; conv => whnf)
  | (refine cK (by with_reducible assumption) (fun q => ?_); (first | with_reducible replace H := hK q H | rw [q] at H | skip); conv => whnf)
  | (refine cBif H (by with_reducible rfl) ?_ ?_ <;> clear H <;> intro q H <;> conv => whnf)
  | (refine condP_intro ?_ ?_ <;> intro q <;> (try rw [q] at H) <;> conv => whnf)
  | (refine eIx H ?_; clear H; intro _ _ H; conv => whnf)
  | (refine eIo H ?_; clear H; intro _ _ H; conv => whnf)
  | (refine eSt (f := cValue) (fun v x => v) _ (by assumption) (by (try dsimp only [cValue, MRule.fr, MRule.to, MRow.fr, MRow.to]); rfl) ?_; conv => whnf)
  | (refine eSt (f := cInt) (fun v x => v) _ (by assumption) (by (try dsimp only [cInt, MRule.fr, MRule.to, MRow.fr, MRow.to]); rfl) ?_; conv => whnf)
  | (refine eRd (by assumption) ?_; conv => whnf)
  | (refine Or.inl (Or.inl ?_); (conv => whnf); refine eCall H (gg_32.1 fu _ _) (fun _ => .inr ⟨rfl, rfl⟩) ?_; clear H; intro _ H; conv => whnf)
  | (refine Or.inl (Or.inl ?_); (conv => whnf); refine eCall H (gg_8.2.2.2.1 fu _ _ _ _) (fun _ => .inr ⟨rfl, rfl⟩) ?_; clear H; intro _ H; conv => whnf)
  | (refine eCall H (gg_31.2.1 fu _ _) (fun _ => .inr ⟨rfl, rfl⟩) ?_; clear H; intro _ H; conv => whnf)
theorem gc_interp_unit_run (fu : Nat) (scope : MScope) (Date : Int) (Inputs : (List MValue)) (Defs : (List MValue)) (Members : (List (List MValue))) (MemberTypes : (List MTy)) (Tables : (List MTable)) (member : Int) (rules : (List Int)) (want : (List Bool)) (r_ : (MEvalError × (List MValue) × (List Int))) (H : m_interp_unit_run fu scope Date Inputs Defs Members MemberTypes Tables member rules want = some r_) : Go.Ab.FnH Tryz.prog 76 [.c (.ref 7000000 0 0 0), .c (.d ((.slice 1 (List.map cBool want))))] [(7000000, .var ((List.map C.d (cScope scope)) ++ ([.d (iD Date)] ++ [.d (.slice 3 (List.map cValue Inputs))] ++ [.own 7000001 3] ++ [.d (.slice 1 (List.map (cSlc 3 cValue) Members))] ++ [.d (.slice 2 (List.map cTy MemberTypes))] ++ [.d (.slice 6 (List.map cTable Tables))]) ++ [.d (iD member)] ++ [.own 7000002 1])), (7000001, .row 23 3 (List.map cValue Defs)), (7000002, .row 3 1 (List.map cInt rules))] (.s (.agg (List.map C.d (cEvalError r_.1)))) [(7000000, .var ((List.map C.d (cScope scope)) ++ ([.d (iD Date)] ++ [.d (.slice 3 (List.map cValue Inputs))] ++ [.own 7000001 3] ++ [.d (.slice 1 (List.map (cSlc 3 cValue) Members))] ++ [.d (.slice 2 (List.map cTy MemberTypes))] ++ [.d (.slice 6 (List.map cTable Tables))]) ++ [.d (iD member)] ++ [.own 7000002 1])), (7000001, .row 23 3 (List.map cValue r_.2.1)), (7000002, .row 3 1 (List.map cInt r_.2.2))] := by
 unfold m_interp_unit_run at H
 obtain ⟨H, hl⟩ := lk_some H
 simp only [Bool.and_eq_true, decide_eq_true_eq] at hl
 obtain ⟨hl0, hl1⟩ := hl
 refine Go.Ab.FnH.intro htab hm Tryz.func76 rfl Tryz.call76 (by kernel_rfl) 38 Tryz.ntmps76 rfl ?_ (fun hr => ?_)
 · repeat' (first | exact trivial | rfl | refine And.intro ?_ ?_ | (simp only [List.length_map]; assumption))
 unfold n_interp_unit_run at H
 conv => whnf
 repeat' first
  | (refine leafI ?_; obtain rfl := Option.some.inj H; (repeat' (first | exact trivial | rfl | refine And.intro ?_ ?_ | (show D.bool _ = D.bool _; simp [*]; done))); done)
  | (refine cK (by with_reducible assumption) (fun q => ?_); (first | with_reducible replace H := hK q H | rw [q] at H | skip); conv => whnf)
  | (refine cBif H (by with_reducible rfl) ?_ ?_ <;> clear H <;> intro q H <;> conv => whnf)
  | (refine condP_intro ?_ ?_ <;> intro q <;> (try rw [q] at H) <;> conv => whnf)
  | (replace H := cnt_some H; obtain ⟨_, H⟩ := H)
  | (refine eIx H ?_; clear H; intro _ _ H; conv => whnf)
  | (refine eIo H ?_; clear H; intro _ _ H; conv => whnf)
  | (refine eRd (by assumption) ?_; conv => whnf)
  | (refine eCall H (gc_deps_EvaluationOrder fu _) (fun _ => .inl rfl) ?_; clear H; intro _ H; conv => whnf)
  | (refine Or.inr ⟨[], ?_⟩; (conv => whnf); refine eCallH H (gc_interp_unit_define fu _ _ _ _ _ _ _ _ _ _) ?_; clear H; intro _ H; (conv => whnf); refine And.intro ?_ ?_; (focus ((repeat' (first | exact trivial | rfl | refine And.intro ?_ ?_)); done)); conv => whnf)
  | (refine eLoop (m_interp_unit_run_L1 _ _ _ _ _ _ _ _ _ _ _) [0, 1, 4, 18, 19] [32, 120, 7000000] (fun (t20_2, rw_3, rw_4) => [(20, vDc (iD (nI t20_2)))]) (fun (t20_2, rw_3, rw_4) => [(7000001, .row 23 3 (List.map cValue rw_3)), (7000002, .row 3 1 (List.map cInt rw_4))]) H (by refine Le.sub rfl ?_ ?_; (repeat' (first | exact trivial | rfl | exact inc64' (by assumption) | refine And.intro ?_ ?_ | (show D.bool _ = D.bool _; simp [*]; done)))) ?_; clear H; intro n x H; obtain _ | n := n; rw [m_interp_unit_run_L1] at H; cases H; obtain ⟨_, _, _⟩ := x; rw [m_interp_unit_run_L1] at H; conv => whnf)
  | (refine ⟨(_, _), H, ?_, Nat.lt_succ_self _⟩; refine Le.sub rfl ?_ ?_; (repeat' (first | exact trivial | rfl | exact inc64' (by assumption) | refine And.intro ?_ ?_ | (show D.bool _ = D.bool _; simp [*]; done))); done)
theorem gc_interp_machine_run (fu : Nat) (law : MLaw) (scope : MScope) (members : MScope) (cV : MCase) (want : (List Bool)) (inner : (List Bool)) (r_ : (MEvalError × (List Bool) × (List Bool) × (List MInterpUnit) × (Option MInterpUnit))) (H : m_interp_machine_run fu law scope members cV want inner = some r_) : Go.Ab.FnH Tryz.prog 37 [.c (.ref 7000000 0 0 0)] [(7000000, .var ((List.map C.d (cLaw law)) ++ (List.map C.d (cScope scope)) ++ (List.map C.d (cScope members)) ++ (List.map C.d (cCase cV)) ++ [.own 7000001 1] ++ [.own 7000002 1] ++ [.nil 1] ++ [.d .nilptr])), (7000001, .row 4 1 (List.map cBool want)), (7000002, .row 4 1 (List.map cBool inner))] (.s (.agg (List.map C.d (cEvalError r_.1)))) [(0, .row 112 1 (List.map (cPtr cInterpUnit) r_.2.2.2.1)), (7000000, .var ((List.map C.d (cLaw law)) ++ (List.map C.d (cScope scope)) ++ (List.map C.d (cScope members)) ++ (List.map C.d (cCase cV)) ++ [.d (.slice 1 (List.map cBool r_.2.1))] ++ [.d (.slice 1 (List.map cBool r_.2.2.1))] ++ [.own 0 1] ++ [.d (oP cInterpUnit r_.2.2.2.2)]))] := by
 refine Go.Ab.FnH.intro htab hm Tryz.func37 rfl Tryz.call37 (by kernel_rfl) 122 Tryz.ntmps37 rfl ?_ (fun hr => ?_)
 · repeat' (first | exact trivial | rfl | refine And.intro ?_ ?_ | (simp only [List.length_map]; assumption))
 unfold m_interp_machine_run at H
 conv => whnf
 repeat' first
  | (refine leafI ?_; obtain rfl := Option.some.inj H; (repeat' (first | exact trivial | rfl | refine And.intro ?_ ?_ | (show D.bool _ = D.bool _; simp [*]; done))); done)
  | (refine RegP_intro 17 [240800, 241600] ?_; conv => whnf)
  | (refine RegP_intro _ [] ?_; conv => whnf)
  | (refine cK (by with_reducible assumption) (fun q => ?_); (first | with_reducible replace H := hK q H | rw [q] at H | skip); conv => whnf)
  | (refine cBif H (by with_reducible rfl) ?_ ?_ <;> clear H <;> intro q H <;> conv => whnf)
  | (refine condP_intro ?_ ?_ <;> intro q <;> (try rw [q] at H) <;> conv => whnf)
  | (replace H := cnt_some H; obtain ⟨_, H⟩ := H)
  | (refine eIx H ?_; clear H; intro _ _ H; conv => whnf)
  | (refine eAp (f := cTy) H rfl rfl (by decide) ?_; clear H; intro _ H; conv => whnf)
  | (refine eAp (f := (cPtr cInterpUnit)) H rfl rfl (by decide) ?_; clear H; intro _ H; conv => whnf)
  | (refine eAp (f := (cSlc 3 cValue)) H rfl rfl (by decide) ?_; clear H; intro _ H; conv => whnf)
  | (refine eCall H (gg_5.2.1 fu _ _ _) (fun _ => .inl rfl) ?_; clear H; intro _ H; conv => whnf)
  | (refine Or.inr ⟨[], ?_⟩; (conv => whnf); refine eCallH H (gc_interp_unit_run fu _ _ _ _ _ _ _ _ _ _) ?_; clear H; intro _ H; (conv => whnf); refine And.intro ?_ ?_; (focus ((repeat' (first | exact trivial | rfl | refine And.intro ?_ ?_)); done)); conv => whnf)
  | (refine Or.inr ⟨[7000001], ?_⟩; (conv => whnf); refine eCallH H (gc_interp_unit_run fu _ _ _ _ _ _ _ _ _ _) ?_; clear H; intro _ H; (conv => whnf); refine And.intro ?_ ?_; (focus ((repeat' (first | exact trivial | rfl | refine And.intro ?_ ?_)); done)); conv => whnf)
  | (refine LoopP_le (Le.commit (inL [7000002]) _) ?_; refine eLoopP (m_interp_machine_run_L2 _ _ _ _ _ _) [0, 2, 3, 48, 49] [16, 240800, 7000001] (fun (t50_7, lf_8, lf_9, lf_10) => [(50, vDc (iD (nI t50_7)))]) (fun (t50_7, lf_8, lf_9, lf_10) => [(241600, .row 35 1 (List.map (cSlc 3 cValue) lf_8)), (241616, .row 112 1 (List.map (cPtr cInterpUnit) lf_10))]) (fun (t50_7, lf_8, lf_9, lf_10) => [(24, [(3, [.own 241600 1])]), (7000000, [(17, [.d (.slice 1 (List.map cBool lf_9)), .own 241616 1])])]) H (by refine Le.sub rfl ?_ ?_; (repeat' (first | exact trivial | rfl | exact inc64' (by assumption) | refine And.intro ?_ ?_ | (show D.bool _ = D.bool _; simp [*]; done)))) ?_; clear H; intro n x H; obtain _ | n := n; rw [m_interp_machine_run_L2] at H; cases H; obtain ⟨_, _, _, _⟩ := x; rw [m_interp_machine_run_L2] at H; conv => whnf)
  | (refine ⟨(_, _), H, ?_, Nat.lt_succ_self _⟩; refine Le.sub rfl ?_ ?_; (repeat' (first | exact trivial | rfl | exact inc64' (by assumption) | refine And.intro ?_ ?_ | (show D.bool _ = D.bool _; simp [*]; done))); done)
  | (refine eLoopP (m_interp_machine_run_L1 _ _) [0, 2, 3, 30, 31] [16, 7000000, 7000001, 7000002] (fun (t32_1, lf_2) => [(32, vDc (iD (nI t32_1)))]) (fun (t32_1, lf_2) => [(240800, .row 82 2 (List.map cTy lf_2))]) (fun (t32_1, lf_2) => [(24, [(4, [.own 240800 2])])]) H (by refine Le.sub rfl ?_ ?_; (repeat' (first | exact trivial | rfl | exact inc64' (by assumption) | refine And.intro ?_ ?_ | (show D.bool _ = D.bool _; simp [*]; done)))) ?_; clear H; intro n x H; obtain _ | n := n; rw [m_interp_machine_run_L1] at H; cases H; obtain ⟨_, _⟩ := x; rw [m_interp_machine_run_L1] at H; conv => whnf)
  | (refine Or.inl ?_; conv => whnf)
theorem gc_interp_machine_run_o (fu : Nat) (Enums : (List MEnum)) (Tables : (List MTable)) (Scopes : (List MScope)) (scope : MScope) (members : MScope) (cV : MCase) (want : (List Bool)) (inner : (List Bool)) (r_ : (MEvalError × (List Bool) × (List Bool) × (List MInterpUnit) × (Option MInterpUnit))) (H : m_interp_machine_run_o fu Enums Tables Scopes scope members cV want inner = some r_) : Go.Ab.FnH Tryz.prog 37 [.c (.ref 7000000 0 0 0)] [(7000000, .var (([.d (.slice 2 (List.map cEnum Enums))] ++ [.d (.slice 6 (List.map cTable Tables))] ++ [.own 7000001 5]) ++ (List.map C.d (cScope scope)) ++ (List.map C.d (cScope members)) ++ (List.map C.d (cCase cV)) ++ [.own 7000002 1] ++ [.own 7000003 1] ++ [.nil 1] ++ [.d .nilptr])), (7000001, .row 77 5 (List.map cScope Scopes)), (7000002, .row 4 1 (List.map cBool want)), (7000003, .row 4 1 (List.map cBool inner))] (.s (.agg (List.map C.d (cEvalError r_.1)))) [(0, .row 112 1 (List.map (cPtr cInterpUnit) r_.2.2.2.1)), (7000000, .var (([.d (.slice 2 (List.map cEnum Enums))] ++ [.d (.slice 6 (List.map cTable Tables))] ++ [.own 7000001 5]) ++ (List.map C.d (cScope scope)) ++ (List.map C.d (cScope members)) ++ (List.map C.d (cCase cV)) ++ [.d (.slice 1 (List.map cBool r_.2.1))] ++ [.d (.slice 1 (List.map cBool r_.2.2.1))] ++ [.own 0 1] ++ [.d (oP cInterpUnit r_.2.2.2.2)])), (7000001, .row 77 5 (List.map cScope Scopes))] := by
 refine Go.Ab.FnH.intro htab hm Tryz.func37 rfl Tryz.call37 (by kernel_rfl) 122 Tryz.ntmps37 rfl ?_ (fun hr => ?_)
 · repeat' (first | exact trivial | rfl | refine And.intro ?_ ?_ | (simp only [List.length_map]; assumption))
 unfold m_interp_machine_run_o at H
 conv => whnf
 repeat' first
  | (refine leafI ?_; obtain rfl := Option.some.inj H; (repeat' (first | exact trivial | rfl | refine And.intro ?_ ?_ | (show D.bool _ = D.bool _; simp [*]; done))); done)
  | (refine RegP_intro 17 [240800, 241600] ?_; conv => whnf)
  | (refine RegP_intro _ [] ?_; conv => whnf)
  | (refine cK (by with_reducible assumption) (fun q => ?_); (first | with_reducible replace H := hK q H | rw [q] at H | skip); conv => whnf)
  | (refine cBif H (by with_reducible rfl) ?_ ?_ <;> clear H <;> intro q H <;> conv => whnf)
  | (refine condP_intro ?_ ?_ <;> intro q <;> (try rw [q] at H) <;> conv => whnf)
  | (replace H := cnt_some H; obtain ⟨_, H⟩ := H)
  | (refine eIx H ?_; clear H; intro _ _ H; conv => whnf)
  | (refine eAp (f := cTy) H rfl rfl (by decide) ?_; clear H; intro _ H; conv => whnf)
  | (refine eAp (f := (cPtr cInterpUnit)) H rfl rfl (by decide) ?_; clear H; intro _ H; conv => whnf)
  | (refine eAp (f := (cSlc 3 cValue)) H rfl rfl (by decide) ?_; clear H; intro _ H; conv => whnf)
  | (refine eCall H (gg_5.2.1 fu _ _ _) (fun _ => .inl rfl) ?_; clear H; intro _ H; conv => whnf)
  | (refine Or.inr ⟨[], ?_⟩; (conv => whnf); refine eCallH H (gc_interp_unit_run fu _ _ _ _ _ _ _ _ _ _) ?_; clear H; intro _ H; (conv => whnf); refine And.intro ?_ ?_; (focus ((repeat' (first | exact trivial | rfl | refine And.intro ?_ ?_)); done)); conv => whnf)
  | (refine Or.inr ⟨[7000002], ?_⟩; (conv => whnf); refine eCallH H (gc_interp_unit_run fu _ _ _ _ _ _ _ _ _ _) ?_; clear H; intro _ H; (conv => whnf); refine And.intro ?_ ?_; (focus ((repeat' (first | exact trivial | rfl | refine And.intro ?_ ?_)); done)); conv => whnf)
  | (refine LoopP_le (Le.commit (inL [7000003]) _) ?_; refine eLoopP (m_interp_machine_run_o_L2 _ _ _ _ _ _) [0, 2, 3, 48, 49] [16, 240800, 7000001, 7000002] (fun (t50_7, lf_8, lf_9, lf_10) => [(50, vDc (iD (nI t50_7)))]) (fun (t50_7, lf_8, lf_9, lf_10) => [(241600, .row 35 1 (List.map (cSlc 3 cValue) lf_8)), (241616, .row 112 1 (List.map (cPtr cInterpUnit) lf_10))]) (fun (t50_7, lf_8, lf_9, lf_10) => [(24, [(3, [.own 241600 1])]), (7000000, [(17, [.d (.slice 1 (List.map cBool lf_9)), .own 241616 1])])]) H (by refine Le.sub rfl ?_ ?_; (repeat' (first | exact trivial | rfl | exact inc64' (by assumption) | refine And.intro ?_ ?_ | (show D.bool _ = D.bool _; simp [*]; done)))) ?_; clear H; intro n x H; obtain _ | n := n; rw [m_interp_machine_run_o_L2] at H; cases H; obtain ⟨_, _, _, _⟩ := x; rw [m_interp_machine_run_o_L2] at H; conv => whnf)
  | (refine ⟨(_, _), H, ?_, Nat.lt_succ_self _⟩; refine Le.sub rfl ?_ ?_; (repeat' (first | exact trivial | rfl | exact inc64' (by assumption) | refine And.intro ?_ ?_ | (show D.bool _ = D.bool _; simp [*]; done))); done)
  | (refine eLoopP (m_interp_machine_run_o_L1 _ _) [0, 2, 3, 30, 31] [16, 7000000, 7000001, 7000002, 7000003] (fun (t32_1, lf_2) => [(32, vDc (iD (nI t32_1)))]) (fun (t32_1, lf_2) => [(240800, .row 82 2 (List.map cTy lf_2))]) (fun (t32_1, lf_2) => [(24, [(4, [.own 240800 2])])]) H (by refine Le.sub rfl ?_ ?_; (repeat' (first | exact trivial | rfl | exact inc64' (by assumption) | refine And.intro ?_ ?_ | (show D.bool _ = D.bool _; simp [*]; done)))) ?_; clear H; intro n x H; obtain _ | n := n; rw [m_interp_machine_run_o_L1] at H; cases H; obtain ⟨_, _⟩ := x; rw [m_interp_machine_run_o_L1] at H; conv => whnf)
  | (refine Or.inl ?_; conv => whnf)
theorem gg_33 : (∀ (fu : Nat) (l : MLaw) (scope : Int) (cV : MCase) (defV : Int) (r_ : (MValue × Int × MEvalError)) (H : m_interp_EvalDef fu l scope cV defV = some r_), Go.Ab.Fn Tryz.prog 15 [.agg (cLaw l), .c ((iD scope)), .agg (cCase cV), .c ((iD defV))] (.tup [.agg (List.map C.d (cValue r_.1)), .c (.d (iD r_.2.1)), .agg (List.map C.d (cEvalError r_.2.2))]) []) ∧ (∀ (fu : Nat) (l : MLaw) (scope : Int) (cV : MCase) (r_ : (MResult × MEvalError)) (H : m_interp_Run fu l scope cV = some r_), Go.Ab.Fn Tryz.prog 24 [.agg (cLaw l), .c ((iD scope)), .agg (cCase cV)] (.tup [.agg (List.map C.d (cResult r_.1)), .agg (List.map C.d (cEvalError r_.2))]) []) ∧ (∀ (fu : Nat) (l : MLaw) (scope : Int) (cV : MCase) (r_ : (MResult × MEvalError)) (H : m_interp_Run_o fu l scope cV = some r_), Go.Ab.FnH Tryz.prog 24 [.agg ([.d (.slice 2 (List.map cEnum l.enums))] ++ [.d (.slice 6 (List.map cTable l.tables))] ++ [.own 7000000 5]), .c (.d ((iD scope))), .agg (List.map C.d (cCase cV))] [(7000000, .row 77 5 (List.map cScope l.scopes))] (.tup [.agg (List.map C.d (cResult r_.1)), .agg (List.map C.d (cEvalError r_.2))]) [(7000000, .row 77 5 (List.map cScope l.scopes))]) ∧ (∀ (fu : Nat) (l : MLaw) (scope : Int) (cV : MCase) (defV : Int) (r_ : (Int × MEvalError)) (H : m_interp_SelectRule fu l scope cV defV = some r_), Go.Ab.Fn Tryz.prog 26 [.agg (cLaw l), .c ((iD scope)), .agg (cCase cV), .c ((iD defV))] (.tup [.c (.d (iD r_.1)), .agg (List.map C.d (cEvalError r_.2))]) []) := by
 refine ⟨fun fu l scope cV defV r_ H => ?_, fun fu l scope cV r_ H => ?_, fun fu l scope cV r_ H => ?_, fun fu l scope cV defV r_ H => ?_⟩
 all_goals first
  | (refine Go.Ab.Fn.intro htab hm Tryz.func15 rfl Tryz.call15 (by kernel_rfl) 60 Tryz.ntmps15 rfl (fun hr => ?_); unfold m_interp_EvalDef at H)
  | (refine Go.Ab.Fn.intro htab hm Tryz.func24 rfl Tryz.call24 (by kernel_rfl) 79 Tryz.ntmps24 rfl (fun hr => ?_); unfold m_interp_Run at H)
  | (refine Go.Ab.FnH.intro htab hm Tryz.func24 rfl Tryz.call24 (by kernel_rfl) 79 Tryz.ntmps24 rfl (by repeat' (first | exact trivial | rfl | refine And.intro ?_ ?_ | (simp only [List.length_map]; assumption))) (fun hr => ?_); unfold m_interp_Run_o at H)
  | (refine Go.Ab.Fn.intro htab hm Tryz.func26 rfl Tryz.call26 (by kernel_rfl) 106 Tryz.ntmps26 rfl (fun hr => ?_); unfold m_interp_SelectRule at H)
 all_goals conv => whnf
 repeat' first
  | (refine leafI ?_; obtain rfl := Option.some.inj H; (repeat' (first | exact trivial | rfl | refine And.intro ?_ ?_ | (show D.bool _ = D.bool _; simp [*]; done))); done)
  | (refine ePo H ?_; clear H; intro _ hp H; rw [hp]; conv => whnf)
  | (refine RegP_intro _ [] ?_; conv => whnf)
  | (refine cK (by with_reducible assumption) (fun q => ?_); (first | with_reducible replace H := hK q H | rw [q] at H | skip); conv => whnf)
  | (refine cBif H (by with_reducible rfl) ?_ ?_ <;> clear H <;> intro q H <;> conv => whnf)
  | (refine condP_intro ?_ ?_ <;> intro q <;> (try rw [q] at H) <;> conv => whnf)
  | (refine eIx H ?_; clear H; intro _ _ H; conv => whnf)
  | (replace H := cnt_some H; obtain ⟨_, H⟩ := H)
  | (refine eIo H ?_; clear H; intro _ _ H; conv => whnf)
  | (refine eRd (by assumption) ?_; conv => whnf)
  | (refine eAp (f := cMemberResult) H rfl rfl (by decide) ?_; clear H; intro _ H; conv => whnf)
  | (refine eAp (f := cRule) H rfl rfl (by decide) ?_; clear H; intro _ H; conv => whnf)
  | (refine eCall H (gg_31.1 fu _ _ _ _ _) (fun _ => .inl rfl) ?_; clear H; intro _ H; conv => whnf)
  | (refine eCall H (gg_5.1 fu _ _ _) (fun _ => .inl rfl) ?_; clear H; intro _ H; conv => whnf)
  | (refine eCall H (gg_20.1 fu _ _ _) (fun _ => .inl rfl) ?_; clear H; intro _ H; conv => whnf)
  | (refine Or.inl (Or.inr ?_); (conv => whnf); refine eCall H (gc_deps_Direct fu _ _) (fun _ => .inl rfl) ?_; clear H; intro _ H; conv => whnf)
  | (refine Or.inr ⟨[], ?_⟩; (conv => whnf); refine eCallH H (gg_28.2.2.1 fu _ _ _ _ _ _ _) ?_; clear H; intro _ H; (conv => whnf); refine And.intro ?_ ?_; (focus ((repeat' (first | exact trivial | rfl | refine And.intro ?_ ?_)); done)); conv => whnf)
  | (refine Or.inr ⟨[], ?_⟩; (conv => whnf); refine eCallH H (gg_11.1 fu _ _ _ _ _ _) ?_; clear H; intro _ H; (conv => whnf); refine And.intro ?_ ?_; (focus ((repeat' (first | exact trivial | rfl | refine And.intro ?_ ?_)); done)); conv => whnf)
  | (refine eCall H (gg_28.2.2.2.2 fu _ _) (fun _ => .inl rfl) ?_; clear H; intro _ H; conv => whnf)
  | (refine Or.inr ⟨[], ?_⟩; (conv => whnf); refine eCallH H (gg_27.2.1 fu _ _ _ _ _ _ _) ?_; clear H; intro _ H; (conv => whnf); refine And.intro ?_ ?_; (focus ((repeat' (first | exact trivial | rfl | refine And.intro ?_ ?_)); done)); conv => whnf)
  | (refine Or.inr ⟨[], ?_⟩; (conv => whnf); refine eCallH H (gc_interp_machine_run fu _ _ _ _ _ _) ?_; clear H; intro _ H; (conv => whnf); refine And.intro ?_ ?_; (focus ((repeat' (first | exact trivial | rfl | refine And.intro ?_ ?_)); done)); conv => whnf)
  | (refine eLoopP (m_interp_Run_L1 _ _) [6, 7, 11, 55, 56] [48, 56, 240] (fun (t57_6, lf_7) => [(57, vDc (iD (nI t57_6)))]) (fun (t57_6, lf_7) => [(240800, .row 87 2 (List.map cMemberResult lf_7))]) (fun (t57_6, lf_7) => [(88, [(2, [.own 240800 2])])]) H (by refine Le.sub rfl ?_ ?_; (repeat' (first | exact trivial | rfl | exact inc64' (by assumption) | refine And.intro ?_ ?_ | (show D.bool _ = D.bool _; simp [*]; done)))) ?_; clear H; intro n x H; obtain _ | n := n; rw [m_interp_Run_L1] at H; cases H; obtain ⟨_, _⟩ := x; rw [m_interp_Run_L1] at H; conv => whnf)
  | (refine Or.inl (Or.inl ?_); (conv => whnf); refine eCall H (gg_31.1 fu _ _ _ _ _) (fun _ => .inr ⟨rfl, rfl⟩) ?_; clear H; intro _ H; conv => whnf)
  | (refine Or.inr ⟨[], ?_⟩; (conv => whnf); refine eCallH H (gg_11.2.2.1 fu _ _ _) ?_; clear H; intro _ H; (conv => whnf); refine And.intro ?_ ?_; (focus ((repeat' (first | exact trivial | rfl | refine And.intro ?_ ?_)); done)); conv => whnf)
  | (refine Or.inr ⟨[], ?_⟩; (conv => whnf); refine eCallH H (gg_11.2.2.2.1 fu _ _ _ _ _ _ _ _) ?_; clear H; intro _ H; (conv => whnf); refine And.intro ?_ ?_; (focus ((repeat' (first | exact trivial | rfl | refine And.intro ?_ ?_)); done)); conv => whnf)
  | (refine Or.inr ⟨[], ?_⟩; (conv => whnf); refine eCallH H (gc_interp_machine_run_o fu _ _ _ _ _ _ _ _) ?_; clear H; intro _ H; (conv => whnf); refine And.intro ?_ ?_; (focus ((repeat' (first | exact trivial | rfl | refine And.intro ?_ ?_)); done)); conv => whnf)
  | (refine eLoopP (m_interp_Run_o_L1 _ _) [6, 7, 11, 55, 56] [48, 56, 240, 7000000] (fun (t57_6, lf_7) => [(57, vDc (iD (nI t57_6)))]) (fun (t57_6, lf_7) => [(240800, .row 87 2 (List.map cMemberResult lf_7))]) (fun (t57_6, lf_7) => [(88, [(2, [.own 240800 2])])]) H (by refine Le.sub rfl ?_ ?_; (repeat' (first | exact trivial | rfl | exact inc64' (by assumption) | refine And.intro ?_ ?_ | (show D.bool _ = D.bool _; simp [*]; done)))) ?_; clear H; intro n x H; obtain _ | n := n; rw [m_interp_Run_o_L1] at H; cases H; obtain ⟨_, _⟩ := x; rw [m_interp_Run_o_L1] at H; conv => whnf)
  | (refine eCall H (gg_32.1 fu _ _) (fun _ => .inl rfl) ?_; clear H; intro _ H; conv => whnf)
  | (refine eLoop (m_interp_SelectRule_L3 _ _ _ _ _) [3, 9, 11, 82, 83] [72, 256, 257, 656] (fun (t84_20, rw_21) => [(84, vDc (iD (nI t84_20)))]) (fun (t84_20, rw_21) => [(258, .row 4 1 (List.map cBool rw_21))]) H (by refine Le.sub rfl ?_ ?_; (repeat' (first | exact trivial | rfl | exact inc64' (by assumption) | refine And.intro ?_ ?_ | (show D.bool _ = D.bool _; simp [*]; done)))) ?_; clear H; intro n x H; obtain _ | n := n; rw [m_interp_SelectRule_L3] at H; cases H; obtain ⟨_, _⟩ := x; rw [m_interp_SelectRule_L3] at H; conv => whnf)
  | (refine ⟨(_, _), H, ?_, Nat.lt_succ_self _⟩; refine Le.sub rfl ?_ ?_; (repeat' (first | exact trivial | rfl | exact inc64' (by assumption) | refine And.intro ?_ ?_ | (show D.bool _ = D.bool _; simp [*]; done))); done)
  | (refine eLoop (m_interp_SelectRule_L2 _ _ _ _) [3, 9, 11, 12, 70, 71] [72, 96, 256, 560] (fun (t72_12, rw_13, rw_14) => [(72, vDc (iD (nI t72_12)))]) (fun (t72_12, rw_13, rw_14) => [(257, .row 4 1 (List.map cBool rw_13)), (258, .row 4 1 (List.map cBool rw_14))]) H (by refine Le.sub rfl ?_ ?_; (repeat' (first | exact trivial | rfl | exact inc64' (by assumption) | refine And.intro ?_ ?_ | (show D.bool _ = D.bool _; simp [*]; done)))) ?_; clear H; intro n x H; obtain _ | n := n; rw [m_interp_SelectRule_L2] at H; cases H; obtain ⟨_, _, _⟩ := x; rw [m_interp_SelectRule_L2] at H; conv => whnf)
  | (refine eLoopP (m_interp_SelectRule_L1 _ _ _ _) [3, 9, 11, 12, 45, 46] [72, 256, 257, 258, 360] (fun (t47_4, lf_5) => [(47, vDc (iD (nI t47_4)))]) (fun (t47_4, lf_5) => [(240800, .row 138 9 (List.map cRule lf_5))]) (fun (t47_4, lf_5) => [(96, [(4, [.own 240800 9])])]) H (by refine Le.sub rfl ?_ ?_; (repeat' (first | exact trivial | rfl | exact inc64' (by assumption) | refine And.intro ?_ ?_ | (show D.bool _ = D.bool _; simp [*]; done)))) ?_; clear H; intro n x H; obtain _ | n := n; rw [m_interp_SelectRule_L1] at H; cases H; obtain ⟨_, _⟩ := x; rw [m_interp_SelectRule_L1] at H; conv => whnf)
end Go.Proofs.YtffnbobdkpebgaaGreat
