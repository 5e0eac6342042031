/- Contracts: the functions answer as their models, by my generator. -/
import Derived.Test.YtffnbobdkpebgaaGreatVzC0
set_option linter.unusedVariables false
set_option linter.unusedSimpArgs false
set_option maxRecDepth 100000
set_option maxHeartbeats 4000000
namespace Go.Proofs.YtffnbobdkpebgaaGreat
open Go Go.Ab
theorem gg_9 : (∀ (fu : Nat) (s : MScope) (cap : BA) (r_ : Bool) (H : m_lawdiff_counterpart_1 fu s cap = some r_), Go.Ab.Fn Tryz.prog 106 [.agg (cScope s), .c (.ptr (cStr cap) 0)] (.s (.c (.d (.bool r_)))) []) ∧ (∀ (fu : Nat) (rV : MRule) (cap : BA) (r_ : Bool) (H : m_lawdiff_counterpart_2 fu rV cap = some r_), Go.Ab.Fn Tryz.prog 108 [.agg (cRule rV), .c (.ptr (cStr cap) 0)] (.s (.c (.d (.bool r_)))) []) ∧ (∀ (fu : Nat) (s : MScope) (rV : MRule) (r_ : MLawdiffProperties) (H : m_lawdiff_props fu s rV = some r_), Go.Ab.Fn Tryz.prog 67 [.agg (cScope s), .agg (cRule rV)] (.s (.agg (List.map C.d (cLawdiffProperties r_)))) []) ∧ (∀ (fu : Nat) (rV : MRule) (cap : BA) (r_ : Bool) (H : m_impact_contains_1 fu rV cap = some r_), Go.Ab.Fn Tryz.prog 109 [.agg (cRule rV), .c (.ptr (cStr cap) 0)] (.s (.c (.d (.bool r_)))) []) ∧ (∀ (fu : Nat) (a : (List MChange)) (b : (List MChange)) (r_ : Bool) (H : m_same_Changes fu a b = some r_), Go.Ab.Fn Tryz.prog 29 [.c ((.slice 3 (List.map cChange a))), .c ((.slice 3 (List.map cChange b)))] (.s (.c (.d (.bool r_)))) []) ∧ (∀ (fu : Nat) (s : MScope) (r_ : Bool) (H : m_same_smallScope fu s = some r_), Go.Ab.Fn Tryz.prog 38 [.agg (cScope s)] (.s (.c (.d (.bool r_)))) []) := by
 refine ⟨fun fu s cap r_ H => ?_, fun fu rV cap r_ H => ?_, fun fu s rV r_ H => ?_, fun fu rV cap r_ H => ?_, fun fu a b r_ H => ?_, fun fu s r_ H => ?_⟩
 all_goals first
  | (refine Go.Ab.Fn.intro htab hm Tryz.func106 rfl Tryz.call106 (by kernel_rfl) 8 Tryz.ntmps106 rfl (fun hr => ?_); unfold m_lawdiff_counterpart_1 at H)
  | (refine Go.Ab.Fn.intro htab hm Tryz.func108 rfl Tryz.call108 (by kernel_rfl) 8 Tryz.ntmps108 rfl (fun hr => ?_); unfold m_lawdiff_counterpart_2 at H)
  | (refine Go.Ab.Fn.intro htab hm Tryz.func67 rfl Tryz.call67 (by kernel_rfl) 52 Tryz.ntmps67 rfl (fun hr => ?_); unfold m_lawdiff_props at H)
  | (refine Go.Ab.Fn.intro htab hm Tryz.func109 rfl Tryz.call109 (by kernel_rfl) 8 Tryz.ntmps109 rfl (fun hr => ?_); unfold m_impact_contains_1 at H)
  | (refine Go.Ab.Fn.intro htab hm Tryz.func29 rfl Tryz.call29 (by kernel_rfl) 32 Tryz.ntmps29 rfl (fun hr => ?_); unfold m_same_Changes at H)
  | (refine Go.Ab.Fn.intro htab hm Tryz.func38 rfl Tryz.call38 (by kernel_rfl) 93 Tryz.ntmps38 rfl (fun hr => ?_); unfold m_same_smallScope at H)
 all_goals conv => whnf
 repeat' first
  | (refine leafI ?_; obtain rfl := Option.some.inj H; (repeat' (first | exact trivial | rfl | refine And.intro ?_ ?_ | (show D.bool _ = D.bool _; simp [*]; done))); done)
  | (refine RegP_intro _ [] ?_; conv => whnf)
  | (refine cK (by with_reducible assumption) (fun q => ?_); (first | with_reducible replace H := hK q H | rw [q] at H | skip); conv => whnf)
  | (refine cBif H (by with_reducible rfl) ?_ ?_ <;> clear H <;> intro q H <;> conv => whnf)
  | (refine condP_intro ?_ ?_ <;> intro q <;> (try rw [q] at H) <;> conv => whnf)
  | (replace H := cnt_some H; obtain ⟨_, H⟩ := H)
  | (refine eIx H ?_; clear H; intro _ _ H; conv => whnf)
  | (refine eLoop (m_same_Changes_L1 _ _ _) [0, 1] [] (fun i_1 => [(5, vDc (iD (nI i_1)))]) (fun i_1 => []) H (by refine Le.sub rfl ?_ ?_; (repeat' (first | exact trivial | rfl | exact inc64' (by assumption) | refine And.intro ?_ ?_ | (show D.bool _ = D.bool _; simp [*]; done)))) ?_; clear H; intro n x H; obtain _ | n := n; rw [m_same_Changes_L1] at H; cases H; rw [m_same_Changes_L1] at H; conv => whnf)
  | (refine eLoop (m_same_smallScope_L3 _ _) [1] [8] (fun i_9 => [(5, vDc (iD (nI i_9)))]) (fun i_9 => []) H (by refine Le.sub rfl ?_ ?_; (repeat' (first | exact trivial | rfl | exact inc64' (by assumption) | refine And.intro ?_ ?_ | (show D.bool _ = D.bool _; simp [*]; done)))) ?_; clear H; intro n x H; obtain _ | n := n; rw [m_same_smallScope_L3] at H; cases H; rw [m_same_smallScope_L3] at H; conv => whnf)
  | (refine ⟨(_, _), H, ?_, Nat.lt_succ_self _⟩; refine Le.sub rfl ?_ ?_; (repeat' (first | exact trivial | rfl | exact inc64' (by assumption) | refine And.intro ?_ ?_ | (show D.bool _ = D.bool _; simp [*]; done))); done)
  | (refine eLoop (m_same_smallScope_L2 _ _) [1] [8] (fun i_5 => [(4, vDc (iD (nI i_5)))]) (fun i_5 => []) H (by refine Le.sub rfl ?_ ?_; (repeat' (first | exact trivial | rfl | exact inc64' (by assumption) | refine And.intro ?_ ?_ | (show D.bool _ = D.bool _; simp [*]; done)))) ?_; clear H; intro n x H; obtain _ | n := n; rw [m_same_smallScope_L2] at H; cases H; rw [m_same_smallScope_L2] at H; conv => whnf)
  | (refine eLoop (m_same_smallScope_L1 _ _) [1] [8] (fun i_1 => [(3, vDc (iD (nI i_1)))]) (fun i_1 => []) H (by refine Le.sub rfl ?_ ?_; (repeat' (first | exact trivial | rfl | exact inc64' (by assumption) | refine And.intro ?_ ?_ | (show D.bool _ = D.bool _; simp [*]; done)))) ?_; clear H; intro n x H; obtain _ | n := n; rw [m_same_smallScope_L1] at H; cases H; rw [m_same_smallScope_L1] at H; conv => whnf)
theorem gg_10 : (∀ (fu : Nat) (cV : MCase) (r_ : Bool) (H : m_same_SmallCase fu cV = some r_), Go.Ab.Fn Tryz.prog 17 [.agg (cCase cV)] (.s (.c (.d (.bool r_)))) []) ∧ (∀ (fu : Nat) (rV : MKeyRange) (step : Int) (r_ : Int) (H : m_ref60_Points fu rV step = some r_), Go.Ab.Fn Tryz.prog 39 [.agg (cKeyRange rV), .c ((iD step))] (.s (.c (.d (iD r_)))) []) ∧ (∀ (fu : Nat) (nV : Int) (r_ : MCase) (H : m_law60_income fu nV = some r_), Go.Ab.Fn Tryz.prog 41 [.c ((iD nV))] (.s (.agg (List.map C.d (cCase r_)))) []) ∧ (∀ (fu : Nat) (step : Int) (r_ : Bool) (H : m_marginal_validStep fu step = some r_), Go.Ab.Fn Tryz.prog 45 [.c ((iD step))] (.s (.c (.d (.bool r_)))) []) ∧ (∀ (fu : Nat) (rV : MKeyRange) (step : Int) (r_ : Int) (H : m_marginal_points fu rV step = some r_), Go.Ab.Fn Tryz.prog 46 [.agg (cKeyRange rV), .c ((iD step))] (.s (.c (.d (iD r_)))) []) ∧ (∀ (fu : Nat) (a : (List MCliff)) (b : (List MCliff)) (r_ : Bool) (H : m_same_Cliffs fu a b = some r_), Go.Ab.Fn Tryz.prog 43 [.c ((.slice 3 (List.map cCliff a))), .c ((.slice 3 (List.map cCliff b)))] (.s (.c (.d (.bool r_)))) []) := by
 refine ⟨fun fu cV r_ H => ?_, fun fu rV step r_ H => ?_, fun fu nV r_ H => ?_, fun fu step r_ H => ?_, fun fu rV step r_ H => ?_, fun fu a b r_ H => ?_⟩
 all_goals first
  | (refine Go.Ab.Fn.intro htab hm Tryz.func17 rfl Tryz.call17 (by kernel_rfl) 28 Tryz.ntmps17 rfl (fun hr => ?_); unfold m_same_SmallCase at H)
  | (refine Go.Ab.Fn.intro htab hm Tryz.func39 rfl Tryz.call39 (by kernel_rfl) 20 Tryz.ntmps39 rfl (fun hr => ?_); unfold m_ref60_Points at H)
  | (refine Go.Ab.Fn.intro htab hm Tryz.func41 rfl Tryz.call41 (by kernel_rfl) 7 Tryz.ntmps41 rfl (fun hr => ?_); unfold m_law60_income at H)
  | (refine Go.Ab.Fn.intro htab hm Tryz.func45 rfl Tryz.call45 (by kernel_rfl) 9 Tryz.ntmps45 rfl (fun hr => ?_); unfold m_marginal_validStep at H)
  | (refine Go.Ab.Fn.intro htab hm Tryz.func46 rfl Tryz.call46 (by kernel_rfl) 19 Tryz.ntmps46 rfl (fun hr => ?_); unfold m_marginal_points at H)
  | (refine Go.Ab.Fn.intro htab hm Tryz.func43 rfl Tryz.call43 (by kernel_rfl) 32 Tryz.ntmps43 rfl (fun hr => ?_); unfold m_same_Cliffs at H)
 all_goals conv => whnf
 repeat' first
  | (refine leafI ?_; obtain rfl := Option.some.inj H; (repeat' (first | exact trivial | rfl | refine And.intro ?_ ?_ | (show D.bool _ = D.bool _; simp [*]; done))); done)
  | (refine RegP_intro _ [] ?_; conv => whnf)
  | (refine cK (by with_reducible assumption) (fun q => ?_); (first | with_reducible replace H := hK q H | rw [q] at H | skip); conv => whnf)
  | (refine cBif H (by with_reducible rfl) ?_ ?_ <;> clear H <;> intro q H <;> conv => whnf)
  | (refine condP_intro ?_ ?_ <;> intro q <;> (try rw [q] at H) <;> conv => whnf)
  | (replace H := cnt_some H; obtain ⟨_, H⟩ := H)
  | (refine eIx H ?_; clear H; intro _ _ H; conv => whnf)
  | (refine eLoop (m_same_SmallCase_L1 _ _) [1] [8] (fun i_1 => [(3, vDc (iD (nI i_1)))]) (fun i_1 => []) H (by refine Le.sub rfl ?_ ?_; (repeat' (first | exact trivial | rfl | exact inc64' (by assumption) | refine And.intro ?_ ?_ | (show D.bool _ = D.bool _; simp [*]; done)))) ?_; clear H; intro n x H; obtain _ | n := n; rw [m_same_SmallCase_L1] at H; cases H; rw [m_same_SmallCase_L1] at H; conv => whnf)
  | (refine eLoop (m_same_Cliffs_L1 _ _ _) [0, 1] [] (fun i_1 => [(5, vDc (iD (nI i_1)))]) (fun i_1 => []) H (by refine Le.sub rfl ?_ ?_; (repeat' (first | exact trivial | rfl | exact inc64' (by assumption) | refine And.intro ?_ ?_ | (show D.bool _ = D.bool _; simp [*]; done)))) ?_; clear H; intro n x H; obtain _ | n := n; rw [m_same_Cliffs_L1] at H; cases H; rw [m_same_Cliffs_L1] at H; conv => whnf)
  | (refine ⟨(_, _), H, ?_, Nat.lt_succ_self _⟩; refine Le.sub rfl ?_ ?_; (repeat' (first | exact trivial | rfl | exact inc64' (by assumption) | refine And.intro ?_ ?_ | (show D.bool _ = D.bool _; simp [*]; done))); done)
  | (refine eNz H ?_; clear H; intro H; conv => whnf)
theorem gg_11 : (∀ (fu : Nat) (law : MLaw) (scope : MScope) (members : MScope) (cV : MCase) (want : (List Bool)) (inner : (List Bool)) (r_ : ((List Bool) × (List Bool))) (H : m_interp_machine_all fu law scope members cV want inner = some r_), Go.Ab.FnH Tryz.prog 49 [.c (.ref 7000000 0 0 0)] [(7000000, .var ((List.map C.d (cLaw law)) ++ (List.map C.d (cScope scope)) ++ (List.map C.d (cScope members)) ++ (List.map C.d (cCase cV)) ++ [.own 7000001 1] ++ [.own 7000002 1] ++ [.nil 1] ++ [.d .nilptr])), (7000001, .row 4 1 (List.map cBool want)), (7000002, .row 4 1 (List.map cBool inner))] (.tup []) [(7000000, .var ((List.map C.d (cLaw law)) ++ (List.map C.d (cScope scope)) ++ (List.map C.d (cScope members)) ++ (List.map C.d (cCase cV)) ++ [.own 7000001 1] ++ [.own 7000002 1] ++ [.nil 1] ++ [.d .nilptr])), (7000001, .row 4 1 (List.map cBool r_.1)), (7000002, .row 4 1 (List.map cBool r_.2))]) ∧ (∀ (fu : Nat) (a : (List Int)) (b : (List Int)) (r_ : Bool) (H : m_same_Ints fu a b = some r_), Go.Ab.Fn Tryz.prog 48 [.c ((.slice 1 (List.map cInt a))), .c ((.slice 1 (List.map cInt b)))] (.s (.c (.d (.bool r_)))) []) ∧ (∀ (fu : Nat) (l : MLaw) (scope : Int) (cV : MCase) (r_ : ((List MEnum) × (List MTable) × (List MScope) × MScope × MScope × MCase × (List Bool) × (List Bool))) (H : m_interp_newMachine_o fu l scope cV = some r_), Go.Ab.FnH Tryz.prog 35 [.agg ([.d (.slice 2 (List.map cEnum l.enums))] ++ [.d (.slice 6 (List.map cTable l.tables))] ++ [.own 7000000 5]), .c (.d ((iD scope))), .agg (List.map C.d (cCase cV))] [(7000000, .row 77 5 (List.map cScope l.scopes))] (.s (.c (.ref 0 0 0 0))) [(0, .var (([.d (.slice 2 (List.map cEnum r_.1))] ++ [.d (.slice 6 (List.map cTable r_.2.1))] ++ [.own 7000000 5]) ++ (List.map C.d (cScope r_.2.2.2.1)) ++ (List.map C.d (cScope r_.2.2.2.2.1)) ++ (List.map C.d (cCase r_.2.2.2.2.2.1)) ++ [.own 1 1] ++ [.own 2 1] ++ [.nil 1] ++ [.d .nilptr])), (1, .row 4 1 (List.map cBool r_.2.2.2.2.2.2.1)), (2, .row 4 1 (List.map cBool r_.2.2.2.2.2.2.2)), (7000000, .row 77 5 (List.map cScope l.scopes))]) ∧ (∀ (fu : Nat) (Enums : (List MEnum)) (Tables : (List MTable)) (Scopes : (List MScope)) (scope : MScope) (members : MScope) (cV : MCase) (want : (List Bool)) (inner : (List Bool)) (r_ : ((List Bool) × (List Bool))) (H : m_interp_machine_all_o fu Enums Tables Scopes scope members cV want inner = some r_), Go.Ab.FnH Tryz.prog 49 [.c (.ref 7000000 0 0 0)] [(7000000, .var (([.d (.slice 2 (List.map cEnum Enums))] ++ [.d (.slice 6 (List.map cTable Tables))] ++ [.own 7000001 5]) ++ (List.map C.d (cScope scope)) ++ (List.map C.d (cScope members)) ++ (List.map C.d (cCase cV)) ++ [.own 7000002 1] ++ [.own 7000003 1] ++ [.nil 1] ++ [.d .nilptr])), (7000001, .row 77 5 (List.map cScope Scopes)), (7000002, .row 4 1 (List.map cBool want)), (7000003, .row 4 1 (List.map cBool inner))] (.tup []) [(7000000, .var (([.d (.slice 2 (List.map cEnum Enums))] ++ [.d (.slice 6 (List.map cTable Tables))] ++ [.own 7000001 5]) ++ (List.map C.d (cScope scope)) ++ (List.map C.d (cScope members)) ++ (List.map C.d (cCase cV)) ++ [.own 7000002 1] ++ [.own 7000003 1] ++ [.nil 1] ++ [.d .nilptr])), (7000001, .row 77 5 (List.map cScope Scopes)), (7000002, .row 4 1 (List.map cBool r_.1)), (7000003, .row 4 1 (List.map cBool r_.2))]) ∧ (∀ (fu : Nat) (v : MValue) (r_ : MTy) (H : m_value_typeOf fu v = some r_), Go.Ab.Fn Tryz.prog 58 [.agg (cValue v)] (.s (.agg (List.map C.d (cTy r_)))) []) := by
 refine ⟨fun fu law scope members cV want inner r_ H => ?_, fun fu a b r_ H => ?_, fun fu l scope cV r_ H => ?_, fun fu Enums Tables Scopes scope members cV want inner r_ H => ?_, fun fu v r_ H => ?_⟩
 all_goals first
  | (unfold m_interp_machine_all at H; obtain ⟨H, hl⟩ := lk_some H; simp only [Bool.and_eq_true, decide_eq_true_eq] at hl; obtain ⟨hl0, hl1⟩ := hl; refine Go.Ab.FnH.intro htab hm Tryz.func49 rfl Tryz.call49 (by kernel_rfl) 34 Tryz.ntmps49 rfl (by repeat' (first | exact trivial | rfl | refine And.intro ?_ ?_ | (simp only [List.length_map]; assumption))) (fun hr => ?_); unfold n_interp_machine_all at H)
  | (refine Go.Ab.Fn.intro htab hm Tryz.func48 rfl Tryz.call48 (by kernel_rfl) 32 Tryz.ntmps48 rfl (fun hr => ?_); unfold m_same_Ints at H)
  | (refine Go.Ab.FnH.intro htab hm Tryz.func35 rfl Tryz.call35 (by kernel_rfl) 54 Tryz.ntmps35 rfl (by repeat' (first | exact trivial | rfl | refine And.intro ?_ ?_ | (simp only [List.length_map]; assumption))) (fun hr => ?_); unfold m_interp_newMachine_o at H)
  | (unfold m_interp_machine_all_o at H; obtain ⟨H, hl⟩ := lk_some H; simp only [Bool.and_eq_true, decide_eq_true_eq] at hl; obtain ⟨hl0, hl1⟩ := hl; refine Go.Ab.FnH.intro htab hm Tryz.func49 rfl Tryz.call49 (by kernel_rfl) 34 Tryz.ntmps49 rfl (by repeat' (first | exact trivial | rfl | refine And.intro ?_ ?_ | (simp only [List.length_map]; assumption))) (fun hr => ?_); unfold n_interp_machine_all_o at H)
  | (refine Go.Ab.Fn.intro htab hm Tryz.func58 rfl Tryz.call58 (by kernel_rfl) 8 Tryz.ntmps58 rfl (fun hr => ?_); unfold m_value_typeOf at H)
 all_goals conv => whnf
 repeat' first
  | (refine leafI ?_; obtain rfl := Option.some.inj H; (repeat' (first | exact trivial | rfl | refine And.intro ?_ ?_ | (show D.bool _ = D.bool _; simp [*]; done))); done)
  | (refine RegP_intro _ [] ?_; conv => whnf)
  | (refine cK (by with_reducible assumption) (fun q => ?_); (first | with_reducible replace H := hK q H | rw [q] at H | skip); conv => whnf)
  | (refine cBif H (by with_reducible rfl) ?_ ?_ <;> clear H <;> intro q H <;> conv => whnf)
  | (refine condP_intro ?_ ?_ <;> intro q <;> (try rw [q] at H) <;> conv => whnf)
  | (replace H := cnt_some H; obtain ⟨_, H⟩ := H)
  | (refine eIo H ?_; clear H; intro _ _ H; conv => whnf)
  | (refine eSt (f := cBool) (fun v x => v) _ (by assumption) (by (try dsimp only [cBool, MRule.fr, MRule.to, MRow.fr, MRow.to]); rfl) ?_; conv => whnf)
  | (refine eRd (by assumption) ?_; conv => whnf)
  | (refine eLoop (m_interp_machine_all_L2 _ _) [0, 23] [7000000, 7000001] (fun (t24_6, rw_7) => [(24, vDc (iD (nI t24_6)))]) (fun (t24_6, rw_7) => [(7000002, .row 4 1 (List.map cBool rw_7))]) H (by refine Le.sub rfl ?_ ?_; (repeat' (first | exact trivial | rfl | exact inc64' (by assumption) | refine And.intro ?_ ?_ | (show D.bool _ = D.bool _; simp [*]; done)))) ?_; clear H; intro n x H; obtain _ | n := n; rw [m_interp_machine_all_L2] at H; cases H; obtain ⟨_, _⟩ := x; rw [m_interp_machine_all_L2] at H; conv => whnf)
  | (refine eIx H ?_; clear H; intro _ _ H; conv => whnf)
  | (refine eLoop (m_same_Ints_L1 _ _ _) [0, 1] [] (fun i_1 => [(5, vDc (iD (nI i_1)))]) (fun i_1 => []) H (by refine Le.sub rfl ?_ ?_; (repeat' (first | exact trivial | rfl | exact inc64' (by assumption) | refine And.intro ?_ ?_ | (show D.bool _ = D.bool _; simp [*]; done)))) ?_; clear H; intro n x H; obtain _ | n := n; rw [m_same_Ints_L1] at H; cases H; rw [m_same_Ints_L1] at H; conv => whnf)
  | (refine eLoop (m_interp_machine_all_o_L2 _ _) [0, 23] [7000000, 7000001, 7000002] (fun (t24_6, rw_7) => [(24, vDc (iD (nI t24_6)))]) (fun (t24_6, rw_7) => [(7000003, .row 4 1 (List.map cBool rw_7))]) H (by refine Le.sub rfl ?_ ?_; (repeat' (first | exact trivial | rfl | exact inc64' (by assumption) | refine And.intro ?_ ?_ | (show D.bool _ = D.bool _; simp [*]; done)))) ?_; clear H; intro n x H; obtain _ | n := n; rw [m_interp_machine_all_o_L2] at H; cases H; obtain ⟨_, _⟩ := x; rw [m_interp_machine_all_o_L2] at H; conv => whnf)
  | (refine ⟨(_, _), H, ?_, Nat.lt_succ_self _⟩; refine Le.sub rfl ?_ ?_; (repeat' (first | exact trivial | rfl | exact inc64' (by assumption) | refine And.intro ?_ ?_ | (show D.bool _ = D.bool _; simp [*]; done))); done)
  | (refine eLoop (m_interp_machine_all_L1 _ _) [0, 8] [7000000, 7000002] (fun (t9_1, rw_2) => [(9, vDc (iD (nI t9_1)))]) (fun (t9_1, rw_2) => [(7000001, .row 4 1 (List.map cBool rw_2))]) H (by refine Le.sub rfl ?_ ?_; (repeat' (first | exact trivial | rfl | exact inc64' (by assumption) | refine And.intro ?_ ?_ | (show D.bool _ = D.bool _; simp [*]; done)))) ?_; clear H; intro n x H; obtain _ | n := n; rw [m_interp_machine_all_L1] at H; cases H; obtain ⟨_, _⟩ := x; rw [m_interp_machine_all_L1] at H; conv => whnf)
  | (refine eMk (f := cBool) H rfl ?_; clear H; intro _ H; conv => whnf)
  | (refine eLoop (m_interp_machine_all_o_L1 _ _) [0, 8] [7000000, 7000001, 7000003] (fun (t9_1, rw_2) => [(9, vDc (iD (nI t9_1)))]) (fun (t9_1, rw_2) => [(7000002, .row 4 1 (List.map cBool rw_2))]) H (by refine Le.sub rfl ?_ ?_; (repeat' (first | exact trivial | rfl | exact inc64' (by assumption) | refine And.intro ?_ ?_ | (show D.bool _ = D.bool _; simp [*]; done)))) ?_; clear H; intro n x H; obtain _ | n := n; rw [m_interp_machine_all_o_L1] at H; cases H; obtain ⟨_, _⟩ := x; rw [m_interp_machine_all_o_L1] at H; conv => whnf)
theorem gr_ruletree_tree_outcome (fu : Nat) : (∀ (t : MRuletreeTree) (atV : Int) (r_ : Int), m_ruletree_tree_outcome fu t atV = some r_ → Go.Ab.Fn Tryz.prog 133 [.agg (cRuletreeTree t), .c ((iD atV))] (.s (.c (.d (iD r_)))) []) ∧ (∀ (t : MRuletreeTree) (atV : Int) (r_ : (List Int)), m_ruletree_tree_contenders fu t atV = some r_ → Go.Ab.Fn Tryz.prog 178 [.agg (cRuletreeTree t), .c ((iD atV))] (.s (.c (.d (.slice 1 (List.map cInt r_))))) []) := by
 induction fu with
 | zero => refine ⟨?_, ?_⟩; all_goals (intros; rename_i H; cases H)
 | succ fu ih =>
  refine ⟨?_, ?_⟩
  · intro t atV r_ H
    refine Go.Ab.Fn.intro htab hm Tryz.func133 rfl Tryz.call133 (by kernel_rfl) 33 Tryz.ntmps133 rfl (fun hr => ?_)
    change o_ruletree_tree_outcome fu (m_ruletree_tree_outcome fu) (m_ruletree_tree_contenders fu) t atV = some r_ at H
    unfold o_ruletree_tree_outcome at H
    conv => whnf
    repeat' first
     | (refine leafI ?_; obtain rfl := Option.some.inj H; (repeat' (first | exact trivial | rfl | refine And.intro ?_ ?_ | (show D.bool _ = D.bool _; simp [*]; done))); done)
     | (refine RegP_intro _ [] ?_; conv => whnf)
     | (refine cT2 (by with_reducible assumption) (fun q => ?_); (first | with_reducible replace H := hT q H | with_reducible replace H := hF q H | rw [q] at H | skip); conv => whnf)
     | (refine cF2 (by with_reducible assumption) (fun q => ?_); (first | with_reducible replace H := hT q H | with_reducible replace H := hF q H | rw [q] at H | skip); conv => whnf)
     | (refine cBif H (by with_reducible rfl) ?_ ?_ <;> clear H <;> intro q H <;> conv => whnf)
     | (refine condP_intro ?_ ?_ <;> intro q <;> (try rw [q] at H) <;> conv => whnf)
     | (refine eIx H ?_; clear H; intro _ _ H; conv => whnf)
     | (refine eCall H (ih.2 _ _) (fun _ => .inl rfl) ?_; clear H; intro _ H; conv => whnf)
     | (refine eCall H (ih.1 _ _) (fun _ => .inl rfl) ?_; clear H; intro _ H; conv => whnf)
  · intro t atV r_ H
    refine Go.Ab.Fn.intro htab hm Tryz.func178 rfl Tryz.call178 (by kernel_rfl) 63 Tryz.ntmps178 rfl (fun hr => ?_)
    change o_ruletree_tree_contenders fu (m_ruletree_tree_outcome fu) (m_ruletree_tree_contenders fu) t atV = some r_ at H
    unfold o_ruletree_tree_contenders at H
    conv => whnf
    repeat' first
     | (refine leafI ?_; obtain rfl := Option.some.inj H; (repeat' (first | exact trivial | rfl | refine And.intro ?_ ?_ | (show D.bool _ = D.bool _; simp [*]; done))); done)
     | (refine RegP_intro _ [] ?_; conv => whnf)
     | (refine cT2 (by with_reducible assumption) (fun q => ?_); (first | with_reducible replace H := hT q H | with_reducible replace H := hF q H | rw [q] at H | skip); conv => whnf)
     | (refine cF2 (by with_reducible assumption) (fun q => ?_); (first | with_reducible replace H := hT q H | with_reducible replace H := hF q H | rw [q] at H | skip); conv => whnf)
     | (refine cBif H (by with_reducible rfl) ?_ ?_ <;> clear H <;> intro q H <;> conv => whnf)
     | (refine condP_intro ?_ ?_ <;> intro q <;> (try rw [q] at H) <;> conv => whnf)
     | (replace H := cnt_some H; obtain ⟨_, H⟩ := H)
     | (refine eIx H ?_; clear H; intro _ _ H; conv => whnf)
     | (refine eIo H ?_; clear H; intro _ _ H; conv => whnf)
     | (refine eRd (by assumption) ?_; conv => whnf)
     | (refine eAp (f := cInt) H rfl rfl (by decide) ?_; clear H; intro _ H; conv => whnf)
     | (refine eCall H (gg_8.2.2.2.2.2 fu _ _) (fun _ => .inl rfl) ?_; clear H; intro _ H; conv => whnf)
     | (refine eCall H (ih.1 _ _) (fun _ => .inl rfl) ?_; clear H; intro _ H; conv => whnf)
     | (refine eLoop (m_ruletree_tree_contenders_L1 _ _ _ _) [2, 11, 12] [16, 88] (fun (out_2, t13_3) => [(5, .s (.c (.own 160040 1))), (13, vDc (iD (nI t13_3)))]) (fun (out_2, t13_3) => [(160040, .row 3 1 (List.map cInt out_2))]) H (by refine Le.sub rfl ?_ ?_; (repeat' (first | exact trivial | rfl | exact inc64' (by assumption) | refine And.intro ?_ ?_ | (show D.bool _ = D.bool _; simp [*]; done)))) ?_; clear H; intro n x H; obtain _ | n := n; rw [m_ruletree_tree_contenders_L1] at H; cases H; obtain ⟨_, _⟩ := x; rw [m_ruletree_tree_contenders_L1] at H; conv => whnf)
     | (refine ⟨(_, _), H, ?_, Nat.lt_succ_self _⟩; refine Le.sub rfl ?_ ?_; (repeat' (first | exact trivial | rfl | exact inc64' (by assumption) | refine And.intro ?_ ?_ | (show D.bool _ = D.bool _; simp [*]; done))); done)
     | (refine ⟨(_, _), H, ?_, Nat.lt_succ_self _⟩; refine (Le.swap 480 160040 _).trans (Le.sub rfl ?_ ?_); (repeat' (first | exact trivial | rfl | exact inc64' (by assumption) | refine And.intro ?_ ?_ | (show D.bool _ = D.bool _; simp [*]; done))); done)
theorem gg_12 : (∀ (fu : Nat) (b : Int) (r_ : Bool) (H : m_lexer_part fu b = some r_), Go.Ab.Fn Tryz.prog 137 [.c ((.int .u8 b))] (.s (.c (.d (.bool r_)))) []) ∧ (∀ (fu : Nat) (s : (List BA)) (v : BA) (r_ : Bool) (H : m_slices_Contains_string fu s v = some r_), Go.Ab.Fn Tryz.prog 91 [.c ((.slice 1 (List.map cStr s))), .c ((.str v))] (.s (.c (.d (.bool r_)))) []) ∧ (∀ (fu : Nat) (t : MTy) (enums : (List MEnum)) (r_ : (Int × Int)) (H : m_value_Bounds fu t enums = some r_), Go.Ab.Fn Tryz.prog 89 [.agg (cTy t), .c ((.slice 2 (List.map cEnum enums)))] (.tup [.c (.d (iD r_.1)), .c (.d (iD r_.2))]) []) ∧ (∀ (fu : Nat) (rV : MRange) (r_ : Bool) (H : m_daterange_proper fu rV = some r_), Go.Ab.Fn Tryz.prog 207 [.agg (cRange rV)] (.s (.c (.d (.bool r_)))) []) ∧ (∀ (fu : Nat) (l : (List MEnum)) (r_ : (List MEnum)) (H : m_law_enums fu l = some r_), Go.Ab.Fn Tryz.prog 142 [.c ((.slice 2 (List.map cEnum l)))] (.s (.c (.own 0 2))) [(0, .row 117 2 (List.map cEnum r_))]) ∧ (∀ (fu : Nat) (l : (List MTable)) (r_ : (List MTable)) (H : m_law_tables fu l = some r_), Go.Ab.Fn Tryz.prog 143 [.c ((.slice 6 (List.map cTable l)))] (.s (.c (.own 0 6))) [(0, .row 120 6 (List.map cTable r_))]) := by
 refine ⟨fun fu b r_ H => ?_, fun fu s v r_ H => ?_, fun fu t enums r_ H => ?_, fun fu rV r_ H => ?_, fun fu l r_ H => ?_, fun fu l r_ H => ?_⟩
 all_goals first
  | (refine Go.Ab.Fn.intro htab hm Tryz.func137 rfl Tryz.call137 (by kernel_rfl) 13 Tryz.ntmps137 rfl (fun hr => ?_); unfold m_lexer_part at H)
  | (refine Go.Ab.Fn.intro htab hm Tryz.func91 rfl Tryz.call91 (by kernel_rfl) 9 Tryz.ntmps91 rfl (fun hr => ?_); unfold m_slices_Contains_string at H)
  | (refine Go.Ab.Fn.intro htab hm Tryz.func89 rfl Tryz.call89 (by kernel_rfl) 30 Tryz.ntmps89 rfl (fun hr => ?_); unfold m_value_Bounds at H)
  | (refine Go.Ab.Fn.intro htab hm Tryz.func207 rfl Tryz.call207 (by kernel_rfl) 12 Tryz.ntmps207 rfl (fun hr => ?_); unfold m_daterange_proper at H)
  | (refine Go.Ab.Fn.intro htab hm Tryz.func142 rfl Tryz.call142 (by kernel_rfl) 23 Tryz.ntmps142 rfl (fun hr => ?_); unfold m_law_enums at H)
  | (refine Go.Ab.Fn.intro htab hm Tryz.func143 rfl Tryz.call143 (by kernel_rfl) 22 Tryz.ntmps143 rfl (fun hr => ?_); unfold m_law_tables at H)
 all_goals conv => whnf
 repeat' first
  | (refine leafI ?_; obtain rfl := Option.some.inj H; (repeat' (first | exact trivial | rfl | refine And.intro ?_ ?_ | (show D.bool _ = D.bool _; simp [*]; done))); done)
  | (refine RegP_intro _ [] ?_; conv => whnf)
  | (refine cK (by with_reducible assumption) (fun q => ?_); (first | with_reducible replace H := hK q H | rw [q] at H | skip); conv => whnf)
  | (refine cBif H (by with_reducible rfl) ?_ ?_ <;> clear H <;> intro q H <;> conv => whnf)
  | (refine condP_intro ?_ ?_ <;> intro q <;> (try rw [q] at H) <;> conv => whnf)
  | (refine eCall H (gg_0.2.2.2.1 fu _) (fun _ => .inl rfl) ?_; clear H; intro _ H; conv => whnf)
  | (refine eCall H (gg_0.2.2.2.2.1 fu _) (fun _ => .inl rfl) ?_; clear H; intro _ H; conv => whnf)
  | (refine eCall H (gg_0.2.2.2.2.2 fu _ _) (fun _ => .inl rfl) ?_; clear H; intro _ H; conv => whnf)
  | (replace H := cnt_some H; obtain ⟨_, H⟩ := H)
  | (refine eIx H ?_; clear H; intro _ _ H; conv => whnf)
  | (refine eCall H (gg_1.1 fu _ _) (fun _ => .inl rfl) ?_; clear H; intro _ H; conv => whnf)
  | (refine eCall H (gg_1.2.1 fu _) (fun _ => .inl rfl) ?_; clear H; intro _ H; conv => whnf)
  | (refine eAp (f := cEnum) H rfl rfl (by decide) ?_; clear H; intro _ H; conv => whnf)
  | (refine eCall H (gc_slices_Clone_182 fu _) (fun _ => .inl rfl) ?_; clear H; intro _ H; conv => whnf)
  | (refine eLoop (m_law_enums_L1 _ _ _) [6, 7] [] (fun (out_1, t8_2) => [(3, .s (.c (.own 160024 2))), (8, vDc (iD (nI t8_2)))]) (fun (out_1, t8_2) => [(160024, .row 117 2 (List.map cEnum out_1))]) H (by refine Le.sub rfl ?_ ?_; (repeat' (first | exact trivial | rfl | exact inc64' (by assumption) | refine And.intro ?_ ?_ | (show D.bool _ = D.bool _; simp [*]; done)))) ?_; clear H; intro n x H; obtain _ | n := n; rw [m_law_enums_L1] at H; cases H; obtain ⟨_, _⟩ := x; rw [m_law_enums_L1] at H; conv => whnf)
  | (refine eAp (f := cTable) H rfl rfl (by decide) ?_; clear H; intro _ H; conv => whnf)
  | (refine eCall H (gc_slices_Clone_183 fu _) (fun _ => .inl rfl) ?_; clear H; intro _ H; conv => whnf)
  | (refine eLoop (m_law_tables_L1 _ _ _) [6, 7] [] (fun (out_1, t8_2) => [(3, .s (.c (.own 160024 6))), (8, vDc (iD (nI t8_2)))]) (fun (out_1, t8_2) => [(160024, .row 120 6 (List.map cTable out_1))]) H (by refine Le.sub rfl ?_ ?_; (repeat' (first | exact trivial | rfl | exact inc64' (by assumption) | refine And.intro ?_ ?_ | (show D.bool _ = D.bool _; simp [*]; done)))) ?_; clear H; intro n x H; obtain _ | n := n; rw [m_law_tables_L1] at H; cases H; obtain ⟨_, _⟩ := x; rw [m_law_tables_L1] at H; conv => whnf)
  | (refine ⟨(_, _), H, ?_, Nat.lt_succ_self _⟩; refine Le.sub rfl ?_ ?_; (repeat' (first | exact trivial | rfl | exact inc64' (by assumption) | refine And.intro ?_ ?_ | (show D.bool _ = D.bool _; simp [*]; done))); done)
theorem gg_13 : (∀ (fu : Nat) (e : (List MNode)) (r_ : ((List Int) × Int × Int)) (H : m_expr_starts fu e = some r_), Go.Ab.Fn Tryz.prog 122 [.c ((.slice 2 (List.map cNode e)))] (.tup [.c (.own 0 1), .c (.d (iD r_.2.1)), .c (.d (iD r_.2.2))]) [(0, .row 3 1 (List.map cInt r_.1))]) ∧ (∀ (fu : Nat) (e : (List MNode)) (l : (List Int)) (atV : Int) (r_ : (List Int)) (H : m_expr_operands fu e l atV = some r_), Go.Ab.Fn Tryz.prog 161 [.c ((.slice 2 (List.map cNode e))), .c ((.slice 1 (List.map cInt l))), .c ((iD atV))] (.s (.c (.own 0 1))) [(0, .row 3 1 (List.map cInt r_))]) ∧ (∀ (fu : Nat) (op : Int) (r_ : Bool) (H : m_expr_meaning fu op = some r_), Go.Ab.Fn Tryz.prog 240 [.c ((iD op))] (.s (.c (.d (.bool r_)))) []) ∧ (∀ (fu : Nat) (kind : Int) (r_ : Bool) (H : m_expr_ordered fu kind = some r_), Go.Ab.Fn Tryz.prog 249 [.c ((iD kind))] (.s (.c (.d (.bool r_)))) []) ∧ (∀ (fu : Nat) (nV : MNode) (s : MSignature) (r_ : (MTable × Int)) (H : m_expr_table fu nV s = some r_), Go.Ab.Fn Tryz.prog 226 [.agg (cNode nV), .agg (cSignature s)] (.tup [.agg (List.map C.d (cTable r_.1)), .c (.d (iD r_.2))]) []) ∧ (∀ (fu : Nat) (e : (List MNode)) (r_ : ((List Int) × (List Int) × (List Int))) (H : m_expr_References fu e = some r_), Go.Ab.Fn Tryz.prog 83 [.c ((.slice 2 (List.map cNode e)))] (.tup [.c (.own 0 1), .c (.own 1 1), .c (.own 2 1)]) [(0, .row 3 1 (List.map cInt r_.1)), (1, .row 3 1 (List.map cInt r_.2.1)), (2, .row 3 1 (List.map cInt r_.2.2))]) := by
 refine ⟨fun fu e r_ H => ?_, fun fu e l atV r_ H => ?_, fun fu op r_ H => ?_, fun fu kind r_ H => ?_, fun fu nV s r_ H => ?_, fun fu e r_ H => ?_⟩
 all_goals first
  | (refine Go.Ab.Fn.intro htab hm Tryz.func122 rfl Tryz.call122 (by kernel_rfl) 69 Tryz.ntmps122 rfl (fun hr => ?_); unfold m_expr_starts at H)
  | (refine Go.Ab.Fn.intro htab hm Tryz.func161 rfl Tryz.call161 (by kernel_rfl) 37 Tryz.ntmps161 rfl (fun hr => ?_); unfold m_expr_operands at H)
  | (refine Go.Ab.Fn.intro htab hm Tryz.func240 rfl Tryz.call240 (by kernel_rfl) 19 Tryz.ntmps240 rfl (fun hr => ?_); unfold m_expr_meaning at H)
  | (refine Go.Ab.Fn.intro htab hm Tryz.func249 rfl Tryz.call249 (by kernel_rfl) 9 Tryz.ntmps249 rfl (fun hr => ?_); unfold m_expr_ordered at H)
  | (refine Go.Ab.Fn.intro htab hm Tryz.func226 rfl Tryz.call226 (by kernel_rfl) 24 Tryz.ntmps226 rfl (fun hr => ?_); unfold m_expr_table at H)
  | (refine Go.Ab.Fn.intro htab hm Tryz.func83 rfl Tryz.call83 (by kernel_rfl) 53 Tryz.ntmps83 rfl (fun hr => ?_); unfold m_expr_References at H)
 all_goals conv => whnf
 repeat' first
  | (refine leafI ?_; obtain rfl := Option.some.inj H; (repeat' (first | exact trivial | rfl | refine And.intro ?_ ?_ | (show D.bool _ = D.bool _; simp [*]; done))); done)
  | (refine cK (by with_reducible assumption) (fun q => ?_); (first | with_reducible replace H := hK q H | rw [q] at H | skip); conv => whnf)
  | (refine cBif H (by with_reducible rfl) ?_ ?_ <;> clear H <;> intro q H <;> conv => whnf)
  | (refine condP_intro ?_ ?_ <;> intro q <;> (try rw [q] at H) <;> conv => whnf)
  | (replace H := cnt_some H; obtain ⟨_, H⟩ := H)
  | (refine eIx H ?_; clear H; intro _ _ H; conv => whnf)
  | (refine eIo H ?_; clear H; intro _ _ H; conv => whnf)
  | (refine eSt (f := cInt) (fun v x => v) _ (by assumption) (by (try dsimp only [cInt, MRule.fr, MRule.to, MRow.fr, MRow.to]); rfl) ?_; conv => whnf)
  | (refine eRd (by assumption) ?_; conv => whnf)
  | (refine eAp (f := cInt) H (sl_map (by assumption)) rfl (by decide) ?_; clear H; intro _ H; conv => whnf)
  | (refine eAp (f := cInt) H rfl rfl (by decide) ?_; clear H; intro _ H; conv => whnf)
  | (refine eMk (f := cInt) H rfl ?_; clear H; intro _ H; conv => whnf)
  | (refine eCall H (gg_2.1 fu _) (fun _ => .inl rfl) ?_; clear H; intro _ H; conv => whnf)
  | (refine eSl (f := cInt) H ?_; clear H; intro _ _ H; conv => whnf)
  | (refine eLoop (m_expr_starts_L1 _ _ _) [0, 17, 18] [] (fun (out_1, stack_2, t19_3) => [(5, .s (.c (.own 160040 1))), (6, .s (.c (.own 160048 1))), (19, vDc (iD (nI t19_3)))]) (fun (out_1, stack_2, t19_3) => [(160040, .row 3 1 (List.map cInt out_1)), (160048, .row 3 1 (List.map cInt stack_2))]) H (by refine Le.sub rfl ?_ ?_; (repeat' (first | exact trivial | rfl | exact inc64' (by assumption) | refine And.intro ?_ ?_ | (show D.bool _ = D.bool _; simp [*]; done)))) ?_; clear H; intro n x H; obtain _ | n := n; rw [m_expr_starts_L1] at H; cases H; obtain ⟨_, _, _⟩ := x; rw [m_expr_starts_L1] at H; conv => whnf)
  | (refine eLoop (m_expr_operands_L1 _ _) [1, 8] [] (fun (last_4, i_5, rw_6) => [(9, vDc (iD last_4)), (10, vDc (iD i_5))]) (fun (last_4, i_5, rw_6) => [(144, .row 3 1 (List.map cInt rw_6))]) H (by refine Le.sub rfl ?_ ?_; (repeat' (first | exact trivial | rfl | exact inc64' (by assumption) | refine And.intro ?_ ?_ | (show D.bool _ = D.bool _; simp [*]; done)))) ?_; clear H; intro n x H; obtain _ | n := n; rw [m_expr_operands_L1] at H; cases H; obtain ⟨_, _, _⟩ := x; rw [m_expr_operands_L1] at H; conv => whnf)
  | (refine Or.inr ⟨[], ?_⟩; (conv => whnf); refine eCallH H (gg_3.2.2.2.2.1 fu _) ?_; clear H; intro _ H; (conv => whnf); refine And.intro ?_ ?_; (focus ((repeat' (first | exact trivial | rfl | refine And.intro ?_ ?_)); done)); conv => whnf)
  | (refine eLoop (m_expr_References_L1 _ _) [11, 12] [] (fun (inputs_1, defs_2, members_3, t13_4) => [(5, .s (.c (.own 160040 1))), (6, .s (.c (.own 160048 1))), (7, .s (.c (.own 160056 1))), (13, vDc (iD (nI t13_4)))]) (fun (inputs_1, defs_2, members_3, t13_4) => [(160040, .row 3 1 (List.map cInt inputs_1)), (160048, .row 3 1 (List.map cInt defs_2)), (160056, .row 3 1 (List.map cInt members_3))]) H (by refine Le.sub rfl ?_ ?_; (repeat' (first | exact trivial | rfl | exact inc64' (by assumption) | refine And.intro ?_ ?_ | (show D.bool _ = D.bool _; simp [*]; done)))) ?_; clear H; intro n x H; obtain _ | n := n; rw [m_expr_References_L1] at H; cases H; obtain ⟨_, _, _, _⟩ := x; rw [m_expr_References_L1] at H; conv => whnf)
  | (refine ⟨(_, _), H, ?_, Nat.lt_succ_self _⟩; refine Le.sub rfl ?_ ?_; (repeat' (first | exact trivial | rfl | exact inc64' (by assumption) | refine And.intro ?_ ?_ | (show D.bool _ = D.bool _; simp [*]; done))); done)
  | (refine eCall H (gg_2.2.1 fu _) (fun _ => .inl rfl) ?_; clear H; intro _ H; conv => whnf)
  | (refine eCall H (gg_2.2.2.2.2.2 fu _) (fun _ => .inl rfl) ?_; clear H; intro _ H; conv => whnf)
  | (refine ⟨by decide, ?_⟩; conv => whnf)
  | (refine eCall H (gg_3.1 fu _ _) (fun _ => .inl rfl) ?_; clear H; intro _ H; conv => whnf)
theorem gg_14 : (∀ (fu : Nat) (s : (List Int)) (v : Int) (r_ : Bool) (H : m_slices_Contains_int fu s v = some r_), Go.Ab.Fn Tryz.prog 97 [.c ((.slice 1 (List.map cInt s))), .c ((iD v))] (.s (.c (.d (.bool r_)))) []) ∧ (∀ (fu : Nat) (a : MEnum) (b : MEnum) (r_ : Bool) (H : m_law_sameEnum fu a b = some r_), Go.Ab.Fn Tryz.prog 99 [.agg (cEnum a), .agg (cEnum b)] (.s (.c (.d (.bool r_)))) []) ∧ (∀ (fu : Nat) (a : MTable) (b : MTable) (r_ : Bool) (H : m_law_sameTable fu a b = some r_), Go.Ab.Fn Tryz.prog 101 [.agg (cTable a), .agg (cTable b)] (.s (.c (.d (.bool r_)))) []) ∧ (∀ (fu : Nat) (a : MRule) (b : MRule) (r_ : Bool) (H : m_law_sameRule fu a b = some r_), Go.Ab.Fn Tryz.prog 154 [.agg (cRule a), .agg (cRule b)] (.s (.c (.d (.bool r_)))) []) ∧ (∀ (fu : Nat) (l : MLaw) (scope : Int) (r_ : Int) (H : m_casedata_limit fu l scope = some r_), Go.Ab.Fn Tryz.prog 112 [.agg (cLaw l), .c ((iD scope))] (.s (.c (.d (iD r_)))) []) ∧ (∀ (fu : Nat) (s : (List Int)) (cap : (List Bool)) (r_ : Int) (H : m_slices_IndexFunc_int_158 fu s cap = some r_), Go.Ab.Fn Tryz.prog 185 [.c ((.slice 1 (List.map cInt s))), .c (.clos 158 [(.ptr ((cSlc 1 cBool) cap) 0)])] (.s (.c (.d (iD r_)))) []) := by
 refine ⟨fun fu s v r_ H => ?_, fun fu a b r_ H => ?_, fun fu a b r_ H => ?_, fun fu a b r_ H => ?_, fun fu l scope r_ H => ?_, fun fu s cap r_ H => ?_⟩
 all_goals first
  | (refine Go.Ab.Fn.intro htab hm Tryz.func97 rfl Tryz.call97 (by kernel_rfl) 9 Tryz.ntmps97 rfl (fun hr => ?_); unfold m_slices_Contains_int at H)
  | (refine Go.Ab.Fn.intro htab hm Tryz.func99 rfl Tryz.call99 (by kernel_rfl) 17 Tryz.ntmps99 rfl (fun hr => ?_); unfold m_law_sameEnum at H)
  | (refine Go.Ab.Fn.intro htab hm Tryz.func101 rfl Tryz.call101 (by kernel_rfl) 31 Tryz.ntmps101 rfl (fun hr => ?_); unfold m_law_sameTable at H)
  | (refine Go.Ab.Fn.intro htab hm Tryz.func154 rfl Tryz.call154 (by kernel_rfl) 59 Tryz.ntmps154 rfl (fun hr => ?_); unfold m_law_sameRule at H)
  | (refine Go.Ab.Fn.intro htab hm Tryz.func112 rfl Tryz.call112 (by kernel_rfl) 14 Tryz.ntmps112 rfl (fun hr => ?_); unfold m_casedata_limit at H)
  | (refine Go.Ab.Fn.intro htab hm Tryz.func185 rfl Tryz.call185 (by kernel_rfl) 19 Tryz.ntmps185 rfl (fun hr => ?_); unfold m_slices_IndexFunc_int_158 at H)
 all_goals conv => whnf
 repeat' first
  | (refine leafI ?_; obtain rfl := Option.some.inj H; (repeat' (first | exact trivial | rfl | refine And.intro ?_ ?_ | (show D.bool _ = D.bool _; simp [*]; done))); done)
  | (refine cK (by with_reducible assumption) (fun q => ?_); (first | with_reducible replace H := hK q H | rw [q] at H | skip); conv => whnf)
  | (refine cBif H (by with_reducible rfl) ?_ ?_ <;> clear H <;> intro q H <;> conv => whnf)
  | (refine condP_intro ?_ ?_ <;> intro q <;> (try rw [q] at H) <;> conv => whnf)
  | (refine eCall H (gg_3.2.2.2.2.2 fu _ _) (fun _ => .inl rfl) ?_; clear H; intro _ H; conv => whnf)
  | (refine eCall H (gg_4.1 fu _ _) (fun _ => .inl rfl) ?_; clear H; intro _ H; conv => whnf)
  | (refine eCall H (gg_4.2.1 fu _ _) (fun _ => .inl rfl) ?_; clear H; intro _ H; conv => whnf)
  | (refine eCall H (gg_4.2.2.2.1 fu _ _) (fun _ => .inl rfl) ?_; clear H; intro _ H; conv => whnf)
  | (refine eCall H (gg_4.2.2.2.2.2 fu _ _) (fun _ => .inl rfl) ?_; clear H; intro _ H; conv => whnf)
  | (replace H := cnt_some H; obtain ⟨_, H⟩ := H)
  | (refine eIx H ?_; clear H; intro _ _ H; conv => whnf)
  | (refine eCall H (gg_5.2.2.1 fu _ _) (fun _ => .inl rfl) ?_; clear H; intro _ H; conv => whnf)
  | (refine eLoop (m_slices_IndexFunc_int_158_L1 _ _ _ _) [0, 1, 7] [] (fun t8_1 => [(8, vDc (iD (nI t8_1)))]) (fun t8_1 => []) H (by refine Le.sub rfl ?_ ?_; (repeat' (first | exact trivial | rfl | exact inc64' (by assumption) | refine And.intro ?_ ?_ | (show D.bool _ = D.bool _; simp [*]; done)))) ?_; clear H; intro n x H; obtain _ | n := n; rw [m_slices_IndexFunc_int_158_L1] at H; cases H; rw [m_slices_IndexFunc_int_158_L1] at H; conv => whnf)
  | (refine ⟨(_, _), H, ?_, Nat.lt_succ_self _⟩; refine Le.sub rfl ?_ ?_; (repeat' (first | exact trivial | rfl | exact inc64' (by assumption) | refine And.intro ?_ ?_ | (show D.bool _ = D.bool _; simp [*]; done))); done)
theorem gg_15 : (∀ (fu : Nat) (rV : MRange) (date : Int) (r_ : Bool) (H : m_daterange_Contains fu rV date = some r_), Go.Ab.Fn Tryz.prog 81 [.agg (cRange rV), .c ((iD date))] (.s (.c (.d (.bool r_)))) []) ∧ (∀ (fu : Nat) (s : MScope) (i : Int) (kept : (List Int)) (r_ : Int) (H : m_effective_ancestor fu s i kept = some r_), Go.Ab.Fn Tryz.prog 131 [.agg (cScope s), .c ((iD i)), .c ((.slice 1 (List.map cInt kept)))] (.s (.c (.d (iD r_)))) []) ∧ (∀ (fu : Nat) (nV : MNode) (k : Int) (r_ : Bool) (H : m_eval_wellFormed fu nV k = some r_), Go.Ab.Fn Tryz.prog 163 [.agg (cNode nV), .c ((iD k))] (.s (.c (.d (.bool r_)))) []) ∧ (∀ (fu : Nat) (nV : MNode) (env : MEnv) (r_ : Bool) (H : m_eval_exists fu nV env = some r_), Go.Ab.Fn Tryz.prog 164 [.agg (cNode nV), .agg (cEnv env)] (.s (.c (.d (.bool r_)))) []) ∧ (∀ (fu : Nat) (v : MValue) (r_ : Bool) (H : m_eval_plausible fu v = some r_), Go.Ab.Fn Tryz.prog 162 [.agg (cValue v)] (.s (.c (.d (.bool r_)))) []) ∧ (∀ (fu : Nat) (k : Int) (r_ : Bool) (H : m_eval_ordered fu k = some r_), Go.Ab.Fn Tryz.prog 191 [.c ((iD k))] (.s (.c (.d (.bool r_)))) []) := by
 refine ⟨fun fu rV date r_ H => ?_, fun fu s i kept r_ H => ?_, fun fu nV k r_ H => ?_, fun fu nV env r_ H => ?_, fun fu v r_ H => ?_, fun fu k r_ H => ?_⟩
 all_goals first
  | (refine Go.Ab.Fn.intro htab hm Tryz.func81 rfl Tryz.call81 (by kernel_rfl) 19 Tryz.ntmps81 rfl (fun hr => ?_); unfold m_daterange_Contains at H)
  | (refine Go.Ab.Fn.intro htab hm Tryz.func131 rfl Tryz.call131 (by kernel_rfl) 29 Tryz.ntmps131 rfl (fun hr => ?_); unfold m_effective_ancestor at H)
  | (refine Go.Ab.Fn.intro htab hm Tryz.func163 rfl Tryz.call163 (by kernel_rfl) 57 Tryz.ntmps163 rfl (fun hr => ?_); unfold m_eval_wellFormed at H)
  | (refine Go.Ab.Fn.intro htab hm Tryz.func164 rfl Tryz.call164 (by kernel_rfl) 61 Tryz.ntmps164 rfl (fun hr => ?_); unfold m_eval_exists at H)
  | (refine Go.Ab.Fn.intro htab hm Tryz.func162 rfl Tryz.call162 (by kernel_rfl) 36 Tryz.ntmps162 rfl (fun hr => ?_); unfold m_eval_plausible at H)
  | (refine Go.Ab.Fn.intro htab hm Tryz.func191 rfl Tryz.call191 (by kernel_rfl) 9 Tryz.ntmps191 rfl (fun hr => ?_); unfold m_eval_ordered at H)
 all_goals conv => whnf
 repeat' first
  | (refine leafI ?_; obtain rfl := Option.some.inj H; (repeat' (first | exact trivial | rfl | refine And.intro ?_ ?_ | (show D.bool _ = D.bool _; simp [*]; done))); done)
  | (refine cK (by with_reducible assumption) (fun q => ?_); (first | with_reducible replace H := hK q H | rw [q] at H | skip); conv => whnf)
  | (refine cBif H (by with_reducible rfl) ?_ ?_ <;> clear H <;> intro q H <;> conv => whnf)
  | (refine condP_intro ?_ ?_ <;> intro q <;> (try rw [q] at H) <;> conv => whnf)
  | (refine eCall H (gg_1.2.1 fu _) (fun _ => .inl rfl) ?_; clear H; intro _ H; conv => whnf)
  | (refine eIx H ?_; clear H; intro _ _ H; conv => whnf)
  | (refine eCall H (gg_3.2.2.2.2.2 fu _ _) (fun _ => .inl rfl) ?_; clear H; intro _ H; conv => whnf)
  | (refine eLoop (m_effective_ancestor_L1 _ _ _) [2, 3] [24] (fun i_1 => [(1, vDc (iD i_1))]) (fun i_1 => []) H (by refine Le.sub rfl ?_ ?_; (repeat' (first | exact trivial | rfl | exact inc64' (by assumption) | refine And.intro ?_ ?_ | (show D.bool _ = D.bool _; simp [*]; done)))) ?_; clear H; intro n x H; obtain _ | n := n; rw [m_effective_ancestor_L1] at H; cases H; rw [m_effective_ancestor_L1] at H; conv => whnf)
  | (refine ⟨(_, _), H, ?_, Nat.lt_succ_self _⟩; refine Le.sub rfl ?_ ?_; (repeat' (first | exact trivial | rfl | exact inc64' (by assumption) | refine And.intro ?_ ?_ | (show D.bool _ = D.bool _; simp [*]; done))); done)
  | (refine ⟨by decide, ?_⟩; conv => whnf)
  | (refine eCall H (gg_2.1 fu _) (fun _ => .inl rfl) ?_; clear H; intro _ H; conv => whnf)
  | (refine eCall H (gg_5.2.2.2.2.1 fu _) (fun _ => .inl rfl) ?_; clear H; intro _ H; conv => whnf)
  | (refine eCall H (gg_5.2.2.2.2.2 fu _ _) (fun _ => .inl rfl) ?_; clear H; intro _ H; conv => whnf)
  | (refine eCall H (gg_6.1 fu _) (fun _ => .inl rfl) ?_; clear H; intro _ H; conv => whnf)
  | (refine eCall H (gg_6.2.1 fu _) (fun _ => .inl rfl) ?_; clear H; intro _ H; conv => whnf)
end Go.Proofs.YtffnbobdkpebgaaGreat
