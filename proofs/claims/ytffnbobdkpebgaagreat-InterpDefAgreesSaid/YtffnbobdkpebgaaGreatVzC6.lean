/- Contracts: the functions answer as their models, by my generator. -/
import Derived.Test.YtffnbobdkpebgaaGreatVzC5
set_option linter.unusedVariables false
set_option linter.unusedSimpArgs false
set_option maxRecDepth 100000
set_option maxHeartbeats 4000000
namespace Go.Proofs.YtffnbobdkpebgaaGreat
open Go Go.Ab
theorem gg_34 : (∀ (fu : Nat) (a : MLaw) (b : MLaw) (scope : Int) (cV : MCase) (defV : Int) (r_ : (MImpact × Int)) (H : m_impact_Compare fu a b scope cV defV = some r_), Go.Ab.Fn Tryz.prog 14 [.agg (cLaw a), .agg (cLaw b), .c ((iD scope)), .agg (cCase cV), .c ((iD defV))] (.tup [.agg (List.map C.d (cImpact r_.1)), .c (.d (iD r_.2))]) []) ∧ (∀ (fu : Nat) (q : MMarginalQuery) (nV : Int) (r_ : (Int × Int)) (H : m_marginal_query_at fu q nV = some r_), Go.Ab.Fn Tryz.prog 47 [.agg (cMarginalQuery q), .c ((iD nV))] (.tup [.c (.d (iD r_.1)), .c (.d (iD r_.2))]) []) ∧ (∀ (fu : Nat) (r_ : Bool) (H : m_law20_awake fu = some r_), Go.Ab.Fn Tryz.prog 23 [] (.s (.c (.d (.bool r_)))) []) := by
 refine ⟨fun fu a b scope cV defV r_ H => ?_, fun fu q nV r_ H => ?_, fun fu r_ H => ?_⟩
 all_goals first
  | (refine Go.Ab.Fn.intro htab hm Tryz.func14 rfl Tryz.call14 (by kernel_rfl) 118 Tryz.ntmps14 rfl (fun hr => ?_); unfold m_impact_Compare at H)
  | (refine Go.Ab.Fn.intro htab hm Tryz.func47 rfl Tryz.call47 (by kernel_rfl) 48 Tryz.ntmps47 rfl (fun hr => ?_); unfold m_marginal_query_at at H)
  | (refine Go.Ab.Fn.intro htab hm Tryz.func23 rfl Tryz.call23 (by kernel_rfl) 57 Tryz.ntmps23 rfl (fun hr => ?_); unfold m_law20_awake at H)
 all_goals conv => whnf
 repeat' first
  | (refine leafI ?_; obtain rfl := Option.some.inj H; (repeat' (first | exact trivial | rfl | refine And.intro ?_ ?_ | (show D.bool _ = D.bool _; simp [*]; done))); done)
  | (refine RegP_intro _ [] ?_; conv => whnf)
  | (refine cK (by with_reducible assumption) (fun q => ?_); (first | with_reducible replace H := hK q H | rw [q] at H | skip); conv => whnf)
  | (refine cBif H (by with_reducible rfl) ?_ ?_ <;> clear H <;> intro q H <;> conv => whnf)
  | (refine condP_intro ?_ ?_ <;> intro q <;> (try rw [q] at H) <;> conv => whnf)
  | (replace H := cnt_some H; obtain ⟨_, H⟩ := H)
  | (refine eIx H ?_; clear H; intro _ _ H; conv => whnf)
  | (refine eIo H ?_; clear H; intro _ _ H; conv => whnf)
  | (refine eSt (f := cValue) (fun v x => (MValue.mk v.1 v.2.1 v.2.2)) (_, _, _) (by assumption) (by (try dsimp only [cValue, MRule.fr, MRule.to, MRow.fr, MRow.to]); rfl) ?_; conv => whnf)
  | (refine eSt (f := cScope) (fun v x => (MScope.mk x.name x.ms x.inputs x.defs ([] : List MRule))) () (by assumption) (by (try dsimp only [cScope, MRule.fr, MRule.to, MRow.fr, MRow.to]); rfl) ?_; conv => whnf)
  | (refine eRd (by assumption) ?_; conv => whnf)
  | (refine eAp (f := cChange) H rfl rfl (by decide) ?_; clear H; intro _ H; conv => whnf)
  | (refine eCall H (gc_law_Validate fu _) (fun _ => .inl rfl) ?_; clear H; intro _ H; conv => whnf)
  | (refine eCall H (gg_29.2.1 fu _ _) (fun _ => .inl rfl) ?_; clear H; intro _ H; conv => whnf)
  | (refine eCall H (gc_slices_Clone_78 fu _) (fun _ => .inl rfl) ?_; clear H; intro _ H; conv => whnf)
  | (refine Or.inl (Or.inl ?_); (conv => whnf); refine eCall H (gg_33.1 fu _ _ _ _) (fun _ => .inr ⟨rfl, rfl⟩) ?_; clear H; intro _ H; conv => whnf)
  | (refine eCall H (gg_33.1 fu _ _ _ _) (fun _ => .inl rfl) ?_; clear H; intro _ H; conv => whnf)
  | (refine eCall H (gg_25.1 fu _ _) (fun _ => .inl rfl) ?_; clear H; intro _ H; conv => whnf)
  | (refine eCall H (gc_impact_relevant fu _ _ _ _) (fun _ => .inl rfl) ?_; clear H; intro _ H; conv => whnf)
  | (refine eLoopP (m_impact_Compare_L1 _ _ _ _ _ _ _) [2, 4, 5, 6, 10, 12, 92, 93] [40, 48, 80, 736] (fun (t94_8, lf_9) => [(94, vDc (iD (nI t94_8)))]) (fun (t94_8, lf_9) => [(240800, .row 50 3 (List.map cChange lf_9))]) (fun (t94_8, lf_9) => [(96, [(8, [.own 240800 3])])]) H (by refine Le.sub rfl ?_ ?_; (repeat' (first | exact trivial | rfl | exact inc64' (by assumption) | refine And.intro ?_ ?_ | (show D.bool _ = D.bool _; simp [*]; done)))) ?_; clear H; intro n x H; obtain _ | n := n; rw [m_impact_Compare_L1] at H; cases H; obtain ⟨_, _⟩ := x; rw [m_impact_Compare_L1] at H; conv => whnf)
  | (refine ⟨(_, _), H, ?_, Nat.lt_succ_self _⟩; refine Le.sub rfl ?_ ?_; (repeat' (first | exact trivial | rfl | exact inc64' (by assumption) | refine And.intro ?_ ?_ | (show D.bool _ = D.bool _; simp [*]; done))); done)
  | (refine And.intro ?_ ?_ <;> conv => whnf)
  | (refine Or.inl (Or.inr ?_); (conv => whnf); refine eCall H (gc_same_TinyLaw fu _) (fun _ => .inl rfl) ?_; clear H; intro _ H; conv => whnf)
  | (refine Or.inr ⟨[72], ?_⟩; (conv => whnf); refine eCallH H (gg_33.2.2.1 fu _ _ _) ?_; clear H; intro _ H; (conv => whnf); refine And.intro ?_ ?_; (focus ((repeat' (first | exact trivial | rfl | refine And.intro ?_ ?_)); done)); conv => whnf)
  | (refine eIx (f := cValue) H ?_; clear H; intro _ _ H; conv => whnf)
  | (refine eCall H (gg_11.2.1 fu _ _) (fun _ => .inr ⟨rfl, rfl⟩) ?_; clear H; intro _ H; conv => whnf)
  | (refine Or.inr ⟨[], ?_⟩; (conv => whnf); refine eCallH H (gg_33.2.2.1 fu _ _ _) ?_; clear H; intro _ H; (conv => whnf); refine And.intro ?_ ?_; (focus ((repeat' (first | exact trivial | rfl | refine And.intro ?_ ?_)); done)); conv => whnf)
theorem gg_35 : (∀ (fu : Nat) (r_ : Bool) (H : m_law52_awake fu = some r_), Go.Ab.Fn Tryz.prog 12 [] (.s (.c (.d (.bool r_)))) []) ∧ (∀ (fu : Nat) (l : MLaw) (scope : Int) (cV : MCase) (defV : Int) (input : Int) (nV : Int) (r_ : (Int × Int)) (H : m_marginal_ValueAt fu l scope cV defV input nV = some r_), Go.Ab.Fn Tryz.prog 21 [.agg (cLaw l), .c ((iD scope)), .agg (cCase cV), .c ((iD defV)), .c ((iD input)), .c ((iD nV))] (.tup [.c (.d (iD r_.1)), .c (.d (iD r_.2))]) []) ∧ (∀ (fu : Nat) (l : MLaw) (scope : Int) (cV : MCase) (defV : Int) (input : Int) (step : Int) (r_ : (Int × Int)) (H : m_marginal_Rate fu l scope cV defV input step = some r_), Go.Ab.Fn Tryz.prog 42 [.agg (cLaw l), .c ((iD scope)), .agg (cCase cV), .c ((iD defV)), .c ((iD input)), .c ((iD step))] (.tup [.c (.d (iD r_.1)), .c (.d (iD r_.2))]) []) ∧ (∀ (fu : Nat) (l : MLaw) (scope : Int) (cV : MCase) (defV : Int) (input : Int) (rV : MKeyRange) (step : Int) (r_ : ((List MCliff) × Int)) (H : m_marginal_FindCliffs fu l scope cV defV input rV step = some r_), Go.Ab.Fn Tryz.prog 20 [.agg (cLaw l), .c ((iD scope)), .agg (cCase cV), .c ((iD defV)), .c ((iD input)), .agg (cKeyRange rV), .c ((iD step))] (.tup [.c (.own 0 3), .c (.d (iD r_.2))]) [(0, .row 65 3 (List.map cCliff r_.1))]) ∧ (∀ (fu : Nat) (l : MLaw) (scope : Int) (cV : MCase) (r_ : Bool) (H : m_law20_InterpSelectedRule fu l scope cV = some r_), Go.Ab.Fn Tryz.prog 7 [.agg (cLaw l), .c ((iD scope)), .agg (cCase cV)] (.s (.c (.d (.bool r_)))) []) ∧ (∀ (fu : Nat) (l : MLaw) (scope : Int) (cV : MCase) (defV : Int) (r_ : Bool) (H : m_law20_InterpDefAgrees fu l scope cV defV = some r_), Go.Ab.Fn Tryz.prog 8 [.agg (cLaw l), .c ((iD scope)), .agg (cCase cV), .c ((iD defV))] (.s (.c (.d (.bool r_)))) []) := by
 refine ⟨fun fu r_ H => ?_, fun fu l scope cV defV input nV r_ H => ?_, fun fu l scope cV defV input step r_ H => ?_, fun fu l scope cV defV input rV step r_ H => ?_, fun fu l scope cV r_ H => ?_, fun fu l scope cV defV r_ H => ?_⟩
 all_goals first
  | (refine Go.Ab.Fn.intro htab hm Tryz.func12 rfl Tryz.call12 (by kernel_rfl) 58 Tryz.ntmps12 rfl (fun hr => ?_); unfold m_law52_awake at H)
  | (refine Go.Ab.Fn.intro htab hm Tryz.func21 rfl Tryz.call21 (by kernel_rfl) 32 Tryz.ntmps21 rfl (fun hr => ?_); unfold m_marginal_ValueAt at H)
  | (refine Go.Ab.Fn.intro htab hm Tryz.func42 rfl Tryz.call42 (by kernel_rfl) 72 Tryz.ntmps42 rfl (fun hr => ?_); unfold m_marginal_Rate at H)
  | (refine Go.Ab.Fn.intro htab hm Tryz.func20 rfl Tryz.call20 (by kernel_rfl) 100 Tryz.ntmps20 rfl (fun hr => ?_); unfold m_marginal_FindCliffs at H)
  | (refine Go.Ab.Fn.intro htab hm Tryz.func7 rfl Tryz.call7 (by kernel_rfl) 156 Tryz.ntmps7 rfl (fun hr => ?_); unfold m_law20_InterpSelectedRule at H)
  | (refine Go.Ab.Fn.intro htab hm Tryz.func8 rfl Tryz.call8 (by kernel_rfl) 109 Tryz.ntmps8 rfl (fun hr => ?_); unfold m_law20_InterpDefAgrees at H)
 all_goals conv => whnf
 repeat' first
  | (refine leafI ?_; obtain rfl := Option.some.inj H; (repeat' (first | exact trivial | rfl | refine And.intro ?_ ?_ | (show D.bool _ = D.bool _; simp [*]; done))); done)
  | (refine RegP_intro _ [] ?_; conv => whnf)
  | (refine cK (by with_reducible assumption) (fun q => ?_); (first | with_reducible replace H := hK q H | rw [q] at H | skip); conv => whnf)
  | (refine cBif H (by with_reducible rfl) ?_ ?_ <;> clear H <;> intro q H <;> conv => whnf)
  | (refine condP_intro ?_ ?_ <;> intro q <;> (try rw [q] at H) <;> conv => whnf)
  | (refine Or.inl (Or.inr ?_); (conv => whnf); refine eCall H (gc_same_TinyLaw fu _) (fun _ => .inl rfl) ?_; clear H; intro _ H; conv => whnf)
  | (refine Or.inl (Or.inr ?_); (conv => whnf); refine eCall H (gg_34.1 fu _ _ _ _ _) (fun _ => .inl rfl) ?_; clear H; intro _ H; conv => whnf)
  | (refine Or.inl (Or.inl ?_); (conv => whnf); refine eCall H (gg_9.2.2.2.2.1 fu _ _) (fun _ => .inr ⟨rfl, rfl⟩) ?_; clear H; intro _ H; conv => whnf)
  | (refine eCall H (gg_0.1 fu _) (fun _ => .inl rfl) ?_; clear H; intro _ H; conv => whnf)
  | (refine eIx H ?_; clear H; intro _ _ H; conv => whnf)
  | (replace H := cnt_some H; obtain ⟨_, H⟩ := H)
  | (refine eAp (f := cCliff) H rfl rfl (by decide) ?_; clear H; intro _ H; conv => whnf)
  | (refine eCall H (gg_31.2.2 fu _) (fun _ => .inl rfl) ?_; clear H; intro _ H; conv => whnf)
  | (refine eCall H (gg_10.2.2.2.1 fu _) (fun _ => .inl rfl) ?_; clear H; intro _ H; conv => whnf)
  | (refine eCall H (gg_10.2.2.2.2.1 fu _ _) (fun _ => .inl rfl) ?_; clear H; intro _ H; conv => whnf)
  | (refine eCall H (gg_34.2.1 fu _ _) (fun _ => .inl rfl) ?_; clear H; intro _ H; conv => whnf)
  | (refine eCall H (gg_16.2.2.2.1 fu _ _ _) (fun _ => .inl rfl) ?_; clear H; intro _ H; conv => whnf)
  | (refine eLoop (m_marginal_FindCliffs_L1 _ _ _ _ _ _ _ _ _ _) [6, 12, 16, 64] [96, 128] (fun (out_4, before_5, t65_6) => [(19, .s (.c (.own 160152 3))), (20, vDc (iD before_5)), (65, vDc (iD (nI t65_6)))]) (fun (out_4, before_5, t65_6) => [(160152, .row 65 3 (List.map cCliff out_4))]) H (by refine Le.sub rfl ?_ ?_; (repeat' (first | exact trivial | rfl | exact inc64' (by assumption) | refine And.intro ?_ ?_ | (show D.bool _ = D.bool _; simp [*]; done)))) ?_; clear H; intro n x H; obtain _ | n := n; rw [m_marginal_FindCliffs_L1] at H; cases H; obtain ⟨_, _, _⟩ := x; rw [m_marginal_FindCliffs_L1] at H; conv => whnf)
  | (refine eAp (f := cTy) H rfl rfl (by decide) ?_; clear H; intro _ H; conv => whnf)
  | (refine eAp (f := (cSlc 3 cValue)) H rfl rfl (by decide) ?_; clear H; intro _ H; conv => whnf)
  | (refine eNz H ?_; clear H; intro H; conv => whnf)
  | (refine eCall H (gg_22.1 fu _ _) (fun _ => .inl rfl) ?_; clear H; intro _ H; conv => whnf)
  | (refine eCall H (gg_34.2.2 fu) (fun _ => .inl rfl) ?_; clear H; intro _ H; conv => whnf)
  | (refine eCall H (gg_33.2.1 fu _ _ _) (fun _ => .inl rfl) ?_; clear H; intro _ H; conv => whnf)
  | (refine eCall H (gg_32.2 fu _ _ _ _) (fun _ => .inl rfl) ?_; clear H; intro _ H; conv => whnf)
  | (refine Or.inl (Or.inl ?_); (conv => whnf); refine eCall H (gg_32.2 fu _ _ _ _) (fun _ => .inr ⟨rfl, rfl⟩) ?_; clear H; intro _ H; conv => whnf)
  | (refine eLoopP (m_law20_InterpSelectedRule_L2 _ _ _ _ _ _) [3, 5, 7, 9, 10, 11] [24, 40, 56, 72, 88, 240800] (fun (m_13, lf_14) => [(13, vDc (iD (nI m_13)))]) (fun (m_13, lf_14) => [(241600, .row 35 1 (List.map (cSlc 3 cValue) lf_14))]) (fun (m_13, lf_14) => [(80, [(3, [.own 241600 1])])]) H (by refine Le.sub rfl ?_ ?_; (repeat' (first | exact trivial | rfl | exact inc64' (by assumption) | refine And.intro ?_ ?_ | (show D.bool _ = D.bool _; simp [*]; done)))) ?_; clear H; intro n x H; obtain _ | n := n; rw [m_law20_InterpSelectedRule_L2] at H; cases H; obtain ⟨_, _⟩ := x; rw [m_law20_InterpSelectedRule_L2] at H; conv => whnf)
  | (refine ⟨(_, _), H, ?_, Nat.lt_succ_self _⟩; refine Le.sub rfl ?_ ?_; (repeat' (first | exact trivial | rfl | exact inc64' (by assumption) | refine And.intro ?_ ?_ | (show D.bool _ = D.bool _; simp [*]; done))); done)
  | (refine eLoopP (m_law20_InterpSelectedRule_L1 _ _) [3, 5, 7, 9, 10, 11] [24, 40, 56, 72, 88] (fun (i_7, lf_8) => [(12, vDc (iD (nI i_7)))]) (fun (i_7, lf_8) => [(240800, .row 82 2 (List.map cTy lf_8))]) (fun (i_7, lf_8) => [(80, [(4, [.own 240800 2])])]) H (by refine Le.sub rfl ?_ ?_; (repeat' (first | exact trivial | rfl | exact inc64' (by assumption) | refine And.intro ?_ ?_ | (show D.bool _ = D.bool _; simp [*]; done)))) ?_; clear H; intro n x H; obtain _ | n := n; rw [m_law20_InterpSelectedRule_L1] at H; cases H; obtain ⟨_, _⟩ := x; rw [m_law20_InterpSelectedRule_L1] at H; conv => whnf)
  | (refine eCall H (gg_33.1 fu _ _ _ _) (fun _ => .inl rfl) ?_; clear H; intro _ H; conv => whnf)
  | (refine eCall H (gg_33.2.2.2 fu _ _ _ _) (fun _ => .inl rfl) ?_; clear H; intro _ H; conv => whnf)
theorem gc_law20_InterpTypeSound (fu : Nat) (l : MLaw) (scope : Int) (cV : MCase) (r_ : Bool) (H : m_law20_InterpTypeSound fu l scope cV = some r_) : Go.Ab.Fn Tryz.prog 9 [.agg (cLaw l), .c ((iD scope)), .agg (cCase cV)] (.s (.c (.d (.bool r_)))) [] := by
 refine Go.Ab.Fn.intro htab hm Tryz.func9 rfl Tryz.call9 (by kernel_rfl) 98 Tryz.ntmps9 rfl (fun hr => ?_)
 unfold m_law20_InterpTypeSound at H
 conv => whnf
 repeat' first
  | (refine leafI ?_; obtain rfl := Option.some.inj H; (repeat' (first | exact trivial | rfl | refine And.intro ?_ ?_ | (show D.bool _ = D.bool _; simp [*]; done))); done)
  | (refine RegP_intro _ [] ?_; conv => whnf)
  | (refine cK (by with_reducible assumption) (fun q => ?_); (first | with_reducible replace H := hK q H | rw [q] at H | skip); conv => whnf)
  | (refine cBif H (by with_reducible rfl) ?_ ?_ <;> clear H <;> intro q H <;> conv => whnf)
  | (refine condP_intro ?_ ?_ <;> intro q <;> (try rw [q] at H) <;> conv => whnf)
  | (replace H := cnt_some H; obtain ⟨_, H⟩ := H)
  | (refine eIx H ?_; clear H; intro _ _ H; conv => whnf)
  | (refine eCall H (gg_22.1 fu _ _) (fun _ => .inl rfl) ?_; clear H; intro _ H; conv => whnf)
  | (refine eCall H (gg_34.2.2 fu) (fun _ => .inl rfl) ?_; clear H; intro _ H; conv => whnf)
  | (refine eCall H (gg_33.2.1 fu _ _ _) (fun _ => .inl rfl) ?_; clear H; intro _ H; conv => whnf)
  | (refine eCall H (gg_25.2.2 fu _ _) (fun _ => .inl rfl) ?_; clear H; intro _ H; conv => whnf)
  | (refine eLoop (m_law20_InterpTypeSound_L1 _ _ _ _ _) [1, 3, 7] [24, 56] (fun d_6 => [(9, vDc (iD (nI d_6)))]) (fun d_6 => []) H (by refine Le.sub rfl ?_ ?_; (repeat' (first | exact trivial | rfl | exact inc64' (by assumption) | refine And.intro ?_ ?_ | (show D.bool _ = D.bool _; simp [*]; done)))) ?_; clear H; intro n x H; obtain _ | n := n; rw [m_law20_InterpTypeSound_L1] at H; cases H; rw [m_law20_InterpTypeSound_L1] at H; conv => whnf)
  | (refine ⟨(_, _), H, ?_, Nat.lt_succ_self _⟩; refine Le.sub rfl ?_ ?_; (repeat' (first | exact trivial | rfl | exact inc64' (by assumption) | refine And.intro ?_ ?_ | (show D.bool _ = D.bool _; simp [*]; done))); done)
theorem gg_36 : (∀ (fu : Nat) (i : MImpact) (r_ : Bool) (H : m_law52_ImpactIsChanged fu i = some r_), Go.Ab.Fn Tryz.prog 3 [.agg (cImpact i)] (.s (.c (.d (.bool r_)))) []) ∧ (∀ (fu : Nat) (l : MLaw) (scope : Int) (cV : MCase) (defV : Int) (r_ : Bool) (H : m_law52_ImpactSelf fu l scope cV defV = some r_), Go.Ab.Fn Tryz.prog 4 [.agg (cLaw l), .c ((iD scope)), .agg (cCase cV), .c ((iD defV))] (.s (.c (.d (.bool r_)))) []) ∧ (∀ (fu : Nat) (p : MGuerdonlaw52Pair) (scope : Int) (cV : MCase) (defV : Int) (r_ : Bool) (H : m_law52_ImpactSymmetric fu p scope cV defV = some r_), Go.Ab.Fn Tryz.prog 5 [.agg (cGuerdonlaw52Pair p), .c ((iD scope)), .agg (cCase cV), .c ((iD defV))] (.s (.c (.d (.bool r_)))) []) := by
 refine ⟨fun fu i r_ H => ?_, fun fu l scope cV defV r_ H => ?_, fun fu p scope cV defV r_ H => ?_⟩
 all_goals first
  | (refine Go.Ab.Fn.intro htab hm Tryz.func3 rfl Tryz.call3 (by kernel_rfl) 11 Tryz.ntmps3 rfl (fun hr => ?_); unfold m_law52_ImpactIsChanged at H)
  | (refine Go.Ab.Fn.intro htab hm Tryz.func4 rfl Tryz.call4 (by kernel_rfl) 86 Tryz.ntmps4 rfl (fun hr => ?_); unfold m_law52_ImpactSelf at H)
  | (refine Go.Ab.Fn.intro htab hm Tryz.func5 rfl Tryz.call5 (by kernel_rfl) 140 Tryz.ntmps5 rfl (fun hr => ?_); unfold m_law52_ImpactSymmetric at H)
 all_goals conv => whnf
 repeat' first
  | (refine leafI ?_; obtain rfl := Option.some.inj H; (repeat' (first | exact trivial | rfl | refine And.intro ?_ ?_ | (show D.bool _ = D.bool _; simp [*]; done))); done)
  | (refine RegP_intro _ [] ?_; conv => whnf)
  | (refine cK (by with_reducible assumption) (fun q => ?_); (first | with_reducible replace H := hK q H | rw [q] at H | skip); conv => whnf)
  | (refine cBif H (by with_reducible rfl) ?_ ?_ <;> clear H <;> intro q H <;> conv => whnf)
  | (refine condP_intro ?_ ?_ <;> intro q <;> (try rw [q] at H) <;> conv => whnf)
  | (replace H := cnt_some H; obtain ⟨_, H⟩ := H)
  | (refine eIx H ?_; clear H; intro _ _ H; conv => whnf)
  | (refine eCall H (gg_21.2.2.2.2.2 fu _ _) (fun _ => .inl rfl) ?_; clear H; intro _ H; conv => whnf)
  | (refine eCall H (gg_34.1 fu _ _ _ _ _) (fun _ => .inl rfl) ?_; clear H; intro _ H; conv => whnf)
  | (refine eCall H (gg_33.1 fu _ _ _ _) (fun _ => .inl rfl) ?_; clear H; intro _ H; conv => whnf)
  | (refine eCall H (gg_0.1 fu _) (fun _ => .inl rfl) ?_; clear H; intro _ H; conv => whnf)
  | (refine eCall H (gg_0.2.1 fu _) (fun _ => .inl rfl) ?_; clear H; intro _ H; conv => whnf)
  | (refine eCall H (gg_35.1 fu) (fun _ => .inl rfl) ?_; clear H; intro _ H; conv => whnf)
  | (refine eLoop (m_law52_ImpactSymmetric_L2 _ _ _ _ _) [9, 11, 13] [72, 88] (fun (found_8, m_9) => [(14, vDc (.bool found_8)), (15, vDc (iD (nI m_9)))]) (fun (found_8, m_9) => []) H (by refine Le.sub rfl ?_ ?_; (repeat' (first | exact trivial | rfl | exact inc64' (by assumption) | refine And.intro ?_ ?_ | (show D.bool _ = D.bool _; simp [*]; done)))) ?_; clear H; intro n x H; obtain _ | n := n; rw [m_law52_ImpactSymmetric_L2] at H; cases H; obtain ⟨_, _⟩ := x; rw [m_law52_ImpactSymmetric_L2] at H; conv => whnf)
  | (refine ⟨(_, _), H, ?_, Nat.lt_succ_self _⟩; refine Le.sub rfl ?_ ?_; (repeat' (first | exact trivial | rfl | exact inc64' (by assumption) | refine And.intro ?_ ?_ | (show D.bool _ = D.bool _; simp [*]; done))); done)
  | (refine eLoop (m_law52_ImpactSymmetric_L1 _ _ _ _ _) [9, 11] [72, 88] (fun n_6 => [(13, vDc (iD (nI n_6)))]) (fun n_6 => []) H (by refine Le.sub rfl ?_ ?_; (repeat' (first | exact trivial | rfl | exact inc64' (by assumption) | refine And.intro ?_ ?_ | (show D.bool _ = D.bool _; simp [*]; done)))) ?_; clear H; intro n x H; obtain _ | n := n; rw [m_law52_ImpactSymmetric_L1] at H; cases H; rw [m_law52_ImpactSymmetric_L1] at H; conv => whnf)
end Go.Proofs.YtffnbobdkpebgaaGreat
