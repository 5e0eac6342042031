/- Contracts: the functions answer as their models, by my generator. -/
import Derived.Test.YtffnbobdkpebgaaGreatVzC3
set_option linter.unusedVariables false
set_option linter.unusedSimpArgs false
set_option maxRecDepth 100000
set_option maxHeartbeats 4000000
namespace Go.Proofs.YtffnbobdkpebgaaGreat
open Go Go.Ab
theorem gc_deps_MemberDefs (fu : Nat) (s : MScope) (defV : Int) (r_ : (List Int)) (H : m_deps_MemberDefs fu s defV = some r_) : Go.Ab.Fn Tryz.prog 71 [.agg (cScope s), .c ((iD defV))] (.s (.c (.own 0 1))) [(0, .row 3 1 (List.map cInt r_))] := by
 refine Go.Ab.Fn.intro htab hm Tryz.func71 rfl Tryz.call71 (by kernel_rfl) 61 Tryz.ntmps71 rfl (fun hr => ?_)
 unfold m_deps_MemberDefs at H
 conv => whnf
 repeat' first
  | (refine leafI ?_; obtain rfl := Option.some.inj H; (repeat' (first | exact trivial | rfl | refine And.intro ?_ ?_ | (show D.bool _ = D.bool _; simp [*]; done))); done)
  | (refine eIo (f := (cSlc 2 cNode)) H ?_; clear H; intro _ _ H; conv => whnf)
  | (refine cK (by with_reducible assumption) (fun q => ?_); (first | with_reducible replace H := hK q H | rw [q] at H | skip); conv => whnf)
  | (refine cBif H rfl ?_ ?_ <;> clear H <;> intro q H <;> conv => whnf)
  | (refine condP_intro ?_ ?_ <;> intro q <;> (try rw [q] at H) <;> conv => whnf)
  | (replace H := cnt_some H; obtain ⟨_, H⟩ := H)
  | (refine eIx H ?_; clear H; intro _ _ H; conv => whnf)
  | (refine eIo H ?_; clear H; intro _ _ H; conv => whnf)
  | (refine eRd (by assumption) ?_; conv => whnf)
  | (refine eAp (f := cInt) H rfl rfl (by decide) ?_; clear H; intro _ H; conv => whnf)
  | (refine eCall H (gg_3.2.2.2.1 fu _ _) (fun _ => .inl rfl) ?_; clear H; intro _ H; conv => whnf)
  | (refine eCall H (gc_deps_Transitive fu _ _) (fun _ => .inl rfl) ?_; clear H; intro _ H; conv => whnf)
  | (refine Or.inl (Or.inl ?_); (conv => whnf); refine eCall H (gg_14.1 fu _ _) (fun _ => .inr ⟨rfl, rfl⟩) ?_; clear H; intro _ H; conv => whnf)
  | (refine eCall H (gg_13.2.2.2.2.2 fu _) (fun _ => .inl rfl) ?_; clear H; intro _ H; conv => whnf)
  | (refine Or.inr ⟨[], ?_⟩; (conv => whnf); refine eCallH H (gc_slices_Sort_int fu _) ?_; clear H; intro _ H; (conv => whnf); refine And.intro ?_ ?_; (focus ((repeat' (first | exact trivial | rfl | refine And.intro ?_ ?_)); done)); conv => whnf)
  | (refine Or.inr ⟨[], ?_⟩; (conv => whnf); refine eCallH H (gc_slices_Compact_int fu _) ?_; clear H; intro _ H; (conv => whnf); refine And.intro ?_ ?_; (focus ((repeat' (first | exact trivial | rfl | refine And.intro ?_ ?_)); done)); conv => whnf)
  | (refine eLoop (m_deps_MemberDefs_L2 _ _ _) [5, 25, 26, 27, 40, 41] [160, 320] (fun (out_9, t42_10) => [(6, .s (.c (.own 160048 1))), (42, vDc (iD (nI t42_10)))]) (fun (out_9, t42_10) => [(160048, .row 3 1 (List.map cInt out_9))]) H (by refine Le.sub rfl ?_ ?_; (repeat' (first | exact trivial | rfl | exact inc64' (by assumption) | refine And.intro ?_ ?_ | (show D.bool _ = D.bool _; simp [*]; done)))) ?_; clear H; intro n x H; obtain _ | n := n; rw [m_deps_MemberDefs_L2] at H; cases H; obtain ⟨_, _⟩ := x; rw [m_deps_MemberDefs_L2] at H; conv => whnf)
  | (refine ⟨(_, _), H, ?_, Nat.lt_succ_self _⟩; refine Le.sub rfl ?_ ?_; (repeat' (first | exact trivial | rfl | exact inc64' (by assumption) | refine And.intro ?_ ?_ | (show D.bool _ = D.bool _; simp [*]; done))); done)
  | (refine eLoop (m_deps_MemberDefs_L1 _ _ _ _) [5, 25, 26] [160] (fun (out_4, t27_5) => [(6, .s (.c (.own 160048 1))), (27, vDc (iD (nI t27_5)))]) (fun (out_4, t27_5) => [(160048, .row 3 1 (List.map cInt out_4))]) H (by refine Le.sub rfl ?_ ?_; (repeat' (first | exact trivial | rfl | exact inc64' (by assumption) | refine And.intro ?_ ?_ | (show D.bool _ = D.bool _; simp [*]; done)))) ?_; clear H; intro n x H; obtain _ | n := n; rw [m_deps_MemberDefs_L1] at H; cases H; obtain ⟨_, _⟩ := x; rw [m_deps_MemberDefs_L1] at H; conv => whnf)
  | (refine eRd (f := (cSlc 2 cNode)) (by assumption) ?_; conv => whnf)
theorem gc_impact_closure (fu : Nat) (s : MScope) (defs : (List Int)) (r_ : (List Int)) (H : m_impact_closure fu s defs = some r_) : Go.Ab.Fn Tryz.prog 70 [.agg (cScope s), .c ((.slice 1 (List.map cInt defs)))] (.s (.c (.own 0 1))) [(0, .row 3 1 (List.map cInt r_))] := by
 refine Go.Ab.Fn.intro htab hm Tryz.func70 rfl Tryz.call70 (by kernel_rfl) 23 Tryz.ntmps70 rfl (fun hr => ?_)
 unfold m_impact_closure at H
 conv => whnf
 repeat' first
  | (refine leafI ?_; obtain rfl := Option.some.inj H; (repeat' (first | exact trivial | rfl | refine And.intro ?_ ?_ | (show D.bool _ = D.bool _; simp [*]; done))); done)
  | (refine cK (by with_reducible assumption) (fun q => ?_); (first | with_reducible replace H := hK q H | rw [q] at H | skip); conv => whnf)
  | (refine cBif H (by with_reducible rfl) ?_ ?_ <;> clear H <;> intro q H <;> conv => whnf)
  | (refine condP_intro ?_ ?_ <;> intro q <;> (try rw [q] at H) <;> conv => whnf)
  | (replace H := cnt_some H; obtain ⟨_, H⟩ := H)
  | (refine eIx H ?_; clear H; intro _ _ H; conv => whnf)
  | (refine eAp (f := cInt) H rfl rfl (by decide) ?_; clear H; intro _ H; conv => whnf)
  | (refine eCall H (gc_slices_Clone_110 fu _) (fun _ => .inl rfl) ?_; clear H; intro _ H; conv => whnf)
  | (refine eCall H (gc_deps_Transitive fu _ _) (fun _ => .inl rfl) ?_; clear H; intro _ H; conv => whnf)
  | (refine LoopP_le (Le.swap 72 160040 _) ?_; refine eLoop (m_impact_closure_L1 _ _ _ _) [2, 10, 11] [16] (fun (out_2, t12_3) => [(5, .s (.c (.own 160040 1))), (12, vDc (iD (nI t12_3)))]) (fun (out_2, t12_3) => [(160040, .row 3 1 (List.map cInt out_2))]) H (by refine Le.sub rfl ?_ ?_; (repeat' (first | exact trivial | rfl | exact inc64' (by assumption) | refine And.intro ?_ ?_ | (show D.bool _ = D.bool _; simp [*]; done)))) ?_; clear H; intro n x H; obtain _ | n := n; rw [m_impact_closure_L1] at H; cases H; obtain ⟨_, _⟩ := x; rw [m_impact_closure_L1] at H; conv => whnf)
  | (refine ⟨(_, _), H, ?_, Nat.lt_succ_self _⟩; refine Le.sub rfl ?_ ?_; (repeat' (first | exact trivial | rfl | exact inc64' (by assumption) | refine And.intro ?_ ?_ | (show D.bool _ = D.bool _; simp [*]; done))); done)
theorem gg_26 : (∀ (fu : Nat) (s : BA) (taken : (List BA)) (sectionV : Int) (item : Int) (r_ : MLawError) (H : m_law_name fu s taken sectionV item = some r_), Go.Ab.Fn Tryz.prog 60 [.c ((.str s)), .c ((.slice 1 (List.map cStr taken))), .c ((iD sectionV)), .c ((iD item))] (.s (.agg (List.map C.d (cLawError r_)))) []) ∧ (∀ (fu : Nat) (e : MEnum) (item : Int) (r_ : MLawError) (H : m_law_enum fu e item = some r_), Go.Ab.Fn Tryz.prog 61 [.agg (cEnum e), .c ((iD item))] (.s (.agg (List.map C.d (cLawError r_)))) []) ∧ (∀ (fu : Nat) (t : MTable) (enums : (List MEnum)) (r_ : (Int × Int)) (H : m_table_Validate fu t enums = some r_), Go.Ab.Fn Tryz.prog 92 [.agg (cTable t), .c ((.slice 2 (List.map cEnum enums)))] (.tup [.c (.d (iD r_.1)), .c (.d (iD r_.2))]) []) ∧ (∀ (fu : Nat) (l : (List MField)) (taken : (List BA)) (enums : (List MEnum)) (item : Int) (base : Int) (r_ : MLawError) (H : m_law_fields fu l taken enums item base = some r_), Go.Ab.Fn Tryz.prog 93 [.c ((.slice 3 (List.map cField l))), .c ((.slice 1 (List.map cStr taken))), .c ((.slice 2 (List.map cEnum enums))), .c ((iD item)), .c ((iD base))] (.s (.agg (List.map C.d (cLawError r_)))) []) ∧ (∀ (fu : Nat) (s : MScope) (i : Int) (r_ : Int) (H : m_law_named fu s i = some r_), Go.Ab.Fn Tryz.prog 146 [.agg (cScope s), .c ((iD i))] (.s (.c (.d (iD r_)))) []) ∧ (∀ (fu : Nat) (nV : MNode) (l : (List MTy)) (s : MSignature) (r_ : (MTy × Int)) (H : m_expr_typeOf fu nV l s = some r_), Go.Ab.Fn Tryz.prog 208 [.agg (cNode nV), .c ((.slice 2 (List.map cTy l))), .agg (cSignature s)] (.tup [.agg (List.map C.d (cTy r_.1)), .c (.d (iD r_.2))]) []) := by
 refine ⟨fun fu s taken sectionV item r_ H => ?_, fun fu e item r_ H => ?_, fun fu t enums r_ H => ?_, fun fu l taken enums item base r_ H => ?_, fun fu s i r_ H => ?_, fun fu nV l s r_ H => ?_⟩
 all_goals first
  | (refine Go.Ab.Fn.intro htab hm Tryz.func60 rfl Tryz.call60 (by kernel_rfl) 22 Tryz.ntmps60 rfl (fun hr => ?_); unfold m_law_name at H)
  | (refine Go.Ab.Fn.intro htab hm Tryz.func61 rfl Tryz.call61 (by kernel_rfl) 46 Tryz.ntmps61 rfl (fun hr => ?_); unfold m_law_enum at H)
  | (refine Go.Ab.Fn.intro htab hm Tryz.func92 rfl Tryz.call92 (by kernel_rfl) 58 Tryz.ntmps92 rfl (fun hr => ?_); unfold m_table_Validate at H)
  | (refine Go.Ab.Fn.intro htab hm Tryz.func93 rfl Tryz.call93 (by kernel_rfl) 59 Tryz.ntmps93 rfl (fun hr => ?_); unfold m_law_fields at H)
  | (refine Go.Ab.Fn.intro htab hm Tryz.func146 rfl Tryz.call146 (by kernel_rfl) 69 Tryz.ntmps146 rfl (fun hr => ?_); unfold m_law_named at H)
  | (refine Go.Ab.Fn.intro htab hm Tryz.func208 rfl Tryz.call208 (by kernel_rfl) 93 Tryz.ntmps208 rfl (fun hr => ?_); unfold m_expr_typeOf at H)
 all_goals conv => whnf
 repeat' first
  | (refine leafI ?_; obtain rfl := Option.some.inj H; (repeat' (first | exact trivial | rfl | refine And.intro ?_ ?_ | (show D.bool _ = D.bool _; simp [*]; done))); done)
  | (refine RegP_intro _ [] ?_; conv => whnf)
  | (refine cK (by with_reducible assumption) (fun q => ?_); (first | with_reducible replace H := hK q H | rw [q] at H | skip); conv => whnf)
  | (refine cBif H (by with_reducible rfl) ?_ ?_ <;> clear H <;> intro q H <;> conv => whnf)
  | (refine condP_intro ?_ ?_ <;> intro q <;> (try rw [q] at H) <;> conv => whnf)
  | (replace H := cnt_some H; obtain ⟨_, H⟩ := H)
  | (refine eIx H ?_; clear H; intro _ _ H; conv => whnf)
  | (refine eCall H (gg_23.1 fu _) (fun _ => .inl rfl) ?_; clear H; intro _ H; conv => whnf)
  | (refine eCall H (gg_0.2.2.1 fu _ _ _ _) (fun _ => .inl rfl) ?_; clear H; intro _ H; conv => whnf)
  | (refine eSl (f := cStr) H ?_; clear H; intro _ hs H; rw [sl_map hs]; conv => whnf)
  | (refine eCall H (gg_12.2.1 fu _ _) (fun _ => .inl rfl) ?_; clear H; intro _ H; conv => whnf)
  | (refine eLoop (m_law_enum_L1 _ _ _ _) [1, 2, 4, 20, 21] [16, 32] (fun t22_3 => [(22, vDc (iD (nI t22_3)))]) (fun t22_3 => []) H (by refine Le.sub rfl ?_ ?_; (repeat' (first | exact trivial | rfl | exact inc64' (by assumption) | refine And.intro ?_ ?_ | (show D.bool _ = D.bool _; simp [*]; done)))) ?_; clear H; intro n x H; obtain _ | n := n; rw [m_law_enum_L1] at H; cases H; rw [m_law_enum_L1] at H; conv => whnf)
  | (refine eSl (f := cField) H ?_; clear H; intro _ hs H; rw [sl_map hs]; conv => whnf)
  | (refine eCall H (gg_1.2.2.1 fu _) (fun _ => .inl rfl) ?_; clear H; intro _ H; conv => whnf)
  | (refine eCall H (gg_12.2.1 fu _ _) (fun _ => .inr ⟨rfl, rfl⟩) ?_; clear H; intro _ H; conv => whnf)
  | (refine eCall H (gg_18.2.2.2.2.1 fu _) (fun _ => .inl rfl) ?_; clear H; intro _ H; conv => whnf)
  | (refine eCall H (gg_23.2.2.1 fu _ _) (fun _ => .inl rfl) ?_; clear H; intro _ H; conv => whnf)
  | (refine eCall H (gg_13.2.2.2.2.1 fu _ _) (fun _ => .inl rfl) ?_; clear H; intro _ H; conv => whnf)
  | (refine eCall H (gg_1.1 fu _ _) (fun _ => .inl rfl) ?_; clear H; intro _ H; conv => whnf)
  | (refine eCall H (gg_18.2.1 fu _ _ _) (fun _ => .inl rfl) ?_; clear H; intro _ H; conv => whnf)
  | (refine eSl (f := cRow) H ?_; clear H; intro _ hs H; rw [sl_map hs]; conv => whnf)
  | (refine eCall H (gg_23.2.1 fu _ _) (fun _ => .inl rfl) ?_; clear H; intro _ H; conv => whnf)
  | (refine eLoop (m_table_Validate_L2 _ _ _ _ _) [1, 2, 6, 7, 28, 29, 30, 46, 47] [16, 56] (fun t48_8 => [(48, vDc (iD (nI t48_8)))]) (fun t48_8 => []) H (by refine Le.sub rfl ?_ ?_; (repeat' (first | exact trivial | rfl | exact inc64' (by assumption) | refine And.intro ?_ ?_ | (show D.bool _ = D.bool _; simp [*]; done)))) ?_; clear H; intro n x H; obtain _ | n := n; rw [m_table_Validate_L2] at H; cases H; rw [m_table_Validate_L2] at H; conv => whnf)
  | (refine eLoop (m_law_fields_L1 _ _ _ _ _ _ _) [0, 1, 2, 3, 4, 10, 13, 14] [80] (fun t15_1 => [(15, vDc (iD (nI t15_1)))]) (fun t15_1 => []) H (by refine Le.sub rfl ?_ ?_; (repeat' (first | exact trivial | rfl | exact inc64' (by assumption) | refine And.intro ?_ ?_ | (show D.bool _ = D.bool _; simp [*]; done)))) ?_; clear H; intro n x H; obtain _ | n := n; rw [m_law_fields_L1] at H; cases H; rw [m_law_fields_L1] at H; conv => whnf)
  | (refine eSl (f := cRule) H ?_; clear H; intro _ hs H; rw [sl_map hs]; conv => whnf)
  | (refine eLoop (m_law_named_L1 _ _ _) [1, 2, 5, 20, 21] [16, 40] (fun t22_4 => [(22, vDc (iD (nI t22_4)))]) (fun t22_4 => []) H (by refine Le.sub rfl ?_ ?_; (repeat' (first | exact trivial | rfl | exact inc64' (by assumption) | refine And.intro ?_ ?_ | (show D.bool _ = D.bool _; simp [*]; done)))) ?_; clear H; intro n x H; obtain _ | n := n; rw [m_law_named_L1] at H; cases H; rw [m_law_named_L1] at H; conv => whnf)
  | (refine ⟨(_, _), H, ?_, Nat.lt_succ_self _⟩; refine Le.sub rfl ?_ ?_; (repeat' (first | exact trivial | rfl | exact inc64' (by assumption) | refine And.intro ?_ ?_ | (show D.bool _ = D.bool _; simp [*]; done))); done)
  | (refine eLoop (m_table_Validate_L1 _ _ _ _) [1, 2, 28, 29] [16] (fun t30_3 => [(30, vDc (iD (nI t30_3)))]) (fun t30_3 => []) H (by refine Le.sub rfl ?_ ?_; (repeat' (first | exact trivial | rfl | exact inc64' (by assumption) | refine And.intro ?_ ?_ | (show D.bool _ = D.bool _; simp [*]; done)))) ?_; clear H; intro n x H; obtain _ | n := n; rw [m_table_Validate_L1] at H; cases H; rw [m_table_Validate_L1] at H; conv => whnf)
  | (refine eCall H (gg_19.1 fu _ _) (fun _ => .inl rfl) ?_; clear H; intro _ H; conv => whnf)
theorem gg_27 : (∀ (fu : Nat) (s1 : (List MScope)) (s2 : (List MScope)) (r_ : Bool) (H : m_slices_EqualFunc_Scope_103 fu s1 s2 = some r_), Go.Ab.Fn Tryz.prog 102 [.c ((.slice 5 (List.map cScope s1))), .c ((.slice 5 (List.map cScope s2))), .c (.clos 103 [])] (.s (.c (.d (.bool r_)))) []) ∧ (∀ (fu : Nat) (law : MLaw) (scope : MScope) (members : MScope) (cV : MCase) (want : (List Bool)) (inner : (List Bool)) (dV : Int) (r_ : (List Bool)) (H : m_interp_machine_memberDef fu law scope members cV want inner dV = some r_), Go.Ab.FnH Tryz.prog 55 [.c (.ref 7000000 0 0 0), .c (.d ((iD dV)))] [(7000000, .var ((List.map C.d (cLaw law)) ++ (List.map C.d (cScope scope)) ++ (List.map C.d (cScope members)) ++ (List.map C.d (cCase cV)) ++ [.own 7000001 1] ++ [.own 7000002 1] ++ [.nil 1] ++ [.d .nilptr])), (7000001, .row 4 1 (List.map cBool want)), (7000002, .row 4 1 (List.map cBool inner))] (.tup []) [(7000000, .var ((List.map C.d (cLaw law)) ++ (List.map C.d (cScope scope)) ++ (List.map C.d (cScope members)) ++ (List.map C.d (cCase cV)) ++ [.own 7000001 1] ++ [.own 7000002 1] ++ [.nil 1] ++ [.d .nilptr])), (7000001, .row 4 1 (List.map cBool want)), (7000002, .row 4 1 (List.map cBool r_))]) ∧ (∀ (fu : Nat) (a : Int) (b : Int) (r_ : Int) (H : m_date_YearsBetween fu a b = some r_), Go.Ab.Fn Tryz.prog 216 [.c ((iD a)), .c ((iD b))] (.s (.c (.d (iD r_)))) []) := by
 refine ⟨fun fu s1 s2 r_ H => ?_, fun fu law scope members cV want inner dV r_ H => ?_, fun fu a b r_ H => ?_⟩
 all_goals first
  | (refine Go.Ab.Fn.intro htab hm Tryz.func102 rfl Tryz.call102 (by kernel_rfl) 32 Tryz.ntmps102 rfl (fun hr => ?_); unfold m_slices_EqualFunc_Scope_103 at H)
  | (unfold m_interp_machine_memberDef at H; obtain ⟨H, hl⟩ := lk_some H; simp only [Bool.and_eq_true, decide_eq_true_eq] at hl; refine Go.Ab.FnH.intro htab hm Tryz.func55 rfl Tryz.call55 (by kernel_rfl) 30 Tryz.ntmps55 rfl (by repeat' (first | exact trivial | rfl | refine And.intro ?_ ?_ | (simp only [List.length_map]; assumption))) (fun hr => ?_); unfold n_interp_machine_memberDef at H)
  | (refine Go.Ab.Fn.intro htab hm Tryz.func216 rfl Tryz.call216 (by kernel_rfl) 59 Tryz.ntmps216 rfl (fun hr => ?_); unfold m_date_YearsBetween at H)
 all_goals conv => whnf
 repeat' first
  | (refine leafI ?_; obtain rfl := Option.some.inj H; (repeat' (first | exact trivial | rfl | refine And.intro ?_ ?_ | (show D.bool _ = D.bool _; simp [*]; done))); done)
  | (refine cK (by with_reducible assumption) (fun q => ?_); (first | with_reducible replace H := hK q H | rw [q] at H | skip); conv => whnf)
  | (refine cBif H (by with_reducible rfl) ?_ ?_ <;> clear H <;> intro q H <;> conv => whnf)
  | (refine condP_intro ?_ ?_ <;> intro q <;> (try rw [q] at H) <;> conv => whnf)
  | (replace H := cnt_some H; obtain ⟨_, H⟩ := H)
  | (refine eIx H ?_; clear H; intro _ _ H; conv => whnf)
  | (refine eCall H (gg_23.2.2.2.2.1 fu _ _) (fun _ => .inl rfl) ?_; clear H; intro _ H; conv => whnf)
  | (refine eLoop (m_slices_EqualFunc_Scope_103_L1 _ _ _ _) [1, 15, 16, 2] [] (fun t17_1 => [(17, vDc (iD (nI t17_1)))]) (fun t17_1 => []) H (by refine Le.sub rfl ?_ ?_; (repeat' (first | exact trivial | rfl | exact inc64' (by assumption) | refine And.intro ?_ ?_ | (show D.bool _ = D.bool _; simp [*]; done)))) ?_; clear H; intro n x H; obtain _ | n := n; rw [m_slices_EqualFunc_Scope_103_L1] at H; cases H; rw [m_slices_EqualFunc_Scope_103_L1] at H; conv => whnf)
  | (refine eIo H ?_; clear H; intro _ _ H; conv => whnf)
  | (refine eSt (f := cBool) (fun v x => v) _ (by assumption) (by (try dsimp only [cBool, MRule.fr, MRule.to, MRow.fr, MRow.to]); rfl) ?_; conv => whnf)
  | (refine eRd (by assumption) ?_; conv => whnf)
  | (refine eCall H (gc_deps_Transitive fu _ _) (fun _ => .inl rfl) ?_; clear H; intro _ H; conv => whnf)
  | (refine eLoop (m_interp_machine_memberDef_L1 _ _) [0, 17, 18] [136, 7000000, 7000001] (fun (t19_3, rw_4) => [(19, vDc (iD (nI t19_3)))]) (fun (t19_3, rw_4) => [(7000002, .row 4 1 (List.map cBool rw_4))]) H (by refine Le.sub rfl ?_ ?_; (repeat' (first | exact trivial | rfl | exact inc64' (by assumption) | refine And.intro ?_ ?_ | (show D.bool _ = D.bool _; simp [*]; done)))) ?_; clear H; intro n x H; obtain _ | n := n; rw [m_interp_machine_memberDef_L1] at H; cases H; obtain ⟨_, _⟩ := x; rw [m_interp_machine_memberDef_L1] at H; conv => whnf)
  | (refine ⟨(_, _), H, ?_, Nat.lt_succ_self _⟩; refine Le.sub rfl ?_ ?_; (repeat' (first | exact trivial | rfl | exact inc64' (by assumption) | refine And.intro ?_ ?_ | (show D.bool _ = D.bool _; simp [*]; done))); done)
  | (refine eCall H (gg_8.2.1 fu _) (fun _ => .inl rfl) ?_; clear H; intro _ H; conv => whnf)
  | (refine eCall H (gg_21.2.1 fu _) (fun _ => .inl rfl) ?_; clear H; intro _ H; conv => whnf)
  | (refine eCall H (gg_24.2.2.1 fu _ _) (fun _ => .inl rfl) ?_; clear H; intro _ H; conv => whnf)
theorem gc_expr_TypeOf (fu : Nat) (e : (List MNode)) (s : MSignature) (r_ : (MTy × Int × Int)) (H : m_expr_TypeOf fu e s = some r_) : Go.Ab.Fn Tryz.prog 184 [.c ((.slice 2 (List.map cNode e))), .agg (cSignature s)] (.tup [.agg (List.map C.d (cTy r_.1)), .c (.d (iD r_.2.1)), .c (.d (iD r_.2.2))]) [] := by
 refine Go.Ab.Fn.intro htab hm Tryz.func184 rfl Tryz.call184 (by kernel_rfl) 79 Tryz.ntmps184 rfl (fun hr => ?_)
 unfold m_expr_TypeOf at H
 conv => whnf
 repeat' first
  | (refine leafI ?_; obtain rfl := Option.some.inj H; (repeat' (first | exact trivial | rfl | refine And.intro ?_ ?_ | (show D.bool _ = D.bool _; simp [*]; done))); done)
  | (refine cK (by with_reducible assumption) (fun q => ?_); (first | with_reducible replace H := hK q H | rw [q] at H | skip); conv => whnf)
  | (refine cBif H (by with_reducible rfl) ?_ ?_ <;> clear H <;> intro q H <;> conv => whnf)
  | (refine condP_intro ?_ ?_ <;> intro q <;> (try rw [q] at H) <;> conv => whnf)
  | (replace H := cnt_some H; obtain ⟨_, H⟩ := H)
  | (refine eIx H ?_; clear H; intro _ _ H; conv => whnf)
  | (refine eIo H ?_; clear H; intro _ _ H; conv => whnf)
  | (refine eSt (f := cTy) (fun v x => v) _ (by assumption) (by (try dsimp only [cTy, MRule.fr, MRule.to, MRow.fr, MRow.to]); rfl) ?_; conv => whnf)
  | (refine eRd (by assumption) ?_; conv => whnf)
  | (refine eMk (f := cTy) H rfl ?_; clear H; intro _ H; conv => whnf)
  | (refine eAp (f := cTy) H rfl rfl (by decide) ?_; clear H; intro _ H; conv => whnf)
  | (refine eCall H (gg_13.1 fu _) (fun _ => .inl rfl) ?_; clear H; intro _ H; conv => whnf)
  | (refine eCall H (gg_13.2.1 fu _ _ _) (fun _ => .inl rfl) ?_; clear H; intro _ H; conv => whnf)
  | (refine Or.inl (Or.inl ?_); (conv => whnf); refine eCall H (gg_26.2.2.2.2.2 fu _ _ _) (fun _ => .inr ⟨rfl, rfl⟩) ?_; clear H; intro _ H; conv => whnf)
  | (refine eLoop (m_expr_TypeOf_L2 _ _ _) [0, 3, 4, 7, 10, 11, 12, 32, 33, 34, 42, 43] [24, 32, 96, 248, 336] (fun (args_8, t44_9) => [(13, .s (.c (.own 160104 2))), (44, vDc (iD (nI t44_9)))]) (fun (args_8, t44_9) => [(160104, .row 82 2 (List.map cTy args_8))]) H (by refine Le.sub rfl ?_ ?_; (repeat' (first | exact trivial | rfl | exact inc64' (by assumption) | refine And.intro ?_ ?_ | (show D.bool _ = D.bool _; simp [*]; done)))) ?_; clear H; intro n x H; obtain _ | n := n; rw [m_expr_TypeOf_L2] at H; cases H; obtain ⟨_, _⟩ := x; rw [m_expr_TypeOf_L2] at H; conv => whnf)
  | (refine ⟨(_, _), H, ?_, Nat.lt_succ_self _⟩; refine Le.sub rfl ?_ ?_; (repeat' (first | exact trivial | rfl | exact inc64' (by assumption) | refine And.intro ?_ ?_ | (show D.bool _ = D.bool _; simp [*]; done))); done)
  | (refine LoopP_le (Le.commit (inL [160]) _) ?_; refine eLoop (m_expr_TypeOf_L1 _ _ _ _ _) [0, 3, 4, 7, 10, 32, 33] [24, 32] (fun (t34_3, rw_4) => [(34, vDc (iD (nI t34_3)))]) (fun (t34_3, rw_4) => [(248, .row 82 2 (List.map cTy rw_4))]) H (by refine Le.sub rfl ?_ ?_; (repeat' (first | exact trivial | rfl | exact inc64' (by assumption) | refine And.intro ?_ ?_ | (show D.bool _ = D.bool _; simp [*]; done)))) ?_; clear H; intro n x H; obtain _ | n := n; rw [m_expr_TypeOf_L1] at H; cases H; obtain ⟨_, _⟩ := x; rw [m_expr_TypeOf_L1] at H; conv => whnf)
theorem gc_impact_relevant (fu : Nat) (l : MLaw) (scope : Int) (defV : Int) (cV : MChange) (r_ : Bool) (H : m_impact_relevant fu l scope defV cV = some r_) : Go.Ab.Fn Tryz.prog 33 [.agg (cLaw l), .c ((iD scope)), .c ((iD defV)), .agg (cChange cV)] (.s (.c (.d (.bool r_)))) [] := by
 refine Go.Ab.Fn.intro htab hm Tryz.func33 rfl Tryz.call33 (by kernel_rfl) 54 Tryz.ntmps33 rfl (fun hr => ?_)
 unfold m_impact_relevant at H
 conv => whnf
 repeat' first
  | (refine leafI ?_; obtain rfl := Option.some.inj H; (repeat' (first | exact trivial | rfl | refine And.intro ?_ ?_ | (show D.bool _ = D.bool _; simp [*]; done))); done)
  | (refine RegP_intro 7 [] ?_; conv => whnf)
  | (refine RegP_intro _ [] ?_; conv => whnf)
  | (refine cK (by with_reducible assumption) (fun q => ?_); (first | with_reducible replace H := hK q H | rw [q] at H | skip); conv => whnf)
  | (refine cBif H (by with_reducible rfl) ?_ ?_ <;> clear H <;> intro q H <;> conv => whnf)
  | (refine condP_intro ?_ ?_ <;> intro q <;> (try rw [q] at H) <;> conv => whnf)
  | (refine eIx H ?_; clear H; intro _ _ H; conv => whnf)
  | (refine eCall H (gc_impact_closure fu _ _) (fun _ => .inl rfl) ?_; clear H; intro _ H; conv => whnf)
  | (refine eCall H (gc_impact_contains fu _ _ _) (fun _ => .inr ⟨rfl, rfl⟩) ?_; clear H; intro _ H; conv => whnf)
  | (refine eCall H (fun v hv => (gc_deps_MemberDefs fu _ _ v hv).asData) (fun _ => .inl rfl) ?_; clear H; intro _ H; conv => whnf)
theorem gg_28 : (∀ (fu : Nat) (t : MTable) (item : Int) (enums : (List MEnum)) (r_ : MLawError) (H : m_law_rows fu t item enums = some r_), Go.Ab.Fn Tryz.prog 62 [.agg (cTable t), .c ((iD item)), .c ((.slice 2 (List.map cEnum enums)))] (.s (.agg (List.map C.d (cLawError r_)))) []) ∧ (∀ (fu : Nat) (a : MLaw) (b : MLaw) (r_ : Bool) (H : m_law_Equal fu a b = some r_), Go.Ab.Fn Tryz.prog 64 [.agg (cLaw a), .agg (cLaw b)] (.s (.c (.d (.bool r_)))) []) ∧ (∀ (fu : Nat) (law : MLaw) (scope : MScope) (members : MScope) (cV : MCase) (want : (List Bool)) (inner : (List Bool)) (defV : Int) (r_ : ((List Bool) × (List Bool))) (H : m_interp_machine_require fu law scope members cV want inner defV = some r_), Go.Ab.FnH Tryz.prog 36 [.c (.ref 7000000 0 0 0), .c (.d ((iD defV)))] [(7000000, .var ((List.map C.d (cLaw law)) ++ (List.map C.d (cScope scope)) ++ (List.map C.d (cScope members)) ++ (List.map C.d (cCase cV)) ++ [.own 7000001 1] ++ [.own 7000002 1] ++ [.nil 1] ++ [.d .nilptr])), (7000001, .row 4 1 (List.map cBool want)), (7000002, .row 4 1 (List.map cBool inner))] (.tup []) [(7000000, .var ((List.map C.d (cLaw law)) ++ (List.map C.d (cScope scope)) ++ (List.map C.d (cScope members)) ++ (List.map C.d (cCase cV)) ++ [.own 7000001 1] ++ [.own 7000002 1] ++ [.nil 1] ++ [.d .nilptr])), (7000001, .row 4 1 (List.map cBool r_.1)), (7000002, .row 4 1 (List.map cBool r_.2))]) ∧ (∀ (fu : Nat) (nV : MNode) (l : (List MValue)) (r_ : (MValue × Int)) (H : m_eval_dates fu nV l = some r_), Go.Ab.Fn Tryz.prog 195 [.agg (cNode nV), .c ((.slice 3 (List.map cValue l)))] (.tup [.agg (List.map C.d (cValue r_.1)), .c (.d (iD r_.2))]) []) ∧ (∀ (fu : Nat) (s : MScope) (defV : Int) (r_ : (List Int)) (H : m_interp_guardMembers fu s defV = some r_), Go.Ab.Fn Tryz.prog 54 [.agg (cScope s), .c ((iD defV))] (.s (.c (.own 0 1))) [(0, .row 3 1 (List.map cInt r_))]) := by
 refine ⟨fun fu t item enums r_ H => ?_, fun fu a b r_ H => ?_, fun fu law scope members cV want inner defV r_ H => ?_, fun fu nV l r_ H => ?_, fun fu s defV r_ H => ?_⟩
 all_goals first
  | (refine Go.Ab.Fn.intro htab hm Tryz.func62 rfl Tryz.call62 (by kernel_rfl) 30 Tryz.ntmps62 rfl (fun hr => ?_); unfold m_law_rows at H)
  | (refine Go.Ab.Fn.intro htab hm Tryz.func64 rfl Tryz.call64 (by kernel_rfl) 24 Tryz.ntmps64 rfl (fun hr => ?_); unfold m_law_Equal at H)
  | (unfold m_interp_machine_require at H; obtain ⟨H, hl⟩ := lk_some H; simp only [Bool.and_eq_true, decide_eq_true_eq] at hl; obtain ⟨hl0, hl1⟩ := hl; refine Go.Ab.FnH.intro htab hm Tryz.func36 rfl Tryz.call36 (by kernel_rfl) 47 Tryz.ntmps36 rfl (by repeat' (first | exact trivial | rfl | refine And.intro ?_ ?_ | (simp only [List.length_map]; assumption))) (fun hr => ?_); unfold n_interp_machine_require at H)
  | (refine Go.Ab.Fn.intro htab hm Tryz.func195 rfl Tryz.call195 (by kernel_rfl) 85 Tryz.ntmps195 rfl (fun hr => ?_); unfold m_eval_dates at H)
  | (refine Go.Ab.Fn.intro htab hm Tryz.func54 rfl Tryz.call54 (by kernel_rfl) 8 Tryz.ntmps54 rfl (fun hr => ?_); unfold m_interp_guardMembers at H)
 all_goals conv => whnf
 repeat' first
  | (refine leafI ?_; obtain rfl := Option.some.inj H; (repeat' (first | exact trivial | rfl | refine And.intro ?_ ?_ | (show D.bool _ = D.bool _; simp [*]; done))); done)
  | (refine RegP_intro _ [] ?_; conv => whnf)
  | (refine cK (by with_reducible assumption) (fun q => ?_); (first | with_reducible replace H := hK q H | rw [q] at H | skip); conv => whnf)
  | (refine cBif H (by with_reducible rfl) ?_ ?_ <;> clear H <;> intro q H <;> conv => whnf)
  | (refine condP_intro ?_ ?_ <;> intro q <;> (try rw [q] at H) <;> conv => whnf)
  | (refine eCall H (gg_26.2.2.1 fu _ _) (fun _ => .inl rfl) ?_; clear H; intro _ H; conv => whnf)
  | (refine eCall H (gg_0.2.2.1 fu _ _ _ _) (fun _ => .inl rfl) ?_; clear H; intro _ H; conv => whnf)
  | (refine eCall H (gg_19.2.2.1 fu _ _) (fun _ => .inl rfl) ?_; clear H; intro _ H; conv => whnf)
  | (refine eCall H (gg_19.2.2.2.1 fu _ _) (fun _ => .inl rfl) ?_; clear H; intro _ H; conv => whnf)
  | (refine eCall H (gg_27.1 fu _ _) (fun _ => .inl rfl) ?_; clear H; intro _ H; conv => whnf)
  | (replace H := cnt_some H; obtain ⟨_, H⟩ := H)
  | (refine eIo H ?_; clear H; intro _ _ H; conv => whnf)
  | (refine eSt (f := cBool) (fun v x => v) _ (by assumption) (by (try dsimp only [cBool, MRule.fr, MRule.to, MRow.fr, MRow.to]); rfl) ?_; conv => whnf)
  | (refine eRd (by assumption) ?_; conv => whnf)
  | (refine eCall H (gc_deps_Transitive fu _ _) (fun _ => .inl rfl) ?_; clear H; intro _ H; conv => whnf)
  | (refine eCall H (gc_deps_MemberDefs fu _ _) (fun _ => .inl rfl) ?_; clear H; intro _ H; conv => whnf)
  | (refine Or.inr ⟨[], ?_⟩; (conv => whnf); refine eCallH H (gg_27.2.1 fu _ _ _ _ _ _ _) ?_; clear H; intro _ H; (conv => whnf); refine And.intro ?_ ?_; (focus ((repeat' (first | exact trivial | rfl | refine And.intro ?_ ?_)); done)); conv => whnf)
  | (refine eLoop (m_interp_machine_require_L2 _ _ _ _ _ _ _ _) [0, 37, 38] [296, 7000000, 7000001] (fun (t39_10, rw_11) => [(39, vDc (iD (nI t39_10)))]) (fun (t39_10, rw_11) => [(7000002, .row 4 1 (List.map cBool rw_11))]) H (by refine Le.sub rfl ?_ ?_; (repeat' (first | exact trivial | rfl | exact inc64' (by assumption) | refine And.intro ?_ ?_ | (show D.bool _ = D.bool _; simp [*]; done)))) ?_; clear H; intro n x H; obtain _ | n := n; rw [m_interp_machine_require_L2] at H; cases H; obtain ⟨_, _⟩ := x; rw [m_interp_machine_require_L2] at H; conv => whnf)
  | (refine ⟨(_, _), H, ?_, Nat.lt_succ_self _⟩; refine Le.sub rfl ?_ ?_; (repeat' (first | exact trivial | rfl | exact inc64' (by assumption) | refine And.intro ?_ ?_ | (show D.bool _ = D.bool _; simp [*]; done))); done)
  | (refine eLoop (m_interp_machine_require_L1 _ _) [0, 1, 19, 20] [152, 7000000, 7000002] (fun (t21_3, rw_4) => [(21, vDc (iD (nI t21_3)))]) (fun (t21_3, rw_4) => [(7000001, .row 4 1 (List.map cBool rw_4))]) H (by refine Le.sub rfl ?_ ?_; (repeat' (first | exact trivial | rfl | exact inc64' (by assumption) | refine And.intro ?_ ?_ | (show D.bool _ = D.bool _; simp [*]; done)))) ?_; clear H; intro n x H; obtain _ | n := n; rw [m_interp_machine_require_L1] at H; cases H; obtain ⟨_, _⟩ := x; rw [m_interp_machine_require_L1] at H; conv => whnf)
  | (refine eIx H ?_; clear H; intro _ _ H; conv => whnf)
  | (refine eCall H (gg_21.2.1 fu _) (fun _ => .inl rfl) ?_; clear H; intro _ H; conv => whnf)
  | (refine eCall H (gg_24.2.2.1 fu _ _) (fun _ => .inl rfl) ?_; clear H; intro _ H; conv => whnf)
  | (refine eCall H (gg_27.2.2 fu _ _) (fun _ => .inl rfl) ?_; clear H; intro _ H; conv => whnf)
theorem gg_29 : (∀ (fu : Nat) (e : (List MNode)) (sig : MSignature) (want : MTy) (r_ : Int) (H : m_law_expression fu e sig want = some r_), Go.Ab.Fn Tryz.prog 148 [.c ((.slice 2 (List.map cNode e))), .agg (cSignature sig), .agg (cTy want)] (.s (.c (.d (iD r_)))) []) ∧ (∀ (fu : Nat) (a : MLaw) (b : MLaw) (r_ : Bool) (H : m_lawdiff_SameInterface fu a b = some r_), Go.Ab.Fn Tryz.prog 31 [.agg (cLaw a), .agg (cLaw b)] (.s (.c (.d (.bool r_)))) []) ∧ (∀ (fu : Nat) (nV : MNode) (l : (List MValue)) (env : MEnv) (r_ : (MValue × Int)) (H : m_eval_operate fu nV l env = some r_), Go.Ab.Fn Tryz.prog 166 [.agg (cNode nV), .c ((.slice 3 (List.map cValue l))), .agg (cEnv env)] (.tup [.agg (List.map C.d (cValue r_.1)), .c (.d (iD r_.2))]) []) := by
 refine ⟨fun fu e sig want r_ H => ?_, fun fu a b r_ H => ?_, fun fu nV l env r_ H => ?_⟩
 all_goals first
  | (refine Go.Ab.Fn.intro htab hm Tryz.func148 rfl Tryz.call148 (by kernel_rfl) 25 Tryz.ntmps148 rfl (fun hr => ?_); unfold m_law_expression at H)
  | (refine Go.Ab.Fn.intro htab hm Tryz.func31 rfl Tryz.call31 (by kernel_rfl) 10 Tryz.ntmps31 rfl (fun hr => ?_); unfold m_lawdiff_SameInterface at H)
  | (refine Go.Ab.Fn.intro htab hm Tryz.func166 rfl Tryz.call166 (by kernel_rfl) 256 Tryz.ntmps166 rfl (fun hr => ?_); unfold m_eval_operate at H)
 all_goals conv => whnf
 repeat' first
  | (refine leafI ?_; obtain rfl := Option.some.inj H; (repeat' (first | exact trivial | rfl | refine And.intro ?_ ?_ | (show D.bool _ = D.bool _; simp [*]; done))); done)
  | (refine RegP_intro _ [] ?_; conv => whnf)
  | (refine cK (by with_reducible assumption) (fun q => ?_); (first | with_reducible replace H := hK q H | rw [q] at H | skip); conv => whnf)
  | (refine cBif H (by with_reducible rfl) ?_ ?_ <;> clear H <;> intro q H <;> conv => whnf)
  | (refine condP_intro ?_ ?_ <;> intro q <;> (try rw [q] at H) <;> conv => whnf)
  | (refine eCall H (gc_expr_TypeOf fu _ _) (fun _ => .inl rfl) ?_; clear H; intro _ H; conv => whnf)
  | (refine eCall H (gg_23.2.2.2.1 fu _) (fun _ => .inl rfl) ?_; clear H; intro _ H; conv => whnf)
  | (refine eCall H (gg_28.2.1 fu _ _) (fun _ => .inl rfl) ?_; clear H; intro _ H; conv => whnf)
  | (refine eIx H ?_; clear H; intro _ _ H; conv => whnf)
  | (refine ⟨by decide, ?_⟩; conv => whnf)
  | (refine eCall H (gg_24.2.1 fu _ _) (fun _ => .inl rfl) ?_; clear H; intro _ H; conv => whnf)
  | (refine eCall H (gg_28.2.2.2.1 fu _ _) (fun _ => .inl rfl) ?_; clear H; intro _ H; conv => whnf)
  | (refine eCall H (gg_24.2.2.2.1 fu _ _) (fun _ => .inl rfl) ?_; clear H; intro _ H; conv => whnf)
  | (refine eCall H (gg_5.2.2.2.1 fu _) (fun _ => .inl rfl) ?_; clear H; intro _ H; conv => whnf)
  | (refine eCall H (gg_21.2.2.2.1 fu _ _ _) (fun _ => .inl rfl) ?_; clear H; intro _ H; conv => whnf)
  | (refine eCall H (gg_24.2.2.2.2.1 fu _ _ _ _) (fun _ => .inl rfl) ?_; clear H; intro _ H; conv => whnf)
theorem gg_30 : (∀ (fu : Nat) (s : MScope) (i : Int) (sig : MSignature) (r_ : Int) (H : m_law_rule fu s i sig = some r_), Go.Ab.Fn Tryz.prog 96 [.agg (cScope s), .c ((iD i)), .agg (cSignature sig)] (.s (.c (.d (iD r_)))) []) ∧ (∀ (fu : Nat) (nV : MNode) (args : (List MValue)) (env : MEnv) (r_ : (MValue × Int)) (H : m_eval_Apply fu nV args env = some r_), Go.Ab.Fn Tryz.prog 126 [.agg (cNode nV), .c ((.slice 3 (List.map cValue args))), .agg (cEnv env)] (.tup [.agg (List.map C.d (cValue r_.1)), .c (.d (iD r_.2))]) []) := by
 refine ⟨fun fu s i sig r_ H => ?_, fun fu nV args env r_ H => ?_⟩
 all_goals first
  | (refine Go.Ab.Fn.intro htab hm Tryz.func96 rfl Tryz.call96 (by kernel_rfl) 102 Tryz.ntmps96 rfl (fun hr => ?_); unfold m_law_rule at H)
  | (refine Go.Ab.Fn.intro htab hm Tryz.func126 rfl Tryz.call126 (by kernel_rfl) 56 Tryz.ntmps126 rfl (fun hr => ?_); unfold m_eval_Apply at H)
 all_goals conv => whnf
 repeat' first
  | (refine leafI ?_; obtain rfl := Option.some.inj H; (repeat' (first | exact trivial | rfl | refine And.intro ?_ ?_ | (show D.bool _ = D.bool _; simp [*]; done))); done)
  | (refine RegP_intro _ [] ?_; conv => whnf)
  | (refine cK (by with_reducible assumption) (fun q => ?_); (first | with_reducible replace H := hK q H | rw [q] at H | skip); conv => whnf)
  | (refine cBif H (by with_reducible rfl) ?_ ?_ <;> clear H <;> intro q H <;> conv => whnf)
  | (refine condP_intro ?_ ?_ <;> intro q <;> (try rw [q] at H) <;> conv => whnf)
  | (replace H := cnt_some H; obtain ⟨_, H⟩ := H)
  | (refine eIx H ?_; clear H; intro _ _ H; conv => whnf)
  | (refine eCall H (gg_26.2.2.2.2.1 fu _ _) (fun _ => .inl rfl) ?_; clear H; intro _ H; conv => whnf)
  | (refine eSl (f := cRule) H ?_; clear H; intro _ hs H; rw [sl_map hs]; conv => whnf)
  | (refine eCall H (gg_1.2.2.2.2.2 fu _) (fun _ => .inl rfl) ?_; clear H; intro _ H; conv => whnf)
  | (refine eCall H (gg_29.1 fu _ _ _) (fun _ => .inl rfl) ?_; clear H; intro _ H; conv => whnf)
  | (refine eLoop (m_law_rule_L1 _ _ _) [3, 5, 8, 27, 28] [24, 40, 64] (fun (same_4, t29_5) => [(9, vDc (iD same_4)), (29, vDc (iD (nI t29_5)))]) (fun (same_4, t29_5) => []) H (by refine Le.sub rfl ?_ ?_; (repeat' (first | exact trivial | rfl | exact inc64' (by assumption) | refine And.intro ?_ ?_ | (show D.bool _ = D.bool _; simp [*]; done)))) ?_; clear H; intro n x H; obtain _ | n := n; rw [m_law_rule_L1] at H; cases H; obtain ⟨_, _⟩ := x; rw [m_law_rule_L1] at H; conv => whnf)
  | (refine eCall H (gg_15.2.2.1 fu _ _) (fun _ => .inl rfl) ?_; clear H; intro _ H; conv => whnf)
  | (refine eCall H (gg_15.2.2.2.1 fu _ _) (fun _ => .inl rfl) ?_; clear H; intro _ H; conv => whnf)
  | (refine eCall H (gg_15.2.2.2.2.1 fu _) (fun _ => .inl rfl) ?_; clear H; intro _ H; conv => whnf)
  | (refine eCall H (gc_eval_allowed fu _ _ _) (fun _ => .inl rfl) ?_; clear H; intro _ H; conv => whnf)
  | (refine eCall H (gg_29.2.2 fu _ _ _) (fun _ => .inl rfl) ?_; clear H; intro _ H; conv => whnf)
  | (refine eLoop (m_eval_Apply_L1 _ _ _) [1, 3, 5, 6, 23, 24] [24, 40, 48] (fun t25_3 => [(25, vDc (iD (nI t25_3)))]) (fun t25_3 => []) H (by refine Le.sub rfl ?_ ?_; (repeat' (first | exact trivial | rfl | exact inc64' (by assumption) | refine And.intro ?_ ?_ | (show D.bool _ = D.bool _; simp [*]; done)))) ?_; clear H; intro n x H; obtain _ | n := n; rw [m_eval_Apply_L1] at H; cases H; rw [m_eval_Apply_L1] at H; conv => whnf)
  | (refine ⟨(_, _), H, ?_, Nat.lt_succ_self _⟩; refine Le.sub rfl ?_ ?_; (repeat' (first | exact trivial | rfl | exact inc64' (by assumption) | refine And.intro ?_ ?_ | (show D.bool _ = D.bool _; simp [*]; done))); done)
theorem gr_eval_evaluator_node (fu : Nat) : (∀ (xV : MEvalEvaluator) (atV : Int) (r_ : (MValue × Int)), m_eval_evaluator_node fu xV atV = some r_ → Go.Ab.Fn Tryz.prog 80 [.c (.ptr (cEvalEvaluator xV) 0), .c ((iD atV))] (.tup [.agg (List.map C.d (cValue r_.1)), .c (.d (iD r_.2))]) []) ∧ (∀ (xV : MEvalEvaluator) (atV : Int) (r_ : (Bool × Int)), m_eval_evaluator_truth fu xV atV = some r_ → Go.Ab.Fn Tryz.prog 124 [.c (.ptr (cEvalEvaluator xV) 0), .c ((iD atV))] (.tup [.c (.d (.bool r_.1)), .c (.d (iD r_.2))]) []) := by
 induction fu with
 | zero => refine ⟨?_, ?_⟩; all_goals (intros; rename_i H; cases H)
 | succ fu ih =>
  refine ⟨?_, ?_⟩
  · intro xV atV r_ H
    refine Go.Ab.Fn.intro htab hm Tryz.func80 rfl Tryz.call80 (by kernel_rfl) 136 Tryz.ntmps80 rfl (fun hr => ?_)
    change o_eval_evaluator_node fu (m_eval_evaluator_node fu) (m_eval_evaluator_truth fu) xV atV = some r_ at H
    unfold o_eval_evaluator_node at H
    conv => whnf
    repeat' first
     | (refine leafI ?_; obtain rfl := Option.some.inj H; (repeat' (first | exact trivial | rfl | refine And.intro ?_ ?_ | (show D.bool _ = D.bool _; simp [*]; done))); done)
     | (refine RegP_intro _ [] ?_; conv => whnf)
     | (refine cT2 (by with_reducible assumption) (fun q => ?_); (first | with_reducible replace H := hT q H | with_reducible replace H := hF q H | rw [q] at H | skip); conv => whnf)
     | (refine cF2 (by with_reducible assumption) (fun q => ?_); (first | with_reducible replace H := hT q H | with_reducible replace H := hF q H | rw [q] at H | skip); conv => whnf)
     | (refine cBif H (by with_reducible rfl) ?_ ?_ <;> clear H <;> intro q H <;> conv => whnf)
     | (refine condP_intro ?_ ?_ <;> intro q <;> (try rw [q] at H) <;> conv => whnf)
     | (replace H := cnt_some H; obtain ⟨_, H⟩ := H)
     | (refine eIx H ?_; clear H; intro _ _ H; conv => whnf)
     | (refine eIo H ?_; clear H; intro _ _ H; conv => whnf)
     | (refine eRd (by assumption) ?_; conv => whnf)
     | (refine eAp (f := cValue) H rfl rfl (by decide) ?_; clear H; intro _ H; conv => whnf)
     | (refine eCall H (gg_24.1 fu _ _) (fun _ => .inl rfl) ?_; clear H; intro _ H; conv => whnf)
     | (refine eCall H (ih.2 _ _) (fun _ => .inl rfl) ?_; clear H; intro _ H; conv => whnf)
     | (refine eCall H (gg_5.2.2.2.1 fu _) (fun _ => .inl rfl) ?_; clear H; intro _ H; conv => whnf)
     | (refine eCall H (ih.1 _ _) (fun _ => .inl rfl) ?_; clear H; intro _ H; conv => whnf)
     | (refine eCall H (gg_30.2 fu _ _ _) (fun _ => .inr ⟨rfl, rfl⟩) ?_; clear H; intro _ H; conv => whnf)
     | (refine eLoop (m_eval_evaluator_node_L1 _ _ _ _) [0, 4, 6, 106, 107] [32, 48, 240] (fun (args_21, t108_22) => [(13, .s (.c (.own 160104 3))), (108, vDc (iD (nI t108_22)))]) (fun (args_21, t108_22) => [(160104, .row 23 3 (List.map cValue args_21))]) H (by refine Le.sub rfl ?_ ?_; (repeat' (first | exact trivial | rfl | exact inc64' (by assumption) | refine And.intro ?_ ?_ | (show D.bool _ = D.bool _; simp [*]; done)))) ?_; clear H; intro n x H; obtain _ | n := n; rw [m_eval_evaluator_node_L1] at H; cases H; obtain ⟨_, _⟩ := x; rw [m_eval_evaluator_node_L1] at H; conv => whnf)
     | (refine ⟨(_, _), H, ?_, Nat.lt_succ_self _⟩; refine Le.sub rfl ?_ ?_; (repeat' (first | exact trivial | rfl | exact inc64' (by assumption) | refine And.intro ?_ ?_ | (show D.bool _ = D.bool _; simp [*]; done))); done)
  · intro xV atV r_ H
    refine Go.Ab.Fn.intro htab hm Tryz.func124 rfl Tryz.call124 (by kernel_rfl) 28 Tryz.ntmps124 rfl (fun hr => ?_)
    change o_eval_evaluator_truth fu (m_eval_evaluator_node fu) (m_eval_evaluator_truth fu) xV atV = some r_ at H
    unfold o_eval_evaluator_truth at H
    conv => whnf
    repeat' first
     | (refine leafI ?_; obtain rfl := Option.some.inj H; (repeat' (first | exact trivial | rfl | refine And.intro ?_ ?_ | (show D.bool _ = D.bool _; simp [*]; done))); done)
     | (refine cT2 (by with_reducible assumption) (fun q => ?_); (first | with_reducible replace H := hT q H | with_reducible replace H := hF q H | rw [q] at H | skip); conv => whnf)
     | (refine cF2 (by with_reducible assumption) (fun q => ?_); (first | with_reducible replace H := hT q H | with_reducible replace H := hF q H | rw [q] at H | skip); conv => whnf)
     | (refine cBif H (by with_reducible rfl) ?_ ?_ <;> clear H <;> intro q H <;> conv => whnf)
     | (refine condP_intro ?_ ?_ <;> intro q <;> (try rw [q] at H) <;> conv => whnf)
     | (refine eCall H (ih.1 _ _) (fun _ => .inl rfl) ?_; clear H; intro _ H; conv => whnf)
     | (refine eCall H (gg_15.2.2.2.2.1 fu _) (fun _ => .inl rfl) ?_; clear H; intro _ H; conv => whnf)
end Go.Proofs.YtffnbobdkpebgaaGreat
