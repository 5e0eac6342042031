/- Contracts: the functions answer as their models, by my generator. -/
import Derived.Test.YtffnbobdkpebgaaGreatVzC1
set_option linter.unusedVariables false
set_option linter.unusedSimpArgs false
set_option maxRecDepth 100000
set_option maxHeartbeats 4000000
namespace Go.Proofs.YtffnbobdkpebgaaGreat
open Go Go.Ab
theorem gg_16 : (∀ (fu : Nat) (a : Int) (b : Int) (limit : Int) (r_ : (Int × Bool)) (H : m_eval_product fu a b limit = some r_), Go.Ab.Fn Tryz.prog 209 [.c ((iD a)), .c ((iD b)), .c ((iD limit))] (.tup [.c (.d (iD r_.1)), .c (.d (.bool r_.2))]) []) ∧ (∀ (fu : Nat) (cV : Int) (num : Int) (den : Int) (m : Int) (r_ : (Int × Int)) (H : m_money_MulDiv fu cV num den m = some r_), Go.Ab.Fn Tryz.prog 229 [.c ((iD cV)), .c ((iD num)), .c ((iD den)), .c ((iD m))] (.tup [.c (.d (iD r_.1)), .c (.d (iD r_.2))]) []) ∧ (∀ (fu : Nat) (nV : Int) (dV : Int) (m : Int) (r_ : (Int × Int)) (H : m_money_DivRound fu nV dV m = some r_), Go.Ab.Fn Tryz.prog 212 [.c ((iD nV)), .c ((iD dV)), .c ((iD m))] (.tup [.c (.d (iD r_.1)), .c (.d (iD r_.2))]) []) ∧ (∀ (fu : Nat) (num : Int) (den : Int) (mode : Int) (r_ : (Int × Int)) (H : m_rate_FromRatio fu num den mode = some r_), Go.Ab.Fn Tryz.prog 77 [.c ((iD num)), .c ((iD den)), .c ((iD mode))] (.tup [.c (.d (iD r_.1)), .c (.d (iD r_.2))]) []) ∧ (∀ (fu : Nat) (y : Int) (r_ : Int) (H : m_date_daysInYear fu y = some r_), Go.Ab.Fn Tryz.prog 235 [.c ((iD y))] (.s (.c (.d (iD r_)))) []) ∧ (∀ (fu : Nat) (rV : MRow) (cV : Int) (r_ : (Int × Int × Bool)) (H : m_table_contribution fu rV cV = some r_), Go.Ab.Fn Tryz.prog 217 [.agg (cRow rV), .c ((iD cV))] (.tup [.c (.d (iD r_.1)), .c (.d (iD r_.2.1)), .c (.d (.bool r_.2.2))]) []) := by
 refine ⟨fun fu a b limit r_ H => ?_, fun fu cV num den m r_ H => ?_, fun fu nV dV m r_ H => ?_, fun fu num den mode r_ H => ?_, fun fu y r_ H => ?_, fun fu rV cV r_ H => ?_⟩
 all_goals first
  | (refine Go.Ab.Fn.intro htab hm Tryz.func209 rfl Tryz.call209 (by kernel_rfl) 32 Tryz.ntmps209 rfl (fun hr => ?_); unfold m_eval_product at H)
  | (refine Go.Ab.Fn.intro htab hm Tryz.func229 rfl Tryz.call229 (by kernel_rfl) 78 Tryz.ntmps229 rfl (fun hr => ?_); unfold m_money_MulDiv at H)
  | (refine Go.Ab.Fn.intro htab hm Tryz.func212 rfl Tryz.call212 (by kernel_rfl) 48 Tryz.ntmps212 rfl (fun hr => ?_); unfold m_money_DivRound at H)
  | (refine Go.Ab.Fn.intro htab hm Tryz.func77 rfl Tryz.call77 (by kernel_rfl) 67 Tryz.ntmps77 rfl (fun hr => ?_); unfold m_rate_FromRatio at H)
  | (refine Go.Ab.Fn.intro htab hm Tryz.func235 rfl Tryz.call235 (by kernel_rfl) 5 Tryz.ntmps235 rfl (fun hr => ?_); unfold m_date_daysInYear at H)
  | (refine Go.Ab.Fn.intro htab hm Tryz.func217 rfl Tryz.call217 (by kernel_rfl) 64 Tryz.ntmps217 rfl (fun hr => ?_); unfold m_table_contribution at H)
 all_goals conv => whnf
 repeat' first
  | (refine leafI ?_; obtain rfl := Option.some.inj H; (repeat' (first | exact trivial | rfl | refine And.intro ?_ ?_ | (show D.bool _ = D.bool _; simp [*]; done))); done)
  | (refine RegP_intro _ [] ?_; conv => whnf)
  | (refine cK (by with_reducible assumption) (fun q => ?_); (first | with_reducible replace H := hK q H | rw [q] at H | skip); conv => whnf)
  | (refine cBif H (by with_reducible rfl) ?_ ?_ <;> clear H <;> intro q H <;> conv => whnf)
  | (refine condP_intro ?_ ?_ <;> intro q <;> (try rw [q] at H) <;> conv => whnf)
  | (refine eNz H ?_; clear H; intro H; conv => whnf)
  | (refine eCall H (gg_6.2.2.2.1 fu _) (fun _ => .inl rfl) ?_; clear H; intro _ H; conv => whnf)
  | (refine eCall H (gg_6.2.2.2.2.1 fu _) (fun _ => .inl rfl) ?_; clear H; intro _ H; conv => whnf)
  | (refine eCall H (gg_6.2.2.2.2.2 fu _) (fun _ => .inl rfl) ?_; clear H; intro _ H; conv => whnf)
  | (refine eCall H (gg_7.2.2.2.1 fu _) (fun _ => .inl rfl) ?_; clear H; intro _ H; conv => whnf)
  | (refine eCall H (gg_7.2.2.2.2.1 fu _ _) (fun _ => .inl rfl) ?_; clear H; intro _ H; conv => whnf)
  | (refine eCall H (gg_7.2.2.2.2.2 fu _) (fun _ => .inl rfl) ?_; clear H; intro _ H; conv => whnf)
  | (refine eCall H (gc_bits_Mul64 fu _ _) (fun _ => .inl rfl) ?_; clear H; intro _ H; conv => whnf)
  | (refine eCall H (gg_7.1 fu _ _ _) (fun _ => .inl rfl) ?_; clear H; intro _ H; conv => whnf)
  | (refine eCall H (gg_7.2.1 fu _ _ _ _ _) (fun _ => .inl rfl) ?_; clear H; intro _ H; conv => whnf)
  | (refine eCall H (gg_7.2.2.1 fu _ _) (fun _ => .inl rfl) ?_; clear H; intro _ H; conv => whnf)
  | (refine eCall H (gg_8.1 fu _ _ _ _ _) (fun _ => .inl rfl) ?_; clear H; intro _ H; conv => whnf)
  | (refine eCall H (gg_8.2.2.1 fu _) (fun _ => .inl rfl) ?_; clear H; intro _ H; conv => whnf)
theorem gg_17 : (∀ (fu : Nat) (s : (List MScope)) (cap : BA) (r_ : Int) (H : m_slices_IndexFunc_Scope_106 fu s cap = some r_), Go.Ab.Fn Tryz.prog 105 [.c ((.slice 5 (List.map cScope s))), .c (.clos 106 [(.ptr (cStr cap) 0)])] (.s (.c (.d (iD r_)))) []) ∧ (∀ (fu : Nat) (s : (List MRule)) (cap : BA) (r_ : Int) (H : m_slices_IndexFunc_Rule_108 fu s cap = some r_), Go.Ab.Fn Tryz.prog 107 [.c ((.slice 9 (List.map cRule s))), .c (.clos 108 [(.ptr (cStr cap) 0)])] (.s (.c (.d (iD r_)))) []) ∧ (∀ (fu : Nat) (s : (List MRule)) (cap : BA) (r_ : Int) (H : m_slices_IndexFunc_Rule_109 fu s cap = some r_), Go.Ab.Fn Tryz.prog 107 [.c ((.slice 9 (List.map cRule s))), .c (.clos 109 [(.ptr (cStr cap) 0)])] (.s (.c (.d (iD r_)))) []) ∧ (∀ (fu : Nat) (l : MLaw) (r_ : Bool) (H : m_same_SmallLaw fu l = some r_), Go.Ab.Fn Tryz.prog 16 [.agg (cLaw l)] (.s (.c (.d (.bool r_)))) []) ∧ (∀ (fu : Nat) (rV : MKeyRange) (step : Int) (r_ : Bool) (H : m_law60_few fu rV step = some r_), Go.Ab.Fn Tryz.prog 18 [.agg (cKeyRange rV), .c ((iD step))] (.s (.c (.d (.bool r_)))) []) := by
 refine ⟨fun fu s cap r_ H => ?_, fun fu s cap r_ H => ?_, fun fu s cap r_ H => ?_, fun fu l r_ H => ?_, fun fu rV step r_ H => ?_⟩
 all_goals first
  | (refine Go.Ab.Fn.intro htab hm Tryz.func105 rfl Tryz.call105 (by kernel_rfl) 19 Tryz.ntmps105 rfl (fun hr => ?_); unfold m_slices_IndexFunc_Scope_106 at H)
  | (refine Go.Ab.Fn.intro htab hm Tryz.func107 rfl Tryz.call107 (by kernel_rfl) 19 Tryz.ntmps107 rfl (fun hr => ?_); unfold m_slices_IndexFunc_Rule_108 at H)
  | (refine Go.Ab.Fn.intro htab hm Tryz.func107 rfl Tryz.call107 (by kernel_rfl) 19 Tryz.ntmps107 rfl (fun hr => ?_); unfold m_slices_IndexFunc_Rule_109 at H)
  | (refine Go.Ab.Fn.intro htab hm Tryz.func16 rfl Tryz.call16 (by kernel_rfl) 127 Tryz.ntmps16 rfl (fun hr => ?_); unfold m_same_SmallLaw at H)
  | (refine Go.Ab.Fn.intro htab hm Tryz.func18 rfl Tryz.call18 (by kernel_rfl) 38 Tryz.ntmps18 rfl (fun hr => ?_); unfold m_law60_few at H)
 all_goals conv => whnf
 repeat' first
  | (refine leafI ?_; obtain rfl := Option.some.inj H; (repeat' (first | exact trivial | rfl | refine And.intro ?_ ?_ | (show D.bool _ = D.bool _; simp [*]; done))); done)
  | (refine cK (by with_reducible assumption) (fun q => ?_); (first | with_reducible replace H := hK q H | rw [q] at H | skip); conv => whnf)
  | (refine cBif H (by with_reducible rfl) ?_ ?_ <;> clear H <;> intro q H <;> conv => whnf)
  | (refine condP_intro ?_ ?_ <;> intro q <;> (try rw [q] at H) <;> conv => whnf)
  | (replace H := cnt_some H; obtain ⟨_, H⟩ := H)
  | (refine eIx H ?_; clear H; intro _ _ H; conv => whnf)
  | (refine eCall H (gg_9.1 fu _ _) (fun _ => .inl rfl) ?_; clear H; intro _ H; conv => whnf)
  | (refine eLoop (m_slices_IndexFunc_Scope_106_L1 _ _ _ _) [0, 1, 7] [] (fun t8_1 => [(8, vDc (iD (nI t8_1)))]) (fun t8_1 => []) H (by refine Le.sub rfl ?_ ?_; (repeat' (first | exact trivial | rfl | exact inc64' (by assumption) | refine And.intro ?_ ?_ | (show D.bool _ = D.bool _; simp [*]; done)))) ?_; clear H; intro n x H; obtain _ | n := n; rw [m_slices_IndexFunc_Scope_106_L1] at H; cases H; rw [m_slices_IndexFunc_Scope_106_L1] at H; conv => whnf)
  | (refine eCall H (gg_9.2.1 fu _ _) (fun _ => .inl rfl) ?_; clear H; intro _ H; conv => whnf)
  | (refine eLoop (m_slices_IndexFunc_Rule_108_L1 _ _ _ _) [0, 1, 7] [] (fun t8_1 => [(8, vDc (iD (nI t8_1)))]) (fun t8_1 => []) H (by refine Le.sub rfl ?_ ?_; (repeat' (first | exact trivial | rfl | exact inc64' (by assumption) | refine And.intro ?_ ?_ | (show D.bool _ = D.bool _; simp [*]; done)))) ?_; clear H; intro n x H; obtain _ | n := n; rw [m_slices_IndexFunc_Rule_108_L1] at H; cases H; rw [m_slices_IndexFunc_Rule_108_L1] at H; conv => whnf)
  | (refine eCall H (gg_9.2.2.2.1 fu _ _) (fun _ => .inl rfl) ?_; clear H; intro _ H; conv => whnf)
  | (refine eLoop (m_slices_IndexFunc_Rule_109_L1 _ _ _ _) [0, 1, 7] [] (fun t8_1 => [(8, vDc (iD (nI t8_1)))]) (fun t8_1 => []) H (by refine Le.sub rfl ?_ ?_; (repeat' (first | exact trivial | rfl | exact inc64' (by assumption) | refine And.intro ?_ ?_ | (show D.bool _ = D.bool _; simp [*]; done)))) ?_; clear H; intro n x H; obtain _ | n := n; rw [m_slices_IndexFunc_Rule_109_L1] at H; cases H; rw [m_slices_IndexFunc_Rule_109_L1] at H; conv => whnf)
  | (refine eCall H (gg_9.2.2.2.2.2 fu _) (fun _ => .inl rfl) ?_; clear H; intro _ H; conv => whnf)
  | (refine eLoop (m_same_SmallLaw_L2 _ _ _) [1, 3, 4, 5, 41, 42, 43, 44, 45, 46, 47, 48] [8] (fun k_5 => [(6, vDc (iD (nI k_5)))]) (fun k_5 => []) H (by refine Le.sub rfl ?_ ?_; (repeat' (first | exact trivial | rfl | exact inc64' (by assumption) | refine And.intro ?_ ?_ | (show D.bool _ = D.bool _; simp [*]; done)))) ?_; clear H; intro n x H; obtain _ | n := n; rw [m_same_SmallLaw_L2] at H; cases H; rw [m_same_SmallLaw_L2] at H; conv => whnf)
  | (refine ⟨(_, _), H, ?_, Nat.lt_succ_self _⟩; refine Le.sub rfl ?_ ?_; (repeat' (first | exact trivial | rfl | exact inc64' (by assumption) | refine And.intro ?_ ?_ | (show D.bool _ = D.bool _; simp [*]; done))); done)
  | (refine eLoop (m_same_SmallLaw_L4 _ _ _) [1] [8] (fun (rules_18, i_19) => [(4, vDc (iD rules_18)), (8, vDc (iD (nI i_19)))]) (fun (rules_18, i_19) => []) H (by refine Le.sub rfl ?_ ?_; (repeat' (first | exact trivial | rfl | exact inc64' (by assumption) | refine And.intro ?_ ?_ | (show D.bool _ = D.bool _; simp [*]; done)))) ?_; clear H; intro n x H; obtain _ | n := n; rw [m_same_SmallLaw_L4] at H; cases H; obtain ⟨_, _⟩ := x; rw [m_same_SmallLaw_L4] at H; conv => whnf)
  | (refine eLoop (m_same_SmallLaw_L3 _ _) [1, 4] [8] (fun (rows_12, i_13) => [(3, vDc (iD rows_12)), (7, vDc (iD (nI i_13)))]) (fun (rows_12, i_13) => []) H (by refine Le.sub rfl ?_ ?_; (repeat' (first | exact trivial | rfl | exact inc64' (by assumption) | refine And.intro ?_ ?_ | (show D.bool _ = D.bool _; simp [*]; done)))) ?_; clear H; intro n x H; obtain _ | n := n; rw [m_same_SmallLaw_L3] at H; cases H; obtain ⟨_, _⟩ := x; rw [m_same_SmallLaw_L3] at H; conv => whnf)
  | (refine eLoop (m_same_SmallLaw_L1 _ _ _) [1, 3, 4] [8] (fun i_1 => [(5, vDc (iD (nI i_1)))]) (fun i_1 => []) H (by refine Le.sub rfl ?_ ?_; (repeat' (first | exact trivial | rfl | exact inc64' (by assumption) | refine And.intro ?_ ?_ | (show D.bool _ = D.bool _; simp [*]; done)))) ?_; clear H; intro n x H; obtain _ | n := n; rw [m_same_SmallLaw_L1] at H; cases H; rw [m_same_SmallLaw_L1] at H; conv => whnf)
  | (refine eCall H (gg_10.2.1 fu _ _) (fun _ => .inl rfl) ?_; clear H; intro _ H; conv => whnf)
theorem gc_deps_Direct (fu : Nat) (s : MScope) (defV : Int) (r_ : (List Int)) (H : m_deps_Direct fu s defV = some r_) : Go.Ab.Fn Tryz.prog 53 [.agg (cScope s), .c ((iD defV))] (.s (.c (.own 0 1))) [(0, .row 3 1 (List.map cInt r_))] := by
 refine Go.Ab.Fn.intro htab hm Tryz.func53 rfl Tryz.call53 (by kernel_rfl) 66 Tryz.ntmps53 rfl (fun hr => ?_)
 unfold m_deps_Direct at H
 conv => whnf
 repeat' first
  | (refine leafI ?_; obtain rfl := Option.some.inj H; (repeat' (first | exact trivial | rfl | refine And.intro ?_ ?_ | (show D.bool _ = D.bool _; simp [*]; done))); done)
  | (refine eIo (f := (cSlc 2 cNode)) H ?_; clear H; intro _ _ H; conv => whnf)
  | (refine cK (by with_reducible assumption) (fun q => ?_); (first | with_reducible replace H := hK q H | rw [q] at H | skip); conv => whnf)
  | (refine cBif H rfl ?_ ?_ <;> clear H <;> intro q H <;> conv => whnf)
  | (refine condP_intro ?_ ?_ <;> intro q <;> (try rw [q] at H) <;> conv => whnf)
  | (replace H := cnt_some H; obtain ⟨_, H⟩ := H)
  | (refine eIx H ?_; clear H; intro _ _ H; conv => whnf)
  | (refine eIo H ?_; clear H; intro _ _ H; conv => whnf)
  | (refine eRd (by assumption) ?_; conv => whnf)
  | (refine eAp (f := cInt) H rfl rfl (by decide) ?_; clear H; intro _ H; conv => whnf)
  | (refine eCall H (gg_3.2.2.2.1 fu _ _) (fun _ => .inl rfl) ?_; clear H; intro _ H; conv => whnf)
  | (refine eCall H (gg_13.2.2.2.2.2 fu _) (fun _ => .inl rfl) ?_; clear H; intro _ H; conv => whnf)
  | (refine Or.inr ⟨[], ?_⟩; (conv => whnf); refine eCallH H (gc_slices_Sort_int fu _) ?_; clear H; intro _ H; (conv => whnf); refine And.intro ?_ ?_; (focus ((repeat' (first | exact trivial | rfl | refine And.intro ?_ ?_)); done)); conv => whnf)
  | (refine Or.inr ⟨[], ?_⟩; (conv => whnf); refine eCallH H (gc_slices_Compact_int fu _) ?_; clear H; intro _ H; (conv => whnf); refine And.intro ?_ ?_; (focus ((repeat' (first | exact trivial | rfl | refine And.intro ?_ ?_)); done)); conv => whnf)
  | (refine eLoop (m_deps_Direct_L3 _ _ _ _) [1, 2, 20, 21, 22, 34, 35, 36, 46, 47] [16, 272, 337] (fun (out_11, t48_12) => [(5, .s (.c (.own 160040 1))), (48, vDc (iD (nI t48_12)))]) (fun (out_11, t48_12) => [(160040, .row 3 1 (List.map cInt out_11))]) H (by refine Le.sub rfl ?_ ?_; (repeat' (first | exact trivial | rfl | exact inc64' (by assumption) | refine And.intro ?_ ?_ | (show D.bool _ = D.bool _; simp [*]; done)))) ?_; clear H; intro n x H; obtain _ | n := n; rw [m_deps_Direct_L3] at H; cases H; obtain ⟨_, _⟩ := x; rw [m_deps_Direct_L3] at H; conv => whnf)
  | (refine ⟨(_, _), H, ?_, Nat.lt_succ_self _⟩; refine Le.sub rfl ?_ ?_; (repeat' (first | exact trivial | rfl | exact inc64' (by assumption) | refine And.intro ?_ ?_ | (show D.bool _ = D.bool _; simp [*]; done))); done)
  | (refine eLoop (m_deps_Direct_L2 _ _ _ _) [1, 2, 20, 21, 22, 34, 35] [16, 272] (fun (out_6, t36_7) => [(5, .s (.c (.own 160040 1))), (36, vDc (iD (nI t36_7)))]) (fun (out_6, t36_7) => [(160040, .row 3 1 (List.map cInt out_6))]) H (by refine Le.sub rfl ?_ ?_; (repeat' (first | exact trivial | rfl | exact inc64' (by assumption) | refine And.intro ?_ ?_ | (show D.bool _ = D.bool _; simp [*]; done)))) ?_; clear H; intro n x H; obtain _ | n := n; rw [m_deps_Direct_L2] at H; cases H; obtain ⟨_, _⟩ := x; rw [m_deps_Direct_L2] at H; conv => whnf)
  | (refine eLoop (m_deps_Direct_L1 _ _ _ _) [1, 2, 20, 21] [16] (fun (out_2, t22_3) => [(5, .s (.c (.own 160040 1))), (22, vDc (iD (nI t22_3)))]) (fun (out_2, t22_3) => [(160040, .row 3 1 (List.map cInt out_2))]) H (by refine Le.sub rfl ?_ ?_; (repeat' (first | exact trivial | rfl | exact inc64' (by assumption) | refine And.intro ?_ ?_ | (show D.bool _ = D.bool _; simp [*]; done)))) ?_; clear H; intro n x H; obtain _ | n := n; rw [m_deps_Direct_L1] at H; cases H; obtain ⟨_, _⟩ := x; rw [m_deps_Direct_L1] at H; conv => whnf)
  | (refine eRd (f := (cSlc 2 cNode)) (by assumption) ?_; conv => whnf)
theorem gc_law_Clone (fu : Nat) (l : MLaw) (r_ : ((List MEnum) × (List MTable) × (List MScope))) (H : m_law_Clone fu l = some r_) : Go.Ab.Fn Tryz.prog 104 [.agg (cLaw l)] (.s (.agg ([.own 0 2] ++ [.own 1 6] ++ [.own 2 5]))) [(0, .row 117 2 (List.map cEnum r_.1)), (1, .row 120 6 (List.map cTable r_.2.1)), (2, .row 77 5 (List.map cScope r_.2.2))] := by
 refine Go.Ab.Fn.intro htab hm Tryz.func104 rfl Tryz.call104 (by kernel_rfl) 61 Tryz.ntmps104 rfl (fun hr => ?_)
 unfold m_law_Clone at H
 conv => whnf
 repeat' first
  | (refine leafI ?_; obtain rfl := Option.some.inj H; (repeat' (first | exact trivial | rfl | refine And.intro ?_ ?_ | (show D.bool _ = D.bool _; simp [*]; done))); done)
  | (refine RegP_intro _ [] ?_; conv => whnf)
  | (refine cK (by with_reducible assumption) (fun q => ?_); (first | with_reducible replace H := hK q H | rw [q] at H | skip); conv => whnf)
  | (refine cBif H (by with_reducible rfl) ?_ ?_ <;> clear H <;> intro q H <;> conv => whnf)
  | (refine condP_intro ?_ ?_ <;> intro q <;> (try rw [q] at H) <;> conv => whnf)
  | (replace H := cnt_some H; obtain ⟨_, H⟩ := H)
  | (refine eIx H ?_; clear H; intro _ _ H; conv => whnf)
  | (refine eAp (f := cRule) H rfl rfl (by decide) ?_; clear H; intro _ H; conv => whnf)
  | (refine eAp (f := cScope) H rfl rfl (by decide) ?_; clear H; intro _ H; conv => whnf)
  | (refine eCall H (gg_12.2.2.2.2.1 fu _) (fun _ => .inl rfl) ?_; clear H; intro _ H; conv => whnf)
  | (refine eCall H (gg_12.2.2.2.2.2 fu _) (fun _ => .inl rfl) ?_; clear H; intro _ H; conv => whnf)
  | (refine eCall H (gc_slices_Clone_155 fu _) (fun _ => .inl rfl) ?_; clear H; intro _ H; conv => whnf)
  | (refine eCall H (gc_slices_Clone_156 fu _) (fun _ => .inl rfl) ?_; clear H; intro _ H; conv => whnf)
  | (refine eLoop (m_law_Clone_L2 _ _ _) [2, 3, 5, 17, 18, 19, 32, 33] [16, 24, 40, 88, 112, 240800] (fun (rules_9, t34_10) => [(6, .s (.c (.own 160048 9))), (34, vDc (iD (nI t34_10)))]) (fun (rules_9, t34_10) => [(160048, .row 138 9 (List.map cRule rules_9))]) H (by refine Le.sub rfl ?_ ?_; (repeat' (first | exact trivial | rfl | exact inc64' (by assumption) | refine And.intro ?_ ?_ | (show D.bool _ = D.bool _; simp [*]; done)))) ?_; clear H; intro n x H; obtain _ | n := n; rw [m_law_Clone_L2] at H; cases H; obtain ⟨_, _⟩ := x; rw [m_law_Clone_L2] at H; conv => whnf)
  | (refine ⟨(_, _), H, ?_, Nat.lt_succ_self _⟩; refine Le.sub rfl ?_ ?_; (repeat' (first | exact trivial | rfl | exact inc64' (by assumption) | refine And.intro ?_ ?_ | (show D.bool _ = D.bool _; simp [*]; done))); done)
  | (refine eLoopP (m_law_Clone_L1 _ _ _) [2, 3, 17, 18] [16, 88, 112] (fun (t19_3, lf_4) => [(19, vDc (iD (nI t19_3)))]) (fun (t19_3, lf_4) => [(240800, .row 77 5 (List.map cScope lf_4))]) (fun (t19_3, lf_4) => [(24, [(2, [.own 240800 5])])]) H (by refine Le.sub rfl ?_ ?_; (repeat' (first | exact trivial | rfl | exact inc64' (by assumption) | refine And.intro ?_ ?_ | (show D.bool _ = D.bool _; simp [*]; done)))) ?_; clear H; intro n x H; obtain _ | n := n; rw [m_law_Clone_L1] at H; cases H; obtain ⟨_, _⟩ := x; rw [m_law_Clone_L1] at H; conv => whnf)
  | (refine Or.inl ?_; conv => whnf)
theorem gc_ruletree_tree_outcome (fu : Nat) (t : MRuletreeTree) (atV : Int) (r_ : Int) (H : m_ruletree_tree_outcome fu t atV = some r_) : Go.Ab.Fn Tryz.prog 133 [.agg (cRuletreeTree t), .c ((iD atV))] (.s (.c (.d (iD r_)))) [] := (gr_ruletree_tree_outcome fu).1 t atV r_ H
theorem gc_ruletree_tree_contenders (fu : Nat) (t : MRuletreeTree) (atV : Int) (r_ : (List Int)) (H : m_ruletree_tree_contenders fu t atV = some r_) : Go.Ab.Fn Tryz.prog 178 [.agg (cRuletreeTree t), .c ((iD atV))] (.s (.c (.d (.slice 1 (List.map cInt r_))))) [] := (gr_ruletree_tree_outcome fu).2 t atV r_ H
theorem gc_lawdiff_counterpart (fu : Nat) (l : MLaw) (scope : BA) (ruleV : BA) (r_ : (MScope × MRule × Bool)) (H : m_lawdiff_counterpart fu l scope ruleV = some r_) : Go.Ab.Fn Tryz.prog 66 [.agg (cLaw l), .c ((.str scope)), .c ((.str ruleV))] (.tup [.agg (List.map C.d (cScope r_.1)), .agg (List.map C.d (cRule r_.2.1)), .c (.d (.bool r_.2.2))]) [] := by
 refine Go.Ab.Fn.intro htab hm Tryz.func66 rfl Tryz.call66 (by kernel_rfl) 39 Tryz.ntmps66 rfl (fun hr => ?_)
 unfold m_lawdiff_counterpart at H
 conv => whnf
 repeat' first
  | (refine leafI ?_; obtain rfl := Option.some.inj H; (repeat' (first | exact trivial | rfl | refine And.intro ?_ ?_ | (show D.bool _ = D.bool _; simp [*]; done))); done)
  | (refine RegP_intro _ [] ?_; conv => whnf)
  | (refine cK (by with_reducible assumption) (fun q => ?_); (first | with_reducible replace H := hK q H | rw [q] at H | skip); conv => whnf)
  | (refine cBif H (by with_reducible rfl) ?_ ?_ <;> clear H <;> intro q H <;> conv => whnf)
  | (refine condP_intro ?_ ?_ <;> intro q <;> (try rw [q] at H) <;> conv => whnf)
  | (refine eIx H ?_; clear H; intro _ _ H; conv => whnf)
  | (refine eCall H (gg_17.1 fu _ _) (fun _ => .inl rfl) ?_; clear H; intro _ H; conv => whnf)
  | (refine eCall H (gg_17.2.1 fu _ _) (fun _ => .inl rfl) ?_; clear H; intro _ H; conv => whnf)
  | (refine Or.inl ?_; conv => whnf)
theorem gc_impact_contains (fu : Nat) (s : MScope) (defs : (List Int)) (ruleV : BA) (r_ : Bool) (H : m_impact_contains fu s defs ruleV = some r_) : Go.Ab.Fn Tryz.prog 69 [.agg (cScope s), .c ((.slice 1 (List.map cInt defs))), .c ((.str ruleV))] (.s (.c (.d (.bool r_)))) [] := by
 refine Go.Ab.Fn.intro htab hm Tryz.func69 rfl Tryz.call69 (by kernel_rfl) 24 Tryz.ntmps69 rfl (fun hr => ?_)
 unfold m_impact_contains at H
 conv => whnf
 repeat' first
  | (refine leafI ?_; obtain rfl := Option.some.inj H; (repeat' (first | exact trivial | rfl | refine And.intro ?_ ?_ | (show D.bool _ = D.bool _; simp [*]; done))); done)
  | (refine cK (by with_reducible assumption) (fun q => ?_); (first | with_reducible replace H := hK q H | rw [q] at H | skip); conv => whnf)
  | (refine cBif H (by with_reducible rfl) ?_ ?_ <;> clear H <;> intro q H <;> conv => whnf)
  | (refine condP_intro ?_ ?_ <;> intro q <;> (try rw [q] at H) <;> conv => whnf)
  | (refine eIx H ?_; clear H; intro _ _ H; conv => whnf)
  | (refine eCall H (gg_17.2.2.1 fu _ _) (fun _ => .inl rfl) ?_; clear H; intro _ H; conv => whnf)
  | (refine eCall H (gg_14.1 fu _ _) (fun _ => .inl rfl) ?_; clear H; intro _ H; conv => whnf)
  | (refine Or.inl ?_; conv => whnf)
theorem gg_18 : (∀ (fu : Nat) (s : BA) (r_ : Int) (H : m_lexer_run_137 fu s = some r_), Go.Ab.Fn Tryz.prog 136 [.c ((.str s)), .c (.clos 137 [])] (.s (.c (.d (iD r_)))) []) ∧ (∀ (fu : Nat) (rV : MRow) (t : MTable) (enums : (List MEnum)) (r_ : Int) (H : m_table_check fu rV t enums = some r_), Go.Ab.Fn Tryz.prog 140 [.agg (cRow rV), .agg (cTable t), .c ((.slice 2 (List.map cEnum enums)))] (.s (.c (.d (iD r_)))) []) ∧ (∀ (fu : Nat) (a : MRange) (b : MRange) (r_ : (MRange × Bool)) (H : m_daterange_Intersect fu a b = some r_), Go.Ab.Fn Tryz.prog 181 [.agg (cRange a), .agg (cRange b)] (.tup [.agg (List.map C.d (cRange r_.1)), .c (.d (.bool r_.2))]) []) ∧ (∀ (fu : Nat) (l : MLaw) (scope : Int) (r_ : MSignature) (H : m_law_Signature fu l scope = some r_), Go.Ab.Fn Tryz.prog 95 [.agg (cLaw l), .c ((iD scope))] (.s (.agg (List.map C.d (cSignature r_)))) []) ∧ (∀ (fu : Nat) (nV : MNode) (r_ : Int) (H : m_expr_number fu nV = some r_), Go.Ab.Fn Tryz.prog 224 [.agg (cNode nV)] (.s (.c (.d (iD r_)))) []) ∧ (∀ (fu : Nat) (op : Int) (kind : Int) (r_ : Bool) (H : m_expr_aggregate fu op kind = some r_), Go.Ab.Fn Tryz.prog 244 [.c ((iD op)), .c ((iD kind))] (.s (.c (.d (.bool r_)))) []) := by
 refine ⟨fun fu s r_ H => ?_, fun fu rV t enums r_ H => ?_, fun fu a b r_ H => ?_, fun fu l scope r_ H => ?_, fun fu nV r_ H => ?_, fun fu op kind r_ H => ?_⟩
 all_goals first
  | (refine Go.Ab.Fn.intro htab hm Tryz.func136 rfl Tryz.call136 (by kernel_rfl) 20 Tryz.ntmps136 rfl (fun hr => ?_); unfold m_lexer_run_137 at H)
  | (refine Go.Ab.Fn.intro htab hm Tryz.func140 rfl Tryz.call140 (by kernel_rfl) 82 Tryz.ntmps140 rfl (fun hr => ?_); unfold m_table_check at H)
  | (refine Go.Ab.Fn.intro htab hm Tryz.func181 rfl Tryz.call181 (by kernel_rfl) 35 Tryz.ntmps181 rfl (fun hr => ?_); unfold m_daterange_Intersect at H)
  | (refine Go.Ab.Fn.intro htab hm Tryz.func95 rfl Tryz.call95 (by kernel_rfl) 50 Tryz.ntmps95 rfl (fun hr => ?_); unfold m_law_Signature at H)
  | (refine Go.Ab.Fn.intro htab hm Tryz.func224 rfl Tryz.call224 (by kernel_rfl) 67 Tryz.ntmps224 rfl (fun hr => ?_); unfold m_expr_number at H)
  | (refine Go.Ab.Fn.intro htab hm Tryz.func244 rfl Tryz.call244 (by kernel_rfl) 23 Tryz.ntmps244 rfl (fun hr => ?_); unfold m_expr_aggregate at H)
 all_goals conv => whnf
 repeat' first
  | (refine leafI ?_; obtain rfl := Option.some.inj H; (repeat' (first | exact trivial | rfl | refine And.intro ?_ ?_ | (show D.bool _ = D.bool _; simp [*]; done))); done)
  | (refine RegP_intro _ [] ?_; conv => whnf)
  | (refine cK (by with_reducible assumption) (fun q => ?_); (first | with_reducible replace H := hK q H | rw [q] at H | skip); conv => whnf)
  | (refine cBif H (by with_reducible rfl) ?_ ?_ <;> clear H <;> intro q H <;> conv => whnf)
  | (refine condP_intro ?_ ?_ <;> intro q <;> (try rw [q] at H) <;> conv => whnf)
  | (replace H := cnt_some H; obtain ⟨_, H⟩ := H)
  | (refine eStr H ?_; clear H; intro _ H; conv => whnf)
  | (refine eCall H (gg_12.1 fu _) (fun _ => .inl rfl) ?_; clear H; intro _ H; conv => whnf)
  | (refine eLoop (m_lexer_run_137_L1 _ _ _) [0, 1] [] (fun n_1 => [(5, vDc (iD (nI n_1)))]) (fun n_1 => []) H (by refine Le.sub rfl ?_ ?_; (repeat' (first | exact trivial | rfl | exact inc64' (by assumption) | refine And.intro ?_ ?_ | (show D.bool _ = D.bool _; simp [*]; done)))) ?_; clear H; intro n x H; obtain _ | n := n; rw [m_lexer_run_137_L1] at H; cases H; rw [m_lexer_run_137_L1] at H; conv => whnf)
  | (refine ⟨(_, _), H, ?_, Nat.lt_succ_self _⟩; refine Le.sub rfl ?_ ?_; (repeat' (first | exact trivial | rfl | exact inc64' (by assumption) | refine And.intro ?_ ?_ | (show D.bool _ = D.bool _; simp [*]; done))); done)
  | (refine ⟨by decide, ?_⟩; conv => whnf)
  | (refine eCall H (gg_13.2.2.1 fu _) (fun _ => .inl rfl) ?_; clear H; intro _ H; conv => whnf)
  | (refine eCall H (gg_12.2.2.1 fu _ _) (fun _ => .inl rfl) ?_; clear H; intro _ H; conv => whnf)
  | (refine eCall H (gg_1.2.1 fu _) (fun _ => .inl rfl) ?_; clear H; intro _ H; conv => whnf)
  | (refine eCall H (gg_12.2.2.2.1 fu _) (fun _ => .inl rfl) ?_; clear H; intro _ H; conv => whnf)
  | (refine eIx H ?_; clear H; intro _ _ H; conv => whnf)
  | (refine eCall H (gg_12.2.2.2.2.1 fu _) (fun _ => .inl rfl) ?_; clear H; intro _ H; conv => whnf)
  | (refine eCall H (gg_12.2.2.2.2.2 fu _) (fun _ => .inl rfl) ?_; clear H; intro _ H; conv => whnf)
  | (refine eCall H (gg_1.2.2.2.1 fu _) (fun _ => .inl rfl) ?_; clear H; intro _ H; conv => whnf)
  | (refine eCall H (gg_1.2.2.2.2.1 fu _ _) (fun _ => .inl rfl) ?_; clear H; intro _ H; conv => whnf)
  | (refine eCall H (gg_13.2.2.2.1 fu _) (fun _ => .inl rfl) ?_; clear H; intro _ H; conv => whnf)
theorem gg_19 : (∀ (fu : Nat) (op : Int) (l : (List MTy)) (r_ : MTy) (H : m_expr_result fu op l = some r_), Go.Ab.Fn Tryz.prog 227 [.c ((iD op)), .c ((.slice 2 (List.map cTy l)))] (.s (.agg (List.map C.d (cTy r_)))) []) ∧ (∀ (fu : Nat) (s1 : (List MRule)) (s2 : (List MRule)) (r_ : Bool) (H : m_slices_EqualFunc_Rule_154 fu s1 s2 = some r_), Go.Ab.Fn Tryz.prog 153 [.c ((.slice 9 (List.map cRule s1))), .c ((.slice 9 (List.map cRule s2))), .c (.clos 154 [])] (.s (.c (.d (.bool r_)))) []) ∧ (∀ (fu : Nat) (s1 : (List MEnum)) (s2 : (List MEnum)) (r_ : Bool) (H : m_slices_EqualFunc_Enum_99 fu s1 s2 = some r_), Go.Ab.Fn Tryz.prog 98 [.c ((.slice 2 (List.map cEnum s1))), .c ((.slice 2 (List.map cEnum s2))), .c (.clos 99 [])] (.s (.c (.d (.bool r_)))) []) ∧ (∀ (fu : Nat) (s1 : (List MTable)) (s2 : (List MTable)) (r_ : Bool) (H : m_slices_EqualFunc_Table_101 fu s1 s2 = some r_), Go.Ab.Fn Tryz.prog 100 [.c ((.slice 6 (List.map cTable s1))), .c ((.slice 6 (List.map cTable s2))), .c (.clos 101 [])] (.s (.c (.d (.bool r_)))) []) ∧ (∀ (fu : Nat) (l : (List MValue)) (inputs : (List MField)) (enums : (List MEnum)) (r_ : (Int × Int)) (H : m_casedata_match fu l inputs enums = some r_), Go.Ab.Fn Tryz.prog 111 [.c ((.slice 3 (List.map cValue l))), .c ((.slice 3 (List.map cField inputs))), .c ((.slice 2 (List.map cEnum enums)))] (.tup [.c (.d (iD r_.1)), .c (.d (iD r_.2))]) []) ∧ (∀ (fu : Nat) (s : (List Int)) (cap : (List Bool)) (r_ : Bool) (H : m_slices_ContainsFunc_int_158 fu s cap = some r_), Go.Ab.Fn Tryz.prog 157 [.c ((.slice 1 (List.map cInt s))), .c (.clos 158 [(.ptr ((cSlc 1 cBool) cap) 0)])] (.s (.c (.d (.bool r_)))) []) := by
 refine ⟨fun fu op l r_ H => ?_, fun fu s1 s2 r_ H => ?_, fun fu s1 s2 r_ H => ?_, fun fu s1 s2 r_ H => ?_, fun fu l inputs enums r_ H => ?_, fun fu s cap r_ H => ?_⟩
 all_goals first
  | (refine Go.Ab.Fn.intro htab hm Tryz.func227 rfl Tryz.call227 (by kernel_rfl) 156 Tryz.ntmps227 rfl (fun hr => ?_); unfold m_expr_result at H)
  | (refine Go.Ab.Fn.intro htab hm Tryz.func153 rfl Tryz.call153 (by kernel_rfl) 32 Tryz.ntmps153 rfl (fun hr => ?_); unfold m_slices_EqualFunc_Rule_154 at H)
  | (refine Go.Ab.Fn.intro htab hm Tryz.func98 rfl Tryz.call98 (by kernel_rfl) 32 Tryz.ntmps98 rfl (fun hr => ?_); unfold m_slices_EqualFunc_Enum_99 at H)
  | (refine Go.Ab.Fn.intro htab hm Tryz.func100 rfl Tryz.call100 (by kernel_rfl) 32 Tryz.ntmps100 rfl (fun hr => ?_); unfold m_slices_EqualFunc_Table_101 at H)
  | (refine Go.Ab.Fn.intro htab hm Tryz.func111 rfl Tryz.call111 (by kernel_rfl) 70 Tryz.ntmps111 rfl (fun hr => ?_); unfold m_casedata_match at H)
  | (refine Go.Ab.Fn.intro htab hm Tryz.func157 rfl Tryz.call157 (by kernel_rfl) 9 Tryz.ntmps157 rfl (fun hr => ?_); unfold m_slices_ContainsFunc_int_158 at H)
 all_goals conv => whnf
 repeat' first
  | (refine leafI ?_; obtain rfl := Option.some.inj H; (repeat' (first | exact trivial | rfl | refine And.intro ?_ ?_ | (show D.bool _ = D.bool _; simp [*]; done))); done)
  | (refine RegP_intro _ [] ?_; conv => whnf)
  | (refine cK (by with_reducible assumption) (fun q => ?_); (first | with_reducible replace H := hK q H | rw [q] at H | skip); conv => whnf)
  | (refine cBif H (by with_reducible rfl) ?_ ?_ <;> clear H <;> intro q H <;> conv => whnf)
  | (refine condP_intro ?_ ?_ <;> intro q <;> (try rw [q] at H) <;> conv => whnf)
  | (replace H := cnt_some H; obtain ⟨_, H⟩ := H)
  | (refine eIx H ?_; clear H; intro _ _ H; conv => whnf)
  | (refine eCall H (gg_2.2.2.2.2.2 fu _) (fun _ => .inl rfl) ?_; clear H; intro _ H; conv => whnf)
  | (refine eCall H (gg_3.2.1 fu _ _) (fun _ => .inl rfl) ?_; clear H; intro _ H; conv => whnf)
  | (refine eCall H (gg_3.2.2.1 fu _ _ _) (fun _ => .inl rfl) ?_; clear H; intro _ H; conv => whnf)
  | (refine eCall H (gg_13.2.2.2.1 fu _) (fun _ => .inl rfl) ?_; clear H; intro _ H; conv => whnf)
  | (refine eCall H (gg_14.2.2.2.1 fu _ _) (fun _ => .inl rfl) ?_; clear H; intro _ H; conv => whnf)
  | (refine eLoop (m_slices_EqualFunc_Rule_154_L1 _ _ _ _) [1, 15, 16, 2] [] (fun t17_1 => [(17, vDc (iD (nI t17_1)))]) (fun t17_1 => []) H (by refine Le.sub rfl ?_ ?_; (repeat' (first | exact trivial | rfl | exact inc64' (by assumption) | refine And.intro ?_ ?_ | (show D.bool _ = D.bool _; simp [*]; done)))) ?_; clear H; intro n x H; obtain _ | n := n; rw [m_slices_EqualFunc_Rule_154_L1] at H; cases H; rw [m_slices_EqualFunc_Rule_154_L1] at H; conv => whnf)
  | (refine eCall H (gg_14.2.1 fu _ _) (fun _ => .inl rfl) ?_; clear H; intro _ H; conv => whnf)
  | (refine eLoop (m_slices_EqualFunc_Enum_99_L1 _ _ _ _) [1, 15, 16, 2] [] (fun t17_1 => [(17, vDc (iD (nI t17_1)))]) (fun t17_1 => []) H (by refine Le.sub rfl ?_ ?_; (repeat' (first | exact trivial | rfl | exact inc64' (by assumption) | refine And.intro ?_ ?_ | (show D.bool _ = D.bool _; simp [*]; done)))) ?_; clear H; intro n x H; obtain _ | n := n; rw [m_slices_EqualFunc_Enum_99_L1] at H; cases H; rw [m_slices_EqualFunc_Enum_99_L1] at H; conv => whnf)
  | (refine eCall H (gg_14.2.2.1 fu _ _) (fun _ => .inl rfl) ?_; clear H; intro _ H; conv => whnf)
  | (refine eLoop (m_slices_EqualFunc_Table_101_L1 _ _ _ _) [1, 15, 16, 2] [] (fun t17_1 => [(17, vDc (iD (nI t17_1)))]) (fun t17_1 => []) H (by refine Le.sub rfl ?_ ?_; (repeat' (first | exact trivial | rfl | exact inc64' (by assumption) | refine And.intro ?_ ?_ | (show D.bool _ = D.bool _; simp [*]; done)))) ?_; clear H; intro n x H; obtain _ | n := n; rw [m_slices_EqualFunc_Table_101_L1] at H; cases H; rw [m_slices_EqualFunc_Table_101_L1] at H; conv => whnf)
  | (refine eCall H (gg_12.2.2.1 fu _ _) (fun _ => .inl rfl) ?_; clear H; intro _ H; conv => whnf)
  | (refine eLoop (m_casedata_match_L1 _ _ _ _ _) [1, 2, 27, 28] [] (fun t29_1 => [(29, vDc (iD (nI t29_1)))]) (fun t29_1 => []) H (by refine Le.sub rfl ?_ ?_; (repeat' (first | exact trivial | rfl | exact inc64' (by assumption) | refine And.intro ?_ ?_ | (show D.bool _ = D.bool _; simp [*]; done)))) ?_; clear H; intro n x H; obtain _ | n := n; rw [m_casedata_match_L1] at H; cases H; rw [m_casedata_match_L1] at H; conv => whnf)
  | (refine ⟨(_, _), H, ?_, Nat.lt_succ_self _⟩; refine Le.sub rfl ?_ ?_; (repeat' (first | exact trivial | rfl | exact inc64' (by assumption) | refine And.intro ?_ ?_ | (show D.bool _ = D.bool _; simp [*]; done))); done)
  | (refine eCall H (gg_14.2.2.2.2.2 fu _ _) (fun _ => .inl rfl) ?_; clear H; intro _ H; conv => whnf)
theorem gg_20 : (∀ (fu : Nat) (s : MScope) (defV : Int) (date : Int) (r_ : (List Int)) (H : m_effective_RulesOn fu s defV date = some r_), Go.Ab.Fn Tryz.prog 52 [.agg (cScope s), .c ((iD defV)), .c ((iD date))] (.s (.c (.own 0 1))) [(0, .row 3 1 (List.map cInt r_))]) ∧ (∀ (fu : Nat) (e : (List MNode)) (r_ : ((List Int) × Int)) (H : m_expr_Starts fu e = some r_), Go.Ab.Fn Tryz.prog 79 [.c ((.slice 2 (List.map cNode e)))] (.tup [.c (.own 0 1), .c (.d (iD r_.2))]) [(0, .row 3 1 (List.map cInt r_.1))]) ∧ (∀ (fu : Nat) (v : MValue) (t : MTy) (r_ : Bool) (H : m_eval_has fu v t = some r_), Go.Ab.Fn Tryz.prog 192 [.agg (cValue v), .agg (cTy t)] (.s (.c (.d (.bool r_)))) []) ∧ (∀ (fu : Nat) (op : Int) (t : MTy) (r_ : Bool) (H : m_eval_aggregate fu op t = some r_), Go.Ab.Fn Tryz.prog 193 [.c ((iD op)), .agg (cTy t)] (.s (.c (.d (.bool r_)))) []) ∧ (∀ (fu : Nat) (cV : Int) (rV : Int) (mode : Int) (r_ : (Int × Int)) (H : m_rate_Apply fu cV rV mode = some r_), Go.Ab.Fn Tryz.prog 210 [.c ((iD cV)), .c ((iD rV)), .c ((iD mode))] (.tup [.c (.d (iD r_.1)), .c (.d (iD r_.2))]) []) ∧ (∀ (fu : Nat) (a : Int) (b : Int) (mode : Int) (r_ : (Int × Int)) (H : m_rate_Mul fu a b mode = some r_), Go.Ab.Fn Tryz.prog 211 [.c ((iD a)), .c ((iD b)), .c ((iD mode))] (.tup [.c (.d (iD r_.1)), .c (.d (iD r_.2))]) []) := by
 refine ⟨fun fu s defV date r_ H => ?_, fun fu e r_ H => ?_, fun fu v t r_ H => ?_, fun fu op t r_ H => ?_, fun fu cV rV mode r_ H => ?_, fun fu a b mode r_ H => ?_⟩
 all_goals first
  | (refine Go.Ab.Fn.intro htab hm Tryz.func52 rfl Tryz.call52 (by kernel_rfl) 34 Tryz.ntmps52 rfl (fun hr => ?_); unfold m_effective_RulesOn at H)
  | (refine Go.Ab.Fn.intro htab hm Tryz.func79 rfl Tryz.call79 (by kernel_rfl) 15 Tryz.ntmps79 rfl (fun hr => ?_); unfold m_expr_Starts at H)
  | (refine Go.Ab.Fn.intro htab hm Tryz.func192 rfl Tryz.call192 (by kernel_rfl) 21 Tryz.ntmps192 rfl (fun hr => ?_); unfold m_eval_has at H)
  | (refine Go.Ab.Fn.intro htab hm Tryz.func193 rfl Tryz.call193 (by kernel_rfl) 27 Tryz.ntmps193 rfl (fun hr => ?_); unfold m_eval_aggregate at H)
  | (refine Go.Ab.Fn.intro htab hm Tryz.func210 rfl Tryz.call210 (by kernel_rfl) 14 Tryz.ntmps210 rfl (fun hr => ?_); unfold m_rate_Apply at H)
  | (refine Go.Ab.Fn.intro htab hm Tryz.func211 rfl Tryz.call211 (by kernel_rfl) 33 Tryz.ntmps211 rfl (fun hr => ?_); unfold m_rate_Mul at H)
 all_goals conv => whnf
 repeat' first
  | (refine leafI ?_; obtain rfl := Option.some.inj H; (repeat' (first | exact trivial | rfl | refine And.intro ?_ ?_ | (show D.bool _ = D.bool _; simp [*]; done))); done)
  | (refine cK (by with_reducible assumption) (fun q => ?_); (first | with_reducible replace H := hK q H | rw [q] at H | skip); conv => whnf)
  | (refine cBif H (by with_reducible rfl) ?_ ?_ <;> clear H <;> intro q H <;> conv => whnf)
  | (refine condP_intro ?_ ?_ <;> intro q <;> (try rw [q] at H) <;> conv => whnf)
  | (replace H := cnt_some H; obtain ⟨_, H⟩ := H)
  | (refine eIx H ?_; clear H; intro _ _ H; conv => whnf)
  | (refine eAp (f := cInt) H rfl rfl (by decide) ?_; clear H; intro _ H; conv => whnf)
  | (refine eCall H (gg_15.1 fu _ _) (fun _ => .inl rfl) ?_; clear H; intro _ H; conv => whnf)
  | (refine eLoop (m_effective_RulesOn_L1 _ _ _ _ _) [1, 2, 11, 12] [] (fun (out_1, t13_2) => [(7, .s (.c (.own 160056 1))), (13, vDc (iD (nI t13_2)))]) (fun (out_1, t13_2) => [(160056, .row 3 1 (List.map cInt out_1))]) H (by refine Le.sub rfl ?_ ?_; (repeat' (first | exact trivial | rfl | exact inc64' (by assumption) | refine And.intro ?_ ?_ | (show D.bool _ = D.bool _; simp [*]; done)))) ?_; clear H; intro n x H; obtain _ | n := n; rw [m_effective_RulesOn_L1] at H; cases H; obtain ⟨_, _⟩ := x; rw [m_effective_RulesOn_L1] at H; conv => whnf)
  | (refine ⟨(_, _), H, ?_, Nat.lt_succ_self _⟩; refine Le.sub rfl ?_ ?_; (repeat' (first | exact trivial | rfl | exact inc64' (by assumption) | refine And.intro ?_ ?_ | (show D.bool _ = D.bool _; simp [*]; done))); done)
  | (refine eCall H (gg_13.1 fu _) (fun _ => .inl rfl) ?_; clear H; intro _ H; conv => whnf)
  | (refine eCall H (gg_15.2.2.2.2.1 fu _) (fun _ => .inl rfl) ?_; clear H; intro _ H; conv => whnf)
  | (refine eCall H (gg_15.2.2.2.2.2 fu _) (fun _ => .inl rfl) ?_; clear H; intro _ H; conv => whnf)
  | (refine eCall H (gg_16.2.1 fu _ _ _ _) (fun _ => .inl rfl) ?_; clear H; intro _ H; conv => whnf)
  | (refine eCall H (gg_7.2.2.2.1 fu _) (fun _ => .inl rfl) ?_; clear H; intro _ H; conv => whnf)
  | (refine eCall H (gg_7.2.2.2.2.1 fu _ _) (fun _ => .inl rfl) ?_; clear H; intro _ H; conv => whnf)
  | (refine eCall H (gg_16.2.2.1 fu _ _ _) (fun _ => .inl rfl) ?_; clear H; intro _ H; conv => whnf)
end Go.Proofs.YtffnbobdkpebgaaGreat
