/- Contracts: the functions answer as their models, by my generator. -/
import Derived.Test.YtffnbobdkpebgaaGreatVzC2
set_option linter.unusedVariables false
set_option linter.unusedSimpArgs false
set_option maxRecDepth 100000
set_option maxHeartbeats 4000000
namespace Go.Proofs.YtffnbobdkpebgaaGreat
open Go Go.Ab
theorem gg_21 : (∀ (fu : Nat) (cV : Int) (unit : Int) (m : Int) (r_ : (Int × Int)) (H : m_money_RoundTo fu cV unit m = some r_), Go.Ab.Fn Tryz.prog 213 [.c ((iD cV)), .c ((iD unit)), .c ((iD m))] (.tup [.c (.d (iD r_.1)), .c (.d (iD r_.2))]) []) ∧ (∀ (fu : Nat) (date : Int) (r_ : (Int × Int × Int)) (H : m_date_ToYMD fu date = some r_), Go.Ab.Fn Tryz.prog 214 [.c ((iD date))] (.tup [.c (.d (iD r_.1)), .c (.d (iD r_.2.1)), .c (.d (iD r_.2.2))]) []) ∧ (∀ (fu : Nat) (y : Int) (m : Int) (dV : Int) (r_ : (Int × Int)) (H : m_date_FromYMD fu y m dV = some r_), Go.Ab.Fn Tryz.prog 237 [.c ((iD y)), .c ((iD m)), .c ((iD dV))] (.tup [.c (.d (iD r_.1)), .c (.d (iD r_.2))]) []) ∧ (∀ (fu : Nat) (t : MTable) (date : Int) (key : Int) (r_ : (Int × Bool)) (H : m_table_Lookup fu t date key = some r_), Go.Ab.Fn Tryz.prog 197 [.agg (cTable t), .c ((iD date)), .c ((iD key))] (.tup [.c (.d (iD r_.1)), .c (.d (.bool r_.2))]) []) ∧ (∀ (fu : Nat) (whole : Int) (parts : Int) (mode : Int) (r_ : Int) (H : m_table_rounding fu whole parts mode = some r_), Go.Ab.Fn Tryz.prog 218 [.c ((iD whole)), .c ((iD parts)), .c ((iD mode))] (.s (.c (.d (iD r_)))) []) ∧ (∀ (fu : Nat) (p : MGuerdonlaw52Pair) (cV : MCase) (r_ : Bool) (H : m_law52_small fu p cV = some r_), Go.Ab.Fn Tryz.prog 13 [.agg (cGuerdonlaw52Pair p), .agg (cCase cV)] (.s (.c (.d (.bool r_)))) []) := by
 refine ⟨fun fu cV unit m r_ H => ?_, fun fu date r_ H => ?_, fun fu y m dV r_ H => ?_, fun fu t date key r_ H => ?_, fun fu whole parts mode r_ H => ?_, fun fu p cV r_ H => ?_⟩
 all_goals first
  | (refine Go.Ab.Fn.intro htab hm Tryz.func213 rfl Tryz.call213 (by kernel_rfl) 42 Tryz.ntmps213 rfl (fun hr => ?_); unfold m_money_RoundTo at H)
  | (refine Go.Ab.Fn.intro htab hm Tryz.func214 rfl Tryz.call214 (by kernel_rfl) 36 Tryz.ntmps214 rfl (fun hr => ?_); unfold m_date_ToYMD at H)
  | (refine Go.Ab.Fn.intro htab hm Tryz.func237 rfl Tryz.call237 (by kernel_rfl) 54 Tryz.ntmps237 rfl (fun hr => ?_); unfold m_date_FromYMD at H)
  | (refine Go.Ab.Fn.intro htab hm Tryz.func197 rfl Tryz.call197 (by kernel_rfl) 36 Tryz.ntmps197 rfl (fun hr => ?_); unfold m_table_Lookup at H)
  | (refine Go.Ab.Fn.intro htab hm Tryz.func218 rfl Tryz.call218 (by kernel_rfl) 23 Tryz.ntmps218 rfl (fun hr => ?_); unfold m_table_rounding at H)
  | (refine Go.Ab.Fn.intro htab hm Tryz.func13 rfl Tryz.call13 (by kernel_rfl) 17 Tryz.ntmps13 rfl (fun hr => ?_); unfold m_law52_small at H)
 all_goals conv => whnf
 repeat' first
  | (refine leafI ?_; obtain rfl := Option.some.inj H; (repeat' (first | exact trivial | rfl | refine And.intro ?_ ?_ | (show D.bool _ = D.bool _; simp [*]; done))); done)
  | (refine cK (by with_reducible assumption) (fun q => ?_); (first | with_reducible replace H := hK q H | rw [q] at H | skip); conv => whnf)
  | (refine cBif H (by with_reducible rfl) ?_ ?_ <;> clear H <;> intro q H <;> conv => whnf)
  | (refine condP_intro ?_ ?_ <;> intro q <;> (try rw [q] at H) <;> conv => whnf)
  | (refine eCall H (gg_6.2.2.2.2.1 fu _) (fun _ => .inl rfl) ?_; clear H; intro _ H; conv => whnf)
  | (refine eCall H (gg_6.2.2.2.2.2 fu _) (fun _ => .inl rfl) ?_; clear H; intro _ H; conv => whnf)
  | (refine ⟨by decide, ?_⟩; conv => whnf)
  | (refine eCall H (gg_16.2.2.1 fu _ _ _) (fun _ => .inl rfl) ?_; clear H; intro _ H; conv => whnf)
  | (replace H := cnt_some H; obtain ⟨_, H⟩ := H)
  | (refine eCall H (gg_8.2.1 fu _) (fun _ => .inl rfl) ?_; clear H; intro _ H; conv => whnf)
  | (refine eCall H (gg_16.2.2.2.2.1 fu _) (fun _ => .inl rfl) ?_; clear H; intro _ H; conv => whnf)
  | (refine eCall H (gc_date_DaysInMonth fu _ _) (fun _ => .inl rfl) ?_; clear H; intro _ H; conv => whnf)
  | (refine eLoop (m_date_ToYMD_L2 _ _ _) [5] [] (fun (date_8, m_9) => [(0, vDc (iD date_8)), (6, vDc (iD (nI m_9)))]) (fun (date_8, m_9) => []) H (by refine Le.sub rfl ?_ ?_; (repeat' (first | exact trivial | rfl | exact inc64' (by assumption) | refine And.intro ?_ ?_ | (show D.bool _ = D.bool _; simp [*]; done)))) ?_; clear H; intro n x H; obtain _ | n := n; rw [m_date_ToYMD_L2] at H; cases H; obtain ⟨_, _⟩ := x; rw [m_date_ToYMD_L2] at H; conv => whnf)
  | (refine eLoop (m_date_FromYMD_L2 _ _ _ _) [0, 42] [] (fun (n_7, t43_8) => [(8, vDc (iD n_7)), (43, vDc (iD (nI t43_8)))]) (fun (n_7, t43_8) => []) H (by refine Le.sub rfl ?_ ?_; (repeat' (first | exact trivial | rfl | exact inc64' (by assumption) | refine And.intro ?_ ?_ | (show D.bool _ = D.bool _; simp [*]; done)))) ?_; clear H; intro n x H; obtain _ | n := n; rw [m_date_FromYMD_L2] at H; cases H; obtain ⟨_, _⟩ := x; rw [m_date_FromYMD_L2] at H; conv => whnf)
  | (refine eIx H ?_; clear H; intro _ _ H; conv => whnf)
  | (refine eCall H (gg_15.1 fu _ _) (fun _ => .inl rfl) ?_; clear H; intro _ H; conv => whnf)
  | (refine eLoop (m_table_Lookup_L1 _ _ _ _ _) [1, 2, 11, 12] [] (fun t13_1 => [(13, vDc (iD (nI t13_1)))]) (fun t13_1 => []) H (by refine Le.sub rfl ?_ ?_; (repeat' (first | exact trivial | rfl | exact inc64' (by assumption) | refine And.intro ?_ ?_ | (show D.bool _ = D.bool _; simp [*]; done)))) ?_; clear H; intro n x H; obtain _ | n := n; rw [m_table_Lookup_L1] at H; cases H; rw [m_table_Lookup_L1] at H; conv => whnf)
  | (refine ⟨(_, _), H, ?_, Nat.lt_succ_self _⟩; refine Le.sub rfl ?_ ?_; (repeat' (first | exact trivial | rfl | exact inc64' (by assumption) | refine And.intro ?_ ?_ | (show D.bool _ = D.bool _; simp [*]; done))); done)
  | (refine eLoop (m_date_ToYMD_L1 _ _) [6] [] (fun (date_2, y_3) => [(0, vDc (iD date_2)), (5, vDc (iD (nI y_3)))]) (fun (date_2, y_3) => []) H (by refine Le.sub rfl ?_ ?_; (repeat' (first | exact trivial | rfl | exact inc64' (by assumption) | refine And.intro ?_ ?_ | (show D.bool _ = D.bool _; simp [*]; done)))) ?_; clear H; intro n x H; obtain _ | n := n; rw [m_date_ToYMD_L1] at H; cases H; obtain ⟨_, _⟩ := x; rw [m_date_ToYMD_L1] at H; conv => whnf)
  | (refine eLoop (m_date_FromYMD_L1 _ _ _) [0, 1, 31] [] (fun (n_2, t32_3) => [(8, vDc (iD n_2)), (32, vDc (iD (nI t32_3)))]) (fun (n_2, t32_3) => []) H (by refine Le.sub rfl ?_ ?_; (repeat' (first | exact trivial | rfl | exact inc64' (by assumption) | refine And.intro ?_ ?_ | (show D.bool _ = D.bool _; simp [*]; done)))) ?_; clear H; intro n x H; obtain _ | n := n; rw [m_date_FromYMD_L1] at H; cases H; obtain ⟨_, _⟩ := x; rw [m_date_FromYMD_L1] at H; conv => whnf)
  | (refine eCall H (gg_17.2.2.2.1 fu _) (fun _ => .inl rfl) ?_; clear H; intro _ H; conv => whnf)
  | (refine eCall H (gg_10.1 fu _) (fun _ => .inl rfl) ?_; clear H; intro _ H; conv => whnf)
theorem gg_22 : (∀ (fu : Nat) (l : MLaw) (cV : MCase) (r_ : Bool) (H : m_law20_small fu l cV = some r_), Go.Ab.Fn Tryz.prog 22 [.agg (cLaw l), .agg (cCase cV)] (.s (.c (.d (.bool r_)))) []) ∧ (∀ (fu : Nat) (nV : Int) (t : MTy) (enums : (List MEnum)) (r_ : Bool) (H : m_value_within fu nV t enums = some r_), Go.Ab.Fn Tryz.prog 57 [.c ((iD nV)), .agg (cTy t), .c ((.slice 2 (List.map cEnum enums)))] (.s (.c (.d (.bool r_)))) []) := by
 refine ⟨fun fu l cV r_ H => ?_, fun fu nV t enums r_ H => ?_⟩
 all_goals first
  | (refine Go.Ab.Fn.intro htab hm Tryz.func22 rfl Tryz.call22 (by kernel_rfl) 11 Tryz.ntmps22 rfl (fun hr => ?_); unfold m_law20_small at H)
  | (refine Go.Ab.Fn.intro htab hm Tryz.func57 rfl Tryz.call57 (by kernel_rfl) 23 Tryz.ntmps57 rfl (fun hr => ?_); unfold m_value_within at H)
 all_goals conv => whnf
 repeat' first
  | (refine leafI ?_; obtain rfl := Option.some.inj H; (repeat' (first | exact trivial | rfl | refine And.intro ?_ ?_ | (show D.bool _ = D.bool _; simp [*]; done))); done)
  | (refine cK (by with_reducible assumption) (fun q => ?_); (first | with_reducible replace H := hK q H | rw [q] at H | skip); conv => whnf)
  | (refine cBif H (by with_reducible rfl) ?_ ?_ <;> clear H <;> intro q H <;> conv => whnf)
  | (refine condP_intro ?_ ?_ <;> intro q <;> (try rw [q] at H) <;> conv => whnf)
  | (refine eCall H (gg_17.2.2.2.1 fu _) (fun _ => .inl rfl) ?_; clear H; intro _ H; conv => whnf)
  | (refine eCall H (gg_10.1 fu _) (fun _ => .inl rfl) ?_; clear H; intro _ H; conv => whnf)
  | (refine eCall H (gg_12.2.2.1 fu _ _) (fun _ => .inl rfl) ?_; clear H; intro _ H; conv => whnf)
theorem gc_deps_Transitive (fu : Nat) (s : MScope) (defV : Int) (r_ : (List Int)) (H : m_deps_Transitive fu s defV = some r_) : Go.Ab.Fn Tryz.prog 74 [.agg (cScope s), .c ((iD defV))] (.s (.c (.own 0 1))) [(0, .row 3 1 (List.map cInt r_))] := by
 refine Go.Ab.Fn.intro htab hm Tryz.func74 rfl Tryz.call74 (by kernel_rfl) 59 Tryz.ntmps74 rfl (fun hr => ?_)
 unfold m_deps_Transitive at H
 conv => whnf
 repeat' first
  | (refine leafI ?_; obtain rfl := Option.some.inj H; (repeat' (first | exact trivial | rfl | refine And.intro ?_ ?_ | (show D.bool _ = D.bool _; simp [*]; done))); done)
  | (refine RegP_intro _ [] ?_; conv => whnf)
  | (refine cK (by with_reducible assumption) (fun q => ?_); (first | with_reducible replace H := hK q H | rw [q] at H | skip); conv => whnf)
  | (refine cBif H (by with_reducible rfl) ?_ ?_ <;> clear H <;> intro q H <;> conv => whnf)
  | (refine condP_intro ?_ ?_ <;> intro q <;> (try rw [q] at H) <;> conv => whnf)
  | (refine eMk (f := cBool) H rfl ?_; clear H; intro _ H; conv => whnf)
  | (refine eCall H (gg_3.2.2.2.1 fu _ _) (fun _ => .inl rfl) ?_; clear H; intro _ H; conv => whnf)
  | (refine eCall H (gc_deps_Direct fu _ _) (fun _ => .inl rfl) ?_; clear H; intro _ H; conv => whnf)
 rename_i xs v
 refine LoopP_le (Le.swap 160 6000000 _) ?_
 refine eLoop (x0 := (([], v, xs) : List (List D) × List Int × List Bool)) (fun n x => m_deps_Transitive_L1 fu s _ n (x.2.1, x.2.2)) [2, 5] [16] (fun (p, t, rw) => [(6, .s (.c (.sub 6000000 1 p.length t.length)))]) (fun (p, t, rw) => [(6000000, .row 3 1 (p ++ List.map cInt t)), (136, .row 4 1 (List.map cBool rw))]) H (by refine Le.sub rfl ?_ ?_; (repeat' (first | exact trivial | rfl | refine And.intro ?_ ?_ | (simp; done)))) ?_
 clear H; intro n x H; obtain ⟨p, t, rw_⟩ := x
 obtain _ | n := n
 · dsimp only at H; rw [m_deps_Transitive_L1] at H; cases H
 dsimp only at H; rw [m_deps_Transitive_L1] at H; conv => whnf
 rw [subL]
 refine cBif H (by with_reducible rfl) ?_ ?_ <;> clear H <;> intro q2 H <;> conv => whnf
 · repeat' first
    | (refine leafI ?_; obtain rfl := Option.some.inj H; (repeat' (first | exact trivial | rfl | refine And.intro ?_ ?_ | (show D.bool _ = D.bool _; simp [*]; done))); done)
    | (refine RegP_intro _ [] ?_; conv => whnf)
    | (refine cT2 (by with_reducible assumption) (fun q => ?_); (first | with_reducible replace H := hT q H | with_reducible replace H := hF q H | rw [q] at H | skip); conv => whnf)
    | (refine cF2 (by with_reducible assumption) (fun q => ?_); (first | with_reducible replace H := hT q H | with_reducible replace H := hF q H | rw [q] at H | skip); conv => whnf)
    | (refine cBif H (by with_reducible rfl) ?_ ?_ <;> clear H <;> intro q H <;> conv => whnf)
    | (refine eIoS H ?_; clear H; intro _ _ H; conv => whnf)
    | (refine eRdS (by assumption) ?_; conv => whnf)
    | (refine eIo H ?_; clear H; intro _ _ H; conv => whnf)
    | (refine eSt (f := cBool) (fun v x => v) _ (by assumption) (by (try dsimp only [cBool, MRule.fr, MRule.to, MRow.fr, MRow.to]); rfl) ?_; conv => whnf)
    | (refine eRd (by assumption) ?_; conv => whnf)
    | (refine eCall H (gc_deps_Direct fu _ _) (fun _ => .inl rfl) ?_; clear H; intro _ H; conv => whnf)
    | (refine eApS H rfl (subL _ _) rfl (by decide) ?_; clear H; intro _ _ _ H; conv => whnf)
    | (refine eSlS H rfl ?_; clear H; intro _ _ H; conv => whnf)
   · rename_i x _ _ _ _ _ _ _ _ _ dv zs pre hap ys hsl
     obtain rfl := tailL (ix_ap (by assumption : ix t 0 = some x) hap) hsl
     refine ⟨(_, (pre ++ [cInt x], ys, _)), H, ?_, Nat.lt_succ_self _⟩
     refine Le.sub rfl ?_ ?_; (repeat' (first | exact trivial | rfl | refine And.intro ?_ ?_ | (simp; done)))
   · rename_i x hx _ _ ys hsl
     obtain rfl := tailL hx hsl
     refine ⟨(_, (p ++ [cInt x], ys, _)), H, ?_, Nat.lt_succ_self _⟩
     refine Le.sub rfl ?_ ?_; (repeat' (first | exact trivial | rfl | refine And.intro ?_ ?_ | (simp; done)))
 · repeat' first
    | (refine leafI ?_; obtain rfl := Option.some.inj H; (repeat' (first | exact trivial | rfl | refine And.intro ?_ ?_ | (show D.bool _ = D.bool _; simp [*]; done))); done)
    | (refine RegP_intro _ [] ?_; conv => whnf)
    | (refine cT2 (by with_reducible assumption) (fun q => ?_); (first | with_reducible replace H := hT q H | with_reducible replace H := hF q H | rw [q] at H | skip); conv => whnf)
    | (refine cF2 (by with_reducible assumption) (fun q => ?_); (first | with_reducible replace H := hT q H | with_reducible replace H := hF q H | rw [q] at H | skip); conv => whnf)
    | (refine cBif H (by with_reducible rfl) ?_ ?_ <;> clear H <;> intro q H <;> conv => whnf)
    | (refine condP_intro ?_ ?_ <;> intro q <;> (try rw [q] at H) <;> conv => whnf)
    | (replace H := cnt_some H; obtain ⟨_, H⟩ := H)
    | (refine eIo H ?_; clear H; intro _ _ H; conv => whnf)
    | (refine eRd (by assumption) ?_; conv => whnf)
    | (refine eAp (f := cInt) H rfl rfl (by decide) ?_; clear H; intro _ H; conv => whnf)
    | (refine ⟨(_, _), H, ?_, Nat.lt_succ_self _⟩; refine Le.sub rfl ?_ ?_; (repeat' (first | exact trivial | rfl | exact inc64' (by assumption) | refine And.intro ?_ ?_ | (show D.bool _ = D.bool _; simp [*]; done))); done)
    | (refine eLoop (m_deps_Transitive_L2 _ _) [5, 45, 46] [136] (fun (o_, j_) => [(7, .s (.c (.own 240000 1))), (47, vDc (iD (nI j_)))]) (fun (o_, j_) => [(240000, .row 3 1 (List.map cInt o_))]) H (by refine Le.sub rfl ?_ ?_; (repeat' (first | exact trivial | rfl | exact inc64' (by assumption) | refine And.intro ?_ ?_ | (show D.bool _ = D.bool _; simp [*]; done)))) ?_; clear H; intro n x H; obtain _ | n := n; rw [m_deps_Transitive_L2] at H; cases H; obtain ⟨_, _⟩ := x; rw [m_deps_Transitive_L2] at H; conv => whnf)
theorem gc_deps_EvaluationOrder (fu : Nat) (s : MScope) (r_ : ((List Int) × Int)) (H : m_deps_EvaluationOrder fu s = some r_) : Go.Ab.Fn Tryz.prog 114 [.agg (cScope s)] (.tup [.c (.own 0 1), .c (.d (iD r_.2))]) [(0, .row 3 1 (List.map cInt r_.1))] := by
 refine Go.Ab.Fn.intro htab hm Tryz.func114 rfl Tryz.call114 (by kernel_rfl) 73 Tryz.ntmps114 rfl (fun hr => ?_)
 unfold m_deps_EvaluationOrder at H
 conv => whnf
 repeat' first
  | (refine leafI ?_; obtain rfl := Option.some.inj H; (repeat' (first | exact trivial | rfl | refine And.intro ?_ ?_ | (show D.bool _ = D.bool _; simp [*]; done))); done)
  | (refine cK (by with_reducible assumption) (fun q => ?_); (first | with_reducible replace H := hK q H | rw [q] at H | skip); conv => whnf)
  | (refine cBif H (by with_reducible rfl) ?_ ?_ <;> clear H <;> intro q H <;> conv => whnf)
  | (refine condP_intro ?_ ?_ <;> intro q <;> (try rw [q] at H) <;> conv => whnf)
  | (replace H := cnt_some H; obtain ⟨_, H⟩ := H)
  | (refine eIo H ?_; clear H; intro _ _ H; conv => whnf)
  | (refine eSt (f := (cSlc 1 cInt)) (fun v x => v) _ (by assumption) (by (try dsimp only [MRule.fr, MRule.to, MRow.fr, MRow.to]); rfl) ?_; conv => whnf)
  | (refine eSt (f := cBool) (fun v x => v) _ (by assumption) (by (try dsimp only [cBool, MRule.fr, MRule.to, MRow.fr, MRow.to]); rfl) ?_; conv => whnf)
  | (refine eRd (by assumption) ?_; conv => whnf)
  | (refine eMk (f := (cSlc 1 cInt)) H rfl ?_; clear H; intro _ H; conv => whnf)
  | (refine eMk (f := cBool) H rfl ?_; clear H; intro _ H; conv => whnf)
  | (refine eAp (f := cInt) H rfl rfl (by decide) ?_; clear H; intro _ H; conv => whnf)
  | (refine eCall H (gc_deps_Direct fu _ _) (fun _ => .inl rfl) ?_; clear H; intro _ H; conv => whnf)
  | (refine Or.inl (Or.inl ?_); (conv => whnf); refine eCall H (gg_19.2.2.2.2.2 fu _ _) (fun _ => .inr ⟨rfl, rfl⟩) ?_; clear H; intro _ H; conv => whnf)
  | (refine eLoop (m_deps_EvaluationOrder_L3 _ _ _ _ _) [1, 4, 6, 7, 39] [8, 48, 104, 240, 160056] (fun (next_12, t40_13) => [(8, vDc (iD next_12)), (40, vDc (iD (nI t40_13)))]) (fun (next_12, t40_13) => []) H (by refine Le.sub rfl ?_ ?_; (repeat' (first | exact trivial | rfl | exact inc64' (by assumption) | refine And.intro ?_ ?_ | (show D.bool _ = D.bool _; simp [*]; done)))) ?_; clear H; intro n x H; obtain _ | n := n; rw [m_deps_EvaluationOrder_L3] at H; cases H; obtain ⟨_, _⟩ := x; rw [m_deps_EvaluationOrder_L3] at H; conv => whnf)
  | (refine ⟨(_, _), H, ?_, Nat.lt_succ_self _⟩; refine Le.sub rfl ?_ ?_; (repeat' (first | exact trivial | rfl | exact inc64' (by assumption) | refine And.intro ?_ ?_ | (show D.bool _ = D.bool _; simp [*]; done))); done)
  | (refine eLoop (m_deps_EvaluationOrder_L2 _ _ _ _) [1, 4, 6] [8, 48, 104] (fun (out_9, rw_10) => [(7, .s (.c (.own 160056 1)))]) (fun (out_9, rw_10) => [(160056, .row 3 1 (List.map cInt out_9)), (240, .row 4 1 (List.map cBool rw_10))]) H (by refine Le.sub rfl ?_ ?_; (repeat' (first | exact trivial | rfl | exact inc64' (by assumption) | refine And.intro ?_ ?_ | (show D.bool _ = D.bool _; simp [*]; done)))) ?_; clear H; intro n x H; obtain _ | n := n; rw [m_deps_EvaluationOrder_L2] at H; cases H; obtain ⟨_, _⟩ := x; rw [m_deps_EvaluationOrder_L2] at H; conv => whnf)
  | (refine eLoop (m_deps_EvaluationOrder_L1 _ _ _) [1, 4, 16] [8] (fun (t17_2, rw_3) => [(17, vDc (iD (nI t17_2)))]) (fun (t17_2, rw_3) => [(104, .row 68 1 (List.map (cSlc 1 cInt) rw_3))]) H (by refine Le.sub rfl ?_ ?_; (repeat' (first | exact trivial | rfl | exact inc64' (by assumption) | refine And.intro ?_ ?_ | (show D.bool _ = D.bool _; simp [*]; done)))) ?_; clear H; intro n x H; obtain _ | n := n; rw [m_deps_EvaluationOrder_L1] at H; cases H; obtain ⟨_, _⟩ := x; rw [m_deps_EvaluationOrder_L1] at H; conv => whnf)
  | (refine Or.inr ?_; conv => whnf)
theorem gc_effective_TreeOn (fu : Nat) (s : MScope) (defV : Int) (date : Int) (r_ : ((List Int) × (List Int) × (List Int))) (H : m_effective_TreeOn fu s defV date = some r_) : Go.Ab.Fn Tryz.prog 86 [.agg (cScope s), .c ((iD defV)), .c ((iD date))] (.tup [.c (.d (.slice 1 (List.map cInt r_.1))), .c (.own 0 1), .c (.own 1 1)]) [(0, .row 3 1 (List.map cInt r_.2.1)), (1, .row 3 1 (List.map cInt r_.2.2))] := by
 refine Go.Ab.Fn.intro htab hm Tryz.func86 rfl Tryz.call86 (by kernel_rfl) 44 Tryz.ntmps86 rfl (fun hr => ?_)
 unfold m_effective_TreeOn at H
 conv => whnf
 repeat' first
  | (refine leafI ?_; obtain rfl := Option.some.inj H; (repeat' (first | exact trivial | rfl | refine And.intro ?_ ?_ | (show D.bool _ = D.bool _; simp [*]; done))); done)
  | (refine cK (by with_reducible assumption) (fun q => ?_); (first | with_reducible replace H := hK q H | rw [q] at H | skip); conv => whnf)
  | (refine cBif H (by with_reducible rfl) ?_ ?_ <;> clear H <;> intro q H <;> conv => whnf)
  | (refine condP_intro ?_ ?_ <;> intro q <;> (try rw [q] at H) <;> conv => whnf)
  | (replace H := cnt_some H; obtain ⟨_, H⟩ := H)
  | (refine eIx H ?_; clear H; intro _ _ H; conv => whnf)
  | (refine eAp (f := cInt) H rfl rfl (by decide) ?_; clear H; intro _ H; conv => whnf)
  | (refine eCall H (gg_20.1 fu _ _ _) (fun _ => .inl rfl) ?_; clear H; intro _ H; conv => whnf)
  | (refine eCall H (gg_15.2.1 fu _ _ _) (fun _ => .inl rfl) ?_; clear H; intro _ H; conv => whnf)
  | (refine LoopP_le (Le.commit (inL [136]) _) ?_; refine eLoop (m_effective_TreeOn_L1 _ _ _ _) [3, 9, 18, 19] [24] (fun (parents_2, priorities_3, t20_4) => [(10, .s (.c (.own 160080 1))), (11, .s (.c (.own 160088 1))), (20, vDc (iD (nI t20_4)))]) (fun (parents_2, priorities_3, t20_4) => [(160080, .row 3 1 (List.map cInt parents_2)), (160088, .row 3 1 (List.map cInt priorities_3))]) H (by refine Le.sub rfl ?_ ?_; (repeat' (first | exact trivial | rfl | exact inc64' (by assumption) | refine And.intro ?_ ?_ | (show D.bool _ = D.bool _; simp [*]; done)))) ?_; clear H; intro n x H; obtain _ | n := n; rw [m_effective_TreeOn_L1] at H; cases H; obtain ⟨_, _, _⟩ := x; rw [m_effective_TreeOn_L1] at H; conv => whnf)
  | (refine ⟨(_, _), H, ?_, Nat.lt_succ_self _⟩; refine Le.sub rfl ?_ ?_; (repeat' (first | exact trivial | rfl | exact inc64' (by assumption) | refine And.intro ?_ ?_ | (show D.bool _ = D.bool _; simp [*]; done))); done)
theorem gc_eval_allowed (fu : Nat) (nV : MNode) (l : (List MValue)) (env : MEnv) (r_ : Bool) (H : m_eval_allowed fu nV l env = some r_) : Go.Ab.Fn Tryz.prog 165 [.agg (cNode nV), .c ((.slice 3 (List.map cValue l))), .agg (cEnv env)] (.s (.c (.d (.bool r_)))) [] := by
 refine Go.Ab.Fn.intro htab hm Tryz.func165 rfl Tryz.call165 (by kernel_rfl) 257 Tryz.ntmps165 rfl (fun hr => ?_)
 unfold m_eval_allowed at H
 conv => whnf
 repeat' first
  | (refine leafI ?_; obtain rfl := Option.some.inj H; (repeat' (first | exact trivial | rfl | refine And.intro ?_ ?_ | (show D.bool _ = D.bool _; simp [*]; done))); done)
  | (refine RegP_intro _ [] ?_; conv => whnf)
  | (refine cK (by with_reducible assumption) (fun q => ?_); (first | with_reducible replace H := hK q H | rw [q] at H | skip); conv => whnf)
  | (refine cBif H (by with_reducible rfl) ?_ ?_ <;> clear H <;> intro q H <;> conv => whnf)
  | (refine condP_intro ?_ ?_ <;> intro q <;> (try rw [q] at H) <;> conv => whnf)
  | (refine eIx H ?_; clear H; intro _ _ H; conv => whnf)
  | (refine ⟨by decide, ?_⟩; conv => whnf)
  | (refine eCall H (gg_6.2.1 fu _) (fun _ => .inl rfl) ?_; clear H; intro _ H; conv => whnf)
  | (refine eCall H (gg_6.2.2.1 fu _ _ _) (fun _ => .inl rfl) ?_; clear H; intro _ H; conv => whnf)
  | (refine eCall H (gg_15.2.2.2.2.2 fu _) (fun _ => .inl rfl) ?_; clear H; intro _ H; conv => whnf)
  | (refine eCall H (gg_20.2.2.1 fu _ _) (fun _ => .inl rfl) ?_; clear H; intro _ H; conv => whnf)
  | (refine eCall H (gg_15.2.2.2.2.1 fu _) (fun _ => .inl rfl) ?_; clear H; intro _ H; conv => whnf)
  | (refine eCall H (gg_20.2.2.2.1 fu _ _) (fun _ => .inl rfl) ?_; clear H; intro _ H; conv => whnf)
  | (refine Or.inl ?_; conv => whnf)
theorem gg_23 : (∀ (fu : Nat) (s : BA) (r_ : Bool) (H : m_lexer_IsIdentifier fu s = some r_), Go.Ab.Fn Tryz.prog 90 [.c ((.str s))] (.s (.c (.d (.bool r_)))) []) ∧ (∀ (fu : Nat) (a : MRow) (b : MRow) (r_ : Bool) (H : m_table_conflict fu a b = some r_), Go.Ab.Fn Tryz.prog 141 [.agg (cRow a), .agg (cRow b)] (.s (.c (.d (.bool r_)))) []) ∧ (∀ (fu : Nat) (nV : MNode) (s : MSignature) (r_ : (MTy × Int)) (H : m_expr_leaf fu nV s = some r_), Go.Ab.Fn Tryz.prog 225 [.agg (cNode nV), .agg (cSignature s)] (.tup [.agg (List.map C.d (cTy r_.1)), .c (.d (iD r_.2))]) []) ∧ (∀ (fu : Nat) (l : MLaw) (r_ : MLaw) (H : m_lawdiff_interfaceOf fu l = some r_), Go.Ab.Fn Tryz.prog 65 [.agg (cLaw l)] (.s (.agg (List.map C.d (cLaw r_)))) []) ∧ (∀ (fu : Nat) (a : MScope) (b : MScope) (r_ : Bool) (H : m_law_sameScope fu a b = some r_), Go.Ab.Fn Tryz.prog 103 [.agg (cScope a), .agg (cScope b)] (.s (.c (.d (.bool r_)))) []) ∧ (∀ (fu : Nat) (l : MLaw) (scope : Int) (cV : MCase) (r_ : (Int × Int × Int)) (H : m_casedata_Validate fu l scope cV = some r_), Go.Ab.Fn Tryz.prog 73 [.agg (cLaw l), .c ((iD scope)), .agg (cCase cV)] (.tup [.c (.d (iD r_.1)), .c (.d (iD r_.2.1)), .c (.d (iD r_.2.2))]) []) := by
 refine ⟨fun fu s r_ H => ?_, fun fu a b r_ H => ?_, fun fu nV s r_ H => ?_, fun fu l r_ H => ?_, fun fu a b r_ H => ?_, fun fu l scope cV r_ H => ?_⟩
 all_goals first
  | (refine Go.Ab.Fn.intro htab hm Tryz.func90 rfl Tryz.call90 (by kernel_rfl) 29 Tryz.ntmps90 rfl (fun hr => ?_); unfold m_lexer_IsIdentifier at H)
  | (refine Go.Ab.Fn.intro htab hm Tryz.func141 rfl Tryz.call141 (by kernel_rfl) 29 Tryz.ntmps141 rfl (fun hr => ?_); unfold m_table_conflict at H)
  | (refine Go.Ab.Fn.intro htab hm Tryz.func225 rfl Tryz.call225 (by kernel_rfl) 109 Tryz.ntmps225 rfl (fun hr => ?_); unfold m_expr_leaf at H)
  | (refine Go.Ab.Fn.intro htab hm Tryz.func65 rfl Tryz.call65 (by kernel_rfl) 20 Tryz.ntmps65 rfl (fun hr => ?_); unfold m_lawdiff_interfaceOf at H)
  | (refine Go.Ab.Fn.intro htab hm Tryz.func103 rfl Tryz.call103 (by kernel_rfl) 38 Tryz.ntmps103 rfl (fun hr => ?_); unfold m_law_sameScope at H)
  | (refine Go.Ab.Fn.intro htab hm Tryz.func73 rfl Tryz.call73 (by kernel_rfl) 93 Tryz.ntmps73 rfl (fun hr => ?_); unfold m_casedata_Validate at H)
 all_goals conv => whnf
 repeat' first
  | (refine leafI ?_; obtain rfl := Option.some.inj H; (repeat' (first | exact trivial | rfl | refine And.intro ?_ ?_ | (show D.bool _ = D.bool _; simp [*]; done))); done)
  | (refine eCat H ?_; clear H; intro _ H; conv => whnf)
  | (refine RegP_intro _ [] ?_; conv => whnf)
  | (refine cK (by with_reducible assumption) (fun q => ?_); (first | with_reducible replace H := hK q H | rw [q] at H | skip); conv => whnf)
  | (refine cBif H (by with_reducible rfl) ?_ ?_ <;> clear H <;> intro q H <;> conv => whnf)
  | (refine condP_intro ?_ ?_ <;> intro q <;> (try rw [q] at H) <;> conv => whnf)
  | (refine eStr H ?_; clear H; intro _ H; conv => whnf)
  | (refine eCall H (gg_0.2.2.2.1 fu _) (fun _ => .inl rfl) ?_; clear H; intro _ H; conv => whnf)
  | (refine eCall H (gg_18.1 fu _) (fun _ => .inl rfl) ?_; clear H; intro _ H; conv => whnf)
  | (refine eCall H (gc_strings_Contains fu _ _) (fun _ => .inl rfl) ?_; clear H; intro _ H; conv => whnf)
  | (refine eCall H (gg_18.2.2.1 fu _ _) (fun _ => .inl rfl) ?_; clear H; intro _ H; conv => whnf)
  | (refine ⟨by decide, ?_⟩; conv => whnf)
  | (refine eCall H (gg_2.2.2.1 fu _ _) (fun _ => .inl rfl) ?_; clear H; intro _ H; conv => whnf)
  | (refine eCall H (gg_2.2.2.2.1 fu _ _) (fun _ => .inl rfl) ?_; clear H; intro _ H; conv => whnf)
  | (refine eCall H (gg_2.2.2.2.2.1 fu _ _) (fun _ => .inl rfl) ?_; clear H; intro _ H; conv => whnf)
  | (refine eCall H (gg_1.1 fu _ _) (fun _ => .inl rfl) ?_; clear H; intro _ H; conv => whnf)
  | (refine eCall H (gg_18.2.2.2.2.2 fu _ _) (fun _ => .inl rfl) ?_; clear H; intro _ H; conv => whnf)
  | (replace H := cnt_some H; obtain ⟨_, H⟩ := H)
  | (refine eIo H ?_; clear H; intro _ _ H; conv => whnf)
  | (refine eSt (f := cScope) (fun v x => (MScope.mk x.name x.ms x.inputs x.defs ([] : List MRule))) () (by assumption) (by (try dsimp only [cScope, MRule.fr, MRule.to, MRow.fr, MRow.to]); rfl) ?_; conv => whnf)
  | (refine eRd (by assumption) ?_; conv => whnf)
  | (refine eCall H (gc_law_Clone fu _) (fun _ => .inl rfl) ?_; clear H; intro _ H; conv => whnf)
  | (refine eLoop (m_lawdiff_interfaceOf_L1 _ _) [2, 3, 9] [16, 24, 48, 49] (fun (t10_2, rw_3) => [(10, vDc (iD (nI t10_2)))]) (fun (t10_2, rw_3) => [(50, .row 77 5 (List.map cScope rw_3))]) H (by refine Le.sub rfl ?_ ?_; (repeat' (first | exact trivial | rfl | exact inc64' (by assumption) | refine And.intro ?_ ?_ | (show D.bool _ = D.bool _; simp [*]; done)))) ?_; clear H; intro n x H; obtain _ | n := n; rw [m_lawdiff_interfaceOf_L1] at H; cases H; obtain ⟨_, _⟩ := x; rw [m_lawdiff_interfaceOf_L1] at H; conv => whnf)
  | (refine eIx H ?_; clear H; intro _ _ H; conv => whnf)
  | (refine eCall H (gg_19.2.2.2.2.1 fu _ _ _) (fun _ => .inl rfl) ?_; clear H; intro _ H; conv => whnf)
  | (refine eCall H (gg_14.2.2.2.2.1 fu _ _) (fun _ => .inl rfl) ?_; clear H; intro _ H; conv => whnf)
  | (refine eCall H (gg_4.2.2.2.2.2 fu _ _) (fun _ => .inl rfl) ?_; clear H; intro _ H; conv => whnf)
  | (refine eLoop (m_casedata_Validate_L1 _ _ _ _ _) [3, 12, 71, 72] [24, 96] (fun t73_5 => [(73, vDc (iD (nI t73_5)))]) (fun t73_5 => []) H (by refine Le.sub rfl ?_ ?_; (repeat' (first | exact trivial | rfl | exact inc64' (by assumption) | refine And.intro ?_ ?_ | (show D.bool _ = D.bool _; simp [*]; done)))) ?_; clear H; intro n x H; obtain _ | n := n; rw [m_casedata_Validate_L1] at H; cases H; rw [m_casedata_Validate_L1] at H; conv => whnf)
  | (refine ⟨(_, _), H, ?_, Nat.lt_succ_self _⟩; refine Le.sub rfl ?_ ?_; (repeat' (first | exact trivial | rfl | exact inc64' (by assumption) | refine And.intro ?_ ?_ | (show D.bool _ = D.bool _; simp [*]; done))); done)
  | (refine eCall H (gg_4.2.2.1 fu _ _) (fun _ => .inl rfl) ?_; clear H; intro _ H; conv => whnf)
  | (refine eCall H (gg_19.2.1 fu _ _) (fun _ => .inl rfl) ?_; clear H; intro _ H; conv => whnf)
theorem gg_24 : (∀ (fu : Nat) (e : (List MNode)) (atV : Int) (r_ : (List Int)) (H : m_expr_Operands fu e atV = some r_), Go.Ab.Fn Tryz.prog 123 [.c ((.slice 2 (List.map cNode e))), .c ((iD atV))] (.s (.c (.own 0 1))) [(0, .row 3 1 (List.map cInt r_))]) ∧ (∀ (fu : Nat) (nV : MNode) (l : (List MValue)) (r_ : (MValue × Int)) (H : m_eval_arithmetic fu nV l = some r_), Go.Ab.Fn Tryz.prog 194 [.agg (cNode nV), .c ((.slice 3 (List.map cValue l)))] (.tup [.agg (List.map C.d (cValue r_.1)), .c (.d (iD r_.2))]) []) ∧ (∀ (fu : Nat) (date : Int) (nV : Int) (r_ : (Int × Int)) (H : m_date_AddMonths fu date nV = some r_), Go.Ab.Fn Tryz.prog 215 [.c ((iD date)), .c ((iD nV))] (.tup [.c (.d (iD r_.1)), .c (.d (iD r_.2))]) []) ∧ (∀ (fu : Nat) (nV : MNode) (env : MEnv) (r_ : (MValue × Int)) (H : m_eval_members fu nV env = some r_), Go.Ab.Fn Tryz.prog 196 [.agg (cNode nV), .agg (cEnv env)] (.tup [.agg (List.map C.d (cValue r_.1)), .c (.d (iD r_.2))]) []) ∧ (∀ (fu : Nat) (t : MTable) (date : Int) (cV : Int) (mode : Int) (r_ : (Int × Int)) (H : m_table_Brackets fu t date cV mode = some r_), Go.Ab.Fn Tryz.prog 198 [.agg (cTable t), .c ((iD date)), .c ((iD cV)), .c ((iD mode))] (.tup [.c (.d (iD r_.1)), .c (.d (iD r_.2))]) []) ∧ (∀ (fu : Nat) (parent : (List Int)) (priority : (List Int)) (applies : (List Bool)) (r_ : Int) (H : m_ruletree_Select fu parent priority applies = some r_), Go.Ab.Fn Tryz.prog 88 [.c ((.slice 1 (List.map cInt parent))), .c ((.slice 1 (List.map cInt priority))), .c ((.slice 1 (List.map cBool applies)))] (.s (.c (.d (iD r_)))) []) := by
 refine ⟨fun fu e atV r_ H => ?_, fun fu nV l r_ H => ?_, fun fu date nV r_ H => ?_, fun fu nV env r_ H => ?_, fun fu t date cV mode r_ H => ?_, fun fu parent priority applies r_ H => ?_⟩
 all_goals first
  | (refine Go.Ab.Fn.intro htab hm Tryz.func123 rfl Tryz.call123 (by kernel_rfl) 28 Tryz.ntmps123 rfl (fun hr => ?_); unfold m_expr_Operands at H)
  | (refine Go.Ab.Fn.intro htab hm Tryz.func194 rfl Tryz.call194 (by kernel_rfl) 158 Tryz.ntmps194 rfl (fun hr => ?_); unfold m_eval_arithmetic at H)
  | (refine Go.Ab.Fn.intro htab hm Tryz.func215 rfl Tryz.call215 (by kernel_rfl) 49 Tryz.ntmps215 rfl (fun hr => ?_); unfold m_date_AddMonths at H)
  | (refine Go.Ab.Fn.intro htab hm Tryz.func196 rfl Tryz.call196 (by kernel_rfl) 114 Tryz.ntmps196 rfl (fun hr => ?_); unfold m_eval_members at H)
  | (refine Go.Ab.Fn.intro htab hm Tryz.func198 rfl Tryz.call198 (by kernel_rfl) 110 Tryz.ntmps198 rfl (fun hr => ?_); unfold m_table_Brackets at H)
  | (refine Go.Ab.Fn.intro htab hm Tryz.func88 rfl Tryz.call88 (by kernel_rfl) 23 Tryz.ntmps88 rfl (fun hr => ?_); unfold m_ruletree_Select at H)
 all_goals conv => whnf
 repeat' first
  | (refine leafI ?_; obtain rfl := Option.some.inj H; (repeat' (first | exact trivial | rfl | refine And.intro ?_ ?_ | (show D.bool _ = D.bool _; simp [*]; done))); done)
  | (refine cK (by with_reducible assumption) (fun q => ?_); (first | with_reducible replace H := hK q H | rw [q] at H | skip); conv => whnf)
  | (refine cBif H (by with_reducible rfl) ?_ ?_ <;> clear H <;> intro q H <;> conv => whnf)
  | (refine condP_intro ?_ ?_ <;> intro q <;> (try rw [q] at H) <;> conv => whnf)
  | (refine eCall H (gg_20.2.1 fu _) (fun _ => .inl rfl) ?_; clear H; intro _ H; conv => whnf)
  | (refine Or.inl (Or.inr ?_); (conv => whnf); refine eCall H (gg_13.2.1 fu _ _ _) (fun _ => .inl rfl) ?_; clear H; intro _ H; conv => whnf)
  | (replace H := cnt_some H; obtain ⟨_, H⟩ := H)
  | (refine eIx H ?_; clear H; intro _ _ H; conv => whnf)
  | (refine eCall H (gg_6.1 fu _) (fun _ => .inl rfl) ?_; clear H; intro _ H; conv => whnf)
  | (refine eCall H (gg_16.1 fu _ _ _) (fun _ => .inl rfl) ?_; clear H; intro _ H; conv => whnf)
  | (refine eCall H (gg_20.2.2.2.2.1 fu _ _ _) (fun _ => .inl rfl) ?_; clear H; intro _ H; conv => whnf)
  | (refine eCall H (gg_20.2.2.2.2.2 fu _ _ _) (fun _ => .inl rfl) ?_; clear H; intro _ H; conv => whnf)
  | (refine eCall H (gg_16.2.2.2.1 fu _ _ _) (fun _ => .inl rfl) ?_; clear H; intro _ H; conv => whnf)
  | (refine eCall H (gg_16.2.2.1 fu _ _ _) (fun _ => .inl rfl) ?_; clear H; intro _ H; conv => whnf)
  | (refine eCall H (gg_21.1 fu _ _ _) (fun _ => .inl rfl) ?_; clear H; intro _ H; conv => whnf)
  | (refine ⟨by decide, ?_⟩; conv => whnf)
  | (refine eCall H (gg_8.2.1 fu _) (fun _ => .inl rfl) ?_; clear H; intro _ H; conv => whnf)
  | (refine eCall H (gg_21.2.1 fu _) (fun _ => .inl rfl) ?_; clear H; intro _ H; conv => whnf)
  | (refine eCall H (gc_date_DaysInMonth fu _ _) (fun _ => .inl rfl) ?_; clear H; intro _ H; conv => whnf)
  | (refine eCall H (gg_21.2.2.1 fu _ _ _) (fun _ => .inl rfl) ?_; clear H; intro _ H; conv => whnf)
  | (refine eCall H (gg_5.2.2.2.2.2 fu _ _) (fun _ => .inl rfl) ?_; clear H; intro _ H; conv => whnf)
  | (refine eCall H (gg_20.2.2.1 fu _ _) (fun _ => .inl rfl) ?_; clear H; intro _ H; conv => whnf)
  | (refine eCall H (gg_15.2.2.2.2.1 fu _) (fun _ => .inl rfl) ?_; clear H; intro _ H; conv => whnf)
  | (refine eLoopP (m_eval_members_L1 _ _ _ _ _) [2, 3, 4, 6, 7, 25, 26] [16, 24, 32, 48] (fun (t27_2, lf_3) => [(27, vDc (iD (nI t27_2)))]) (fun (t27_2, lf_3) => []) (fun (t27_2, lf_3) => [(56, [(2, [.d (iD lf_3)])])]) H (by refine Le.sub rfl ?_ ?_; (repeat' (first | exact trivial | rfl | exact inc64' (by assumption) | refine And.intro ?_ ?_ | (show D.bool _ = D.bool _; simp [*]; done)))) ?_; clear H; intro n x H; obtain _ | n := n; rw [m_eval_members_L1] at H; cases H; obtain ⟨_, _⟩ := x; rw [m_eval_members_L1] at H; conv => whnf)
  | (refine eCall H (gg_15.1 fu _ _) (fun _ => .inl rfl) ?_; clear H; intro _ H; conv => whnf)
  | (refine eCall H (gg_16.2.2.2.2.2 fu _ _) (fun _ => .inl rfl) ?_; clear H; intro _ H; conv => whnf)
  | (refine eCall H (gg_21.2.2.2.2.1 fu _ _ _) (fun _ => .inl rfl) ?_; clear H; intro _ H; conv => whnf)
  | (refine eLoop (m_table_Brackets_L1 _ _ _ _ _) [1, 2, 3, 44, 45] [] (fun (whole_1, parts_2, t46_3) => [(10, vDc (iD whole_1)), (11, vDc (iD parts_2)), (46, vDc (iD (nI t46_3)))]) (fun (whole_1, parts_2, t46_3) => []) H (by refine Le.sub rfl ?_ ?_; (repeat' (first | exact trivial | rfl | exact inc64' (by assumption) | refine And.intro ?_ ?_ | (show D.bool _ = D.bool _; simp [*]; done)))) ?_; clear H; intro n x H; obtain _ | n := n; rw [m_table_Brackets_L1] at H; cases H; obtain ⟨_, _, _⟩ := x; rw [m_table_Brackets_L1] at H; conv => whnf)
  | (refine ⟨(_, _), H, ?_, Nat.lt_succ_self _⟩; refine Le.sub rfl ?_ ?_; (repeat' (first | exact trivial | rfl | exact inc64' (by assumption) | refine And.intro ?_ ?_ | (show D.bool _ = D.bool _; simp [*]; done))); done)
  | (refine eLoopP (m_eval_members_L2 _ _ _ _ _) [2, 3, 4, 6, 7, 25, 26] [16, 24, 32, 48] (fun (t27_12, lf_13) => [(27, vDc (iD (nI t27_12)))]) (fun (t27_12, lf_13) => []) (fun (t27_12, lf_13) => [(56, [(2, [.d (iD lf_13)])])]) H (by refine Le.sub rfl ?_ ?_; (repeat' (first | exact trivial | rfl | exact inc64' (by assumption) | refine And.intro ?_ ?_ | (show D.bool _ = D.bool _; simp [*]; done)))) ?_; clear H; intro n x H; obtain _ | n := n; rw [m_eval_members_L2] at H; cases H; obtain ⟨_, _⟩ := x; rw [m_eval_members_L2] at H; conv => whnf)
  | (refine eCall H (gg_8.2.2.2.2.1 fu _ _) (fun _ => .inl rfl) ?_; clear H; intro _ H; conv => whnf)
  | (refine eCall H (gc_ruletree_tree_outcome fu _ _) (fun _ => .inl rfl) ?_; clear H; intro _ H; conv => whnf)
theorem gg_25 : (∀ (fu : Nat) (a : MLaw) (b : MLaw) (r_ : (List MChange)) (H : m_lawdiff_ChangedRules fu a b = some r_), Go.Ab.Fn Tryz.prog 32 [.agg (cLaw a), .agg (cLaw b)] (.s (.c (.own 0 3))) [(0, .row 50 3 (List.map cChange r_))]) ∧ (∀ (fu : Nat) (s : MScope) (defV : Int) (ruleV : Int) (date : Int) (r_ : Bool) (H : m_law20_inForce fu s defV ruleV date = some r_), Go.Ab.Fn Tryz.prog 50 [.agg (cScope s), .c ((iD defV)), .c ((iD ruleV)), .c ((iD date))] (.s (.c (.d (.bool r_)))) []) ∧ (∀ (fu : Nat) (v : MValue) (enums : (List MEnum)) (r_ : Bool) (H : m_value_Valid fu v enums = some r_), Go.Ab.Fn Tryz.prog 27 [.agg (cValue v), .c ((.slice 2 (List.map cEnum enums)))] (.s (.c (.d (.bool r_)))) []) := by
 refine ⟨fun fu a b r_ H => ?_, fun fu s defV ruleV date r_ H => ?_, fun fu v enums r_ H => ?_⟩
 all_goals first
  | (refine Go.Ab.Fn.intro htab hm Tryz.func32 rfl Tryz.call32 (by kernel_rfl) 122 Tryz.ntmps32 rfl (fun hr => ?_); unfold m_lawdiff_ChangedRules at H)
  | (refine Go.Ab.Fn.intro htab hm Tryz.func50 rfl Tryz.call50 (by kernel_rfl) 36 Tryz.ntmps50 rfl (fun hr => ?_); unfold m_law20_inForce at H)
  | (refine Go.Ab.Fn.intro htab hm Tryz.func27 rfl Tryz.call27 (by kernel_rfl) 11 Tryz.ntmps27 rfl (fun hr => ?_); unfold m_value_Valid at H)
 all_goals conv => whnf
 repeat' first
  | (refine leafI ?_; obtain rfl := Option.some.inj H; (repeat' (first | exact trivial | rfl | refine And.intro ?_ ?_ | (show D.bool _ = D.bool _; simp [*]; done))); done)
  | (refine RegP_intro _ [] ?_; conv => whnf)
  | (refine cK (by with_reducible assumption) (fun q => ?_); (first | with_reducible replace H := hK q H | rw [q] at H | skip); conv => whnf)
  | (refine cBif H (by with_reducible rfl) ?_ ?_ <;> clear H <;> intro q H <;> conv => whnf)
  | (refine condP_intro ?_ ?_ <;> intro q <;> (try rw [q] at H) <;> conv => whnf)
  | (replace H := cnt_some H; obtain ⟨_, H⟩ := H)
  | (refine eIx H ?_; clear H; intro _ _ H; conv => whnf)
  | (refine eAp (f := cChange) H rfl rfl (by decide) ?_; clear H; intro _ H; conv => whnf)
  | (refine eCall H (gc_lawdiff_counterpart fu _ _ _) (fun _ => .inl rfl) ?_; clear H; intro _ H; conv => whnf)
  | (refine eCall H (gg_9.2.2.1 fu _ _) (fun _ => .inl rfl) ?_; clear H; intro _ H; conv => whnf)
  | (refine eCall H (gg_4.2.2.2.1 fu _ _) (fun _ => .inl rfl) ?_; clear H; intro _ H; conv => whnf)
  | (refine eLoop (m_lawdiff_ChangedRules_L2 _ _ _ _) [2, 3, 7, 21, 22, 23, 28, 29] [16, 24, 56] (fun (out_5, t30_6) => [(5, .s (.c (.own 160040 3))), (30, vDc (iD (nI t30_6)))]) (fun (out_5, t30_6) => [(160040, .row 50 3 (List.map cChange out_5))]) H (by refine Le.sub rfl ?_ ?_; (repeat' (first | exact trivial | rfl | exact inc64' (by assumption) | refine And.intro ?_ ?_ | (show D.bool _ = D.bool _; simp [*]; done)))) ?_; clear H; intro n x H; obtain _ | n := n; rw [m_lawdiff_ChangedRules_L2] at H; cases H; obtain ⟨_, _⟩ := x; rw [m_lawdiff_ChangedRules_L2] at H; conv => whnf)
  | (refine eIo H ?_; clear H; intro _ _ H; conv => whnf)
  | (refine eRd (by assumption) ?_; conv => whnf)
  | (refine eCall H (gg_20.1 fu _ _ _) (fun _ => .inl rfl) ?_; clear H; intro _ H; conv => whnf)
  | (refine eLoop (m_law20_inForce_L1 _ _ _ _) [2, 4, 9] [32, 112] (fun i_2 => [(10, vDc (iD (nI i_2)))]) (fun i_2 => []) H (by refine Le.sub rfl ?_ ?_; (repeat' (first | exact trivial | rfl | exact inc64' (by assumption) | refine And.intro ?_ ?_ | (show D.bool _ = D.bool _; simp [*]; done)))) ?_; clear H; intro n x H; obtain _ | n := n; rw [m_law20_inForce_L1] at H; cases H; rw [m_law20_inForce_L1] at H; conv => whnf)
  | (refine ⟨(_, _), H, ?_, Nat.lt_succ_self _⟩; refine Le.sub rfl ?_ ?_; (repeat' (first | exact trivial | rfl | exact inc64' (by assumption) | refine And.intro ?_ ?_ | (show D.bool _ = D.bool _; simp [*]; done))); done)
  | (refine eLoop (m_lawdiff_ChangedRules_L4 _ _ _ _) [2, 14, 86, 87, 88, 93, 94] [16, 112] (fun (out_24, t95_25) => [(5, .s (.c (.own 160040 3))), (95, vDc (iD (nI t95_25)))]) (fun (out_24, t95_25) => [(160040, .row 50 3 (List.map cChange out_24))]) H (by refine Le.sub rfl ?_ ?_; (repeat' (first | exact trivial | rfl | exact inc64' (by assumption) | refine And.intro ?_ ?_ | (show D.bool _ = D.bool _; simp [*]; done)))) ?_; clear H; intro n x H; obtain _ | n := n; rw [m_lawdiff_ChangedRules_L4] at H; cases H; obtain ⟨_, _⟩ := x; rw [m_lawdiff_ChangedRules_L4] at H; conv => whnf)
  | (refine eLoop (m_lawdiff_ChangedRules_L3 _ _ _ _) [2, 86, 87] [16] (fun (out_20, t88_21) => [(5, .s (.c (.own 160040 3))), (88, vDc (iD (nI t88_21)))]) (fun (out_20, t88_21) => [(160040, .row 50 3 (List.map cChange out_20))]) H (by refine Le.sub rfl ?_ ?_; (repeat' (first | exact trivial | rfl | exact inc64' (by assumption) | refine And.intro ?_ ?_ | (show D.bool _ = D.bool _; simp [*]; done)))) ?_; clear H; intro n x H; obtain _ | n := n; rw [m_lawdiff_ChangedRules_L3] at H; cases H; obtain ⟨_, _⟩ := x; rw [m_lawdiff_ChangedRules_L3] at H; conv => whnf)
  | (refine eLoop (m_lawdiff_ChangedRules_L1 _ _ _ _) [2, 3, 21, 22] [16, 24] (fun (out_1, t23_2) => [(5, .s (.c (.own 160040 3))), (23, vDc (iD (nI t23_2)))]) (fun (out_1, t23_2) => [(160040, .row 50 3 (List.map cChange out_1))]) H (by refine Le.sub rfl ?_ ?_; (repeat' (first | exact trivial | rfl | exact inc64' (by assumption) | refine And.intro ?_ ?_ | (show D.bool _ = D.bool _; simp [*]; done)))) ?_; clear H; intro n x H; obtain _ | n := n; rw [m_lawdiff_ChangedRules_L1] at H; cases H; obtain ⟨_, _⟩ := x; rw [m_lawdiff_ChangedRules_L1] at H; conv => whnf)
  | (refine eCall H (gg_11.2.2.2.2 fu _) (fun _ => .inl rfl) ?_; clear H; intro _ H; conv => whnf)
  | (refine eCall H (gg_22.2 fu _ _ _) (fun _ => .inl rfl) ?_; clear H; intro _ H; conv => whnf)
end Go.Proofs.YtffnbobdkpebgaaGreat
