/- Contracts: the functions answer as their models, by my generator. -/
import Derived.Test.YtllfapkcniadgaaVbC1
set_option linter.unusedVariables false
set_option linter.unusedSimpArgs false
set_option maxRecDepth 100000
set_option maxHeartbeats 4000000
namespace Go.Proofs.Ytllfapkcniadgaa
open Go Go.Ab

theorem gc_ref17_scopeError (fu : Nat) (l : MLaw) (atV : Int) (r_ : MLawError) (H : m_ref17_scopeError fu l atV = some r_) : Go.Ab.Fn Try.prog 68 [.agg (cLaw l), .c (iD atV)] (.s (.agg (List.map C.d (cLawError r_)))) [] := by
 refine Go.Ab.Fn.intro htab hm Try.func68 rfl Try.call68 (by kernel_rfl) 125 Try.ntmps68 rfl (fun hr => ?_)
 unfold m_ref17_scopeError at H
 conv => whnf
 repeat' first
  | (obtain rfl := Option.some.inj H; (repeat' (first | exact trivial | rfl | refine And.intro ?_ ?_ | (show D.bool _ = D.bool _; simp [*]; done))); done)
  | (refine cT (by with_reducible assumption) ?_; conv => whnf)
  | (refine cF (by with_reducible assumption) ?_; conv => whnf)
  | (refine condP_intro ?_ ?_ <;> intro q <;> (try rw [q] at H) <;> conv => whnf)
  | (replace H := cnt_some H; obtain ⟨_, H⟩ := H)
  | (refine eIx H ?_; clear H; intro _ _ H; conv => whnf)
  | (refine eCall H (gc_ref08_IsIdentifier fu _) (fun _ => .inl rfl) ?_; clear H; intro _ H; conv => whnf)
  | (refine eCall H (gc_ref17_nameTaken fu _ _ _ _) (fun _ => .inl rfl) ?_; clear H; intro _ H; conv => whnf)
  | (refine eCall H (gc_ref17_fieldError fu _ _) (fun _ => .inl rfl) ?_; clear H; intro _ H; conv => whnf)
  | (refine eCall H (gc_ref17_ruleError fu _ _ _) (fun _ => .inl rfl) ?_; clear H; intro _ H; conv => whnf)
  | (refine eCall H (gc_ref16_Transitive fu _ _) (fun _ => .inl rfl) ?_; clear H; intro _ H; conv => whnf)
  | (refine eLoop (m_ref17_scopeError_L3 _ _ _ _) [1, 4, 5, 10, 11] [32, 40] (fun i_13 => [(12, vDc (iD (nI i_13)))]) (fun i_13 => []) H (by refine Le.sub rfl ?_ ?_; (repeat' (first | exact trivial | rfl | exact inc64' (by assumption) | refine And.intro ?_ ?_ | (show D.bool _ = D.bool _; simp [*]; done)))) ?_; clear H; intro n x H; obtain _ | n := n; rw [m_ref17_scopeError_L3] at H; cases H; rw [m_ref17_scopeError_L3] at H; conv => whnf)
  | (refine ⟨(_, _), H, ?_, Nat.lt_succ_self _⟩; refine Le.sub rfl ?_ ?_; (repeat' (first | exact trivial | rfl | exact inc64' (by assumption) | refine And.intro ?_ ?_ | (show D.bool _ = D.bool _; simp [*]; done))); done)
  | (refine eLoop (m_ref17_scopeError_L2 _ _ _ _) [1, 4, 5] [32, 40] (fun d_10 => [(10, vDc (iD (nI d_10)))]) (fun d_10 => []) H (by refine Le.sub rfl ?_ ?_; (repeat' (first | exact trivial | rfl | exact inc64' (by assumption) | refine And.intro ?_ ?_ | (show D.bool _ = D.bool _; simp [*]; done)))) ?_; clear H; intro n x H; obtain _ | n := n; rw [m_ref17_scopeError_L2] at H; cases H; rw [m_ref17_scopeError_L2] at H; conv => whnf)
  | (refine eLoop (m_ref17_scopeError_L1 _ _ _ _ _) [1, 2, 4, 5] [16, 32, 40] (fun k_6 => [(8, vDc (iD (nI k_6)))]) (fun k_6 => []) H (by refine Le.sub rfl ?_ ?_; (repeat' (first | exact trivial | rfl | exact inc64' (by assumption) | refine And.intro ?_ ?_ | (show D.bool _ = D.bool _; simp [*]; done)))) ?_; clear H; intro n x H; obtain _ | n := n; rw [m_ref17_scopeError_L1] at H; cases H; rw [m_ref17_scopeError_L1] at H; conv => whnf)
  | (refine eLoop (m_ref17_scopeError_L6 _ _ _ _) [1, 4, 5, 10, 11] [32, 40] (fun i_26 => [(12, vDc (iD (nI i_26)))]) (fun i_26 => []) H (by refine Le.sub rfl ?_ ?_; (repeat' (first | exact trivial | rfl | exact inc64' (by assumption) | refine And.intro ?_ ?_ | (show D.bool _ = D.bool _; simp [*]; done)))) ?_; clear H; intro n x H; obtain _ | n := n; rw [m_ref17_scopeError_L6] at H; cases H; rw [m_ref17_scopeError_L6] at H; conv => whnf)
  | (refine eLoop (m_ref17_scopeError_L5 _ _ _ _) [1, 4, 5] [32, 40] (fun d_23 => [(10, vDc (iD (nI d_23)))]) (fun d_23 => []) H (by refine Le.sub rfl ?_ ?_; (repeat' (first | exact trivial | rfl | exact inc64' (by assumption) | refine And.intro ?_ ?_ | (show D.bool _ = D.bool _; simp [*]; done)))) ?_; clear H; intro n x H; obtain _ | n := n; rw [m_ref17_scopeError_L5] at H; cases H; rw [m_ref17_scopeError_L5] at H; conv => whnf)
  | (refine eLoop (m_ref17_scopeError_L4 _ _ _ _ _) [1, 2, 4, 5] [16, 32, 40] (fun k_19 => [(8, vDc (iD (nI k_19)))]) (fun k_19 => []) H (by refine Le.sub rfl ?_ ?_; (repeat' (first | exact trivial | rfl | exact inc64' (by assumption) | refine And.intro ?_ ?_ | (show D.bool _ = D.bool _; simp [*]; done)))) ?_; clear H; intro n x H; obtain _ | n := n; rw [m_ref17_scopeError_L4] at H; cases H; rw [m_ref17_scopeError_L4] at H; conv => whnf)

theorem gc_ref17_Validate (fu : Nat) (l : MLaw) (r_ : MLawError) (H : m_ref17_Validate fu l = some r_) : Go.Ab.Fn Try.prog 47 [.agg (cLaw l)] (.s (.agg (List.map C.d (cLawError r_)))) [] := by
 refine Go.Ab.Fn.intro htab hm Try.func47 rfl Try.call47 (by kernel_rfl) 67 Try.ntmps47 rfl (fun hr => ?_)
 unfold m_ref17_Validate at H
 conv => whnf
 repeat' first
  | (obtain rfl := Option.some.inj H; (repeat' (first | exact trivial | rfl | refine And.intro ?_ ?_ | (show D.bool _ = D.bool _; simp [*]; done))); done)
  | (refine cT (by with_reducible assumption) ?_; conv => whnf)
  | (refine cF (by with_reducible assumption) ?_; conv => whnf)
  | (refine condP_intro ?_ ?_ <;> intro q <;> (try rw [q] at H) <;> conv => whnf)
  | (replace H := cnt_some H; obtain ⟨_, H⟩ := H)
  | (refine eCall H (gc_ref17_enumError fu _ _) (fun _ => .inl rfl) ?_; clear H; intro _ H; conv => whnf)
  | (refine eCall H (gc_ref17_tableError fu _ _) (fun _ => .inl rfl) ?_; clear H; intro _ H; conv => whnf)
  | (refine eCall H (gc_ref17_scopeError fu _ _) (fun _ => .inl rfl) ?_; clear H; intro _ H; conv => whnf)
  | (refine eLoop (m_ref17_Validate_L3 _ _ _) [1, 2] [8, 16] (fun i_9 => [(7, vDc (iD (nI i_9)))]) (fun i_9 => []) H (by refine Le.sub rfl ?_ ?_; (repeat' (first | exact trivial | rfl | exact inc64' (by assumption) | refine And.intro ?_ ?_ | (show D.bool _ = D.bool _; simp [*]; done)))) ?_; clear H; intro n x H; obtain _ | n := n; rw [m_ref17_Validate_L3] at H; cases H; rw [m_ref17_Validate_L3] at H; conv => whnf)
  | (refine ⟨(_, _), H, ?_, Nat.lt_succ_self _⟩; refine Le.sub rfl ?_ ?_; (repeat' (first | exact trivial | rfl | exact inc64' (by assumption) | refine And.intro ?_ ?_ | (show D.bool _ = D.bool _; simp [*]; done))); done)
  | (refine eLoop (m_ref17_Validate_L2 _ _ _) [1, 2] [8, 16] (fun i_5 => [(5, vDc (iD (nI i_5)))]) (fun i_5 => []) H (by refine Le.sub rfl ?_ ?_; (repeat' (first | exact trivial | rfl | exact inc64' (by assumption) | refine And.intro ?_ ?_ | (show D.bool _ = D.bool _; simp [*]; done)))) ?_; clear H; intro n x H; obtain _ | n := n; rw [m_ref17_Validate_L2] at H; cases H; rw [m_ref17_Validate_L2] at H; conv => whnf)
  | (refine eLoop (m_ref17_Validate_L1 _ _ _) [1, 2] [8, 16] (fun i_1 => [(3, vDc (iD (nI i_1)))]) (fun i_1 => []) H (by refine Le.sub rfl ?_ ?_; (repeat' (first | exact trivial | rfl | exact inc64' (by assumption) | refine And.intro ?_ ?_ | (show D.bool _ = D.bool _; simp [*]; done)))) ?_; clear H; intro n x H; obtain _ | n := n; rw [m_ref17_Validate_L1] at H; cases H; rw [m_ref17_Validate_L1] at H; conv => whnf)

theorem gc_ref17_IsValid (fu : Nat) (l : MLaw) (r_ : Bool) (H : m_ref17_IsValid fu l = some r_) : Go.Ab.Fn Try.prog 29 [.agg (cLaw l)] (.s (.c (.d (.bool r_)))) [] := by
 refine Go.Ab.Fn.intro htab hm Try.func29 rfl Try.call29 (by kernel_rfl) 7 Try.ntmps29 rfl (fun hr => ?_)
 unfold m_ref17_IsValid at H
 conv => whnf
 repeat' first
  | (obtain rfl := Option.some.inj H; (repeat' (first | exact trivial | rfl | refine And.intro ?_ ?_ | (show D.bool _ = D.bool _; simp [*]; done))); done)
  | (refine cT (by with_reducible assumption) ?_; conv => whnf)
  | (refine cF (by with_reducible assumption) ?_; conv => whnf)
  | (refine condP_intro ?_ ?_ <;> intro q <;> (try rw [q] at H) <;> conv => whnf)
  | (refine eCall H (gc_ref17_Validate fu _) (fun _ => .inl rfl) ?_; clear H; intro _ H; conv => whnf)

theorem gc_same_SmallLaw (fu : Nat) (l : MLaw) (r_ : Bool) (H : m_same_SmallLaw fu l = some r_) : Go.Ab.Fn Try.prog 22 [.agg (cLaw l)] (.s (.c (.d (.bool r_)))) [] := by
  unfold m_same_SmallLaw at H
  split at H
  · rename_i h; obtain rfl := Option.some.inj H; exact c_SmallLaw l h
  · cases H

theorem gc_law51_awake (fu : Nat) (r_ : Bool) (H : m_law51_awake fu = some r_) : Go.Ab.Fn Try.prog 23 [] (.s (.c (.d (.bool r_)))) [] := by
  obtain rfl := Option.some.inj H
  exact c_awake

theorem gc_lawdiff_ChangedRules (fu : Nat) (a b : MLaw) (r_ : List MChange) (H : m_lawdiff_ChangedRules fu a b = some r_) : Go.Ab.Fn Try.prog 25 [.agg (cLaw a), .agg (cLaw b)] (.s (.c (.d (.slice 3 (List.map cChange r_))))) [] := by
  unfold m_lawdiff_ChangedRules at H
  by_cases h : sumRules a.scopes + sumRules b.scopes ≤ 100000
  · rw [decide_eq_true h] at H; obtain rfl := Option.some.inj H; exact c_Changed a b h
  · rw [decide_eq_false h] at H; cases H

theorem gc_lawdiff_SameInterface (fu : Nat) (a b : MLaw) (r_ : Bool) (H : m_lawdiff_SameInterface fu a b = some r_) : Go.Ab.Fn Try.prog 27 [.agg (cLaw a), .agg (cLaw b)] (.s (.c (.d (.bool r_)))) [] := by
  unfold m_lawdiff_SameInterface at H
  split at H
  · rename_i h; obtain rfl := Option.some.inj H; exact c_SameInterface a b h.1 h.2
  · cases H

theorem gc_ref51_scopeOf (fu : Nat) (l : MLaw) (name : BA) (r_ : Int) (H : m_ref51_scopeOf fu l name = some r_) : Go.Ab.Fn Try.prog 48 [.agg (cLaw l), .c (.str name)] (.s (.c (.d (iD r_)))) [] := by
 refine Go.Ab.Fn.intro htab hm Try.func48 rfl Try.call48 (by kernel_rfl) 22 Try.ntmps48 rfl (fun hr => ?_)
 unfold m_ref51_scopeOf at H
 conv => whnf
 repeat' first
  | (obtain rfl := Option.some.inj H; (repeat' (first | exact trivial | rfl | refine And.intro ?_ ?_ | (show D.bool _ = D.bool _; simp [*]; done))); done)
  | (refine cT (by with_reducible assumption) ?_; conv => whnf)
  | (refine cF (by with_reducible assumption) ?_; conv => whnf)
  | (refine condP_intro ?_ ?_ <;> intro q <;> (try rw [q] at H) <;> conv => whnf)
  | (replace H := cnt_some H; obtain ⟨_, H⟩ := H)
  | (refine eIx H ?_; clear H; intro _ _ H; conv => whnf)
  | (refine eLoop (m_ref51_scopeOf_L1 _ _ _) [1, 2] [16] (fun i_1 => [(5, vDc (iD (nI i_1)))]) (fun i_1 => []) H (by refine Le.sub rfl ?_ ?_; (repeat' (first | exact trivial | rfl | exact inc64' (by assumption) | refine And.intro ?_ ?_ | (show D.bool _ = D.bool _; simp [*]; done)))) ?_; clear H; intro n x H; obtain _ | n := n; rw [m_ref51_scopeOf_L1] at H; cases H; rw [m_ref51_scopeOf_L1] at H; conv => whnf)
  | (refine ⟨(_, _), H, ?_, Nat.lt_succ_self _⟩; refine Le.sub rfl ?_ ?_; (repeat' (first | exact trivial | rfl | exact inc64' (by assumption) | refine And.intro ?_ ?_ | (show D.bool _ = D.bool _; simp [*]; done))); done)

theorem gc_ref51_ruleOf (fu : Nat) (s : MScope) (name : BA) (r_ : Int) (H : m_ref51_ruleOf fu s name = some r_) : Go.Ab.Fn Try.prog 49 [.agg (cScope s), .c (.str name)] (.s (.c (.d (iD r_)))) [] := by
 refine Go.Ab.Fn.intro htab hm Try.func49 rfl Try.call49 (by kernel_rfl) 22 Try.ntmps49 rfl (fun hr => ?_)
 unfold m_ref51_ruleOf at H
 conv => whnf
 repeat' first
  | (obtain rfl := Option.some.inj H; (repeat' (first | exact trivial | rfl | refine And.intro ?_ ?_ | (show D.bool _ = D.bool _; simp [*]; done))); done)
  | (refine cT (by with_reducible assumption) ?_; conv => whnf)
  | (refine cF (by with_reducible assumption) ?_; conv => whnf)
  | (refine condP_intro ?_ ?_ <;> intro q <;> (try rw [q] at H) <;> conv => whnf)
  | (replace H := cnt_some H; obtain ⟨_, H⟩ := H)
  | (refine eIx H ?_; clear H; intro _ _ H; conv => whnf)
  | (refine eLoop (m_ref51_ruleOf_L1 _ _ _) [1, 2] [16] (fun i_1 => [(5, vDc (iD (nI i_1)))]) (fun i_1 => []) H (by refine Le.sub rfl ?_ ?_; (repeat' (first | exact trivial | rfl | exact inc64' (by assumption) | refine And.intro ?_ ?_ | (show D.bool _ = D.bool _; simp [*]; done)))) ?_; clear H; intro n x H; obtain _ | n := n; rw [m_ref51_ruleOf_L1] at H; cases H; rw [m_ref51_ruleOf_L1] at H; conv => whnf)
  | (refine ⟨(_, _), H, ?_, Nat.lt_succ_self _⟩; refine Le.sub rfl ?_ ?_; (repeat' (first | exact trivial | rfl | exact inc64' (by assumption) | refine And.intro ?_ ?_ | (show D.bool _ = D.bool _; simp [*]; done))); done)

theorem gc_ref51_Counterpart (fu : Nat) (l : MLaw) (scope : BA) (ruleV : BA) (r_ : (MScope × Int × Bool)) (H : m_ref51_Counterpart fu l scope ruleV = some r_) : Go.Ab.Fn Try.prog 30 [.agg (cLaw l), .c (.str scope), .c (.str ruleV)] (.tup [.agg (List.map C.d (cScope r_.1)), .c (.d (iD r_.2.1)), .c (.d (.bool r_.2.2))]) [] := by
 refine Go.Ab.Fn.intro htab hm Try.func30 rfl Try.call30 (by kernel_rfl) 33 Try.ntmps30 rfl (fun hr => ?_)
 unfold m_ref51_Counterpart at H
 conv => whnf
 repeat' first
  | (obtain rfl := Option.some.inj H; (repeat' (first | exact trivial | rfl | refine And.intro ?_ ?_ | (show D.bool _ = D.bool _; simp [*]; done))); done)
  | (refine cT (by with_reducible assumption) ?_; conv => whnf)
  | (refine cF (by with_reducible assumption) ?_; conv => whnf)
  | (refine condP_intro ?_ ?_ <;> intro q <;> (try rw [q] at H) <;> conv => whnf)
  | (refine eIx H ?_; clear H; intro _ _ H; conv => whnf)
  | (refine eCall H (gc_ref51_scopeOf fu _ _) (fun _ => .inl rfl) ?_; clear H; intro _ H; conv => whnf)
  | (refine eCall H (gc_ref51_ruleOf fu _ _) (fun _ => .inl rfl) ?_; clear H; intro _ H; conv => whnf)

theorem gc_same_Nodes (fu : Nat) (a : (List MNode)) (b : (List MNode)) (r_ : Bool) (H : m_same_Nodes fu a b = some r_) : Go.Ab.Fn Try.prog 31 [.c (.slice 2 (List.map cNode a)), .c (.slice 2 (List.map cNode b))] (.s (.c (.d (.bool r_)))) [] := by
 refine Go.Ab.Fn.intro htab hm Try.func31 rfl Try.call31 (by kernel_rfl) 32 Try.ntmps31 rfl (fun hr => ?_)
 unfold m_same_Nodes at H
 conv => whnf
 repeat' first
  | (obtain rfl := Option.some.inj H; (repeat' (first | exact trivial | rfl | refine And.intro ?_ ?_ | (show D.bool _ = D.bool _; simp [*]; done))); done)
  | (refine cT (by with_reducible assumption) ?_; conv => whnf)
  | (refine cF (by with_reducible assumption) ?_; conv => whnf)
  | (refine condP_intro ?_ ?_ <;> intro q <;> (try rw [q] at H) <;> conv => whnf)
  | (replace H := cnt_some H; obtain ⟨_, H⟩ := H)
  | (refine eIx H ?_; clear H; intro _ _ H; conv => whnf)
  | (refine eLoop (m_same_Nodes_L1 _ _ _) [0, 1] [] (fun i_1 => [(5, vDc (iD (nI i_1)))]) (fun i_1 => []) H (by refine Le.sub rfl ?_ ?_; (repeat' (first | exact trivial | rfl | exact inc64' (by assumption) | refine And.intro ?_ ?_ | (show D.bool _ = D.bool _; simp [*]; done)))) ?_; clear H; intro n x H; obtain _ | n := n; rw [m_same_Nodes_L1] at H; cases H; rw [m_same_Nodes_L1] at H; conv => whnf)
  | (refine ⟨(_, _), H, ?_, Nat.lt_succ_self _⟩; refine Le.sub rfl ?_ ?_; (repeat' (first | exact trivial | rfl | exact inc64' (by assumption) | refine And.intro ?_ ?_ | (show D.bool _ = D.bool _; simp [*]; done))); done)

theorem gc_law51_LawdiffIdentity (fu : Nat) (a : MLaw) (b : MLaw) (r_ : Bool) (H : m_law51_LawdiffIdentity fu a b = some r_) : Go.Ab.Fn Try.prog 9 [.agg (cLaw a), .agg (cLaw b)] (.s (.c (.d (.bool r_)))) [] := by
 refine Go.Ab.Fn.intro htab hm Try.func9 rfl Try.call9 (by kernel_rfl) 180 Try.ntmps9 rfl (fun hr => ?_)
 unfold m_law51_LawdiffIdentity at H
 conv => whnf
 repeat' first
  | (obtain rfl := Option.some.inj H; (repeat' (first | exact trivial | rfl | refine And.intro ?_ ?_ | (show D.bool _ = D.bool _; simp [*]; done))); done)
  | (refine cT (by with_reducible assumption) ?_; conv => whnf)
  | (refine cF (by with_reducible assumption) ?_; conv => whnf)
  | (refine condP_intro ?_ ?_ <;> intro q <;> (try rw [q] at H) <;> conv => whnf)
  | (replace H := cnt_some H; obtain ⟨_, H⟩ := H)
  | (refine eIx H ?_; clear H; intro _ _ H; conv => whnf)
  | (refine eCall H (gc_same_SmallLaw fu _) (fun _ => .inl rfl) ?_; clear H; intro _ H; conv => whnf)
  | (refine eCall H (gc_law51_awake fu) (fun _ => .inl rfl) ?_; clear H; intro _ H; conv => whnf)
  | (refine eCall H (gc_ref17_IsValid fu _) (fun _ => .inl rfl) ?_; clear H; intro _ H; conv => whnf)
  | (refine eCall H (gc_lawdiff_ChangedRules fu _ _) (fun _ => .inl rfl) ?_; clear H; intro _ H; conv => whnf)
  | (refine eCall H (gc_lawdiff_SameInterface fu _ _) (fun _ => .inl rfl) ?_; clear H; intro _ H; conv => whnf)
  | (refine eCall H (gc_ref51_Counterpart fu _ _ _) (fun _ => .inl rfl) ?_; clear H; intro _ H; conv => whnf)
  | (refine eCall H (gc_same_Nodes fu _ _) (fun _ => .inl rfl) ?_; clear H; intro _ H; conv => whnf)
  | (refine eLoop (m_law51_LawdiffIdentity_L2 _ _ _ _ _) [2, 3, 5] [16, 24] (fun k_19 => [(6, vDc (iD (nI k_19)))]) (fun k_19 => []) H (by refine Le.sub rfl ?_ ?_; (repeat' (first | exact trivial | rfl | exact inc64' (by assumption) | refine And.intro ?_ ?_ | (show D.bool _ = D.bool _; simp [*]; done)))) ?_; clear H; intro n x H; obtain _ | n := n; rw [m_law51_LawdiffIdentity_L2] at H; cases H; rw [m_law51_LawdiffIdentity_L2] at H; conv => whnf)
  | (refine ⟨(_, _), H, ?_, Nat.lt_succ_self _⟩; refine Le.sub rfl ?_ ?_; (repeat' (first | exact trivial | rfl | exact inc64' (by assumption) | refine And.intro ?_ ?_ | (show D.bool _ = D.bool _; simp [*]; done))); done)
  | (refine eLoop (m_law51_LawdiffIdentity_L1 _ _ _ _) [2, 3] [16, 24] (fun i_15 => [(5, vDc (iD (nI i_15)))]) (fun i_15 => []) H (by refine Le.sub rfl ?_ ?_; (repeat' (first | exact trivial | rfl | exact inc64' (by assumption) | refine And.intro ?_ ?_ | (show D.bool _ = D.bool _; simp [*]; done)))) ?_; clear H; intro n x H; obtain _ | n := n; rw [m_law51_LawdiffIdentity_L1] at H; cases H; rw [m_law51_LawdiffIdentity_L1] at H; conv => whnf)

theorem gc_law51_has (fu : Nat) (l : (List MChange)) (xV : MChange) (r_ : Bool) (H : m_law51_has fu l xV = some r_) : Go.Ab.Fn Try.prog 32 [.c (.slice 3 (List.map cChange l)), .agg (cChange xV)] (.s (.c (.d (.bool r_)))) [] := by
 refine Go.Ab.Fn.intro htab hm Try.func32 rfl Try.call32 (by kernel_rfl) 18 Try.ntmps32 rfl (fun hr => ?_)
 unfold m_law51_has at H
 conv => whnf
 repeat' first
  | (obtain rfl := Option.some.inj H; (repeat' (first | exact trivial | rfl | refine And.intro ?_ ?_ | (show D.bool _ = D.bool _; simp [*]; done))); done)
  | (refine cT (by with_reducible assumption) ?_; conv => whnf)
  | (refine cF (by with_reducible assumption) ?_; conv => whnf)
  | (refine condP_intro ?_ ?_ <;> intro q <;> (try rw [q] at H) <;> conv => whnf)
  | (replace H := cnt_some H; obtain ⟨_, H⟩ := H)
  | (refine eIx H ?_; clear H; intro _ _ H; conv => whnf)
  | (refine eLoop (m_law51_has_L1 _ _ _) [0, 3] [24] (fun i_1 => [(5, vDc (iD (nI i_1)))]) (fun i_1 => []) H (by refine Le.sub rfl ?_ ?_; (repeat' (first | exact trivial | rfl | exact inc64' (by assumption) | refine And.intro ?_ ?_ | (show D.bool _ = D.bool _; simp [*]; done)))) ?_; clear H; intro n x H; obtain _ | n := n; rw [m_law51_has_L1] at H; cases H; rw [m_law51_has_L1] at H; conv => whnf)
  | (refine ⟨(_, _), H, ?_, Nat.lt_succ_self _⟩; refine Le.sub rfl ?_ ?_; (repeat' (first | exact trivial | rfl | exact inc64' (by assumption) | refine And.intro ?_ ?_ | (show D.bool _ = D.bool _; simp [*]; done))); done)

theorem gc_law51_LawdiffSymmetry (fu : Nat) (a : MLaw) (b : MLaw) (r_ : Bool) (H : m_law51_LawdiffSymmetry fu a b = some r_) : Go.Ab.Fn Try.prog 10 [.agg (cLaw a), .agg (cLaw b)] (.s (.c (.d (.bool r_)))) [] := by
 refine Go.Ab.Fn.intro htab hm Try.func10 rfl Try.call10 (by kernel_rfl) 62 Try.ntmps10 rfl (fun hr => ?_)
 unfold m_law51_LawdiffSymmetry at H
 conv => whnf
 repeat' first
  | (obtain rfl := Option.some.inj H; (repeat' (first | exact trivial | rfl | refine And.intro ?_ ?_ | (show D.bool _ = D.bool _; simp [*]; done))); done)
  | (refine cT (by with_reducible assumption) ?_; conv => whnf)
  | (refine cF (by with_reducible assumption) ?_; conv => whnf)
  | (refine condP_intro ?_ ?_ <;> intro q <;> (try rw [q] at H) <;> conv => whnf)
  | (replace H := cnt_some H; obtain ⟨_, H⟩ := H)
  | (refine eIx H ?_; clear H; intro _ _ H; conv => whnf)
  | (refine eCall H (gc_same_SmallLaw fu _) (fun _ => .inl rfl) ?_; clear H; intro _ H; conv => whnf)
  | (refine eCall H (gc_law51_awake fu) (fun _ => .inl rfl) ?_; clear H; intro _ H; conv => whnf)
  | (refine eCall H (gc_ref17_IsValid fu _) (fun _ => .inl rfl) ?_; clear H; intro _ H; conv => whnf)
  | (refine eCall H (gc_lawdiff_ChangedRules fu _ _) (fun _ => .inl rfl) ?_; clear H; intro _ H; conv => whnf)
  | (refine eCall H (gc_law51_has fu _ _) (fun _ => .inl rfl) ?_; clear H; intro _ H; conv => whnf)
  | (refine eLoop (m_law51_LawdiffSymmetry_L1 _ _ _ _) [5, 6] [] (fun i_11 => [(7, vDc (iD (nI i_11)))]) (fun i_11 => []) H (by refine Le.sub rfl ?_ ?_; (repeat' (first | exact trivial | rfl | exact inc64' (by assumption) | refine And.intro ?_ ?_ | (show D.bool _ = D.bool _; simp [*]; done)))) ?_; clear H; intro n x H; obtain _ | n := n; rw [m_law51_LawdiffSymmetry_L1] at H; cases H; rw [m_law51_LawdiffSymmetry_L1] at H; conv => whnf)
  | (refine ⟨(_, _), H, ?_, Nat.lt_succ_self _⟩; refine Le.sub rfl ?_ ?_; (repeat' (first | exact trivial | rfl | exact inc64' (by assumption) | refine And.intro ?_ ?_ | (show D.bool _ = D.bool _; simp [*]; done))); done)

theorem gc_law51_LawdiffOneRule (fu : Nat) (a : MLaw) (scope : Int) (ruleV : Int) (source : BA) (r_ : Bool) (H : m_law51_LawdiffOneRule fu a scope ruleV source = some r_) : Go.Ab.Fn Try.prog 11 [.agg (cLaw a), .c (.int .u8 scope), .c (.int .u8 ruleV), .c (.str source)] (.s (.c (.d (.bool r_)))) [] := by
 refine Go.Ab.Fn.intro htab hm Try.func11 rfl Try.call11 (by kernel_rfl) 118 Try.ntmps11 rfl (fun hr => ?_)
 unfold m_law51_LawdiffOneRule at H
 conv => whnf
 repeat' first
  | (obtain rfl := Option.some.inj H; (repeat' (first | exact trivial | rfl | refine And.intro ?_ ?_ | (show D.bool _ = D.bool _; simp [*]; done))); done)
  | (refine cT (by with_reducible assumption) ?_; conv => whnf)
  | (refine cF (by with_reducible assumption) ?_; conv => whnf)
  | (refine condP_intro ?_ ?_ <;> intro q <;> (try rw [q] at H) <;> conv => whnf)
  | (refine eIx H ?_; clear H; intro _ _ H; conv => whnf)
  | (refine eIo H ?_; clear H; intro _ _ H; conv => whnf)
  | (refine eSt (f := cRule) (fun v x => (MRule.mk x.name x.df x.parent x.prio x.valid x.guard x.value v)) _ (by assumption) (by dsimp only [cRule, MRule.fr, MRule.to, MRow.fr, MRow.to]; rfl) ?_; conv => whnf)
  | (refine eSt (f := cScope) (fun v x => (MScope.mk v.1 v.2.1 v.2.2.1 v.2.2.2.1 v.2.2.2.2)) (_, _, _, _, _) (by assumption) (by dsimp only [cScope, MRule.fr, MRule.to, MRow.fr, MRow.to]; rfl) ?_; conv => whnf)
  | (refine eRd (by assumption) ?_; conv => whnf)
  | (refine eNz H ?_; clear H; intro H; conv => whnf)
  | (refine eAp (f := cRule) H rfl rfl (by decide) ?_; clear H; intro _ H; conv => whnf)
  | (refine eAp (f := cScope) H rfl rfl (by decide) ?_; clear H; intro _ H; conv => whnf)
  | (refine eCall H (gc_same_SmallLaw fu _) (fun _ => .inl rfl) ?_; clear H; intro _ H; conv => whnf)
  | (refine eCall H (gc_law51_awake fu) (fun _ => .inl rfl) ?_; clear H; intro _ H; conv => whnf)
  | (refine eCall H (gc_ref17_IsValid fu _) (fun _ => .inl rfl) ?_; clear H; intro _ H; conv => whnf)
  | (refine Or.inr ?_; (conv => whnf); refine eCall H (gc_lawdiff_ChangedRules fu _ _) (fun _ => .inl rfl) ?_; clear H; intro _ H; conv => whnf)

end Go.Proofs.Ytllfapkcniadgaa
