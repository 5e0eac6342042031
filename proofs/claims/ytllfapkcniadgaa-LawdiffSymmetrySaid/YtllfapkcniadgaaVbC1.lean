/- Contracts: the functions answer as their models, by my generator. -/
import Derived.Test.YtllfapkcniadgaaVbC0
set_option linter.unusedVariables false
set_option linter.unusedSimpArgs false
set_option maxRecDepth 100000
set_option maxHeartbeats 4000000
namespace Go.Proofs.Ytllfapkcniadgaa
open Go Go.Ab

theorem gc_ref10_meaning (fu : Nat) (op : Int) (r_ : Bool) (H : m_ref10_meaning fu op = some r_) : Go.Ab.Fn Try.prog 113 [.c (iD op)] (.s (.c (.d (.bool r_)))) [] := by
 refine Go.Ab.Fn.intro htab hm Try.func113 rfl Try.call113 (by kernel_rfl) 35 Try.ntmps113 rfl (fun hr => ?_)
 unfold m_ref10_meaning at H
 conv => whnf
 repeat' first
  | (obtain rfl := Option.some.inj H; (repeat' (first | exact trivial | rfl | refine And.intro ?_ ?_ | (show D.bool _ = D.bool _; simp [*]; done))); done)
  | (refine cT (by with_reducible assumption) ?_; conv => whnf)
  | (refine cF (by with_reducible assumption) ?_; conv => whnf)
  | (refine condP_intro ?_ ?_ <;> intro q <;> (try rw [q] at H) <;> conv => whnf)

theorem gc_ref10_kind (fu : Nat) (k : Int) (r_ : MTy) (H : m_ref10_kind fu k = some r_) : Go.Ab.Fn Try.prog 119 [.c (iD k)] (.s (.agg (List.map C.d (cTy r_)))) [] := by
 refine Go.Ab.Fn.intro htab hm Try.func119 rfl Try.call119 (by kernel_rfl) 5 Try.ntmps119 rfl (fun hr => ?_)
 unfold m_ref10_kind at H
 conv => whnf
 repeat' first
  | (obtain rfl := Option.some.inj H; (repeat' (first | exact trivial | rfl | refine And.intro ?_ ?_ | (show D.bool _ = D.bool _; simp [*]; done))); done)
  | (refine cT (by with_reducible assumption) ?_; conv => whnf)
  | (refine cF (by with_reducible assumption) ?_; conv => whnf)
  | (refine condP_intro ?_ ?_ <;> intro q <;> (try rw [q] at H) <;> conv => whnf)

theorem gc_ref10_ranged (fu : Nat) (nV : MNode) (s : MSignature) (r_ : Bool) (H : m_ref10_ranged fu nV s = some r_) : Go.Ab.Fn Try.prog 114 [.agg (cNode nV), .agg (cSignature s)] (.s (.c (.d (.bool r_)))) [] := by
 refine Go.Ab.Fn.intro htab hm Try.func114 rfl Try.call114 (by kernel_rfl) 62 Try.ntmps114 rfl (fun hr => ?_)
 unfold m_ref10_ranged at H
 conv => whnf
 repeat' first
  | (obtain rfl := Option.some.inj H; (repeat' (first | exact trivial | rfl | refine And.intro ?_ ?_ | (show D.bool _ = D.bool _; simp [*]; done))); done)
  | (refine cT (by with_reducible assumption) ?_; conv => whnf)
  | (refine cF (by with_reducible assumption) ?_; conv => whnf)
  | (refine condP_intro ?_ ?_ <;> intro q <;> (try rw [q] at H) <;> conv => whnf)
  | (refine ⟨by decide, ?_⟩; conv => whnf)
  | (refine eCall H (gc_ref10_kind fu _) (fun _ => .inl rfl) ?_; clear H; intro _ H; conv => whnf)
  | (refine eCall H (gc_ref09_Bounds fu _ _) (fun _ => .inl rfl) ?_; clear H; intro _ H; conv => whnf)

theorem gc_ref10_found (fu : Nat) (nV : MNode) (s : MSignature) (r_ : Bool) (H : m_ref10_found fu nV s = some r_) : Go.Ab.Fn Try.prog 115 [.agg (cNode nV), .agg (cSignature s)] (.s (.c (.d (.bool r_)))) [] := by
 refine Go.Ab.Fn.intro htab hm Try.func115 rfl Try.call115 (by kernel_rfl) 103 Try.ntmps115 rfl (fun hr => ?_)
 unfold m_ref10_found at H
 conv => whnf
 repeat' first
  | (obtain rfl := Option.some.inj H; (repeat' (first | exact trivial | rfl | refine And.intro ?_ ?_ | (show D.bool _ = D.bool _; simp [*]; done))); done)
  | (refine cT (by with_reducible assumption) ?_; conv => whnf)
  | (refine cF (by with_reducible assumption) ?_; conv => whnf)
  | (refine condP_intro ?_ ?_ <;> intro q <;> (try rw [q] at H) <;> conv => whnf)
  | (refine eIx H ?_; clear H; intro _ _ H; conv => whnf)
  | (refine ⟨by decide, ?_⟩; conv => whnf)

theorem gc_ref10_number (fu : Nat) (k : Int) (r_ : Bool) (H : m_ref10_number fu k = some r_) : Go.Ab.Fn Try.prog 121 [.c (iD k)] (.s (.c (.d (.bool r_)))) [] := by
 refine Go.Ab.Fn.intro htab hm Try.func121 rfl Try.call121 (by kernel_rfl) 13 Try.ntmps121 rfl (fun hr => ?_)
 unfold m_ref10_number at H
 conv => whnf
 repeat' first
  | (obtain rfl := Option.some.inj H; (repeat' (first | exact trivial | rfl | refine And.intro ?_ ?_ | (show D.bool _ = D.bool _; simp [*]; done))); done)
  | (refine cT (by with_reducible assumption) ?_; conv => whnf)
  | (refine cF (by with_reducible assumption) ?_; conv => whnf)
  | (refine condP_intro ?_ ?_ <;> intro q <;> (try rw [q] at H) <;> conv => whnf)

theorem gc_ref10_ordered (fu : Nat) (k : Int) (r_ : Bool) (H : m_ref10_ordered fu k = some r_) : Go.Ab.Fn Try.prog 120 [.c (iD k)] (.s (.c (.d (.bool r_)))) [] := by
 refine Go.Ab.Fn.intro htab hm Try.func120 rfl Try.call120 (by kernel_rfl) 9 Try.ntmps120 rfl (fun hr => ?_)
 unfold m_ref10_ordered at H
 conv => whnf
 repeat' first
  | (obtain rfl := Option.some.inj H; (repeat' (first | exact trivial | rfl | refine And.intro ?_ ?_ | (show D.bool _ = D.bool _; simp [*]; done))); done)
  | (refine cT (by with_reducible assumption) ?_; conv => whnf)
  | (refine cF (by with_reducible assumption) ?_; conv => whnf)
  | (refine condP_intro ?_ ?_ <;> intro q <;> (try rw [q] at H) <;> conv => whnf)
  | (refine eCall H (gc_ref10_number fu _) (fun _ => .inl rfl) ?_; clear H; intro _ H; conv => whnf)

theorem gc_ref10_leaf (fu : Nat) (nV : MNode) (s : MSignature) (r_ : (MTy × Bool)) (H : m_ref10_leaf fu nV s = some r_) : Go.Ab.Fn Try.prog 116 [.agg (cNode nV), .agg (cSignature s)] (.tup [.agg (List.map C.d (cTy r_.1)), .c (.d (.bool r_.2))]) [] := by
 refine Go.Ab.Fn.intro htab hm Try.func116 rfl Try.call116 (by kernel_rfl) 91 Try.ntmps116 rfl (fun hr => ?_)
 unfold m_ref10_leaf at H
 conv => whnf
 repeat' first
  | (obtain rfl := Option.some.inj H; (repeat' (first | exact trivial | rfl | refine And.intro ?_ ?_ | (show D.bool _ = D.bool _; simp [*]; done))); done)
  | (refine cT (by with_reducible assumption) ?_; conv => whnf)
  | (refine cF (by with_reducible assumption) ?_; conv => whnf)
  | (refine condP_intro ?_ ?_ <;> intro q <;> (try rw [q] at H) <;> conv => whnf)
  | (refine eIx H ?_; clear H; intro _ _ H; conv => whnf)
  | (refine ⟨by decide, ?_⟩; conv => whnf)
  | (refine eCall H (gc_ref09_ValidType fu _ _) (fun _ => .inl rfl) ?_; clear H; intro _ H; conv => whnf)
  | (refine eCall H (gc_ref10_ordered fu _) (fun _ => .inl rfl) ?_; clear H; intro _ H; conv => whnf)
  | (refine eCall H (gc_ref10_kind fu _) (fun _ => .inl rfl) ?_; clear H; intro _ H; conv => whnf)

theorem gc_ref10_single (fu : Nat) (nV : MNode) (a : MTy) (s : MSignature) (r_ : (MTy × Bool)) (H : m_ref10_single fu nV a s = some r_) : Go.Ab.Fn Try.prog 117 [.agg (cNode nV), .agg (cTy a), .agg (cSignature s)] (.tup [.agg (List.map C.d (cTy r_.1)), .c (.d (.bool r_.2))]) [] := by
 refine Go.Ab.Fn.intro htab hm Try.func117 rfl Try.call117 (by kernel_rfl) 82 Try.ntmps117 rfl (fun hr => ?_)
 unfold m_ref10_single at H
 conv => whnf
 repeat' first
  | (obtain rfl := Option.some.inj H; (repeat' (first | exact trivial | rfl | refine And.intro ?_ ?_ | (show D.bool _ = D.bool _; simp [*]; done))); done)
  | (refine cT (by with_reducible assumption) ?_; conv => whnf)
  | (refine cF (by with_reducible assumption) ?_; conv => whnf)
  | (refine condP_intro ?_ ?_ <;> intro q <;> (try rw [q] at H) <;> conv => whnf)
  | (refine eIx H ?_; clear H; intro _ _ H; conv => whnf)
  | (refine ⟨by decide, ?_⟩; conv => whnf)
  | (refine eCall H (gc_ref10_number fu _) (fun _ => .inl rfl) ?_; clear H; intro _ H; conv => whnf)
  | (refine eCall H (gc_ref10_kind fu _) (fun _ => .inl rfl) ?_; clear H; intro _ H; conv => whnf)
  | (refine eCall H (gc_ref09_ValidType fu _ _) (fun _ => .inl rfl) ?_; clear H; intro _ H; conv => whnf)

theorem gc_ref10_scaled (fu : Nat) (op : Int) (a : Int) (b : Int) (r_ : (MTy × Bool)) (H : m_ref10_scaled fu op a b = some r_) : Go.Ab.Fn Try.prog 122 [.c (iD op), .c (iD a), .c (iD b)] (.tup [.agg (List.map C.d (cTy r_.1)), .c (.d (.bool r_.2))]) [] := by
 refine Go.Ab.Fn.intro htab hm Try.func122 rfl Try.call122 (by kernel_rfl) 56 Try.ntmps122 rfl (fun hr => ?_)
 unfold m_ref10_scaled at H
 conv => whnf
 repeat' first
  | (obtain rfl := Option.some.inj H; (repeat' (first | exact trivial | rfl | refine And.intro ?_ ?_ | (show D.bool _ = D.bool _; simp [*]; done))); done)
  | (refine cT (by with_reducible assumption) ?_; conv => whnf)
  | (refine cF (by with_reducible assumption) ?_; conv => whnf)
  | (refine condP_intro ?_ ?_ <;> intro q <;> (try rw [q] at H) <;> conv => whnf)
  | (refine eCall H (gc_ref10_kind fu _) (fun _ => .inl rfl) ?_; clear H; intro _ H; conv => whnf)

theorem gc_ref10_double (fu : Nat) (op : Int) (a : MTy) (b : MTy) (r_ : (MTy × Bool)) (H : m_ref10_double fu op a b = some r_) : Go.Ab.Fn Try.prog 118 [.c (iD op), .agg (cTy a), .agg (cTy b)] (.tup [.agg (List.map C.d (cTy r_.1)), .c (.d (.bool r_.2))]) [] := by
 refine Go.Ab.Fn.intro htab hm Try.func118 rfl Try.call118 (by kernel_rfl) 108 Try.ntmps118 rfl (fun hr => ?_)
 unfold m_ref10_double at H
 conv => whnf
 repeat' first
  | (obtain rfl := Option.some.inj H; (repeat' (first | exact trivial | rfl | refine And.intro ?_ ?_ | (show D.bool _ = D.bool _; simp [*]; done))); done)
  | (refine cT (by with_reducible assumption) ?_; conv => whnf)
  | (refine cF (by with_reducible assumption) ?_; conv => whnf)
  | (refine condP_intro ?_ ?_ <;> intro q <;> (try rw [q] at H) <;> conv => whnf)
  | (refine eCall H (gc_ref10_number fu _) (fun _ => .inl rfl) ?_; clear H; intro _ H; conv => whnf)
  | (refine eCall H (gc_ref10_scaled fu _ _ _) (fun _ => .inl rfl) ?_; clear H; intro _ H; conv => whnf)
  | (refine eCall H (gc_ref10_ordered fu _) (fun _ => .inl rfl) ?_; clear H; intro _ H; conv => whnf)
  | (refine eCall H (gc_ref10_kind fu _) (fun _ => .inl rfl) ?_; clear H; intro _ H; conv => whnf)

theorem gc_ref10_Result (fu : Nat) (nV : MNode) (l : (List MTy)) (s : MSignature) (r_ : (MTy × Int)) (H : m_ref10_Result fu nV l s = some r_) : Go.Ab.Fn Try.prog 111 [.agg (cNode nV), .c (.slice 2 (List.map cTy l)), .agg (cSignature s)] (.tup [.agg (List.map C.d (cTy r_.1)), .c (.d (iD r_.2))]) [] := by
 refine Go.Ab.Fn.intro htab hm Try.func111 rfl Try.call111 (by kernel_rfl) 87 Try.ntmps111 rfl (fun hr => ?_)
 unfold m_ref10_Result at H
 conv => whnf
 repeat' first
  | (obtain rfl := Option.some.inj H; (repeat' (first | exact trivial | rfl | refine And.intro ?_ ?_ | (show D.bool _ = D.bool _; simp [*]; done))); done)
  | (refine cT (by with_reducible assumption) ?_; conv => whnf)
  | (refine cF (by with_reducible assumption) ?_; conv => whnf)
  | (refine condP_intro ?_ ?_ <;> intro q <;> (try rw [q] at H) <;> conv => whnf)
  | (refine eIx H ?_; clear H; intro _ _ H; conv => whnf)
  | (refine eCall H (gc_ref10_meaning fu _) (fun _ => .inl rfl) ?_; clear H; intro _ H; conv => whnf)
  | (refine eCall H (gc_ref10_ranged fu _ _) (fun _ => .inl rfl) ?_; clear H; intro _ H; conv => whnf)
  | (refine eCall H (gc_ref10_found fu _ _) (fun _ => .inl rfl) ?_; clear H; intro _ H; conv => whnf)
  | (refine eCall H (gc_ref10_leaf fu _ _) (fun _ => .inl rfl) ?_; clear H; intro _ H; conv => whnf)
  | (refine eCall H (gc_ref10_single fu _ _ _) (fun _ => .inl rfl) ?_; clear H; intro _ H; conv => whnf)
  | (refine eCall H (gc_ref10_double fu _ _ _) (fun _ => .inl rfl) ?_; clear H; intro _ H; conv => whnf)

theorem gc_ref10_TypeOf (fu : Nat) (e : (List MNode)) (s : MSignature) (r_ : (MTy × Int × Int)) (H : m_ref10_TypeOf fu e s = some r_) : Go.Ab.Fn Try.prog 105 [.c (.slice 2 (List.map cNode e)), .agg (cSignature s)] (.tup [.agg (List.map C.d (cTy r_.1)), .c (.d (iD r_.2.1)), .c (.d (iD r_.2.2))]) [] := by
 refine Go.Ab.Fn.intro htab hm Try.func105 rfl Try.call105 (by kernel_rfl) 67 Try.ntmps105 rfl (fun hr => ?_)
 unfold m_ref10_TypeOf at H
 conv => whnf
 repeat' first
  | (obtain rfl := Option.some.inj H; (repeat' (first | exact trivial | rfl | refine And.intro ?_ ?_ | (show D.bool _ = D.bool _; simp [*]; done))); done)
  | (refine cT (by with_reducible assumption) ?_; conv => whnf)
  | (refine cF (by with_reducible assumption) ?_; conv => whnf)
  | (refine condP_intro ?_ ?_ <;> intro q <;> (try rw [q] at H) <;> conv => whnf)
  | (replace H := cnt_some H; obtain ⟨_, H⟩ := H)
  | (refine eIx H ?_; clear H; intro _ _ H; conv => whnf)
  | (refine eIo H ?_; clear H; intro _ _ H; conv => whnf)
  | (refine eRd (by assumption) ?_; conv => whnf)
  | (refine eAp (f := cTy) H (sl_map (by assumption)) rfl (by decide) ?_; clear H; intro _ H; conv => whnf)
  | (refine eCall H (gc_ref10_structure fu _) (fun _ => .inl rfl) ?_; clear H; intro _ H; conv => whnf)
  | (refine eCall H (gc_ref10_Arity fu _) (fun _ => .inl rfl) ?_; clear H; intro _ H; conv => whnf)
  | (refine eSl (f := cTy) H ?_; clear H; intro _ _ H; conv => whnf)
  | (rw [sl_map (f := cTy) (by assumption)]; refine eCall H (gc_ref10_Result fu _ _ _) (fun _ => .inr ⟨rfl, rfl⟩) ?_; clear H; intro _ H; conv => whnf)
  | (refine eLoop (m_ref10_TypeOf_L1 _ _ _ _) [0, 3, 4] [24, 32] (fun (stack_2, i_3) => [(10, .s (.c (.own 160080 2))), (11, vDc (iD (nI i_3)))]) (fun (stack_2, i_3) => [(160080, .row 72 2 (List.map cTy stack_2))]) H (by refine Le.sub rfl ?_ ?_; (repeat' (first | exact trivial | rfl | exact inc64' (by assumption) | refine And.intro ?_ ?_ | (show D.bool _ = D.bool _; simp [*]; done)))) ?_; clear H; intro n x H; obtain _ | n := n; rw [m_ref10_TypeOf_L1] at H; cases H; obtain ⟨_, _⟩ := x; rw [m_ref10_TypeOf_L1] at H; conv => whnf)
  | (refine ⟨(_, _), H, ?_, Nat.lt_succ_self _⟩; refine Le.sub rfl ?_ ?_; (repeat' (first | exact trivial | rfl | exact inc64' (by assumption) | refine And.intro ?_ ?_ | (show D.bool _ = D.bool _; simp [*]; done))); done)

theorem gc_ref17_exprError (fu : Nat) (e : (List MNode)) (s : MSignature) (want : MTy) (r_ : Int) (H : m_ref17_exprError fu e s want = some r_) : Go.Ab.Fn Try.prog 98 [.c (.slice 2 (List.map cNode e)), .agg (cSignature s), .agg (cTy want)] (.s (.c (.d (iD r_)))) [] := by
 refine Go.Ab.Fn.intro htab hm Try.func98 rfl Try.call98 (by kernel_rfl) 23 Try.ntmps98 rfl (fun hr => ?_)
 unfold m_ref17_exprError at H
 conv => whnf
 repeat' first
  | (obtain rfl := Option.some.inj H; (repeat' (first | exact trivial | rfl | refine And.intro ?_ ?_ | (show D.bool _ = D.bool _; simp [*]; done))); done)
  | (refine cT (by with_reducible assumption) ?_; conv => whnf)
  | (refine cF (by with_reducible assumption) ?_; conv => whnf)
  | (refine condP_intro ?_ ?_ <;> intro q <;> (try rw [q] at H) <;> conv => whnf)
  | (refine eCall H (gc_ref10_TypeOf fu _ _) (fun _ => .inl rfl) ?_; clear H; intro _ H; conv => whnf)

theorem gc_ref17_ruleError (fu : Nat) (l : MLaw) (atV : Int) (k : Int) (r_ : Int) (H : m_ref17_ruleError fu l atV k = some r_) : Go.Ab.Fn Try.prog 84 [.agg (cLaw l), .c (iD atV), .c (iD k)] (.s (.c (.d (iD r_)))) [] := by
 refine Go.Ab.Fn.intro htab hm Try.func84 rfl Try.call84 (by kernel_rfl) 144 Try.ntmps84 rfl (fun hr => ?_)
 unfold m_ref17_ruleError at H
 conv => whnf
 repeat' first
  | (obtain rfl := Option.some.inj H; (repeat' (first | exact trivial | rfl | refine And.intro ?_ ?_ | (show D.bool _ = D.bool _; simp [*]; done))); done)
  | (refine cT (by with_reducible assumption) ?_; conv => whnf)
  | (refine cF (by with_reducible assumption) ?_; conv => whnf)
  | (refine condP_intro ?_ ?_ <;> intro q <;> (try rw [q] at H) <;> conv => whnf)
  | (replace H := cnt_some H; obtain ⟨_, H⟩ := H)
  | (refine eIx H ?_; clear H; intro _ _ H; conv => whnf)
  | (refine eCall H (gc_ref08_IsIdentifier fu _) (fun _ => .inl rfl) ?_; clear H; intro _ H; conv => whnf)
  | (refine eCall H (gc_ref05_Valid fu _) (fun _ => .inl rfl) ?_; clear H; intro _ H; conv => whnf)
  | (refine eCall H (gc_ref17_plainText fu _) (fun _ => .inl rfl) ?_; clear H; intro _ H; conv => whnf)
  | (refine eCall H (gc_ref17_Signature fu _ _) (fun _ => .inl rfl) ?_; clear H; intro _ H; conv => whnf)
  | (refine eCall H (gc_ref17_exprError fu _ _ _) (fun _ => .inl rfl) ?_; clear H; intro _ H; conv => whnf)
  | (refine eLoop (m_ref17_ruleError_L1 _ _ _ _) [1, 2, 3, 7, 8] [24, 56, 64] (fun (siblings_4, i_5) => [(9, vDc (iD siblings_4)), (10, vDc (iD (nI i_5)))]) (fun (siblings_4, i_5) => []) H (by refine Le.sub rfl ?_ ?_; (repeat' (first | exact trivial | rfl | exact inc64' (by assumption) | refine And.intro ?_ ?_ | (show D.bool _ = D.bool _; simp [*]; done)))) ?_; clear H; intro n x H; obtain _ | n := n; rw [m_ref17_ruleError_L1] at H; cases H; obtain ⟨_, _⟩ := x; rw [m_ref17_ruleError_L1] at H; conv => whnf)
  | (refine ⟨(_, _), H, ?_, Nat.lt_succ_self _⟩; refine Le.sub rfl ?_ ?_; (repeat' (first | exact trivial | rfl | exact inc64' (by assumption) | refine And.intro ?_ ?_ | (show D.bool _ = D.bool _; simp [*]; done))); done)

theorem gc_ref16_is (fu : Nat) (s : MScope) (defV : Int) (r_ : Bool) (H : m_ref16_is fu s defV = some r_) : Go.Ab.Fn Try.prog 106 [.agg (cScope s), .c (iD defV)] (.s (.c (.d (.bool r_)))) [] := by
 refine Go.Ab.Fn.intro htab hm Try.func106 rfl Try.call106 (by kernel_rfl) 14 Try.ntmps106 rfl (fun hr => ?_)
 unfold m_ref16_is at H
 conv => whnf
 repeat' first
  | (obtain rfl := Option.some.inj H; (repeat' (first | exact trivial | rfl | refine And.intro ?_ ?_ | (show D.bool _ = D.bool _; simp [*]; done))); done)
  | (refine cT (by with_reducible assumption) ?_; conv => whnf)
  | (refine cF (by with_reducible assumption) ?_; conv => whnf)
  | (refine condP_intro ?_ ?_ <;> intro q <;> (try rw [q] at H) <;> conv => whnf)

theorem gc_ref10_insert (fu : Nat) (l : (List Int)) (nV : Int) (r_ : (List Int)) (H : m_ref10_insert fu l nV = some r_) : Go.Ab.Fn Try.prog 112 [.c (.slice 1 (List.map cInt l)), .c (iD nV)] (.s (.c (.own 0 1))) [(0, .row 3 1 (List.map cInt r_))] := by
 refine Go.Ab.Fn.intro htab hm Try.func112 rfl Try.call112 (by kernel_rfl) 48 Try.ntmps112 rfl (fun hr => ?_)
 unfold m_ref10_insert at H
 conv => whnf
 repeat' first
  | (obtain rfl := Option.some.inj H; (repeat' (first | exact trivial | rfl | refine And.intro ?_ ?_ | (show D.bool _ = D.bool _; simp [*]; done))); done)
  | (refine cT (by with_reducible assumption) ?_; conv => whnf)
  | (refine cF (by with_reducible assumption) ?_; conv => whnf)
  | (refine condP_intro ?_ ?_ <;> intro q <;> (try rw [q] at H) <;> conv => whnf)
  | (replace H := cnt_some H; obtain ⟨_, H⟩ := H)
  | (refine eIx H ?_; clear H; intro _ _ H; conv => whnf)
  | (refine eAp (f := cInt) H rfl rfl (by decide) ?_; clear H; intro _ H; conv => whnf)
  | (refine eLoop (m_ref10_insert_L1 _ _ _) [0, 1] [] (fun (out_1, done_2, i_3) => [(5, .s (.c (.own 160040 1))), (6, vDc (.bool done_2)), (7, vDc (iD (nI i_3)))]) (fun (out_1, done_2, i_3) => [(160040, .row 3 1 (List.map cInt out_1))]) H (by refine Le.sub rfl ?_ ?_; (repeat' (first | exact trivial | rfl | exact inc64' (by assumption) | refine And.intro ?_ ?_ | (show D.bool _ = D.bool _; simp [*]; done)))) ?_; clear H; intro n x H; obtain _ | n := n; rw [m_ref10_insert_L1] at H; cases H; obtain ⟨_, _, _⟩ := x; rw [m_ref10_insert_L1] at H; conv => whnf)
  | (refine ⟨(_, _), H, ?_, Nat.lt_succ_self _⟩; refine Le.sub rfl ?_ ?_; (repeat' (first | exact trivial | rfl | exact inc64' (by assumption) | refine And.intro ?_ ?_ | (show D.bool _ = D.bool _; simp [*]; done))); done)

theorem gc_ref10_References (fu : Nat) (e : (List MNode)) (r_ : ((List Int) × (List Int) × (List Int))) (H : m_ref10_References fu e = some r_) : Go.Ab.Fn Try.prog 107 [.c (.slice 2 (List.map cNode e))] (.tup [.c (.own 0 1), .c (.own 1 1), .c (.own 2 1)]) [(0, .row 3 1 (List.map cInt r_.1)), (1, .row 3 1 (List.map cInt r_.2.1)), (2, .row 3 1 (List.map cInt r_.2.2))] := by
 refine Go.Ab.Fn.intro htab hm Try.func107 rfl Try.call107 (by kernel_rfl) 55 Try.ntmps107 rfl (fun hr => ?_)
 unfold m_ref10_References at H
 conv => whnf
 repeat' first
  | (obtain rfl := Option.some.inj H; (repeat' (first | exact trivial | rfl | refine And.intro ?_ ?_ | (show D.bool _ = D.bool _; simp [*]; done))); done)
  | (refine cT (by with_reducible assumption) ?_; conv => whnf)
  | (refine cF (by with_reducible assumption) ?_; conv => whnf)
  | (refine condP_intro ?_ ?_ <;> intro q <;> (try rw [q] at H) <;> conv => whnf)
  | (replace H := cnt_some H; obtain ⟨_, H⟩ := H)
  | (refine eIx H ?_; clear H; intro _ _ H; conv => whnf)
  | (refine Or.inr ?_; (conv => whnf); refine eCall H (gc_ref10_insert fu _ _) (fun _ => .inl rfl) ?_; clear H; intro _ H; conv => whnf)
  | (refine eLoop (m_ref10_References_L1 _ _ _) [0] [] (fun (a_1, b_2, c_3, i_4) => [(5, .s (.c (.own 160040 1))), (6, .s (.c (.own 160048 1))), (7, .s (.c (.own 160056 1))), (8, vDc (iD (nI i_4)))]) (fun (a_1, b_2, c_3, i_4) => [(160040, .row 3 1 (List.map cInt a_1)), (160048, .row 3 1 (List.map cInt b_2)), (160056, .row 3 1 (List.map cInt c_3))]) H (by refine Le.sub rfl ?_ ?_; (repeat' (first | exact trivial | rfl | exact inc64' (by assumption) | refine And.intro ?_ ?_ | (show D.bool _ = D.bool _; simp [*]; done)))) ?_; clear H; intro n x H; obtain _ | n := n; rw [m_ref10_References_L1] at H; cases H; obtain ⟨_, _, _, _⟩ := x; rw [m_ref10_References_L1] at H; conv => whnf)
  | (refine ⟨(_, _), H, ?_, Nat.lt_succ_self _⟩; refine (Le.swap 232 160040 _).trans ((Le.swap 304 160048 _).trans ((Le.swap 408 160056 _).trans (Le.sub rfl ?_ ?_))); (repeat' (first | exact trivial | rfl | exact inc64' (by assumption) | refine And.intro ?_ ?_ | (show D.bool _ = D.bool _; simp [*]; done))); done)
  | (refine ⟨(_, _), H, ?_, Nat.lt_succ_self _⟩; refine (Le.swap 232 160040 _).trans ((Le.swap 304 160048 _).trans (Le.sub rfl ?_ ?_)); (repeat' (first | exact trivial | rfl | exact inc64' (by assumption) | refine And.intro ?_ ?_ | (show D.bool _ = D.bool _; simp [*]; done))); done)
  | (refine ⟨(_, _), H, ?_, Nat.lt_succ_self _⟩; refine (Le.swap 232 160040 _).trans ((Le.swap 408 160056 _).trans (Le.sub rfl ?_ ?_)); (repeat' (first | exact trivial | rfl | exact inc64' (by assumption) | refine And.intro ?_ ?_ | (show D.bool _ = D.bool _; simp [*]; done))); done)
  | (refine ⟨(_, _), H, ?_, Nat.lt_succ_self _⟩; refine (Le.swap 232 160040 _).trans (Le.sub rfl ?_ ?_); (repeat' (first | exact trivial | rfl | exact inc64' (by assumption) | refine And.intro ?_ ?_ | (show D.bool _ = D.bool _; simp [*]; done))); done)
  | (refine ⟨(_, _), H, ?_, Nat.lt_succ_self _⟩; refine (Le.swap 304 160048 _).trans ((Le.swap 408 160056 _).trans (Le.sub rfl ?_ ?_)); (repeat' (first | exact trivial | rfl | exact inc64' (by assumption) | refine And.intro ?_ ?_ | (show D.bool _ = D.bool _; simp [*]; done))); done)
  | (refine ⟨(_, _), H, ?_, Nat.lt_succ_self _⟩; refine (Le.swap 304 160048 _).trans (Le.sub rfl ?_ ?_); (repeat' (first | exact trivial | rfl | exact inc64' (by assumption) | refine And.intro ?_ ?_ | (show D.bool _ = D.bool _; simp [*]; done))); done)
  | (refine ⟨(_, _), H, ?_, Nat.lt_succ_self _⟩; refine (Le.swap 408 160056 _).trans (Le.sub rfl ?_ ?_); (repeat' (first | exact trivial | rfl | exact inc64' (by assumption) | refine And.intro ?_ ?_ | (show D.bool _ = D.bool _; simp [*]; done))); done)
  | (refine ⟨(_, _), H, ?_, Nat.lt_succ_self _⟩; refine Le.sub rfl ?_ ?_; (repeat' (first | exact trivial | rfl | exact inc64' (by assumption) | refine And.intro ?_ ?_ | (show D.bool _ = D.bool _; simp [*]; done))); done)

theorem gc_ref16_insert (fu : Nat) (l : (List Int)) (nV : Int) (r_ : (List Int)) (H : m_ref16_insert fu l nV = some r_) : Go.Ab.Fn Try.prog 100 [.c (.slice 1 (List.map cInt l)), .c (iD nV)] (.s (.c (.own 0 1))) [(0, .row 3 1 (List.map cInt r_))] := by
 refine Go.Ab.Fn.intro htab hm Try.func100 rfl Try.call100 (by kernel_rfl) 48 Try.ntmps100 rfl (fun hr => ?_)
 unfold m_ref16_insert at H
 conv => whnf
 repeat' first
  | (obtain rfl := Option.some.inj H; (repeat' (first | exact trivial | rfl | refine And.intro ?_ ?_ | (show D.bool _ = D.bool _; simp [*]; done))); done)
  | (refine cT (by with_reducible assumption) ?_; conv => whnf)
  | (refine cF (by with_reducible assumption) ?_; conv => whnf)
  | (refine condP_intro ?_ ?_ <;> intro q <;> (try rw [q] at H) <;> conv => whnf)
  | (replace H := cnt_some H; obtain ⟨_, H⟩ := H)
  | (refine eIx H ?_; clear H; intro _ _ H; conv => whnf)
  | (refine eAp (f := cInt) H rfl rfl (by decide) ?_; clear H; intro _ H; conv => whnf)
  | (refine eLoop (m_ref16_insert_L1 _ _ _) [0, 1] [] (fun (out_1, done_2, i_3) => [(5, .s (.c (.own 160040 1))), (6, vDc (.bool done_2)), (7, vDc (iD (nI i_3)))]) (fun (out_1, done_2, i_3) => [(160040, .row 3 1 (List.map cInt out_1))]) H (by refine Le.sub rfl ?_ ?_; (repeat' (first | exact trivial | rfl | exact inc64' (by assumption) | refine And.intro ?_ ?_ | (show D.bool _ = D.bool _; simp [*]; done)))) ?_; clear H; intro n x H; obtain _ | n := n; rw [m_ref16_insert_L1] at H; cases H; obtain ⟨_, _, _⟩ := x; rw [m_ref16_insert_L1] at H; conv => whnf)
  | (refine ⟨(_, _), H, ?_, Nat.lt_succ_self _⟩; refine Le.sub rfl ?_ ?_; (repeat' (first | exact trivial | rfl | exact inc64' (by assumption) | refine And.intro ?_ ?_ | (show D.bool _ = D.bool _; simp [*]; done))); done)

theorem gc_ref16_Direct (fu : Nat) (s : MScope) (defV : Int) (r_ : (List Int)) (H : m_ref16_Direct fu s defV = some r_) : Go.Ab.Fn Try.prog 99 [.agg (cScope s), .c (iD defV)] (.s (.c (.own 0 1))) [(0, .row 3 1 (List.map cInt r_))] := by
 refine Go.Ab.Fn.intro htab hm Try.func99 rfl Try.call99 (by kernel_rfl) 93 Try.ntmps99 rfl (fun hr => ?_)
 unfold m_ref16_Direct at H
 conv => whnf
 repeat' first
  | (obtain rfl := Option.some.inj H; (repeat' (first | exact trivial | rfl | refine And.intro ?_ ?_ | (show D.bool _ = D.bool _; simp [*]; done))); done)
  | (refine cT (by with_reducible assumption) ?_; conv => whnf)
  | (refine cF (by with_reducible assumption) ?_; conv => whnf)
  | (refine condP_intro ?_ ?_ <;> intro q <;> (try rw [q] at H) <;> conv => whnf)
  | (replace H := cnt_some H; obtain ⟨_, H⟩ := H)
  | (refine eIx H ?_; clear H; intro _ _ H; conv => whnf)
  | (refine eIo H ?_; clear H; intro _ _ H; conv => whnf)
  | (refine eRd (by assumption) ?_; conv => whnf)
  | (refine eCall H (gc_ref16_is fu _ _) (fun _ => .inl rfl) ?_; clear H; intro _ H; conv => whnf)
  | (refine eCall H (gc_ref10_References fu _) (fun _ => .inl rfl) ?_; clear H; intro _ H; conv => whnf)
  | (refine Or.inr ?_; (conv => whnf); refine eCall H (gc_ref16_insert fu _ _) (fun _ => .inl rfl) ?_; clear H; intro _ H; conv => whnf)
  | (refine eLoop (m_ref16_Direct_L3 _ _ _ _) [1, 2, 6, 11] [16, 417] (fun (out_18, k_19) => [(5, .s (.c (.own 160040 1))), (14, vDc (iD (nI k_19)))]) (fun (out_18, k_19) => [(160040, .row 3 1 (List.map cInt out_18))]) H (by refine Le.sub rfl ?_ ?_; (repeat' (first | exact trivial | rfl | exact inc64' (by assumption) | refine And.intro ?_ ?_ | (show D.bool _ = D.bool _; simp [*]; done)))) ?_; clear H; intro n x H; obtain _ | n := n; rw [m_ref16_Direct_L3] at H; cases H; obtain ⟨_, _⟩ := x; rw [m_ref16_Direct_L3] at H; conv => whnf)
  | (refine ⟨(_, _), H, ?_, Nat.lt_succ_self _⟩; refine (Le.swap 728 160040 _).trans (Le.sub rfl ?_ ?_); (repeat' (first | exact trivial | rfl | exact inc64' (by assumption) | refine And.intro ?_ ?_ | (show D.bool _ = D.bool _; simp [*]; done))); done)
  | (refine ⟨(_, _), H, ?_, Nat.lt_succ_self _⟩; refine Le.sub rfl ?_ ?_; (repeat' (first | exact trivial | rfl | exact inc64' (by assumption) | refine And.intro ?_ ?_ | (show D.bool _ = D.bool _; simp [*]; done))); done)
  | (refine eLoop (m_ref16_Direct_L2 _ _ _ _) [1, 2, 6, 8, 11] [16, 329, 417] (fun (out_10, k_11) => [(5, .s (.c (.own 160040 1))), (13, vDc (iD (nI k_11)))]) (fun (out_10, k_11) => [(160040, .row 3 1 (List.map cInt out_10))]) H (by refine Le.sub rfl ?_ ?_; (repeat' (first | exact trivial | rfl | exact inc64' (by assumption) | refine And.intro ?_ ?_ | (show D.bool _ = D.bool _; simp [*]; done)))) ?_; clear H; intro n x H; obtain _ | n := n; rw [m_ref16_Direct_L2] at H; cases H; obtain ⟨_, _⟩ := x; rw [m_ref16_Direct_L2] at H; conv => whnf)
  | (refine ⟨(_, _), H, ?_, Nat.lt_succ_self _⟩; refine (Le.swap 584 160040 _).trans (Le.sub rfl ?_ ?_); (repeat' (first | exact trivial | rfl | exact inc64' (by assumption) | refine And.intro ?_ ?_ | (show D.bool _ = D.bool _; simp [*]; done))); done)
  | (refine eLoop (m_ref16_Direct_L1 _ _ _ _) [1, 2] [16] (fun (out_2, i_3) => [(5, .s (.c (.own 160040 1))), (6, vDc (iD (nI i_3)))]) (fun (out_2, i_3) => [(160040, .row 3 1 (List.map cInt out_2))]) H (by refine Le.sub rfl ?_ ?_; (repeat' (first | exact trivial | rfl | exact inc64' (by assumption) | refine And.intro ?_ ?_ | (show D.bool _ = D.bool _; simp [*]; done)))) ?_; clear H; intro n x H; obtain _ | n := n; rw [m_ref16_Direct_L1] at H; cases H; obtain ⟨_, _⟩ := x; rw [m_ref16_Direct_L1] at H; conv => whnf)

theorem gc_ref16_Transitive (fu : Nat) (s : MScope) (defV : Int) (r_ : (List Int)) (H : m_ref16_Transitive fu s defV = some r_) : Go.Ab.Fn Try.prog 85 [.agg (cScope s), .c (iD defV)] (.s (.c (.d (.slice 1 (List.map cInt r_))))) [] := by
 refine Go.Ab.Fn.intro htab hm Try.func85 rfl Try.call85 (by kernel_rfl) 47 Try.ntmps85 rfl (fun hr => ?_)
 unfold m_ref16_Transitive at H
 conv => whnf
 repeat' first
  | (obtain rfl := Option.some.inj H; (repeat' (first | exact trivial | rfl | refine And.intro ?_ ?_ | (show D.bool _ = D.bool _; simp [*]; done))); done)
  | (refine cT (by with_reducible assumption) ?_; conv => whnf)
  | (refine cF (by with_reducible assumption) ?_; conv => whnf)
  | (refine condP_intro ?_ ?_ <;> intro q <;> (try rw [q] at H) <;> conv => whnf)
  | (replace H := cnt_some H; obtain ⟨_, H⟩ := H)
  | (refine eIx H ?_; clear H; intro _ _ H; conv => whnf)
  | (refine eIo H ?_; clear H; intro _ _ H; conv => whnf)
  | (refine eRd (by assumption) ?_; conv => whnf)
  | (refine eCall H (gc_ref16_Direct fu _ _) (fun _ => .inl rfl) ?_; clear H; intro _ H; conv => whnf)
  | (refine eCall H (gc_ref16_insert fu _ _) (fun _ => .inl rfl) ?_; clear H; intro _ H; conv => whnf)
  | (refine eLoop (m_ref16_Transitive_L3 _ _ _) [2, 6, 7, 8, 9] [16, 264] (fun (out_10, k_11) => [(5, vDc (.slice 1 (List.map cInt out_10))), (10, vDc (iD (nI k_11)))]) (fun (out_10, k_11) => []) H (by refine Le.sub rfl ?_ ?_; (repeat' (first | exact trivial | rfl | exact inc64' (by assumption) | refine And.intro ?_ ?_ | (show D.bool _ = D.bool _; simp [*]; done)))) ?_; clear H; intro n x H; obtain _ | n := n; rw [m_ref16_Transitive_L3] at H; cases H; obtain ⟨_, _⟩ := x; rw [m_ref16_Transitive_L3] at H; conv => whnf)
  | (refine ⟨(_, _), H, ?_, Nat.lt_succ_self _⟩; refine (Le.commit (inL [360]) _).trans (Le.sub rfl ?_ ?_); (repeat' (first | exact trivial | rfl | exact inc64' (by assumption) | refine And.intro ?_ ?_ | (show D.bool _ = D.bool _; simp [*]; done))); done)
  | (refine eLoop (m_ref16_Transitive_L2 _ _ _ _) [2, 6, 7] [16] (fun (out_5, i_6) => [(5, vDc (.slice 1 (List.map cInt out_5))), (8, vDc (iD (nI i_6)))]) (fun (out_5, i_6) => []) H (by refine Le.sub rfl ?_ ?_; (repeat' (first | exact trivial | rfl | exact inc64' (by assumption) | refine And.intro ?_ ?_ | (show D.bool _ = D.bool _; simp [*]; done)))) ?_; clear H; intro n x H; obtain _ | n := n; rw [m_ref16_Transitive_L2] at H; cases H; obtain ⟨_, _⟩ := x; rw [m_ref16_Transitive_L2] at H; conv => whnf)
  | (refine ⟨(_, _), H, ?_, Nat.lt_succ_self _⟩; refine Le.sub rfl ?_ ?_; (repeat' (first | exact trivial | rfl | exact inc64' (by assumption) | refine And.intro ?_ ?_ | (show D.bool _ = D.bool _; simp [*]; done))); done)
  | (refine eLoop (m_ref16_Transitive_L1 _ _ _) [2] [16] (fun (out_2, round_3) => [(5, vDc (.slice 1 (List.map cInt out_2))), (6, vDc (iD (nI round_3)))]) (fun (out_2, round_3) => []) H (by refine (Le.commit (inL [104]) _).trans (Le.sub rfl ?_ ?_); (repeat' (first | exact trivial | rfl | exact inc64' (by assumption) | refine And.intro ?_ ?_ | (show D.bool _ = D.bool _; simp [*]; done)))) ?_; clear H; intro n x H; obtain _ | n := n; rw [m_ref16_Transitive_L1] at H; cases H; obtain ⟨_, _⟩ := x; rw [m_ref16_Transitive_L1] at H; conv => whnf)

end Go.Proofs.Ytllfapkcniadgaa
