/- Contracts: the functions answer as their models, by my generator. -/
import Derived.Test.YtllfapkcniadgaaVbM
import Derived.Test.YtllfapkcniadgaaTpTab
import Derived.Test.YtllfapkcniadgaaTpDiff4
import Derived.Test.YtllfapkcniadgaaTpLaw3
import Derived.Test.YtllfapkcniadgaaTpAwake
import Derived.Test.YtllfapkcniadgaaTpSmall
set_option linter.unusedVariables false
set_option linter.unusedSimpArgs false
set_option maxRecDepth 100000
set_option maxHeartbeats 4000000
namespace Go.Proofs.Ytllfapkcniadgaa
open Go Go.Ab

theorem gc_ref08_lower (fu : Nat) (cV : Int) (r_ : Bool) (H : m_ref08_lower fu cV = some r_) : Go.Ab.Fn Try.prog 88 [.c (.int .u8 cV)] (.s (.c (.d (.bool r_)))) [] := by
 refine Go.Ab.Fn.intro htab hm Try.func88 rfl Try.call88 (by kernel_rfl) 9 Try.ntmps88 rfl (fun hr => ?_)
 unfold m_ref08_lower at H
 conv => whnf
 repeat' first
  | (obtain rfl := Option.some.inj H; (repeat' (first | exact trivial | rfl | refine And.intro ?_ ?_ | (show D.bool _ = D.bool _; simp [*]; done))); done)
  | (refine cT (by with_reducible assumption) ?_; conv => whnf)
  | (refine cF (by with_reducible assumption) ?_; conv => whnf)
  | (refine condP_intro ?_ ?_ <;> intro q <;> (try rw [q] at H) <;> conv => whnf)

theorem gc_ref08_digit (fu : Nat) (cV : Int) (r_ : Bool) (H : m_ref08_digit fu cV = some r_) : Go.Ab.Fn Try.prog 101 [.c (.int .u8 cV)] (.s (.c (.d (.bool r_)))) [] := by
 refine Go.Ab.Fn.intro htab hm Try.func101 rfl Try.call101 (by kernel_rfl) 9 Try.ntmps101 rfl (fun hr => ?_)
 unfold m_ref08_digit at H
 conv => whnf
 repeat' first
  | (obtain rfl := Option.some.inj H; (repeat' (first | exact trivial | rfl | refine And.intro ?_ ?_ | (show D.bool _ = D.bool _; simp [*]; done))); done)
  | (refine cT (by with_reducible assumption) ?_; conv => whnf)
  | (refine cF (by with_reducible assumption) ?_; conv => whnf)
  | (refine condP_intro ?_ ?_ <;> intro q <;> (try rw [q] at H) <;> conv => whnf)

theorem gc_ref08_word (fu : Nat) (cV : Int) (r_ : Bool) (H : m_ref08_word fu cV = some r_) : Go.Ab.Fn Try.prog 89 [.c (.int .u8 cV)] (.s (.c (.d (.bool r_)))) [] := by
 refine Go.Ab.Fn.intro htab hm Try.func89 rfl Try.call89 (by kernel_rfl) 13 Try.ntmps89 rfl (fun hr => ?_)
 unfold m_ref08_word at H
 conv => whnf
 repeat' first
  | (obtain rfl := Option.some.inj H; (repeat' (first | exact trivial | rfl | refine And.intro ?_ ?_ | (show D.bool _ = D.bool _; simp [*]; done))); done)
  | (refine cT (by with_reducible assumption) ?_; conv => whnf)
  | (refine cF (by with_reducible assumption) ?_; conv => whnf)
  | (refine condP_intro ?_ ?_ <;> intro q <;> (try rw [q] at H) <;> conv => whnf)
  | (refine eCall H (gc_ref08_lower fu _) (fun _ => .inl rfl) ?_; clear H; intro _ H; conv => whnf)
  | (refine eCall H (gc_ref08_digit fu _) (fun _ => .inl rfl) ?_; clear H; intro _ H; conv => whnf)

theorem gc_ref08_Reserved (fu : Nat) (r_ : (List BA)) (H : m_ref08_Reserved fu = some r_) : Go.Ab.Fn Try.prog 90 [] (.s (.c (.own 0 1))) [(0, .row 9 1 (List.map cStr r_))] := by
 refine Go.Ab.Fn.intro htab hm Try.func90 rfl Try.call90 (by kernel_rfl) 2 Try.ntmps90 rfl (fun hr => ?_)
 unfold m_ref08_Reserved at H
 conv => whnf
 repeat' first
  | (obtain rfl := Option.some.inj H; (repeat' (first | exact trivial | rfl | refine And.intro ?_ ?_ | (show D.bool _ = D.bool _; simp [*]; done))); done)
  | (refine cT (by with_reducible assumption) ?_; conv => whnf)
  | (refine cF (by with_reducible assumption) ?_; conv => whnf)
  | (refine condP_intro ?_ ?_ <;> intro q <;> (try rw [q] at H) <;> conv => whnf)

theorem gc_ref08_IsIdentifier (fu : Nat) (s : BA) (r_ : Bool) (H : m_ref08_IsIdentifier fu s = some r_) : Go.Ab.Fn Try.prog 80 [.c (.str s)] (.s (.c (.d (.bool r_)))) [] := by
 refine Go.Ab.Fn.intro htab hm Try.func80 rfl Try.call80 (by kernel_rfl) 44 Try.ntmps80 rfl (fun hr => ?_)
 unfold m_ref08_IsIdentifier at H
 conv => whnf
 repeat' first
  | (obtain rfl := Option.some.inj H; (repeat' (first | exact trivial | rfl | refine And.intro ?_ ?_ | (show D.bool _ = D.bool _; simp [*]; done))); done)
  | (refine cT (by with_reducible assumption) ?_; conv => whnf)
  | (refine cF (by with_reducible assumption) ?_; conv => whnf)
  | (refine condP_intro ?_ ?_ <;> intro q <;> (try rw [q] at H) <;> conv => whnf)
  | (replace H := cnt_some H; obtain ⟨_, H⟩ := H)
  | (refine eIo H ?_; clear H; intro _ _ H; conv => whnf)
  | (refine eRd (by assumption) ?_; conv => whnf)
  | (refine eStr H ?_; clear H; intro _ H; conv => whnf)
  | (refine eCall H (gc_ref08_lower fu _) (fun _ => .inl rfl) ?_; clear H; intro _ H; conv => whnf)
  | (refine eCall H (gc_ref08_word fu _) (fun _ => .inl rfl) ?_; clear H; intro _ H; conv => whnf)
  | (refine eCall H (gc_ref08_Reserved fu) (fun _ => .inl rfl) ?_; clear H; intro _ H; conv => whnf)
  | (refine eLoop (m_ref08_IsIdentifier_L2 _ _ _) [0, 4] [248] (fun i_9 => [(5, vDc (iD (nI i_9)))]) (fun i_9 => []) H (by refine Le.sub rfl ?_ ?_; (repeat' (first | exact trivial | rfl | exact inc64' (by assumption) | refine And.intro ?_ ?_ | (show D.bool _ = D.bool _; simp [*]; done)))) ?_; clear H; intro n x H; obtain _ | n := n; rw [m_ref08_IsIdentifier_L2] at H; cases H; rw [m_ref08_IsIdentifier_L2] at H; conv => whnf)
  | (refine ⟨(_, _), H, ?_, Nat.lt_succ_self _⟩; refine Le.sub rfl ?_ ?_; (repeat' (first | exact trivial | rfl | exact inc64' (by assumption) | refine And.intro ?_ ?_ | (show D.bool _ = D.bool _; simp [*]; done))); done)
  | (refine eLoop (m_ref08_IsIdentifier_L1 _ _ _) [0] [] (fun i_3 => [(3, vDc (iD (nI i_3)))]) (fun i_3 => []) H (by refine Le.sub rfl ?_ ?_; (repeat' (first | exact trivial | rfl | exact inc64' (by assumption) | refine And.intro ?_ ?_ | (show D.bool _ = D.bool _; simp [*]; done)))) ?_; clear H; intro n x H; obtain _ | n := n; rw [m_ref08_IsIdentifier_L1] at H; cases H; rw [m_ref08_IsIdentifier_L1] at H; conv => whnf)

theorem gc_ref17_nameTaken (fu : Nat) (l : MLaw) (sectionV : Int) (item : Int) (name : BA) (r_ : Bool) (H : m_ref17_nameTaken fu l sectionV item name = some r_) : Go.Ab.Fn Try.prog 81 [.agg (cLaw l), .c (iD sectionV), .c (iD item), .c (.str name)] (.s (.c (.d (.bool r_)))) [] := by
 refine Go.Ab.Fn.intro htab hm Try.func81 rfl Try.call81 (by kernel_rfl) 88 Try.ntmps81 rfl (fun hr => ?_)
 unfold m_ref17_nameTaken at H
 conv => whnf
 repeat' first
  | (obtain rfl := Option.some.inj H; (repeat' (first | exact trivial | rfl | refine And.intro ?_ ?_ | (show D.bool _ = D.bool _; simp [*]; done))); done)
  | (refine cT (by with_reducible assumption) ?_; conv => whnf)
  | (refine cF (by with_reducible assumption) ?_; conv => whnf)
  | (refine condP_intro ?_ ?_ <;> intro q <;> (try rw [q] at H) <;> conv => whnf)
  | (replace H := cnt_some H; obtain ⟨_, H⟩ := H)
  | (refine eIx H ?_; clear H; intro _ _ H; conv => whnf)
  | (refine eLoop (m_ref17_nameTaken_L3 _ _ _ _ _) [1, 2, 3, 4] [32] (fun i_9 => [(11, vDc (iD (nI i_9)))]) (fun i_9 => []) H (by refine Le.sub rfl ?_ ?_; (repeat' (first | exact trivial | rfl | exact inc64' (by assumption) | refine And.intro ?_ ?_ | (show D.bool _ = D.bool _; simp [*]; done)))) ?_; clear H; intro n x H; obtain _ | n := n; rw [m_ref17_nameTaken_L3] at H; cases H; rw [m_ref17_nameTaken_L3] at H; conv => whnf)
  | (refine ⟨(_, _), H, ?_, Nat.lt_succ_self _⟩; refine Le.sub rfl ?_ ?_; (repeat' (first | exact trivial | rfl | exact inc64' (by assumption) | refine And.intro ?_ ?_ | (show D.bool _ = D.bool _; simp [*]; done))); done)
  | (refine eLoop (m_ref17_nameTaken_L2 _ _ _ _ _) [1, 2, 3, 4] [32] (fun i_5 => [(10, vDc (iD (nI i_5)))]) (fun i_5 => []) H (by refine Le.sub rfl ?_ ?_; (repeat' (first | exact trivial | rfl | exact inc64' (by assumption) | refine And.intro ?_ ?_ | (show D.bool _ = D.bool _; simp [*]; done)))) ?_; clear H; intro n x H; obtain _ | n := n; rw [m_ref17_nameTaken_L2] at H; cases H; rw [m_ref17_nameTaken_L2] at H; conv => whnf)
  | (refine eLoop (m_ref17_nameTaken_L1 _ _ _ _ _) [1, 2, 3, 4] [32] (fun i_1 => [(9, vDc (iD (nI i_1)))]) (fun i_1 => []) H (by refine Le.sub rfl ?_ ?_; (repeat' (first | exact trivial | rfl | exact inc64' (by assumption) | refine And.intro ?_ ?_ | (show D.bool _ = D.bool _; simp [*]; done)))) ?_; clear H; intro n x H; obtain _ | n := n; rw [m_ref17_nameTaken_L1] at H; cases H; rw [m_ref17_nameTaken_L1] at H; conv => whnf)

theorem gc_ref17_enumError (fu : Nat) (l : MLaw) (atV : Int) (r_ : MLawError) (H : m_ref17_enumError fu l atV = some r_) : Go.Ab.Fn Try.prog 66 [.agg (cLaw l), .c (iD atV)] (.s (.agg (List.map C.d (cLawError r_)))) [] := by
 refine Go.Ab.Fn.intro htab hm Try.func66 rfl Try.call66 (by kernel_rfl) 80 Try.ntmps66 rfl (fun hr => ?_)
 unfold m_ref17_enumError at H
 conv => whnf
 repeat' first
  | (obtain rfl := Option.some.inj H; (repeat' (first | exact trivial | rfl | refine And.intro ?_ ?_ | (show D.bool _ = D.bool _; simp [*]; done))); done)
  | (refine cT (by with_reducible assumption) ?_; conv => whnf)
  | (refine cF (by with_reducible assumption) ?_; conv => whnf)
  | (refine condP_intro ?_ ?_ <;> intro q <;> (try rw [q] at H) <;> conv => whnf)
  | (replace H := cnt_some H; obtain ⟨_, H⟩ := H)
  | (refine eIx H ?_; clear H; intro _ _ H; conv => whnf)
  | (refine eCall H (gc_ref08_IsIdentifier fu _) (fun _ => .inl rfl) ?_; clear H; intro _ H; conv => whnf)
  | (refine eCall H (gc_ref17_nameTaken fu _ _ _ _) (fun _ => .inl rfl) ?_; clear H; intro _ H; conv => whnf)
  | (refine eLoop (m_ref17_enumError_L2 _ _ _ _) [4, 5, 6, 7] [32, 40, 48] (fun k_9 => [(8, vDc (iD (nI k_9)))]) (fun k_9 => []) H (by refine Le.sub rfl ?_ ?_; (repeat' (first | exact trivial | rfl | exact inc64' (by assumption) | refine And.intro ?_ ?_ | (show D.bool _ = D.bool _; simp [*]; done)))) ?_; clear H; intro n x H; obtain _ | n := n; rw [m_ref17_enumError_L2] at H; cases H; rw [m_ref17_enumError_L2] at H; conv => whnf)
  | (refine ⟨(_, _), H, ?_, Nat.lt_succ_self _⟩; refine Le.sub rfl ?_ ?_; (repeat' (first | exact trivial | rfl | exact inc64' (by assumption) | refine And.intro ?_ ?_ | (show D.bool _ = D.bool _; simp [*]; done))); done)
  | (refine eLoop (m_ref17_enumError_L1 _ _ _) [4, 5, 6] [32, 40] (fun (i_4, ob_5) => [(7, vDc (iD (nI i_4)))]) (fun (i_4, ob_5) => [(48, .var (List.map C.d (cLawError ob_5)))]) H (by refine Le.sub rfl ?_ ?_; (repeat' (first | exact trivial | rfl | exact inc64' (by assumption) | refine And.intro ?_ ?_ | (show D.bool _ = D.bool _; simp [*]; done)))) ?_; clear H; intro n x H; obtain _ | n := n; rw [m_ref17_enumError_L1] at H; cases H; obtain ⟨_, _⟩ := x; rw [m_ref17_enumError_L1] at H; conv => whnf)

theorem gc_ref09_ValidType (fu : Nat) (t : MTy) (enums : (List MEnum)) (r_ : Bool) (H : m_ref09_ValidType fu t enums = some r_) : Go.Ab.Fn Try.prog 91 [.agg (cTy t), .c (.slice 2 (List.map cEnum enums))] (.s (.c (.d (.bool r_)))) [] := by
 refine Go.Ab.Fn.intro htab hm Try.func91 rfl Try.call91 (by kernel_rfl) 31 Try.ntmps91 rfl (fun hr => ?_)
 unfold m_ref09_ValidType at H
 conv => whnf
 repeat' first
  | (obtain rfl := Option.some.inj H; (repeat' (first | exact trivial | rfl | refine And.intro ?_ ?_ | (show D.bool _ = D.bool _; simp [*]; done))); done)
  | (refine cT (by with_reducible assumption) ?_; conv => whnf)
  | (refine cF (by with_reducible assumption) ?_; conv => whnf)
  | (refine condP_intro ?_ ?_ <;> intro q <;> (try rw [q] at H) <;> conv => whnf)

theorem gc_ref05_Valid (fu : Nat) (rV : MRange) (r_ : Bool) (H : m_ref05_Valid fu rV = some r_) : Go.Ab.Fn Try.prog 95 [.agg (cRange rV)] (.s (.c (.d (.bool r_)))) [] := by
 refine Go.Ab.Fn.intro htab hm Try.func95 rfl Try.call95 (by kernel_rfl) 18 Try.ntmps95 rfl (fun hr => ?_)
 unfold m_ref05_Valid at H
 conv => whnf
 repeat' first
  | (obtain rfl := Option.some.inj H; (repeat' (first | exact trivial | rfl | refine And.intro ?_ ?_ | (show D.bool _ = D.bool _; simp [*]; done))); done)
  | (refine cT (by with_reducible assumption) ?_; conv => whnf)
  | (refine cF (by with_reducible assumption) ?_; conv => whnf)
  | (refine condP_intro ?_ ?_ <;> intro q <;> (try rw [q] at H) <;> conv => whnf)

theorem gc_ref09_Bounds (fu : Nat) (t : MTy) (enums : (List MEnum)) (r_ : (Int × Int)) (H : m_ref09_Bounds fu t enums = some r_) : Go.Ab.Fn Try.prog 108 [.agg (cTy t), .c (.slice 2 (List.map cEnum enums))] (.tup [.c (.d (iD r_.1)), .c (.d (iD r_.2))]) [] := by
 refine Go.Ab.Fn.intro htab hm Try.func108 rfl Try.call108 (by kernel_rfl) 30 Try.ntmps108 rfl (fun hr => ?_)
 unfold m_ref09_Bounds at H
 conv => whnf
 repeat' first
  | (obtain rfl := Option.some.inj H; (repeat' (first | exact trivial | rfl | refine And.intro ?_ ?_ | (show D.bool _ = D.bool _; simp [*]; done))); done)
  | (refine cT (by with_reducible assumption) ?_; conv => whnf)
  | (refine cF (by with_reducible assumption) ?_; conv => whnf)
  | (refine condP_intro ?_ ?_ <;> intro q <;> (try rw [q] at H) <;> conv => whnf)
  | (refine eIx H ?_; clear H; intro _ _ H; conv => whnf)
  | (refine eCall H (gc_ref09_ValidType fu _ _) (fun _ => .inl rfl) ?_; clear H; intro _ H; conv => whnf)

theorem gc_ref09_In (fu : Nat) (nV : Int) (t : MTy) (enums : (List MEnum)) (r_ : Bool) (H : m_ref09_In fu nV t enums = some r_) : Go.Ab.Fn Try.prog 102 [.c (iD nV), .agg (cTy t), .c (.slice 2 (List.map cEnum enums))] (.s (.c (.d (.bool r_)))) [] := by
 refine Go.Ab.Fn.intro htab hm Try.func102 rfl Try.call102 (by kernel_rfl) 23 Try.ntmps102 rfl (fun hr => ?_)
 unfold m_ref09_In at H
 conv => whnf
 repeat' first
  | (obtain rfl := Option.some.inj H; (repeat' (first | exact trivial | rfl | refine And.intro ?_ ?_ | (show D.bool _ = D.bool _; simp [*]; done))); done)
  | (refine cT (by with_reducible assumption) ?_; conv => whnf)
  | (refine cF (by with_reducible assumption) ?_; conv => whnf)
  | (refine condP_intro ?_ ?_ <;> intro q <;> (try rw [q] at H) <;> conv => whnf)
  | (refine eCall H (gc_ref09_Bounds fu _ _) (fun _ => .inl rfl) ?_; clear H; intro _ H; conv => whnf)

theorem gc_ref12_wrong (fu : Nat) (xV : MRow) (t : MTable) (enums : (List MEnum)) (r_ : Bool) (H : m_ref12_wrong fu xV t enums = some r_) : Go.Ab.Fn Try.prog 92 [.agg (cRow xV), .agg (cTable t), .c (.slice 2 (List.map cEnum enums))] (.s (.c (.d (.bool r_)))) [] := by
 refine Go.Ab.Fn.intro htab hm Try.func92 rfl Try.call92 (by kernel_rfl) 53 Try.ntmps92 rfl (fun hr => ?_)
 unfold m_ref12_wrong at H
 conv => whnf
 repeat' first
  | (obtain rfl := Option.some.inj H; (repeat' (first | exact trivial | rfl | refine And.intro ?_ ?_ | (show D.bool _ = D.bool _; simp [*]; done))); done)
  | (refine cT (by with_reducible assumption) ?_; conv => whnf)
  | (refine cF (by with_reducible assumption) ?_; conv => whnf)
  | (refine condP_intro ?_ ?_ <;> intro q <;> (try rw [q] at H) <;> conv => whnf)
  | (refine eCall H (gc_ref05_Valid fu _) (fun _ => .inl rfl) ?_; clear H; intro _ H; conv => whnf)
  | (refine eCall H (gc_ref09_In fu _ _ _) (fun _ => .inl rfl) ?_; clear H; intro _ H; conv => whnf)

theorem gc_ref05_Intersect (fu : Nat) (a : MRange) (b : MRange) (r_ : (MRange × Bool)) (H : m_ref05_Intersect fu a b = some r_) : Go.Ab.Fn Try.prog 103 [.agg (cRange a), .agg (cRange b)] (.tup [.agg (List.map C.d (cRange r_.1)), .c (.d (.bool r_.2))]) [] := by
 refine Go.Ab.Fn.intro htab hm Try.func103 rfl Try.call103 (by kernel_rfl) 34 Try.ntmps103 rfl (fun hr => ?_)
 unfold m_ref05_Intersect at H
 conv => whnf
 repeat' first
  | (obtain rfl := Option.some.inj H; (repeat' (first | exact trivial | rfl | refine And.intro ?_ ?_ | (show D.bool _ = D.bool _; simp [*]; done))); done)
  | (refine cT (by with_reducible assumption) ?_; conv => whnf)
  | (refine cF (by with_reducible assumption) ?_; conv => whnf)
  | (refine condP_intro ?_ ?_ <;> intro q <;> (try rw [q] at H) <;> conv => whnf)
  | (refine eCall H (gc_ref05_Valid fu _) (fun _ => .inl rfl) ?_; clear H; intro _ H; conv => whnf)

theorem gc_ref12_conflict (fu : Nat) (a : MRow) (b : MRow) (r_ : Bool) (H : m_ref12_conflict fu a b = some r_) : Go.Ab.Fn Try.prog 93 [.agg (cRow a), .agg (cRow b)] (.s (.c (.d (.bool r_)))) [] := by
 refine Go.Ab.Fn.intro htab hm Try.func93 rfl Try.call93 (by kernel_rfl) 29 Try.ntmps93 rfl (fun hr => ?_)
 unfold m_ref12_conflict at H
 conv => whnf
 repeat' first
  | (obtain rfl := Option.some.inj H; (repeat' (first | exact trivial | rfl | refine And.intro ?_ ?_ | (show D.bool _ = D.bool _; simp [*]; done))); done)
  | (refine cT (by with_reducible assumption) ?_; conv => whnf)
  | (refine cF (by with_reducible assumption) ?_; conv => whnf)
  | (refine condP_intro ?_ ?_ <;> intro q <;> (try rw [q] at H) <;> conv => whnf)
  | (refine eCall H (gc_ref05_Intersect fu _ _) (fun _ => .inl rfl) ?_; clear H; intro _ H; conv => whnf)

theorem gc_ref12_Validate (fu : Nat) (t : MTable) (enums : (List MEnum)) (r_ : (Int × Int)) (H : m_ref12_Validate fu t enums = some r_) : Go.Ab.Fn Try.prog 82 [.agg (cTable t), .c (.slice 2 (List.map cEnum enums))] (.tup [.c (.d (iD r_.1)), .c (.d (iD r_.2))]) [] := by
 refine Go.Ab.Fn.intro htab hm Try.func82 rfl Try.call82 (by kernel_rfl) 57 Try.ntmps82 rfl (fun hr => ?_)
 unfold m_ref12_Validate at H
 conv => whnf
 repeat' first
  | (obtain rfl := Option.some.inj H; (repeat' (first | exact trivial | rfl | refine And.intro ?_ ?_ | (show D.bool _ = D.bool _; simp [*]; done))); done)
  | (refine cT (by with_reducible assumption) ?_; conv => whnf)
  | (refine cF (by with_reducible assumption) ?_; conv => whnf)
  | (refine condP_intro ?_ ?_ <;> intro q <;> (try rw [q] at H) <;> conv => whnf)
  | (replace H := cnt_some H; obtain ⟨_, H⟩ := H)
  | (refine eIx H ?_; clear H; intro _ _ H; conv => whnf)
  | (refine eCall H (gc_ref09_ValidType fu _ _) (fun _ => .inl rfl) ?_; clear H; intro _ H; conv => whnf)
  | (refine eCall H (gc_ref12_wrong fu _ _ _) (fun _ => .inl rfl) ?_; clear H; intro _ H; conv => whnf)
  | (refine eCall H (gc_ref12_conflict fu _ _) (fun _ => .inl rfl) ?_; clear H; intro _ H; conv => whnf)
  | (refine eLoop (m_ref12_Validate_L2 _ _ _ _) [1, 2, 6] [16] (fun k_7 => [(7, vDc (iD (nI k_7)))]) (fun k_7 => []) H (by refine Le.sub rfl ?_ ?_; (repeat' (first | exact trivial | rfl | exact inc64' (by assumption) | refine And.intro ?_ ?_ | (show D.bool _ = D.bool _; simp [*]; done)))) ?_; clear H; intro n x H; obtain _ | n := n; rw [m_ref12_Validate_L2] at H; cases H; rw [m_ref12_Validate_L2] at H; conv => whnf)
  | (refine ⟨(_, _), H, ?_, Nat.lt_succ_self _⟩; refine Le.sub rfl ?_ ?_; (repeat' (first | exact trivial | rfl | exact inc64' (by assumption) | refine And.intro ?_ ?_ | (show D.bool _ = D.bool _; simp [*]; done))); done)
  | (refine eLoop (m_ref12_Validate_L1 _ _ _ _) [1, 2] [16] (fun i_3 => [(6, vDc (iD (nI i_3)))]) (fun i_3 => []) H (by refine Le.sub rfl ?_ ?_; (repeat' (first | exact trivial | rfl | exact inc64' (by assumption) | refine And.intro ?_ ?_ | (show D.bool _ = D.bool _; simp [*]; done)))) ?_; clear H; intro n x H; obtain _ | n := n; rw [m_ref12_Validate_L1] at H; cases H; rw [m_ref12_Validate_L1] at H; conv => whnf)

theorem gc_ref17_tableError (fu : Nat) (l : MLaw) (atV : Int) (r_ : MLawError) (H : m_ref17_tableError fu l atV = some r_) : Go.Ab.Fn Try.prog 67 [.agg (cLaw l), .c (iD atV)] (.s (.agg (List.map C.d (cLawError r_)))) [] := by
 refine Go.Ab.Fn.intro htab hm Try.func67 rfl Try.call67 (by kernel_rfl) 47 Try.ntmps67 rfl (fun hr => ?_)
 unfold m_ref17_tableError at H
 conv => whnf
 repeat' first
  | (obtain rfl := Option.some.inj H; (repeat' (first | exact trivial | rfl | refine And.intro ?_ ?_ | (show D.bool _ = D.bool _; simp [*]; done))); done)
  | (refine cT (by with_reducible assumption) ?_; conv => whnf)
  | (refine cF (by with_reducible assumption) ?_; conv => whnf)
  | (refine condP_intro ?_ ?_ <;> intro q <;> (try rw [q] at H) <;> conv => whnf)
  | (refine eIx H ?_; clear H; intro _ _ H; conv => whnf)
  | (refine eCall H (gc_ref08_IsIdentifier fu _) (fun _ => .inl rfl) ?_; clear H; intro _ H; conv => whnf)
  | (refine eCall H (gc_ref17_nameTaken fu _ _ _ _) (fun _ => .inl rfl) ?_; clear H; intro _ H; conv => whnf)
  | (refine eCall H (gc_ref12_Validate fu _ _) (fun _ => .inl rfl) ?_; clear H; intro _ H; conv => whnf)

theorem gc_ref17_hasField (fu : Nat) (l : (List MField)) (nV : Int) (name : BA) (r_ : Bool) (H : m_ref17_hasField fu l nV name = some r_) : Go.Ab.Fn Try.prog 94 [.c (.slice 3 (List.map cField l)), .c (iD nV), .c (.str name)] (.s (.c (.d (.bool r_)))) [] := by
 refine Go.Ab.Fn.intro htab hm Try.func94 rfl Try.call94 (by kernel_rfl) 26 Try.ntmps94 rfl (fun hr => ?_)
 unfold m_ref17_hasField at H
 conv => whnf
 repeat' first
  | (obtain rfl := Option.some.inj H; (repeat' (first | exact trivial | rfl | refine And.intro ?_ ?_ | (show D.bool _ = D.bool _; simp [*]; done))); done)
  | (refine cT (by with_reducible assumption) ?_; conv => whnf)
  | (refine cF (by with_reducible assumption) ?_; conv => whnf)
  | (refine condP_intro ?_ ?_ <;> intro q <;> (try rw [q] at H) <;> conv => whnf)
  | (replace H := cnt_some H; obtain ⟨_, H⟩ := H)
  | (refine eIx H ?_; clear H; intro _ _ H; conv => whnf)
  | (refine eLoop (m_ref17_hasField_L1 _ _ _ _) [0, 1, 2] [] (fun i_1 => [(7, vDc (iD (nI i_1)))]) (fun i_1 => []) H (by refine Le.sub rfl ?_ ?_; (repeat' (first | exact trivial | rfl | exact inc64' (by assumption) | refine And.intro ?_ ?_ | (show D.bool _ = D.bool _; simp [*]; done)))) ?_; clear H; intro n x H; obtain _ | n := n; rw [m_ref17_hasField_L1] at H; cases H; rw [m_ref17_hasField_L1] at H; conv => whnf)
  | (refine ⟨(_, _), H, ?_, Nat.lt_succ_self _⟩; refine Le.sub rfl ?_ ?_; (repeat' (first | exact trivial | rfl | exact inc64' (by assumption) | refine And.intro ?_ ?_ | (show D.bool _ = D.bool _; simp [*]; done))); done)

theorem gc_ref17_fieldError (fu : Nat) (l : MLaw) (atV : Int) (r_ : MLawError) (H : m_ref17_fieldError fu l atV = some r_) : Go.Ab.Fn Try.prog 83 [.agg (cLaw l), .c (iD atV)] (.s (.agg (List.map C.d (cLawError r_)))) [] := by
 refine Go.Ab.Fn.intro htab hm Try.func83 rfl Try.call83 (by kernel_rfl) 122 Try.ntmps83 rfl (fun hr => ?_)
 unfold m_ref17_fieldError at H
 conv => whnf
 repeat' first
  | (obtain rfl := Option.some.inj H; (repeat' (first | exact trivial | rfl | refine And.intro ?_ ?_ | (show D.bool _ = D.bool _; simp [*]; done))); done)
  | (refine cT (by with_reducible assumption) ?_; conv => whnf)
  | (refine cF (by with_reducible assumption) ?_; conv => whnf)
  | (refine condP_intro ?_ ?_ <;> intro q <;> (try rw [q] at H) <;> conv => whnf)
  | (replace H := cnt_some H; obtain ⟨_, H⟩ := H)
  | (refine eIx H ?_; clear H; intro _ _ H; conv => whnf)
  | (refine eCall H (gc_ref08_IsIdentifier fu _) (fun _ => .inl rfl) ?_; clear H; intro _ H; conv => whnf)
  | (refine eCall H (gc_ref17_hasField fu _ _ _) (fun _ => .inl rfl) ?_; clear H; intro _ H; conv => whnf)
  | (refine eCall H (gc_ref09_ValidType fu _ _) (fun _ => .inl rfl) ?_; clear H; intro _ H; conv => whnf)
  | (refine eLoop (m_ref17_fieldError_L2 _ _ _ _ _) [1, 2, 4, 5] [16, 32, 40] (fun i_11 => [(8, vDc (iD (nI i_11)))]) (fun i_11 => []) H (by refine Le.sub rfl ?_ ?_; (repeat' (first | exact trivial | rfl | exact inc64' (by assumption) | refine And.intro ?_ ?_ | (show D.bool _ = D.bool _; simp [*]; done)))) ?_; clear H; intro n x H; obtain _ | n := n; rw [m_ref17_fieldError_L2] at H; cases H; rw [m_ref17_fieldError_L2] at H; conv => whnf)
  | (refine ⟨(_, _), H, ?_, Nat.lt_succ_self _⟩; refine Le.sub rfl ?_ ?_; (repeat' (first | exact trivial | rfl | exact inc64' (by assumption) | refine And.intro ?_ ?_ | (show D.bool _ = D.bool _; simp [*]; done))); done)
  | (refine eLoop (m_ref17_fieldError_L1 _ _ _ _ _) [1, 2, 4, 5] [16, 32, 40] (fun i_2 => [(6, vDc (iD (nI i_2)))]) (fun i_2 => []) H (by refine Le.sub rfl ?_ ?_; (repeat' (first | exact trivial | rfl | exact inc64' (by assumption) | refine And.intro ?_ ?_ | (show D.bool _ = D.bool _; simp [*]; done)))) ?_; clear H; intro n x H; obtain _ | n := n; rw [m_ref17_fieldError_L1] at H; cases H; rw [m_ref17_fieldError_L1] at H; conv => whnf)

theorem gc_ref17_plainText (fu : Nat) (s : BA) (r_ : Bool) (H : m_ref17_plainText fu s = some r_) : Go.Ab.Fn Try.prog 96 [.c (.str s)] (.s (.c (.d (.bool r_)))) [] := by
 refine Go.Ab.Fn.intro htab hm Try.func96 rfl Try.call96 (by kernel_rfl) 29 Try.ntmps96 rfl (fun hr => ?_)
 unfold m_ref17_plainText at H
 conv => whnf
 repeat' first
  | (obtain rfl := Option.some.inj H; (repeat' (first | exact trivial | rfl | refine And.intro ?_ ?_ | (show D.bool _ = D.bool _; simp [*]; done))); done)
  | (refine cT (by with_reducible assumption) ?_; conv => whnf)
  | (refine cF (by with_reducible assumption) ?_; conv => whnf)
  | (refine condP_intro ?_ ?_ <;> intro q <;> (try rw [q] at H) <;> conv => whnf)
  | (replace H := cnt_some H; obtain ⟨_, H⟩ := H)
  | (refine eStr H ?_; clear H; intro _ H; conv => whnf)
  | (refine eLoop (m_ref17_plainText_L1 _ _) [0] [] (fun i_1 => [(3, vDc (iD (nI i_1)))]) (fun i_1 => []) H (by refine Le.sub rfl ?_ ?_; (repeat' (first | exact trivial | rfl | exact inc64' (by assumption) | refine And.intro ?_ ?_ | (show D.bool _ = D.bool _; simp [*]; done)))) ?_; clear H; intro n x H; obtain _ | n := n; rw [m_ref17_plainText_L1] at H; cases H; rw [m_ref17_plainText_L1] at H; conv => whnf)
  | (refine ⟨(_, _), H, ?_, Nat.lt_succ_self _⟩; refine Le.sub rfl ?_ ?_; (repeat' (first | exact trivial | rfl | exact inc64' (by assumption) | refine And.intro ?_ ?_ | (show D.bool _ = D.bool _; simp [*]; done))); done)

theorem gc_ref17_fieldTypes (fu : Nat) (l : (List MField)) (r_ : (List MTy)) (H : m_ref17_fieldTypes fu l = some r_) : Go.Ab.Fn Try.prog 104 [.c (.slice 3 (List.map cField l))] (.s (.c (.own 0 2))) [(0, .row 72 2 (List.map cTy r_))] := by
 refine Go.Ab.Fn.intro htab hm Try.func104 rfl Try.call104 (by kernel_rfl) 20 Try.ntmps104 rfl (fun hr => ?_)
 unfold m_ref17_fieldTypes at H
 conv => whnf
 repeat' first
  | (obtain rfl := Option.some.inj H; (repeat' (first | exact trivial | rfl | refine And.intro ?_ ?_ | (show D.bool _ = D.bool _; simp [*]; done))); done)
  | (refine cT (by with_reducible assumption) ?_; conv => whnf)
  | (refine cF (by with_reducible assumption) ?_; conv => whnf)
  | (refine condP_intro ?_ ?_ <;> intro q <;> (try rw [q] at H) <;> conv => whnf)
  | (replace H := cnt_some H; obtain ⟨_, H⟩ := H)
  | (refine eIx H ?_; clear H; intro _ _ H; conv => whnf)
  | (refine eAp (f := cTy) H rfl rfl (by decide) ?_; clear H; intro _ H; conv => whnf)
  | (refine eLoop (m_ref17_fieldTypes_L1 _ _) [0] [] (fun (out_1, i_2) => [(3, .s (.c (.own 160024 2))), (4, vDc (iD (nI i_2)))]) (fun (out_1, i_2) => [(160024, .row 72 2 (List.map cTy out_1))]) H (by refine Le.sub rfl ?_ ?_; (repeat' (first | exact trivial | rfl | exact inc64' (by assumption) | refine And.intro ?_ ?_ | (show D.bool _ = D.bool _; simp [*]; done)))) ?_; clear H; intro n x H; obtain _ | n := n; rw [m_ref17_fieldTypes_L1] at H; cases H; obtain ⟨_, _⟩ := x; rw [m_ref17_fieldTypes_L1] at H; conv => whnf)
  | (refine ⟨(_, _), H, ?_, Nat.lt_succ_self _⟩; refine Le.sub rfl ?_ ?_; (repeat' (first | exact trivial | rfl | exact inc64' (by assumption) | refine And.intro ?_ ?_ | (show D.bool _ = D.bool _; simp [*]; done))); done)

theorem gc_ref17_Signature (fu : Nat) (l : MLaw) (atV : Int) (r_ : MSignature) (H : m_ref17_Signature fu l atV = some r_) : Go.Ab.Fn Try.prog 97 [.agg (cLaw l), .c (iD atV)] (.s (.agg (List.map C.d (cSignature r_)))) [] := by
 refine Go.Ab.Fn.intro htab hm Try.func97 rfl Try.call97 (by kernel_rfl) 55 Try.ntmps97 rfl (fun hr => ?_)
 unfold m_ref17_Signature at H
 conv => whnf
 repeat' first
  | (obtain rfl := Option.some.inj H; (repeat' (first | exact trivial | rfl | refine And.intro ?_ ?_ | (show D.bool _ = D.bool _; simp [*]; done))); done)
  | (refine cT (by with_reducible assumption) ?_; conv => whnf)
  | (refine cF (by with_reducible assumption) ?_; conv => whnf)
  | (refine condP_intro ?_ ?_ <;> intro q <;> (try rw [q] at H) <;> conv => whnf)
  | (refine eIx H ?_; clear H; intro _ _ H; conv => whnf)
  | (refine eCall H (gc_ref17_fieldTypes fu _) (fun _ => .inl rfl) ?_; clear H; intro _ H; conv => whnf)

theorem gc_ref10_Arity (fu : Nat) (op : Int) (r_ : Int) (H : m_ref10_Arity fu op = some r_) : Go.Ab.Fn Try.prog 110 [.c (iD op)] (.s (.c (.d (iD r_)))) [] := by
 refine Go.Ab.Fn.intro htab hm Try.func110 rfl Try.call110 (by kernel_rfl) 33 Try.ntmps110 rfl (fun hr => ?_)
 unfold m_ref10_Arity at H
 conv => whnf
 repeat' first
  | (obtain rfl := Option.some.inj H; (repeat' (first | exact trivial | rfl | refine And.intro ?_ ?_ | (show D.bool _ = D.bool _; simp [*]; done))); done)
  | (refine cT (by with_reducible assumption) ?_; conv => whnf)
  | (refine cF (by with_reducible assumption) ?_; conv => whnf)
  | (refine condP_intro ?_ ?_ <;> intro q <;> (try rw [q] at H) <;> conv => whnf)

theorem gc_ref10_structure (fu : Nat) (e : (List MNode)) (r_ : ((List Int) × Int × Int)) (H : m_ref10_structure fu e = some r_) : Go.Ab.Fn Try.prog 109 [.c (.slice 2 (List.map cNode e))] (.tup [.c (.own 0 1), .c (.d (iD r_.2.1)), .c (.d (iD r_.2.2))]) [(0, .row 3 1 (List.map cInt r_.1))] := by
 refine Go.Ab.Fn.intro htab hm Try.func109 rfl Try.call109 (by kernel_rfl) 70 Try.ntmps109 rfl (fun hr => ?_)
 unfold m_ref10_structure at H
 conv => whnf
 repeat' first
  | (obtain rfl := Option.some.inj H; (repeat' (first | exact trivial | rfl | refine And.intro ?_ ?_ | (show D.bool _ = D.bool _; simp [*]; done))); done)
  | (refine cT (by with_reducible assumption) ?_; conv => whnf)
  | (refine cF (by with_reducible assumption) ?_; conv => whnf)
  | (refine condP_intro ?_ ?_ <;> intro q <;> (try rw [q] at H) <;> conv => whnf)
  | (replace H := cnt_some H; obtain ⟨_, H⟩ := H)
  | (refine eIx H ?_; clear H; intro _ _ H; conv => whnf)
  | (refine eIo H ?_; clear H; intro _ _ H; conv => whnf)
  | (refine eRd (by assumption) ?_; conv => whnf)
  | (refine eAp (f := cInt) H (sl_map (by assumption)) rfl (by decide) ?_; clear H; intro _ H; conv => whnf)
  | (refine eAp (f := cInt) H rfl rfl (by decide) ?_; clear H; intro _ H; conv => whnf)
  | (refine eCall H (gc_ref10_Arity fu _) (fun _ => .inl rfl) ?_; clear H; intro _ H; conv => whnf)
  | (refine eSl (f := cInt) H ?_; clear H; intro _ _ H; conv => whnf)
  | (refine eLoop (m_ref10_structure_L1 _ _ _) [0] [] (fun (starts_1, stack_2, i_3) => [(5, .s (.c (.own 160040 1))), (6, .s (.c (.own 160048 1))), (7, vDc (iD (nI i_3)))]) (fun (starts_1, stack_2, i_3) => [(160040, .row 3 1 (List.map cInt starts_1)), (160048, .row 3 1 (List.map cInt stack_2))]) H (by refine Le.sub rfl ?_ ?_; (repeat' (first | exact trivial | rfl | exact inc64' (by assumption) | refine And.intro ?_ ?_ | (show D.bool _ = D.bool _; simp [*]; done)))) ?_; clear H; intro n x H; obtain _ | n := n; rw [m_ref10_structure_L1] at H; cases H; obtain ⟨_, _, _⟩ := x; rw [m_ref10_structure_L1] at H; conv => whnf)
  | (refine ⟨(_, _), H, ?_, Nat.lt_succ_self _⟩; refine Le.sub rfl ?_ ?_; (repeat' (first | exact trivial | rfl | exact inc64' (by assumption) | refine And.intro ?_ ?_ | (show D.bool _ = D.bool _; simp [*]; done))); done)

end Go.Proofs.Ytllfapkcniadgaa
