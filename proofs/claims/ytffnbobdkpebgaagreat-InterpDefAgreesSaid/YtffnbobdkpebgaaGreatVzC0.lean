/- Contracts: the functions answer as their models, by my generator. -/
import Derived.Test.YtffnbobdkpebgaaGreatVzM1
import Derived.Test.YtffnbobdkpebgaaGreatTpTab
import Derived.Test.YtffnbobdkpebgaaGreatLibC
set_option linter.unusedVariables false
set_option linter.unusedSimpArgs false
set_option maxRecDepth 100000
set_option maxHeartbeats 4000000
namespace Go.Proofs.YtffnbobdkpebgaaGreat
open Go Go.Ab
theorem gc_same_TinyLaw (fu : Nat) (value : (List MNode)) (r_ : ((List MEnum) × (List MTable) × (List MScope))) (H : m_same_TinyLaw fu value = some r_) : Go.Ab.Fn Tryz.prog 28 [.c ((.slice 2 (List.map cNode value)))] (.s (.agg ([.d (.slice 2 (List.map cEnum r_.1))] ++ [.d (.slice 6 (List.map cTable r_.2.1))] ++ [.own 0 5]))) [(0, .row 77 5 (List.map cScope r_.2.2))] := by
 refine Go.Ab.Fn.intro htab hm Tryz.func28 rfl Tryz.call28 (by kernel_rfl) 22 Tryz.ntmps28 rfl (fun hr => ?_)
 unfold m_same_TinyLaw at H
 conv => whnf
 repeat' first
  | (refine leafI ?_; obtain rfl := Option.some.inj H; (repeat' (first | exact trivial | rfl | refine And.intro ?_ ?_ | (show D.bool _ = D.bool _; simp [*]; done))); done)
  | (refine cK (by with_reducible assumption) (fun q => ?_); (first | with_reducible replace H := hK q H | rw [q] at H | skip); conv => whnf)
  | (refine cBif H (by with_reducible rfl) ?_ ?_ <;> clear H <;> intro q H <;> conv => whnf)
  | (refine condP_intro ?_ ?_ <;> intro q <;> (try rw [q] at H) <;> conv => whnf)
  | (refine Or.inl ?_; conv => whnf)
theorem gc_slices_Clone_182 (fu : Nat) (xs r_ : List BA) (H : m_slices_Clone_182 fu xs = some r_) : Go.Ab.Fn Tryz.prog 182 [.c (.slice 1 (List.map cStr xs))] (.s (.c (.d (.slice 1 (List.map cStr r_))))) [] := by
  obtain ⟨hl, he⟩ := ap_some H
  replace he : r_ = xs := he
  subst he
  generalize hE : List.map cStr r_ = es
  have hb : es.length ≤ 1000000 := by subst hE; rw [List.length_map]; simpa using hl
  refine Go.Ab.Fn.intro htab hm Tryz.func182 rfl Tryz.call182 (by kernel_rfl) 8 Tryz.ntmps182 rfl (fun hr => ?_)
  conv => whnf
  intro b hb'
  conv => whnf
  refine condP_intro (fun h => ?_) (fun h => ?_)
  · conv => whnf
    rw [hb' h]
    exact leafI ⟨trivial, rfl, trivial⟩
  · conv => whnf
    refine ⟨by simp; omega, ?_⟩
    conv => whnf
    exact leafI ⟨trivial, rfl, trivial⟩
theorem gc_slices_Clone_183 (fu : Nat) (xs r_ : List MRow) (H : m_slices_Clone_183 fu xs = some r_) : Go.Ab.Fn Tryz.prog 183 [.c (.slice 5 (List.map cRow xs))] (.s (.c (.d (.slice 5 (List.map cRow r_))))) [] := by
  obtain ⟨hl, he⟩ := ap_some H
  replace he : r_ = xs := he
  subst he
  generalize hE : List.map cRow r_ = es
  have hb : es.length ≤ 1000000 := by subst hE; rw [List.length_map]; simpa using hl
  refine Go.Ab.Fn.intro htab hm Tryz.func183 rfl Tryz.call183 (by kernel_rfl) 8 Tryz.ntmps183 rfl (fun hr => ?_)
  conv => whnf
  intro b hb'
  conv => whnf
  refine condP_intro (fun h => ?_) (fun h => ?_)
  · conv => whnf
    rw [hb' h]
    exact leafI ⟨trivial, rfl, trivial⟩
  · conv => whnf
    refine ⟨by simp; omega, ?_⟩
    conv => whnf
    exact leafI ⟨trivial, rfl, trivial⟩
theorem gc_slices_Clone_155 (fu : Nat) (xs r_ : List MField) (H : m_slices_Clone_155 fu xs = some r_) : Go.Ab.Fn Tryz.prog 155 [.c (.slice 3 (List.map cField xs))] (.s (.c (.d (.slice 3 (List.map cField r_))))) [] := by
  obtain ⟨hl, he⟩ := ap_some H
  replace he : r_ = xs := he
  subst he
  generalize hE : List.map cField r_ = es
  have hb : es.length ≤ 1000000 := by subst hE; rw [List.length_map]; simpa using hl
  refine Go.Ab.Fn.intro htab hm Tryz.func155 rfl Tryz.call155 (by kernel_rfl) 8 Tryz.ntmps155 rfl (fun hr => ?_)
  conv => whnf
  intro b hb'
  conv => whnf
  refine condP_intro (fun h => ?_) (fun h => ?_)
  · conv => whnf
    rw [hb' h]
    exact leafI ⟨trivial, rfl, trivial⟩
  · conv => whnf
    refine ⟨by simp; omega, ?_⟩
    conv => whnf
    exact leafI ⟨trivial, rfl, trivial⟩
theorem gc_slices_Clone_156 (fu : Nat) (xs r_ : List MNode) (H : m_slices_Clone_156 fu xs = some r_) : Go.Ab.Fn Tryz.prog 156 [.c (.slice 2 (List.map cNode xs))] (.s (.c (.d (.slice 2 (List.map cNode r_))))) [] := by
  obtain ⟨hl, he⟩ := ap_some H
  replace he : r_ = xs := he
  subst he
  generalize hE : List.map cNode r_ = es
  have hb : es.length ≤ 1000000 := by subst hE; rw [List.length_map]; simpa using hl
  refine Go.Ab.Fn.intro htab hm Tryz.func156 rfl Tryz.call156 (by kernel_rfl) 8 Tryz.ntmps156 rfl (fun hr => ?_)
  conv => whnf
  intro b hb'
  conv => whnf
  refine condP_intro (fun h => ?_) (fun h => ?_)
  · conv => whnf
    rw [hb' h]
    exact leafI ⟨trivial, rfl, trivial⟩
  · conv => whnf
    refine ⟨by simp; omega, ?_⟩
    conv => whnf
    exact leafI ⟨trivial, rfl, trivial⟩
theorem gc_slices_Clone_110 (fu : Nat) (xs r_ : List Int) (H : m_slices_Clone_110 fu xs = some r_) : Go.Ab.Fn Tryz.prog 110 [.c (.slice 1 (List.map cInt xs))] (.s (.c (.own 0 1))) [(0, .row 3 1 (List.map cInt r_))] := by
  obtain ⟨hl, he⟩ := ap_some H
  replace he : r_ = xs := he
  subst he
  generalize hE : List.map cInt r_ = es
  have hb : es.length ≤ 1000000 := by subst hE; rw [List.length_map]; simpa using hl
  refine Go.Ab.Fn.intro htab hm Tryz.func110 rfl Tryz.call110 (by kernel_rfl) 8 Tryz.ntmps110 rfl (fun hr => ?_)
  conv => whnf
  intro b hb'
  conv => whnf
  refine condP_intro (fun h => ?_) (fun h => ?_)
  · conv => whnf
    rw [hb' h]
    (refine leafI ?_; (repeat' (first | exact trivial | rfl | refine And.intro ?_ ?_)); done)
  · conv => whnf
    refine ⟨by simp; omega, ?_⟩
    conv => whnf
    (refine leafI ?_; (repeat' (first | exact trivial | rfl | refine And.intro ?_ ?_)); done)
theorem gc_slices_Clone_78 (fu : Nat) (xs r_ : List MValue) (H : m_slices_Clone_78 fu xs = some r_) : Go.Ab.Fn Tryz.prog 78 [.c (.slice 3 (List.map cValue xs))] (.s (.c (.own 0 3))) [(0, .row 23 3 (List.map cValue r_))] := by
  obtain ⟨hl, he⟩ := ap_some H
  replace he : r_ = xs := he
  subst he
  generalize hE : List.map cValue r_ = es
  have hb : es.length ≤ 1000000 := by subst hE; rw [List.length_map]; simpa using hl
  refine Go.Ab.Fn.intro htab hm Tryz.func78 rfl Tryz.call78 (by kernel_rfl) 8 Tryz.ntmps78 rfl (fun hr => ?_)
  conv => whnf
  intro b hb'
  conv => whnf
  refine condP_intro (fun h => ?_) (fun h => ?_)
  · conv => whnf
    rw [hb' h]
    (refine leafI ?_; (repeat' (first | exact trivial | rfl | refine And.intro ?_ ?_)); done)
  · conv => whnf
    refine ⟨by simp; omega, ?_⟩
    conv => whnf
    (refine leafI ?_; (repeat' (first | exact trivial | rfl | refine And.intro ?_ ?_)); done)
theorem gg_0 : (∀ (fu : Nat) (i : MImpact) (r_ : Bool) (H : m_impact_IsChanged fu i = some r_), Go.Ab.Fn Tryz.prog 10 [.agg (cImpact i)] (.s (.c (.d (.bool r_)))) []) ∧ (∀ (fu : Nat) (i : MImpact) (r_ : Bool) (H : m_ref52_IsChanged fu i = some r_), Go.Ab.Fn Tryz.prog 11 [.agg (cImpact i)] (.s (.c (.d (.bool r_)))) []) ∧ (∀ (fu : Nat) (code : Int) (sectionV : Int) (item : Int) (element : Int) (r_ : MLawError) (H : m_law_bad fu code sectionV item element = some r_), Go.Ab.Fn Tryz.prog 59 [.c ((iD code)), .c ((iD sectionV)), .c ((iD item)), .c ((iD element))] (.s (.agg (List.map C.d (cLawError r_)))) []) ∧ (∀ (fu : Nat) (b : Int) (r_ : Bool) (H : m_lexer_lower fu b = some r_), Go.Ab.Fn Tryz.prog 135 [.c ((.int .u8 b))] (.s (.c (.d (.bool r_)))) []) ∧ (∀ (fu : Nat) (b : Int) (r_ : Bool) (H : m_lexer_digit fu b = some r_), Go.Ab.Fn Tryz.prog 179 [.c ((.int .u8 b))] (.s (.c (.d (.bool r_)))) []) ∧ (∀ (fu : Nat) (s : (List BA)) (v : BA) (r_ : Int) (H : m_slices_Index_string fu s v = some r_), Go.Ab.Fn Tryz.prog 139 [.c ((.slice 1 (List.map cStr s))), .c ((.str v))] (.s (.c (.d (iD r_)))) []) := by
 refine ⟨fun fu i r_ H => ?_, fun fu i r_ H => ?_, fun fu code sectionV item element r_ H => ?_, fun fu b r_ H => ?_, fun fu b r_ H => ?_, fun fu s v r_ H => ?_⟩
 all_goals first
  | (refine Go.Ab.Fn.intro htab hm Tryz.func10 rfl Tryz.call10 (by kernel_rfl) 20 Tryz.ntmps10 rfl (fun hr => ?_); unfold m_impact_IsChanged at H)
  | (refine Go.Ab.Fn.intro htab hm Tryz.func11 rfl Tryz.call11 (by kernel_rfl) 20 Tryz.ntmps11 rfl (fun hr => ?_); unfold m_ref52_IsChanged at H)
  | (refine Go.Ab.Fn.intro htab hm Tryz.func59 rfl Tryz.call59 (by kernel_rfl) 14 Tryz.ntmps59 rfl (fun hr => ?_); unfold m_law_bad at H)
  | (refine Go.Ab.Fn.intro htab hm Tryz.func135 rfl Tryz.call135 (by kernel_rfl) 9 Tryz.ntmps135 rfl (fun hr => ?_); unfold m_lexer_lower at H)
  | (refine Go.Ab.Fn.intro htab hm Tryz.func179 rfl Tryz.call179 (by kernel_rfl) 9 Tryz.ntmps179 rfl (fun hr => ?_); unfold m_lexer_digit at H)
  | (refine Go.Ab.Fn.intro htab hm Tryz.func139 rfl Tryz.call139 (by kernel_rfl) 19 Tryz.ntmps139 rfl (fun hr => ?_); unfold m_slices_Index_string at H)
 all_goals conv => whnf
 repeat' first
  | (refine leafI ?_; obtain rfl := Option.some.inj H; (repeat' (first | exact trivial | rfl | refine And.intro ?_ ?_ | (show D.bool _ = D.bool _; simp [*]; done))); done)
  | (refine cK (by with_reducible assumption) (fun q => ?_); (first | with_reducible replace H := hK q H | rw [q] at H | skip); conv => whnf)
  | (refine cBif H (by with_reducible rfl) ?_ ?_ <;> clear H <;> intro q H <;> conv => whnf)
  | (refine condP_intro ?_ ?_ <;> intro q <;> (try rw [q] at H) <;> conv => whnf)
  | (replace H := cnt_some H; obtain ⟨_, H⟩ := H)
  | (refine eIx H ?_; clear H; intro _ _ H; conv => whnf)
  | (refine eLoop (m_slices_Index_string_L1 _ _ _) [0, 1, 7] [] (fun t8_1 => [(8, vDc (iD (nI t8_1)))]) (fun t8_1 => []) H (by refine Le.sub rfl ?_ ?_; (repeat' (first | exact trivial | rfl | exact inc64' (by assumption) | refine And.intro ?_ ?_ | (show D.bool _ = D.bool _; simp [*]; done)))) ?_; clear H; intro n x H; obtain _ | n := n; rw [m_slices_Index_string_L1] at H; cases H; rw [m_slices_Index_string_L1] at H; conv => whnf)
  | (refine ⟨(_, _), H, ?_, Nat.lt_succ_self _⟩; refine Le.sub rfl ?_ ?_; (repeat' (first | exact trivial | rfl | exact inc64' (by assumption) | refine And.intro ?_ ?_ | (show D.bool _ = D.bool _; simp [*]; done))); done)
theorem gg_1 : (∀ (fu : Nat) (t : MTy) (enums : (List MEnum)) (r_ : Bool) (H : m_value_ValidType fu t enums = some r_), Go.Ab.Fn Tryz.prog 134 [.agg (cTy t), .c ((.slice 2 (List.map cEnum enums)))] (.s (.c (.d (.bool r_)))) []) ∧ (∀ (fu : Nat) (rV : MRange) (r_ : Bool) (H : m_daterange_Valid fu rV = some r_), Go.Ab.Fn Tryz.prog 127 [.agg (cRange rV)] (.s (.c (.d (.bool r_)))) []) ∧ (∀ (fu : Nat) (l : (List MField)) (r_ : (List BA)) (H : m_law_names fu l = some r_), Go.Ab.Fn Tryz.prog 94 [.c ((.slice 3 (List.map cField l)))] (.s (.c (.own 0 1))) [(0, .row 9 1 (List.map cStr r_))]) ∧ (∀ (fu : Nat) (l : (List MField)) (r_ : (List MTy)) (H : m_law_types fu l = some r_), Go.Ab.Fn Tryz.prog 144 [.c ((.slice 3 (List.map cField l)))] (.s (.c (.own 0 2))) [(0, .row 82 2 (List.map cTy r_))]) ∧ (∀ (fu : Nat) (l : MLaw) (s : MScope) (r_ : (MScope × Bool)) (H : m_law_member fu l s = some r_), Go.Ab.Fn Tryz.prog 145 [.agg (cLaw l), .agg (cScope s)] (.tup [.agg (List.map C.d (cScope r_.1)), .c (.d (.bool r_.2))]) []) ∧ (∀ (fu : Nat) (s : BA) (r_ : Bool) (H : m_law_source fu s = some r_), Go.Ab.Fn Tryz.prog 147 [.c ((.str s))] (.s (.c (.d (.bool r_)))) []) := by
 refine ⟨fun fu t enums r_ H => ?_, fun fu rV r_ H => ?_, fun fu l r_ H => ?_, fun fu l r_ H => ?_, fun fu l s r_ H => ?_, fun fu s r_ H => ?_⟩
 all_goals first
  | (refine Go.Ab.Fn.intro htab hm Tryz.func134 rfl Tryz.call134 (by kernel_rfl) 28 Tryz.ntmps134 rfl (fun hr => ?_); unfold m_value_ValidType at H)
  | (refine Go.Ab.Fn.intro htab hm Tryz.func127 rfl Tryz.call127 (by kernel_rfl) 18 Tryz.ntmps127 rfl (fun hr => ?_); unfold m_daterange_Valid at H)
  | (refine Go.Ab.Fn.intro htab hm Tryz.func94 rfl Tryz.call94 (by kernel_rfl) 19 Tryz.ntmps94 rfl (fun hr => ?_); unfold m_law_names at H)
  | (refine Go.Ab.Fn.intro htab hm Tryz.func144 rfl Tryz.call144 (by kernel_rfl) 19 Tryz.ntmps144 rfl (fun hr => ?_); unfold m_law_types at H)
  | (refine Go.Ab.Fn.intro htab hm Tryz.func145 rfl Tryz.call145 (by kernel_rfl) 24 Tryz.ntmps145 rfl (fun hr => ?_); unfold m_law_member at H)
  | (refine Go.Ab.Fn.intro htab hm Tryz.func147 rfl Tryz.call147 (by kernel_rfl) 29 Tryz.ntmps147 rfl (fun hr => ?_); unfold m_law_source at H)
 all_goals conv => whnf
 repeat' first
  | (refine leafI ?_; obtain rfl := Option.some.inj H; (repeat' (first | exact trivial | rfl | refine And.intro ?_ ?_ | (show D.bool _ = D.bool _; simp [*]; done))); done)
  | (refine cK (by with_reducible assumption) (fun q => ?_); (first | with_reducible replace H := hK q H | rw [q] at H | skip); conv => whnf)
  | (refine cBif H (by with_reducible rfl) ?_ ?_ <;> clear H <;> intro q H <;> conv => whnf)
  | (refine condP_intro ?_ ?_ <;> intro q <;> (try rw [q] at H) <;> conv => whnf)
  | (replace H := cnt_some H; obtain ⟨_, H⟩ := H)
  | (refine eIx H ?_; clear H; intro _ _ H; conv => whnf)
  | (refine eAp (f := cStr) H rfl rfl (by decide) ?_; clear H; intro _ H; conv => whnf)
  | (refine eLoop (m_law_names_L1 _ _) [6, 7] [] (fun (out_1, t8_2) => [(3, .s (.c (.own 160024 1))), (8, vDc (iD (nI t8_2)))]) (fun (out_1, t8_2) => [(160024, .row 9 1 (List.map cStr out_1))]) H (by refine Le.sub rfl ?_ ?_; (repeat' (first | exact trivial | rfl | exact inc64' (by assumption) | refine And.intro ?_ ?_ | (show D.bool _ = D.bool _; simp [*]; done)))) ?_; clear H; intro n x H; obtain _ | n := n; rw [m_law_names_L1] at H; cases H; obtain ⟨_, _⟩ := x; rw [m_law_names_L1] at H; conv => whnf)
  | (refine eAp (f := cTy) H rfl rfl (by decide) ?_; clear H; intro _ H; conv => whnf)
  | (refine eLoop (m_law_types_L1 _ _) [6, 7] [] (fun (out_1, t8_2) => [(3, .s (.c (.own 160024 2))), (8, vDc (iD (nI t8_2)))]) (fun (out_1, t8_2) => [(160024, .row 82 2 (List.map cTy out_1))]) H (by refine Le.sub rfl ?_ ?_; (repeat' (first | exact trivial | rfl | exact inc64' (by assumption) | refine And.intro ?_ ?_ | (show D.bool _ = D.bool _; simp [*]; done)))) ?_; clear H; intro n x H; obtain _ | n := n; rw [m_law_types_L1] at H; cases H; obtain ⟨_, _⟩ := x; rw [m_law_types_L1] at H; conv => whnf)
  | (refine eStr H ?_; clear H; intro _ H; conv => whnf)
  | (refine eLoop (m_law_source_L1 _ _) [0, 5] [] (fun t6_1 => [(6, vDc (iD (nI t6_1)))]) (fun t6_1 => []) H (by refine Le.sub rfl ?_ ?_; (repeat' (first | exact trivial | rfl | exact inc64' (by assumption) | refine And.intro ?_ ?_ | (show D.bool _ = D.bool _; simp [*]; done)))) ?_; clear H; intro n x H; obtain _ | n := n; rw [m_law_source_L1] at H; cases H; rw [m_law_source_L1] at H; conv => whnf)
  | (refine ⟨(_, _), H, ?_, Nat.lt_succ_self _⟩; refine Le.sub rfl ?_ ?_; (repeat' (first | exact trivial | rfl | exact inc64' (by assumption) | refine And.intro ?_ ?_ | (show D.bool _ = D.bool _; simp [*]; done))); done)
theorem gg_2 : (∀ (fu : Nat) (op : Int) (r_ : Int) (H : m_expr_Arity fu op = some r_), Go.Ab.Fn Tryz.prog 160 [.c ((iD op))] (.s (.c (.d (iD r_)))) []) ∧ (∀ (fu : Nat) (op : Int) (r_ : Int) (H : m_expr_literal fu op = some r_), Go.Ab.Fn Tryz.prog 251 [.c ((iD op))] (.s (.c (.d (iD r_)))) []) ∧ (∀ (fu : Nat) (l : (List MEnum)) (i : Int) (r_ : (MEnum × Int)) (H : m_expr_at_Enum fu l i = some r_), Go.Ab.Fn Tryz.prog 241 [.c ((.slice 2 (List.map cEnum l))), .c ((iD i))] (.tup [.agg (List.map C.d (cEnum r_.1)), .c (.d (iD r_.2))]) []) ∧ (∀ (fu : Nat) (l : (List BA)) (i : Int) (r_ : (BA × Int)) (H : m_expr_at_string fu l i = some r_), Go.Ab.Fn Tryz.prog 242 [.c ((.slice 1 (List.map cStr l))), .c ((iD i))] (.tup [.c (.d (.str r_.1)), .c (.d (iD r_.2))]) []) ∧ (∀ (fu : Nat) (l : (List MTy)) (i : Int) (r_ : (MTy × Int)) (H : m_expr_at_Type fu l i = some r_), Go.Ab.Fn Tryz.prog 243 [.c ((.slice 2 (List.map cTy l))), .c ((iD i))] (.tup [.agg (List.map C.d (cTy r_.1)), .c (.d (iD r_.2))]) []) ∧ (∀ (fu : Nat) (kind : Int) (r_ : Bool) (H : m_expr_numeric fu kind = some r_), Go.Ab.Fn Tryz.prog 247 [.c ((iD kind))] (.s (.c (.d (.bool r_)))) []) := by
 refine ⟨fun fu op r_ H => ?_, fun fu op r_ H => ?_, fun fu l i r_ H => ?_, fun fu l i r_ H => ?_, fun fu l i r_ H => ?_, fun fu kind r_ H => ?_⟩
 all_goals first
  | (refine Go.Ab.Fn.intro htab hm Tryz.func160 rfl Tryz.call160 (by kernel_rfl) 31 Tryz.ntmps160 rfl (fun hr => ?_); unfold m_expr_Arity at H)
  | (refine Go.Ab.Fn.intro htab hm Tryz.func251 rfl Tryz.call251 (by kernel_rfl) 10 Tryz.ntmps251 rfl (fun hr => ?_); unfold m_expr_literal at H)
  | (refine Go.Ab.Fn.intro htab hm Tryz.func241 rfl Tryz.call241 (by kernel_rfl) 20 Tryz.ntmps241 rfl (fun hr => ?_); unfold m_expr_at_Enum at H)
  | (refine Go.Ab.Fn.intro htab hm Tryz.func242 rfl Tryz.call242 (by kernel_rfl) 20 Tryz.ntmps242 rfl (fun hr => ?_); unfold m_expr_at_string at H)
  | (refine Go.Ab.Fn.intro htab hm Tryz.func243 rfl Tryz.call243 (by kernel_rfl) 20 Tryz.ntmps243 rfl (fun hr => ?_); unfold m_expr_at_Type at H)
  | (refine Go.Ab.Fn.intro htab hm Tryz.func247 rfl Tryz.call247 (by kernel_rfl) 13 Tryz.ntmps247 rfl (fun hr => ?_); unfold m_expr_numeric at H)
 all_goals conv => whnf
 repeat' first
  | (refine leafI ?_; obtain rfl := Option.some.inj H; (repeat' (first | exact trivial | rfl | refine And.intro ?_ ?_ | (show D.bool _ = D.bool _; simp [*]; done))); done)
  | (refine cK (by with_reducible assumption) (fun q => ?_); (first | with_reducible replace H := hK q H | rw [q] at H | skip); conv => whnf)
  | (refine cBif H (by with_reducible rfl) ?_ ?_ <;> clear H <;> intro q H <;> conv => whnf)
  | (refine condP_intro ?_ ?_ <;> intro q <;> (try rw [q] at H) <;> conv => whnf)
  | (refine eIx H ?_; clear H; intro _ _ H; conv => whnf)
theorem gg_3 : (∀ (fu : Nat) (l : (List MTable)) (i : Int) (r_ : (MTable × Int)) (H : m_expr_at_Table fu l i = some r_), Go.Ab.Fn Tryz.prog 245 [.c ((.slice 6 (List.map cTable l))), .c ((iD i))] (.tup [.agg (List.map C.d (cTable r_.1)), .c (.d (iD r_.2))]) []) ∧ (∀ (fu : Nat) (k : Int) (ok : Bool) (r_ : MTy) (H : m_expr_result_1 fu k ok = some r_), Go.Ab.Fn Tryz.prog 246 [.c ((iD k)), .c ((.bool ok))] (.s (.agg (List.map C.d (cTy r_)))) []) ∧ (∀ (fu : Nat) (op : Int) (a : Int) (b : Int) (r_ : Int) (H : m_expr_arithmetic fu op a b = some r_), Go.Ab.Fn Tryz.prog 248 [.c ((iD op)), .c ((iD a)), .c ((iD b))] (.s (.c (.d (iD r_)))) []) ∧ (∀ (fu : Nat) (s : MScope) (defV : Int) (r_ : Bool) (H : m_deps_valid fu s defV = some r_), Go.Ab.Fn Tryz.prog 82 [.agg (cScope s), .c ((iD defV))] (.s (.c (.d (.bool r_)))) []) ∧ (∀ (fu : Nat) (l : (List Int)) (r_ : (List Int)) (H : m_expr_References_1 fu l = some r_), Go.Ab.FnH Tryz.prog 128 [.c (.own 7000000 1)] [(7000000, .row 3 1 (List.map cInt l))] (.s (.c (.own 0 1))) [(0, .row 3 1 (List.map cInt r_))]) ∧ (∀ (fu : Nat) (s : (List Int)) (v : Int) (r_ : Int) (H : m_slices_Index_int fu s v = some r_), Go.Ab.Fn Tryz.prog 149 [.c ((.slice 1 (List.map cInt s))), .c ((iD v))] (.s (.c (.d (iD r_)))) []) := by
 refine ⟨fun fu l i r_ H => ?_, fun fu k ok r_ H => ?_, fun fu op a b r_ H => ?_, fun fu s defV r_ H => ?_, fun fu l r_ H => ?_, fun fu s v r_ H => ?_⟩
 all_goals first
  | (refine Go.Ab.Fn.intro htab hm Tryz.func245 rfl Tryz.call245 (by kernel_rfl) 20 Tryz.ntmps245 rfl (fun hr => ?_); unfold m_expr_at_Table at H)
  | (refine Go.Ab.Fn.intro htab hm Tryz.func246 rfl Tryz.call246 (by kernel_rfl) 10 Tryz.ntmps246 rfl (fun hr => ?_); unfold m_expr_result_1 at H)
  | (refine Go.Ab.Fn.intro htab hm Tryz.func248 rfl Tryz.call248 (by kernel_rfl) 77 Tryz.ntmps248 rfl (fun hr => ?_); unfold m_expr_arithmetic at H)
  | (refine Go.Ab.Fn.intro htab hm Tryz.func82 rfl Tryz.call82 (by kernel_rfl) 14 Tryz.ntmps82 rfl (fun hr => ?_); unfold m_deps_valid at H)
  | (refine Go.Ab.FnH.intro htab hm Tryz.func128 rfl Tryz.call128 (by kernel_rfl) 7 Tryz.ntmps128 rfl (by repeat' (first | exact trivial | rfl | refine And.intro ?_ ?_ | (simp only [List.length_map]; assumption))) (fun hr => ?_); unfold m_expr_References_1 at H)
  | (refine Go.Ab.Fn.intro htab hm Tryz.func149 rfl Tryz.call149 (by kernel_rfl) 19 Tryz.ntmps149 rfl (fun hr => ?_); unfold m_slices_Index_int at H)
 all_goals conv => whnf
 repeat' first
  | (refine leafI ?_; obtain rfl := Option.some.inj H; (repeat' (first | exact trivial | rfl | refine And.intro ?_ ?_ | (show D.bool _ = D.bool _; simp [*]; done))); done)
  | (refine cK (by with_reducible assumption) (fun q => ?_); (first | with_reducible replace H := hK q H | rw [q] at H | skip); conv => whnf)
  | (refine cBif H (by with_reducible rfl) ?_ ?_ <;> clear H <;> intro q H <;> conv => whnf)
  | (refine condP_intro ?_ ?_ <;> intro q <;> (try rw [q] at H) <;> conv => whnf)
  | (replace H := cnt_some H; obtain ⟨_, H⟩ := H)
  | (refine eIx H ?_; clear H; intro _ _ H; conv => whnf)
  | (refine Or.inr ⟨[], ?_⟩; (conv => whnf); refine eCallH H (gc_slices_Sort_int fu _) ?_; clear H; intro _ H; (conv => whnf); refine And.intro ?_ ?_; (focus ((repeat' (first | exact trivial | rfl | refine And.intro ?_ ?_)); done)); conv => whnf)
  | (refine Or.inr ⟨[], ?_⟩; (conv => whnf); refine eCallH H (gc_slices_Compact_int fu _) ?_; clear H; intro _ H; (conv => whnf); refine And.intro ?_ ?_; (focus ((repeat' (first | exact trivial | rfl | refine And.intro ?_ ?_)); done)); conv => whnf)
  | (refine eLoop (m_slices_Index_int_L1 _ _ _) [0, 1, 7] [] (fun t8_1 => [(8, vDc (iD (nI t8_1)))]) (fun t8_1 => []) H (by refine Le.sub rfl ?_ ?_; (repeat' (first | exact trivial | rfl | exact inc64' (by assumption) | refine And.intro ?_ ?_ | (show D.bool _ = D.bool _; simp [*]; done)))) ?_; clear H; intro n x H; obtain _ | n := n; rw [m_slices_Index_int_L1] at H; cases H; rw [m_slices_Index_int_L1] at H; conv => whnf)
  | (refine ⟨(_, _), H, ?_, Nat.lt_succ_self _⟩; refine Le.sub rfl ?_ ?_; (repeat' (first | exact trivial | rfl | exact inc64' (by assumption) | refine And.intro ?_ ?_ | (show D.bool _ = D.bool _; simp [*]; done))); done)
theorem gg_4 : (∀ (fu : Nat) (s1 : (List BA)) (s2 : (List BA)) (r_ : Bool) (H : m_slices_Equal_string fu s1 s2 = some r_), Go.Ab.Fn Tryz.prog 150 [.c ((.slice 1 (List.map cStr s1))), .c ((.slice 1 (List.map cStr s2)))] (.s (.c (.d (.bool r_)))) []) ∧ (∀ (fu : Nat) (s1 : (List MRow)) (s2 : (List MRow)) (r_ : Bool) (H : m_slices_Equal_Row fu s1 s2 = some r_), Go.Ab.Fn Tryz.prog 151 [.c ((.slice 5 (List.map cRow s1))), .c ((.slice 5 (List.map cRow s2)))] (.s (.c (.d (.bool r_)))) []) ∧ (∀ (fu : Nat) (s1 : (List MField)) (s2 : (List MField)) (r_ : Bool) (H : m_slices_Equal_Field fu s1 s2 = some r_), Go.Ab.Fn Tryz.prog 152 [.c ((.slice 3 (List.map cField s1))), .c ((.slice 3 (List.map cField s2)))] (.s (.c (.d (.bool r_)))) []) ∧ (∀ (fu : Nat) (s1 : (List MNode)) (s2 : (List MNode)) (r_ : Bool) (H : m_slices_Equal_Node fu s1 s2 = some r_), Go.Ab.Fn Tryz.prog 68 [.c ((.slice 2 (List.map cNode s1))), .c ((.slice 2 (List.map cNode s2)))] (.s (.c (.d (.bool r_)))) []) ∧ (∀ (fu : Nat) (code : Int) (member : Int) (r_ : MEvalError) (H : m_interp_invalid fu code member = some r_), Go.Ab.Fn Tryz.prog 72 [.c ((iD code)), .c ((iD member))] (.s (.agg (List.map C.d (cEvalError r_)))) []) ∧ (∀ (fu : Nat) (l : MLaw) (scope : Int) (r_ : (MScope × Bool)) (H : m_casedata_memberScope fu l scope = some r_), Go.Ab.Fn Tryz.prog 113 [.agg (cLaw l), .c ((iD scope))] (.tup [.agg (List.map C.d (cScope r_.1)), .c (.d (.bool r_.2))]) []) := by
 refine ⟨fun fu s1 s2 r_ H => ?_, fun fu s1 s2 r_ H => ?_, fun fu s1 s2 r_ H => ?_, fun fu s1 s2 r_ H => ?_, fun fu code member r_ H => ?_, fun fu l scope r_ H => ?_⟩
 all_goals first
  | (refine Go.Ab.Fn.intro htab hm Tryz.func150 rfl Tryz.call150 (by kernel_rfl) 26 Tryz.ntmps150 rfl (fun hr => ?_); unfold m_slices_Equal_string at H)
  | (refine Go.Ab.Fn.intro htab hm Tryz.func151 rfl Tryz.call151 (by kernel_rfl) 26 Tryz.ntmps151 rfl (fun hr => ?_); unfold m_slices_Equal_Row at H)
  | (refine Go.Ab.Fn.intro htab hm Tryz.func152 rfl Tryz.call152 (by kernel_rfl) 26 Tryz.ntmps152 rfl (fun hr => ?_); unfold m_slices_Equal_Field at H)
  | (refine Go.Ab.Fn.intro htab hm Tryz.func68 rfl Tryz.call68 (by kernel_rfl) 26 Tryz.ntmps68 rfl (fun hr => ?_); unfold m_slices_Equal_Node at H)
  | (refine Go.Ab.Fn.intro htab hm Tryz.func72 rfl Tryz.call72 (by kernel_rfl) 8 Tryz.ntmps72 rfl (fun hr => ?_); unfold m_interp_invalid at H)
  | (refine Go.Ab.Fn.intro htab hm Tryz.func113 rfl Tryz.call113 (by kernel_rfl) 28 Tryz.ntmps113 rfl (fun hr => ?_); unfold m_casedata_memberScope at H)
 all_goals conv => whnf
 repeat' first
  | (refine leafI ?_; obtain rfl := Option.some.inj H; (repeat' (first | exact trivial | rfl | refine And.intro ?_ ?_ | (show D.bool _ = D.bool _; simp [*]; done))); done)
  | (refine RegP_intro _ [] ?_; conv => whnf)
  | (refine cK (by with_reducible assumption) (fun q => ?_); (first | with_reducible replace H := hK q H | rw [q] at H | skip); conv => whnf)
  | (refine cBif H (by with_reducible rfl) ?_ ?_ <;> clear H <;> intro q H <;> conv => whnf)
  | (refine condP_intro ?_ ?_ <;> intro q <;> (try rw [q] at H) <;> conv => whnf)
  | (replace H := cnt_some H; obtain ⟨_, H⟩ := H)
  | (refine eIx H ?_; clear H; intro _ _ H; conv => whnf)
  | (refine eLoop (m_slices_Equal_string_L1 _ _ _) [0, 1, 12] [] (fun t13_1 => [(13, vDc (iD (nI t13_1)))]) (fun t13_1 => []) H (by refine Le.sub rfl ?_ ?_; (repeat' (first | exact trivial | rfl | exact inc64' (by assumption) | refine And.intro ?_ ?_ | (show D.bool _ = D.bool _; simp [*]; done)))) ?_; clear H; intro n x H; obtain _ | n := n; rw [m_slices_Equal_string_L1] at H; cases H; rw [m_slices_Equal_string_L1] at H; conv => whnf)
  | (refine eLoop (m_slices_Equal_Row_L1 _ _ _) [0, 1, 12] [] (fun t13_1 => [(13, vDc (iD (nI t13_1)))]) (fun t13_1 => []) H (by refine Le.sub rfl ?_ ?_; (repeat' (first | exact trivial | rfl | exact inc64' (by assumption) | refine And.intro ?_ ?_ | (show D.bool _ = D.bool _; simp [*]; done)))) ?_; clear H; intro n x H; obtain _ | n := n; rw [m_slices_Equal_Row_L1] at H; cases H; rw [m_slices_Equal_Row_L1] at H; conv => whnf)
  | (refine eLoop (m_slices_Equal_Field_L1 _ _ _) [0, 1, 12] [] (fun t13_1 => [(13, vDc (iD (nI t13_1)))]) (fun t13_1 => []) H (by refine Le.sub rfl ?_ ?_; (repeat' (first | exact trivial | rfl | exact inc64' (by assumption) | refine And.intro ?_ ?_ | (show D.bool _ = D.bool _; simp [*]; done)))) ?_; clear H; intro n x H; obtain _ | n := n; rw [m_slices_Equal_Field_L1] at H; cases H; rw [m_slices_Equal_Field_L1] at H; conv => whnf)
  | (refine eLoop (m_slices_Equal_Node_L1 _ _ _) [0, 1, 12] [] (fun t13_1 => [(13, vDc (iD (nI t13_1)))]) (fun t13_1 => []) H (by refine Le.sub rfl ?_ ?_; (repeat' (first | exact trivial | rfl | exact inc64' (by assumption) | refine And.intro ?_ ?_ | (show D.bool _ = D.bool _; simp [*]; done)))) ?_; clear H; intro n x H; obtain _ | n := n; rw [m_slices_Equal_Node_L1] at H; cases H; rw [m_slices_Equal_Node_L1] at H; conv => whnf)
  | (refine ⟨(_, _), H, ?_, Nat.lt_succ_self _⟩; refine Le.sub rfl ?_ ?_; (repeat' (first | exact trivial | rfl | exact inc64' (by assumption) | refine And.intro ?_ ?_ | (show D.bool _ = D.bool _; simp [*]; done))); done)
theorem gg_5 : (∀ (fu : Nat) (l : MLaw) (scope : Int) (cV : MCase) (r_ : (MLaw × MScope × MScope × MCase × (List Bool) × (List Bool))) (H : m_interp_newMachine fu l scope cV = some r_), Go.Ab.Fn Tryz.prog 35 [.agg (cLaw l), .c ((iD scope)), .agg (cCase cV)] (.s (.c (.ref 0 0 0 0))) [(0, .var ((List.map C.d (cLaw r_.1)) ++ (List.map C.d (cScope r_.2.1)) ++ (List.map C.d (cScope r_.2.2.1)) ++ (List.map C.d (cCase r_.2.2.2.1)) ++ [.own 1 1] ++ [.own 2 1] ++ [.nil 1] ++ [.d .nilptr])), (1, .row 4 1 (List.map cBool r_.2.2.2.2.1)), (2, .row 4 1 (List.map cBool r_.2.2.2.2.2))]) ∧ (∀ (fu : Nat) (s : MScope) (env : MEnv) (member : Int) (r_ : (MScope × Int × (List MValue) × (List MValue) × (List (List MValue)) × (List MTy) × (List MTable) × Int × (List Int))) (H : m_interp_newUnit fu s env member = some r_), Go.Ab.Fn Tryz.prog 75 [.agg (cScope s), .agg (cEnv env), .c ((iD member))] (.s (.c (.ref 0 0 0 0))) [(0, .var ((List.map C.d (cScope r_.1)) ++ ([.d (iD r_.2.1)] ++ [.d (.slice 3 (List.map cValue r_.2.2.1))] ++ [.own 1 3] ++ [.d (.slice 1 (List.map (cSlc 3 cValue) r_.2.2.2.2.1))] ++ [.d (.slice 2 (List.map cTy r_.2.2.2.2.2.1))] ++ [.d (.slice 6 (List.map cTable r_.2.2.2.2.2.2.1))]) ++ [.d (iD r_.2.2.2.2.2.2.2.1)] ++ [.own 2 1])), (1, .row 23 3 (List.map cValue r_.2.2.2.1)), (2, .row 3 1 (List.map cInt r_.2.2.2.2.2.2.2.2))]) ∧ (∀ (fu : Nat) (xV : Int) (cap : (List Bool)) (r_ : Bool) (H : m_deps_EvaluationOrder_1 fu xV cap = some r_), Go.Ab.Fn Tryz.prog 158 [.c ((iD xV)), .c (.ptr ((cSlc 1 cBool) cap) 0)] (.s (.c (.d (.bool r_)))) []) ∧ (∀ (fu : Nat) (isV : Bool) (r_ : MValue) (H : m_eval_boolean fu isV = some r_), Go.Ab.Fn Tryz.prog 125 [.c ((.bool isV))] (.s (.agg (List.map C.d (cValue r_)))) []) ∧ (∀ (fu : Nat) (op : Int) (r_ : Bool) (H : m_eval_meaning fu op = some r_), Go.Ab.Fn Tryz.prog 187 [.c ((iD op))] (.s (.c (.d (.bool r_)))) []) ∧ (∀ (fu : Nat) (i : Int) (nV : Int) (r_ : Bool) (H : m_eval_inside fu i nV = some r_), Go.Ab.Fn Tryz.prog 188 [.c ((iD i)), .c ((iD nV))] (.s (.c (.d (.bool r_)))) []) := by
 refine ⟨fun fu l scope cV r_ H => ?_, fun fu s env member r_ H => ?_, fun fu xV cap r_ H => ?_, fun fu isV r_ H => ?_, fun fu op r_ H => ?_, fun fu i nV r_ H => ?_⟩
 all_goals first
  | (refine Go.Ab.Fn.intro htab hm Tryz.func35 rfl Tryz.call35 (by kernel_rfl) 54 Tryz.ntmps35 rfl (fun hr => ?_); unfold m_interp_newMachine at H)
  | (refine Go.Ab.Fn.intro htab hm Tryz.func75 rfl Tryz.call75 (by kernel_rfl) 21 Tryz.ntmps75 rfl (fun hr => ?_); unfold m_interp_newUnit at H)
  | (refine Go.Ab.Fn.intro htab hm Tryz.func158 rfl Tryz.call158 (by kernel_rfl) 9 Tryz.ntmps158 rfl (fun hr => ?_); unfold m_deps_EvaluationOrder_1 at H)
  | (refine Go.Ab.Fn.intro htab hm Tryz.func125 rfl Tryz.call125 (by kernel_rfl) 6 Tryz.ntmps125 rfl (fun hr => ?_); unfold m_eval_boolean at H)
  | (refine Go.Ab.Fn.intro htab hm Tryz.func187 rfl Tryz.call187 (by kernel_rfl) 22 Tryz.ntmps187 rfl (fun hr => ?_); unfold m_eval_meaning at H)
  | (refine Go.Ab.Fn.intro htab hm Tryz.func188 rfl Tryz.call188 (by kernel_rfl) 12 Tryz.ntmps188 rfl (fun hr => ?_); unfold m_eval_inside at H)
 all_goals conv => whnf
 repeat' first
  | (refine leafI ?_; obtain rfl := Option.some.inj H; (repeat' (first | exact trivial | rfl | refine And.intro ?_ ?_ | (show D.bool _ = D.bool _; simp [*]; done))); done)
  | (refine RegP_intro _ [] ?_; conv => whnf)
  | (refine cK (by with_reducible assumption) (fun q => ?_); (first | with_reducible replace H := hK q H | rw [q] at H | skip); conv => whnf)
  | (refine cBif H (by with_reducible rfl) ?_ ?_ <;> clear H <;> intro q H <;> conv => whnf)
  | (refine condP_intro ?_ ?_ <;> intro q <;> (try rw [q] at H) <;> conv => whnf)
  | (refine eIx H ?_; clear H; intro _ _ H; conv => whnf)
  | (refine eMk (f := cBool) H rfl ?_; clear H; intro _ H; conv => whnf)
  | (refine eMk (f := cValue) H rfl ?_; clear H; intro _ H; conv => whnf)
  | (refine eMk (f := cInt) H rfl ?_; clear H; intro _ H; conv => whnf)
theorem gg_6 : (∀ (fu : Nat) (kind : Int) (r_ : (Int × Int)) (H : m_eval_limits fu kind = some r_), Go.Ab.Fn Tryz.prog 186 [.c ((iD kind))] (.tup [.c (.d (iD r_.1)), .c (.d (iD r_.2))]) []) ∧ (∀ (fu : Nat) (k : Int) (r_ : Bool) (H : m_eval_numeric fu k = some r_), Go.Ab.Fn Tryz.prog 190 [.c ((iD k))] (.s (.c (.d (.bool r_)))) []) ∧ (∀ (fu : Nat) (k : Int) (cap : MValue) (cap2 : MValue) (r_ : Bool) (H : m_eval_allowed_1 fu k cap cap2 = some r_), Go.Ab.Fn Tryz.prog 189 [.c ((iD k)), .c (.ptr (cValue cap) 0), .c (.ptr (cValue cap2) 0)] (.s (.c (.d (.bool r_)))) []) ∧ (∀ (fu : Nat) (nV : Int) (r_ : Int) (H : m_eval_abs fu nV = some r_), Go.Ab.Fn Tryz.prog 228 [.c ((iD nV))] (.s (.c (.d (iD r_)))) []) ∧ (∀ (fu : Nat) (m : Int) (r_ : Bool) (H : m_money_mode fu m = some r_), Go.Ab.Fn Tryz.prog 230 [.c ((iD m))] (.s (.c (.d (.bool r_)))) []) ∧ (∀ (fu : Nat) (nV : Int) (r_ : Int) (H : m_money_abs fu nV = some r_), Go.Ab.Fn Tryz.prog 231 [.c ((iD nV))] (.s (.c (.d (.int .u64 r_)))) []) := by
 refine ⟨fun fu kind r_ H => ?_, fun fu k r_ H => ?_, fun fu k cap cap2 r_ H => ?_, fun fu nV r_ H => ?_, fun fu m r_ H => ?_, fun fu nV r_ H => ?_⟩
 all_goals first
  | (refine Go.Ab.Fn.intro htab hm Tryz.func186 rfl Tryz.call186 (by kernel_rfl) 17 Tryz.ntmps186 rfl (fun hr => ?_); unfold m_eval_limits at H)
  | (refine Go.Ab.Fn.intro htab hm Tryz.func190 rfl Tryz.call190 (by kernel_rfl) 13 Tryz.ntmps190 rfl (fun hr => ?_); unfold m_eval_numeric at H)
  | (refine Go.Ab.Fn.intro htab hm Tryz.func189 rfl Tryz.call189 (by kernel_rfl) 15 Tryz.ntmps189 rfl (fun hr => ?_); unfold m_eval_allowed_1 at H)
  | (refine Go.Ab.Fn.intro htab hm Tryz.func228 rfl Tryz.call228 (by kernel_rfl) 7 Tryz.ntmps228 rfl (fun hr => ?_); unfold m_eval_abs at H)
  | (refine Go.Ab.Fn.intro htab hm Tryz.func230 rfl Tryz.call230 (by kernel_rfl) 9 Tryz.ntmps230 rfl (fun hr => ?_); unfold m_money_mode at H)
  | (refine Go.Ab.Fn.intro htab hm Tryz.func231 rfl Tryz.call231 (by kernel_rfl) 10 Tryz.ntmps231 rfl (fun hr => ?_); unfold m_money_abs at H)
 all_goals conv => whnf
 repeat' first
  | (refine leafI ?_; obtain rfl := Option.some.inj H; (repeat' (first | exact trivial | rfl | refine And.intro ?_ ?_ | (show D.bool _ = D.bool _; simp [*]; done))); done)
  | (refine cK (by with_reducible assumption) (fun q => ?_); (first | with_reducible replace H := hK q H | rw [q] at H | skip); conv => whnf)
  | (refine cBif H (by with_reducible rfl) ?_ ?_ <;> clear H <;> intro q H <;> conv => whnf)
  | (refine condP_intro ?_ ?_ <;> intro q <;> (try rw [q] at H) <;> conv => whnf)
theorem gg_7 : (∀ (fu : Nat) (hi : Int) (lo : Int) (y : Int) (r_ : (Int × Int)) (H : m_math_bits_Div64 fu hi lo y = some r_), Go.Ab.Fn Tryz.prog 120 [.c ((.int .u64 hi)), .c ((.int .u64 lo)), .c ((.int .u64 y))] (.tup [.c (.d (.int .u64 r_.1)), .c (.d (.int .u64 r_.2))]) []) ∧ (∀ (fu : Nat) (q : Int) (rV : Int) (dV : Int) (neg : Bool) (mode : Int) (r_ : Int) (H : m_money_round fu q rV dV neg mode = some r_), Go.Ab.Fn Tryz.prog 233 [.c ((.int .u64 q)), .c ((.int .u64 rV)), .c ((.int .u64 dV)), .c ((.bool neg)), .c ((iD mode))] (.s (.c (.d (.int .u64 r_)))) []) ∧ (∀ (fu : Nat) (nV : Int) (neg : Bool) (r_ : Int) (H : m_money_signed fu nV neg = some r_), Go.Ab.Fn Tryz.prog 232 [.c ((.int .u64 nV)), .c ((.bool neg))] (.s (.c (.d (iD r_)))) []) ∧ (∀ (fu : Nat) (mode : Int) (r_ : Bool) (H : m_rate_validMode fu mode = some r_), Go.Ab.Fn Tryz.prog 116 [.c ((iD mode))] (.s (.c (.d (.bool r_)))) []) ∧ (∀ (fu : Nat) (nV : Int) (limit : Int) (r_ : Bool) (H : m_rate_beyond fu nV limit = some r_), Go.Ab.Fn Tryz.prog 117 [.c ((iD nV)), .c ((iD limit))] (.s (.c (.d (.bool r_)))) []) ∧ (∀ (fu : Nat) (nV : Int) (r_ : Int) (H : m_rate_abs fu nV = some r_), Go.Ab.Fn Tryz.prog 119 [.c ((iD nV))] (.s (.c (.d (.int .u64 r_)))) []) := by
 refine ⟨fun fu hi lo y r_ H => ?_, fun fu q rV dV neg mode r_ H => ?_, fun fu nV neg r_ H => ?_, fun fu mode r_ H => ?_, fun fu nV limit r_ H => ?_, fun fu nV r_ H => ?_⟩
 all_goals first
  | (refine Go.Ab.Fn.intro htab hm Tryz.func120 rfl Tryz.call120 (by kernel_rfl) 135 Tryz.ntmps120 rfl (fun hr => ?_); unfold m_math_bits_Div64 at H)
  | (refine Go.Ab.Fn.intro htab hm Tryz.func233 rfl Tryz.call233 (by kernel_rfl) 62 Tryz.ntmps233 rfl (fun hr => ?_); unfold m_money_round at H)
  | (refine Go.Ab.Fn.intro htab hm Tryz.func232 rfl Tryz.call232 (by kernel_rfl) 11 Tryz.ntmps232 rfl (fun hr => ?_); unfold m_money_signed at H)
  | (refine Go.Ab.Fn.intro htab hm Tryz.func116 rfl Tryz.call116 (by kernel_rfl) 9 Tryz.ntmps116 rfl (fun hr => ?_); unfold m_rate_validMode at H)
  | (refine Go.Ab.Fn.intro htab hm Tryz.func117 rfl Tryz.call117 (by kernel_rfl) 14 Tryz.ntmps117 rfl (fun hr => ?_); unfold m_rate_beyond at H)
  | (refine Go.Ab.Fn.intro htab hm Tryz.func119 rfl Tryz.call119 (by kernel_rfl) 10 Tryz.ntmps119 rfl (fun hr => ?_); unfold m_rate_abs at H)
 all_goals conv => whnf
 repeat' first
  | (refine leafI ?_; obtain rfl := Option.some.inj H; (repeat' (first | exact trivial | rfl | refine And.intro ?_ ?_ | (show D.bool _ = D.bool _; simp [*]; done))); done)
  | (exact nonone H)
  | (refine eGz H ?_; clear H; intro H; conv => whnf)
  | (refine RegP_intro _ [] ?_; conv => whnf)
  | (refine cK (by with_reducible assumption) (fun q => ?_); (first | with_reducible replace H := hK q H | rw [q] at H | skip); conv => whnf)
  | (refine cBif H (by with_reducible rfl) ?_ ?_ <;> clear H <;> intro q H <;> conv => whnf)
  | (refine condP_intro ?_ ?_ <;> intro q <;> (try rw [q] at H) <;> conv => whnf)
  | (refine eNz H ?_; clear H; intro H; conv => whnf)
  | (refine ⟨by decide, ?_⟩; conv => whnf)
  | (refine eCall H (gc_bits_LeadingZeros64 fu _) (fun _ => .inl rfl) ?_; clear H; intro _ H; conv => whnf)
  | (refine eLoop (m_math_bits_Div64_L2 _ _ _ _) [2, 8, 9, 10, 14, 15, 17] [] (fun (rhat_14, q0_15) => [(16, vDc (.int .u64 rhat_14)), (18, vDc (.int .u64 q0_15))]) (fun (rhat_14, q0_15) => []) H (by refine Le.sub rfl ?_ ?_; (repeat' (first | exact trivial | rfl | exact inc64' (by assumption) | refine And.intro ?_ ?_ | (show D.bool _ = D.bool _; simp [*]; done)))) ?_; clear H; intro n x H; obtain _ | n := n; rw [m_math_bits_Div64_L2] at H; cases H; obtain ⟨_, _⟩ := x; rw [m_math_bits_Div64_L2] at H; conv => whnf)
  | (refine ⟨(_, _), H, ?_, Nat.lt_succ_self _⟩; refine Le.sub rfl ?_ ?_; (repeat' (first | exact trivial | rfl | exact inc64' (by assumption) | refine And.intro ?_ ?_ | (show D.bool _ = D.bool _; simp [*]; done))); done)
  | (refine eLoop (m_math_bits_Div64_L1 _ _ _ _) [2, 8, 9, 10, 11, 13, 14] [] (fun (q1_9, rhat_10) => [(15, vDc (.int .u64 q1_9)), (16, vDc (.int .u64 rhat_10))]) (fun (q1_9, rhat_10) => []) H (by refine Le.sub rfl ?_ ?_; (repeat' (first | exact trivial | rfl | exact inc64' (by assumption) | refine And.intro ?_ ?_ | (show D.bool _ = D.bool _; simp [*]; done)))) ?_; clear H; intro n x H; obtain _ | n := n; rw [m_math_bits_Div64_L1] at H; cases H; obtain ⟨_, _⟩ := x; rw [m_math_bits_Div64_L1] at H; conv => whnf)
theorem gg_8 : (∀ (fu : Nat) (q : Int) (rV : Int) (den : Int) (negative : Bool) (mode : Int) (r_ : Bool) (H : m_rate_roundUp fu q rV den negative mode = some r_), Go.Ab.Fn Tryz.prog 121 [.c ((.int .u64 q)), .c ((.int .u64 rV)), .c ((.int .u64 den)), .c ((.bool negative)), .c ((iD mode))] (.s (.c (.d (.bool r_)))) []) ∧ (∀ (fu : Nat) (date : Int) (r_ : Bool) (H : m_date_valid fu date = some r_), Go.Ab.Fn Tryz.prog 234 [.c ((iD date))] (.s (.c (.d (.bool r_)))) []) ∧ (∀ (fu : Nat) (y : Int) (r_ : Bool) (H : m_date_IsLeap fu y = some r_), Go.Ab.Fn Tryz.prog 250 [.c ((iD y))] (.s (.c (.d (.bool r_)))) []) ∧ (∀ (fu : Nat) (u : MInterpUnit) (code : Int) (defV : Int) (ruleV : Int) (r_ : MEvalError) (H : m_interp_unit_fail fu u code defV ruleV = some r_), Go.Ab.Fn Tryz.prog 87 [.c (.ptr (cInterpUnit u) 0), .c ((iD code)), .c ((iD defV)), .c ((iD ruleV))] (.s (.agg (List.map C.d (cEvalError r_)))) []) ∧ (∀ (fu : Nat) (parent : (List Int)) (priority : (List Int)) (r_ : Int) (H : m_ruletree_Validate fu parent priority = some r_), Go.Ab.Fn Tryz.prog 132 [.c ((.slice 1 (List.map cInt parent))), .c ((.slice 1 (List.map cInt priority)))] (.s (.c (.d (iD r_)))) []) ∧ (∀ (fu : Nat) (parent : (List Int)) (atV : Int) (r_ : (List Int)) (H : m_ruletree_Children fu parent atV = some r_), Go.Ab.Fn Tryz.prog 205 [.c ((.slice 1 (List.map cInt parent))), .c ((iD atV))] (.s (.c (.own 0 1))) [(0, .row 3 1 (List.map cInt r_))]) := by
 refine ⟨fun fu q rV den negative mode r_ H => ?_, fun fu date r_ H => ?_, fun fu y r_ H => ?_, fun fu u code defV ruleV r_ H => ?_, fun fu parent priority r_ H => ?_, fun fu parent atV r_ H => ?_⟩
 all_goals first
  | (refine Go.Ab.Fn.intro htab hm Tryz.func121 rfl Tryz.call121 (by kernel_rfl) 49 Tryz.ntmps121 rfl (fun hr => ?_); unfold m_rate_roundUp at H)
  | (refine Go.Ab.Fn.intro htab hm Tryz.func234 rfl Tryz.call234 (by kernel_rfl) 9 Tryz.ntmps234 rfl (fun hr => ?_); unfold m_date_valid at H)
  | (refine Go.Ab.Fn.intro htab hm Tryz.func250 rfl Tryz.call250 (by kernel_rfl) 16 Tryz.ntmps250 rfl (fun hr => ?_); unfold m_date_IsLeap at H)
  | (refine Go.Ab.Fn.intro htab hm Tryz.func87 rfl Tryz.call87 (by kernel_rfl) 17 Tryz.ntmps87 rfl (fun hr => ?_); unfold m_interp_unit_fail at H)
  | (refine Go.Ab.Fn.intro htab hm Tryz.func132 rfl Tryz.call132 (by kernel_rfl) 42 Tryz.ntmps132 rfl (fun hr => ?_); unfold m_ruletree_Validate at H)
  | (refine Go.Ab.Fn.intro htab hm Tryz.func205 rfl Tryz.call205 (by kernel_rfl) 24 Tryz.ntmps205 rfl (fun hr => ?_); unfold m_ruletree_Children at H)
 all_goals conv => whnf
 repeat' first
  | (refine leafI ?_; obtain rfl := Option.some.inj H; (repeat' (first | exact trivial | rfl | refine And.intro ?_ ?_ | (show D.bool _ = D.bool _; simp [*]; done))); done)
  | (refine cK (by with_reducible assumption) (fun q => ?_); (first | with_reducible replace H := hK q H | rw [q] at H | skip); conv => whnf)
  | (refine cBif H (by with_reducible rfl) ?_ ?_ <;> clear H <;> intro q H <;> conv => whnf)
  | (refine condP_intro ?_ ?_ <;> intro q <;> (try rw [q] at H) <;> conv => whnf)
  | (refine ⟨by decide, ?_⟩; conv => whnf)
  | (replace H := cnt_some H; obtain ⟨_, H⟩ := H)
  | (refine eIx H ?_; clear H; intro _ _ H; conv => whnf)
  | (refine eLoop (m_ruletree_Validate_L1 _ _ _) [1, 15, 16] [] (fun t17_1 => [(17, vDc (iD (nI t17_1)))]) (fun t17_1 => []) H (by refine Le.sub rfl ?_ ?_; (repeat' (first | exact trivial | rfl | exact inc64' (by assumption) | refine And.intro ?_ ?_ | (show D.bool _ = D.bool _; simp [*]; done)))) ?_; clear H; intro n x H; obtain _ | n := n; rw [m_ruletree_Validate_L1] at H; cases H; rw [m_ruletree_Validate_L1] at H; conv => whnf)
  | (refine eAp (f := cInt) H rfl rfl (by decide) ?_; clear H; intro _ H; conv => whnf)
  | (refine eLoop (m_ruletree_Children_L1 _ _ _) [1, 8, 9] [] (fun (out_1, t10_2) => [(5, .s (.c (.own 160040 1))), (10, vDc (iD (nI t10_2)))]) (fun (out_1, t10_2) => [(160040, .row 3 1 (List.map cInt out_1))]) H (by refine Le.sub rfl ?_ ?_; (repeat' (first | exact trivial | rfl | exact inc64' (by assumption) | refine And.intro ?_ ?_ | (show D.bool _ = D.bool _; simp [*]; done)))) ?_; clear H; intro n x H; obtain _ | n := n; rw [m_ruletree_Children_L1] at H; cases H; obtain ⟨_, _⟩ := x; rw [m_ruletree_Children_L1] at H; conv => whnf)
  | (refine ⟨(_, _), H, ?_, Nat.lt_succ_self _⟩; refine Le.sub rfl ?_ ?_; (repeat' (first | exact trivial | rfl | exact inc64' (by assumption) | refine And.intro ?_ ?_ | (show D.bool _ = D.bool _; simp [*]; done))); done)
end Go.Proofs.YtffnbobdkpebgaaGreat
