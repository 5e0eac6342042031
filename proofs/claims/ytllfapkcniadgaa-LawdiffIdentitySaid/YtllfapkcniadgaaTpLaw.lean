/- Contracts: laws held against each other by the functions of package law. -/
import Derived.Test.YtllfapkcniadgaaTpSame
set_option linter.unusedVariables false
namespace Go.Proofs.Ytllfapkcniadgaa
open Go Go.Ab

theorem c_eqf_enum (xs ys : List MEnum) : Go.Ab.Fn Try.prog 57 [.c (.slice 2 (xs.map cEnum)), .c (.slice 2 (ys.map cEnum)), .c (.clos 58 [])] (resB (decide (xs = ys))) [] := by
  refine Go.Ab.Fn.intro htab hm Try.func57 rfl Try.call57 (by kernel_rfl) 32 Try.ntmps57 rfl (fun hr => ?_)
  conv => whnf
  refine condP_intro (fun h => ?_) (fun h => ?_)
  · conv => whnf
    refine And.intro ?_ trivial
    have : xs ≠ ys := fun e => by subst e; simp at h
    show D.bool false = _
    simp [this]
  · conv => whnf
    have hlen : xs.length = ys.length := by simp at h; omega
    refine LoopP_intro (fun i : Nat => i ≤ xs.length ∧ xs.take i = ys.take i) (fun i => ⟨32, [(0, vDc (.slice 2 (xs.map cEnum))), (1, vDc (.slice 2 (ys.map cEnum))), (2, vDc (.clos 58 [])), (15, vDc (.slice 2 (xs.map cEnum))), (16, vDc (.int .i64 xs.length)), (17, vDc (.int .i64 i))], []⟩) (fun i => xs.length - i) 0 (by simp) ?_ (fun i ⟨hi, he⟩ => ?_)
    · refine Le.sub rfl ⟨rfl, rfl, rfl, rfl, ?_, rfl⟩ trivial
      show D.int _ _ = D.int _ _
      simp
    · conv => whnf
      refine condP_intro (fun h2 => ?_) (fun h2 => ?_)
      · have hix : i < xs.length := by simpa using h2
        have hiy : i < ys.length := by omega
        conv => whnf
        refine ⟨_, ⟨Int.natCast_nonneg _, cget hix⟩, ?_⟩
        conv => whnf
        refine ⟨_, ⟨Int.natCast_nonneg _, cget hiy⟩, ?_⟩
        conv => whnf
        refine CallK_intro (c_law_sameEnum xs[i] ys[i]) (.inl rfl) ?_
        conv => whnf
        refine condP_intro (fun h4 => ?_) (fun h4 => ?_)
        · conv => whnf
          refine And.intro ?_ trivial
          have : xs ≠ ys := fun e => by subst e; simp at h4
          show D.bool false = _
          simp [this]
        · conv => whnf
          exact ⟨i + 1, ⟨hix, take_succ_eq hix hiy he (by simpa using h4)⟩, Le.sub rfl ⟨rfl, rfl, rfl, rfl, rfl, inc64 hix (by simpa using hr.1.len)⟩ trivial, by omega⟩
      · conv => whnf
        refine And.intro ?_ trivial
        have := eq_of_take hlen (by simp at h2; omega) he
        show D.bool true = _
        simp [this]

theorem c_eqf_table (xs ys : List MTable) : Go.Ab.Fn Try.prog 59 [.c (.slice 6 (xs.map cTable)), .c (.slice 6 (ys.map cTable)), .c (.clos 60 [])] (resB (decide (xs = ys))) [] := by
  refine Go.Ab.Fn.intro htab hm Try.func59 rfl Try.call59 (by kernel_rfl) 32 Try.ntmps59 rfl (fun hr => ?_)
  conv => whnf
  refine condP_intro (fun h => ?_) (fun h => ?_)
  · conv => whnf
    refine And.intro ?_ trivial
    have : xs ≠ ys := fun e => by subst e; simp at h
    show D.bool false = _
    simp [this]
  · conv => whnf
    have hlen : xs.length = ys.length := by simp at h; omega
    refine LoopP_intro (fun i : Nat => i ≤ xs.length ∧ xs.take i = ys.take i) (fun i => ⟨32, [(0, vDc (.slice 6 (xs.map cTable))), (1, vDc (.slice 6 (ys.map cTable))), (2, vDc (.clos 60 [])), (15, vDc (.slice 6 (xs.map cTable))), (16, vDc (.int .i64 xs.length)), (17, vDc (.int .i64 i))], []⟩) (fun i => xs.length - i) 0 (by simp) ?_ (fun i ⟨hi, he⟩ => ?_)
    · refine Le.sub rfl ⟨rfl, rfl, rfl, rfl, ?_, rfl⟩ trivial
      show D.int _ _ = D.int _ _
      simp
    · conv => whnf
      refine condP_intro (fun h2 => ?_) (fun h2 => ?_)
      · have hix : i < xs.length := by simpa using h2
        have hiy : i < ys.length := by omega
        conv => whnf
        refine ⟨_, ⟨Int.natCast_nonneg _, cget hix⟩, ?_⟩
        conv => whnf
        refine ⟨_, ⟨Int.natCast_nonneg _, cget hiy⟩, ?_⟩
        conv => whnf
        refine CallK_intro (c_law_sameTable xs[i] ys[i]) (.inl rfl) ?_
        conv => whnf
        refine condP_intro (fun h4 => ?_) (fun h4 => ?_)
        · conv => whnf
          refine And.intro ?_ trivial
          have : xs ≠ ys := fun e => by subst e; simp at h4
          show D.bool false = _
          simp [this]
        · conv => whnf
          exact ⟨i + 1, ⟨hix, take_succ_eq hix hiy he (by simpa using h4)⟩, Le.sub rfl ⟨rfl, rfl, rfl, rfl, rfl, inc64 hix (by simpa using hr.1.len)⟩ trivial, by omega⟩
      · conv => whnf
        refine And.intro ?_ trivial
        have := eq_of_take hlen (by simp at h2; omega) he
        show D.bool true = _
        simp [this]

set_option maxRecDepth 4096 in
theorem c_law_sameRule (x y : MRule) : Go.Ab.Fn Try.prog 73 [.agg (cRule x), .agg (cRule y)] (resB (decide (x = y))) [] := by
  refine Go.Ab.Fn.intro htab hm Try.func73 rfl Try.call73 (by kernel_rfl) 59 Try.ntmps73 rfl (fun hr => ?_)
  have key : ∀ b, b = (decide (x.name = y.name) && (decide (x.df = y.df) && (decide (x.parent = y.parent) && (decide (x.prio = y.prio) && (decide (x.fr = y.fr ∧ x.to = y.to) && (decide (x.guard = y.guard) && (decide (x.value = y.value) && (decide (x.source = y.source))))))))) → D.bool b = D.bool (decide (x = y)) := by
    intro b hb; subst hb; obtain ⟨a0, a1, a2, a3, ⟨a4, a5⟩, a6, a7, a8⟩ := x; obtain ⟨b0, b1, b2, b3, ⟨b4, b5⟩, b6, b7, b8⟩ := y; simp [MRule.fr, MRule.to, Bool.and_assoc]
  conv => whnf
  refine condP_intro (fun h => ?_) (fun h => ?_)
  · have e0 : x.name = y.name := by simpa using h
    conv => whnf
    refine condP_intro (fun h => ?_) (fun h => ?_)
    · have e1 : x.df = y.df := by simpa using h
      conv => whnf
      refine condP_intro (fun h => ?_) (fun h => ?_)
      · have e2 : x.parent = y.parent := by simpa using h
        conv => whnf
        refine condP_intro (fun h => ?_) (fun h => ?_)
        · have e3 : x.prio = y.prio := by simpa using h
          conv => whnf
          refine condP_intro (fun h => ?_) (fun h => ?_)
          · have e4 : x.fr = y.fr ∧ x.to = y.to := by simpa using h
            conv => whnf
            refine CallK_intro (c_eq_node x.guard y.guard) (.inl rfl) ?_
            conv => whnf
            refine condP_intro (fun h => ?_) (fun h => ?_)
            · have e5 : x.guard = y.guard := by simpa using h
              conv => whnf
              refine CallK_intro (c_eq_node x.value y.value) (.inl rfl) ?_
              conv => whnf
              refine condP_intro (fun h => ?_) (fun h => ?_)
              · have e6 : x.value = y.value := by simpa using h
                conv => whnf
                refine And.intro (key _ ?_) trivial
                simp [e0, e1, e2, e3, e4, e5, e6]
              · have e6 : ¬ (x.value = y.value) := by simpa using h
                conv => whnf
                refine And.intro (key _ ?_) trivial
                simp [e6]
            · have e5 : ¬ (x.guard = y.guard) := by simpa using h
              conv => whnf
              refine And.intro (key _ ?_) trivial
              simp [e5]
          · have e4 : ¬ (x.fr = y.fr ∧ x.to = y.to) := by simpa using h
            conv => whnf
            refine And.intro (key _ ?_) trivial
            simp [e4]
        · have e3 : ¬ (x.prio = y.prio) := by simpa using h
          conv => whnf
          refine And.intro (key _ ?_) trivial
          simp [e3]
      · have e2 : ¬ (x.parent = y.parent) := by simpa using h
        conv => whnf
        refine And.intro (key _ ?_) trivial
        simp [e2]
    · have e1 : ¬ (x.df = y.df) := by simpa using h
      conv => whnf
      refine And.intro (key _ ?_) trivial
      simp [e1]
  · have e0 : ¬ (x.name = y.name) := by simpa using h
    conv => whnf
    refine And.intro (key _ ?_) trivial
    simp [e0]

theorem c_eqf_rule (xs ys : List MRule) : Go.Ab.Fn Try.prog 72 [.c (.slice 9 (xs.map cRule)), .c (.slice 9 (ys.map cRule)), .c (.clos 73 [])] (resB (decide (xs = ys))) [] := by
  refine Go.Ab.Fn.intro htab hm Try.func72 rfl Try.call72 (by kernel_rfl) 32 Try.ntmps72 rfl (fun hr => ?_)
  conv => whnf
  refine condP_intro (fun h => ?_) (fun h => ?_)
  · conv => whnf
    refine And.intro ?_ trivial
    have : xs ≠ ys := fun e => by subst e; simp at h
    show D.bool false = _
    simp [this]
  · conv => whnf
    have hlen : xs.length = ys.length := by simp at h; omega
    refine LoopP_intro (fun i : Nat => i ≤ xs.length ∧ xs.take i = ys.take i) (fun i => ⟨32, [(0, vDc (.slice 9 (xs.map cRule))), (1, vDc (.slice 9 (ys.map cRule))), (2, vDc (.clos 73 [])), (15, vDc (.slice 9 (xs.map cRule))), (16, vDc (.int .i64 xs.length)), (17, vDc (.int .i64 i))], []⟩) (fun i => xs.length - i) 0 (by simp) ?_ (fun i ⟨hi, he⟩ => ?_)
    · refine Le.sub rfl ⟨rfl, rfl, rfl, rfl, ?_, rfl⟩ trivial
      show D.int _ _ = D.int _ _
      simp
    · conv => whnf
      refine condP_intro (fun h2 => ?_) (fun h2 => ?_)
      · have hix : i < xs.length := by simpa using h2
        have hiy : i < ys.length := by omega
        conv => whnf
        refine ⟨_, ⟨Int.natCast_nonneg _, cget hix⟩, ?_⟩
        conv => whnf
        refine ⟨_, ⟨Int.natCast_nonneg _, cget hiy⟩, ?_⟩
        conv => whnf
        refine CallK_intro (c_law_sameRule xs[i] ys[i]) (.inl rfl) ?_
        conv => whnf
        refine condP_intro (fun h4 => ?_) (fun h4 => ?_)
        · conv => whnf
          refine And.intro ?_ trivial
          have : xs ≠ ys := fun e => by subst e; simp at h4
          show D.bool false = _
          simp [this]
        · conv => whnf
          exact ⟨i + 1, ⟨hix, take_succ_eq hix hiy he (by simpa using h4)⟩, Le.sub rfl ⟨rfl, rfl, rfl, rfl, rfl, inc64 hix (by simpa using hr.1.len)⟩ trivial, by omega⟩
      · conv => whnf
        refine And.intro ?_ trivial
        have := eq_of_take hlen (by simp at h2; omega) he
        show D.bool true = _
        simp [this]

set_option maxRecDepth 4096 in
theorem c_law_sameScope (x y : MScope) : Go.Ab.Fn Try.prog 62 [.agg (cScope x), .agg (cScope y)] (resB (decide (x = y))) [] := by
  refine Go.Ab.Fn.intro htab hm Try.func62 rfl Try.call62 (by kernel_rfl) 38 Try.ntmps62 rfl (fun hr => ?_)
  have key : ∀ b, b = (decide (x.name = y.name) && (decide (x.ms = y.ms) && (decide (x.inputs = y.inputs) && (decide (x.defs = y.defs) && (decide (x.rules = y.rules)))))) → D.bool b = D.bool (decide (x = y)) := by
    intro b hb; subst hb; obtain ⟨a0, a1, a2, a3, a4⟩ := x; obtain ⟨b0, b1, b2, b3, b4⟩ := y; simp
  conv => whnf
  refine condP_intro (fun h => ?_) (fun h => ?_)
  · have e0 : x.name = y.name := by simpa using h
    conv => whnf
    refine condP_intro (fun h => ?_) (fun h => ?_)
    · have e1 : x.ms = y.ms := by simpa using h
      conv => whnf
      refine CallK_intro (c_eq_field x.inputs y.inputs) (.inl rfl) ?_
      conv => whnf
      refine condP_intro (fun h => ?_) (fun h => ?_)
      · have e2 : x.inputs = y.inputs := by simpa using h
        conv => whnf
        refine CallK_intro (c_eq_field x.defs y.defs) (.inl rfl) ?_
        conv => whnf
        refine condP_intro (fun h => ?_) (fun h => ?_)
        · have e3 : x.defs = y.defs := by simpa using h
          conv => whnf
          refine CallK_intro (c_eqf_rule x.rules y.rules) (.inl rfl) ?_
          conv => whnf
          refine And.intro (key _ ?_) trivial
          simp [e0, e1, e2, e3]
        · have e3 : ¬ (x.defs = y.defs) := by simpa using h
          conv => whnf
          refine And.intro (key _ ?_) trivial
          simp [e3]
      · have e2 : ¬ (x.inputs = y.inputs) := by simpa using h
        conv => whnf
        refine And.intro (key _ ?_) trivial
        simp [e2]
    · have e1 : ¬ (x.ms = y.ms) := by simpa using h
      conv => whnf
      refine And.intro (key _ ?_) trivial
      simp [e1]
  · have e0 : ¬ (x.name = y.name) := by simpa using h
    conv => whnf
    refine And.intro (key _ ?_) trivial
    simp [e0]

theorem c_eqf_scope (xs ys : List MScope) : Go.Ab.Fn Try.prog 61 [.c (.slice 5 (xs.map cScope)), .c (.slice 5 (ys.map cScope)), .c (.clos 62 [])] (resB (decide (xs = ys))) [] := by
  refine Go.Ab.Fn.intro htab hm Try.func61 rfl Try.call61 (by kernel_rfl) 32 Try.ntmps61 rfl (fun hr => ?_)
  conv => whnf
  refine condP_intro (fun h => ?_) (fun h => ?_)
  · conv => whnf
    refine And.intro ?_ trivial
    have : xs ≠ ys := fun e => by subst e; simp at h
    show D.bool false = _
    simp [this]
  · conv => whnf
    have hlen : xs.length = ys.length := by simp at h; omega
    refine LoopP_intro (fun i : Nat => i ≤ xs.length ∧ xs.take i = ys.take i) (fun i => ⟨32, [(0, vDc (.slice 5 (xs.map cScope))), (1, vDc (.slice 5 (ys.map cScope))), (2, vDc (.clos 62 [])), (15, vDc (.slice 5 (xs.map cScope))), (16, vDc (.int .i64 xs.length)), (17, vDc (.int .i64 i))], []⟩) (fun i => xs.length - i) 0 (by simp) ?_ (fun i ⟨hi, he⟩ => ?_)
    · refine Le.sub rfl ⟨rfl, rfl, rfl, rfl, ?_, rfl⟩ trivial
      show D.int _ _ = D.int _ _
      simp
    · conv => whnf
      refine condP_intro (fun h2 => ?_) (fun h2 => ?_)
      · have hix : i < xs.length := by simpa using h2
        have hiy : i < ys.length := by omega
        conv => whnf
        refine ⟨_, ⟨Int.natCast_nonneg _, cget hix⟩, ?_⟩
        conv => whnf
        refine ⟨_, ⟨Int.natCast_nonneg _, cget hiy⟩, ?_⟩
        conv => whnf
        refine CallK_intro (c_law_sameScope xs[i] ys[i]) (.inl rfl) ?_
        conv => whnf
        refine condP_intro (fun h4 => ?_) (fun h4 => ?_)
        · conv => whnf
          refine And.intro ?_ trivial
          have : xs ≠ ys := fun e => by subst e; simp at h4
          show D.bool false = _
          simp [this]
        · conv => whnf
          exact ⟨i + 1, ⟨hix, take_succ_eq hix hiy he (by simpa using h4)⟩, Le.sub rfl ⟨rfl, rfl, rfl, rfl, rfl, inc64 hix (by simpa using hr.1.len)⟩ trivial, by omega⟩
      · conv => whnf
        refine And.intro ?_ trivial
        have := eq_of_take hlen (by simp at h2; omega) he
        show D.bool true = _
        simp [this]

set_option maxRecDepth 4096 in
theorem c_law_Equal (x y : MLaw) : Go.Ab.Fn Try.prog 42 [.agg (cLaw x), .agg (cLaw y)] (resB (decide (x = y))) [] := by
  refine Go.Ab.Fn.intro htab hm Try.func42 rfl Try.call42 (by kernel_rfl) 24 Try.ntmps42 rfl (fun hr => ?_)
  have key : ∀ b, b = (decide (x.enums = y.enums) && (decide (x.tables = y.tables) && (decide (x.scopes = y.scopes)))) → D.bool b = D.bool (decide (x = y)) := by
    intro b hb; subst hb; obtain ⟨a0, a1, a2⟩ := x; obtain ⟨b0, b1, b2⟩ := y; simp
  conv => whnf
  refine CallK_intro (c_eqf_enum x.enums y.enums) (.inl rfl) ?_
  conv => whnf
  refine condP_intro (fun h => ?_) (fun h => ?_)
  · have e0 : x.enums = y.enums := by simpa using h
    conv => whnf
    refine CallK_intro (c_eqf_table x.tables y.tables) (.inl rfl) ?_
    conv => whnf
    refine condP_intro (fun h => ?_) (fun h => ?_)
    · have e1 : x.tables = y.tables := by simpa using h
      conv => whnf
      refine CallK_intro (c_eqf_scope x.scopes y.scopes) (.inl rfl) ?_
      conv => whnf
      refine And.intro (key _ ?_) trivial
      simp [e0, e1]
    · have e1 : ¬ (x.tables = y.tables) := by simpa using h
      conv => whnf
      refine And.intro (key _ ?_) trivial
      simp [e1]
  · have e0 : ¬ (x.enums = y.enums) := by simpa using h
    conv => whnf
    refine And.intro (key _ ?_) trivial
    simp [e0]

end Go.Proofs.Ytllfapkcniadgaa
