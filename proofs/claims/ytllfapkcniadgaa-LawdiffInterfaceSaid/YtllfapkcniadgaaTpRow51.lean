/- Contracts: the laws LawdiffRules and LawdiffInterface. -/
import Derived.Test.YtllfapkcniadgaaTpAwake
import Derived.Test.YtllfapkcniadgaaTpGlue
set_option linter.unusedVariables false
namespace Go.Proofs.Ytllfapkcniadgaa
open Go Go.Ab

theorem small_sum {a b : MLaw} (ha : SmallLaw a) (hb : SmallLaw b) : sumRules a.scopes + sumRules b.scopes ≤ 100000 := by
  have := ha.2.2.2.2.2.2.1
  have := hb.2.2.2.2.2.2.1
  omega

set_option maxRecDepth 100000 in
theorem c_LawdiffRules (a b : MLaw) (ha : SizedLaw a) (hb : SizedLaw b) : Go.Ab.Fn Try.prog 7 [.agg (cLaw a), .agg (cLaw b)] (resB true) [] := by
  refine Go.Ab.Fn.intro htab hm Try.func7 rfl Try.call7 (by kernel_rfl) 24 Try.ntmps7 rfl (fun hr => ?_)
  have cs := c_SmallLaw a ha
  have ct := c_SmallLaw b hb
  conv => whnf
  by_cases sa : SmallLaw a
  · rw [decide_eq_true sa] at cs
    refine CallK_intro cs (.inl rfl) ?_
    conv => whnf
    by_cases sb : SmallLaw b
    · rw [decide_eq_true sb] at ct
      refine CallK_intro ct (.inl rfl) ?_
      conv => whnf
      refine CallK_intro (c_Changed a b (small_sum sa sb)) (.inl rfl) ?_
      conv => whnf
      refine CallK_intro (c_ref_Changed a b (small_sum sa sb)) (.inl rfl) ?_
      conv => whnf
      refine CallK_intro (c_same_Changes (chg a b) (chg a b)) (.inl rfl) ?_
      rw [decide_eq_true rfl]
      conv => whnf
      refine CallK_intro c_awake (.inl rfl) ?_
      conv => whnf
      exact And.intro rfl trivial
    · rw [decide_eq_false sb] at ct
      refine CallK_intro ct (.inl rfl) ?_
      conv => whnf
      refine CallK_intro c_awake (.inl rfl) ?_
      conv => whnf
      exact And.intro rfl trivial
  · rw [decide_eq_false sa] at cs
    refine CallK_intro cs (.inl rfl) ?_
    conv => whnf
    refine CallK_intro c_awake (.inl rfl) ?_
    conv => whnf
    exact And.intro rfl trivial

theorem bare_comm (a b : MLaw) : decide (bare b = bare a) = decide (bare a = bare b) := by
  rw [decide_eq_decide]; exact eq_comm

set_option maxRecDepth 100000 in
theorem c_LawdiffInterface (a b : MLaw) (ha : SizedLaw a) (hb : SizedLaw b) : Go.Ab.Fn Try.prog 8 [.agg (cLaw a), .agg (cLaw b)] (resB true) [] := by
  refine Go.Ab.Fn.intro htab hm Try.func8 rfl Try.call8 (by kernel_rfl) 38 Try.ntmps8 rfl (fun hr => ?_)
  have cs := c_SmallLaw a ha
  have ct := c_SmallLaw b hb
  conv => whnf
  by_cases sa : SmallLaw a
  · rw [decide_eq_true sa] at cs
    refine CallK_intro cs (.inl rfl) ?_
    conv => whnf
    by_cases sb : SmallLaw b
    · rw [decide_eq_true sb] at ct
      refine CallK_intro ct (.inl rfl) ?_
      have ma := MidLaw.of_small sa
      have mb := MidLaw.of_small sb
      have e1 := c_SameInterface a b ma mb
      have e2 := c_ref_SameInterface a b
      have e3 := c_SameInterface b a mb ma
      have e4 := c_SameInterface a a ma ma
      rw [decide_eq_true rfl] at e4
      rw [bare_comm] at e3
      generalize decide (bare a = bare b) = q at e1 e2 e3
      cases q
      all_goals
        conv => whnf
        refine CallK_intro e1 (.inl rfl) ?_
        conv => whnf
        refine CallK_intro e2 (.inl rfl) ?_
        conv => whnf
        refine CallK_intro e3 (.inl rfl) ?_
        conv => whnf
        refine CallK_intro e1 (.inl rfl) ?_
        conv => whnf
        refine CallK_intro e4 (.inl rfl) ?_
        conv => whnf
        refine CallK_intro c_awake (.inl rfl) ?_
        conv => whnf
        exact And.intro rfl trivial
    · rw [decide_eq_false sb] at ct
      refine CallK_intro ct (.inl rfl) ?_
      conv => whnf
      refine CallK_intro c_awake (.inl rfl) ?_
      conv => whnf
      exact And.intro rfl trivial
  · rw [decide_eq_false sa] at cs
    refine CallK_intro cs (.inl rfl) ?_
    conv => whnf
    refine CallK_intro c_awake (.inl rfl) ?_
    conv => whnf
    exact And.intro rfl trivial
end Go.Proofs.Ytllfapkcniadgaa
