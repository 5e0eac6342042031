/- Contracts: the interface of a law; SameInterface of the program and of the reference. -/
import Derived.Test.YtllfapkcniadgaaTpLaw2
set_option linter.unusedVariables false
namespace Go.Proofs.Ytllfapkcniadgaa
open Go Go.Ab

theorem c_SameInterface (a b : MLaw) (ha : MidLaw a) (hb : MidLaw b) : Go.Ab.Fn Try.prog 27 [.agg (cLaw a), .agg (cLaw b)] (resB (decide (bare a = bare b))) [] := by
  refine Go.Ab.Fn.intro htab hm Try.func27 rfl Try.call27 (by kernel_rfl) 10 Try.ntmps27 rfl (fun hr => ?_)
  conv => whnf
  refine CallK_intro (c_interfaceOf a ha) (.inl rfl) ?_
  conv => whnf
  refine CallK_intro (c_interfaceOf b hb) (.inl rfl) ?_
  conv => whnf
  refine CallK_intro (c_law_Equal (bare a) (bare b)) (.inr ⟨rfl, rfl⟩) ?_
  conv => whnf
  exact And.intro rfl trivial

theorem c_ref_SameInterface (a b : MLaw) : Go.Ab.Fn Try.prog 28 [.agg (cLaw a), .agg (cLaw b)] (resB (decide (bare a = bare b))) [] := by
  refine Go.Ab.Fn.intro htab hm Try.func28 rfl Try.call28 (by kernel_rfl) 76 Try.ntmps28 rfl (fun hr => ?_)
  conv => whnf
  refine CallK_intro (c_same_Enums a.enums b.enums) (.inl rfl) ?_
  conv => whnf
  refine condP_intro (fun e1 => ?_) (fun e1 => ?_)
  · conv => whnf
    refine And.intro (retF ?_) trivial
    exact fun e => by rw [(bare_iff.1 e).1] at e1; simp at e1
  · conv => whnf
    refine CallK_intro (c_same_Tables a.tables b.tables) (.inl rfl) ?_
    conv => whnf
    refine condP_intro (fun e2 => ?_) (fun e2 => ?_)
    · conv => whnf
      refine And.intro (retF ?_) trivial
      exact fun e => by rw [(bare_iff.1 e).2.1] at e2; simp at e2
    · conv => whnf
      refine condP_intro (fun e3 => ?_) (fun e3 => ?_)
      · conv => whnf
        refine And.intro (retF ?_) trivial
        exact fun e => by have := congrArg List.length (bare_iff.1 e).2.2; simp at this; simp [this] at e3
      · conv => whnf
        have hlen : a.scopes.length = b.scopes.length := by simp at e3; omega
        refine LoopP_intro (fun i : Nat => i ≤ a.scopes.length ∧ (a.scopes.take i).map bareS = (b.scopes.take i).map bareS) (fun i => ⟨76, [(2, .s (.c (.ref 16 0 0 0))), (3, .s (.c (.ref 24 0 0 0))), (5, vDc (.int .i64 i))], [(16, .var ((cLaw a).map C.d)), (24, .var ((cLaw b).map C.d))]⟩) (fun i => a.scopes.length - i) 0 ⟨Nat.zero_le _, rfl⟩ ?_ (fun i ⟨k1, k2⟩ => ?_)
        · exact Le.sub rfl ⟨⟨⟨rfl, rfl⟩, rfl, rfl⟩, ⟨⟨rfl, rfl⟩, rfl, rfl⟩, rfl⟩ ⟨⟨rfl, rfl, rfl⟩, ⟨rfl, rfl, rfl⟩, trivial⟩
        · conv => whnf
          refine condP_intro (fun q => ?_) (fun q => ?_)
          · have hi : i < a.scopes.length := by simpa using q
            have hj : i < b.scopes.length := by omega
            conv => whnf
            refine ⟨_, ⟨Int.natCast_nonneg _, cget hi⟩, ?_⟩
            conv => whnf
            refine ⟨_, ⟨Int.natCast_nonneg _, cget hj⟩, ?_⟩
            conv => whnf
            refine condP_intro (fun n1 => ?_) (fun n1 => ?_)
            · conv => whnf
              refine And.intro (retF (bare_ne_at hi hj ?_)) trivial
              exact fun e => by obtain ⟨f1, f2, f3, f4⟩ := bareS_iff.1 e; simp [f1] at n1
            · conv => whnf
              refine condP_intro (fun n2 => ?_) (fun n2 => ?_)
              · conv => whnf
                refine And.intro (retF (bare_ne_at hi hj ?_)) trivial
                exact fun e => by obtain ⟨f1, f2, f3, f4⟩ := bareS_iff.1 e; simp [f2] at n2
              · conv => whnf
                refine CallK_intro (c_same_Fields a.scopes[i].inputs b.scopes[i].inputs) (.inl rfl) ?_
                conv => whnf
                refine condP_intro (fun n3 => ?_) (fun n3 => ?_)
                · conv => whnf
                  refine And.intro (retF (bare_ne_at hi hj ?_)) trivial
                  exact fun e => by obtain ⟨f1, f2, f3, f4⟩ := bareS_iff.1 e; simp [f3] at n3
                · conv => whnf
                  refine CallK_intro (c_same_Fields a.scopes[i].defs b.scopes[i].defs) (.inl rfl) ?_
                  conv => whnf
                  refine condP_intro (fun n4 => ?_) (fun n4 => ?_)
                  · conv => whnf
                    refine And.intro (retF (bare_ne_at hi hj ?_)) trivial
                    exact fun e => by obtain ⟨f1, f2, f3, f4⟩ := bareS_iff.1 e; simp [f4] at n4
                  · conv => whnf
                    exact ⟨i + 1, ⟨hi, bare_step hi hj k2 (bareS_iff.2 ⟨by simpa using n1, by simpa using n2, by simpa using n3, by simpa using n4⟩)⟩, Le.sub rfl ⟨⟨⟨rfl, rfl⟩, rfl, rfl⟩, ⟨⟨rfl, rfl⟩, rfl, rfl⟩, inc64 hi (by simpa using hr.1.2.2.len)⟩ ⟨⟨rfl, rfl, rfl⟩, ⟨rfl, rfl, rfl⟩, trivial⟩, by omega⟩
          · conv => whnf
            refine And.intro (retT ?_) trivial
            have h1 : a.scopes.length ≤ i := by simp at q; omega
            rw [List.take_of_length_le h1, List.take_of_length_le (by omega)] at k2
            exact bare_iff.2 ⟨by simpa using e1, by simpa using e2, k2⟩
end Go.Proofs.Ytllfapkcniadgaa
