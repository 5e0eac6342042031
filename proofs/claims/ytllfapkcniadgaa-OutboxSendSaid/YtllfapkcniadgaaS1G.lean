/- Part of the proof: contracts of the functions that the statement reaches. -/
import Derived.Test.YtllfapkcniadgaaS1F
set_option linter.unusedVariables false
namespace Go.Proofs.Ytllfapkcniadgaa
open Go Go.Ab

theorem fn15_refl (xs : List Int) : Go.Ab.Fn Try.prog 15 [sI xs, sI xs] (rB true) [] := by
  have := fn15 xs xs
  simpa using this

set_option maxRecDepth 8192 in
theorem fn3 (m : List Int) (n : Nt) : Go.Ab.Fn Try.prog 3 [mA m, nA n] (rB true) [] := by
  refine Go.Ab.Fn.intro htab hm Try.func3 rfl (Try.call3) (by kernel_rfl) 50 Try.ntmps3 rfl (fun hr => ?_)
  conv => whnf
  refine condP_intro (fun h => ?_) (fun h => ?_)
  · conv => whnf
    refine CallK_intro fn12 (.inl rfl) ?_
    conv => whnf
    exact And.intro rfl trivial
  · have hl : m.length ≤ 1000 := by simp at h; omega
    conv => whnf
    refine CallK_intro (fn13 m n (by omega)) (.inl rfl) ?_
    conv => whnf
    refine CallK_intro (fn14 m n (by omega)) (.inl rfl) ?_
    conv => whnf
    refine CallK_intro (fn15_refl (dlv m n.id)) (.inl rfl) ?_
    conv => whnf
    refine condP_intro (fun g1 => ?_) (fun g1 => ?_)
    · conv => whnf
      refine CallK_intro (fn16 m n.id) (.inl rfl) ?_
      conv => whnf
      refine CallK_intro (fn17 m n.id) (.inl rfl) ?_
      conv => whnf
      refine condP_intro (fun g2 => ?_) (fun g2 => ?_)
      · conv => whnf
        refine CallK_intro fn12 (.inl rfl) ?_
        conv => whnf
        exact And.intro rfl trivial
      · simp at g2
    · simp at g1
end Go.Proofs.Ytllfapkcniadgaa
