/- Part of the proof: contracts of the functions that the statement reaches. -/
import Derived.Test.YtllfapkcniadgaaS1D
set_option linter.unusedVariables false
namespace Go.Proofs.Ytllfapkcniadgaa
open Go Go.Ab

theorem fn12_18 : Go.Ab.Fn Try.prog 18 [mA [], .c (.slice 5 (nts [⟨5, 0, 0, 0, 0⟩, ⟨9, 0, 0, 0, 0⟩])), sI [1, 0, 0]] (.tup [.agg [.d (.slice 1 (ints [5, 9]))], .c (.d (.slice 5 (nts [])))]) [] := fn18 [] [⟨5, 0, 0, 0, 0⟩, ⟨9, 0, 0, 0, 0⟩] [1, 0, 0] (by decide)

theorem fn12_13 : Go.Ab.Fn Try.prog 13 [mA [5, 9], nA ⟨9, 0, 0, 0, 0⟩] (.tup [.agg [.d (.slice 1 (ints [5, 9]))], .c (.d (.bool false))]) [] := fn13 [5, 9] ⟨9, 0, 0, 0, 0⟩ (by decide)

theorem fn12_15 : Go.Ab.Fn Try.prog 15 [sI [5, 9], sI [5, 9]] (rB true) [] := fn15 [5, 9] [5, 9]
theorem fn12_16a : Go.Ab.Fn Try.prog 16 [mA [5, 9], dI 5] (rB true) [] := fn16 [5, 9] 5
theorem fn12_16b : Go.Ab.Fn Try.prog 16 [mA [5, 9], dI 6] (rB false) [] := fn16 [5, 9] 6

set_option maxRecDepth 8192 in
theorem fn12 : Go.Ab.Fn Try.prog 12 [] (rB true) [] := by
  refine Go.Ab.Fn.intro htab hm Try.func12 rfl (Try.call12) (by kernel_rfl) 51 Try.ntmps12 rfl (fun hr => ?_)
  conv => whnf
  right
  conv => whnf
  refine CallK_intro fn12_18 (.inl rfl) ?_
  conv => whnf
  refine CallK_intro fn12_13 (.inl rfl) ?_
  conv => whnf
  left
  conv => whnf
  refine CallK_intro fn12_15 (.inr ⟨rfl, rfl⟩) ?_
  conv => whnf
  refine CallK_intro fn12_15 (.inl rfl) ?_
  conv => whnf
  refine CallK_intro fn12_16a (.inl rfl) ?_
  conv => whnf
  refine CallK_intro fn12_16b (.inl rfl) ?_
  conv => whnf
  exact And.intro rfl trivial

end Go.Proofs.Ytllfapkcniadgaa
