/- Part of the proof: contracts of the functions that the statement reaches. -/
import Derived.Test.YtllfapkcniadgaaS1Tab
set_option linter.unusedVariables false
namespace Go.Proofs.Ytllfapkcniadgaa
open Go Go.Ab

def ints (xs : List Int) : List (List D) := xs.map fun n => [.int .i64 n]
abbrev dI (n : Int) : DV := .c (.int .i64 n)
abbrev sI (xs : List Int) : DV := .c (.slice 1 (ints xs))
abbrev rB (b : Bool) : AV := .s (.c (.d (.bool b)))
abbrev vD (x : D) : AV := .s (.c (.d x))

theorem ints_get {xs : List Int} {i : Nat} (h : i < xs.length) : (ints xs)[(i : Int).toNat]? = some [.int .i64 xs[i]] := by
  simp [ints, h]
@[simp] theorem ints_len (xs : List Int) : (ints xs).length = xs.length := by simp [ints]

set_option pp.deepTerms false
theorem fn15 (xs ys : List Int) : Go.Ab.Fn Try.prog 15 [sI xs, sI ys] (rB (decide (xs = ys))) [] := by
  refine Go.Ab.Fn.intro htab hm Try.func15 rfl (Try.call15) (by kernel_rfl) 32 Try.ntmps15 rfl (fun hr => ?_)
  conv => whnf
  refine condP_intro (fun h => ?_) (fun h => ?_)
  · conv => whnf
    refine ⟨?_, trivial⟩
    simp at h
    have : xs ≠ ys := fun e => h (by rw [e])
    show D.bool false = _
    simp [this]
  · conv => whnf
    have hlen : xs.length = ys.length := by simp at h; omega
    refine LoopP_intro (fun i : Nat => i ≤ xs.length ∧ xs.take i = ys.take i) (fun i => ⟨32, [(0, vD (.slice 1 (ints xs))), (1, vD (.slice 1 (ints ys))), (5, vD (.int .i64 i))], []⟩) (fun i => xs.length - i) 0 (by simp) ?_ (fun i ⟨hi, he⟩ => ?_)
    · refine Le.sub rfl ⟨rfl, rfl, rfl⟩ trivial
    · conv => whnf
      refine condP_intro (fun h2 => ?_) (fun h2 => ?_)
      · have hix : i < xs.length := by simpa using h2
        have hiy : i < ys.length := by omega
        conv => whnf
        refine condP_intro (fun h3 => ?_) (fun h3 => ?_)
        · conv => whnf
          refine ⟨_, ⟨Int.natCast_nonneg _, ints_get hix⟩, ?_⟩
          conv => whnf
          refine ⟨_, ⟨Int.natCast_nonneg _, ints_get hiy⟩, ?_⟩
          conv => whnf
          refine condP_intro (fun h4 => ?_) (fun h4 => ?_)
          · conv => whnf
            refine ⟨?_, trivial⟩
            simp at h4
            have : xs ≠ ys := fun e => h4 (by subst e; rfl)
            show D.bool false = _
            simp [this]
          · conv => whnf
            exact ⟨i + 1, ⟨hix, take_succ_eq hix hiy he (by simpa using h4)⟩, Le.sub rfl ⟨rfl, rfl, inc64 hix (by simpa using hr.1.len)⟩ trivial, by omega⟩
        · simp at h3; omega
      · conv => whnf
        refine ⟨?_, trivial⟩
        have h1 : i = xs.length := by simp at h2; omega
        have : xs = ys := by rw [← List.take_length (l := xs), ← h1, he, h1, hlen, List.take_length]
        show D.bool true = _
        simp [this]
end Go.Proofs.Ytllfapkcniadgaa
