/- Part of the proof: contracts of the functions that the statement reaches. -/
import Derived.Test.YtllfapkcniadgaaS1A
set_option linter.unusedVariables false
namespace Go.Proofs.Ytllfapkcniadgaa
open Go Go.Ab

theorem fn33 (es : List (List D)) (hb : es.length ≤ 1000000000) : Go.Ab.Fn Try.prog 33 [.c (.slice 1 es)] (.s (.c (.own 0 1))) [(0, .row 3 1 es)] := by
  refine Go.Ab.Fn.intro htab hm Try.func33 rfl (Try.call33) (by kernel_rfl) 8 Try.ntmps33 rfl (fun hr => ?_)
  conv => whnf
  intro b hb
  conv => whnf
  refine condP_intro (fun h => ?_) (fun h => ?_)
  · conv => whnf
    exact And.intro (And.intro rfl (And.intro rfl (hb h))) trivial
  · conv => whnf
    refine ⟨by simp; omega, ?_⟩
    conv => whnf
    exact And.intro (And.intro rfl (And.intro rfl (And.intro rfl rfl))) trivial

theorem fn35 (es : List (List D)) (hb : es.length ≤ 1000000000) : Go.Ab.Fn Try.prog 35 [.c (.slice 5 es)] (.s (.c (.own 0 5))) [(0, .row 26 5 es)] := by
  refine Go.Ab.Fn.intro htab hm Try.func35 rfl (Try.call35) (by kernel_rfl) 8 Try.ntmps35 rfl (fun hr => ?_)
  conv => whnf
  intro b hb
  conv => whnf
  refine condP_intro (fun h => ?_) (fun h => ?_)
  · conv => whnf
    exact And.intro (And.intro rfl (And.intro rfl (hb h))) trivial
  · conv => whnf
    refine ⟨by simp; omega, ?_⟩
    conv => whnf
    exact And.intro (And.intro rfl (And.intro rfl (And.intro rfl rfl))) trivial

/-- Where a number first stands; -1 where it does not. -/
def idx (xs : List Int) (y : Int) : Int := match xs.findIdx? (· == y) with
  | some i => i
  | none => -1

set_option pp.deepTerms false
theorem fn50 (xs : List Int) (y : Int) : Go.Ab.Fn Try.prog 50 [sI xs, dI y] (vD (.int .i64 (idx xs y))) [] := by
  refine Go.Ab.Fn.intro htab hm Try.func50 rfl (Try.call50) (by kernel_rfl) 19 Try.ntmps50 rfl (fun hr => ?_)
  conv => whnf
  refine LoopP_intro (fun i : Nat => i ≤ xs.length ∧ ∀ j, j < i → ∀ x, xs[j]? = some x → x ≠ y) (fun i => ⟨19, [(0, vD (.slice 1 (ints xs))), (1, vD (.int .i64 y)), (8, vD (.int .i64 i)), (7, vD (.int .i64 xs.length))], []⟩) (fun i => xs.length - i) 0 (by simp) ?_ (fun i ⟨hi, he⟩ => ?_)
  · refine Le.sub rfl ⟨rfl, rfl, rfl, ?_⟩ trivial
    show D.int _ _ = D.int _ _
    simp
  · conv => whnf
    refine condP_intro (fun h2 => ?_) (fun h2 => ?_)
    · have hix : i < xs.length := by simpa using h2
      conv => whnf
      refine ⟨_, ⟨Int.natCast_nonneg _, ints_get hix⟩, ?_⟩
      conv => whnf
      refine condP_intro (fun h4 => ?_) (fun h4 => ?_)
      · conv => whnf
        refine And.intro ?_ trivial
        show D.int _ _ = D.int _ _
        have : xs.findIdx? (· == y) = some i := by
          rw [List.findIdx?_eq_some_iff_getElem]
          refine ⟨hix, by simp at h4; simp [h4], fun j hj => ?_⟩
          have := he j hj xs[j] (by simp)
          simpa using this
        simp [idx, this]
      · conv => whnf
        refine ⟨i + 1, ⟨hix, fun j hj x hx => ?_⟩, Le.sub rfl ⟨rfl, rfl, inc64 hix (by simpa using hr.1.len), rfl⟩ trivial, by omega⟩
        by_cases e : j = i
        · subst e
          rw [List.getElem?_eq_getElem hix] at hx
          cases hx
          have := h4
          simp at this
          exact fun e => this e.symm
        · exact he j (by omega) x hx
    · conv => whnf
      refine And.intro ?_ trivial
      show D.int _ _ = D.int _ _
      have h1 : i = xs.length := by simp at h2; omega
      have : xs.findIdx? (· == y) = none := by
        rw [List.findIdx?_eq_none_iff]
        intro x hx
        obtain ⟨j, hj⟩ := List.getElem?_of_mem hx
        have hlt := (List.getElem?_eq_some_iff.1 hj).1
        simpa using he j (by omega) x hj
      simp [idx, this]

theorem idx_mem (xs : List Int) (y : Int) : decide (idx xs y ≥ 0) = decide (y ∈ xs) := by
  unfold idx
  cases h : xs.findIdx? (· == y) with
  | some i =>
    rw [List.findIdx?_eq_some_iff_getElem] at h
    obtain ⟨h1, h2, _⟩ := h
    have : y ∈ xs := by
      have e : xs[i] = y := by simpa using h2
      rw [← e]; exact List.getElem_mem h1
    simp [this]
  | none =>
    rw [List.findIdx?_eq_none_iff] at h
    have : y ∉ xs := fun hm => by simpa using h y hm
    simp [this]

theorem fn34 (xs : List Int) (y : Int) : Go.Ab.Fn Try.prog 34 [sI xs, dI y] (rB (decide (y ∈ xs))) [] := by
  refine Go.Ab.Fn.intro htab hm Try.func34 rfl (Try.call34) (by kernel_rfl) 9 Try.ntmps34 rfl (fun hr => ?_)
  conv => whnf
  refine CallK_intro (fn50 xs y) (.inl rfl) ?_
  conv => whnf
  refine And.intro ?_ trivial
  show D.bool _ = D.bool _
  rw [← idx_mem]

theorem fn16 (xs : List Int) (y : Int) : Go.Ab.Fn Try.prog 16 [.agg [.slice 1 (ints xs)], dI y] (rB (decide (y ∈ xs))) [] := by
  refine Go.Ab.Fn.intro htab hm Try.func16 rfl (Try.call16) (by kernel_rfl) 9 Try.ntmps16 rfl (fun hr => ?_)
  conv => whnf
  refine CallK_intro (fn34 xs y) (.inl rfl) ?_
  conv => whnf
  exact And.intro rfl trivial
end Go.Proofs.Ytllfapkcniadgaa
