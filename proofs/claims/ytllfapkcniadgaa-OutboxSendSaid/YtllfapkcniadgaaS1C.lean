/- Part of the proof: contracts of the functions that the statement reaches. -/
import Derived.Test.YtllfapkcniadgaaS1B
set_option linter.unusedVariables false
namespace Go.Proofs.Ytllfapkcniadgaa
open Go Go.Ab

theorem fn17 (xs : List Int) (y : Int) : Go.Ab.Fn Try.prog 17 [.agg [.slice 1 (ints xs)], dI y] (rB (decide (y ∈ xs))) [] := by
  refine Go.Ab.Fn.intro htab hm Try.func17 rfl (Try.call17) (by kernel_rfl) 20 Try.ntmps17 rfl (fun hr => ?_)
  conv => whnf
  refine LoopP_intro (fun i : Nat => i ≤ xs.length ∧ ∀ j, j < i → ∀ x, xs[j]? = some x → x ≠ y) (fun i => ⟨20, [(2, .s (.c (.ref 16 0 0 0))), (1, vD (.int .i64 y)), (5, vD (.int .i64 i))], [(16, .var [.d (.slice 1 (ints xs))])]⟩) (fun i => xs.length - i) 0 (by simp) ?_ (fun i ⟨hi, he⟩ => ?_)
  · exact Le.sub rfl ⟨⟨⟨rfl, rfl⟩, rfl, rfl⟩, rfl, rfl⟩ ⟨rfl, trivial⟩
  · conv => whnf
    refine condP_intro (fun h2 => ?_) (fun h2 => ?_)
    · have hix : i < xs.length := by simpa using h2
      conv => whnf
      refine ⟨_, ⟨Int.natCast_nonneg _, ints_get hix⟩, ?_⟩
      conv => whnf
      refine condP_intro (fun h4 => ?_) (fun h4 => ?_)
      · conv => whnf
        refine And.intro ?_ trivial
        show D.bool _ = D.bool _
        have : y ∈ xs := by
          have e : xs[i] = y := by simpa using h4
          rw [← e]; exact List.getElem_mem hix
        simp [this]
      · conv => whnf
        refine ⟨i + 1, ⟨hix, fun j hj x hx => ?_⟩, Le.sub rfl ⟨⟨⟨rfl, rfl⟩, rfl, rfl⟩, rfl, inc64 hix (by simpa using hr.1.len)⟩ ⟨rfl, trivial⟩, by omega⟩
        by_cases e : j = i
        · subst e
          rw [List.getElem?_eq_getElem hix] at hx
          cases hx
          simpa using h4
        · exact he j (by omega) x hx
    · conv => whnf
      refine And.intro ?_ trivial
      show D.bool _ = D.bool _
      have h1 : i = xs.length := by simp at h2; omega
      have : y ∉ xs := fun hm => by
        obtain ⟨j, hj⟩ := List.getElem?_of_mem hm
        have hlt := (List.getElem?_eq_some_iff.1 hj).1
        exact he j (by omega) y hj rfl
      simp [this]

structure Nt where
  id : Int
  hh : Int
  mo : Int
  kd : Int
  ct : Int
deriving DecidableEq

def nRow (n : Nt) : List D := [.int .i64 n.id, .int .i64 n.hh, .int .i64 n.mo, .int .i64 n.kd, .int .i64 n.ct]
def nts (l : List Nt) : List (List D) := l.map nRow
@[simp] theorem nts_len (l : List Nt) : (nts l).length = l.length := by simp [nts]
theorem nts_get {xs : List Nt} {i : Nat} (h : i < xs.length) : (nts xs)[(i : Int).toNat]? = some [.int .i64 xs[i].id, .int .i64 xs[i].hh, .int .i64 xs[i].mo, .int .i64 xs[i].kd, .int .i64 xs[i].ct] := by
  simp [nts, h, nRow]
abbrev nA (n : Nt) : DV := .agg [.int .i64 n.id, .int .i64 n.hh, .int .i64 n.mo, .int .i64 n.kd, .int .i64 n.ct]
abbrev mA (xs : List Int) : DV := .agg [.slice 1 (ints xs)]

/-- What a delivery leaves, and whether it was new. -/
def dlv (m : List Int) (k : Int) : List Int := bif decide (k ∈ m) then m else m ++ [k]

theorem ints_app (xs : List Int) (y : Int) : ints xs ++ [[.int .i64 y]] = ints (xs ++ [y]) := by simp [ints]

set_option pp.deepTerms false
theorem fn13 (xs : List Int) (n : Nt) (hb : xs.length ≤ 900000000) : Go.Ab.Fn Try.prog 13 [mA xs, nA n] (.tup [.agg [.d (.slice 1 (ints (dlv xs n.id)))], .c (.d (.bool (!decide (n.id ∈ xs))))]) [] := by
  refine Go.Ab.Fn.intro htab hm Try.func13 rfl (Try.call13) (by kernel_rfl) 24 Try.ntmps13 rfl (fun hr => ?_)
  conv => whnf
  refine CallK_intro (fn33 (ints xs) (by simp; omega)) (.inl rfl) ?_
  conv => whnf
  refine CallK_intro (fn16 xs n.id) (.inl rfl) ?_
  conv => whnf
  refine condP_intro (fun h => ?_) (fun h => ?_)
  · conv => whnf
    refine And.intro ?_ (And.intro ?_ trivial)
    · show D.slice 1 (ints xs) = _; simp [dlv, h]
    · show D.bool _ = D.bool _; simp [h]
  · conv => whnf
    refine ⟨by simp; omega, ?_⟩
    conv => whnf
    refine And.intro ?_ (And.intro ?_ trivial)
    · show D.slice 1 (ints xs ++ [[D.int .i64 n.id]]) = _; simp [dlv, h, ints_app]
    · show D.bool _ = D.bool _; simp [h]

theorem fn14 (xs : List Int) (n : Nt) (hb : xs.length ≤ 900000000) : Go.Ab.Fn Try.prog 14 [mA xs, nA n] (.tup [.agg [.d (.slice 1 (ints (dlv xs n.id)))], .c (.d (.bool (!decide (n.id ∈ xs))))]) [] := by
  refine Go.Ab.Fn.intro htab hm Try.func14 rfl (Try.call14) (by kernel_rfl) 25 Try.ntmps14 rfl (fun hr => ?_)
  conv => whnf
  refine ⟨by simp; omega, ?_⟩
  conv => whnf
  refine CallK_intro (fn17 xs n.id) (.inl rfl) ?_
  conv => whnf
  refine condP_intro (fun h => ?_) (fun h => ?_)
  · conv => whnf
    refine And.intro ?_ (And.intro ?_ trivial)
    · show D.slice 1 (ints xs) = _; simp [dlv, h]
    · show D.bool _ = D.bool _; simp [h]
  · conv => whnf
    refine ⟨by simp; omega, ?_⟩
    conv => whnf
    refine And.intro ?_ (And.intro ?_ trivial)
    · show D.slice 1 (ints xs ++ [[D.int .i64 n.id]]) = _; simp [dlv, h, ints_app]
    · show D.bool _ = D.bool _; simp [h]

end Go.Proofs.Ytllfapkcniadgaa
