/- Part of the proof: contracts of the functions that the statement reaches. -/
import Derived.Test.YtllfapkcniadgaaS1I
set_option linter.unusedVariables false
namespace Go.Proofs.Ytllfapkcniadgaa
open Go Go.Ab

set_option pp.deepTerms false
set_option maxRecDepth 8192 in
theorem fn6 (m : List Int) (p : List Nt) (a : List Int) : Go.Ab.Fn Try.prog 6 [mA m, .c (.slice 5 (nts p)), sI a] (rB true) [] := by
  refine Go.Ab.Fn.intro htab hm Try.func6 rfl (Try.call6) (by kernel_rfl) 69 Try.ntmps6 rfl (fun hr => ?_)
  conv => whnf
  refine condP_intro (fun h1 => ?_) (fun h1 => ?_)
  · conv => whnf
    refine CallK_intro fn12 (.inl rfl) ?_
    conv => whnf
    exact And.intro rfl trivial
  · conv => whnf
    refine condP_intro (fun h2 => ?_) (fun h2 => ?_)
    · conv => whnf
      refine CallK_intro fn12 (.inl rfl) ?_
      conv => whnf
      exact And.intro rfl trivial
    · conv => whnf
      refine condP_intro (fun h3 => ?_) (fun h3 => ?_)
      · conv => whnf
        refine CallK_intro fn12 (.inl rfl) ?_
        conv => whnf
        exact And.intro rfl trivial
      · have l1 : m.length ≤ 200 := by simp at h1; omega
        have l2 : p.length ≤ 20 := by simp at h2; omega
        have l3 : a.length ≤ 200 := by simp at h3; omega
        have l4 : p.length * p.length ≤ 400 := Nat.mul_le_mul l2 l2
        have l5 : ((p.length : Int) * (p.length : Int)) = ((p.length * p.length : Nat) : Int) := by simp
        conv => whnf
        refine ⟨by simp; omega, ?_⟩
        conv => whnf
        refine LoopP_intro (fun i : Nat => i ≤ p.length * p.length) (fun i => ⟨69, [(1, vD (.slice 5 (nts p))), (3, .s (.c (.ref 24 0 0 0))), (7, .s (.c (.own 216 1))), (8, vD (.int .i64 i))], [(216, .row 3 1 (ints (a ++ List.replicate i 0))), (24, .var [.d (.slice 1 (ints m))])]⟩)
          (fun i => p.length * p.length - i) 0 (Nat.zero_le _) ?_ (fun i k1 => ?_)
        · refine Le.sub rfl ⟨rfl, ⟨⟨rfl, rfl⟩, rfl, rfl⟩, ⟨rfl, rfl⟩, rfl⟩ ⟨⟨⟨rfl, rfl⟩, ?_⟩, rfl, trivial⟩
          show [] ++ ints a = _
          simp
        · conv => whnf
          refine condP_intro (fun q1 => ?_) (fun q1 => ?_)
          · have hi : i < p.length * p.length := by
              have := of_decide_eq_true q1
              simp only [nts_len] at this
              rw [l5, IntWalk.i64_in _ (by omega)] at this
              omega
            conv => whnf
            refine ⟨by simp; omega, ?_⟩
            conv => whnf
            refine ⟨i + 1, hi, Le.sub rfl ⟨rfl, ⟨⟨rfl, rfl⟩, rfl, rfl⟩, ⟨rfl, rfl⟩, inc64 hi (by omega)⟩ ⟨⟨⟨rfl, rfl⟩, ?_⟩, rfl, trivial⟩, by omega⟩
            show ints (a ++ List.replicate i 0) ++ [[D.int .i64 0]] = _
            rw [ints_app, List.append_assoc, ← List.replicate_succ']
          · have hi : i = p.length * p.length := by
              have := of_decide_eq_false q1
              simp only [nts_len] at this
              rw [l5, IntWalk.i64_in _ (by omega)] at this
              omega
            subst hi
            conv => whnf
            right
            conv => whnf
            refine CallK_intro (fn18 m p (a ++ List.replicate (p.length * p.length) 0) (by simp; omega)) (.inl rfl) ?_
            have hS := send_sent (a ++ List.replicate (p.length * p.length) 0) m p []
            have hd : (send (a ++ List.replicate (p.length * p.length) 0) m p []).2 = [] := send_done a _ m p [] (by
              simp
              exact Nat.le_mul_self _)
            rw [List.append_nil] at hS
            generalize send (a ++ List.replicate (p.length * p.length) 0) m p [] = r at hS hd
            obtain ⟨R, L⟩ := r
            simp only at hd
            subst hd
            conv => whnf
            refine LoopP_intro (fun i : Nat => i ≤ p.length) (fun i => ⟨69, [(1, vD (.slice 5 (nts p))), (9, .s (.c (.ref 72 0 0 0))), (10, vD (.slice 5 (nts []))), (11, vD (.int .i64 i))], [(72, .var [.d (.slice 1 (ints R))])]⟩)
              (fun i => p.length - i) 0 (Nat.zero_le _) ?_ (fun i k3 => ?_)
            · exact Le.sub rfl ⟨rfl, ⟨⟨rfl, rfl⟩, rfl, rfl⟩, rfl, rfl⟩ ⟨rfl, trivial⟩
            · conv => whnf
              refine condP_intro (fun q2 => ?_) (fun q2 => ?_)
              · have hi : i < p.length := by simpa using q2
                have hal : p[i].id ∈ R := by
                  rcases hS.all p[i] (List.getElem_mem hi) with h | h
                  · simp at h
                  · exact h
                have c16 : Go.Ab.Fn Try.prog 16 [mA R, dI p[i].id] (rB true) [] := by
                  have := fn16 R p[i].id
                  rwa [decide_eq_true hal] at this
                conv => whnf
                refine ⟨_, ⟨Int.natCast_nonneg _, nts_get hi⟩, ?_⟩
                conv => whnf
                refine CallK_intro c16 (.inl rfl) ?_
                conv => whnf
                exact ⟨i + 1, hi, Le.sub rfl ⟨rfl, ⟨⟨rfl, rfl⟩, rfl, rfl⟩, rfl, inc64 hi (by omega)⟩ ⟨rfl, trivial⟩, by omega⟩
              · conv => whnf
                refine CallK_intro fn12 (.inl rfl) ?_
                conv => whnf
                exact And.intro rfl trivial
end Go.Proofs.Ytllfapkcniadgaa
