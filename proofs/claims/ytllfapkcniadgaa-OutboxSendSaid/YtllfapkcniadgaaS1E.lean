/- Part of the proof: contracts of the functions that the statement reaches. -/
import Derived.Test.YtllfapkcniadgaaS1D
set_option linter.unusedVariables false
namespace Go.Proofs.Ytllfapkcniadgaa
open Go Go.Ab

set_option maxRecDepth 8192 in
theorem fn19 (m : List Int) (p : List Nt) (a : List Int) (hb : m.length + p.length + a.length ≤ 1000000) : Go.Ab.Fn Try.prog 19 [mA m, .c (.slice 5 (nts p)), sI a] (.tup [.agg [.d (.slice 1 (ints (send a m p []).1))], .c (.d (.slice 5 (nts (send a m p []).2)))]) [] := by
  refine Go.Ab.Fn.intro htab hm Try.func19 rfl (Try.call19) (by kernel_rfl) 82 Try.ntmps19 rfl (fun hr => ?_)
  conv => whnf
  refine ⟨by simp; omega, ?_⟩
  conv => whnf
  refine ⟨by simp; omega, ?_⟩
  conv => whnf
  refine LoopP_intro (X := List Int × Nat × List Nt) (fun (m1, q, p1) => send a m p [] = send (a.drop q) m1 p1 [] ∧ q ≤ a.length ∧ m1.length ≤ m.length + q ∧ p1.length ≤ p.length)
    (fun (m1, q, p1) => ⟨82, [(2, vD (.slice 1 (ints a))), (6, .s (.c (.ref 48 0 0 0))), (7, .s (.c (.nil 5))), (8, .s (.c (.ref 64 0 0 0))), (9, vD (.slice 5 (nts p1))), (10, vD (.int .i64 q))], [(64, .var [.d (.slice 1 (ints m1))]), (48, .var [.nil 1])]⟩)
    (fun (_, q, _) => a.length - q) (m, 0, p) ⟨rfl, Nat.zero_le _, Nat.le_refl _, Nat.le_refl _⟩ ?_ (fun ⟨m1, q, p1⟩ ⟨h1, h2, h3, h4⟩ => ?_)
  · refine (Le.commit (inL [112, 152]) _).trans (Le.sub rfl ⟨rfl, ⟨⟨rfl, rfl⟩, rfl, rfl⟩, rfl, ⟨⟨rfl, rfl⟩, rfl, rfl⟩, rfl, rfl⟩ ⟨rfl, rfl, trivial⟩)
  · have fin : (q = a.length ∨ p1 = []) → send a m p [] = (m1, p1) := by
      rintro (h | h)
      · rw [h1, h, List.drop_length]; simp [send]
      · rw [h1, h]; cases a.drop q <;> rfl
    conv => whnf
    refine condP_intro (fun g1 => ?_) (fun g1 => ?_)
    · have hq : q < a.length := by simpa using g1
      conv => whnf
      refine condP_intro (fun g2 => ?_) (fun g2 => ?_)
      · have hp0 : 0 < p1.length := by simpa using g2
        conv => whnf
        refine LoopP_intro (X := Nat × Nat × List Int × List Nt) (fun (i, q2, m2, nx) => i ≤ p1.length ∧ send a m p [] = send (a.drop q2) m2 (p1.drop i) nx ∧ q2 ≤ a.length ∧ m2.length ≤ m.length + q2 ∧ nx.length ≤ i ∧ q ≤ q2 ∧ (0 < i → q < q2))
          (fun (i, q2, m2, nx) => ⟨82, [(2, vD (.slice 1 (ints a))), (6, .s (.c (.ref 48 0 0 0))), (7, .s (.c (.nil 5))), (8, .s (.c (.ref 64 0 0 0))), (9, vD (.slice 5 (nts p1))), (10, vD (.int .i64 q2)), (11, .s (.c (.own 1600 5))), (12, vD (.int .i64 i))], [(1600, .row 26 5 (nts nx)), (64, .var [.d (.slice 1 (ints m2))]), (48, .var [.nil 1])]⟩)
          (fun (i, _, _, _) => p1.length - i) (0, q, m1, []) ⟨Nat.zero_le _, h1, h2, h3, Nat.le_refl _, Nat.le_refl _, fun h => absurd h (Nat.lt_irrefl 0)⟩ ?_ (fun ⟨i, q2, m2, nx⟩ ⟨k1, k2, k3, k4, k5, k6, k7⟩ => ?_)
        · refine (Le.swap 248 1600 _).trans (Le.sub rfl ⟨rfl, ⟨⟨rfl, rfl⟩, rfl, rfl⟩, rfl, ⟨⟨rfl, rfl⟩, rfl, rfl⟩, rfl, rfl, ⟨rfl, rfl⟩, rfl⟩ ⟨⟨⟨rfl, rfl⟩, rfl⟩, rfl, rfl, trivial⟩)
        · conv => whnf
          refine condP_intro (fun q1 => ?_) (fun q1 => ?_)
          · have hi : i < p1.length := by simpa using q1
            have hdrop : p1.drop i = p1[i] :: p1.drop (i + 1) := List.drop_eq_getElem_cons hi
            conv => whnf
            refine condP_intro (fun g3 => ?_) (fun g3 => ?_)
            · have hqe : q2 = a.length := by simp at g3; omega
              conv => whnf
              refine ⟨_, ⟨Int.natCast_nonneg _, nts_get hi⟩, ?_⟩
              conv => whnf
              refine ⟨by simp; omega, ?_⟩
              conv => whnf
              refine ⟨(i + 1, q2, m2, nx ++ [p1[i]]), ⟨by omega, ?_, k3, k4, by simp; omega, k6, fun _ => by omega⟩, ?_, by show p1.length - (i + 1) < p1.length - i; omega⟩
              · rw [k2, hdrop, hqe, List.drop_length]; simp [send]
              · exact Le.sub rfl ⟨rfl, ⟨⟨rfl, rfl⟩, rfl, rfl⟩, rfl, ⟨⟨rfl, rfl⟩, rfl, rfl⟩, rfl, rfl, ⟨rfl, rfl⟩, inc64 hi (by omega)⟩ ⟨⟨⟨rfl, rfl⟩, nts_app nx p1[i]⟩, rfl, rfl, trivial⟩
            · have hql : q2 < a.length := by simp at g3; omega
              have hstep : send a m p [] = send (a.drop (q2 + 1)) (bif a[q2] == 0 || a[q2] == 1 then dlv m2 p1[i].id else m2) (p1.drop (i + 1)) (bif a[q2] == 0 then nx else nx ++ [p1[i]]) := by
                rw [k2, hdrop, List.drop_eq_getElem_cons hql]; rfl
              have hd := dlv_len m2 p1[i].id
              have hlt : a.length ≤ 9223372036854775807 := by omega
              conv => whnf
              refine ⟨_, ⟨Int.natCast_nonneg _, ints_get hql⟩, ?_⟩
              conv => whnf
              refine condP_intro (fun q3 => ?_) (fun q3 => ?_)
              · rw [q3] at hstep
                conv => whnf
                refine ⟨_, ⟨Int.natCast_nonneg _, nts_get hi⟩, ?_⟩
                conv => whnf
                refine CallK_intro (fn14 m2 p1[i] (by omega)) (.inl rfl) ?_
                conv => whnf
                refine condP_intro (fun q4 => ?_) (fun q4 => ?_)
                · simp at q3 q4; exact absurd q3 q4
                · conv => whnf
                  refine ⟨(i + 1, q2 + 1, dlv m2 p1[i].id, nx), ⟨by omega, hstep, by omega, by omega, by omega, by omega, fun _ => by omega⟩, ?_, by show p1.length - (i + 1) < p1.length - i; omega⟩
                  exact Le.sub rfl ⟨rfl, ⟨⟨rfl, rfl⟩, rfl, rfl⟩, rfl, ⟨⟨rfl, rfl⟩, rfl, rfl⟩, rfl, inc64 hql hlt, ⟨rfl, rfl⟩, inc64 hi (by omega)⟩ ⟨⟨⟨rfl, rfl⟩, rfl⟩, rfl, rfl, trivial⟩
              · rw [q3] at hstep
                conv => whnf
                refine condP_intro (fun q5 => ?_) (fun q5 => ?_)
                · rw [q5] at hstep
                  conv => whnf
                  refine ⟨_, ⟨Int.natCast_nonneg _, nts_get hi⟩, ?_⟩
                  conv => whnf
                  refine CallK_intro (fn14 m2 p1[i] (by omega)) (.inl rfl) ?_
                  conv => whnf
                  refine condP_intro (fun q4 => ?_) (fun q4 => ?_)
                  · conv => whnf
                    refine ⟨_, ⟨Int.natCast_nonneg _, nts_get hi⟩, ?_⟩
                    conv => whnf
                    refine ⟨by simp; omega, ?_⟩
                    conv => whnf
                    refine ⟨(i + 1, q2 + 1, dlv m2 p1[i].id, nx ++ [p1[i]]), ⟨by omega, hstep, by omega, by omega, by simp; omega, by omega, fun _ => by omega⟩, ?_, by show p1.length - (i + 1) < p1.length - i; omega⟩
                    exact Le.sub rfl ⟨rfl, ⟨⟨rfl, rfl⟩, rfl, rfl⟩, rfl, ⟨⟨rfl, rfl⟩, rfl, rfl⟩, rfl, inc64 hql hlt, ⟨rfl, rfl⟩, inc64 hi (by omega)⟩ ⟨⟨⟨rfl, rfl⟩, nts_app nx p1[i]⟩, rfl, rfl, trivial⟩
                  · simp at q3 q4; exact absurd q4 q3
                · rw [q5] at hstep
                  conv => whnf
                  refine condP_intro (fun q4 => ?_) (fun q4 => ?_)
                  · conv => whnf
                    refine ⟨_, ⟨Int.natCast_nonneg _, nts_get hi⟩, ?_⟩
                    conv => whnf
                    refine ⟨by simp; omega, ?_⟩
                    conv => whnf
                    refine ⟨(i + 1, q2 + 1, m2, nx ++ [p1[i]]), ⟨by omega, hstep, by omega, by omega, by simp; omega, by omega, fun _ => by omega⟩, ?_, by show p1.length - (i + 1) < p1.length - i; omega⟩
                    exact Le.sub rfl ⟨rfl, ⟨⟨rfl, rfl⟩, rfl, rfl⟩, rfl, ⟨⟨rfl, rfl⟩, rfl, rfl⟩, rfl, inc64 hql hlt, ⟨rfl, rfl⟩, inc64 hi (by omega)⟩ ⟨⟨⟨rfl, rfl⟩, nts_app nx p1[i]⟩, rfl, rfl, trivial⟩
                  · simp at q3 q4; exact absurd q4 q3
          · have hi : i = p1.length := by simp at q1; omega
            conv => whnf
            refine ⟨(m2, q2, nx), ⟨?_, by omega, by omega, by omega⟩, ?_, by show a.length - q2 < a.length - q; have := k7 (by omega); omega⟩
            · rw [k2, hi, List.drop_length, send_next]
            · exact (Le.commit (inL [1600]) _).trans (Le.sub rfl ⟨rfl, ⟨⟨rfl, rfl⟩, rfl, rfl⟩, rfl, ⟨⟨rfl, rfl⟩, rfl, rfl⟩, rfl, rfl⟩ ⟨rfl, rfl, trivial⟩)
      · conv => whnf
        have hp1 : p1 = [] := by simp at g2; exact g2
        have e := fin (.inr hp1)
        refine And.intro ?_ (And.intro ?_ trivial)
        · show D.slice 1 (ints m1) = _; rw [e]
        · show D.slice 5 (nts p1) = _; rw [e]
    · conv => whnf
      have hq : q = a.length := by simp at g1; omega
      have e := fin (.inl hq)
      refine And.intro ?_ (And.intro ?_ trivial)
      · show D.slice 1 (ints m1) = _; rw [e]
      · show D.slice 5 (nts p1) = _; rw [e]
end Go.Proofs.Ytllfapkcniadgaa
