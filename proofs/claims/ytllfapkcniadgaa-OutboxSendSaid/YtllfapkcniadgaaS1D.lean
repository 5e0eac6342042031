/- Part of the proof: contracts of the functions that the statement reaches. -/
import Derived.Test.YtllfapkcniadgaaS1C
set_option linter.unusedVariables false
namespace Go.Proofs.Ytllfapkcniadgaa
open Go Go.Ab

/-- What is sent: the attempts left, the box, what is left of the round, what goes to the next round. -/
def send : List Int → List Int → List Nt → List Nt → List Int × List Nt
  | [], m, rest, nx => (m, nx ++ rest)
  | x :: a, m, n :: r, nx => send a (bif x == 0 || x == 1 then dlv m n.id else m) r (bif x == 0 then nx else nx ++ [n])
  | x :: a, m, [], n :: r => send a (bif x == 0 || x == 1 then dlv m n.id else m) r (bif x == 0 then [] else [n])
  | _ :: _, m, [], [] => (m, [])

theorem send_next (a m : List Int) (nx : List Nt) : send a m [] nx = send a m nx [] := by
  cases a with
  | nil => simp [send]
  | cons x a => cases nx <;> simp [send]

theorem nts_app (xs : List Nt) (y : Nt) : nts xs ++ [[.int .i64 y.id, .int .i64 y.hh, .int .i64 y.mo, .int .i64 y.kd, .int .i64 y.ct]] = nts (xs ++ [y]) := by simp [nts, nRow]

theorem dlv_len (m : List Int) (k : Int) : (dlv m k).length ≤ m.length + 1 := by
  unfold dlv; cases decide (k ∈ m) <;> simp

set_option maxRecDepth 8192 in
theorem fn18 (m : List Int) (p : List Nt) (a : List Int) (hb : m.length + p.length + a.length ≤ 1000000) : Go.Ab.Fn Try.prog 18 [mA m, .c (.slice 5 (nts p)), sI a] (.tup [.agg [.d (.slice 1 (ints (send a m p []).1))], .c (.d (.slice 5 (nts (send a m p []).2)))]) [] := by
  refine Go.Ab.Fn.intro htab hm Try.func18 rfl (Try.call18) (by kernel_rfl) 65 Try.ntmps18 rfl (fun hr => ?_)
  conv => whnf
  refine CallK_intro (fn33 (ints m) (by simp; omega)) (.inl rfl) ?_
  conv => whnf
  refine CallK_intro (fn35 (nts p) (by simp; omega)) (.inl rfl) ?_
  conv => whnf
  refine LoopP_intro (X := List Int × List Int × List Nt) (fun (m1, a1, p1) => send a m p [] = send a1 m1 p1 [] ∧ m1.length + a1.length ≤ m.length + a.length ∧ p1.length ≤ p.length)
    (fun (m1, a1, p1) => ⟨65, [(2, vD (.slice 1 (ints a1))), (6, .s (.c (.ref 48 0 0 0))), (7, .s (.c (.nil 5))), (8, .s (.c (.ref 64 0 0 0))), (9, vD (.slice 5 (nts p1)))], [(64, .var [.d (.slice 1 (ints m1))]), (48, .var [.nil 1])]⟩)
    (fun (_, a1, _) => a1.length) (m, a, p) ⟨rfl, Nat.le_refl _, Nat.le_refl _⟩ ?_ (fun ⟨m1, a1, p1⟩ ⟨h1, h2, h3⟩ => ?_)
  · refine (Le.commit (inL [128, 152]) _).trans (Le.sub rfl ⟨rfl, ⟨⟨rfl, rfl⟩, rfl, rfl⟩, rfl, ⟨⟨rfl, rfl⟩, rfl, rfl⟩, rfl⟩ ⟨rfl, rfl, trivial⟩)
  · conv => whnf
    refine condP_intro (fun h => ?_) (fun h => ?_)
    · have hp0 : 0 < p1.length := by simpa using h
      conv => whnf
      refine LoopP_intro (X := Nat × List Int × List Int × List Nt) (fun (i, m2, a2, nx) => i ≤ p1.length ∧ send a1 m1 p1 [] = send a2 m2 (p1.drop i) nx ∧ m2.length + a2.length ≤ m1.length + a1.length ∧ nx.length ≤ i ∧ a2.length + i = a1.length)
        (fun (i, m2, a2, nx) => ⟨65, [(2, vD (.slice 1 (ints a2))), (6, .s (.c (.ref 48 0 0 0))), (7, .s (.c (.nil 5))), (8, .s (.c (.ref 64 0 0 0))), (9, vD (.slice 5 (nts p1))), (10, .s (.c (.own 1600 5))), (23, vD (.slice 5 (nts p1))), (24, vD (.int .i64 p1.length)), (25, vD (.int .i64 i))], [(1600, .row 26 5 (nts nx)), (64, .var [.d (.slice 1 (ints m2))]), (48, .var [.nil 1])]⟩)
        (fun (i, _, _, _) => p1.length - i) (0, m1, a1, []) ⟨Nat.zero_le _, rfl, Nat.le_refl _, Nat.le_refl _, rfl⟩ ?_ (fun ⟨i, m2, a2, nx⟩ ⟨k1, k2, k3, k4, k5⟩ => ?_)
      · refine Le.sub rfl ⟨rfl, ⟨⟨rfl, rfl⟩, rfl, rfl⟩, rfl, ⟨⟨rfl, rfl⟩, rfl, rfl⟩, rfl, ⟨rfl, rfl, rfl⟩, rfl, ?_, rfl⟩ ⟨rfl, rfl, rfl, trivial⟩
        show D.int _ _ = D.int _ _
        simp
      · conv => whnf
        refine condP_intro (fun q1 => ?_) (fun q1 => ?_)
        · have hi : i < p1.length := by simpa using q1
          conv => whnf
          refine ⟨_, ⟨Int.natCast_nonneg _, nts_get hi⟩, ?_⟩
          conv => whnf
          refine condP_intro (fun q2 => ?_) (fun q2 => ?_)
          · conv => whnf
            have ha : a2 = [] := by simpa using q2
            refine ⟨by simp; omega, ?_⟩
            conv => whnf
            refine ⟨by simp; omega, ?_⟩
            conv => whnf
            have e : send a m p [] = (m2, nx ++ p1.drop i) := by rw [h1, k2, ha]; rfl
            refine And.intro ?_ (And.intro ?_ trivial)
            · show D.slice 1 (ints m2) = _; rw [e]
            · show D.slice 5 (nts nx ++ List.take _ (List.drop _ (nts p1))) = _
              rw [e]
              simp [nts, List.take_of_length_le]
          · obtain ⟨x, a3, rfl⟩ : ∃ x a3, a2 = x :: a3 := by
              cases a2 with
              | nil => simp at q2
              | cons x a3 => exact ⟨x, a3, rfl⟩
            conv => whnf
            refine ⟨_, ⟨Int.le_refl _, rfl⟩, ?_⟩
            conv => whnf
            refine ⟨by simp; omega, ?_⟩
            conv => whnf
            have hlen : m2.length + (a3.length + 1) ≤ m1.length + a1.length := by simpa using k3
            have hdrop : p1.drop i = p1[i] :: p1.drop (i + 1) := List.drop_eq_getElem_cons hi
            have hstep : send a m p [] = send a3 (bif x == 0 || x == 1 then dlv m2 p1[i].id else m2) (p1.drop (i + 1)) (bif x == 0 then nx else nx ++ [p1[i]]) := by
              rw [h1, k2, hdrop]; rfl
            have hd := dlv_len m2 p1[i].id
            have hsl : D.slice 1 (List.take ((((ints (x :: a3)).length : Nat) : Int).toNat - Int.toNat 1) (List.drop (Int.toNat 1) (ints (x :: a3)))) = D.slice 1 (ints a3) := by simp [ints, List.take_of_length_le]
            have hk : a3.length + (i + 1) = a1.length := by simp at k5; omega
            refine condP_intro (fun q3 => ?_) (fun q3 => ?_)
            · rw [q3] at hstep
              conv => whnf
              refine CallK_intro (fn13 m2 p1[i] (by omega)) (.inl rfl) ?_
              conv => whnf
              refine condP_intro (fun q4 => ?_) (fun q4 => ?_)
              · simp at q3 q4; exact absurd q3 q4
              · conv => whnf
                refine ⟨(i + 1, dlv m2 p1[i].id, a3, nx), ⟨by omega, h1 ▸ hstep, by omega, by omega, hk⟩, ?_, by show p1.length - (i + 1) < p1.length - i; omega⟩
                exact Le.sub rfl ⟨hsl, ⟨⟨rfl, rfl⟩, rfl, rfl⟩, rfl, ⟨⟨rfl, rfl⟩, rfl, rfl⟩, rfl, ⟨rfl, rfl⟩, rfl, rfl, inc64 hi (by omega)⟩ ⟨⟨⟨rfl, rfl⟩, rfl⟩, rfl, rfl, trivial⟩
            · rw [q3] at hstep
              conv => whnf
              refine condP_intro (fun q5 => ?_) (fun q5 => ?_)
              · rw [q5] at hstep
                conv => whnf
                refine CallK_intro (fn13 m2 p1[i] (by omega)) (.inl rfl) ?_
                conv => whnf
                refine condP_intro (fun q4 => ?_) (fun q4 => ?_)
                · conv => whnf
                  refine ⟨by simp; omega, ?_⟩
                  conv => whnf
                  refine ⟨(i + 1, dlv m2 p1[i].id, a3, nx ++ [p1[i]]), ⟨by omega, h1 ▸ hstep, by omega, by simp; omega, hk⟩, ?_, by show p1.length - (i + 1) < p1.length - i; omega⟩
                  exact Le.sub rfl ⟨hsl, ⟨⟨rfl, rfl⟩, rfl, rfl⟩, rfl, ⟨⟨rfl, rfl⟩, rfl, rfl⟩, rfl, ⟨rfl, rfl⟩, rfl, rfl, inc64 hi (by omega)⟩ ⟨⟨⟨rfl, rfl⟩, nts_app nx p1[i]⟩, rfl, rfl, trivial⟩
                · simp at q3 q4; exact absurd q4 q3
              · rw [q5] at hstep
                conv => whnf
                refine condP_intro (fun q4 => ?_) (fun q4 => ?_)
                · conv => whnf
                  refine ⟨by simp; omega, ?_⟩
                  conv => whnf
                  refine ⟨(i + 1, m2, a3, nx ++ [p1[i]]), ⟨by omega, h1 ▸ hstep, by omega, by simp; omega, hk⟩, ?_, by show p1.length - (i + 1) < p1.length - i; omega⟩
                  exact Le.sub rfl ⟨hsl, ⟨⟨rfl, rfl⟩, rfl, rfl⟩, rfl, ⟨⟨rfl, rfl⟩, rfl, rfl⟩, rfl, ⟨rfl, rfl⟩, rfl, rfl, inc64 hi (by omega)⟩ ⟨⟨⟨rfl, rfl⟩, nts_app nx p1[i]⟩, rfl, rfl, trivial⟩
                · simp at q3 q4; exact absurd q4 q3
        · have hi : i = p1.length := by simp at q1; omega
          conv => whnf
          refine ⟨(m2, a2, nx), ⟨?_, by omega, by omega⟩, ?_, by show a2.length < a1.length; omega⟩
          · rw [h1, k2, hi, List.drop_length, send_next]
          · exact (Le.commit (inL [1600]) _).trans (Le.sub rfl ⟨rfl, ⟨⟨rfl, rfl⟩, rfl, rfl⟩, rfl, ⟨⟨rfl, rfl⟩, rfl, rfl⟩, rfl⟩ ⟨rfl, rfl, trivial⟩)
    · conv => whnf
      have hp1 : p1 = [] := by simp at h; exact h
      have e : send a m p [] = (m1, []) := by
        rw [h1, hp1]; cases a1 <;> rfl
      refine And.intro ?_ (And.intro ?_ trivial)
      · show D.slice 1 (ints m1) = _; rw [e]
      · show D.slice 5 (nts p1) = _; rw [e, hp1]
end Go.Proofs.Ytllfapkcniadgaa
