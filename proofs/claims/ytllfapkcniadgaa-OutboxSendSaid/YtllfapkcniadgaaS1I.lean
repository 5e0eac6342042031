/- Part of the proof: contracts of the functions that the statement reaches. -/
import Derived.Test.YtllfapkcniadgaaS1L
set_option linter.unusedVariables false
namespace Go.Proofs.Ytllfapkcniadgaa
open Go Go.Ab

theorem fn21 (l : List Nt) (y : Int) : Go.Ab.Fn Try.prog 21 [.c (.slice 5 (nts l)), dI y] (rB (decide (y ∈ l.map (·.id)))) [] := by
  refine Go.Ab.Fn.intro htab hm Try.func21 rfl (Try.call21) (by kernel_rfl) 19 Try.ntmps21 rfl (fun hr => ?_)
  conv => whnf
  refine LoopP_intro (fun i : Nat => i ≤ l.length ∧ ∀ j, j < i → ∀ x, l[j]? = some x → x.id ≠ y) (fun i => ⟨19, [(0, vD (.slice 5 (nts l))), (1, vD (.int .i64 y)), (5, vD (.int .i64 i))], []⟩) (fun i => l.length - i) 0 (by simp) ?_ (fun i ⟨hi, he⟩ => ?_)
  · exact Le.sub rfl ⟨rfl, rfl, rfl⟩ trivial
  · conv => whnf
    refine condP_intro (fun h2 => ?_) (fun h2 => ?_)
    · have hix : i < l.length := by simpa using h2
      conv => whnf
      refine ⟨_, ⟨Int.natCast_nonneg _, nts_get hix⟩, ?_⟩
      conv => whnf
      refine condP_intro (fun h4 => ?_) (fun h4 => ?_)
      · conv => whnf
        refine And.intro ?_ trivial
        show D.bool _ = D.bool _
        have : y ∈ l.map (·.id) := by
          have e : l[i].id = y := by simpa using h4
          rw [← e]; exact List.mem_map.2 ⟨l[i], List.getElem_mem hix, rfl⟩
        rw [decide_eq_true this]
      · conv => whnf
        refine ⟨i + 1, ⟨hix, fun j hj x hx => ?_⟩, Le.sub rfl ⟨rfl, rfl, inc64 hix (by simpa using hr.1.len)⟩ trivial, by omega⟩
        by_cases e : j = i
        · subst e
          rw [List.getElem?_eq_getElem hix] at hx
          cases hx
          simpa using h4
        · exact he j (by omega) x hx
    · conv => whnf
      refine And.intro ?_ trivial
      show D.bool _ = D.bool _
      have h1 : i = l.length := by simp at h2; omega
      have : y ∉ l.map (·.id) := fun hm => by
        obtain ⟨x, hx, rfl⟩ := List.mem_map.1 hm
        obtain ⟨j, hj⟩ := List.getElem?_of_mem hx
        have hlt := (List.getElem?_eq_some_iff.1 hj).1
        exact he j (by omega) x hj rfl
      rw [decide_eq_false this]

theorem ints_take (xs : List Int) (n : Nat) : (ints xs).take n = ints (xs.take n) := by simp [ints]

set_option pp.deepTerms false
set_option maxRecDepth 8192 in
theorem fn5 (m : List Int) (p : List Nt) (a : List Int) : Go.Ab.Fn Try.prog 5 [mA m, .c (.slice 5 (nts p)), sI a] (rB true) [] := by
  refine Go.Ab.Fn.intro htab hm Try.func5 rfl (Try.call5) (by kernel_rfl) 115 Try.ntmps5 rfl (fun hr => ?_)
  conv => whnf
  refine condP_intro (fun h1 => ?_) (fun h1 => ?_)
  · conv => whnf
    refine CallK_intro fn12 (.inl rfl) ?_
    conv => whnf
    exact And.intro rfl trivial
  · conv => whnf
    refine condP_intro (fun h2 => ?_) (fun h2 => ?_)
    · conv => whnf
      refine CallK_intro fn12 (.inl rfl) ?_
      conv => whnf
      exact And.intro rfl trivial
    · conv => whnf
      refine condP_intro (fun h3 => ?_) (fun h3 => ?_)
      · conv => whnf
        refine CallK_intro fn12 (.inl rfl) ?_
        conv => whnf
        exact And.intro rfl trivial
      · have l1 : m.length ≤ 200 := by simp at h1; omega
        have l2 : p.length ≤ 100 := by simp at h2; omega
        have l3 : a.length ≤ 500 := by simp at h3; omega
        conv => whnf
        refine CallK_intro (fn18 m p a (by omega)) (.inl rfl) ?_
        have hS := send_sent a m p []
        rw [List.append_nil] at hS
        have hlen := send_len a m p []
        generalize send a m p [] = r at hS hlen
        obtain ⟨R, L⟩ := r
        obtain ⟨t, ht, hf⟩ := hS.ext
        simp only at ht hlen
        subst ht
        conv => whnf
        refine condP_intro (fun g1 => ?_) (fun g1 => ?_)
        · simp at g1; omega
        · conv => whnf
          refine ⟨by simp; omega, ?_⟩
          conv => whnf
          refine CallK_intro (r := rB true) (news := []) ?_ (.inl rfl) ?_
          · have := fn15_refl m
            have e : List.take ((((ints m).length : Nat) : Int).toNat - Int.toNat 0) (List.drop (Int.toNat 0) (ints (m ++ t))) = ints m := by simp [ints]
            show Go.Ab.Fn Try.prog 15 [.c (.slice 1 (List.take ((((ints m).length : Nat) : Int).toNat - Int.toNat 0) (List.drop (Int.toNat 0) (ints (m ++ t))))), sI m] (rB true) []
            rw [e]; exact this
          · conv => whnf
            refine condP_intro (fun g2 => ?_) (fun g2 => ?_)
            · have := hS.len; simp at g2 this; omega
            · conv => whnf
              refine LoopP_intro (fun i : Nat => m.length ≤ i ∧ i ≤ (m ++ t).length) (fun i => ⟨115, [(1, vD (.slice 5 (nts p))), (7, .s (.c (.ref 56 0 0 0))), (8, vD (.slice 5 (nts L))), (9, vD (.int .i64 i))], [(56, .var [.d (.slice 1 (ints (m ++ t)))])]⟩)
                (fun i => (m ++ t).length - i) m.length ⟨Nat.le_refl _, by simp⟩ ?_ (fun i ⟨k1, k2⟩ => ?_)
              · refine Le.sub rfl ⟨rfl, ⟨⟨rfl, rfl⟩, rfl, rfl⟩, rfl, ?_⟩ ⟨rfl, trivial⟩
                show D.int _ _ = D.int _ _
                simp
              · conv => whnf
                refine condP_intro (fun q1 => ?_) (fun q1 => ?_)
                · have hi : i < (m ++ t).length := by simp at q1 ⊢; omega
                  have hk : t[i - m.length]? = some (m ++ t)[i] := by
                    have := List.getElem?_eq_getElem hi
                    rwa [List.getElem?_append_right k1] at this
                  obtain ⟨f1, f2⟩ := hf.get hk
                  have f3 : (m ++ t)[i] ∉ (m ++ t).take i := by
                    rw [List.take_append, List.take_of_length_le k1]; exact f2
                  generalize hkk : (m ++ t)[i] = k at f1 f2 f3 hk
                  have hget : (ints (m ++ t))[(i : Int).toNat]? = some [.int .i64 k] := by rw [ints_get hi, hkk]
                  have c21 : Go.Ab.Fn Try.prog 21 [.c (.slice 5 (nts p)), dI k] (rB true) [] := by
                    have := fn21 p k
                    rwa [decide_eq_true f1] at this
                  conv => whnf
                  refine ⟨_, ⟨Int.natCast_nonneg _, hget⟩, ?_⟩
                  conv => whnf
                  refine CallK_intro c21 (.inl rfl) ?_
                  conv => whnf
                  refine ⟨by simp; simp at hi; omega, ?_⟩
                  conv => whnf
                  refine ⟨_, ⟨Int.natCast_nonneg _, hget⟩, ?_⟩
                  conv => whnf
                  refine CallK_intro (r := rB false) (news := []) ?_ (.inl rfl) ?_
                  · have e : List.take ((i : Int).toNat - Int.toNat 0) (List.drop (Int.toNat 0) (ints (m ++ t))) = ints ((m ++ t).take i) := by
                      simp [ints_take]
                    show Go.Ab.Fn Try.prog 16 [.agg [.slice 1 (List.take ((i : Int).toNat - Int.toNat 0) (List.drop (Int.toNat 0) (ints (m ++ t))))], dI k] (rB false) []
                    rw [e]
                    have := fn16 ((m ++ t).take i) k
                    rwa [decide_eq_false f3] at this
                  · conv => whnf
                    exact ⟨i + 1, ⟨by omega, hi⟩, Le.sub rfl ⟨rfl, ⟨⟨rfl, rfl⟩, rfl, rfl⟩, rfl, inc64 hi (by omega)⟩ ⟨rfl, trivial⟩, by omega⟩
                · conv => whnf
                  refine LoopP_intro (fun i : Nat => i ≤ p.length) (fun i => ⟨115, [(1, vD (.slice 5 (nts p))), (7, .s (.c (.ref 56 0 0 0))), (8, vD (.slice 5 (nts L))), (10, vD (.int .i64 i))], [(56, .var [.d (.slice 1 (ints (m ++ t)))])]⟩)
                    (fun i => p.length - i) 0 (Nat.zero_le _) ?_ (fun i k3 => ?_)
                  · exact Le.sub rfl ⟨rfl, ⟨⟨rfl, rfl⟩, rfl, rfl⟩, rfl, rfl⟩ ⟨rfl, trivial⟩
                  · conv => whnf
                    refine condP_intro (fun q2 => ?_) (fun q2 => ?_)
                    · have hi : i < p.length := by simpa using q2
                      have hal := hS.all p[i] (List.getElem_mem hi)
                      conv => whnf
                      refine ⟨_, ⟨Int.natCast_nonneg _, nts_get hi⟩, ?_⟩
                      conv => whnf
                      refine CallK_intro (fn21 L p[i].id) (.inl rfl) ?_
                      conv => whnf
                      refine condP_intro (fun q3 => ?_) (fun q3 => ?_)
                      · conv => whnf
                        refine ⟨_, ⟨Int.natCast_nonneg _, nts_get hi⟩, ?_⟩
                        conv => whnf
                        have hm : p[i].id ∈ m ++ t := by
                          rcases hal with h | h
                          · rw [decide_eq_true h] at q3; cases q3
                          · exact h
                        refine CallK_intro (r := rB true) (news := []) ?_ (.inl rfl) ?_
                        · have := fn16 (m ++ t) p[i].id
                          rwa [decide_eq_true hm] at this
                        · conv => whnf
                          exact ⟨i + 1, hi, Le.sub rfl ⟨rfl, ⟨⟨rfl, rfl⟩, rfl, rfl⟩, rfl, inc64 hi (by omega)⟩ ⟨rfl, trivial⟩, by omega⟩
                      · conv => whnf
                        exact ⟨i + 1, hi, Le.sub rfl ⟨rfl, ⟨⟨rfl, rfl⟩, rfl, rfl⟩, rfl, inc64 hi (by omega)⟩ ⟨rfl, trivial⟩, by omega⟩
                    · conv => whnf
                      refine CallK_intro fn12 (.inl rfl) ?_
                      conv => whnf
                      exact And.intro rfl trivial
end Go.Proofs.Ytllfapkcniadgaa
