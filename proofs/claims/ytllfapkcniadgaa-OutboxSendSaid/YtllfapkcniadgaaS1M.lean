/- For every input OutboxSend returns true, and its arguments read as they did. There is no condition. -/
import Derived.Test.YtllfapkcniadgaaS1E
import Derived.Test.YtllfapkcniadgaaS1J
import Derived.Test.YtllfapkcniadgaaS1H
set_option linter.unusedVariables false
namespace Go.Proofs.Ytllfapkcniadgaa
open Go Go.Ab

theorem fn20 (xs ys : List Nt) : Go.Ab.Fn Try.prog 20 [.c (.slice 5 (nts xs)), .c (.slice 5 (nts ys))] (rB (decide (xs = ys))) [] := by
  refine Go.Ab.Fn.intro htab hm Try.func20 rfl (Try.call20) (by kernel_rfl) 32 Try.ntmps20 rfl (fun hr => ?_)
  conv => whnf
  refine condP_intro (fun h => ?_) (fun h => ?_)
  · conv => whnf
    refine ⟨?_, trivial⟩
    simp at h
    have : xs ≠ ys := fun e => h (by rw [e])
    show D.bool false = _
    simp [this]
  · conv => whnf
    have hlen : xs.length = ys.length := by simp at h; omega
    refine LoopP_intro (fun i : Nat => i ≤ xs.length ∧ xs.take i = ys.take i) (fun i => ⟨32, [(0, vD (.slice 5 (nts xs))), (1, vD (.slice 5 (nts ys))), (5, vD (.int .i64 i))], []⟩) (fun i => xs.length - i) 0 (by simp) ?_ (fun i ⟨hi, he⟩ => ?_)
    · refine Le.sub rfl ⟨rfl, rfl, rfl⟩ trivial
    · conv => whnf
      refine condP_intro (fun h2 => ?_) (fun h2 => ?_)
      · have hix : i < xs.length := by simpa using h2
        have hiy : i < ys.length := by omega
        conv => whnf
        refine condP_intro (fun h3 => ?_) (fun h3 => ?_)
        · conv => whnf
          refine ⟨_, ⟨Int.natCast_nonneg _, nts_get hix⟩, ?_⟩
          conv => whnf
          refine ⟨_, ⟨Int.natCast_nonneg _, nts_get hiy⟩, ?_⟩
          conv => whnf
          refine condP_intro (fun h4 => ?_) (fun h4 => ?_)
          · conv => whnf
            refine ⟨?_, trivial⟩
            have : xs ≠ ys := fun e => by subst e; simp at h4
            show D.bool false = _
            simp [this]
          · conv => whnf
            have heq : xs[i] = ys[i] := by
              simp at h4
              obtain ⟨e1, e2, e3, e4, e5⟩ := h4
              cases hx : xs[i] with
              | mk a b c d e =>
                cases hy : ys[i] with
                | mk a' b' c' d' e' => simp [hx, hy] at e1 e2 e3 e4 e5; simp [e1, e2, e3, e4, e5]
            exact ⟨i + 1, ⟨hix, take_succ_eq hix hiy he heq⟩, Le.sub rfl ⟨rfl, rfl, inc64 hix (by simpa using hr.1.len)⟩ trivial, by omega⟩
        · simp at h3; omega
      · conv => whnf
        refine ⟨?_, trivial⟩
        have h1 : i = xs.length := by simp at h2; omega
        have : xs = ys := by rw [← List.take_length (l := xs), ← h1, he, h1, hlen, List.take_length]
        show D.bool true = _
        simp [this]

theorem fn20_refl (xs : List Nt) : Go.Ab.Fn Try.prog 20 [.c (.slice 5 (nts xs)), .c (.slice 5 (nts xs))] (rB true) [] := by
  have := fn20 xs xs
  simpa using this

set_option maxRecDepth 8192 in
theorem fn4 (m : List Int) (p : List Nt) (a : List Int) : Go.Ab.Fn Try.prog 4 [mA m, .c (.slice 5 (nts p)), sI a] (rB true) [] := by
  refine Go.Ab.Fn.intro htab hm Try.func4 rfl (Try.call4) (by kernel_rfl) 53 Try.ntmps4 rfl (fun hr => ?_)
  conv => whnf
  refine condP_intro (fun h1 => ?_) (fun h1 => ?_)
  · conv => whnf
    refine CallK_intro fn12 (.inl rfl) ?_
    conv => whnf
    exact And.intro rfl trivial
  · conv => whnf
    refine condP_intro (fun h2 => ?_) (fun h2 => ?_)
    · conv => whnf
      refine CallK_intro fn12 (.inl rfl) ?_
      conv => whnf
      exact And.intro rfl trivial
    · conv => whnf
      refine condP_intro (fun h3 => ?_) (fun h3 => ?_)
      · conv => whnf
        refine CallK_intro fn12 (.inl rfl) ?_
        conv => whnf
        exact And.intro rfl trivial
      · have l1 : m.length ≤ 200 := by simp at h1; omega
        have l2 : p.length ≤ 100 := by simp at h2; omega
        have l3 : a.length ≤ 500 := by simp at h3; omega
        conv => whnf
        refine CallK_intro (fn18 m p a (by omega)) (.inl rfl) ?_
        conv => whnf
        refine CallK_intro (fn19 m p a (by omega)) (.inl rfl) ?_
        conv => whnf
        refine CallK_intro (fn15_refl (send a m p []).1) (.inl rfl) ?_
        conv => whnf
        refine CallK_intro (fn20_refl (send a m p []).2) (.inl rfl) ?_
        conv => whnf
        refine CallK_intro fn12 (.inl rfl) ?_
        conv => whnf
        exact And.intro rfl trivial

set_option maxRecDepth 100000 in
theorem send_lifted (os : Os) (started : os.Started) (H : Type) (enc : TypeId × Value → H) :
    ReturnsInHanded {} Try.checked os 4 .any (Rows.outboxSendSpec.pre6 enc Try.prog Try.f4 Rows.outboxSendRow.domain false) (Rows.outboxSendSpec.post enc Try.prog Try.f4 false true false false) :=
  lifted (C := Try.checked) (tab := tab) (tb := 4) [3, 22, 24, 26, 33] Try.own started (by kernel_rfl) Try.func4
    (ChangeSpec.witness6 (enc := enc) (C := Try.checked) false ⟨#[], #[.agg #[.slice none 0 0], .slice none 0 0, .slice none 0 0], []⟩ 8 (by kernel_rfl) (by kernel_rfl) (by kernel_rfl) (by kernel_rfl))
    Try.laidOut htab (by kernel_rfl) (by kernel_rfl) (by kernel_rfl) Try.underlying4 rfl
    (fun ds hd => by
      rw [Try.params4] at hd
      match ds, hd with
      | [a, b, c], _ => exact ⟨rfl, rfl, rfl⟩)
    (fun xs hx => by
      rw [Try.params4] at hx
      obtain ⟨a, b, c, rfl, ha, hb, hc⟩ := wdvs_three hx
      obtain ⟨m, rfl⟩ := wdv_box ha
      obtain ⟨p, rfl⟩ := wdv_nts hb
      obtain ⟨q, rfl⟩ := wdv_ints hc
      exact fn4 m p q)

theorem outboxSend_holds : Rows.OutboxSendSaid :=
  OpenClaim.holds_of_wide 4 Try.f4 rfl rfl rfl rfl rfl rfl rfl ⟨rfl, rfl, rfl, rfl, rfl⟩ rfl rfl rfl rfl rfl (by kernel_rfl) Try.func4 (by kernel_rfl)
    (of_decide_eq_true (by kernel_rfl)) (by unfold Func.isWrapper; first | (rw [if_pos (by decide +kernel)]; kernel_rfl) | (rw [if_neg (by decide +kernel)]; exact ⟨rfl, rfl⟩))
    (fun os started H enc _ => send_lifted os started H enc)
end Go.Proofs.Ytllfapkcniadgaa
