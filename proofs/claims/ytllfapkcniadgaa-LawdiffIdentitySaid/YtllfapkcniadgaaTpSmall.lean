/- Contracts: whether a law is small. -/
import Derived.Test.YtllfapkcniadgaaTpSame
set_option linter.unusedVariables false
namespace Go.Proofs.Ytllfapkcniadgaa
open Go Go.Ab

theorem c_smallScope (s : MScope) : Go.Ab.Fn Try.prog 36 [.agg (cScope s)] (resB (decide (SmallScope s))) [] := by
  refine Go.Ab.Fn.intro htab hm Try.func36 rfl Try.call36 (by kernel_rfl) 93 Try.ntmps36 rfl (fun hr => ?_)
  conv => whnf
  refine condP_intro (fun c1 => ?_) (fun c1 => ?_)
  · conv => whnf
    exact And.intro (retF fun hs => by have := hs.1; simp at c1; omega) trivial
  · conv => whnf
    refine condP_intro (fun c2 => ?_) (fun c2 => ?_)
    · conv => whnf
      exact And.intro (retF fun hs => by have := hs.2.1; simp at c2; omega) trivial
    · conv => whnf
      refine condP_intro (fun c3 => ?_) (fun c3 => ?_)
      · conv => whnf
        exact And.intro (retF fun hs => by have := hs.2.2.1; simp at c3; omega) trivial
      · conv => whnf
        refine condP_intro (fun c4 => ?_) (fun c4 => ?_)
        · conv => whnf
          exact And.intro (retF fun hs => by have := hs.2.2.2.1; simp at c4; omega) trivial
        · conv => whnf
          refine LoopP_intro (fun i : Nat => i ≤ s.inputs.length ∧ AllTo s.inputs i (fun f => f.name.size ≤ 80)) (fun i => ⟨93, [(1, .s (.c (.ref 8 0 0 0))), (3, vDc (.int .i64 i))], [(8, .var ((cScope s).map C.d))]⟩) (fun i => s.inputs.length - i) 0 ⟨Nat.zero_le _, AllTo.zero _ _⟩ ?_ (fun i ⟨k1, a1⟩ => ?_)
          · exact Le.sub rfl ⟨⟨⟨rfl, rfl⟩, rfl, rfl⟩, rfl⟩ ⟨⟨rfl, rfl, rfl, rfl, rfl⟩, trivial⟩
          · conv => whnf
            refine condP_intro (fun q1 => ?_) (fun q1 => ?_)
            · have hi : i < s.inputs.length := by simpa using q1
              conv => whnf
              refine ⟨_, ⟨Int.natCast_nonneg _, cget hi⟩, ?_⟩
              conv => whnf
              refine condP_intro (fun h => ?_) (fun h => ?_)
              · conv => whnf
                exact And.intro (retF fun hs => by have := hs.2.2.2.2.1 s.inputs[i] (List.getElem_mem hi); simp at h; omega) trivial
              · conv => whnf
                exact ⟨i + 1, ⟨hi, a1.step hi (by simp at h; omega)⟩, Le.sub rfl ⟨⟨⟨rfl, rfl⟩, rfl, rfl⟩, inc64 hi (by simp at c2 c3 c4; omega)⟩ ⟨⟨rfl, rfl, rfl, rfl, rfl⟩, trivial⟩, by omega⟩
            · replace a1 := a1.all (by simp at q1; omega)
              conv => whnf
              refine LoopP_intro (fun i : Nat => i ≤ s.defs.length ∧ AllTo s.defs i (fun f => f.name.size ≤ 80)) (fun i => ⟨93, [(1, .s (.c (.ref 8 0 0 0))), (4, vDc (.int .i64 i))], [(8, .var ((cScope s).map C.d))]⟩) (fun i => s.defs.length - i) 0 ⟨Nat.zero_le _, AllTo.zero _ _⟩ ?_ (fun i ⟨k1, a2⟩ => ?_)
              · exact Le.sub rfl ⟨⟨⟨rfl, rfl⟩, rfl, rfl⟩, rfl⟩ ⟨⟨rfl, rfl, rfl, rfl, rfl⟩, trivial⟩
              · conv => whnf
                refine condP_intro (fun q2 => ?_) (fun q2 => ?_)
                · have hi : i < s.defs.length := by simpa using q2
                  conv => whnf
                  refine ⟨_, ⟨Int.natCast_nonneg _, cget hi⟩, ?_⟩
                  conv => whnf
                  refine condP_intro (fun h => ?_) (fun h => ?_)
                  · conv => whnf
                    exact And.intro (retF fun hs => by have := hs.2.2.2.2.2.1 s.defs[i] (List.getElem_mem hi); simp at h; omega) trivial
                  · conv => whnf
                    exact ⟨i + 1, ⟨hi, a2.step hi (by simp at h; omega)⟩, Le.sub rfl ⟨⟨⟨rfl, rfl⟩, rfl, rfl⟩, inc64 hi (by simp at c2 c3 c4; omega)⟩ ⟨⟨rfl, rfl, rfl, rfl, rfl⟩, trivial⟩, by omega⟩
                · replace a2 := a2.all (by simp at q2; omega)
                  conv => whnf
                  refine LoopP_intro (fun i : Nat => i ≤ s.rules.length ∧ AllTo s.rules i SmallRule) (fun i => ⟨93, [(1, .s (.c (.ref 8 0 0 0))), (5, vDc (.int .i64 i))], [(8, .var ((cScope s).map C.d))]⟩) (fun i => s.rules.length - i) 0 ⟨Nat.zero_le _, AllTo.zero _ _⟩ ?_ (fun i ⟨k1, a3⟩ => ?_)
                  · exact Le.sub rfl ⟨⟨⟨rfl, rfl⟩, rfl, rfl⟩, rfl⟩ ⟨⟨rfl, rfl, rfl, rfl, rfl⟩, trivial⟩
                  · conv => whnf
                    refine condP_intro (fun q3 => ?_) (fun q3 => ?_)
                    · have hi : i < s.rules.length := by simpa using q3
                      conv => whnf
                      refine ⟨_, ⟨Int.natCast_nonneg _, cget hi⟩, ?_⟩
                      conv => whnf
                      refine condP_intro (fun d1 => ?_) (fun d1 => ?_)
                      · conv => whnf
                        exact And.intro (retF fun hs => by have := (hs.2.2.2.2.2.2 s.rules[i] (List.getElem_mem hi)).1; simp at d1; omega) trivial
                      · conv => whnf
                        refine condP_intro (fun d2 => ?_) (fun d2 => ?_)
                        · conv => whnf
                          exact And.intro (retF fun hs => by have := (hs.2.2.2.2.2.2 s.rules[i] (List.getElem_mem hi)).2.1; simp at d2; omega) trivial
                        · conv => whnf
                          refine condP_intro (fun d3 => ?_) (fun d3 => ?_)
                          · conv => whnf
                            exact And.intro (retF fun hs => by have := (hs.2.2.2.2.2.2 s.rules[i] (List.getElem_mem hi)).2.2.1; simp at d3; omega) trivial
                          · conv => whnf
                            refine condP_intro (fun d4 => ?_) (fun d4 => ?_)
                            · conv => whnf
                              exact And.intro (retF fun hs => by have := (hs.2.2.2.2.2.2 s.rules[i] (List.getElem_mem hi)).2.2.2; simp at d4; omega) trivial
                            · conv => whnf
                              exact ⟨i + 1, ⟨hi, a3.step hi (by simp at d1 d2 d3 d4; exact ⟨by omega, by omega, by omega, by omega⟩)⟩, Le.sub rfl ⟨⟨⟨rfl, rfl⟩, rfl, rfl⟩, inc64 hi (by simp at c4; omega)⟩ ⟨⟨rfl, rfl, rfl, rfl, rfl⟩, trivial⟩, by omega⟩
                    · conv => whnf
                      exact And.intro (retT (by simp at c1 c2 c3 c4; exact ⟨by omega, by omega, by omega, by omega, a1, a2, a3.all (by simp at q3; omega)⟩)) trivial

set_option maxRecDepth 8192 in
theorem c_SmallLaw (l : MLaw) (hS : SizedLaw l) : Go.Ab.Fn Try.prog 22 [.agg (cLaw l)] (resB (decide (SmallLaw l))) [] := by
  refine Go.Ab.Fn.intro htab hm Try.func22 rfl Try.call22 (by kernel_rfl) 127 Try.ntmps22 rfl (fun hr => ?_)
  conv => whnf
  refine condP_intro (fun c1 => ?_) (fun c1 => ?_)
  · conv => whnf
    exact And.intro (retF fun hs => by have := hs.1; simp at c1; omega) trivial
  · conv => whnf
    refine condP_intro (fun c2 => ?_) (fun c2 => ?_)
    · conv => whnf
      exact And.intro (retF fun hs => by have := hs.2.1; simp at c2; omega) trivial
    · conv => whnf
      refine condP_intro (fun c3 => ?_) (fun c3 => ?_)
      · conv => whnf
        exact And.intro (retF fun hs => by have := hs.2.2.1; simp at c3; omega) trivial
      · conv => whnf
        refine LoopP_intro (fun i : Nat => i ≤ l.enums.length ∧ AllTo l.enums i SmallEnum) (fun i => ⟨127, [(1, .s (.c (.ref 8 0 0 0))), (3, vDc (.int .i64 0)), (4, vDc (.int .i64 0)), (5, vDc (.int .i64 i))], [(8, .var ((cLaw l).map C.d))]⟩) (fun i => l.enums.length - i) 0 ⟨Nat.zero_le _, AllTo.zero _ _⟩ ?_ (fun i ⟨k1, a1⟩ => ?_)
        · exact Le.sub rfl ⟨⟨⟨rfl, rfl⟩, rfl, rfl⟩, rfl, rfl, rfl⟩ ⟨⟨rfl, rfl, rfl⟩, trivial⟩
        · conv => whnf
          refine condP_intro (fun q1 => ?_) (fun q1 => ?_)
          · have hi : i < l.enums.length := by simpa using q1
            conv => whnf
            refine ⟨_, ⟨Int.natCast_nonneg _, cget hi⟩, ?_⟩
            conv => whnf
            refine condP_intro (fun d1 => ?_) (fun d1 => ?_)
            · conv => whnf
              exact And.intro (retF fun hs => by have := (hs.2.2.2.1 l.enums[i] (List.getElem_mem hi)).1; simp at d1; omega) trivial
            · conv => whnf
              refine ⟨_, ⟨Int.natCast_nonneg _, cget hi⟩, ?_⟩
              conv => whnf
              refine condP_intro (fun d2 => ?_) (fun d2 => ?_)
              · conv => whnf
                exact And.intro (retF fun hs => by have := (hs.2.2.2.1 l.enums[i] (List.getElem_mem hi)).2.1; simp at d2; omega) trivial
              · conv => whnf
                refine LoopP_intro (fun k : Nat => k ≤ l.enums[i].members.length ∧ AllTo l.enums[i].members k (fun m => m.size ≤ 80)) (fun k => ⟨127, [(1, .s (.c (.ref 8 0 0 0))), (3, vDc (.int .i64 0)), (4, vDc (.int .i64 0)), (5, vDc (.int .i64 i)), (6, vDc (.int .i64 k))], [(8, .var ((cLaw l).map C.d))]⟩) (fun k => l.enums[i].members.length - k) 0 ⟨Nat.zero_le _, AllTo.zero _ _⟩ ?_ (fun k ⟨m1, e1⟩ => ?_)
                · exact Le.sub rfl ⟨⟨⟨rfl, rfl⟩, rfl, rfl⟩, rfl, rfl, rfl, rfl⟩ ⟨⟨rfl, rfl, rfl⟩, trivial⟩
                · conv => whnf
                  refine ⟨_, ⟨Int.natCast_nonneg _, cget hi⟩, ?_⟩
                  conv => whnf
                  refine condP_intro (fun q2 => ?_) (fun q2 => ?_)
                  · have hk : k < l.enums[i].members.length := by simpa using q2
                    conv => whnf
                    refine ⟨_, ⟨Int.natCast_nonneg _, cget hi⟩, ?_⟩
                    conv => whnf
                    refine ⟨_, ⟨Int.natCast_nonneg _, cget hk⟩, ?_⟩
                    conv => whnf
                    refine condP_intro (fun h => ?_) (fun h => ?_)
                    · conv => whnf
                      exact And.intro (retF fun hs => by have := (hs.2.2.2.1 l.enums[i] (List.getElem_mem hi)).2.2 _ (List.getElem_mem hk); simp at h; omega) trivial
                    · conv => whnf
                      exact ⟨k + 1, ⟨hk, e1.step hk (by simp at h; omega)⟩, Le.sub rfl ⟨⟨⟨rfl, rfl⟩, rfl, rfl⟩, rfl, rfl, rfl, inc64 hk (by simp at d2; omega)⟩ ⟨⟨rfl, rfl, rfl⟩, trivial⟩, by omega⟩
                  · conv => whnf
                    exact ⟨i + 1, ⟨hi, a1.step hi ⟨by simp at d1; omega, by simp at d2; omega, e1.all (by simp at q2; omega)⟩⟩, Le.sub rfl ⟨⟨⟨rfl, rfl⟩, rfl, rfl⟩, rfl, rfl, inc64 hi (by simp at c1; omega)⟩ ⟨⟨rfl, rfl, rfl⟩, trivial⟩, by omega⟩
          · replace a1 := a1.all (by simp at q1; omega)
            conv => whnf
            refine LoopP_intro (fun i : Nat => i ≤ l.tables.length ∧ AllTo l.tables i (fun t => t.name.size ≤ 80) ∧ sumRows (l.tables.take i) ≤ 150) (fun i => ⟨127, [(1, .s (.c (.ref 8 0 0 0))), (3, vDc (.int .i64 (sumRows (l.tables.take i)))), (4, vDc (.int .i64 0)), (7, vDc (.int .i64 i))], [(8, .var ((cLaw l).map C.d))]⟩) (fun i => l.tables.length - i) 0 ⟨Nat.zero_le _, AllTo.zero _ _, Nat.zero_le _⟩ ?_ (fun i ⟨k1, a2, b2⟩ => ?_)
            · exact Le.sub rfl ⟨⟨⟨rfl, rfl⟩, rfl, rfl⟩, rfl, rfl, rfl⟩ ⟨⟨rfl, rfl, rfl⟩, trivial⟩
            · conv => whnf
              refine condP_intro (fun q2 => ?_) (fun q2 => ?_)
              · have hi : i < l.tables.length := by simpa using q2
                have hsz := hS.1 l.tables[i] (List.getElem_mem hi)
                have hst := sumRows_step hi
                have htk := sumRows_take l.tables (i + 1)
                have hw : IntKind.i64.wrap ((sumRows (l.tables.take i) : Int) + ((l.tables[i].rows.map cRow).length : Nat)) = ((sumRows (l.tables.take (i + 1)) : Nat) : Int) := by
                  rw [IntWalk.i64_in _ (by simp; omega)]; simp; omega
                conv => whnf
                refine ⟨_, ⟨Int.natCast_nonneg _, cget hi⟩, ?_⟩
                conv => whnf
                refine ⟨_, ⟨Int.natCast_nonneg _, cget hi⟩, ?_⟩
                conv => whnf
                refine condP_intro (fun d1 => ?_) (fun d1 => ?_)
                · conv => whnf
                  exact And.intro (retF fun hs => by have := hs.2.2.2.2.1 l.tables[i] (List.getElem_mem hi); simp at d1; omega) trivial
                · conv => whnf
                  refine condP_intro (fun h => ?_) (fun h => ?_)
                  · conv => whnf
                    refine And.intro (retF fun hs => ?_) trivial
                    have := hs.2.2.2.2.2.1
                    have h' := of_decide_eq_true h
                    have h'' : (150 : Int) < IntKind.i64.wrap ((sumRows (l.tables.take i) : Int) + ((l.tables[i].rows.map cRow).length : Nat)) := h'
                    rw [hw] at h''; omega
                  · have h150 : sumRows (l.tables.take (i + 1)) ≤ 150 := by
                      have h' := of_decide_eq_false h
                      have h'' : ¬ (150 : Int) < IntKind.i64.wrap ((sumRows (l.tables.take i) : Int) + ((l.tables[i].rows.map cRow).length : Nat)) := h'
                      rw [hw] at h''; omega
                    conv => whnf
                    refine ⟨i + 1, ⟨hi, a2.step hi (by simp at d1; omega), h150⟩, Le.sub rfl ⟨⟨⟨rfl, rfl⟩, rfl, rfl⟩, ?_, rfl, inc64 hi (by simp at c2; omega)⟩ ⟨⟨rfl, rfl, rfl⟩, trivial⟩, by omega⟩
                    show D.int _ _ = D.int _ _
                    rw [← hw]
              · replace a2 := a2.all (by simp at q2; omega)
                replace b2 : sumRows l.tables ≤ 150 := by rwa [List.take_of_length_le (by simp at q2; omega)] at b2
                conv => whnf
                refine LoopP_intro (fun i : Nat => i ≤ l.scopes.length ∧ AllTo l.scopes i SmallScope ∧ sumRules (l.scopes.take i) ≤ 60) (fun i => ⟨127, [(1, .s (.c (.ref 8 0 0 0))), (4, vDc (.int .i64 (sumRules (l.scopes.take i)))), (8, vDc (.int .i64 i))], [(8, .var ((cLaw l).map C.d))]⟩) (fun i => l.scopes.length - i) 0 ⟨Nat.zero_le _, AllTo.zero _ _, Nat.zero_le _⟩ ?_ (fun i ⟨k1, a3, b3⟩ => ?_)
                · exact Le.sub rfl ⟨⟨⟨rfl, rfl⟩, rfl, rfl⟩, rfl, rfl⟩ ⟨⟨rfl, rfl, rfl⟩, trivial⟩
                · conv => whnf
                  refine condP_intro (fun q3 => ?_) (fun q3 => ?_)
                  · have hi : i < l.scopes.length := by simpa using q3
                    have hsz := hS.2 l.scopes[i] (List.getElem_mem hi)
                    have hst := sumRules_step hi
                    have htk := sumRules_take l.scopes (i + 1)
                    have hw : IntKind.i64.wrap ((sumRules (l.scopes.take i) : Int) + ((l.scopes[i].rules.map cRule).length : Nat)) = ((sumRules (l.scopes.take (i + 1)) : Nat) : Int) := by
                      rw [IntWalk.i64_in _ (by simp; omega)]; simp; omega
                    conv => whnf
                    refine ⟨_, ⟨Int.natCast_nonneg _, cget hi⟩, ?_⟩
                    conv => whnf
                    refine condP_intro (fun h => ?_) (fun h => ?_)
                    · conv => whnf
                      refine And.intro (retF fun hs => ?_) trivial
                      have := hs.2.2.2.2.2.2.1
                      have h' := of_decide_eq_true h
                      have h'' : (60 : Int) < IntKind.i64.wrap ((sumRules (l.scopes.take i) : Int) + ((l.scopes[i].rules.map cRule).length : Nat)) := h'
                      rw [hw] at h''; omega
                    · have h60 : sumRules (l.scopes.take (i + 1)) ≤ 60 := by
                        have h' := of_decide_eq_false h
                        have h'' : ¬ (60 : Int) < IntKind.i64.wrap ((sumRules (l.scopes.take i) : Int) + ((l.scopes[i].rules.map cRule).length : Nat)) := h'
                        rw [hw] at h''; omega
                      conv => whnf
                      refine ⟨_, ⟨Int.natCast_nonneg _, cget hi⟩, ?_⟩
                      conv => whnf
                      refine CallK_intro (c_smallScope l.scopes[i]) (.inl rfl) ?_
                      conv => whnf
                      refine condP_intro (fun h => ?_) (fun h => ?_)
                      · conv => whnf
                        exact And.intro (retF fun hs => by have := hs.2.2.2.2.2.2.2 l.scopes[i] (List.getElem_mem hi); simp [this] at h) trivial
                      · conv => whnf
                        refine ⟨i + 1, ⟨hi, a3.step hi (by simpa using h), h60⟩, Le.sub rfl ⟨⟨⟨rfl, rfl⟩, rfl, rfl⟩, ?_, inc64 hi (by simp at c3; omega)⟩ ⟨⟨rfl, rfl, rfl⟩, trivial⟩, by omega⟩
                        show D.int _ _ = D.int _ _
                        rw [← hw]
                  · conv => whnf
                    refine And.intro (retT ?_) trivial
                    have e3 := a3.all (by simp at q3; omega)
                    have e4 : sumRules l.scopes ≤ 60 := by rwa [List.take_of_length_le (by simp at q3; omega)] at b3
                    simp at c1 c2 c3
                    exact ⟨by omega, by omega, by omega, a1, a2, b2, e4, e3⟩

end Go.Proofs.Ytllfapkcniadgaa
