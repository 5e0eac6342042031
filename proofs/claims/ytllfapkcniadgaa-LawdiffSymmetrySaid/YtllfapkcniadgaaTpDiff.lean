/- Contracts: the parts of lawdiff and of its reference. -/
import Derived.Test.YtllfapkcniadgaaTpSmall
import Derived.Test.YtllfapkcniadgaaAbDiff
set_option linter.unusedVariables false
namespace Go.Proofs.Ytllfapkcniadgaa
open Go Go.Ab

theorem c_scopeOf (l : MLaw) (n : BA) : Go.Ab.Fn Try.prog 48 [.agg (cLaw l), .c (.str n)] (vDc (.int .i64 (optI (scopeAt l.scopes n)))) [] := by
  refine Go.Ab.Fn.intro htab hm Try.func48 rfl Try.call48 (by kernel_rfl) 22 Try.ntmps48 rfl (fun hr => ?_)
  conv => whnf
  refine LoopP_intro (fun i : Nat => i ≤ l.scopes.length ∧ AllTo l.scopes i (fun s => decide (s.name = n) = false)) (fun i => ⟨22, [(2, .s (.c (.ref 16 0 0 0))), (1, vDc (.str n)), (5, vDc (.int .i64 i))], [(16, .var ((cLaw l).map C.d))]⟩) (fun i => l.scopes.length - i) 0 ⟨Nat.zero_le _, AllTo.zero _ _⟩ ?_ (fun i ⟨k1, a1⟩ => ?_)
  · exact Le.sub rfl ⟨⟨⟨rfl, rfl⟩, rfl, rfl⟩, rfl, rfl⟩ ⟨⟨rfl, rfl, rfl⟩, trivial⟩
  · conv => whnf
    refine condP_intro (fun q => ?_) (fun q => ?_)
    · have hi : i < l.scopes.length := by simpa using q
      conv => whnf
      refine ⟨_, ⟨Int.natCast_nonneg _, cget hi⟩, ?_⟩
      conv => whnf
      refine condP_intro (fun h => ?_) (fun h => ?_)
      · conv => whnf
        refine And.intro ?_ trivial
        show D.int _ _ = D.int _ _
        rw [scopeAt, find_some hi h a1]; rfl
      · conv => whnf
        exact ⟨i + 1, ⟨hi, a1.step hi h⟩, Le.sub rfl ⟨⟨⟨rfl, rfl⟩, rfl, rfl⟩, rfl, inc64 hi (by simpa using hr.1.2.2.len)⟩ ⟨⟨rfl, rfl, rfl⟩, trivial⟩, by omega⟩
    · conv => whnf
      refine And.intro ?_ trivial
      show D.int _ _ = D.int _ _
      rw [scopeAt, find_none (by simp at q; omega) a1]; rfl

theorem c_ruleOf (s : MScope) (n : BA) : Go.Ab.Fn Try.prog 49 [.agg (cScope s), .c (.str n)] (vDc (.int .i64 (optI (ruleAt s.rules n)))) [] := by
  refine Go.Ab.Fn.intro htab hm Try.func49 rfl Try.call49 (by kernel_rfl) 22 Try.ntmps49 rfl (fun hr => ?_)
  conv => whnf
  refine LoopP_intro (fun i : Nat => i ≤ s.rules.length ∧ AllTo s.rules i (fun s => decide (s.name = n) = false)) (fun i => ⟨22, [(2, .s (.c (.ref 16 0 0 0))), (1, vDc (.str n)), (5, vDc (.int .i64 i))], [(16, .var ((cScope s).map C.d))]⟩) (fun i => s.rules.length - i) 0 ⟨Nat.zero_le _, AllTo.zero _ _⟩ ?_ (fun i ⟨k1, a1⟩ => ?_)
  · exact Le.sub rfl ⟨⟨⟨rfl, rfl⟩, rfl, rfl⟩, rfl, rfl⟩ ⟨⟨rfl, rfl, rfl, rfl, rfl⟩, trivial⟩
  · conv => whnf
    refine condP_intro (fun q => ?_) (fun q => ?_)
    · have hi : i < s.rules.length := by simpa using q
      conv => whnf
      refine ⟨_, ⟨Int.natCast_nonneg _, cget hi⟩, ?_⟩
      conv => whnf
      refine condP_intro (fun h => ?_) (fun h => ?_)
      · conv => whnf
        refine And.intro ?_ trivial
        show D.int _ _ = D.int _ _
        rw [ruleAt, find_some hi h a1]; rfl
      · conv => whnf
        exact ⟨i + 1, ⟨hi, a1.step hi h⟩, Le.sub rfl ⟨⟨⟨rfl, rfl⟩, rfl, rfl⟩, rfl, inc64 hi (by simpa using hr.1.2.2.2.2.len)⟩ ⟨⟨rfl, rfl, rfl, rfl, rfl⟩, trivial⟩, by omega⟩
    · conv => whnf
      refine And.intro ?_ trivial
      show D.int _ _ = D.int _ _
      rw [ruleAt, find_none (by simp at q; omega) a1]; rfl

/-- What the reference's Counterpart hands back. -/
def rCpart : Option (MScope × Nat) → AV
  | some (s, k) => .tup [.agg ((cScope s).map C.d), .c (.d (iD k)), .c (.d (.bool true))]
  | none => .tup [.agg ((cScope zScope).map C.d), .c (.d (iD 0)), .c (.d (.bool false))]

theorem c_Counterpart (l : MLaw) (sn rn : BA) : Go.Ab.Fn Try.prog 30 [.agg (cLaw l), .c (.str sn), .c (.str rn)] (rCpart (cpart l sn rn)) [] := by
  refine Go.Ab.Fn.intro htab hm Try.func30 rfl Try.call30 (by kernel_rfl) _ Try.ntmps30 rfl (fun hr => ?_)
  generalize hR : rCpart (cpart l sn rn) = R
  conv => whnf
  refine CallK_intro (c_scopeOf l sn) (.inl rfl) ?_
  cases hs : scopeAt l.scopes sn with
  | none =>
    have hc : cpart l sn rn = none := by simp [cpart, hs]
    rw [hc] at hR
    subst hR
    conv => whnf
    exact And.intro rfl (And.intro rfl (And.intro rfl (And.intro rfl (And.intro rfl (And.intro rfl (And.intro rfl trivial))))))
  | some i =>
    obtain ⟨hi, _⟩ := find_lt hs
    conv => whnf
    refine ⟨_, ⟨Int.natCast_nonneg _, cget hi⟩, ?_⟩
    conv => whnf
    refine CallK_intro (c_ruleOf l.scopes[i] rn) (.inl rfl) ?_
    cases hk : ruleAt l.scopes[i].rules rn with
    | none =>
      have hc : cpart l sn rn = none := by simp [cpart, hs, List.getElem?_eq_getElem hi, hk]
      rw [hc] at hR
      subst hR
      conv => whnf
      exact And.intro rfl (And.intro rfl (And.intro rfl (And.intro rfl (And.intro rfl (And.intro rfl (And.intro rfl trivial))))))
    | some k =>
      have hc : cpart l sn rn = some (l.scopes[i], k) := by simp [cpart, hs, List.getElem?_eq_getElem hi, hk]
      rw [hc] at hR
      subst hR
      conv => whnf
      refine ⟨_, ⟨Int.natCast_nonneg _, cget hi⟩, ?_⟩
      conv => whnf
      exact And.intro rfl (And.intro rfl (And.intro rfl (And.intro rfl (And.intro rfl (And.intro rfl (And.intro rfl trivial))))))

theorem c_defName (s : MScope) (i : Int) : Go.Ab.Fn Try.prog 55 [.agg (cScope s), .c (iD i)] (vDc (.str (defName s i))) [] := by
  refine Go.Ab.Fn.intro htab hm Try.func55 rfl Try.call55 (by kernel_rfl) 20 Try.ntmps55 rfl (fun hr => ?_)
  conv => whnf
  refine condP_intro (fun h => ?_) (fun h => ?_)
  · conv => whnf
    refine And.intro ?_ trivial
    show D.str _ = D.str _
    rw [defName_out (.inl (by simpa using h))]; rfl
  · conv => whnf
    refine condP_intro (fun h2 => ?_) (fun h2 => ?_)
    · conv => whnf
      refine And.intro ?_ trivial
      show D.str _ = D.str _
      rw [defName_out (.inr (by simp at h h2; omega))]; rfl
    · have h0 : 0 ≤ i := by simpa using h
      have hl : i.toNat < s.defs.length := by simp at h2; omega
      conv => whnf
      refine ⟨_, ⟨h0, by rw [List.getElem?_map, List.getElem?_eq_getElem hl]; rfl⟩, ?_⟩
      conv => whnf
      refine And.intro ?_ trivial
      show D.str _ = D.str _
      rw [defName_in h0 hl]

theorem c_parentName (s : MScope) (i : Int) : Go.Ab.Fn Try.prog 56 [.agg (cScope s), .c (iD i)] (vDc (.str (parentName s i))) [] := by
  refine Go.Ab.Fn.intro htab hm Try.func56 rfl Try.call56 (by kernel_rfl) 20 Try.ntmps56 rfl (fun hr => ?_)
  conv => whnf
  refine condP_intro (fun h => ?_) (fun h => ?_)
  · conv => whnf
    refine And.intro ?_ trivial
    show D.str _ = D.str _
    rw [parentName_out (.inl (by simpa using h))]; rfl
  · conv => whnf
    refine condP_intro (fun h2 => ?_) (fun h2 => ?_)
    · conv => whnf
      refine And.intro ?_ trivial
      show D.str _ = D.str _
      rw [parentName_out (.inr (by simp at h h2; omega))]; rfl
    · have h0 : 0 ≤ i := by simpa using h
      have hl : i.toNat < s.rules.length := by simp at h2; omega
      conv => whnf
      refine ⟨_, ⟨h0, by rw [List.getElem?_map, List.getElem?_eq_getElem hl]; rfl⟩, ?_⟩
      conv => whnf
      refine And.intro ?_ trivial
      show D.str _ = D.str _
      rw [parentName_in h0 hl]

set_option maxRecDepth 8192 in
theorem c_ref_equal (s : MScope) (i : Nat) (t : MScope) (k : Nat) (hi : i < s.rules.length) (hk : k < t.rules.length) :
    Go.Ab.Fn Try.prog 41 [.agg (cScope s), .c (iD i), .agg (cScope t), .c (iD k)] (resB (ruleSame s s.rules[i] t t.rules[k])) [] := by
  refine Go.Ab.Fn.intro htab hm Try.func41 rfl Try.call41 (by kernel_rfl) _ Try.ntmps41 rfl (fun hr => ?_)
  generalize hR : ruleSame s s.rules[i] t t.rules[k] = R
  conv => whnf
  refine ⟨_, ⟨Int.natCast_nonneg _, cget hi⟩, ?_⟩
  conv => whnf
  refine ⟨_, ⟨Int.natCast_nonneg _, cget hk⟩, ?_⟩
  conv => whnf
  refine CallK_intro (c_defName s s.rules[i].df) (.inl rfl) ?_
  conv => whnf
  refine CallK_intro (c_defName t t.rules[k].df) (.inl rfl) ?_
  conv => whnf
  refine condP_intro (fun e1 => ?_) (fun e1 => ?_)
  · conv => whnf
    refine CallK_intro (c_parentName s s.rules[i].parent) (.inl rfl) ?_
    conv => whnf
    refine CallK_intro (c_parentName t t.rules[k].parent) (.inl rfl) ?_
    conv => whnf
    refine condP_intro (fun e2 => ?_) (fun e2 => ?_)
    · conv => whnf
      refine condP_intro (fun e3 => ?_) (fun e3 => ?_)
      · conv => whnf
        refine condP_intro (fun e4 => ?_) (fun e4 => ?_)
        · conv => whnf
          refine CallK_intro (c_same_Nodes s.rules[i].guard t.rules[k].guard) (.inl rfl) ?_
          conv => whnf
          refine condP_intro (fun e5 => ?_) (fun e5 => ?_)
          · conv => whnf
            refine CallK_intro (c_same_Nodes s.rules[i].value t.rules[k].value) (.inl rfl) ?_
            conv => whnf
            refine condP_intro (fun e6 => ?_) (fun e6 => ?_)
            · conv => whnf
              refine And.intro ?_ trivial
              show D.bool _ = D.bool R
              rw [← hR]
              simp at e1 e2 e3 e4 e5 e6
              simp [ruleSame, e1, e2, e3, e4, e5, e6]
            · conv => whnf
              refine And.intro ?_ trivial
              show D.bool false = D.bool R
              rw [← hR]
              simp at e6
              simp [ruleSame, e6]
          · conv => whnf
            refine And.intro ?_ trivial
            show D.bool false = D.bool R
            rw [← hR]
            simp at e5
            simp [ruleSame, e5]
        · conv => whnf
          refine And.intro ?_ trivial
          show D.bool false = D.bool R
          rw [← hR]
          have e4' : (s.rules[i].fr == t.rules[k].fr && s.rules[i].to == t.rules[k].to) = false := e4
          simp only [ruleSame, e4', Bool.false_and, Bool.and_false]
      · conv => whnf
        refine And.intro ?_ trivial
        show D.bool false = D.bool R
        rw [← hR]
        simp at e3
        simp [ruleSame, e3]
    · conv => whnf
      refine And.intro ?_ trivial
      show D.bool false = D.bool R
      rw [← hR]
      simp at e2
      simp [ruleSame, e2]
  · conv => whnf
    refine And.intro ?_ trivial
    show D.bool false = D.bool R
    rw [← hR]
    simp at e1
    simp [ruleSame, e1]
end Go.Proofs.Ytllfapkcniadgaa
