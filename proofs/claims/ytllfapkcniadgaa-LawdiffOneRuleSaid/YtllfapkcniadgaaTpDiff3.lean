/- Contracts: the parts of lawdiff itself. -/
import Derived.Test.YtllfapkcniadgaaTpDiff2
set_option linter.unusedVariables false
namespace Go.Proofs.Ytllfapkcniadgaa
open Go Go.Ab

theorem c_cp1 (s : MScope) (n : BA) : Go.Ab.Fn Try.prog 52 [.agg (cScope s), .c (.ptr [.str n] 0)] (resB (decide (s.name = n))) [] := by
  refine Go.Ab.Fn.intro htab hm Try.func52 rfl Try.call52 (by kernel_rfl) 8 Try.ntmps52 rfl (fun hr => ?_)
  conv => whnf
  exact And.intro rfl trivial
theorem c_cp2 (s : MRule) (n : BA) : Go.Ab.Fn Try.prog 54 [.agg (cRule s), .c (.ptr [.str n] 0)] (resB (decide (s.name = n))) [] := by
  refine Go.Ab.Fn.intro htab hm Try.func54 rfl Try.call54 (by kernel_rfl) 8 Try.ntmps54 rfl (fun hr => ?_)
  conv => whnf
  exact And.intro rfl trivial

theorem c_indexScope (l : List MScope) (n : BA) : Go.Ab.Fn Try.prog 51 [.c (scopes l), .c (.clos 52 [.ptr [.str n] 0])] (vDc (iD (optI (scopeAt l n)))) [] := by
  refine Go.Ab.Fn.intro htab hm Try.func51 rfl Try.call51 (by kernel_rfl) 19 Try.ntmps51 rfl (fun hr => ?_)
  conv => whnf
  refine LoopP_intro (fun i : Nat => i ≤ l.length ∧ AllTo l i (fun s => decide (s.name = n) = false)) (fun i => ⟨19, [(0, vDc (scopes l)), (1, vDc (.clos 52 [.ptr [.str n] 0])), (7, vDc (iD l.length)), (8, vDc (iD i))], []⟩) (fun i => l.length - i) 0 ⟨Nat.zero_le _, AllTo.zero _ _⟩ ?_ (fun i ⟨k1, a1⟩ => ?_)
  · refine Le.sub rfl ⟨rfl, rfl, ?_, rfl⟩ trivial
    show D.int _ _ = D.int _ _
    simp
  · conv => whnf
    refine condP_intro (fun q => ?_) (fun q => ?_)
    · have hi : i < l.length := by simpa using q
      conv => whnf
      refine ⟨_, ⟨Int.natCast_nonneg _, cget hi⟩, ?_⟩
      conv => whnf
      refine CallK_intro (c_cp1 l[i] n) (.inl rfl) ?_
      conv => whnf
      refine condP_intro (fun h => ?_) (fun h => ?_)
      · conv => whnf
        refine And.intro ?_ trivial
        show D.int _ _ = D.int _ _
        rw [scopeAt, find_some hi h a1]; rfl
      · conv => whnf
        exact ⟨i + 1, ⟨hi, a1.step hi h⟩, Le.sub rfl ⟨rfl, rfl, rfl, inc64 hi (by simpa using hr.1.len)⟩ trivial, by omega⟩
    · conv => whnf
      refine And.intro ?_ trivial
      show D.int _ _ = D.int _ _
      rw [scopeAt, find_none (by simp at q; omega) a1]; rfl

theorem c_indexRule (l : List MRule) (n : BA) : Go.Ab.Fn Try.prog 53 [.c (mrules l), .c (.clos 54 [.ptr [.str n] 0])] (vDc (iD (optI (ruleAt l n)))) [] := by
  refine Go.Ab.Fn.intro htab hm Try.func53 rfl Try.call53 (by kernel_rfl) 19 Try.ntmps53 rfl (fun hr => ?_)
  conv => whnf
  refine LoopP_intro (fun i : Nat => i ≤ l.length ∧ AllTo l i (fun s => decide (s.name = n) = false)) (fun i => ⟨19, [(0, vDc (mrules l)), (1, vDc (.clos 54 [.ptr [.str n] 0])), (7, vDc (iD l.length)), (8, vDc (iD i))], []⟩) (fun i => l.length - i) 0 ⟨Nat.zero_le _, AllTo.zero _ _⟩ ?_ (fun i ⟨k1, a1⟩ => ?_)
  · refine Le.sub rfl ⟨rfl, rfl, ?_, rfl⟩ trivial
    show D.int _ _ = D.int _ _
    simp
  · conv => whnf
    refine condP_intro (fun q => ?_) (fun q => ?_)
    · have hi : i < l.length := by simpa using q
      conv => whnf
      refine ⟨_, ⟨Int.natCast_nonneg _, cget hi⟩, ?_⟩
      conv => whnf
      refine CallK_intro (c_cp2 l[i] n) (.inl rfl) ?_
      conv => whnf
      refine condP_intro (fun h => ?_) (fun h => ?_)
      · conv => whnf
        refine And.intro ?_ trivial
        show D.int _ _ = D.int _ _
        rw [ruleAt, find_some hi h a1]; rfl
      · conv => whnf
        exact ⟨i + 1, ⟨hi, a1.step hi h⟩, Le.sub rfl ⟨rfl, rfl, rfl, inc64 hi (by simpa using hr.1.len)⟩ trivial, by omega⟩
    · conv => whnf
      refine And.intro ?_ trivial
      show D.int _ _ = D.int _ _
      rw [ruleAt, find_none (by simp at q; omega) a1]; rfl

/-- What lawdiff's counterpart hands back. -/
def rLp : Option (MScope × MRule) → AV
  | some (s, r) => .tup [.agg ((cScope s).map C.d), .agg ((cRule r).map C.d), .c (.d (.bool true))]
  | none => .tup [.agg ((cScope zScope).map C.d), .agg ((cRule zRule).map C.d), .c (.d (.bool false))]

set_option maxRecDepth 8192 in
theorem lp_none {l : MLaw} {sn rn : BA} (hc : cpart l sn rn = none) : Go.Ab.Fn Try.prog 38 [.agg (cLaw l), .c (.str sn), .c (.str rn)] (rLp none) [] := by
  refine Go.Ab.Fn.intro htab hm Try.func38 rfl Try.call38 (by kernel_rfl) _ Try.ntmps38 rfl (fun hr => ?_)
  conv => whnf
  refine CallK_intro (c_indexScope l.scopes sn) (.inl rfl) ?_
  cases hs : scopeAt l.scopes sn with
  | none =>
    conv => whnf
    repeat (first | exact trivial | refine And.intro rfl ?_)
  | some i =>
    obtain ⟨hi, _⟩ := find_lt hs
    conv => whnf
    refine ⟨_, ⟨Int.natCast_nonneg _, cget hi⟩, ?_⟩
    conv => whnf
    refine CallK_intro (c_indexRule l.scopes[i].rules rn) (.inl rfl) ?_
    cases hk : ruleAt l.scopes[i].rules rn with
    | none =>
      conv => whnf
      repeat (first | exact trivial | refine And.intro rfl ?_)
    | some k =>
      simp [cpart, hs, List.getElem?_eq_getElem hi, hk] at hc

set_option maxRecDepth 8192 in
theorem lp_some {l : MLaw} {sn rn : BA} {t : MScope} {n : Nat} (hc : cpart l sn rn = some (t, n)) (hn : n < t.rules.length) : Go.Ab.Fn Try.prog 38 [.agg (cLaw l), .c (.str sn), .c (.str rn)] (rLp (some (t, t.rules[n]))) [] := by
  refine Go.Ab.Fn.intro htab hm Try.func38 rfl Try.call38 (by kernel_rfl) _ Try.ntmps38 rfl (fun hr => ?_)
  conv => whnf
  refine CallK_intro (c_indexScope l.scopes sn) (.inl rfl) ?_
  cases hs : scopeAt l.scopes sn with
  | none => simp [cpart, hs] at hc
  | some i =>
    obtain ⟨hi, _⟩ := find_lt hs
    conv => whnf
    refine ⟨_, ⟨Int.natCast_nonneg _, cget hi⟩, ?_⟩
    conv => whnf
    refine CallK_intro (c_indexRule l.scopes[i].rules rn) (.inl rfl) ?_
    cases hk : ruleAt l.scopes[i].rules rn with
    | none => simp [cpart, hs, List.getElem?_eq_getElem hi, hk] at hc
    | some k =>
      obtain ⟨hkl, _⟩ := find_lt hk
      have hc' : cpart l sn rn = some (l.scopes[i], k) := by simp [cpart, hs, List.getElem?_eq_getElem hi, hk]
      rw [hc'] at hc
      cases hc
      conv => whnf
      refine ⟨_, ⟨Int.natCast_nonneg _, cget hkl⟩, ?_⟩
      conv => whnf
      repeat (first | exact trivial | refine And.intro rfl ?_)

set_option maxRecDepth 8192 in
theorem c_props (s : MScope) (r : MRule) : Go.Ab.Fn Try.prog 39 [.agg (cScope s), .agg (cRule r)] (.s (.agg ((cProps s r).map C.d))) [] := by
  refine Go.Ab.Fn.intro htab hm Try.func39 rfl Try.call39 (by kernel_rfl) 52 Try.ntmps39 rfl (fun hr => ?_)
  conv => whnf
  refine condP_intro (fun h1 => ?_) (fun h1 => ?_)
  · have d0 : 0 ≤ r.df := by simpa using h1
    conv => whnf
    refine condP_intro (fun h2 => ?_) (fun h2 => ?_)
    · have dl : r.df.toNat < s.defs.length := by simp at h2; omega
      conv => whnf
      refine ⟨_, ⟨d0, by rw [List.getElem?_map, List.getElem?_eq_getElem dl]; rfl⟩, ?_⟩
      conv => whnf
      refine condP_intro (fun g1 => ?_) (fun g1 => ?_)
      · have p0 : 0 ≤ r.parent := by simpa using g1
        conv => whnf
        refine condP_intro (fun g2 => ?_) (fun g2 => ?_)
        · have pl : r.parent.toNat < s.rules.length := by simp at g2; omega
          conv => whnf
          refine ⟨_, ⟨p0, by rw [List.getElem?_map, List.getElem?_eq_getElem pl]; rfl⟩, ?_⟩
          conv => whnf
          exact And.intro (Eq.symm (congrArg D.str (defName_in d0 dl))) (And.intro (Eq.symm (congrArg D.str (parentName_in p0 pl))) (And.intro rfl (And.intro rfl (And.intro rfl (And.intro rfl trivial)))))
        · have po : s.rules.length ≤ r.parent.toNat := by simp at g2; omega
          conv => whnf
          exact And.intro (Eq.symm (congrArg D.str (defName_in d0 dl))) (And.intro (Eq.symm (congrArg D.str (parentName_out (.inr po)))) (And.intro rfl (And.intro rfl (And.intro rfl (And.intro rfl trivial)))))
      · have po : r.parent < 0 := by simpa using g1
        conv => whnf
        exact And.intro (Eq.symm (congrArg D.str (defName_in d0 dl))) (And.intro (Eq.symm (congrArg D.str (parentName_out (.inl po)))) (And.intro rfl (And.intro rfl (And.intro rfl (And.intro rfl trivial)))))
    · have dl : s.defs.length ≤ r.df.toNat := by simp at h2; omega
      conv => whnf
      refine condP_intro (fun g1 => ?_) (fun g1 => ?_)
      · have p0 : 0 ≤ r.parent := by simpa using g1
        conv => whnf
        refine condP_intro (fun g2 => ?_) (fun g2 => ?_)
        · have pl : r.parent.toNat < s.rules.length := by simp at g2; omega
          conv => whnf
          refine ⟨_, ⟨p0, by rw [List.getElem?_map, List.getElem?_eq_getElem pl]; rfl⟩, ?_⟩
          conv => whnf
          exact And.intro (Eq.symm (congrArg D.str (defName_out (.inr dl)))) (And.intro (Eq.symm (congrArg D.str (parentName_in p0 pl))) (And.intro rfl (And.intro rfl (And.intro rfl (And.intro rfl trivial)))))
        · have po : s.rules.length ≤ r.parent.toNat := by simp at g2; omega
          conv => whnf
          exact And.intro (Eq.symm (congrArg D.str (defName_out (.inr dl)))) (And.intro (Eq.symm (congrArg D.str (parentName_out (.inr po)))) (And.intro rfl (And.intro rfl (And.intro rfl (And.intro rfl trivial)))))
      · have po : r.parent < 0 := by simpa using g1
        conv => whnf
        exact And.intro (Eq.symm (congrArg D.str (defName_out (.inr dl)))) (And.intro (Eq.symm (congrArg D.str (parentName_out (.inl po)))) (And.intro rfl (And.intro rfl (And.intro rfl (And.intro rfl trivial)))))
  · have dl : r.df < 0 := by simpa using h1
    conv => whnf
    refine condP_intro (fun g1 => ?_) (fun g1 => ?_)
    · have p0 : 0 ≤ r.parent := by simpa using g1
      conv => whnf
      refine condP_intro (fun g2 => ?_) (fun g2 => ?_)
      · have pl : r.parent.toNat < s.rules.length := by simp at g2; omega
        conv => whnf
        refine ⟨_, ⟨p0, by rw [List.getElem?_map, List.getElem?_eq_getElem pl]; rfl⟩, ?_⟩
        conv => whnf
        exact And.intro (Eq.symm (congrArg D.str (defName_out (.inl dl)))) (And.intro (Eq.symm (congrArg D.str (parentName_in p0 pl))) (And.intro rfl (And.intro rfl (And.intro rfl (And.intro rfl trivial)))))
      · have po : s.rules.length ≤ r.parent.toNat := by simp at g2; omega
        conv => whnf
        exact And.intro (Eq.symm (congrArg D.str (defName_out (.inl dl)))) (And.intro (Eq.symm (congrArg D.str (parentName_out (.inr po)))) (And.intro rfl (And.intro rfl (And.intro rfl (And.intro rfl trivial)))))
    · have po : r.parent < 0 := by simpa using g1
      conv => whnf
      exact And.intro (Eq.symm (congrArg D.str (defName_out (.inl dl)))) (And.intro (Eq.symm (congrArg D.str (parentName_out (.inl po)))) (And.intro rfl (And.intro rfl (And.intro rfl (And.intro rfl trivial)))))
end Go.Proofs.Ytllfapkcniadgaa
