/- Contract: the reference's ChangedRules. -/
import Derived.Test.YtllfapkcniadgaaTpDiff
set_option linter.unusedVariables false
namespace Go.Proofs.Ytllfapkcniadgaa
open Go Go.Ab

theorem cp_none {l : MLaw} {sn rn : BA} (h : cpart l sn rn = none) : Go.Ab.Fn Try.prog 30 [.agg (cLaw l), .c (.str sn), .c (.str rn)] (rCpart none) [] := by
  have := c_Counterpart l sn rn; rwa [h] at this
theorem cp_some {l : MLaw} {sn rn : BA} {t : MScope} {n : Nat} (h : cpart l sn rn = some (t, n)) : Go.Ab.Fn Try.prog 30 [.agg (cLaw l), .c (.str sn), .c (.str rn)] (rCpart (some (t, n))) [] := by
  have := c_Counterpart l sn rn; rwa [h] at this

set_option maxRecDepth 8192 in
theorem c_ref_Changed (a b : MLaw) (hb : sumRules a.scopes + sumRules b.scopes ≤ 100000) : Go.Ab.Fn Try.prog 26 [.agg (cLaw a), .agg (cLaw b)] (vDc (changes (chg a b))) [] := by
  refine Go.Ab.Fn.intro htab hm Try.func26 rfl Try.call26 (by kernel_rfl) 131 Try.ntmps26 rfl (fun hr => ?_)
  conv => whnf
  refine LoopP_intro (fun i : Nat => i ≤ a.scopes.length) (fun i => ⟨131, [(2, .s (.c (.ref 16 0 0 0))), (3, .s (.c (.ref 24 0 0 0))), (5, .s (.c (.own 2000 3))), (6, vDc (.int .i64 i))], [(2000, .row 62 3 (([] ++ (a.scopes.take i).flatMap fun (s : MScope) => s.rules.flatMap (ch1 b s)).map cChange)), (16, .var ((cLaw a).map C.d)), (24, .var ((cLaw b).map C.d))]⟩) (fun i => a.scopes.length - i) 0 (Nat.zero_le _) ?_ (fun i k1 => ?_)
  · exact Le.sub rfl ⟨⟨⟨rfl, rfl⟩, rfl, rfl⟩, ⟨⟨rfl, rfl⟩, rfl, rfl⟩, ⟨rfl, rfl, rfl⟩, rfl⟩ ⟨rfl, ⟨rfl, rfl, rfl⟩, ⟨rfl, rfl, rfl⟩, trivial⟩
  · conv => whnf
    refine condP_intro (fun q => ?_) (fun q => ?_)
    · have hi : i < a.scopes.length := by simpa using q
      have hrs := rules_le (List.getElem_mem hi)
      have hl1 := out_take_len (f := ch1 b) (fun s r => ch1_len b s r) a.scopes i
      conv => whnf
      refine ⟨_, ⟨Int.natCast_nonneg _, cget hi⟩, ?_⟩
      conv => whnf
      refine LoopP_intro (fun k : Nat => k ≤ a.scopes[i].rules.length) (fun k => ⟨131, [(2, .s (.c (.ref 16 0 0 0))), (3, .s (.c (.ref 24 0 0 0))), (5, .s (.c (.own 2000 3))), (6, vDc (.int .i64 i)), (7, .s (.c (.ref 56 0 0 0))), (8, vDc (.int .i64 k))], [(2000, .row 62 3 ((([] ++ (a.scopes.take i).flatMap fun (s : MScope) => s.rules.flatMap (ch1 b s)) ++ (a.scopes[i].rules.take k).flatMap (ch1 b a.scopes[i])).map cChange)), (56, .var ((cScope a.scopes[i]).map C.d)), (16, .var ((cLaw a).map C.d)), (24, .var ((cLaw b).map C.d))]⟩) (fun k => a.scopes[i].rules.length - k) 0 (Nat.zero_le _) ?_ (fun k k2 => ?_)
      · refine Le.sub rfl ⟨⟨⟨rfl, rfl⟩, rfl, rfl⟩, ⟨⟨rfl, rfl⟩, rfl, rfl⟩, ⟨rfl, rfl⟩, rfl, ⟨⟨rfl, rfl⟩, rfl, rfl⟩, rfl⟩ ⟨⟨⟨rfl, rfl⟩, ?_⟩, ⟨rfl, rfl, rfl, rfl, rfl⟩, ⟨rfl, rfl, rfl⟩, ⟨rfl, rfl, rfl⟩, trivial⟩
        simp
      · conv => whnf
        refine condP_intro (fun q2 => ?_) (fun q2 => ?_)
        · have hk : k < a.scopes[i].rules.length := by simpa using q2
          have hl2 := in_take_len (f := ch1 b a.scopes[i]) (fun r => ch1_len b _ r) a.scopes[i].rules k
          have happ : ((([] ++ (a.scopes.take i).flatMap fun (s : MScope) => s.rules.flatMap (ch1 b s)) ++ (a.scopes[i].rules.take k).flatMap (ch1 b a.scopes[i])).map cChange).length ≤ 200000 := by
            rw [List.length_map, List.length_append, List.nil_append]; omega
          have hinc : D.int .i64 (IntKind.i64.wrap ((k : Int) + 1)) = D.int .i64 ((k + 1 : Nat) : Int) := inc64 hk (by omega)
          conv => whnf
          refine ⟨_, ⟨Int.natCast_nonneg _, cget hk⟩, ?_⟩
          conv => whnf
          cases hc : cpart b a.scopes[i].name a.scopes[i].rules[k].name with
          | none =>
            refine CallK_intro (cp_none hc) (.inl rfl) ?_
            conv => whnf
            refine ⟨_, ⟨Int.natCast_nonneg _, cget hk⟩, ?_⟩
            conv => whnf
            refine ⟨⟨by simp only [List.length_singleton]; omega, by simp only [List.length_singleton]; omega⟩, ?_⟩
            conv => whnf
            refine ⟨k + 1, hk, Le.sub rfl ⟨⟨⟨rfl, rfl⟩, rfl, rfl⟩, ⟨⟨rfl, rfl⟩, rfl, rfl⟩, ⟨rfl, rfl⟩, rfl, ⟨⟨rfl, rfl⟩, rfl, rfl⟩, hinc⟩ ⟨⟨⟨rfl, rfl⟩, row_one hk (c := ⟨a.scopes[i].name, a.scopes[i].rules[k].name, 1⟩) (by simp [ch1, hc]) rfl⟩, ⟨rfl, rfl, rfl, rfl, rfl⟩, ⟨rfl, rfl, rfl⟩, ⟨rfl, rfl, rfl⟩, trivial⟩, by omega⟩
          | some x =>
            obtain ⟨t, n⟩ := x
            obtain ⟨_, hn, _, _⟩ := cpart_some hc
            refine CallK_intro (cp_some hc) (.inl rfl) ?_
            conv => whnf
            refine CallK_intro (c_ref_equal a.scopes[i] k t n hk hn) (.inl rfl) ?_
            conv => whnf
            refine condP_intro (fun e => ?_) (fun e => ?_)
            · have e' : ruleSame a.scopes[i] a.scopes[i].rules[k] t t.rules[n] = false := by simpa using e
              conv => whnf
              refine ⟨_, ⟨Int.natCast_nonneg _, cget hk⟩, ?_⟩
              conv => whnf
              refine ⟨⟨by simp only [List.length_singleton]; omega, by simp only [List.length_singleton]; omega⟩, ?_⟩
              conv => whnf
              refine ⟨k + 1, hk, Le.sub rfl ⟨⟨⟨rfl, rfl⟩, rfl, rfl⟩, ⟨⟨rfl, rfl⟩, rfl, rfl⟩, ⟨rfl, rfl⟩, rfl, ⟨⟨rfl, rfl⟩, rfl, rfl⟩, hinc⟩ ⟨⟨⟨rfl, rfl⟩, row_one hk (c := ⟨a.scopes[i].name, a.scopes[i].rules[k].name, 3⟩) (by simp [ch1, hc, List.getElem?_eq_getElem hn, e']) rfl⟩, ⟨rfl, rfl, rfl, rfl, rfl⟩, ⟨rfl, rfl, rfl⟩, ⟨rfl, rfl, rfl⟩, trivial⟩, by omega⟩
            · have e' : ruleSame a.scopes[i] a.scopes[i].rules[k] t t.rules[n] = true := by simpa using e
              conv => whnf
              refine ⟨k + 1, hk, Le.sub rfl ⟨⟨⟨rfl, rfl⟩, rfl, rfl⟩, ⟨⟨rfl, rfl⟩, rfl, rfl⟩, ⟨rfl, rfl⟩, rfl, ⟨⟨rfl, rfl⟩, rfl, rfl⟩, hinc⟩ ⟨⟨⟨rfl, rfl⟩, row_none hk (by simp [ch1, hc, List.getElem?_eq_getElem hn, e'])⟩, ⟨rfl, rfl, rfl, rfl, rfl⟩, ⟨rfl, rfl, rfl⟩, ⟨rfl, rfl, rfl⟩, trivial⟩, by omega⟩
        · conv => whnf
          refine ⟨i + 1, hi, Le.sub rfl ⟨⟨⟨rfl, rfl⟩, rfl, rfl⟩, ⟨⟨rfl, rfl⟩, rfl, rfl⟩, ⟨rfl, rfl⟩, inc64 hi (by simpa using hr.1.2.2.len)⟩ ⟨⟨⟨rfl, rfl⟩, row_scope hi (by simp at q2; omega)⟩, ⟨rfl, rfl, rfl⟩, ⟨rfl, rfl, rfl⟩, trivial⟩, by omega⟩
    · conv => whnf
      have h1 : a.scopes.take i = a.scopes := List.take_of_length_le (by simp at q; omega)
      have hl1 := out_take_len (f := ch1 b) (fun s r => ch1_len b s r) a.scopes i
      rw [h1] at hl1
      refine LoopP_intro (fun i : Nat => i ≤ b.scopes.length) (fun i => ⟨131, [(2, .s (.c (.ref 16 0 0 0))), (3, .s (.c (.ref 24 0 0 0))), (5, .s (.c (.own 2000 3))), (12, vDc (.int .i64 i))], [(2000, .row 62 3 (((a.scopes.flatMap fun (s : MScope) => s.rules.flatMap (ch1 b s)) ++ (b.scopes.take i).flatMap fun (s : MScope) => s.rules.flatMap (ch2 a s)).map cChange)), (16, .var ((cLaw a).map C.d)), (24, .var ((cLaw b).map C.d))]⟩) (fun i => b.scopes.length - i) 0 (Nat.zero_le _) ?_ (fun i k3 => ?_)
      · refine Le.sub rfl ⟨⟨⟨rfl, rfl⟩, rfl, rfl⟩, ⟨⟨rfl, rfl⟩, rfl, rfl⟩, ⟨rfl, rfl⟩, rfl⟩ ⟨⟨⟨rfl, rfl⟩, ?_⟩, ⟨rfl, rfl, rfl⟩, ⟨rfl, rfl, rfl⟩, trivial⟩
        rw [h1]; simp
      · conv => whnf
        refine condP_intro (fun q => ?_) (fun q => ?_)
        · have hi : i < b.scopes.length := by simpa using q
          have hrs := rules_le (List.getElem_mem hi)
          have hl3 := out_take_len (f := ch2 a) (fun s r => ch2_len a s r) b.scopes i
          conv => whnf
          refine ⟨_, ⟨Int.natCast_nonneg _, cget hi⟩, ?_⟩
          conv => whnf
          refine LoopP_intro (fun k : Nat => k ≤ b.scopes[i].rules.length) (fun k => ⟨131, [(2, .s (.c (.ref 16 0 0 0))), (3, .s (.c (.ref 24 0 0 0))), (5, .s (.c (.own 2000 3))), (12, vDc (.int .i64 i)), (13, .s (.c (.ref 104 0 0 0))), (14, vDc (.int .i64 k))], [(2000, .row 62 3 ((((a.scopes.flatMap fun (s : MScope) => s.rules.flatMap (ch1 b s)) ++ (b.scopes.take i).flatMap fun (s : MScope) => s.rules.flatMap (ch2 a s)) ++ (b.scopes[i].rules.take k).flatMap (ch2 a b.scopes[i])).map cChange)), (104, .var ((cScope b.scopes[i]).map C.d)), (16, .var ((cLaw a).map C.d)), (24, .var ((cLaw b).map C.d))]⟩) (fun k => b.scopes[i].rules.length - k) 0 (Nat.zero_le _) ?_ (fun k k2 => ?_)
          · refine Le.sub rfl ⟨⟨⟨rfl, rfl⟩, rfl, rfl⟩, ⟨⟨rfl, rfl⟩, rfl, rfl⟩, ⟨rfl, rfl⟩, rfl, ⟨⟨rfl, rfl⟩, rfl, rfl⟩, rfl⟩ ⟨⟨⟨rfl, rfl⟩, ?_⟩, ⟨rfl, rfl, rfl, rfl, rfl⟩, ⟨rfl, rfl, rfl⟩, ⟨rfl, rfl, rfl⟩, trivial⟩
            simp
          · conv => whnf
            refine condP_intro (fun q2 => ?_) (fun q2 => ?_)
            · have hk : k < b.scopes[i].rules.length := by simpa using q2
              have hl2 := in_take_len (f := ch2 a b.scopes[i]) (fun r => ch2_len a _ r) b.scopes[i].rules k
              have happ : ((((a.scopes.flatMap fun (s : MScope) => s.rules.flatMap (ch1 b s)) ++ (b.scopes.take i).flatMap fun (s : MScope) => s.rules.flatMap (ch2 a s)) ++ (b.scopes[i].rules.take k).flatMap (ch2 a b.scopes[i])).map cChange).length ≤ 400000 := by
                rw [List.length_map, List.length_append, List.length_append]; omega
              have hinc : D.int .i64 (IntKind.i64.wrap ((k : Int) + 1)) = D.int .i64 ((k + 1 : Nat) : Int) := inc64 hk (by omega)
              conv => whnf
              refine ⟨_, ⟨Int.natCast_nonneg _, cget hk⟩, ?_⟩
              conv => whnf
              cases hc : cpart a b.scopes[i].name b.scopes[i].rules[k].name with
              | none =>
                refine CallK_intro (cp_none hc) (.inl rfl) ?_
                conv => whnf
                refine ⟨_, ⟨Int.natCast_nonneg _, cget hk⟩, ?_⟩
                conv => whnf
                refine ⟨⟨by simp only [List.length_singleton]; omega, by simp only [List.length_singleton]; omega⟩, ?_⟩
                conv => whnf
                refine ⟨k + 1, hk, Le.sub rfl ⟨⟨⟨rfl, rfl⟩, rfl, rfl⟩, ⟨⟨rfl, rfl⟩, rfl, rfl⟩, ⟨rfl, rfl⟩, rfl, ⟨⟨rfl, rfl⟩, rfl, rfl⟩, hinc⟩ ⟨⟨⟨rfl, rfl⟩, row_one hk (c := ⟨b.scopes[i].name, b.scopes[i].rules[k].name, 2⟩) (by simp [ch2, hc]) rfl⟩, ⟨rfl, rfl, rfl, rfl, rfl⟩, ⟨rfl, rfl, rfl⟩, ⟨rfl, rfl, rfl⟩, trivial⟩, by omega⟩
              | some x =>
                obtain ⟨t, n⟩ := x
                refine CallK_intro (cp_some hc) (.inl rfl) ?_
                conv => whnf
                refine ⟨k + 1, hk, Le.sub rfl ⟨⟨⟨rfl, rfl⟩, rfl, rfl⟩, ⟨⟨rfl, rfl⟩, rfl, rfl⟩, ⟨rfl, rfl⟩, rfl, ⟨⟨rfl, rfl⟩, rfl, rfl⟩, hinc⟩ ⟨⟨⟨rfl, rfl⟩, row_none hk (by simp [ch2, hc])⟩, ⟨rfl, rfl, rfl, rfl, rfl⟩, ⟨rfl, rfl, rfl⟩, ⟨rfl, rfl, rfl⟩, trivial⟩, by omega⟩
            · conv => whnf
              refine ⟨i + 1, hi, Le.sub rfl ⟨⟨⟨rfl, rfl⟩, rfl, rfl⟩, ⟨⟨rfl, rfl⟩, rfl, rfl⟩, ⟨rfl, rfl⟩, inc64 hi (by simpa using hr.2.1.2.2.len)⟩ ⟨⟨⟨rfl, rfl⟩, row_scope hi (by simp at q2; omega)⟩, ⟨rfl, rfl, rfl⟩, ⟨rfl, rfl, rfl⟩, trivial⟩, by omega⟩
        · conv => whnf
          refine And.intro ?_ trivial
          show D.slice 3 _ = D.slice 3 _
          rw [List.take_of_length_le (by simp at q; omega)]
          rfl
end Go.Proofs.Ytllfapkcniadgaa
