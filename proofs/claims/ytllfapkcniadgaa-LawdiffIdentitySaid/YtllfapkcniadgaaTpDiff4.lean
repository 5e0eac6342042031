/- Contract: lawdiff.ChangedRules. -/
import Derived.Test.YtllfapkcniadgaaTpDiff3
set_option linter.unusedVariables false
namespace Go.Proofs.Ytllfapkcniadgaa
open Go Go.Ab

set_option maxRecDepth 8192 in
theorem c_Changed (a b : MLaw) (hb : sumRules a.scopes + sumRules b.scopes ≤ 100000) : Go.Ab.Fn Try.prog 25 [.agg (cLaw a), .agg (cLaw b)] (vDc (changes (chg a b))) [] := by
  refine Go.Ab.Fn.intro htab hm Try.func25 rfl Try.call25 (by kernel_rfl) 122 Try.ntmps25 rfl (fun hr => ?_)
  conv => whnf
  refine LoopP_intro (fun i : Nat => i ≤ a.scopes.length) (fun i => ⟨122, [(2, .s (.c (.ref 16 0 0 0))), (3, .s (.c (.ref 24 0 0 0))), (5, .s (.c (.own 2000 3))), (21, vDc (scopes a.scopes)), (22, vDc (iD a.scopes.length)), (23, vDc (.int .i64 i))], [(2000, .row 62 3 (([] ++ (a.scopes.take i).flatMap fun (s : MScope) => s.rules.flatMap (ch1 b s)).map cChange)), (16, .var ((cLaw a).map C.d)), (24, .var ((cLaw b).map C.d))]⟩) (fun i => a.scopes.length - i) 0 (Nat.zero_le _) ?_ (fun i k1 => ?_)
  · refine Le.sub rfl ⟨⟨⟨rfl, rfl⟩, rfl, rfl⟩, ⟨⟨rfl, rfl⟩, rfl, rfl⟩, ⟨rfl, rfl, rfl⟩, rfl, ?_, rfl⟩ ⟨rfl, ⟨rfl, rfl, rfl⟩, ⟨rfl, rfl, rfl⟩, trivial⟩
    show D.int _ _ = D.int _ _
    simp
  · conv => whnf
    refine condP_intro (fun q => ?_) (fun q => ?_)
    · have hi : i < a.scopes.length := by simpa using q
      have hrs := rules_le (List.getElem_mem hi)
      have hl1 := out_take_len (f := ch1 b) (fun s r => ch1_len b s r) a.scopes i
      conv => whnf
      refine ⟨_, ⟨Int.natCast_nonneg _, cget hi⟩, ?_⟩
      conv => whnf
      refine LoopP_intro (fun k : Nat => k ≤ a.scopes[i].rules.length) (fun k => ⟨122, [(2, .s (.c (.ref 16 0 0 0))), (3, .s (.c (.ref 24 0 0 0))), (5, .s (.c (.own 2000 3))), (21, vDc (scopes a.scopes)), (22, vDc (iD a.scopes.length)), (23, vDc (.int .i64 i)), (7, .s (.c (.ref 56 0 0 0))), (28, vDc (mrules a.scopes[i].rules)), (29, vDc (iD a.scopes[i].rules.length)), (30, vDc (.int .i64 k))], [(2000, .row 62 3 ((([] ++ (a.scopes.take i).flatMap fun (s : MScope) => s.rules.flatMap (ch1 b s)) ++ (a.scopes[i].rules.take k).flatMap (ch1 b a.scopes[i])).map cChange)), (56, .var ((cScope a.scopes[i]).map C.d)), (16, .var ((cLaw a).map C.d)), (24, .var ((cLaw b).map C.d))]⟩) (fun k => a.scopes[i].rules.length - k) 0 (Nat.zero_le _) ?_ (fun k k2 => ?_)
      · refine Le.sub rfl ⟨⟨⟨rfl, rfl⟩, rfl, rfl⟩, ⟨⟨rfl, rfl⟩, rfl, rfl⟩, ⟨rfl, rfl⟩, rfl, rfl, rfl, ⟨⟨rfl, rfl⟩, rfl, rfl⟩, rfl, ?_, rfl⟩ ⟨⟨⟨rfl, rfl⟩, ?_⟩, ⟨rfl, rfl, rfl, rfl, rfl⟩, ⟨rfl, rfl, rfl⟩, ⟨rfl, rfl, rfl⟩, trivial⟩
        · show D.int _ _ = D.int _ _
          simp
        · simp
      · conv => whnf
        refine condP_intro (fun q2 => ?_) (fun q2 => ?_)
        · have hk : k < a.scopes[i].rules.length := by simpa using q2
          have hl2 := in_take_len (f := ch1 b a.scopes[i]) (fun r => ch1_len b _ r) a.scopes[i].rules k
          have happ : ((([] ++ (a.scopes.take i).flatMap fun (s : MScope) => s.rules.flatMap (ch1 b s)) ++ (a.scopes[i].rules.take k).flatMap (ch1 b a.scopes[i])).map cChange).length ≤ 200000 := by
            rw [List.length_map, List.length_append, List.nil_append]; omega
          have hinc : D.int .i64 (IntKind.i64.wrap ((k : Int) + 1)) = D.int .i64 ((k + 1 : Nat) : Int) := inc64 hk (by omega)
          conv => whnf
          refine ⟨_, ⟨Int.natCast_nonneg _, cget hk⟩, ?_⟩
          conv => whnf
          cases hc : cpart b a.scopes[i].name a.scopes[i].rules[k].name with
          | none =>
            refine CallK_intro (lp_none hc) (.inl rfl) ?_
            conv => whnf
            refine ⟨⟨by simp only [List.length_singleton]; omega, by simp only [List.length_singleton]; omega⟩, ?_⟩
            conv => whnf
            refine ⟨k + 1, hk, Le.sub rfl ⟨⟨⟨rfl, rfl⟩, rfl, rfl⟩, ⟨⟨rfl, rfl⟩, rfl, rfl⟩, ⟨rfl, rfl⟩, rfl, rfl, rfl, ⟨⟨rfl, rfl⟩, rfl, rfl⟩, rfl, rfl, hinc⟩ ⟨⟨⟨rfl, rfl⟩, row_one hk (c := ⟨a.scopes[i].name, a.scopes[i].rules[k].name, 1⟩) (by simp [ch1, hc]) rfl⟩, ⟨rfl, rfl, rfl, rfl, rfl⟩, ⟨rfl, rfl, rfl⟩, ⟨rfl, rfl, rfl⟩, trivial⟩, by omega⟩
          | some x =>
            obtain ⟨t, n⟩ := x
            obtain ⟨_, hn, _, _⟩ := cpart_some hc
            have hsame := ruleSame_eq a.scopes[i] a.scopes[i].rules[k] t t.rules[n]
            refine CallK_intro (lp_some hc hn) (.inl rfl) ?_
            conv => whnf
            refine CallK_intro (c_props a.scopes[i] a.scopes[i].rules[k]) (.inl rfl) ?_
            conv => whnf
            refine CallK_intro (c_props t t.rules[n]) (.inl rfl) ?_
            conv => whnf
            refine condP_intro (fun e1 => ?_) (fun e1 => ?_)
            · have e1' : propsEq a.scopes[i] a.scopes[i].rules[k] t t.rules[n] = false := by
                have : (!(propsEq a.scopes[i] a.scopes[i].rules[k] t t.rules[n])) = true := e1
                simpa using this
              have e' : ruleSame a.scopes[i] a.scopes[i].rules[k] t t.rules[n] = false := by rw [hsame, e1']; rfl
              conv => whnf
              refine ⟨⟨by simp only [List.length_singleton]; omega, by simp only [List.length_singleton]; omega⟩, ?_⟩
              conv => whnf
              refine ⟨k + 1, hk, Le.sub rfl ⟨⟨⟨rfl, rfl⟩, rfl, rfl⟩, ⟨⟨rfl, rfl⟩, rfl, rfl⟩, ⟨rfl, rfl⟩, rfl, rfl, rfl, ⟨⟨rfl, rfl⟩, rfl, rfl⟩, rfl, rfl, hinc⟩ ⟨⟨⟨rfl, rfl⟩, row_one hk (c := ⟨a.scopes[i].name, a.scopes[i].rules[k].name, 3⟩) (by simp [ch1, hc, List.getElem?_eq_getElem hn, e']) rfl⟩, ⟨rfl, rfl, rfl, rfl, rfl⟩, ⟨rfl, rfl, rfl⟩, ⟨rfl, rfl, rfl⟩, trivial⟩, by omega⟩
            · have e1' : propsEq a.scopes[i] a.scopes[i].rules[k] t t.rules[n] = true := by simpa [propsEq] using e1
              conv => whnf
              refine CallK_intro (c_eq_node a.scopes[i].rules[k].guard t.rules[n].guard) (.inl rfl) ?_
              conv => whnf
              refine condP_intro (fun e2 => ?_) (fun e2 => ?_)
              · have e' : ruleSame a.scopes[i] a.scopes[i].rules[k] t t.rules[n] = false := by
                  rw [hsame, e1', show decide (a.scopes[i].rules[k].guard = t.rules[n].guard) = false by simpa using e2]; rfl
                conv => whnf
                refine ⟨⟨by simp only [List.length_singleton]; omega, by simp only [List.length_singleton]; omega⟩, ?_⟩
                conv => whnf
                refine ⟨k + 1, hk, Le.sub rfl ⟨⟨⟨rfl, rfl⟩, rfl, rfl⟩, ⟨⟨rfl, rfl⟩, rfl, rfl⟩, ⟨rfl, rfl⟩, rfl, rfl, rfl, ⟨⟨rfl, rfl⟩, rfl, rfl⟩, rfl, rfl, hinc⟩ ⟨⟨⟨rfl, rfl⟩, row_one hk (c := ⟨a.scopes[i].name, a.scopes[i].rules[k].name, 3⟩) (by simp [ch1, hc, List.getElem?_eq_getElem hn, e']) rfl⟩, ⟨rfl, rfl, rfl, rfl, rfl⟩, ⟨rfl, rfl, rfl⟩, ⟨rfl, rfl, rfl⟩, trivial⟩, by omega⟩
              · conv => whnf
                refine CallK_intro (c_eq_node a.scopes[i].rules[k].value t.rules[n].value) (.inl rfl) ?_
                conv => whnf
                refine condP_intro (fun e3 => ?_) (fun e3 => ?_)
                · have e' : ruleSame a.scopes[i] a.scopes[i].rules[k] t t.rules[n] = false := by
                    rw [hsame, e1', show decide (a.scopes[i].rules[k].value = t.rules[n].value) = false by simpa using e3]; simp
                  conv => whnf
                  refine ⟨⟨by simp only [List.length_singleton]; omega, by simp only [List.length_singleton]; omega⟩, ?_⟩
                  conv => whnf
                  refine ⟨k + 1, hk, Le.sub rfl ⟨⟨⟨rfl, rfl⟩, rfl, rfl⟩, ⟨⟨rfl, rfl⟩, rfl, rfl⟩, ⟨rfl, rfl⟩, rfl, rfl, rfl, ⟨⟨rfl, rfl⟩, rfl, rfl⟩, rfl, rfl, hinc⟩ ⟨⟨⟨rfl, rfl⟩, row_one hk (c := ⟨a.scopes[i].name, a.scopes[i].rules[k].name, 3⟩) (by simp [ch1, hc, List.getElem?_eq_getElem hn, e']) rfl⟩, ⟨rfl, rfl, rfl, rfl, rfl⟩, ⟨rfl, rfl, rfl⟩, ⟨rfl, rfl, rfl⟩, trivial⟩, by omega⟩
                · have e' : ruleSame a.scopes[i] a.scopes[i].rules[k] t t.rules[n] = true := by
                    rw [hsame, e1', show decide (a.scopes[i].rules[k].guard = t.rules[n].guard) = true by simpa using e2, show decide (a.scopes[i].rules[k].value = t.rules[n].value) = true by simpa using e3]; rfl
                  conv => whnf
                  refine ⟨k + 1, hk, Le.sub rfl ⟨⟨⟨rfl, rfl⟩, rfl, rfl⟩, ⟨⟨rfl, rfl⟩, rfl, rfl⟩, ⟨rfl, rfl⟩, rfl, rfl, rfl, ⟨⟨rfl, rfl⟩, rfl, rfl⟩, rfl, rfl, hinc⟩ ⟨⟨⟨rfl, rfl⟩, row_none hk (by simp [ch1, hc, List.getElem?_eq_getElem hn, e'])⟩, ⟨rfl, rfl, rfl, rfl, rfl⟩, ⟨rfl, rfl, rfl⟩, ⟨rfl, rfl, rfl⟩, trivial⟩, by omega⟩
        · conv => whnf
          refine ⟨i + 1, hi, Le.sub rfl ⟨⟨⟨rfl, rfl⟩, rfl, rfl⟩, ⟨⟨rfl, rfl⟩, rfl, rfl⟩, ⟨rfl, rfl⟩, rfl, rfl, inc64 hi (by simpa using hr.1.2.2.len)⟩ ⟨⟨⟨rfl, rfl⟩, row_scope hi (by simp at q2; omega)⟩, ⟨rfl, rfl, rfl⟩, ⟨rfl, rfl, rfl⟩, trivial⟩, by omega⟩
    · conv => whnf
      have h1 : a.scopes.take i = a.scopes := List.take_of_length_le (by simp at q; omega)
      have hl1 := out_take_len (f := ch1 b) (fun s r => ch1_len b s r) a.scopes i
      rw [h1] at hl1
      refine LoopP_intro (fun i : Nat => i ≤ b.scopes.length) (fun i => ⟨122, [(2, .s (.c (.ref 16 0 0 0))), (3, .s (.c (.ref 24 0 0 0))), (5, .s (.c (.own 2000 3))), (86, vDc (scopes b.scopes)), (87, vDc (iD b.scopes.length)), (88, vDc (.int .i64 i))], [(2000, .row 62 3 (((a.scopes.flatMap fun (s : MScope) => s.rules.flatMap (ch1 b s)) ++ (b.scopes.take i).flatMap fun (s : MScope) => s.rules.flatMap (ch2 a s)).map cChange)), (16, .var ((cLaw a).map C.d)), (24, .var ((cLaw b).map C.d))]⟩) (fun i => b.scopes.length - i) 0 (Nat.zero_le _) ?_ (fun i k3 => ?_)
      · refine Le.sub rfl ⟨⟨⟨rfl, rfl⟩, rfl, rfl⟩, ⟨⟨rfl, rfl⟩, rfl, rfl⟩, ⟨rfl, rfl⟩, rfl, ?_, rfl⟩ ⟨⟨⟨rfl, rfl⟩, ?_⟩, ⟨rfl, rfl, rfl⟩, ⟨rfl, rfl, rfl⟩, trivial⟩
        · show D.int _ _ = D.int _ _
          simp
        · rw [h1]; simp
      · conv => whnf
        refine condP_intro (fun q => ?_) (fun q => ?_)
        · have hi : i < b.scopes.length := by simpa using q
          have hrs := rules_le (List.getElem_mem hi)
          have hl3 := out_take_len (f := ch2 a) (fun s r => ch2_len a s r) b.scopes i
          conv => whnf
          refine ⟨_, ⟨Int.natCast_nonneg _, cget hi⟩, ?_⟩
          conv => whnf
          refine LoopP_intro (fun k : Nat => k ≤ b.scopes[i].rules.length) (fun k => ⟨122, [(2, .s (.c (.ref 16 0 0 0))), (3, .s (.c (.ref 24 0 0 0))), (5, .s (.c (.own 2000 3))), (86, vDc (scopes b.scopes)), (87, vDc (iD b.scopes.length)), (88, vDc (.int .i64 i)), (14, .s (.c (.ref 112 0 0 0))), (93, vDc (mrules b.scopes[i].rules)), (94, vDc (iD b.scopes[i].rules.length)), (95, vDc (.int .i64 k))], [(2000, .row 62 3 ((((a.scopes.flatMap fun (s : MScope) => s.rules.flatMap (ch1 b s)) ++ (b.scopes.take i).flatMap fun (s : MScope) => s.rules.flatMap (ch2 a s)) ++ (b.scopes[i].rules.take k).flatMap (ch2 a b.scopes[i])).map cChange)), (112, .var ((cScope b.scopes[i]).map C.d)), (16, .var ((cLaw a).map C.d)), (24, .var ((cLaw b).map C.d))]⟩) (fun k => b.scopes[i].rules.length - k) 0 (Nat.zero_le _) ?_ (fun k k2 => ?_)
          · refine Le.sub rfl ⟨⟨⟨rfl, rfl⟩, rfl, rfl⟩, ⟨⟨rfl, rfl⟩, rfl, rfl⟩, ⟨rfl, rfl⟩, rfl, rfl, rfl, ⟨⟨rfl, rfl⟩, rfl, rfl⟩, rfl, ?_, rfl⟩ ⟨⟨⟨rfl, rfl⟩, ?_⟩, ⟨rfl, rfl, rfl, rfl, rfl⟩, ⟨rfl, rfl, rfl⟩, ⟨rfl, rfl, rfl⟩, trivial⟩
            · show D.int _ _ = D.int _ _
              simp
            · simp
          · conv => whnf
            refine condP_intro (fun q2 => ?_) (fun q2 => ?_)
            · have hk : k < b.scopes[i].rules.length := by simpa using q2
              have hl2 := in_take_len (f := ch2 a b.scopes[i]) (fun r => ch2_len a _ r) b.scopes[i].rules k
              have happ : ((((a.scopes.flatMap fun (s : MScope) => s.rules.flatMap (ch1 b s)) ++ (b.scopes.take i).flatMap fun (s : MScope) => s.rules.flatMap (ch2 a s)) ++ (b.scopes[i].rules.take k).flatMap (ch2 a b.scopes[i])).map cChange).length ≤ 400000 := by
                rw [List.length_map, List.length_append, List.length_append]; omega
              have hinc : D.int .i64 (IntKind.i64.wrap ((k : Int) + 1)) = D.int .i64 ((k + 1 : Nat) : Int) := inc64 hk (by omega)
              conv => whnf
              refine ⟨_, ⟨Int.natCast_nonneg _, cget hk⟩, ?_⟩
              conv => whnf
              cases hc : cpart a b.scopes[i].name b.scopes[i].rules[k].name with
              | none =>
                refine CallK_intro (lp_none hc) (.inl rfl) ?_
                conv => whnf
                refine ⟨⟨by simp only [List.length_singleton]; omega, by simp only [List.length_singleton]; omega⟩, ?_⟩
                conv => whnf
                refine ⟨k + 1, hk, Le.sub rfl ⟨⟨⟨rfl, rfl⟩, rfl, rfl⟩, ⟨⟨rfl, rfl⟩, rfl, rfl⟩, ⟨rfl, rfl⟩, rfl, rfl, rfl, ⟨⟨rfl, rfl⟩, rfl, rfl⟩, rfl, rfl, hinc⟩ ⟨⟨⟨rfl, rfl⟩, row_one hk (c := ⟨b.scopes[i].name, b.scopes[i].rules[k].name, 2⟩) (by simp [ch2, hc]) rfl⟩, ⟨rfl, rfl, rfl, rfl, rfl⟩, ⟨rfl, rfl, rfl⟩, ⟨rfl, rfl, rfl⟩, trivial⟩, by omega⟩
              | some x =>
                obtain ⟨t, n⟩ := x
                obtain ⟨_, hn, _, _⟩ := cpart_some hc
                refine CallK_intro (lp_some hc hn) (.inl rfl) ?_
                conv => whnf
                refine ⟨k + 1, hk, Le.sub rfl ⟨⟨⟨rfl, rfl⟩, rfl, rfl⟩, ⟨⟨rfl, rfl⟩, rfl, rfl⟩, ⟨rfl, rfl⟩, rfl, rfl, rfl, ⟨⟨rfl, rfl⟩, rfl, rfl⟩, rfl, rfl, hinc⟩ ⟨⟨⟨rfl, rfl⟩, row_none hk (by simp [ch2, hc])⟩, ⟨rfl, rfl, rfl, rfl, rfl⟩, ⟨rfl, rfl, rfl⟩, ⟨rfl, rfl, rfl⟩, trivial⟩, by omega⟩
            · conv => whnf
              refine ⟨i + 1, hi, Le.sub rfl ⟨⟨⟨rfl, rfl⟩, rfl, rfl⟩, ⟨⟨rfl, rfl⟩, rfl, rfl⟩, ⟨rfl, rfl⟩, rfl, rfl, inc64 hi (by simpa using hr.2.1.2.2.len)⟩ ⟨⟨⟨rfl, rfl⟩, row_scope hi (by simp at q2; omega)⟩, ⟨rfl, rfl, rfl⟩, ⟨rfl, rfl, rfl⟩, trivial⟩, by omega⟩
        · conv => whnf
          refine And.intro ?_ trivial
          show D.slice 3 _ = D.slice 3 _
          rw [List.take_of_length_le (by simp at q; omega)]
          rfl
end Go.Proofs.Ytllfapkcniadgaa
