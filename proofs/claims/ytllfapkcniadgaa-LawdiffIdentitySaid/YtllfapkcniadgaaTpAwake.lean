/- Contracts: the tiny law, and the examples of the chapter on lawdiff. -/
import Derived.Test.YtllfapkcniadgaaTpLaw3
import Derived.Test.YtllfapkcniadgaaTpDiff4
set_option linter.unusedVariables false
namespace Go.Proofs.Ytllfapkcniadgaa
open Go Go.Ab

set_option maxRecDepth 100000 in
theorem c_TinyLaw (v : List MNode) : Go.Ab.Fn Try.prog 37 [.c (nodes v)] (.s (.agg [.d (enums []), .d (tables []), .vrow 0 5 1]))
    [(0, .var [.d (.str ⟨#[104, 111, 117, 115, 101]⟩), .d (iD (-1)), .d (fields [⟨⟨#[97]⟩, ⟨3, 0⟩⟩]), .d (fields [⟨⟨#[100]⟩, ⟨3, 0⟩⟩]), .own 1 9]), (1, .row 57 9 [cRule ⟨⟨#[98, 97, 115, 101]⟩, 0, -1, 0, ⟨0, 109573⟩, [], v, ByteArray.empty⟩])] := by
  refine Go.Ab.Fn.intro htab hm Try.func37 rfl Try.call37 (by kernel_rfl) 22 Try.ntmps37 rfl (fun hr => ?_)
  conv => whnf
  refine .inr ?_
  conv => whnf
  exact ⟨rfl, rfl, ⟨rfl, rfl, rfl⟩, rfl, rfl, rfl, rfl, ⟨rfl, rfl, rfl, rfl⟩, trivial⟩

def awN : BA := ⟨#[104, 111, 117, 115, 101]⟩
def awH : BA := ⟨#[104, 111, 109, 101]⟩
def awBase (p : Int) : MRule := ⟨⟨#[98, 97, 115, 101]⟩, 0, -1, p, ⟨0, 109573⟩, [], [⟨7, 0⟩], ByteArray.empty⟩
def awExtra : MRule := ⟨⟨#[101, 120, 116, 114, 97]⟩, 0, 0, 0, ⟨0, 0⟩, [], [], ByteArray.empty⟩
def awLaw (n : BA) (l : List MRule) : MLaw := ⟨[], [], [⟨n, -1, [⟨⟨#[97]⟩, ⟨3, 0⟩⟩], [⟨⟨#[100]⟩, ⟨3, 0⟩⟩], l⟩]⟩

set_option maxRecDepth 100000 in
theorem c_awake : Go.Ab.Fn Try.prog 23 [] (resB true) [] := by
  refine Go.Ab.Fn.intro htab hm Try.func23 rfl Try.call23 (by kernel_rfl) 63 Try.ntmps23 rfl (fun hr => ?_)
  conv => whnf
  refine .inr ?_
  conv => whnf
  refine CallK_intro (c_TinyLaw [⟨7, 0⟩]) (.inl rfl) ?_
  conv => whnf
  refine .inr ?_
  conv => whnf
  refine CallK_intro (c_TinyLaw [⟨7, 0⟩]) (.inl rfl) ?_
  conv => whnf
  refine ⟨⟨by decide, by decide⟩, ?_⟩
  conv => whnf
  refine ⟨⟨by decide, by decide⟩, ?_⟩
  conv => whnf
  refine ⟨_, rfl, ?_⟩
  conv => whnf
  refine ⟨⟨by decide, by decide⟩, ?_⟩
  conv => whnf
  refine And.intro ?_ (And.intro ?_ ?_)
  all_goals
    conv => whnf
    refine ⟨⟨by decide, by decide⟩, ?_⟩
    conv => whnf
    refine ⟨⟨by decide, by decide⟩, ?_⟩
    conv => whnf
    refine .inr ?_
    conv => whnf
    refine CallK_intro (c_Changed (awLaw awN [awBase 0]) (awLaw awN [awBase 1, awExtra]) (by decide)) (.inl rfl) ?_
    conv => whnf
    refine .inr ?_
    conv => whnf
    refine CallK_intro (c_TinyLaw [⟨7, 0⟩]) (.inl rfl) ?_
    conv => whnf
    refine ⟨⟨by decide, by decide⟩, ?_⟩
    conv => whnf
    refine .inl ?_
    conv => whnf
    refine CallK_intro (c_same_Changes (chg (awLaw awN [awBase 0]) (awLaw awN [awBase 1, awExtra])) [⟨awN, (awBase 0).name, 3⟩, ⟨awN, awExtra.name, 2⟩]) (.inr ⟨rfl, rfl⟩) ?_
    conv => whnf
    rw [show decide (chg (awLaw awN [awBase 0]) (awLaw awN [awBase 1, awExtra]) = [⟨awN, (awBase 0).name, 3⟩, ⟨awN, awExtra.name, 2⟩]) = true by decide +kernel]
    conv => whnf
    refine CallK_intro (c_SameInterface (awLaw awN [awBase 0]) (awLaw awN [awBase 1, awExtra]) (MidLaw.of_small (by decide +kernel)) (MidLaw.of_small (by decide +kernel))) (.inl rfl) ?_
    rw [show decide (bare (awLaw awN [awBase 0]) = bare (awLaw awN [awBase 1, awExtra])) = true by decide +kernel]
    conv => whnf
    refine .inr ?_
    conv => whnf
    refine CallK_intro (c_SameInterface (awLaw awN [awBase 0]) (awLaw awH [awBase 0]) (MidLaw.of_small (by decide +kernel)) (MidLaw.of_small (by decide +kernel))) (.inl rfl) ?_
    rw [show decide (bare (awLaw awN [awBase 0]) = bare (awLaw awH [awBase 0])) = false by decide +kernel]
    conv => whnf
    conv => whnf
    refine CallK_intro (c_Changed (awLaw awN [awBase 0]) (awLaw awH [awBase 0]) (by decide)) (.inl rfl) ?_
    conv => whnf
    refine And.intro ?_ trivial
    show D.bool (((((chg (awLaw awN [awBase 0]) (awLaw awH [awBase 0])).map cChange).length : Nat) : Int) == 2) = D.bool true
    rw [List.length_map, show (chg (awLaw awN [awBase 0]) (awLaw awH [awBase 0])).length = 2 by decide +kernel]
    rfl
end Go.Proofs.Ytllfapkcniadgaa
