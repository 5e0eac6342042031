/-
  No cell of these rows narrows 'for every input' (looked for: loops, veiled, ifaces, maps, wideKeys, modest, calm, conditions, laid).
  DERIVED. THE GIVEN ROWS OF THIS SEAT. 9 by the template 'for every input the law returns true; each argument reads behind the call as it read before'; 0 by the template 'total and deterministic' (their statements: YtllfapkcniadgaaTotals.lean).
  GIVEN WITH THE SEED: the statements are not yours to turn. If you find one false, say at which input.
  Laid BY PROGRAM, IN A SANDBOX (cutbox-rows.mjs): the forced cells as the released guide's own fill.sh prints them over the translation ce2f614c09c912c1… (all of the seat's roots in one cut). By AI agents, Wed Nov 11 2026. No macro, syntax, notation, axiom, sorry.
-/
import Derived.Test.YtllfapkcniadgaaChecked
import GoSem.Claim
import GoSem.ClaimJoined
import GoSem.ClaimMapViews
import Derived.JoinedTies
import Derived.KernelRfl
namespace Go.Proofs.Ytllfapkcniadgaa
/- THE CELL 'sum', in the pinned program and in every row, IS THE sha256 OF THE DUMP (.gsa) THAT YtllfapkcniadgaaProg.lean LOADS. Nothing in Lean hashes anything: it is a label: what it is worth is what the hold of that sum in a sandbox is worth. -/
noncomputable def Try.pinned : Pinned := { name := "ytllfapkcniadgaa", sum := "ce2f614c09c912c1f9ee813bd6000a6c69642760255aba044f6bfcd69d0c50b8", checked := Try.checked }
namespace Rows
def none {H : Type} : Left H := { results := [], args := [] }

/-- 'guerdonlaw46.OutboxDeliver': WHATEVER THE INPUT: true; the input reads as it did. -/
def outboxDeliverSpec : ChangeSpec := { name := "outboxDeliver", fn := fun _ => fun
  | [d1, d2] => { results := [.lit (.bool true)], args := [d1, d2] }
  | _ => none }
def outboxDeliverRow : OpenClaim := { program := "ytllfapkcniadgaa", sum := "ce2f614c09c912c1f9ee813bd6000a6c69642760255aba044f6bfcd69d0c50b8", func := "guerdon/guerdonlaw46.OutboxDeliver", spec := "outboxDeliver", apart := false }
def OutboxDeliverSaid : Prop := outboxDeliverRow.holds Try.pinned (OpenSpec.ofChange outboxDeliverSpec)

/-- ITS FALSE NEIGHBOUR: 'it returns false'. Refute it at one input. -/
def outboxDeliverWrong : ChangeSpec := { name := "outboxDeliver", fn := fun _ => fun
  | [d1, d2] => { results := [.lit (.bool false)], args := [d1, d2] }
  | _ => none }
def OutboxDeliverWrongFalsely : Prop := outboxDeliverRow.holds Try.pinned (OpenSpec.ofChange outboxDeliverWrong)

/-- 'guerdonlaw46.OutboxSend': WHATEVER THE INPUT: true; the input reads as it did. -/
def outboxSendSpec : ChangeSpec := { name := "outboxSend", fn := fun _ => fun
  | [d1, d2, d3] => { results := [.lit (.bool true)], args := [d1, d2, d3] }
  | _ => none }
def outboxSendRow : OpenClaim := { program := "ytllfapkcniadgaa", sum := "ce2f614c09c912c1f9ee813bd6000a6c69642760255aba044f6bfcd69d0c50b8", func := "guerdon/guerdonlaw46.OutboxSend", spec := "outboxSend", apart := false }
def OutboxSendSaid : Prop := outboxSendRow.holds Try.pinned (OpenSpec.ofChange outboxSendSpec)

/-- ITS FALSE NEIGHBOUR: 'it returns false'. Refute it at one input. -/
def outboxSendWrong : ChangeSpec := { name := "outboxSend", fn := fun _ => fun
  | [d1, d2, d3] => { results := [.lit (.bool false)], args := [d1, d2, d3] }
  | _ => none }
def OutboxSendWrongFalsely : Prop := outboxSendRow.holds Try.pinned (OpenSpec.ofChange outboxSendWrong)

/-- 'guerdonlaw46.OutboxExactlyOnce': WHATEVER THE INPUT: true; the input reads as it did. -/
def outboxExactlyOnceSpec : ChangeSpec := { name := "outboxExactlyOnce", fn := fun _ => fun
  | [d1, d2, d3] => { results := [.lit (.bool true)], args := [d1, d2, d3] }
  | _ => none }
def outboxExactlyOnceRow : OpenClaim := { program := "ytllfapkcniadgaa", sum := "ce2f614c09c912c1f9ee813bd6000a6c69642760255aba044f6bfcd69d0c50b8", func := "guerdon/guerdonlaw46.OutboxExactlyOnce", spec := "outboxExactlyOnce", apart := false }
def OutboxExactlyOnceSaid : Prop := outboxExactlyOnceRow.holds Try.pinned (OpenSpec.ofChange outboxExactlyOnceSpec)

/-- ITS FALSE NEIGHBOUR: 'it returns false'. Refute it at one input. -/
def outboxExactlyOnceWrong : ChangeSpec := { name := "outboxExactlyOnce", fn := fun _ => fun
  | [d1, d2, d3] => { results := [.lit (.bool false)], args := [d1, d2, d3] }
  | _ => none }
def OutboxExactlyOnceWrongFalsely : Prop := outboxExactlyOnceRow.holds Try.pinned (OpenSpec.ofChange outboxExactlyOnceWrong)

/-- 'guerdonlaw46.OutboxCompletes': WHATEVER THE INPUT: true; the input reads as it did. -/
def outboxCompletesSpec : ChangeSpec := { name := "outboxCompletes", fn := fun _ => fun
  | [d1, d2, d3] => { results := [.lit (.bool true)], args := [d1, d2, d3] }
  | _ => none }
def outboxCompletesRow : OpenClaim := { program := "ytllfapkcniadgaa", sum := "ce2f614c09c912c1f9ee813bd6000a6c69642760255aba044f6bfcd69d0c50b8", func := "guerdon/guerdonlaw46.OutboxCompletes", spec := "outboxCompletes", apart := false }
def OutboxCompletesSaid : Prop := outboxCompletesRow.holds Try.pinned (OpenSpec.ofChange outboxCompletesSpec)

/-- ITS FALSE NEIGHBOUR: 'it returns false'. Refute it at one input. -/
def outboxCompletesWrong : ChangeSpec := { name := "outboxCompletes", fn := fun _ => fun
  | [d1, d2, d3] => { results := [.lit (.bool false)], args := [d1, d2, d3] }
  | _ => none }
def OutboxCompletesWrongFalsely : Prop := outboxCompletesRow.holds Try.pinned (OpenSpec.ofChange outboxCompletesWrong)

/-- 'guerdonlaw51.LawdiffRules': WHATEVER THE INPUT: true; the input reads as it did. -/
def lawdiffRulesSpec : ChangeSpec := { name := "lawdiffRules", fn := fun _ => fun
  | [d1, d2] => { results := [.lit (.bool true)], args := [d1, d2] }
  | _ => none }
def lawdiffRulesRow : OpenClaim := { program := "ytllfapkcniadgaa", sum := "ce2f614c09c912c1f9ee813bd6000a6c69642760255aba044f6bfcd69d0c50b8", func := "guerdon/guerdonlaw51.LawdiffRules", spec := "lawdiffRules", unfollowed := true, recurses := true, apart := false }
def LawdiffRulesSaid : Prop := lawdiffRulesRow.holds Try.pinned (OpenSpec.ofChange lawdiffRulesSpec)

/-- ITS FALSE NEIGHBOUR: 'it returns false'. Refute it at one input. -/
def lawdiffRulesWrong : ChangeSpec := { name := "lawdiffRules", fn := fun _ => fun
  | [d1, d2] => { results := [.lit (.bool false)], args := [d1, d2] }
  | _ => none }
def LawdiffRulesWrongFalsely : Prop := lawdiffRulesRow.holds Try.pinned (OpenSpec.ofChange lawdiffRulesWrong)

/-- 'guerdonlaw51.LawdiffInterface': WHATEVER THE INPUT: true; the input reads as it did. -/
def lawdiffInterfaceSpec : ChangeSpec := { name := "lawdiffInterface", fn := fun _ => fun
  | [d1, d2] => { results := [.lit (.bool true)], args := [d1, d2] }
  | _ => none }
def lawdiffInterfaceRow : OpenClaim := { program := "ytllfapkcniadgaa", sum := "ce2f614c09c912c1f9ee813bd6000a6c69642760255aba044f6bfcd69d0c50b8", func := "guerdon/guerdonlaw51.LawdiffInterface", spec := "lawdiffInterface", unfollowed := true, recurses := true, apart := false }
def LawdiffInterfaceSaid : Prop := lawdiffInterfaceRow.holds Try.pinned (OpenSpec.ofChange lawdiffInterfaceSpec)

/-- ITS FALSE NEIGHBOUR: 'it returns false'. Refute it at one input. -/
def lawdiffInterfaceWrong : ChangeSpec := { name := "lawdiffInterface", fn := fun _ => fun
  | [d1, d2] => { results := [.lit (.bool false)], args := [d1, d2] }
  | _ => none }
def LawdiffInterfaceWrongFalsely : Prop := lawdiffInterfaceRow.holds Try.pinned (OpenSpec.ofChange lawdiffInterfaceWrong)

/-- 'guerdonlaw51.LawdiffIdentity': WHATEVER THE INPUT: true; the input reads as it did. -/
def lawdiffIdentitySpec : ChangeSpec := { name := "lawdiffIdentity", fn := fun _ => fun
  | [d1, d2] => { results := [.lit (.bool true)], args := [d1, d2] }
  | _ => none }
def lawdiffIdentityRow : OpenClaim := { program := "ytllfapkcniadgaa", sum := "ce2f614c09c912c1f9ee813bd6000a6c69642760255aba044f6bfcd69d0c50b8", func := "guerdon/guerdonlaw51.LawdiffIdentity", spec := "lawdiffIdentity", unfollowed := true, recurses := true, apart := false }
def LawdiffIdentitySaid : Prop := lawdiffIdentityRow.holds Try.pinned (OpenSpec.ofChange lawdiffIdentitySpec)

/-- ITS FALSE NEIGHBOUR: 'it returns false'. Refute it at one input. -/
def lawdiffIdentityWrong : ChangeSpec := { name := "lawdiffIdentity", fn := fun _ => fun
  | [d1, d2] => { results := [.lit (.bool false)], args := [d1, d2] }
  | _ => none }
def LawdiffIdentityWrongFalsely : Prop := lawdiffIdentityRow.holds Try.pinned (OpenSpec.ofChange lawdiffIdentityWrong)

/-- 'guerdonlaw51.LawdiffSymmetry': WHATEVER THE INPUT: true; the input reads as it did. -/
def lawdiffSymmetrySpec : ChangeSpec := { name := "lawdiffSymmetry", fn := fun _ => fun
  | [d1, d2] => { results := [.lit (.bool true)], args := [d1, d2] }
  | _ => none }
def lawdiffSymmetryRow : OpenClaim := { program := "ytllfapkcniadgaa", sum := "ce2f614c09c912c1f9ee813bd6000a6c69642760255aba044f6bfcd69d0c50b8", func := "guerdon/guerdonlaw51.LawdiffSymmetry", spec := "lawdiffSymmetry", unfollowed := true, recurses := true, apart := false }
def LawdiffSymmetrySaid : Prop := lawdiffSymmetryRow.holds Try.pinned (OpenSpec.ofChange lawdiffSymmetrySpec)

/-- ITS FALSE NEIGHBOUR: 'it returns false'. Refute it at one input. -/
def lawdiffSymmetryWrong : ChangeSpec := { name := "lawdiffSymmetry", fn := fun _ => fun
  | [d1, d2] => { results := [.lit (.bool false)], args := [d1, d2] }
  | _ => none }
def LawdiffSymmetryWrongFalsely : Prop := lawdiffSymmetryRow.holds Try.pinned (OpenSpec.ofChange lawdiffSymmetryWrong)

/-- 'guerdonlaw51.LawdiffOneRule': WHATEVER THE INPUT: true; the input reads as it did. -/
def lawdiffOneRuleSpec : ChangeSpec := { name := "lawdiffOneRule", fn := fun _ => fun
  | [d1, d2, d3, d4] => { results := [.lit (.bool true)], args := [d1, d2, d3, d4] }
  | _ => none }
def lawdiffOneRuleRow : OpenClaim := { program := "ytllfapkcniadgaa", sum := "ce2f614c09c912c1f9ee813bd6000a6c69642760255aba044f6bfcd69d0c50b8", func := "guerdon/guerdonlaw51.LawdiffOneRule", spec := "lawdiffOneRule", unfollowed := true, recurses := true, apart := false }
def LawdiffOneRuleSaid : Prop := lawdiffOneRuleRow.holds Try.pinned (OpenSpec.ofChange lawdiffOneRuleSpec)

/-- ITS FALSE NEIGHBOUR: 'it returns false'. Refute it at one input. -/
def lawdiffOneRuleWrong : ChangeSpec := { name := "lawdiffOneRule", fn := fun _ => fun
  | [d1, d2, d3, d4] => { results := [.lit (.bool false)], args := [d1, d2, d3, d4] }
  | _ => none }
def LawdiffOneRuleWrongFalsely : Prop := lawdiffOneRuleRow.holds Try.pinned (OpenSpec.ofChange lawdiffOneRuleWrong)

/- THE SECOND FORM. 'bulk': how many values and letters a reading holds, each counted each time it is reached (what is shared counts as often as it is met; a slice's spare places count too). A statement '..UptoSaid' is the law's where the arguments, and the package variables that the reading takes, are together of bulk at most 1048576: NARROWER than '..Said'. Prove '..Said' where nothing that the law and all that it calls make is longer than what came in: it says more and counts as full. Else prove '..UptoSaid'. A law counts once. -/
mutual
def uptoBulk {H : Type} : DataW H → Nat
  | .lit (.string bytes) => bytes.length + 1
  | .lit _ => 1
  | .nil => 1
  | .ptr d => uptoBulk d + 1
  | .slice elems spare => uptoBulkAll elems + uptoBulkAll spare + 1
  | .agg parts => uptoBulkAll parts + 1
  | .iface _ d => uptoBulk d + 1
  | .map entries => uptoBulkEntries entries + 1
  | .held _ => 1
def uptoBulkAll {H : Type} : List (DataW H) → Nat
  | [] => 0
  | d :: r => uptoBulk d + uptoBulkAll r
def uptoBulkEntries {H : Type} : List (Lit × DataW H) → Nat
  | [] => 0
  | x :: r => uptoBulkEntry x + uptoBulkEntries r
def uptoBulkEntry {H : Type} : Lit × DataW H → Nat
  | (.string bytes, d) => bytes.length + uptoBulk d + 1
  | (_, d) => uptoBulk d + 1
 end
def uptoSmall : (H : Type) → List (DataW H) → Bool := fun _ ds => decide (uptoBulkAll ds ≤ 1048576)
def OpenSpec.upto (s : _root_.Go.ChangeSpec) : _root_.Go.OpenSpec := { _root_.Go.OpenSpec.ofChange s with cond := some uptoSmall }

/-- 'guerdonlaw46.OutboxDeliver', WHERE WHAT IT READS IS OF BULK AT MOST 1048576: true; the input reads as it did. -/
def outboxDeliverUptoRow : OpenClaim := { program := "ytllfapkcniadgaa", sum := "ce2f614c09c912c1f9ee813bd6000a6c69642760255aba044f6bfcd69d0c50b8", func := "guerdon/guerdonlaw46.OutboxDeliver", spec := "outboxDeliver", apart := false, narrowed := true }
def OutboxDeliverUptoSaid : Prop := outboxDeliverUptoRow.holds Try.pinned (OpenSpec.upto outboxDeliverSpec)

/-- 'guerdonlaw46.OutboxSend', WHERE WHAT IT READS IS OF BULK AT MOST 1048576: true; the input reads as it did. -/
def outboxSendUptoRow : OpenClaim := { program := "ytllfapkcniadgaa", sum := "ce2f614c09c912c1f9ee813bd6000a6c69642760255aba044f6bfcd69d0c50b8", func := "guerdon/guerdonlaw46.OutboxSend", spec := "outboxSend", apart := false, narrowed := true }
def OutboxSendUptoSaid : Prop := outboxSendUptoRow.holds Try.pinned (OpenSpec.upto outboxSendSpec)

/-- 'guerdonlaw46.OutboxExactlyOnce', WHERE WHAT IT READS IS OF BULK AT MOST 1048576: true; the input reads as it did. -/
def outboxExactlyOnceUptoRow : OpenClaim := { program := "ytllfapkcniadgaa", sum := "ce2f614c09c912c1f9ee813bd6000a6c69642760255aba044f6bfcd69d0c50b8", func := "guerdon/guerdonlaw46.OutboxExactlyOnce", spec := "outboxExactlyOnce", apart := false, narrowed := true }
def OutboxExactlyOnceUptoSaid : Prop := outboxExactlyOnceUptoRow.holds Try.pinned (OpenSpec.upto outboxExactlyOnceSpec)

/-- 'guerdonlaw46.OutboxCompletes', WHERE WHAT IT READS IS OF BULK AT MOST 1048576: true; the input reads as it did. -/
def outboxCompletesUptoRow : OpenClaim := { program := "ytllfapkcniadgaa", sum := "ce2f614c09c912c1f9ee813bd6000a6c69642760255aba044f6bfcd69d0c50b8", func := "guerdon/guerdonlaw46.OutboxCompletes", spec := "outboxCompletes", apart := false, narrowed := true }
def OutboxCompletesUptoSaid : Prop := outboxCompletesUptoRow.holds Try.pinned (OpenSpec.upto outboxCompletesSpec)

/-- 'guerdonlaw51.LawdiffRules', WHERE WHAT IT READS IS OF BULK AT MOST 1048576: true; the input reads as it did. -/
def lawdiffRulesUptoRow : OpenClaim := { program := "ytllfapkcniadgaa", sum := "ce2f614c09c912c1f9ee813bd6000a6c69642760255aba044f6bfcd69d0c50b8", func := "guerdon/guerdonlaw51.LawdiffRules", spec := "lawdiffRules", unfollowed := true, recurses := true, apart := false, narrowed := true }
def LawdiffRulesUptoSaid : Prop := lawdiffRulesUptoRow.holds Try.pinned (OpenSpec.upto lawdiffRulesSpec)

/-- 'guerdonlaw51.LawdiffInterface', WHERE WHAT IT READS IS OF BULK AT MOST 1048576: true; the input reads as it did. -/
def lawdiffInterfaceUptoRow : OpenClaim := { program := "ytllfapkcniadgaa", sum := "ce2f614c09c912c1f9ee813bd6000a6c69642760255aba044f6bfcd69d0c50b8", func := "guerdon/guerdonlaw51.LawdiffInterface", spec := "lawdiffInterface", unfollowed := true, recurses := true, apart := false, narrowed := true }
def LawdiffInterfaceUptoSaid : Prop := lawdiffInterfaceUptoRow.holds Try.pinned (OpenSpec.upto lawdiffInterfaceSpec)

/-- 'guerdonlaw51.LawdiffIdentity', WHERE WHAT IT READS IS OF BULK AT MOST 1048576: true; the input reads as it did. -/
def lawdiffIdentityUptoRow : OpenClaim := { program := "ytllfapkcniadgaa", sum := "ce2f614c09c912c1f9ee813bd6000a6c69642760255aba044f6bfcd69d0c50b8", func := "guerdon/guerdonlaw51.LawdiffIdentity", spec := "lawdiffIdentity", unfollowed := true, recurses := true, apart := false, narrowed := true }
def LawdiffIdentityUptoSaid : Prop := lawdiffIdentityUptoRow.holds Try.pinned (OpenSpec.upto lawdiffIdentitySpec)

/-- 'guerdonlaw51.LawdiffSymmetry', WHERE WHAT IT READS IS OF BULK AT MOST 1048576: true; the input reads as it did. -/
def lawdiffSymmetryUptoRow : OpenClaim := { program := "ytllfapkcniadgaa", sum := "ce2f614c09c912c1f9ee813bd6000a6c69642760255aba044f6bfcd69d0c50b8", func := "guerdon/guerdonlaw51.LawdiffSymmetry", spec := "lawdiffSymmetry", unfollowed := true, recurses := true, apart := false, narrowed := true }
def LawdiffSymmetryUptoSaid : Prop := lawdiffSymmetryUptoRow.holds Try.pinned (OpenSpec.upto lawdiffSymmetrySpec)

/-- 'guerdonlaw51.LawdiffOneRule', WHERE WHAT IT READS IS OF BULK AT MOST 1048576: true; the input reads as it did. -/
def lawdiffOneRuleUptoRow : OpenClaim := { program := "ytllfapkcniadgaa", sum := "ce2f614c09c912c1f9ee813bd6000a6c69642760255aba044f6bfcd69d0c50b8", func := "guerdon/guerdonlaw51.LawdiffOneRule", spec := "lawdiffOneRule", unfollowed := true, recurses := true, apart := false, narrowed := true }
def LawdiffOneRuleUptoSaid : Prop := lawdiffOneRuleUptoRow.holds Try.pinned (OpenSpec.upto lawdiffOneRuleSpec)

end Rows
end Go.Proofs.Ytllfapkcniadgaa
