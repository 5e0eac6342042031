/-
  No cell of these rows narrows 'for every input' (looked for: loops, veiled, ifaces, maps, wideKeys, modest, calm, conditions, laid).
  DERIVED. THE GIVEN ROWS OF THIS SEAT. 7 by the template 'for every input the law returns true; each argument reads behind the call as it read before'; 0 by the template 'total and deterministic' (their statements: YtffnbobdkpebgaaGreatTotals.lean).
  GIVEN WITH THE SEED: the statements are not yours to turn. If you find one false, say at which input.
  Laid BY PROGRAM, IN A SANDBOX (cutbox-rows.mjs): the forced cells as the released guide's own fill.sh prints them over the translation c4ce7e428f472e9a… (all of the seat's roots in one cut). By AI agents, Wed Nov 11 2026. No macro, syntax, notation, axiom, sorry.
-/
import Derived.Test.YtffnbobdkpebgaaGreatChecked
import GoSem.Claim
import GoSem.ClaimJoined
import GoSem.ClaimMapViews
import Derived.JoinedTies
import Derived.KernelRfl
namespace Go.Proofs.YtffnbobdkpebgaaGreat
/- THE CELL 'sum', in the pinned program and in every row, IS THE sha256 OF THE DUMP (.gsa) THAT YtffnbobdkpebgaaGreatProg.lean LOADS. Nothing in Lean hashes anything: it is a label: what it is worth is what the hold of that sum in a sandbox is worth. -/
noncomputable def Tryz.pinned : Pinned := { name := "ytffnbobdkpebgaagreat", sum := "c4ce7e428f472e9a988d7ad1b2e7f4f874cb5e905ee92f30bceb2f49896445ad", checked := Tryz.checked }
namespace Rows
def none {H : Type} : Left H := { results := [], args := [] }

/-- 'guerdonlaw52.ImpactIsChanged': WHATEVER THE INPUT: true; the input reads as it did. -/
def impactIsChangedSpec : ChangeSpec := { name := "impactIsChanged", fn := fun _ => fun
  | [d] => { results := [.lit (.bool true)], args := [d] }
  | _ => none }
def impactIsChangedRow : OpenClaim := { program := "ytffnbobdkpebgaagreat", sum := "c4ce7e428f472e9a988d7ad1b2e7f4f874cb5e905ee92f30bceb2f49896445ad", func := "guerdon/guerdonlaw52.ImpactIsChanged", spec := "impactIsChanged", inPlace := ["internal/bytealg.IndexByteString", "internal/bytealg.IndexString"], unfollowed := true, recurses := true, named := ["internal/bytealg.MaxLen", "math/bits.divideError", "math/bits.overflowError"], apart := false }
def ImpactIsChangedSaid : Prop := impactIsChangedRow.holds Tryz.pinned (OpenSpec.ofChange impactIsChangedSpec)

/-- ITS FALSE NEIGHBOUR: 'it returns false'. Refute it at one input. -/
def impactIsChangedWrong : ChangeSpec := { name := "impactIsChanged", fn := fun _ => fun
  | [d] => { results := [.lit (.bool false)], args := [d] }
  | _ => none }
def ImpactIsChangedWrongFalsely : Prop := impactIsChangedRow.holds Tryz.pinned (OpenSpec.ofChange impactIsChangedWrong)

/-- 'guerdonlaw52.ImpactSelf': WHATEVER THE INPUT: true; the input reads as it did. -/
def impactSelfSpec : ChangeSpec := { name := "impactSelf", fn := fun _ => fun
  | [d1, d2, d3, d4] => { results := [.lit (.bool true)], args := [d1, d2, d3, d4] }
  | _ => none }
def impactSelfRow : OpenClaim := { program := "ytffnbobdkpebgaagreat", sum := "c4ce7e428f472e9a988d7ad1b2e7f4f874cb5e905ee92f30bceb2f49896445ad", func := "guerdon/guerdonlaw52.ImpactSelf", spec := "impactSelf", inPlace := ["internal/bytealg.IndexByteString", "internal/bytealg.IndexString"], unfollowed := true, recurses := true, named := ["internal/bytealg.MaxLen", "math/bits.divideError", "math/bits.overflowError"], apart := false }
def ImpactSelfSaid : Prop := impactSelfRow.holds Tryz.pinned (OpenSpec.ofChange impactSelfSpec)

/-- ITS FALSE NEIGHBOUR: 'it returns false'. Refute it at one input. -/
def impactSelfWrong : ChangeSpec := { name := "impactSelf", fn := fun _ => fun
  | [d1, d2, d3, d4] => { results := [.lit (.bool false)], args := [d1, d2, d3, d4] }
  | _ => none }
def ImpactSelfWrongFalsely : Prop := impactSelfRow.holds Tryz.pinned (OpenSpec.ofChange impactSelfWrong)

/-- 'guerdonlaw52.ImpactSymmetric': WHATEVER THE INPUT: true; the input reads as it did. -/
def impactSymmetricSpec : ChangeSpec := { name := "impactSymmetric", fn := fun _ => fun
  | [d1, d2, d3, d4] => { results := [.lit (.bool true)], args := [d1, d2, d3, d4] }
  | _ => none }
def impactSymmetricRow : OpenClaim := { program := "ytffnbobdkpebgaagreat", sum := "c4ce7e428f472e9a988d7ad1b2e7f4f874cb5e905ee92f30bceb2f49896445ad", func := "guerdon/guerdonlaw52.ImpactSymmetric", spec := "impactSymmetric", inPlace := ["internal/bytealg.IndexByteString", "internal/bytealg.IndexString"], unfollowed := true, recurses := true, named := ["internal/bytealg.MaxLen", "math/bits.divideError", "math/bits.overflowError"], apart := false }
def ImpactSymmetricSaid : Prop := impactSymmetricRow.holds Tryz.pinned (OpenSpec.ofChange impactSymmetricSpec)

/-- ITS FALSE NEIGHBOUR: 'it returns false'. Refute it at one input. -/
def impactSymmetricWrong : ChangeSpec := { name := "impactSymmetric", fn := fun _ => fun
  | [d1, d2, d3, d4] => { results := [.lit (.bool false)], args := [d1, d2, d3, d4] }
  | _ => none }
def ImpactSymmetricWrongFalsely : Prop := impactSymmetricRow.holds Tryz.pinned (OpenSpec.ofChange impactSymmetricWrong)

/-- 'guerdonlaw60.MarginalCliffs': WHATEVER THE INPUT: true; the input reads as it did. -/
def marginalCliffsSpec : ChangeSpec := { name := "marginalCliffs", fn := fun _ => fun
  | [d1, d2, d3, d4] => { results := [.lit (.bool true)], args := [d1, d2, d3, d4] }
  | _ => none }
def marginalCliffsRow : OpenClaim := { program := "ytffnbobdkpebgaagreat", sum := "c4ce7e428f472e9a988d7ad1b2e7f4f874cb5e905ee92f30bceb2f49896445ad", func := "guerdon/guerdonlaw60.MarginalCliffs", spec := "marginalCliffs", inPlace := ["internal/bytealg.IndexByteString", "internal/bytealg.IndexString"], unfollowed := true, recurses := true, named := ["internal/bytealg.MaxLen", "math/bits.divideError", "math/bits.overflowError"], apart := false }
def MarginalCliffsSaid : Prop := marginalCliffsRow.holds Tryz.pinned (OpenSpec.ofChange marginalCliffsSpec)

/-- ITS FALSE NEIGHBOUR: 'it returns false'. Refute it at one input. -/
def marginalCliffsWrong : ChangeSpec := { name := "marginalCliffs", fn := fun _ => fun
  | [d1, d2, d3, d4] => { results := [.lit (.bool false)], args := [d1, d2, d3, d4] }
  | _ => none }
def MarginalCliffsWrongFalsely : Prop := marginalCliffsRow.holds Tryz.pinned (OpenSpec.ofChange marginalCliffsWrong)

/-- 'guerdonlaw20.InterpSelectedRule': WHATEVER THE INPUT: true; the input reads as it did. -/
def interpSelectedRuleSpec : ChangeSpec := { name := "interpSelectedRule", fn := fun _ => fun
  | [d1, d2, d3] => { results := [.lit (.bool true)], args := [d1, d2, d3] }
  | _ => none }
def interpSelectedRuleRow : OpenClaim := { program := "ytffnbobdkpebgaagreat", sum := "c4ce7e428f472e9a988d7ad1b2e7f4f874cb5e905ee92f30bceb2f49896445ad", func := "guerdon/guerdonlaw20.InterpSelectedRule", spec := "interpSelectedRule", inPlace := ["internal/bytealg.IndexByteString", "internal/bytealg.IndexString"], unfollowed := true, recurses := true, named := ["internal/bytealg.MaxLen", "math/bits.divideError", "math/bits.overflowError"], apart := false }
def InterpSelectedRuleSaid : Prop := interpSelectedRuleRow.holds Tryz.pinned (OpenSpec.ofChange interpSelectedRuleSpec)

/-- ITS FALSE NEIGHBOUR: 'it returns false'. Refute it at one input. -/
def interpSelectedRuleWrong : ChangeSpec := { name := "interpSelectedRule", fn := fun _ => fun
  | [d1, d2, d3] => { results := [.lit (.bool false)], args := [d1, d2, d3] }
  | _ => none }
def InterpSelectedRuleWrongFalsely : Prop := interpSelectedRuleRow.holds Tryz.pinned (OpenSpec.ofChange interpSelectedRuleWrong)

/-- 'guerdonlaw20.InterpDefAgrees': WHATEVER THE INPUT: true; the input reads as it did. -/
def interpDefAgreesSpec : ChangeSpec := { name := "interpDefAgrees", fn := fun _ => fun
  | [d1, d2, d3, d4] => { results := [.lit (.bool true)], args := [d1, d2, d3, d4] }
  | _ => none }
def interpDefAgreesRow : OpenClaim := { program := "ytffnbobdkpebgaagreat", sum := "c4ce7e428f472e9a988d7ad1b2e7f4f874cb5e905ee92f30bceb2f49896445ad", func := "guerdon/guerdonlaw20.InterpDefAgrees", spec := "interpDefAgrees", inPlace := ["internal/bytealg.IndexByteString", "internal/bytealg.IndexString"], unfollowed := true, recurses := true, named := ["internal/bytealg.MaxLen", "math/bits.divideError", "math/bits.overflowError"], apart := false }
def InterpDefAgreesSaid : Prop := interpDefAgreesRow.holds Tryz.pinned (OpenSpec.ofChange interpDefAgreesSpec)

/-- ITS FALSE NEIGHBOUR: 'it returns false'. Refute it at one input. -/
def interpDefAgreesWrong : ChangeSpec := { name := "interpDefAgrees", fn := fun _ => fun
  | [d1, d2, d3, d4] => { results := [.lit (.bool false)], args := [d1, d2, d3, d4] }
  | _ => none }
def InterpDefAgreesWrongFalsely : Prop := interpDefAgreesRow.holds Tryz.pinned (OpenSpec.ofChange interpDefAgreesWrong)

/-- 'guerdonlaw20.InterpTypeSound': WHATEVER THE INPUT: true; the input reads as it did. -/
def interpTypeSoundSpec : ChangeSpec := { name := "interpTypeSound", fn := fun _ => fun
  | [d1, d2, d3] => { results := [.lit (.bool true)], args := [d1, d2, d3] }
  | _ => none }
def interpTypeSoundRow : OpenClaim := { program := "ytffnbobdkpebgaagreat", sum := "c4ce7e428f472e9a988d7ad1b2e7f4f874cb5e905ee92f30bceb2f49896445ad", func := "guerdon/guerdonlaw20.InterpTypeSound", spec := "interpTypeSound", inPlace := ["internal/bytealg.IndexByteString", "internal/bytealg.IndexString"], unfollowed := true, recurses := true, named := ["internal/bytealg.MaxLen", "math/bits.divideError", "math/bits.overflowError"], apart := false }
def InterpTypeSoundSaid : Prop := interpTypeSoundRow.holds Tryz.pinned (OpenSpec.ofChange interpTypeSoundSpec)

/-- ITS FALSE NEIGHBOUR: 'it returns false'. Refute it at one input. -/
def interpTypeSoundWrong : ChangeSpec := { name := "interpTypeSound", fn := fun _ => fun
  | [d1, d2, d3] => { results := [.lit (.bool false)], args := [d1, d2, d3] }
  | _ => none }
def InterpTypeSoundWrongFalsely : Prop := interpTypeSoundRow.holds Tryz.pinned (OpenSpec.ofChange interpTypeSoundWrong)

/- THE SECOND FORM. 'bulk': how many values and letters a reading holds, each counted each time it is reached (what is shared counts as often as it is met; a slice's spare places count too). A statement '..UptoSaid' is the law's where the arguments, and the package variables that the reading takes, are together of bulk at most 1048576: NARROWER than '..Said'. Prove '..Said' where nothing that the law and all that it calls make is longer than what came in: it says more and counts as full. Else prove '..UptoSaid'. A law counts once. -/
mutual
def uptoBulk {H : Type} : DataW H → Nat
  | .lit (.string bytes) => bytes.length + 1
  | .lit _ => 1
  | .nil => 1
  | .ptr d => uptoBulk d + 1
  | .slice elems spare => uptoBulkAll elems + uptoBulkAll spare + 1
  | .agg parts => uptoBulkAll parts + 1
  | .iface _ d => uptoBulk d + 1
  | .map entries => uptoBulkEntries entries + 1
  | .held _ => 1
def uptoBulkAll {H : Type} : List (DataW H) → Nat
  | [] => 0
  | d :: r => uptoBulk d + uptoBulkAll r
def uptoBulkEntries {H : Type} : List (Lit × DataW H) → Nat
  | [] => 0
  | x :: r => uptoBulkEntry x + uptoBulkEntries r
def uptoBulkEntry {H : Type} : Lit × DataW H → Nat
  | (.string bytes, d) => bytes.length + uptoBulk d + 1
  | (_, d) => uptoBulk d + 1
 end
def uptoSmall : (H : Type) → List (DataW H) → Bool := fun _ ds => decide (uptoBulkAll ds ≤ 1048576)
def OpenSpec.upto (s : _root_.Go.ChangeSpec) : _root_.Go.OpenSpec := { _root_.Go.OpenSpec.ofChange s with cond := some uptoSmall }

/-- 'guerdonlaw52.ImpactIsChanged', WHERE WHAT IT READS IS OF BULK AT MOST 1048576: true; the input reads as it did. -/
def impactIsChangedUptoRow : OpenClaim := { program := "ytffnbobdkpebgaagreat", sum := "c4ce7e428f472e9a988d7ad1b2e7f4f874cb5e905ee92f30bceb2f49896445ad", func := "guerdon/guerdonlaw52.ImpactIsChanged", spec := "impactIsChanged", inPlace := ["internal/bytealg.IndexByteString", "internal/bytealg.IndexString"], unfollowed := true, recurses := true, named := ["internal/bytealg.MaxLen", "math/bits.divideError", "math/bits.overflowError"], apart := false, narrowed := true }
def ImpactIsChangedUptoSaid : Prop := impactIsChangedUptoRow.holds Tryz.pinned (OpenSpec.upto impactIsChangedSpec)

/-- 'guerdonlaw52.ImpactSelf', WHERE WHAT IT READS IS OF BULK AT MOST 1048576: true; the input reads as it did. -/
def impactSelfUptoRow : OpenClaim := { program := "ytffnbobdkpebgaagreat", sum := "c4ce7e428f472e9a988d7ad1b2e7f4f874cb5e905ee92f30bceb2f49896445ad", func := "guerdon/guerdonlaw52.ImpactSelf", spec := "impactSelf", inPlace := ["internal/bytealg.IndexByteString", "internal/bytealg.IndexString"], unfollowed := true, recurses := true, named := ["internal/bytealg.MaxLen", "math/bits.divideError", "math/bits.overflowError"], apart := false, narrowed := true }
def ImpactSelfUptoSaid : Prop := impactSelfUptoRow.holds Tryz.pinned (OpenSpec.upto impactSelfSpec)

/-- 'guerdonlaw52.ImpactSymmetric', WHERE WHAT IT READS IS OF BULK AT MOST 1048576: true; the input reads as it did. -/
def impactSymmetricUptoRow : OpenClaim := { program := "ytffnbobdkpebgaagreat", sum := "c4ce7e428f472e9a988d7ad1b2e7f4f874cb5e905ee92f30bceb2f49896445ad", func := "guerdon/guerdonlaw52.ImpactSymmetric", spec := "impactSymmetric", inPlace := ["internal/bytealg.IndexByteString", "internal/bytealg.IndexString"], unfollowed := true, recurses := true, named := ["internal/bytealg.MaxLen", "math/bits.divideError", "math/bits.overflowError"], apart := false, narrowed := true }
def ImpactSymmetricUptoSaid : Prop := impactSymmetricUptoRow.holds Tryz.pinned (OpenSpec.upto impactSymmetricSpec)

/-- 'guerdonlaw60.MarginalCliffs', WHERE WHAT IT READS IS OF BULK AT MOST 1048576: true; the input reads as it did. -/
def marginalCliffsUptoRow : OpenClaim := { program := "ytffnbobdkpebgaagreat", sum := "c4ce7e428f472e9a988d7ad1b2e7f4f874cb5e905ee92f30bceb2f49896445ad", func := "guerdon/guerdonlaw60.MarginalCliffs", spec := "marginalCliffs", inPlace := ["internal/bytealg.IndexByteString", "internal/bytealg.IndexString"], unfollowed := true, recurses := true, named := ["internal/bytealg.MaxLen", "math/bits.divideError", "math/bits.overflowError"], apart := false, narrowed := true }
def MarginalCliffsUptoSaid : Prop := marginalCliffsUptoRow.holds Tryz.pinned (OpenSpec.upto marginalCliffsSpec)

/-- 'guerdonlaw20.InterpSelectedRule', WHERE WHAT IT READS IS OF BULK AT MOST 1048576: true; the input reads as it did. -/
def interpSelectedRuleUptoRow : OpenClaim := { program := "ytffnbobdkpebgaagreat", sum := "c4ce7e428f472e9a988d7ad1b2e7f4f874cb5e905ee92f30bceb2f49896445ad", func := "guerdon/guerdonlaw20.InterpSelectedRule", spec := "interpSelectedRule", inPlace := ["internal/bytealg.IndexByteString", "internal/bytealg.IndexString"], unfollowed := true, recurses := true, named := ["internal/bytealg.MaxLen", "math/bits.divideError", "math/bits.overflowError"], apart := false, narrowed := true }
def InterpSelectedRuleUptoSaid : Prop := interpSelectedRuleUptoRow.holds Tryz.pinned (OpenSpec.upto interpSelectedRuleSpec)

/-- 'guerdonlaw20.InterpDefAgrees', WHERE WHAT IT READS IS OF BULK AT MOST 1048576: true; the input reads as it did. -/
def interpDefAgreesUptoRow : OpenClaim := { program := "ytffnbobdkpebgaagreat", sum := "c4ce7e428f472e9a988d7ad1b2e7f4f874cb5e905ee92f30bceb2f49896445ad", func := "guerdon/guerdonlaw20.InterpDefAgrees", spec := "interpDefAgrees", inPlace := ["internal/bytealg.IndexByteString", "internal/bytealg.IndexString"], unfollowed := true, recurses := true, named := ["internal/bytealg.MaxLen", "math/bits.divideError", "math/bits.overflowError"], apart := false, narrowed := true }
def InterpDefAgreesUptoSaid : Prop := interpDefAgreesUptoRow.holds Tryz.pinned (OpenSpec.upto interpDefAgreesSpec)

/-- 'guerdonlaw20.InterpTypeSound', WHERE WHAT IT READS IS OF BULK AT MOST 1048576: true; the input reads as it did. -/
def interpTypeSoundUptoRow : OpenClaim := { program := "ytffnbobdkpebgaagreat", sum := "c4ce7e428f472e9a988d7ad1b2e7f4f874cb5e905ee92f30bceb2f49896445ad", func := "guerdon/guerdonlaw20.InterpTypeSound", spec := "interpTypeSound", inPlace := ["internal/bytealg.IndexByteString", "internal/bytealg.IndexString"], unfollowed := true, recurses := true, named := ["internal/bytealg.MaxLen", "math/bits.divideError", "math/bits.overflowError"], apart := false, narrowed := true }
def InterpTypeSoundUptoSaid : Prop := interpTypeSoundUptoRow.holds Tryz.pinned (OpenSpec.upto interpTypeSoundSpec)

end Rows
end Go.Proofs.YtffnbobdkpebgaaGreat
