/- The abstract machine: data, states, the evaluator's operations. No program in sight. -/
import Derived.WalkKit
set_option linter.unusedVariables false
namespace Go.Ab
inductive D where
 | int (k : IntKind) (n : Int)
 | bool (b : Bool)
 | str (s : ByteArray)
 | slice (s : Nat) (es : List (List D))
 | nilptr
 | ptr (cs : List D) (off : Nat)
 | clos (f : FuncId) (caps : List D)
inductive C where
 | d (x : D)
 | nil (s : Nat)
 | own (id s : Nat)
 | sub (id s st n : Nat)
 | ref (id i s off : Nat)
 | vrow (id s n : Nat)
 | junk
inductive SV where
 | c (x : C)
 | agg (cs : List C)
 | fn (f : FuncId) (cs : List C)
inductive AV where
 | s (v : SV)
 | tup (vs : List SV)
inductive Ob where
 | var (cs : List C)
 | row (T s : Nat) (es : List (List D))
structure St where
 n : Nat
 t : List (Nat × AV)
 h : List (Nat × Ob)
def look {α : Type} : List (Nat × α) → Nat → Option α
 | [], _ => none
 | (k, v) :: r, i => bif Nat.beq k i then some v else look r i
def drop {α : Type} : List (Nat × α) → Nat → List (Nat × α)
 | [], _ => []
 | (k, v) :: r, i => bif Nat.beq k i then drop r i else (k, v) :: drop r i
def AV.junk : AV := .s (.c .junk)
def St.get (σ : St) (t : Nat) : AV := match look σ.t t with | some v => v | none => .junk
structure TI where
 tag : Nat
 size : Nat
 agg : Bool
 bytes : Nat
 zero : List C
 fields : List (Nat × Nat)
 elem : Nat
 eqk : List D
abbrev Tab := List (Nat × TI)
def esize (tab : Tab) (t : Nat) : Option Nat := match look tab t with
 | some i => match look tab i.elem with | some j => some j.size | none => none
 | none => none
def lit (tab : Tab) (ty : Nat) : Value → AV
 | .int k n => .s (.c (.d (.int k n)))
 | .bool b => .s (.c (.d (.bool b)))
 | .string s => .s (.c (.d (.str s)))
 | .slice none 0 0 => match esize tab ty with | some s => .s (.c (.nil s)) | none => .junk
 | .pointer none => .s (.c (.d .nilptr))
 | _ => .junk
def opnd (tab : Tab) (σ : St) (ty : Nat) : Operand → AV
 | .tmp t => σ.get t
 | .const v => lit tab ty v
 | .func f => .s (.c (.d (.clos f [])))
 | .global _ => .junk
def cellsOf : AV → Option (List C)
 | .s (.c .junk) => none
 | .s (.c x) => some [x]
 | .s (.agg cs) => some cs
 | .s (.fn _ _) => none
 | .tup _ => none
def pureD : C → Option D
 | .d x => some x
 | .nil s => some (.slice s [])
 | _ => none
def allD : List C → Option (List D)
 | [] => some []
 | c :: r => match pureD c, allD r with
  | some x, some xs => some (x :: xs)
  | _, _ => none
def elems (h : List (Nat × Ob)) : C → Option (Nat × List (List D))
 | .d (.slice s es) => some (s, es)
 | .nil s => some (s, [])
 | .own id s => match look h id with | some (.row _ _ es) => some (s, es) | _ => none
 | .sub id s st n => match look h id with | some (.row _ _ es) => some (s, (es.drop st).take n) | _ => none
 | _ => none
def lend1 (h : List (Nat × Ob)) : C → Option D
 | .d x => some x
 | .nil s => some (.slice s [])
 | .own id s => match elems h (.own id s) with | some (_, es) => some (.slice s es) | none => none
 | .sub id s st n => match elems h (.sub id s st n) with | some (_, es) => some (.slice s es) | none => none
 | _ => none
def lend1All (h : List (Nat × Ob)) : List C → Option (List D)
 | [] => some []
 | c :: r => match lend1 h c, lend1All h r with
  | some x, some xs => some (x :: xs)
  | _, _ => none
def lend (h : List (Nat × Ob)) : C → Option D
 | .d x => some x
 | .nil s => some (.slice s [])
 | .own id s => match elems h (.own id s) with | some (_, es) => some (.slice s es) | none => none
 | .sub id s st n => match elems h (.sub id s st n) with | some (_, es) => some (.slice s es) | none => none
 | .ref id 0 _ off => match look h id with
  | some (.var cs) => match lend1All h cs with | some ds => some (.ptr ds off) | none => none
  | _ => none
 | _ => none
def lendAll (h : List (Nat × Ob)) : List C → Option (List D)
 | [] => some []
 | c :: r => match lend h c, lendAll h r with
  | some x, some xs => some (x :: xs)
  | _, _ => none
inductive DV where
 | c (x : D)
 | agg (cs : List D)
def DV.sv : DV → SV
 | .c x => .c (.d x)
 | .agg cs => .agg (cs.map .d)
def lendV (h : List (Nat × Ob)) : AV → Option DV
 | .s (.c x) => match lend h x with | some y => some (.c y) | none => none
 | .s (.agg cs) => match lendAll h cs with | some ys => some (.agg ys) | none => none
 | .s (.fn f cs) => match lendAll h cs with | some ys => some (.c (.clos f ys)) | none => none
 | .tup _ => none
def lendArgs (tab : Tab) (σ : St) : List Operand → List Nat → Option (List DV)
 | [], _ => some []
 | x :: r, tys => match lendV σ.h (opnd tab σ (tys.headD 0) x), lendArgs tab σ r tys.tail with
  | some y, some ys => some (y :: ys)
  | _, _ => none
def D.flat : D → Bool
 | .int .. | .bool _ | .str _ | .nilptr => true
 | _ => false
def C.flat : C → Bool
 | .d x => x.flat
 | _ => false
def SV.flat : SV → Bool
 | .c x => x.flat
 | .agg cs => cs.all C.flat
 | .fn _ _ => false
def AV.flat : AV → Bool
 | .s v => v.flat
 | .tup vs => vs.all SV.flat
def C.isD : C → Bool
 | .d _ | .nil _ => true
 | _ => false
def AV.isD : AV → Bool
 | .s (.c x) => x.isD
 | .s (.agg cs) => cs.all C.isD
 | .s (.fn _ _) => false
 | .tup _ => false
def argsD (tab : Tab) (σ : St) : List Operand → List Nat → Bool
 | [], _ => true
 | x :: r, tys => (opnd tab σ (tys.headD 0) x).isD && argsD tab σ r tys.tail
def C.up (b : Nat) : C → C
 | .own id s => .own (b + id) s
 | .sub id s st n => .sub (b + id) s st n
 | .ref id i s off => .ref (b + id) i s off
 | .vrow id s n => .vrow (b + id) s n
 | c => c
def SV.up (b : Nat) : SV → SV
 | .c x => .c (x.up b)
 | .agg cs => .agg (cs.map (C.up b))
 | .fn f cs => .fn f (cs.map (C.up b))
def AV.up (b : Nat) : AV → AV
 | .s v => .s (v.up b)
 | .tup vs => .tup (vs.map (SV.up b))
def Ob.up (b : Nat) : Ob → Ob
 | .var cs => .var (cs.map (C.up b))
 | .row T s es => .row T s es
def ups (b : Nat) : List (Nat × Ob) → List (Nat × Ob)
 | [] => []
 | (k, o) :: r => (b + k, o.up b) :: ups b r
def C.kill (p : Nat → Bool) : C → C
 | .own id s => bif p id then .junk else .own id s
 | .sub id s st n => bif p id then .junk else .sub id s st n
 | .ref id i s off => bif p id then .junk else .ref id i s off
 | .vrow id s n => bif p id then .junk else .vrow id s n
 | c => c
def SV.kill (p : Nat → Bool) : SV → SV
 | .c x => .c (x.kill p)
 | .agg cs => .agg (cs.map (C.kill p))
 | .fn f cs => .fn f (cs.map (C.kill p))
def AV.kill (p : Nat → Bool) : AV → AV
 | .s v => .s (v.kill p)
 | .tup vs => .tup (vs.map (SV.kill p))
def Ob.kill (p : Nat → Bool) : Ob → Ob
 | .var cs => .var (cs.map (C.kill p))
 | .row T s es => .row T s es
def nameOf : C → List Nat
 | .own id _ => [id]
 | .sub id _ _ _ => [id]
 | .ref id _ _ _ => [id]
 | .vrow id _ _ => [id]
 | _ => []
def lendN (h : List (Nat × Ob)) : C → List Nat
 | .ref id _ _ _ => id :: (match look h id with | some (.var cs) => cs.flatMap nameOf | _ => [])
 | .own id _ => [id]
 | .sub id _ _ _ => [id]
 | .vrow id _ _ => [id]
 | _ => []
def gOn : Bool := true
def gMax : Nat := 2
def mutF : List Nat := [76]
def bsD : List (Nat × Nat) := [(24, 68)]
def inBs (l : List (Nat × Nat)) (d : Option Nat) (t : Nat) : Bool := match l, d with
 | (a, b) :: r, some d' => (Nat.beq a d' && Nat.beq b t) || inBs r d t
 | _, _ => false
end Go.Ab
