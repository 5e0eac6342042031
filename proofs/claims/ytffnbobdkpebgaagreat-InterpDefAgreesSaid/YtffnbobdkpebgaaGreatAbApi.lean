/- The data of the rules engine, and how it lies in cells. -/
import Derived.Test.YtffnbobdkpebgaaGreatAbUse
set_option linter.unusedVariables false
namespace Go.Ab
abbrev BA := ByteArray
structure MNode where
 op : Int
 n : Int
deriving DecidableEq
structure MTy where
 kind : Int
 en : Int
deriving DecidableEq
structure MEnum where
 name : BA
 members : List BA
deriving DecidableEq
structure MRange where
 fr : Int
 to : Int
deriving DecidableEq
structure MRow where
 valid : MRange
 lo : Int
 hi : Int
 n : Int
deriving DecidableEq
structure MTable where
 name : BA
 key : MTy
 val : MTy
 rows : List MRow
deriving DecidableEq
structure MField where
 name : BA
 ty : MTy
deriving DecidableEq
structure MRule where
 name : BA
 df : Int
 parent : Int
 prio : Int
 valid : MRange
 guard : List MNode
 value : List MNode
 source : BA
deriving DecidableEq
structure MScope where
 name : BA
 ms : Int
 inputs : List MField
 defs : List MField
 rules : List MRule
deriving DecidableEq
structure MLaw where
 enums : List MEnum
 tables : List MTable
 scopes : List MScope
deriving DecidableEq
structure MChange where
 scope : BA
 rule : BA
 kind : Int
deriving DecidableEq
abbrev MRow.fr (x : MRow) : Int := x.valid.fr
abbrev MRow.to (x : MRow) : Int := x.valid.to
abbrev MRule.fr (x : MRule) : Int := x.valid.fr
abbrev MRule.to (x : MRule) : Int := x.valid.to
abbrev iD (n : Int) : D := .int .i64 n
abbrev cInt (n : Int) : List D := [iD n]
abbrev cStr (s : BA) : List D := [.str s]
def cNode (x : MNode) : List D := [iD x.op, iD x.n]
def cTy (x : MTy) : List D := [iD x.kind, iD x.en]
abbrev strs (l : List BA) : D := .slice 1 (l.map cStr)
abbrev nodes (l : List MNode) : D := .slice 2 (l.map cNode)
def cEnum (x : MEnum) : List D := [.str x.name, strs x.members]
def cRange (x : MRange) : List D := [iD x.fr, iD x.to]
def cRow (x : MRow) : List D := [iD x.fr, iD x.to, iD x.lo, iD x.hi, iD x.n]
abbrev rows (l : List MRow) : D := .slice 5 (l.map cRow)
def cTable (x : MTable) : List D := [.str x.name, iD x.key.kind, iD x.key.en, iD x.val.kind, iD x.val.en, rows x.rows]
def cField (x : MField) : List D := [.str x.name, iD x.ty.kind, iD x.ty.en]
abbrev fields (l : List MField) : D := .slice 3 (l.map cField)
def cRule (x : MRule) : List D := [.str x.name, iD x.df, iD x.parent, iD x.prio, iD x.fr, iD x.to, nodes x.guard, nodes x.value, .str x.source]
abbrev mrules (l : List MRule) : D := .slice 9 (l.map cRule)
def cScope (x : MScope) : List D := [.str x.name, iD x.ms, fields x.inputs, fields x.defs, mrules x.rules]
abbrev enums (l : List MEnum) : D := .slice 2 (l.map cEnum)
abbrev tables (l : List MTable) : D := .slice 6 (l.map cTable)
abbrev scopes (l : List MScope) : D := .slice 5 (l.map cScope)
def cLaw (x : MLaw) : List D := [enums x.enums, tables x.tables, scopes x.scopes]
def cChange (x : MChange) : List D := [.str x.scope, .str x.rule, iD x.kind]
abbrev changes (l : List MChange) : D := .slice 3 (l.map cChange)
abbrev vDc (x : D) : AV := .s (.c (.d x))
abbrev resB (b : Bool) : AV := .s (.c (.d (.bool b)))
theorem x_int {x y : Int} (h : (!(x == y)) = false) : x = y := by simpa using h
theorem x_str {x y : BA} (h : (!decide (x = y)) = false) : x = y := by simpa using h
theorem x_node {x y : MNode} (h : (!((x.op == y.op) && (x.n == y.n))) = false) : x = y := by
 cases x; cases y; simp at h; simp [h]
theorem x_ty {x y : MTy} (h : (!((x.kind == y.kind) && (x.en == y.en))) = false) : x = y := by
 cases x; cases y; simp at h; simp [h]
theorem x_row {x y : MRow} (h : (!((x.fr == y.fr) && ((x.to == y.to) && ((x.lo == y.lo) && ((x.hi == y.hi) && (x.n == y.n)))))) = false) : x = y := by
 obtain ⟨⟨a, b⟩, c, d, e⟩ := x; obtain ⟨⟨a', b'⟩, c', d', e'⟩ := y; simp [MRow.fr, MRow.to] at h; simp [h]
theorem x_field {x y : MField} (h : (!(decide (x.name = y.name) && ((x.ty.kind == y.ty.kind) && (x.ty.en == y.ty.en)))) = false) : x = y := by
 obtain ⟨a, b, c⟩ := x; obtain ⟨a', b', c'⟩ := y; simp at h; simp [h]
theorem x_change {x y : MChange} (h : (!(decide (x.scope = y.scope) && (decide (x.rule = y.rule) && (x.kind == y.kind)))) = false) : x = y := by
 cases x; cases y; simp at h; simp [h]
theorem cget {α : Type} {f : α → List D} {l : List α} {i : Nat} (h : i < l.length) : (l.map f)[(i : Int).toNat]? = some (f l[i]) := by
 simp [h]
theorem eq_of_take {α : Type} {xs ys : List α} {i : Nat} (hl : xs.length = ys.length) (hi : i = xs.length) (h : xs.take i = ys.take i) : xs = ys := by
 rw [← List.take_length (l := xs), ← hi, h, hi, hl, List.take_length]
theorem ne_of_get {α : Type} {xs ys : List α} {i : Nat} (hx : i < xs.length) (hy : i < ys.length) (h : xs[i] ≠ ys[i]) : xs ≠ ys := fun e => h (by subst e; rfl)
theorem retF {p : Prop} [Decidable p] (h : ¬ p) : D.bool false = D.bool (decide p) := by simp [h]
theorem retT {p : Prop} [Decidable p] (h : p) : D.bool true = D.bool (decide p) := by simp [h]
def AllTo {α : Type} (l : List α) (i : Nat) (p : α → Prop) : Prop := ∀ j, j < i → ∀ x, l[j]? = some x → p x
theorem AllTo.zero {α : Type} (l : List α) (p : α → Prop) : AllTo l 0 p := fun j hj => absurd hj (Nat.not_lt_zero j)
theorem AllTo.step {α : Type} {l : List α} {i : Nat} {p : α → Prop} (h : AllTo l i p) (hi : i < l.length) (hp : p l[i]) : AllTo l (i + 1) p := by
 intro j hj x hx
 by_cases e : j = i
 ·subst e
  rw [List.getElem?_eq_getElem hi] at hx
  cases hx
  exact hp
 ·exact h j (by omega) x hx
theorem AllTo.all {α : Type} {l : List α} {i : Nat} {p : α → Prop} (h : AllTo l i p) (hi : l.length ≤ i) : ∀ x ∈ l, p x := by
 intro x hx
 obtain ⟨j, hj⟩ := List.getElem?_of_mem hx
 have := (List.getElem?_eq_some_iff.1 hj).1
 exact h j (by omega) x hj
def SmallRule (r : MRule) : Prop := r.name.size ≤ 80 ∧ r.source.size ≤ 80 ∧ r.guard.length ≤ 50 ∧ r.value.length ≤ 50
instance (r : MRule) : Decidable (SmallRule r) := by unfold SmallRule; infer_instance
def SmallScope (s : MScope) : Prop := s.name.size ≤ 80 ∧ s.inputs.length ≤ 14 ∧ s.defs.length ≤ 14 ∧ s.rules.length ≤ 60 ∧ (∀ f ∈ s.inputs, f.name.size ≤ 80) ∧ (∀ f ∈ s.defs, f.name.size ≤ 80) ∧ ∀ r ∈ s.rules, SmallRule r
instance (s : MScope) : Decidable (SmallScope s) := by unfold SmallScope; infer_instance
def SmallEnum (e : MEnum) : Prop := e.name.size ≤ 80 ∧ e.members.length ≤ 20 ∧ ∀ m ∈ e.members, m.size ≤ 80
instance (e : MEnum) : Decidable (SmallEnum e) := by unfold SmallEnum; infer_instance
def sumRows (l : List MTable) : Nat := (l.map fun t => t.rows.length).sum
def sumRules (l : List MScope) : Nat := (l.map fun t => t.rules.length).sum
def SmallLaw (l : MLaw) : Prop := l.enums.length ≤ 9 ∧ l.tables.length ≤ 9 ∧ l.scopes.length ≤ 5 ∧ (∀ e ∈ l.enums, SmallEnum e) ∧ (∀ t ∈ l.tables, t.name.size ≤ 80) ∧ sumRows l.tables ≤ 150 ∧ sumRules l.scopes ≤ 60 ∧ ∀ s ∈ l.scopes, SmallScope s
instance (l : MLaw) : Decidable (SmallLaw l) := by unfold SmallLaw; infer_instance
def SizedLaw (l : MLaw) : Prop := (∀ t ∈ l.tables, t.rows.length ≤ 140737488355328) ∧ ∀ s ∈ l.scopes, s.rules.length ≤ 140737488355328
theorem sumRows_step {l : List MTable} {i : Nat} (hi : i < l.length) : sumRows (l.take (i + 1)) = sumRows (l.take i) + l[i].rows.length := by
 unfold sumRows; rw [List.take_succ_eq_append_getElem hi, List.map_append, List.sum_append]; simp
theorem sumRules_step {l : List MScope} {i : Nat} (hi : i < l.length) : sumRules (l.take (i + 1)) = sumRules (l.take i) + l[i].rules.length := by
 unfold sumRules; rw [List.take_succ_eq_append_getElem hi, List.map_append, List.sum_append]; simp
theorem sumRows_take (l : List MTable) (i : Nat) : sumRows (l.take i) ≤ sumRows l := by
 have : sumRows l = sumRows (l.take i) + sumRows (l.drop i) := by
  unfold sumRows
  rw [← List.sum_append, ← List.map_append, List.take_append_drop]
 omega
theorem sumRules_take (l : List MScope) (i : Nat) : sumRules (l.take i) ≤ sumRules l := by
 have : sumRules l = sumRules (l.take i) + sumRules (l.drop i) := by
  unfold sumRules
  rw [← List.sum_append, ← List.map_append, List.take_append_drop]
 omega
def MidRule (r : MRule) : Prop := r.guard.length ≤ 100000 ∧ r.value.length ≤ 100000
def MidScope (s : MScope) : Prop := s.inputs.length ≤ 100000 ∧ s.defs.length ≤ 100000 ∧ s.rules.length ≤ 100000 ∧ ∀ r ∈ s.rules, MidRule r
def MidEnum (e : MEnum) : Prop := e.members.length ≤ 100000
def MidTable (t : MTable) : Prop := t.rows.length ≤ 100000
structure MidLaw (l : MLaw) : Prop where
 enums : l.enums.length ≤ 100000
 tables : l.tables.length ≤ 100000
 scopes : l.scopes.length ≤ 100000
 enum : ∀ e ∈ l.enums, MidEnum e
 table : ∀ t ∈ l.tables, MidTable t
 scope : ∀ s ∈ l.scopes, MidScope s
theorem sum_ge {α : Type} {f : α → Nat} : ∀ {l : List α} {x : α}, x ∈ l → f x ≤ (l.map f).sum
 | a :: r, x, h => by
  rcases List.mem_cons.1 h with rfl | h
  ·simp
  ·have := sum_ge (f := f) h
   simp only [List.map_cons, List.sum_cons]; omega
theorem MidLaw.of_small {l : MLaw} (h : SmallLaw l) : MidLaw l := by
 obtain ⟨h1, h2, h3, h4, h5, h6, h7, h8⟩ := h
 refine ⟨by omega, by omega, by omega, fun e he => ?_, fun t ht => ?_, fun s hs => ?_⟩
 ·have := (h4 e he).2.1
  unfold MidEnum; omega
 ·have := sum_ge (f := fun t : MTable => t.rows.length) ht
  unfold sumRows at h6
  unfold MidTable; omega
 ·obtain ⟨_, a, b, c, _, _, d⟩ := h8 s hs
  exact ⟨by omega, by omega, by omega, fun r hr => ⟨by have := (d r hr).2.2.1; omega, by have := (d r hr).2.2.2; omega⟩⟩
def turnTo {α : Type} (f : α → α) (l : List α) (i : Nat) : List α := (l.take i).map f ++ l.drop i
theorem part_zero {α : Type} (f : α → α) (l : List α) : turnTo f l 0 = l := by simp [turnTo]
theorem part_all {α : Type} (f : α → α) {l : List α} {i : Nat} (h : l.length ≤ i) : turnTo f l i = l.map f := by
 simp [turnTo, List.take_of_length_le h, List.drop_eq_nil_of_le h]
theorem part_len {α : Type} (f : α → α) (l : List α) (i : Nat) : (turnTo f l i).length = l.length := by
 simp only [turnTo, List.length_append, List.length_map, List.length_take, List.length_drop]; omega
theorem part_get {α β : Type} (f : α → α) (c : α → β) {l : List α} {i : Nat} (hi : i < l.length) : ((turnTo f l i).map c)[i]? = some (c l[i]) := by
 have h : (turnTo f l i)[i]? = some l[i] := by
  unfold turnTo
  rw [List.getElem?_append_right (by simp; omega)]
  simp [List.length_take, Nat.min_eq_left (Nat.le_of_lt hi), List.getElem?_drop, hi]
 rw [List.getElem?_map, h]; rfl
theorem part_set {α β : Type} (f : α → α) (c : α → β) {l : List α} {i : Nat} (hi : i < l.length) : ((turnTo f l i).map c).set i (c (f l[i])) = (turnTo f l (i + 1)).map c := by
 apply List.ext_getElem?
 intro j
 by_cases hj : j = i
 ·subst hj
  rw [List.getElem?_set_self (by rw [List.length_map, part_len]; exact hi)]
  unfold turnTo
  rw [List.getElem?_map, List.getElem?_append_left (by simp; omega)]
  simp [hi]
 ·rw [List.getElem?_set_ne (fun h => hj h.symm)]
  unfold turnTo
  rw [List.getElem?_map, List.getElem?_map]
  by_cases h2 : j < i
  ·rw [List.getElem?_append_left (by simp; omega), List.getElem?_append_left (by simp; omega)]
   simp [h2, show j < i + 1 by omega]
  ·rw [List.getElem?_append_right (by simp; omega), List.getElem?_append_right (by simp; omega)]
   simp only [List.length_map, List.length_take, List.getElem?_drop, Nat.min_eq_left (Nat.le_of_lt hi), Nat.min_eq_left (show i + 1 ≤ l.length by omega)]
   congr 2
   omega
def bareS (s : MScope) : MScope := { s with rules := [] }
def bare (l : MLaw) : MLaw := { l with scopes := l.scopes.map bareS }
theorem bareS_iff {s t : MScope} : bareS s = bareS t ↔ s.name = t.name ∧ s.ms = t.ms ∧ s.inputs = t.inputs ∧ s.defs = t.defs := by
 cases s; cases t; simp [bareS]
theorem bare_iff {a b : MLaw} : bare a = bare b ↔ a.enums = b.enums ∧ a.tables = b.tables ∧ a.scopes.map bareS = b.scopes.map bareS := by
 cases a; cases b; simp [bare]
theorem bare_ne_at {a b : MLaw} {i : Nat} (hi : i < a.scopes.length) (hj : i < b.scopes.length) (h : bareS a.scopes[i] ≠ bareS b.scopes[i]) : ¬ bare a = bare b := fun e => by
 have e2 := congrArg (fun l : List MScope => l[i]?) (bare_iff.1 e).2.2
 simp [hi, hj] at e2
 exact h e2
theorem bare_step {xs ys : List MScope} {i : Nat} (hx : i < xs.length) (hy : i < ys.length) (h : (xs.take i).map bareS = (ys.take i).map bareS) (he : bareS xs[i] = bareS ys[i]) : (xs.take (i + 1)).map bareS = (ys.take (i + 1)).map bareS := by
 rw [List.take_succ_eq_append_getElem hx, List.take_succ_eq_append_getElem hy, List.map_append, List.map_append, h]; simp [he]
end Go.Ab
