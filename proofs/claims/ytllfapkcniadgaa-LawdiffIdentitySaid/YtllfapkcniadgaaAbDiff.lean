/- Two laws held against each other, in plain lists. -/
import Derived.Test.YtllfapkcniadgaaAbApi
set_option linter.unusedVariables false
namespace Go.Ab

def bEmpty : BA := ByteArray.empty
def zScope : MScope := ⟨bEmpty, 0, [], [], []⟩
def zRule : MRule := ⟨bEmpty, 0, 0, 0, ⟨0, 0⟩, [], [], bEmpty⟩

def optI : Option Nat → Int
  | some i => i
  | none => -1

def scopeAt (l : List MScope) (n : BA) : Option Nat := l.findIdx? fun s => decide (s.name = n)
def ruleAt (l : List MRule) (n : BA) : Option Nat := l.findIdx? fun s => decide (s.name = n)

/-- The first of a list for which a test holds. -/
theorem find_some {α : Type} {l : List α} {p : α → Bool} {i : Nat} (hi : i < l.length) (hp : p l[i] = true) (h : AllTo l i fun x => p x = false) : l.findIdx? p = some i := by
  rw [List.findIdx?_eq_some_iff_getElem]
  exact ⟨hi, hp, fun j hj => by simpa using h j hj _ (List.getElem?_eq_getElem (by omega))⟩
theorem find_none {α : Type} {l : List α} {p : α → Bool} {i : Nat} (hi : l.length ≤ i) (h : AllTo l i fun x => p x = false) : l.findIdx? p = none := by
  rw [List.findIdx?_eq_none_iff]
  exact fun x hx => h.all hi x hx
theorem find_lt {α : Type} {l : List α} {p : α → Bool} {i : Nat} (h : l.findIdx? p = some i) : i < l.length ∧ ∀ hi : i < l.length, p l[i] = true := by
  rw [List.findIdx?_eq_some_iff_getElem] at h
  obtain ⟨h1, h2, _⟩ := h
  exact ⟨h1, fun _ => h2⟩

/-- The counterpart of a rule: its scope and its place there. -/
def cpart (l : MLaw) (sn rn : BA) : Option (MScope × Nat) := match scopeAt l.scopes sn with
  | none => none
  | some i => match l.scopes[i]? with
    | none => none
    | some s => match ruleAt s.rules rn with
      | none => none
      | some k => some (s, k)

def defName (s : MScope) (i : Int) : BA := match decide (i < 0), s.defs[i.toNat]? with
  | false, some d => d.name
  | _, _ => bEmpty
def parentName (s : MScope) (i : Int) : BA := match decide (i < 0), s.rules[i.toNat]? with
  | false, some d => d.name
  | _, _ => bEmpty

theorem defName_in {s : MScope} {i : Int} (h0 : 0 ≤ i) (h : i.toNat < s.defs.length) : defName s i = s.defs[i.toNat].name := by
  have : decide (i < 0) = false := by simp; omega
  unfold defName; rw [this, List.getElem?_eq_getElem h]
theorem defName_out {s : MScope} {i : Int} (h : i < 0 ∨ s.defs.length ≤ i.toNat) : defName s i = bEmpty := by
  unfold defName
  rcases h with h | h
  · rw [decide_eq_true h]
  · rw [List.getElem?_eq_none h]; cases decide (i < 0) <;> rfl
theorem parentName_in {s : MScope} {i : Int} (h0 : 0 ≤ i) (h : i.toNat < s.rules.length) : parentName s i = s.rules[i.toNat].name := by
  have : decide (i < 0) = false := by simp; omega
  unfold parentName; rw [this, List.getElem?_eq_getElem h]
theorem parentName_out {s : MScope} {i : Int} (h : i < 0 ∨ s.rules.length ≤ i.toNat) : parentName s i = bEmpty := by
  unfold parentName
  rcases h with h | h
  · rw [decide_eq_true h]
  · rw [List.getElem?_eq_none h]; cases decide (i < 0) <;> rfl

/-- Whether two rules have the same properties. -/
def ruleSame (s : MScope) (x : MRule) (t : MScope) (y : MRule) : Bool :=
  decide (defName s x.df = defName t y.df) && (decide (parentName s x.parent = parentName t y.parent) && (decide (x.prio = y.prio) && ((x.fr == y.fr && x.to == y.to) && (decide (x.guard = y.guard) && (decide (x.value = y.value) && decide (x.source = y.source))))))

def ch1 (b : MLaw) (s : MScope) (r : MRule) : List MChange := match cpart b s.name r.name with
  | none => [⟨s.name, r.name, 1⟩]
  | some (t, k) => match t.rules[k]? with
    | none => []
    | some x => bif ruleSame s r t x then [] else [⟨s.name, r.name, 3⟩]
def ch2 (a : MLaw) (s : MScope) (r : MRule) : List MChange := match cpart a s.name r.name with
  | none => [⟨s.name, r.name, 2⟩]
  | some _ => []

/-- The changes from a to b. -/
def chg (a b : MLaw) : List MChange := (a.scopes.flatMap fun s => s.rules.flatMap (ch1 b s)) ++ b.scopes.flatMap fun s => s.rules.flatMap (ch2 a s)

theorem flat_step {α β : Type} {f : α → List β} {l : List α} {i : Nat} (hi : i < l.length) : (l.take (i + 1)).flatMap f = (l.take i).flatMap f ++ f l[i] := by
  rw [List.take_succ_eq_append_getElem hi, List.flatMap_append]; simp

theorem ch1_len (b : MLaw) (s : MScope) (r : MRule) : (ch1 b s r).length ≤ 1 := by
  unfold ch1; split
  · simp
  · split
    · simp
    · cases ruleSame s r _ _ <;> simp
theorem ch2_len (a : MLaw) (s : MScope) (r : MRule) : (ch2 a s r).length ≤ 1 := by
  unfold ch2; split <;> simp

theorem flat_len {α β : Type} {f : α → List β} {g : α → Nat} (h : ∀ x, (f x).length ≤ g x) : ∀ (l : List α), (l.flatMap f).length ≤ (l.map g).sum
  | [] => by simp
  | x :: l => by
    have := flat_len h l
    have := h x
    rw [List.flatMap_cons, List.length_append, List.map_cons, List.sum_cons]; omega

theorem cpart_some {l : MLaw} {sn rn : BA} {t : MScope} {k : Nat} (h : cpart l sn rn = some (t, k)) : t ∈ l.scopes ∧ k < t.rules.length ∧ t.name = sn ∧ ∀ hk : k < t.rules.length, t.rules[k].name = rn := by
  unfold cpart at h
  split at h
  · cases h
  · rename_i i hi
    split at h
    · cases h
    · rename_i s hs
      split at h
      · cases h
      · rename_i k' hk
        cases h
        obtain ⟨h1, h2⟩ := find_lt hi
        obtain ⟨h3, h4⟩ := find_lt hk
        have hse : l.scopes[i] = t := by rw [List.getElem?_eq_getElem h1] at hs; exact Option.some.inj hs
        have hn := of_decide_eq_true (h2 h1)
        rw [hse] at hn
        exact ⟨hse ▸ List.getElem_mem h1, h3, hn, fun hk => of_decide_eq_true (h4 hk)⟩

theorem sum_ones {α : Type} : ∀ (l : List α), (l.map fun _ => 1).sum = l.length
  | [] => rfl
  | x :: l => by rw [List.map_cons, List.sum_cons, sum_ones l, List.length_cons]; omega

theorem in_len {f : MRule → List MChange} (h : ∀ r, (f r).length ≤ 1) (l : List MRule) : (l.flatMap f).length ≤ l.length := by
  have := flat_len (g := fun _ => 1) h l
  rwa [sum_ones] at this

theorem out_len {f : MScope → MRule → List MChange} (h : ∀ s r, (f s r).length ≤ 1) (l : List MScope) : (l.flatMap fun s => s.rules.flatMap (f s)).length ≤ sumRules l :=
  flat_len (g := fun s => s.rules.length) (fun s => in_len (h s) s.rules) l

theorem rules_le {l : List MScope} {s : MScope} (h : s ∈ l) : s.rules.length ≤ sumRules l := by
  unfold sumRules
  induction l with
  | nil => simp at h
  | cons x l ih =>
    rw [List.map_cons, List.sum_cons]
    rcases List.mem_cons.1 h with rfl | h
    · omega
    · have := ih h; omega

theorem out_take_len {f : MScope → MRule → List MChange} (h : ∀ s r, (f s r).length ≤ 1) (l : List MScope) (i : Nat) : ((l.take i).flatMap fun s => s.rules.flatMap (f s)).length ≤ sumRules l :=
  Nat.le_trans (out_len h (l.take i)) (sumRules_take l i)

theorem in_take_len {f : MRule → List MChange} (h : ∀ r, (f r).length ≤ 1) (l : List MRule) (i : Nat) : ((l.take i).flatMap f).length ≤ l.length := by
  refine Nat.le_trans (in_len h (l.take i)) ?_
  rw [List.length_take]; omega

/-- One more change behind those that stand. -/
theorem row_one {acc : List MChange} {f : MRule → List MChange} {l : List MRule} {k : Nat} (hk : k < l.length) {c : MChange} {cs : List D} (hc : f l[k] = [c]) (hcs : cs = cChange c) :
    ((acc ++ (l.take k).flatMap f).map cChange) ++ [cs] = (acc ++ (l.take (k + 1)).flatMap f).map cChange := by
  rw [flat_step hk, hc, hcs, ← List.append_assoc, List.map_append (l₂ := [c])]; rfl
theorem row_none {acc : List MChange} {f : MRule → List MChange} {l : List MRule} {k : Nat} (hk : k < l.length) (hc : f l[k] = []) :
    ((acc ++ (l.take k).flatMap f).map cChange) = (acc ++ (l.take (k + 1)).flatMap f).map cChange := by
  rw [flat_step hk, hc, List.append_nil]
theorem row_scope {acc : List MChange} {f : MScope → MRule → List MChange} {l : List MScope} {i : Nat} (hi : i < l.length) {k : Nat} (hk : l[i].rules.length ≤ k) :
    (((acc ++ (l.take i).flatMap fun s => s.rules.flatMap (f s)) ++ (l[i].rules.take k).flatMap (f l[i])).map cChange) = (acc ++ (l.take (i + 1)).flatMap fun s => s.rules.flatMap (f s)).map cChange := by
  rw [flat_step hi, List.take_of_length_le hk, List.append_assoc]

/-- What lawdiff compares of a rule besides its expressions. -/
def cProps (s : MScope) (r : MRule) : List D := [.str (defName s r.df), .str (parentName s r.parent), .str r.source, iD r.prio, iD r.fr, iD r.to]
def propsEq (s : MScope) (x : MRule) (t : MScope) (y : MRule) : Bool :=
  decide (defName s x.df = defName t y.df) && (decide (parentName s x.parent = parentName t y.parent) && (decide (x.source = y.source) && ((x.prio == y.prio) && ((x.fr == y.fr) && (x.to == y.to)))))
theorem ruleSame_eq (s : MScope) (x : MRule) (t : MScope) (y : MRule) : ruleSame s x t y = (propsEq s x t y && (decide (x.guard = y.guard) && decide (x.value = y.value))) := by
  rw [Bool.eq_iff_iff]
  simp only [ruleSame, propsEq, Bool.and_eq_true, decide_eq_true_eq, beq_iff_eq]
  constructor
  · rintro ⟨h1, h2, h3, ⟨h4, h5⟩, h6, h7, h8⟩; exact ⟨⟨h1, h2, h8, h3, h4, h5⟩, h6, h7⟩
  · rintro ⟨⟨h1, h2, h8, h3, h4, h5⟩, h6, h7⟩; exact ⟨h1, h2, h3, ⟨h4, h5⟩, h6, h7, h8⟩

end Go.Ab
