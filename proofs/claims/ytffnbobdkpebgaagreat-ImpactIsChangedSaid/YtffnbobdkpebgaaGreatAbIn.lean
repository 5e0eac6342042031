/- Numbers of data that lies in memory are of their kinds. -/
import Derived.Test.YtffnbobdkpebgaaGreatAbApi
import Derived.Test.YtffnbobdkpebgaaGreatAbRow
set_option linter.unusedVariables false
namespace Go.Ab

/-- Every number in it is of its kind. -/
inductive In64 : D → Prop
  | int {k : IntKind} {n : Int} (h : (Lit.int k n).wf = true) : In64 (.int k n)
  | bool {b : Bool} : In64 (.bool b)
  | str {s : ByteArray} : In64 (.str s)
  | slice {s : Nat} {es : List (List D)} (h : ∀ e ∈ es, ∀ d ∈ e, In64 d) : In64 (.slice s es)
  | nilptr : In64 .nilptr
  | ptr {cs : List D} {off : Nat} (h : ∀ d ∈ cs, In64 d) : In64 (.ptr cs off)

/-- The fields of each structure of these types cover its cells; what the types speak of is among them. -/
def covB (tab : Tab) (ts : List Nat) : Bool := ts.all fun t => match look tab t with
  | some i => ((i.tag != 6) || (List.range i.size).all fun j => i.fields.any fun f => match look tab f.2 with
      | some iu => ts.contains f.2 && (decide (f.1 ≤ j) && decide (j < f.1 + iu.size))
      | none => false) && (((i.tag != 4) || ts.contains i.elem) && ((i.tag != 5) || ts.contains i.elem))
  | none => true

theorem WTy.in64 {tab : Tab} {ts : List Nat} (hc : covB tab ts = true) {t : Nat} {ds : List D} (h : WTy tab t ds) : ts.contains t = true → ∀ d ∈ ds, In64 d := by
  have cov : ∀ {t : Nat} {i : TI}, ts.contains t = true → look tab t = some i → (((i.tag != 6) || (List.range i.size).all fun j => i.fields.any fun f => match look tab f.2 with
      | some iu => ts.contains f.2 && (decide (f.1 ≤ j) && decide (j < f.1 + iu.size))
      | none => false) && (((i.tag != 4) || ts.contains i.elem) && ((i.tag != 5) || ts.contains i.elem))) = true := by
    intro t i ht hi
    have h1 := List.all_eq_true.1 hc t (by simpa using ht)
    rw [hi] at h1
    exact h1
  induction h with
  | bool => intro _ d hd; simp at hd; subst hd; exact .bool
  | int hi ht hz hr => intro _ d hd; simp at hd; subst hd; exact .int hr
  | str => intro _ d hd; simp at hd; subst hd; exact .str
  | @slice t i ie es hi ht hie he hb ih =>
    intro hm d hd; simp at hd; subst hd
    have h1 := cov hm hi
    simp only [ht, bne_self_eq_false, Bool.false_or, Bool.and_eq_true] at h1
    exact .slice fun e he' => ih e he' h1.2.1
  | nilptr => intro _ d hd; simp at hd; subst hd; exact .nilptr
  | @ptr t i ie e hi ht hie he ih =>
    intro hm d hd; simp at hd; subst hd
    have h1 := cov hm hi
    simp only [ht, bne_self_eq_false, Bool.false_or, Bool.and_eq_true] at h1
    exact .ptr (ih h1.2.2)
  | @struct t i cs hi ht hl hf ih =>
    intro hm d hd
    obtain ⟨j, hj⟩ := List.getElem?_of_mem hd
    have hjl := (List.getElem?_eq_some_iff.1 hj).1
    have h1 := cov hm hi
    simp only [ht, bne_self_eq_false, Bool.false_or, Bool.and_eq_true] at h1
    have h2 := List.all_eq_true.1 h1.1 j (List.mem_range.2 (by omega))
    obtain ⟨f, hf1, hf2⟩ := List.any_eq_true.1 h2
    split at hf2
    · rename_i iu hu
      simp only [Bool.and_eq_true, decide_eq_true_eq] at hf2
      refine ih f.1 f.2 hf1 iu hu hf2.1 d (List.mem_of_getElem? (i := j - f.1) ?_)
      rw [List.getElem?_take_of_lt (by omega), List.getElem?_drop, show f.1 + (j - f.1) = j by omega, hj]
    · cases hf2

theorem In64.elem {α : Type} {s : Nat} {f : α → List D} {l : List α} (h : In64 (.slice s (l.map f))) {x : α} (hx : x ∈ l) : ∀ d ∈ f x, In64 d := by
  cases h with
  | slice h => exact h _ (List.mem_map.2 ⟨x, hx, rfl⟩)
theorem In64.int_inv {k : IntKind} {n : Int} (h : In64 (.int k n)) : (Lit.int k n).wf = true := by
  cases h with
  | int h => exact h
theorem wf_i64 {n : Int} (h : (Lit.int .i64 n).wf = true) : -9223372036854775808 ≤ n ∧ n ≤ 9223372036854775807 := by
  simp only [Lit.wf, Bool.and_eq_true, decide_eq_true_eq] at h
  exact h
theorem wf_u8 {n : Int} (h : (Lit.int .u8 n).wf = true) : 0 ≤ n ∧ n ≤ 255 := by
  simp only [Lit.wf, Bool.and_eq_true, decide_eq_true_eq] at h
  exact h
end Go.Ab
