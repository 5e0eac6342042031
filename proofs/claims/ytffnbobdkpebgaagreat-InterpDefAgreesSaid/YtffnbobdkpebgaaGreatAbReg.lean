/- The abstract machine: a region that draws its order: one walk in the order of the text serves every order. -/
import Derived.Test.YtffnbobdkpebgaaGreatAbApp2
set_option linter.unusedVariables false
namespace Go.Ab
open Go.RowKit
abbrev AV.undef : AV := .tup []
theorem undef_rel {ρ : Map} {F : Nat → Prop} {w : World} {H : Heap} : ARel ρ F w H Go.undef AV.undef := ⟨[], rfl, trivial⟩
theorem undef_of {ρ : Map} {F : Nat → Prop} {w : World} {H : Heap} {v : Value} (h : ARel ρ F w H v AV.undef) : v = Go.undef := by
  obtain ⟨vs, hv, h⟩ := h
  cases vs with
  | nil => exact hv
  | cons x xs => exact h.elim
def pval : Option (AV × Heap) → AV
  | some (v, _) => v
  | none => .undef
def after1 (σ : St) (o : Oper) : Option (AV × Heap) → St
  | some (v, news) => (σ.put o.dst v).add news
  | none => σ.put o.dst .undef
def PickOK (P : Program) (ops : Array Oper) (o : Oper) (σ : St) : Option (AV × Heap) → Prop
  | some (v, news) => (∀ j want, o.guard = some (j, want) → ∃ d, (ops[j]?).bind (·.dst) = some d ∧ σ.get d = .s (.c (.d (.bool want)))) ∧ StepOK P o σ v news ∧ dstOk σ o.dst = true ∧ (∀ id ob, look news id = some ob → look σ.h id = none ∧ id < 7000000)
  | none => ∃ j want d, o.guard = some (j, want) ∧ (ops[j]?).bind (·.dst) = some d ∧ (σ.get d = .s (.c (.d (.bool (!want)))) ∨ σ.get d = .undef) ∧ dstOk σ o.dst = true
def hasEdge (o : Oper) (j : Nat) : Bool := o.after.toList.any fun e => Region.binds .any e && Nat.beq e.on j
def ancGo (ops : Array Oper) : Nat → List Nat → List Nat
  | 0, l => l
  | n + 1, l => match l.any fun k => match ops[k]? with | some o => hasEdge o n | none => false with
    | true => ancGo ops n (n :: l)
    | false => ancGo ops n l
def inN : List Nat → Nat → Bool
  | [], _ => false
  | k :: r, i => Nat.beq k i || inN r i
def isLate (ops : Array Oper) (m q j : Nat) : Bool := match ops[j]? with
  | none => false
  | some o => match o.op, o.guard with
    | .extract (.tmp _) _, none => Nat.blt j m && (List.range ops.size).any fun i => !(Nat.blt i (m + q)) && (match ops[i]? with | some oi => !(hasEdge oi j) | none => false)
    | .move _, none => Nat.blt j m && (List.range ops.size).any fun i => !(Nat.blt i (m + q)) && !(inN (ancGo ops i [i]) j)
    | _, _ => false
def isYield (o : Oper) : Bool := match o.op, o.guard with
  | .extract (.tmp _) _, none => true
  | .move _, none => true
  | _, _ => false
def isRead (o : Oper) : Bool := match o.op, o.guard with
  | .fieldAddr .., none => true
  | .load .., none => true
  | .nilCheck .., none => true
  | _, _ => false
def isLateR (ops : Array Oper) (m q j : Nat) : Bool := Nat.beq q 0 && ((Nat.blt j m && Nat.blt m ops.size) && ((match ops[j]? with | some o => isRead o | none => false) && !(inN (ancGo ops m [m]) j)))
def lateRs (ops : Array Oper) (m q : Nat) : List Nat := (List.range m).filter (isLateR ops m q)
def lateROk (ops : Array Oper) (m q : Nat) : Bool := match lateRs ops m q with
  | [] => true
  | L => (List.range m).all (fun j => !(isLate ops m q j)) && L.all fun i => L.all fun j => !(Nat.blt j i) || inN (ancGo ops i [i]) j
def isSel (o : Oper) : Bool := match o.op with
  | .select .. => true
  | _ => false
def lateOk (ops : Array Oper) (m q i : Nat) (o : Oper) : Bool :=
  !(isLate ops m q i) || ((o.after.toList.all fun e => !Region.binds .any e || !(isLate ops m q e.on)) &&
    (List.range ops.size).all fun j => match ops[j]? with
      | none => true
      | some oj => Nat.beq j i || (hasEdge oj i || (hasEdge o j || o.apart ops oj)))
def drawOk (ops : Array Oper) (m q : Nat) : Bool :=
  lateROk ops m q && (List.range ops.size).all fun i => match ops[i]? with
    | none => true
    | some o => (!(isSel o) && lateOk ops m q i o) && (o.after.toList.all fun e => !Region.binds .any e || Nat.blt e.on i) &&
      (match Nat.blt i m with
       | true => (List.range m).all fun j => match ops[j]? with
         | none => true
         | some oj => Nat.beq j i || (match oj.dst with
           | none => true
           | some t => !(o.dst == some t) && (!(o.looksAt ops).contains t || (match Nat.blt j i with | true => hasEdge o j | false => hasEdge oj i)))
       | false => match Nat.blt i (m + q) with
         | true => (match o.dst, o.guard with | none, none => true | _, _ => false) && (List.range m).all fun j => match ops[j]? with
           | none => true
           | some oj => match oj.dst with
             | none => true
             | some t => !(o.looksAt ops).contains t || hasEdge o j
         | false => (List.range i).all fun j => inN (ancGo ops i [i]) j || (isLate ops m q j || (Nat.beq i (m + q) && isLateR ops m q j)))
theorem hasEdge_spec {o : Oper} {j : Nat} (h : hasEdge o j = true) : ∃ e ∈ o.after, Region.binds .any e = true ∧ e.on = j := by
  unfold hasEdge at h
  rw [List.any_eq_true] at h
  obtain ⟨e, he, h⟩ := h
  simp only [Bool.and_eq_true] at h
  exact ⟨e, Array.mem_toList_iff.1 he, h.1, Nat.eq_of_beq_eq_true h.2⟩
theorem inN_spec : ∀ {l : List Nat} {i : Nat}, inN l i = true → i ∈ l
  | [], _, h => by simp [inN] at h
  | k :: r, i, h => by
    simp only [inN, Bool.or_eq_true] at h
    rcases h with h | h
    · exact List.mem_cons.2 (.inl (Nat.eq_of_beq_eq_true h).symm)
    · exact List.mem_cons.2 (.inr (inN_spec h))
theorem anc_spec {ops : Array Oper} {X : Nat → Prop} (hX : ∀ k o, X k → ops[k]? = some o → ∀ e ∈ o.after, Region.binds .any e = true → X e.on) {i : Nat} {oi : Oper} (hoi : ops[i]? = some oi) (hi : ∀ e ∈ oi.after, Region.binds .any e = true → X e.on) :
    ∀ (n : Nat) (l : List Nat), (∀ k ∈ l, k ≠ i → X k) → ∀ j ∈ ancGo ops n l, j ≠ i → X j
  | 0, l, h, j, hj, hne => h j hj hne
  | n + 1, l, h, j, hj, hne => by
    simp only [ancGo] at hj
    split at hj
    · rename_i hany
      refine anc_spec hX hoi hi n (n :: l) (fun k hk hki => ?_) j hj hne
      rcases List.mem_cons.1 hk with rfl | hk
      · rw [List.any_eq_true] at hany
        obtain ⟨k', hk', he⟩ := hany
        split at he
        · rename_i o ho
          obtain ⟨e, he1, he2, he3⟩ := hasEdge_spec he
          by_cases e' : k' = i
          · subst e'
            rw [hoi] at ho; cases ho
            rw [← he3]; exact hi e he1 he2
          · rw [← he3]; exact hX k' o (h k' hk' e') ho e he1 he2
        · cases he
      · exact h k hk hki
    · exact anc_spec hX hoi hi n l h j hj hne
structure DrawOk (ops : Array Oper) (m q : Nat) : Prop where
  acyclic : ∀ i o, ops[i]? = some o → ∀ e ∈ o.after, Region.binds .any e = true → e.on < i
  uniq : ∀ i j oi oj t, i < m → j < m → ops[i]? = some oi → ops[j]? = some oj → oi.dst = some t → oj.dst = some t → i = j
  dep : ∀ i j oi oj t, i < m → j < m → ops[i]? = some oi → ops[j]? = some oj → t ∈ oi.looksAt ops → oj.dst = some t → j < i → ∃ e ∈ oi.after, Region.binds .any e = true ∧ e.on = j
  anti : ∀ i j oi oj t, i < m → j < m → ops[i]? = some oi → ops[j]? = some oj → t ∈ oi.looksAt ops → oj.dst = some t → i < j → ∃ e ∈ oj.after, Region.binds .any e = true ∧ e.on = i
  tail : ∀ i o j, m + q ≤ i → ops[i]? = some o → j < i → isLate ops m q j = true ∨ (i = m + q ∧ isLateR ops m q j = true) ∨
    ∀ X : Nat → Prop, (∀ k ok, X k → ops[k]? = some ok → ∀ e ∈ ok.after, Region.binds .any e = true → X e.on) → (∀ e ∈ o.after, Region.binds .any e = true → X e.on) → X j
  late : ∀ l, isLate ops m q l = true → ∃ ol, ops[l]? = some ol ∧ l < m ∧ isYield ol = true ∧ ol.guard = none ∧ (∀ e ∈ ol.after, Region.binds .any e = true → isLate ops m q e.on = false) ∧
    ∀ (j : Nat) (oj : Oper), ops[j]? = some oj → j ≠ l → (∃ e ∈ oj.after, Region.binds .any e = true ∧ e.on = l) ∨ (∃ e ∈ ol.after, Region.binds .any e = true ∧ e.on = j) ∨ ol.apart ops oj = true
  wdst : ∀ i o, m ≤ i → i < m + q → ops[i]? = some o → o.dst = none ∧ o.guard = none
  wdep : ∀ i o j oj t, m ≤ i → i < m + q → ops[i]? = some o → j < m → ops[j]? = some oj → oj.dst = some t → t ∈ o.looksAt ops → ∃ e ∈ o.after, Region.binds .any e = true ∧ e.on = j
  nosel : ∀ (j : Nat) (o : Oper) cs b, ops[j]? = some o → o.op ≠ .select cs b
  excl : ∀ i l, isLateR ops m q i = true → l < m → isLate ops m q l = false
  chain : ∀ i o j, isLateR ops m q i = true → isLateR ops m q j = true → ops[i]? = some o → j < i →
    ∀ X : Nat → Prop, (∀ k ok, X k → ops[k]? = some ok → ∀ e ∈ ok.after, Region.binds .any e = true → X e.on) → (∀ e ∈ o.after, Region.binds .any e = true → X e.on) → X j
theorem lateRs_mem {ops : Array Oper} {m q i : Nat} : i ∈ lateRs ops m q ↔ isLateR ops m q i = true := by
  unfold lateRs
  rw [List.mem_filter, List.mem_range]
  refine ⟨fun h => h.2, fun h => ⟨?_, h⟩⟩
  unfold isLateR at h
  simp only [Bool.and_eq_true] at h
  simpa using h.2.1.1
theorem lateR_lt {ops : Array Oper} {m q i : Nat} (h : isLateR ops m q i = true) : q = 0 ∧ i < m := by
  unfold isLateR at h
  simp only [Bool.and_eq_true] at h
  exact ⟨Nat.eq_of_beq_eq_true h.1, by simpa using h.2.1.1⟩
theorem lateR_size {ops : Array Oper} {m q i : Nat} (h : isLateR ops m q i = true) : m < ops.size := by
  unfold isLateR at h
  simp only [Bool.and_eq_true] at h
  simpa using h.2.1.2
theorem lateROk_spec {ops : Array Oper} {m q : Nat} (h : lateROk ops m q = true) {i : Nat} (hi : isLateR ops m q i = true) :
    (∀ l, l < m → isLate ops m q l = false) ∧ ∀ j, isLateR ops m q j = true → j < i → inN (ancGo ops i [i]) j = true := by
  have hm := lateRs_mem.2 hi
  unfold lateROk at h
  split at h
  · rename_i he; rw [he] at hm; cases hm
  · simp only [Bool.and_eq_true] at h
    refine ⟨fun l hl => by have := List.all_eq_true.1 h.1 l (List.mem_range.2 hl); simpa using this, fun j hj hlt => ?_⟩
    have := List.all_eq_true.1 (List.all_eq_true.1 h.2 i hm) j (lateRs_mem.2 hj)
    have hb : Nat.blt j i = true := by simpa using hlt
    rw [hb] at this
    simpa using this
theorem drawOk_spec {ops : Array Oper} {m q : Nat} (h : drawOk ops m q = true) : DrawOk ops m q := by
  unfold drawOk at h
  rw [Bool.and_eq_true] at h
  obtain ⟨hlr, h⟩ := h
  rw [List.all_eq_true] at h
  have hi : ∀ i o, ops[i]? = some o → (o.after.toList.all fun e => !Region.binds .any e || Nat.blt e.on i) = true ∧
      (i < m → ∀ j oj, j < m → ops[j]? = some oj → (Nat.beq j i || (match oj.dst with
           | none => true
           | some t => !(o.dst == some t) && (!(o.looksAt ops).contains t || (match Nat.blt j i with | true => hasEdge o j | false => hasEdge oj i)))) = true) ∧
      (m + q ≤ i → ∀ j, j < i → (inN (ancGo ops i [i]) j || (isLate ops m q j || (Nat.beq i (m + q) && isLateR ops m q j))) = true) ∧
      (m ≤ i → i < m + q → (match o.dst, o.guard with | none, none => true | _, _ => false) = true ∧ ∀ j oj t, j < m → ops[j]? = some oj → oj.dst = some t → (!(o.looksAt ops).contains t || hasEdge o j) = true) := by
    intro i o ho
    have hlt : i < ops.size := (Array.getElem?_eq_some_iff.1 ho).1
    have := h i (List.mem_range.2 hlt)
    simp only [ho, Bool.and_eq_true] at this
    replace this : _ ∧ _ := ⟨this.1.2, this.2⟩
    refine ⟨this.1, fun him j oj hj hoj => ?_, fun him j hj => ?_, fun him him2 => ?_⟩
    · have hb : Nat.blt i m = true := by simpa using him
      have h2 := this.2
      rw [hb] at h2
      have h3 := List.all_eq_true.1 h2 j (List.mem_range.2 hj)
      simpa only [hoj] using h3
    · have hb : Nat.blt i m = false := by
        cases hb : Nat.blt i m with
        | false => rfl
        | true => simp at hb; omega
      have hb2 : Nat.blt i (m + q) = false := by
        cases hb : Nat.blt i (m + q) with
        | false => rfl
        | true => simp at hb; omega
      have h2 := this.2
      rw [hb] at h2
      simp only [hb2] at h2
      exact List.all_eq_true.1 h2 j (List.mem_range.2 hj)
    · have hb : Nat.blt i m = false := by
        cases hb : Nat.blt i m with
        | false => rfl
        | true => simp at hb; omega
      have hb2 : Nat.blt i (m + q) = true := by simpa using him2
      have h2 := this.2
      rw [hb] at h2
      simp only [hb2, Bool.and_eq_true] at h2
      refine ⟨h2.1, fun j oj t hj hoj hd => ?_⟩
      have h3 := List.all_eq_true.1 h2.2 j (List.mem_range.2 hj)
      simpa only [hoj, hd] using h3
  refine ⟨fun i o ho e he hb => ?_, fun i j oi oj t him hjm hoi hoj hdi hdj => ?_, fun i j oi oj t him hjm hoi hoj ht hd hlt => ?_, fun i j oi oj t him hjm hoi hoj ht hd hlt => ?_, fun i o j him ho hj => ?_, fun l hl => ?_, fun i o h1 h2 ho => ?_, fun i o j oj t h1 h2 ho hj hoj hd ht => ?_, fun j o cs b ho hop => ?_, fun i l hi hl => ?_, fun i o j hi hj ho hlt => ?_⟩
  · have := List.all_eq_true.1 (hi i o ho).1 e (Array.mem_toList_iff.2 he)
    rw [hb] at this
    simpa using this
  · have := (hi i oi hoi).2.1 him j oj hjm hoj
    rw [hdj] at this
    simp only [hdi, Bool.or_eq_true, Bool.and_eq_true] at this
    rcases this with h | h
    · exact (Nat.eq_of_beq_eq_true h).symm
    · simp at h
  · have := (hi i oi hoi).2.1 him j oj hjm hoj
    rw [hd] at this
    have hb : Nat.blt j i = true := by simpa using hlt
    have hc : (oi.looksAt ops).contains t = true := by simpa using ht
    simp only [hb, hc, Bool.or_eq_true, Bool.and_eq_true, Bool.not_true, Bool.false_eq_true, false_or] at this
    rcases this with h | h
    · have := Nat.eq_of_beq_eq_true h; omega
    · exact hasEdge_spec h.2
  · have := (hi i oi hoi).2.1 him j oj hjm hoj
    rw [hd] at this
    have hb : Nat.blt j i = false := by
      cases hb : Nat.blt j i with
      | false => rfl
      | true => simp at hb; omega
    have hc : (oi.looksAt ops).contains t = true := by simpa using ht
    simp only [hb, hc, Bool.or_eq_true, Bool.and_eq_true, Bool.not_true, Bool.false_eq_true, false_or] at this
    rcases this with h | h
    · have := Nat.eq_of_beq_eq_true h; omega
    · exact hasEdge_spec h.2
  · have := (hi i o ho).2.2.1 him j hj
    simp only [Bool.or_eq_true, Bool.and_eq_true] at this
    rcases this with hj' | h | h
    · exact .inr (.inr fun X hX hi' => anc_spec hX ho hi' i [i] (fun k hk hne => absurd (by simpa using hk) hne) j (inN_spec hj') (by omega))
    · exact .inl h
    · exact .inr (.inl ⟨Nat.eq_of_beq_eq_true h.1, h.2⟩)
  · have hl0 := hl
    unfold isLate at hl
    split at hl
    · cases hl
    · rename_i ol hol
      have hy : l < m ∧ isYield ol = true ∧ ol.guard = none := by
        split at hl
        · rename_i t k hop hg
          simp only [Bool.and_eq_true] at hl
          exact ⟨by simpa using hl.1, by simp [isYield, hop, hg], hg⟩
        · rename_i x hop hg
          simp only [Bool.and_eq_true] at hl
          exact ⟨by simpa using hl.1, by simp [isYield, hop, hg], hg⟩
        · cases hl
      clear hl
      · have hlt : l < ops.size := (Array.getElem?_eq_some_iff.1 hol).1
        have h1 := h l (List.mem_range.2 hlt)
        simp only [hol, Bool.and_eq_true] at h1
        have h2 := h1.1.1.2
        unfold lateOk at h2
        rw [hl0] at h2
        simp only [Bool.not_true, Bool.false_or, Bool.and_eq_true] at h2
        refine ⟨ol, hol, hy.1, hy.2.1, hy.2.2, fun e he hb => ?_, fun j oj hoj hne => ?_⟩
        · have := List.all_eq_true.1 h2.1 e (Array.mem_toList_iff.2 he)
          rw [hb] at this
          simpa using this
        · have hj : j < ops.size := (Array.getElem?_eq_some_iff.1 hoj).1
          have := List.all_eq_true.1 h2.2 j (List.mem_range.2 hj)
          simp only [hoj, Bool.or_eq_true] at this
          rcases this with h | h | h | h
          · exact absurd (Nat.eq_of_beq_eq_true h) hne
          · exact .inl (hasEdge_spec h)
          · exact .inr (.inl (hasEdge_spec h))
          · exact .inr (.inr h)
  · have := ((hi i o ho).2.2.2 h1 h2).1
    split at this
    · rename_i hd hg; exact ⟨hd, hg⟩
    · cases this
  · have := ((hi i o ho).2.2.2 h1 h2).2 j oj t hj hoj hd
    have hc : (o.looksAt ops).contains t = true := by simpa using ht
    rw [hc] at this
    simp only [Bool.not_true, Bool.false_or] at this
    exact hasEdge_spec this
  · have hlt : j < ops.size := (Array.getElem?_eq_some_iff.1 ho).1
    have h1 := h j (List.mem_range.2 hlt)
    simp only [ho, Bool.and_eq_true] at h1
    have h2 := h1.1.1.1
    simp [isSel, hop] at h2
  · exact (lateROk_spec hlr hi).1 l hl
  · intro X hX hi'
    exact anc_spec hX ho hi' i [i] (fun k hk hne => absurd (by simpa using hk) hne) j (inN_spec ((lateROk_spec hlr hi).2 j hj hlt)) (by omega)
structure Text (P : Program) (ops : Array Oper) (m : Nat) (S : Nat → St) (p : Nat → Option (AV × Heap)) : Prop where
  le : m ≤ ops.size
  ok : ∀ i o, i < m → ops[i]? = some o → PickOK P ops o (S i) (p i)
  succ : ∀ i o, i < m → ops[i]? = some o → S (i + 1) = after1 (S i) o (p i)
section text
variable {P : Program} {ops : Array Oper} {m : Nat} {S : Nat → St} {p : Nat → Option (AV × Heap)} (T : Text P ops m S p)
include T
theorem Text.op {i : Nat} (h : i < m) : ∃ o, ops[i]? = some o := ⟨_, Array.getElem?_eq_getElem (Nat.lt_of_lt_of_le h T.le)⟩
theorem Text.news' {i : Nat} (h : i < m) : ∀ v news, p i = some (v, news) → ∀ id ob, look news id = some ob → look (S i).h id = none ∧ id < 7000000 := by
  intro v news hp
  obtain ⟨o, ho⟩ := T.op h
  have := T.ok i o h ho
  rw [hp] at this
  exact this.2.2.2
theorem Text.news {i : Nat} (h : i < m) : ∀ v news, p i = some (v, news) → ∀ id ob, look news id = some ob → look (S i).h id = none :=
  fun v news hp id ob hl => (T.news' h v news hp id ob hl).1
omit T in
theorem put_h (σ : St) (d : Option Nat) (v : AV) : (σ.put d v).h = σ.h := by cases d <;> rfl
omit T in
theorem put_n (σ : St) (d : Option Nat) (v : AV) : (σ.put d v).n = σ.n := by cases d <;> rfl
omit T in
theorem after1_h (σ : St) (o : Oper) (q : Option (AV × Heap)) : (after1 σ o q).h = (match q with | some (_, news) => news ++ σ.h | none => σ.h) := by
  cases q with
  | none => simp only [after1]; cases o.dst <;> rfl
  | some x => obtain ⟨v, news⟩ := x; simp only [after1, St.add]; cases o.dst <;> rfl
omit T in
theorem after1_n (σ : St) (o : Oper) (q : Option (AV × Heap)) : (after1 σ o q).n = σ.n := by
  cases q with
  | none => simp only [after1]; cases o.dst <;> rfl
  | some x => obtain ⟨v, news⟩ := x; simp only [after1, St.add]; cases o.dst <;> rfl
omit T in
theorem after1_get (σ : St) (o : Oper) (q : Option (AV × Heap)) (t : Nat) : (o.dst = some t ∧ (after1 σ o q).get t = pval q) ∨ (o.dst ≠ some t ∧ (after1 σ o q).get t = σ.get t) := by
  have key : ∀ v : AV, (o.dst = some t ∧ (σ.put o.dst v).get t = v) ∨ (o.dst ≠ some t ∧ (σ.put o.dst v).get t = σ.get t) := by
    intro v
    cases hd : o.dst with
    | none => right; exact ⟨by simp, rfl⟩
    | some d =>
      by_cases e : d = t
      · subst e; left; exact ⟨rfl, get_put_same σ d v⟩
      · right; exact ⟨by simpa using e, get_put_other σ v e⟩
  cases q with
  | none => exact key .undef
  | some x => obtain ⟨v, news⟩ := x; exact key v
theorem Text.pins : ∀ {k : Nat}, k ≤ m → ∀ {id : Nat} {ob : Ob}, 7000000 ≤ id → look (S k).h id = some ob → ∃ ob', look (S 0).h id = some ob'
  | 0, _, id, ob, _, hl => ⟨ob, hl⟩
  | k + 1, hk, id, ob, hid, hl => by
    obtain ⟨o, ho⟩ := T.op (i := k) (by omega)
    rw [T.succ k o (by omega) ho, after1_h] at hl
    cases hp : p k with
    | none => rw [hp] at hl; exact Text.pins (by omega) hid hl
    | some x =>
      obtain ⟨v, news⟩ := x
      rw [hp] at hl
      simp only at hl
      rw [look_append] at hl
      cases hn : look news id with
      | none => rw [hn] at hl; exact Text.pins (by omega) hid hl
      | some ob' => have := (T.news' (by omega) v news hp id ob' hn).2; omega
theorem Text.sub_succ {i : Nat} (h : i < m) : Sub (S i).h (S (i + 1)).h := by
  obtain ⟨o, ho⟩ := T.op h
  intro id ob hl
  rw [T.succ i o h ho, after1_h]
  cases hp : p i with
  | none => exact hl
  | some x =>
    obtain ⟨v, news⟩ := x
    simp only
    rw [look_append]
    cases hn : look news id with
    | none => exact hl
    | some ob' => have := T.news h v news hp id ob' hn; rw [hl] at this; cases this
theorem Text.sub {i : Nat} (j : Nat) (hij : i ≤ j) (h : j ≤ m) : Sub (S i).h (S j).h := by
  induction j with
  | zero => have : i = 0 := by omega
            subst this; exact Sub.refl _
  | succ j ih =>
    by_cases e : i = j + 1
    · subst e; exact Sub.refl _
    · exact Sub.trans (ih (by omega) (by omega)) (T.sub_succ (by omega))
theorem Text.sub_news {i : Nat} (h : i < m) {v : AV} {news : Heap} (hp : p i = some (v, news)) : Sub news (S m).h := by
  obtain ⟨o, ho⟩ := T.op h
  refine Sub.trans (B := (S (i + 1)).h) (fun id ob hl => ?_) (T.sub m (by omega) (Nat.le_refl _))
  rw [T.succ i o h ho, after1_h, hp]
  simp only
  rw [look_append, hl]
theorem Text.n {i : Nat} (h : i ≤ m) : (S i).n = (S 0).n := by
  induction i with
  | zero => rfl
  | succ i ih =>
    obtain ⟨o, ho⟩ := T.op (show i < m by omega)
    rw [T.succ i o (by omega) ho, after1_n, ih (by omega)]
theorem Text.get {i : Nat} (h : i ≤ m) (t : Nat) : (∃ j o, j < i ∧ ops[j]? = some o ∧ o.dst = some t ∧ (S i).get t = pval (p j)) ∨ ((∀ j o, j < i → ops[j]? = some o → o.dst ≠ some t) ∧ (S i).get t = (S 0).get t) := by
  induction i with
  | zero => right; exact ⟨fun j o hj => by omega, rfl⟩
  | succ i ih =>
    obtain ⟨o, ho⟩ := T.op (show i < m by omega)
    have hs := T.succ i o (by omega) ho
    rcases after1_get (S i) o (p i) t with ⟨h1, h2⟩ | ⟨h1, h2⟩
    · left; exact ⟨i, o, by omega, ho, h1, by rw [hs]; exact h2⟩
    · rcases ih (by omega) with ⟨j, o', hj, ho', hd, hg⟩ | ⟨hno, hg⟩
      · left; exact ⟨j, o', by omega, ho', hd, by rw [hs, h2, hg]⟩
      · right
        refine ⟨fun j o' hj ho' => ?_, by rw [hs, h2, hg]⟩
        by_cases e : j = i
        · subst e; rw [ho] at ho'; cases ho'; exact h1
        · exact hno j o' (by omega) ho'
theorem Text.disj {i j : Nat} (hi : i < m) (hj : j < m) {v u : AV} {news news' : Heap} (hpi : p i = some (v, news)) (hpj : p j = some (u, news')) {id : Nat} {ob ob' : Ob} (h1 : look news id = some ob) (h2 : look news' id = some ob') : i = j := by
  have key : ∀ {i j : Nat} {v u : AV} {news news' : Heap} {ob ob' : Ob}, i < j → j < m → p i = some (v, news) → p j = some (u, news') → look news id = some ob → look news' id = some ob' → False := by
    intro i j v u news news' ob ob' hij hj hpi hpj h1 h2
    have hn := T.news hj u news' hpj id ob' h2
    obtain ⟨o, ho⟩ := T.op (show i < m by omega)
    have : look (S (i + 1)).h id = some ob := by
      rw [T.succ i o (by omega) ho, after1_h, hpi]
      simp only
      rw [look_append, h1]
    rw [T.sub j (by omega) (by omega) id ob this] at hn
    cases hn
  rcases Nat.lt_trichotomy i j with h | h | h
  · exact (key h hj hpi hpj h1 h2).elim
  · exact h
  · exact (key h hi hpj hpi h2 h1).elim
end text
end Go.Ab
