/- The abstract machine: a region that draws its order, its operations renumbered. -/
import Derived.Test.YtffnbobdkpebgaaGreatAbWp2
set_option linter.unusedVariables false
namespace Go.Ab
open Go.RowKit
def idx (i : Nat) : List Nat → Nat
 | [] => 0
 | x :: r => bif Nat.beq x i then 0 else idx i r + 1
def relab (l : List Nat) (o : Oper) : Oper :=
 { o with after := ⟨o.after.toList.map (fun e => { e with on := idx e.on l })⟩, guard := match o.guard with | none => none | some (j, b) => some (idx j l, b) }
def pick (ops : Array Oper) (l : List Nat) : List Nat → List Oper
 | [] => []
 | i :: r => match ops[i]? with
  | some o => relab l o :: pick ops l r
  | none => pick ops l r
def permOps (ops : Array Oper) (l : List Nat) : Array Oper := (pick ops l l).toArray
def allocD (all : List Oper) (d : Nat) : Bool := all.any fun o => match o.op, o.dst with
 | .alloc _, some d' => Nat.beq d' d
 | _, _ => false
def isTmp (d : Nat) : Operand → Bool
 | .tmp t => Nat.beq t d
 | _ => false
def usesD (d : Nat) : List Oper → Nat
 | [] => 0
 | o :: r => match o.op.operands.toList.any (isTmp d) with
  | true => usesD d r + 1
  | false => usesD d r
def dstIn (d : Nat) : List Oper → Bool
 | [] => false
 | o :: r => (match o.dst with | some t => Nat.beq t d | none => false) || dstIn d r
def isWS (all : List Oper) (o : Oper) : Bool := match o.op, o.dst, o.guard with
 | .store _ (.tmp d) y, none, none => allocD all d || (Nat.beq (usesD d all) 1 && (!(isTmp d y) && !(dstIn d all)))
 | _, _, _ => false
def pureFirst (all : List Oper) (ops : List Oper) : Nat → List Nat → List Nat → List Nat → List Nat
 | i, acc, ws, rest => match ops with
  | [] => acc.reverse ++ (ws.reverse ++ rest.reverse)
  | o :: r => match !(isMut o) && o.after.toList.all fun e => !(Region.binds .any e) || inLs acc e.on with
   | true => pureFirst all r (i + 1) (i :: acc) ws rest
   | false => match isWS all o && o.after.toList.all fun e => !(Region.binds .any e) || (inLs acc e.on || inLs ws e.on) with
    | true => pureFirst all r (i + 1) acc (i :: ws) rest
    | false => pureFirst all r (i + 1) acc ws (i :: rest)
def permOk (ops : Array Oper) (l : List Nat) : Bool :=
 Nat.beq l.length ops.size && ((List.range ops.size).all fun k => match l[k]? with
  | some i => Nat.blt i ops.size && Nat.beq (idx i l) k
  | none => false) && (List.range ops.size).all fun i => match l[idx i l]? with
  | some j => Nat.beq j i
  | none => false
theorem idx_le : ∀ (i : Nat) (l : List Nat), idx i l ≤ l.length
 | i, [] => Nat.le_refl _
 | i, x :: r => by
  simp only [idx]
  cases Nat.beq x i with
  | true => simp
  | false => have := idx_le i r; simp; omega
theorem idx_none {i : Nat} : ∀ {l : List Nat}, (∀ x ∈ l, x ≠ i) → idx i l = l.length
 | [], _ => rfl
 | x :: r, h => by
  have hne : Nat.beq x i = false := by
   cases hb : Nat.beq x i with
   | false => rfl
   | true => exact absurd (Nat.eq_of_beq_eq_true hb) (h x (by simp))
  simp only [idx, hne, cond_false, List.length_cons]
  rw [idx_none (fun y hy => h y (by simp [hy]))]
structure Perm (ops : Array Oper) (l : List Nat) : Prop where
 len : l.length = ops.size
 lt : ∀ (k i : Nat), l[k]? = some i → i < ops.size ∧ idx i l = k
 inv : ∀ i, i < ops.size → l[idx i l]? = some i
theorem permOk_spec {ops : Array Oper} {l : List Nat} (h : permOk ops l = true) : Perm ops l := by
 simp only [permOk, Bool.and_eq_true] at h
 obtain ⟨⟨h1, h2⟩, h3⟩ := h
 have h1 := Nat.eq_of_beq_eq_true h1
 refine ⟨h1, fun k i hk => ?_, fun i hi => ?_⟩
 ·have hlt := (List.getElem?_eq_some_iff.1 hk).1
  have := List.all_eq_true.1 h2 k (List.mem_range.2 (by omega))
  simp only [hk, Bool.and_eq_true] at this
  exact ⟨Nat.le_of_ble_eq_true this.1, Nat.eq_of_beq_eq_true this.2⟩
 ·have := List.all_eq_true.1 h3 i (List.mem_range.2 hi)
  split at this
  ·rename_i j hj
   rw [hj, Nat.eq_of_beq_eq_true this]
  ·cases this
theorem pick_get {ops : Array Oper} {l : List Nat} : ∀ {r : List Nat}, (∀ i ∈ r, i < ops.size) → ∀ (k : Nat), (pick ops l r)[k]? = (r[k]?).bind fun i => (ops[i]?).map (relab l)
 | [], _, k => by simp [pick]
 | i :: r, h, k => by
  obtain ⟨o, ho⟩ : ∃ o, ops[i]? = some o := ⟨_, Array.getElem?_eq_getElem (h i (by simp))⟩
  simp only [pick, ho]
  cases k with
  | zero => simp [ho]
  | succ k => simpa using pick_get (r := r) (fun j hj => h j (by simp [hj])) k
section
variable {ops : Array Oper} {l : List Nat} (hp : Perm ops l)
include hp
theorem perm_get (k : Nat) : (permOps ops l)[k]? = (l[k]?).bind fun i => (ops[i]?).map (relab l) := by
 unfold permOps
 rw [List.getElem?_toArray]
 exact pick_get (fun i hi => by obtain ⟨k, hk⟩ := List.getElem?_of_mem hi; exact (hp.lt k i hk).1) k
theorem perm_idx {i : Nat} (hi : i < ops.size) : (permOps ops l)[idx i l]? = (ops[i]?).map (relab l) := by
 rw [perm_get hp, hp.inv i hi]; rfl
theorem perm_size : (permOps ops l).size = ops.size := by
 rcases Nat.lt_trichotomy (permOps ops l).size ops.size with h | h | h
 ·exfalso
  have h1 : (permOps ops l)[(permOps ops l).size]? = none := by simp
  rw [perm_get hp] at h1
  obtain ⟨i, hi⟩ : ∃ i, l[(permOps ops l).size]? = some i := ⟨_, List.getElem?_eq_getElem (by rw [hp.len]; exact h)⟩
  obtain ⟨o, ho⟩ : ∃ o, ops[i]? = some o := ⟨_, Array.getElem?_eq_getElem (hp.lt _ _ hi).1⟩
  rw [hi] at h1
  simp [ho] at h1
 ·exact h
 ·exfalso
  obtain ⟨o, ho⟩ : ∃ o, (permOps ops l)[ops.size]? = some o := ⟨_, Array.getElem?_eq_getElem h⟩
  rw [perm_get hp, List.getElem?_eq_none (by rw [hp.len]; exact Nat.le_refl _)] at ho
  cases ho
theorem idx_out {i : Nat} (hi : ops.size ≤ i) : idx i l = ops.size := by
 rw [← hp.len]
 refine idx_none fun x hx e => ?_
 obtain ⟨k, hk⟩ := List.getElem?_of_mem hx
 have := (hp.lt k x hk).1
 omega
theorem idx_lt {i : Nat} (hi : i < ops.size) : idx i l < ops.size := by
 have := hp.inv i hi
 have := (List.getElem?_eq_some_iff.1 this).1
 rw [hp.len] at this; exact this
theorem yielded_perm (tmps : Array Value) (j : Nat) : yielded (permOps ops l) tmps (idx j l) = yielded ops tmps j := by
 have e : ((permOps ops l)[idx j l]?).bind (·.dst) = (ops[j]?).bind (·.dst) := by
  rcases Nat.lt_or_ge j ops.size with hj | hj
  ·rw [perm_idx hp hj]
   cases ops[j]? <;> rfl
  ·rw [idx_out hp hj, Array.getElem?_eq_none (by rw [perm_size hp]; exact Nat.le_refl _), Array.getElem?_eq_none hj]
 unfold yielded
 rw [e]
theorem wanted_perm (o : Oper) (tmps : Array Value) : Region.wanted (relab l o) (yielded (permOps ops l) tmps) = Region.wanted o (yielded ops tmps) := by
 unfold Region.wanted relab
 cases hg : o.guard with
 | none => rfl
 | some x => obtain ⟨j, b⟩ := x; simp only [yielded_perm hp]
def Same (listed listed' : Array Bool) : Prop := listed.size = ops.size ∧ listed'.size = ops.size ∧ ∀ i, i < ops.size → listed'.getD (idx i l) false = listed.getD i false
theorem ready_perm {listed listed' : Array Bool} (hs : Same (ops := ops) (l := l) listed listed') {i : Nat} (hi : i < ops.size) : idx i l ∈ Region.ready .any (permOps ops l) listed' ↔ i ∈ Region.ready .any ops listed := by
 obtain ⟨s1, s2, s3⟩ := hs
 rw [mem_ready, mem_ready, unlisted (by rw [s2]; exact idx_lt hp hi), unlisted (by rw [s1]; exact hi), s3 i hi, perm_idx hp hi]
 have hon : ∀ n, listed'.getD (idx n l) false = listed.getD n false := fun n => by
  rcases Nat.lt_or_ge n ops.size with hn | hn
  ·exact s3 n hn
  ·rw [idx_out hp hn]
   simp [Array.getD_eq_getD_getElem?, Array.getElem?_eq_none (show listed'.size ≤ ops.size by omega), Array.getElem?_eq_none (show listed.size ≤ n by omega)]
 obtain ⟨o, ho⟩ : ∃ o, ops[i]? = some o := ⟨_, Array.getElem?_eq_getElem hi⟩
 rw [ho]
 constructor
 ·rintro ⟨h1, o', ho', h2⟩
  simp only [Option.map_some, Option.some.injEq] at ho'
  subst ho'
  refine ⟨h1, o, rfl, fun e he hb => ?_⟩
  have := h2 { e with on := idx e.on l } (by simp only [relab, List.mem_toArray, List.mem_map, Array.mem_toList_iff]; exact ⟨e, he, rfl⟩) (by simpa [Region.binds] using hb)
  rw [← hon]; exact this
 ·rintro ⟨h1, o', ho', h2⟩
  cases ho'
  refine ⟨h1, _, rfl, fun e he hb => ?_⟩
  simp only [relab, List.mem_toArray, List.mem_map, Array.mem_toList_iff] at he
  obtain ⟨e0, he0, rfl⟩ := he
  have := h2 e0 he0 (by simpa [Region.binds] using hb)
  simp only [hon]; exact this
theorem wpOp_perm {P : Program} {Q : Exit → Act → World → Prop} {i : Nat} {K : Act → World → Prop} {a : Act} {w : World} (hi : i < ops.size) (h : wpOp P (permOps ops l) Q (idx i l) K a w) : wpOp P ops Q i K a w := by
 obtain ⟨o, ho⟩ : ∃ o, ops[i]? = some o := ⟨_, Array.getElem?_eq_getElem hi⟩
 unfold wpOp at h ⊢
 rw [perm_idx hp hi, ho] at h
 rw [ho]
 simp only [Option.map_some, wanted_perm hp] at h
 exact h
theorem wpAny_perm {P : Program} {Q : Exit → Act → World → Prop} : ∀ (fuel : Nat) (listed listed' : Array Bool) (a : Act) (w : World), Same (ops := ops) (l := l) listed listed' →
  wpAny P .any (permOps ops l) Q fuel listed' a w → wpAny P .any ops Q fuel listed a w := by
 have none_iff : ∀ {listed listed' : Array Bool}, Same (ops := ops) (l := l) listed listed' → Region.ready .any ops listed = [] → Region.ready .any (permOps ops l) listed' = [] := by
  intro listed listed' hs h
  rw [List.eq_nil_iff_forall_not_mem]
  intro k hk
  have hlt := ready_lt hk
  rw [perm_size hp] at hlt
  obtain ⟨i, hi⟩ : ∃ i, l[k]? = some i := ⟨_, List.getElem?_eq_getElem (by rw [hp.len]; exact hlt)⟩
  obtain ⟨g1, g2⟩ := hp.lt k i hi
  rw [← g2] at hk
  have := (ready_perm hp hs g1).1 hk
  rw [h] at this; cases this
 have none_iff' : ∀ {listed listed' : Array Bool}, Same (ops := ops) (l := l) listed listed' → Region.ready .any (permOps ops l) listed' = [] → Region.ready .any ops listed = [] := by
  intro listed listed' hs h
  rw [List.eq_nil_iff_forall_not_mem]
  intro i hi
  have := (ready_perm hp hs (ready_lt hi)).2 hi
  rw [h] at this; cases this
 intro fuel
 induction fuel with
 | zero => intro listed listed' a w hs h; exact ⟨none_iff' hs h.1, h.2⟩
 | succ fuel ih =>
  intro listed listed' a w hs h
  refine ⟨fun hn => h.1 (none_iff hs hn), fun i hi => ?_⟩
  have hlt := ready_lt hi
  have h1 := h.2 (idx i l) ((ready_perm hp hs hlt).2 hi)
  refine wpOp_perm hp hlt (wpOp_mono (fun a' w' h' => ih _ _ a' w' ⟨by simpa using hs.1, by simpa using hs.2.1, fun j hj => ?_⟩ h') h1)
  have k1 := listed_set (listed := listed) (i := i) (j := j) (by rw [hs.1]; exact hlt)
  have k2 := listed_set (listed := listed') (i := idx i l) (j := idx j l) (by rw [hs.2.1]; exact idx_lt hp hlt)
  rw [hs.2.2 j hj] at k2
  have k3 : idx j l = idx i l ↔ j = i := by
   constructor
   ·intro e
    have g1 := hp.inv j hj
    have g2 := hp.inv i hlt
    rw [e, g2] at g1
    exact (Option.some.inj g1).symm
   ·rintro rfl; rfl
  rw [k3] at k2
  cases hb : (listed.setIfInBounds i true).getD j false with
  | true => exact k2.2 (k1.1 hb)
  | false =>
   cases hb' : (listed'.setIfInBounds (idx i l) true).getD (idx j l) false with
   | false => rfl
   | true => rw [k1.2 (k2.1 hb')] at hb; cases hb
end
def dropA (all : List Oper) (ops : Array Oper) (o : Oper) : Array Edge := match o.op with
 | .store .. => o.after
 | _ => ⟨o.after.toList.filter fun e => !(match ops[e.on]? with | some s => isWS all s | none => false)⟩
def dropE (ops : Array Oper) : Array Oper := ⟨ops.toList.map fun o => { o with after := dropA ops.toList ops o }⟩
def acycB (ops : Array Oper) : Bool := (List.range ops.size).all fun i => match ops[i]? with
 | some o => o.after.toList.all fun e => !(Region.binds .any e) || Nat.blt e.on i
 | none => true
theorem dropE_size (ops : Array Oper) : (dropE ops).size = ops.size := by simp [dropE]
theorem dropE_get {ops : Array Oper} {i : Nat} {o : Oper} (h : ops[i]? = some o) : (dropE ops)[i]? = some { o with after := dropA ops.toList ops o } := by
 simp only [dropE]
 rw [← Array.getElem?_toList]
 simp only [List.getElem?_map]
 rw [Array.getElem?_toList, h]; rfl
theorem dropA_sub {all : List Oper} {ops : Array Oper} {o : Oper} : ∀ e ∈ dropA all ops o, e ∈ o.after := by
 intro e he
 unfold dropA at he
 split at he
 ·exact he
 ·have := Array.mem_toList_iff.2 he
  exact Array.mem_toList_iff.1 (List.mem_filter.1 this).1
theorem ready_drop {ops : Array Oper} {listed : Array Bool} {i : Nat} (h : i ∈ Region.ready .any ops listed) : i ∈ Region.ready .any (dropE ops) listed := by
 obtain ⟨h1, o, ho, h2⟩ := mem_ready.1 h
 exact mem_ready.2 ⟨h1, _, dropE_get ho, fun e he hb => h2 e (dropA_sub e he) hb⟩
theorem yielded_drop (ops : Array Oper) (tmps : Array Value) : yielded (dropE ops) tmps = yielded ops tmps := by
 funext j
 unfold yielded
 cases h : ops[j]? with
 | some o => rw [dropE_get h]; rfl
 | none =>
  have : (dropE ops)[j]? = none := by
   rw [Array.getElem?_eq_none_iff, dropE_size]
   exact Array.getElem?_eq_none_iff.1 h
  rw [this]
theorem wpOp_drop {P : Program} {ops : Array Oper} {Q : Exit → Act → World → Prop} {i : Nat} {K : Act → World → Prop} {a : Act} {w : World} (h : wpOp P (dropE ops) Q i K a w) : wpOp P ops Q i K a w := by
 unfold wpOp at h ⊢
 cases ho : ops[i]? with
 | some o =>
  rw [dropE_get ho] at h
  simp only at h ⊢
  rw [yielded_drop] at h
  exact h
 | none =>
  have : (dropE ops)[i]? = none := by
   rw [Array.getElem?_eq_none_iff, dropE_size]
   exact Array.getElem?_eq_none_iff.1 ho
  rw [this] at h
  exact h
theorem wpAny_drop {P : Program} {ops : Array Oper} {Q : Exit → Act → World → Prop} (hac : acycB ops = true) : ∀ (fuel : Nat) (listed : Array Bool) (a : Act) (w : World), listed.size = ops.size → wpAny P .any (dropE ops) Q fuel listed a w → wpAny P .any ops Q fuel listed a w
 | 0, listed, a, w, _, h => by
  refine ⟨?_, h.2⟩
  rw [List.eq_nil_iff_forall_not_mem]
  intro j hj
  have := ready_drop hj
  rw [h.1] at this; cases this
 | fuel + 1, listed, a, w, hs, h => by
  refine ⟨fun hnil => h.1 ?_, fun i hi => ?_⟩
  ·-- all have come up
   have hall : ∀ n, n ≤ ops.size → ∀ i, i < n → listed.getD i true = true := by
    intro n
    induction n with
    | zero => intro _ i hi; omega
    | succ n ih =>
     intro hn i hi
     by_cases e : i < n
     ·exact ih (by omega) i e
     ·have : i = n := by omega
      subst this
      cases hb : listed.getD i true with
      | true => rfl
      | false =>
       exfalso
       obtain ⟨o, ho⟩ : ∃ o, ops[i]? = some o := ⟨_, Array.getElem?_eq_getElem (by omega)⟩
       have hm : i ∈ Region.ready .any ops listed := mem_ready.2 ⟨hb, o, ho, fun e he hbd => by
        have h1 := List.all_eq_true.1 hac i (List.mem_range.2 (by omega))
        simp only [ho] at h1
        have h2 := List.all_eq_true.1 h1 e (Array.mem_toList_iff.2 he)
        rw [hbd] at h2
        have hlt : e.on < i := by simpa [Nat.blt_eq] using h2
        have := ih (by omega) e.on hlt
        have hin : e.on < listed.size := by omega
        rw [Array.getD_eq_getD_getElem?, Array.getElem?_eq_getElem hin] at this ⊢
        exact this⟩
       rw [hnil] at hm; cases hm
   rw [List.eq_nil_iff_forall_not_mem]
   intro j hj
   obtain ⟨h1, o, ho, _⟩ := mem_ready.1 hj
   have hlt : j < ops.size := by have := (Array.getElem?_eq_some_iff.1 ho).1; rwa [dropE_size] at this
   have := hall ops.size (Nat.le_refl _) j hlt
   rw [h1] at this; cases this
  ·exact wpOp_mono (fun a' w' h' => wpAny_drop hac fuel _ a' w' (by simpa using hs) h') (wpOp_drop (h.2 i (ready_drop hi)))
end Go.Ab
