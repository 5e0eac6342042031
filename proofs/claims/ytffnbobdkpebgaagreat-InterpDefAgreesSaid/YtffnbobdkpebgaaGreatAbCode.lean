/- The abstract machine: code with branches and loops. -/
import Derived.Test.YtffnbobdkpebgaaGreatAbPerm
set_option linter.unusedVariables false
namespace Go.Ab
open Go.RowKit
def StEq (τ σ : St) : Prop := τ.n = σ.n ∧ τ.h = σ.h ∧ ∀ t, τ.get t = σ.get t
theorem StEq.le {τ σ : St} (h : StEq τ σ) : Le σ τ := Le.same h.1 h.2.1 fun t => .inl (h.2.2 t)
theorem StepOK.eq {P : Program} {o : Oper} {τ σ : St} {v : AV} {news : Heap} (he : StEq τ σ) (h : StepOK P o τ v news) : StepOK P o σ v news := by
 intro S ρ F H a w next Q ok hs hn ht hh hf hk
 exact h S ρ F H a w next Q ok (by rw [he.2.1]; exact hs) hn (fun t htm => by rw [he.2.2]; exact ht t htm) hh hf hk
theorem StEq.put {τ σ : St} (h : StEq τ σ) (d : Option Nat) (v : AV) : StEq (τ.put d v) (σ.put d v) := by
 obtain ⟨h1, h2, h3⟩ := h
 refine ⟨by rw [put_n, put_n]; exact h1, by rw [put_h, put_h]; exact h2, fun t => ?_⟩
 cases d with
 | none => exact h3 t
 | some d =>
  by_cases e : d = t
  ·subst e; rw [get_put_same, get_put_same]
  ·rw [get_put_other _ _ e, get_put_other _ _ e]; exact h3 t
theorem StEq.add {τ σ : St} (h : StEq τ σ) (news : Heap) : StEq (τ.add news) (σ.add news) := ⟨h.1, by simp only [St.add]; rw [h.2.1], h.2.2⟩
theorem StEq.after {τ σ : St} (h : StEq τ σ) (o : Oper) : ∀ q, StEq (after1 τ o q) (after1 σ o q)
 | none => h.put _ _
 | some (v, news) => (h.put _ _).add _
theorem pre_elim {P : Program} {tab : Tab} (htab : tabCheck P tab = true) {wd : List Nat} {ops : Array Oper} {K : St → Prop} : ∀ (l : List Oper) (τ σ : St), StEq τ σ → awpPre P tab wd ops l K τ →
  ∃ (S : Nat → St) (p : Nat → Option (AV × Heap)), S 0 = σ ∧ (∀ i o, l[i]? = some o → PickOK P ops o (S i) (p i) ∧ S (i + 1) = after1 (S i) o (p i)) ∧ ∃ τ', K τ' ∧ StEq τ' (S l.length)
 | [], τ, σ, he, h => ⟨fun _ => σ, fun _ => none, rfl, by simp, τ, h, he⟩
 | o :: rest, τ, σ, he, h => by
  obtain ⟨σ1, _, heq, hcase⟩ := guardK_elim (show guardK ops o _ _ τ from h)
  have he1 : StEq σ1 σ := ⟨heq.1.trans he.1, heq.2.1.trans he.2.1, fun t => (heq.2.2 t).trans (he.2.2 t)⟩
  have build : ∀ q, PickOK P ops o σ q → (∃ τ1, awpPre P tab wd ops rest K τ1 ∧ StEq τ1 (after1 σ o q)) →
    ∃ (S : Nat → St) (p : Nat → Option (AV × Heap)), S 0 = σ ∧ (∀ i o', (o :: rest)[i]? = some o' → PickOK P ops o' (S i) (p i) ∧ S (i + 1) = after1 (S i) o' (p i)) ∧ ∃ τ', K τ' ∧ StEq τ' (S (o :: rest).length) := by
   rintro q hq ⟨τ1, h1, he2⟩
   obtain ⟨S, p, hS0, hSp, τ', hK, hE⟩ := pre_elim htab rest τ1 _ he2 h1
   refine ⟨fun i => match i with | 0 => σ | i + 1 => S i, fun i => match i with | 0 => q | i + 1 => p i, rfl, fun i o' ho' => ?_, τ', hK, hE⟩
   cases i with
   | zero => simp at ho'; subst ho'; exact ⟨hq, hS0⟩
   | succ i => exact hSp i o' (by simpa using ho')
  rcases hcase with ⟨hrun, hg⟩ | ⟨hskip, j, want, d, hg, hd, hb⟩
  ·obtain ⟨v, news, hs, hk⟩ := preK_elim htab hrun
   split at hk
   ·rename_i h1 h2
    rw [putK_eq, addK_eq] at hk
    refine build (some (v, news)) ⟨fun j want e => ?_, hs.eq he1, ?_, ?_⟩ ⟨_, hk, he1.after o (some (v, news))⟩
    ·obtain ⟨d, hd, hb⟩ := hg j want e
     exact ⟨d, hd, by rw [← he.2.2]; exact hb⟩
    ·cases hod : o.dst with
     | none => rfl
     | some d => rw [hod] at h1; simp only [dstOk] at h1 ⊢; rw [← he1.1]; exact h1
    ·rw [← he1.2.1]; exact freshB_spec h2
   ·exact hk.elim
  ·split at hskip
   ·rename_i hdst
    rw [putK_eq] at hskip
    refine build none ⟨j, want, d, hg, hd, by rw [← he.2.2]; exact hb, ?_⟩ ⟨_, hskip, he1.after o none⟩
    cases hod : o.dst with
    | none => rfl
    | some d' => rw [hod] at hdst; simp only [dstOk] at hdst ⊢; rw [← he1.1]; exact hdst
   ·exact hskip.elim
def preLen : List Oper → Nat
 | [] => 0
 | o :: r => match isMut o with
  | true => 0
  | false => preLen r + 1
theorem preLen_le : ∀ (l : List Oper), preLen l ≤ l.length
 | [] => Nat.le_refl _
 | o :: r => by
  simp only [preLen]
  split
  ·simp
  ·have := preLen_le r; simp; omega
def makes (o : Oper) : Bool := match o.op with
 | .alloc _ | .box .. | .buildSlice .. | .call _ => true
 | _ => false
def prepAll : List Oper → St → St
 | [], σ => σ
 | o :: r, σ => match makes o with
  | true => prepAll r (prep o.dst σ)
  | false => prepAll r σ
theorem Le.prepAll : ∀ (l : List Oper) (σ : St), Le σ (prepAll l σ)
 | [], σ => Le.refl _
 | o :: r, σ => by
  simp only [Ab.prepAll]
  split
  ·exact (Le.prep _ _).trans (Le.prepAll r _)
  ·exact Le.prepAll r σ
def prepAllK : List Oper → St → (St → Prop) → Prop
 | [], σ, K => K σ
 | o :: r, σ, K => match makes o with
  | true => prepK o.dst σ fun σ' => prepAllK r σ' K
  | false => prepAllK r σ K
theorem prepAllK_eq : ∀ (l : List Oper) (σ : St) (K : St → Prop), prepAllK l σ K = K (prepAll l σ)
 | [], σ, K => rfl
 | o :: r, σ, K => by
  simp only [prepAllK, Ab.prepAll, prepK_eq]
  cases makes o with
  | true => simp only; rw [prepAllK_eq r]
  | false => simp only; rw [prepAllK_eq r]
theorem left_le (n : Nat) (listed : Array Bool) : left n listed ≤ n := by
 unfold left
 have := List.length_filter_le (fun i => !listed.getD i false) (List.range n)
 simpa using this
def fOps : List Oper → (List Oper → Prop) → Prop
 | [], k => k []
 | o :: r, k => fOps r fun r' => k (o :: r')
theorem fOps_eq : ∀ (l : List Oper) (k : List Oper → Prop), fOps l k = k l
 | [], k => rfl
 | o :: r, k => by simp only [fOps]; rw [fOps_eq r]
def order (ops : Array Oper) : List Nat := pureFirst ops.toList ops.toList 0 [] [] []
def allJ : List C → Bool
 | [] => true
 | .junk :: r => allJ r
 | _ => false
theorem allJ_spec : ∀ {l : List C}, allJ l = true → l = List.replicate l.length .junk
 | [], _ => rfl
 | .junk :: r, h => by
  simp only [List.length_cons, List.replicate_succ]
  rw [← allJ_spec (l := r) h]
 | .d _ :: r, h => by simp [allJ] at h
 | .nil _ :: r, h => by simp [allJ] at h
 | .own _ _ :: r, h => by simp [allJ] at h
 | .sub _ _ _ _ :: r, h => by simp [allJ] at h
 | .ref _ _ _ _ :: r, h => by simp [allJ] at h
 | .vrow _ _ _ :: r, h => by simp [allJ] at h
def wst (P : Program) (tab : Tab) : List Oper → (St → Prop) → St → Prop
 | [], K, σ => K σ
 | o :: r, K, σ => match o.op with
  | .store t x y => match look tab t, opnd tab σ 0 x, cellsOf (opnd tab σ t y) with
   | some i, .s (.c (.ref id 0 s 0)), some ys => match look σ.h id with
    | some (.var cs) => match allJ cs, Nat.beq ys.length i.size, Nat.beq cs.length i.size, liveAll ys && !(Nat.beq ys.length 0) with
     | true, true, true, true => fCs ys fun ys' => updK σ id (.var ys') (wst P tab r K)
     | _, _, _, _ => False
    | _ => False
   | _, _, _ => False
  | _ => False
theorem wst_elim {P : Program} {tab : Tab} (htab : tabCheck P tab = true) {K : St → Prop} : ∀ {l : List Oper} {σ : St}, wst P tab l K σ → ∃ ws : List (Nat × List C), ws.length = l.length ∧
  (∀ (k : Nat) o, l[k]? = some o → ∃ t x y ti id s n ys, o.op = .store t x y ∧ TIOk P t ti ∧ opnd tab σ 0 x = .s (.c (.ref id 0 s 0)) ∧ look σ.h id = some (.var (List.replicate n .junk)) ∧
   cellsOf (opnd tab σ t y) = some ys ∧ ys.length = ti.size ∧ ys.length = n ∧ liveAll ys = true ∧ ws[k]? = some (id, ys)) ∧
  (∀ (j k : Nat) id ys ys', ws[j]? = some (id, ys) → ws[k]? = some (id, ys') → j = k) ∧ K { σ with h := wHeap σ.h ws }
 | [], σ, h => ⟨[], rfl, by simp, by simp, h⟩
 | o :: r, σ, h => by
  simp only [wst] at h
  split at h
  ·rename_i t x y hop
   split at h
   ·rename_i i id s ys hi hx hy
    split at h
    ·rename_i cs hl
     split at h
     ·rename_i hj h1 h2 h3
      rw [fCs_eq, updK_eq] at h
      simp only [Bool.and_eq_true] at h3
      have h1 := Nat.eq_of_beq_eq_true h1
      have h2 := Nat.eq_of_beq_eq_true h2
      have hne : ys.length ≠ 0 := fun h0 => by rw [h0] at h3; simp at h3
      rw [allJ_spec hj] at hl
      obtain ⟨ws, k1, k2, k3, k4⟩ := wst_elim htab h
      have hid : ∀ (k : Nat) id' ys', ws[k]? = some (id', ys') → id' ≠ id := by
       intro k id' ys' hk e
       subst e
       have hlt := (List.getElem?_eq_some_iff.1 hk).1
       obtain ⟨o', ho'⟩ : ∃ o', r[k]? = some o' := ⟨_, List.getElem?_eq_getElem (by omega)⟩
       obtain ⟨t', x', y', ti', id2, s', n', ys2, _, _, _, hl2, _, _, _, _, hw2⟩ := k2 k o' ho'
       rw [hk] at hw2; cases hw2
       rw [look_upd_same hl] at hl2
       cases hl2
       cases n' with
       | zero => simp at hne
       | succ n' => simp [List.replicate_succ, liveAll, C.live] at h3
      refine ⟨(id, ys) :: ws, by simp [k1], fun k o' ho' => ?_, fun j k id' a b hj' hk' => ?_, k4⟩
      ·cases k with
       | zero =>
        simp at ho'; subst ho'
        exact ⟨t, x, y, i, id, s, cs.length, ys, hop, tabOk_look htab hi, hx, hl, hy, h1, by omega, h3.1, rfl⟩
       | succ k =>
        obtain ⟨t', x', y', ti', id2, s', n', ys2, g1, g2, g3, g4, g5, g6, g7, g8, g9⟩ := k2 k o' (by simpa using ho')
        have := hid k id2 ys2 g9
        refine ⟨t', x', y', ti', id2, s', n', ys2, g1, g2, g3, ?_, g5, g6, g7, g8, by simpa using g9⟩
        rwa [look_upd_other (Ne.symm this)] at g4
      ·cases j with
       | zero =>
        cases k with
        | zero => rfl
        | succ k => simp at hj' hk'; exact absurd hj'.1.symm (hid k id' b hk')
       | succ j =>
        cases k with
        | zero => simp at hj' hk'; exact absurd hk'.1.symm (hid j id' a hj')
        | succ k => rw [k3 j k id' a b (by simpa using hj') (by simpa using hk')]
     ·exact h.elim
    ·exact h.elim
   ·exact h.elim
  ·exact h.elim
theorem opnd_eq {τ σ : St} (h : ∀ t, τ.get t = σ.get t) (tab : Tab) (ty : Nat) (x : Operand) : opnd tab τ ty x = opnd tab σ ty x := by
 cases x with
 | tmp t => exact h t
 | const v => rfl
 | global g => rfl
 | func f => rfl
def wsLen (all : List Oper) : List Oper → Nat
 | [] => 0
 | o :: r => match isWS all o with
  | true => wsLen all r + 1
  | false => 0
theorem wsLen_le (all : List Oper) : ∀ (l : List Oper), wsLen all l ≤ l.length
 | [] => Nat.le_refl _
 | o :: r => by
  simp only [wsLen]
  split
  ·have := wsLen_le all r; simp; omega
  ·simp
def wSlots : List Oper → List Nat
 | [] => []
 | o :: r => match o.op with
  | .store _ (.tmp d) _ => d :: wSlots r
  | _ => wSlots r
def qLen (l : List Oper) : Nat := wsLen l (l.drop (preLen l))
theorem fm_congr {α β : Type} {f g : α → Option β} : ∀ {l : List α}, (∀ i ∈ l, f i = g i) → l.filterMap f = l.filterMap g
 | [], _ => rfl
 | x :: l, h => by rw [List.filterMap_cons, List.filterMap_cons, h x (by simp), fm_congr (fun i hi => h i (by simp [hi]))]
theorem wList_of (ws : List (Nat × List C)) (m : Nat) : wList (fun i => match Nat.ble m i with | true => ws[i - m]? | false => none) m ws.length = ws := by
 unfold wList
 have key : ∀ (l : List (Nat × List C)) (k : Nat), (List.range' k l.length).filterMap (fun i => match Nat.ble k i with | true => l[i - k]? | false => none) = l := by
  intro l
  induction l with
  | nil => intro k; rfl
  | cons x l ih =>
   intro k
   rw [List.length_cons, List.range'_succ, List.filterMap_cons]
   have h0 : Nat.ble k k = true := by simp
   simp only [h0, Nat.sub_self, List.getElem?_cons_zero]
   have e : ∀ i ∈ List.range' (k + 1) l.length, (match Nat.ble k i with | true => (x :: l)[i - k]? | false => none) = (match Nat.ble (k + 1) i with | true => l[i - (k + 1)]? | false => none) := by
    intro i hi
    rw [List.mem_range'_1] at hi
    have h1 : Nat.ble k i = true := by simp; omega
    have h2 : Nat.ble (k + 1) i = true := by simp; omega
    rw [h1, h2]
    simp only
    rw [show i - k = (i - (k + 1)) + 1 by omega, List.getElem?_cons_succ]
   rw [fm_congr e, ih (k + 1)]
 exact key ws m
def opsAt (ops : Array Oper) : List Nat → List Oper
 | [] => []
 | i :: U => match ops[i]? with
  | some o => o :: opsAt ops U
  | none => opsAt ops U
def jkT (ops : Array Oper) : List Nat → St → (St → Prop) → Prop
 | [], σ, K => K σ
 | i :: U, σ, K => match ops[i]? with
  | some o => putK σ o.dst .junk fun σ' => jkT ops U σ' K
  | none => jkT ops U σ K
theorem jkT_eq (ops : Array Oper) : ∀ (U : List Nat) (σ : St) (K : St → Prop), jkT ops U σ K = K (junkT ops U σ)
 | [], σ, K => rfl
 | i :: U, σ, K => by
  simp only [jkT, junkT]
  cases ops[i]? with
  | some o => simp only [putK_eq]; rw [jkT_eq ops U]
  | none => simp only; rw [jkT_eq ops U]
def behind (ops : Array Oper) (m : Nat) (U : List Nat) : List Oper := opsAt ops (m :: U) ++ ops.toList.drop (m + 1)
def lateGo (P : Program) (tab : Tab) (ops : Array Oper) (m : Nat) (K : St → Prop) : List Nat → St → Prop
 | [], τ => awpOps P tab ops (ops.toList.drop m) K τ
 | i :: U, τ => (jkT ops (i :: U) τ (awpOps P tab ops (behind ops m (i :: U)) K)) ∧ lateGo P tab ops m K U τ
def lateT (P : Program) (tab : Tab) (ops : Array Oper) (m q : Nat) (K : St → Prop) (K0 : St → Prop) (τ : St) : Prop := match lateRs ops m q with
 | [] => K0 τ
 | L => lateGo P tab ops m K L τ
theorem lateGo_suffix {P : Program} {tab : Tab} {ops : Array Oper} {m : Nat} {K : St → Prop} {τ : St} : ∀ {L : List Nat}, lateGo P tab ops m K L τ → awpOps P tab ops (ops.toList.drop m) K τ ∧ ∀ U, U ≠ [] → U <:+ L → awpOps P tab ops (behind ops m U) K (junkT ops U τ)
 | [], h => ⟨h, fun U hne hs => absurd (List.suffix_nil.1 hs) hne⟩
 | i :: L, h => by
  obtain ⟨h1, h2⟩ := h
  obtain ⟨h3, h4⟩ := lateGo_suffix h2
  refine ⟨h3, fun U hne hs => ?_⟩
  rcases List.suffix_cons_iff.1 hs with rfl | hs
  ·rw [jkT_eq] at h1; exact h1
  ·exact h4 U hne hs
theorem opsAt_all {ops : Array Oper} : ∀ {U : List Nat}, (∀ i ∈ U, i < ops.size) → All2 (fun o k => ops[k]? = some o) (opsAt ops U) U
 | [], _ => trivial
 | i :: U, h => by
  have hi := h i (by simp)
  simp only [opsAt, Array.getElem?_eq_getElem hi]
  exact ⟨Array.getElem?_eq_getElem hi, opsAt_all fun j hj => h j (by simp [hj])⟩
theorem drop_all {ops : Array Oper} (k : Nat) : All2 (fun o k => ops[k]? = some o) (ops.toList.drop k) (List.range' k (ops.size - k)) := by
 refine All2.of_get (by simp) fun j o i ho hi => ?_
 rw [List.getElem?_range' (by have := (List.getElem?_eq_some_iff.1 hi).1; simpa using this)] at hi
 simp only [Option.some.injEq] at hi
 subst hi
 rw [List.getElem?_drop] at ho
 simpa using ho
theorem StEq.junkT {ops : Array Oper} : ∀ {U : List Nat} {τ σ : St}, StEq τ σ → StEq (junkT ops U τ) (junkT ops U σ)
 | [], _, _, h => h
 | i :: U, τ, σ, h => by
  simp only [Ab.junkT]
  split
  ·exact StEq.junkT (h.put _ _)
  ·exact StEq.junkT h
theorem any_draw {P : Program} {tab : Tab} (htab : tabCheck P tab = true) (hm : P.follows .mixedOrders = true) {wd : List Nat} {ops : Array Oper} {m q : Nat} (hmq : m + q ≤ ops.size) (hok : drawOk ops m q = true) {V : Nat → Prop} {F0 : Base} {w0 : World} {K : St → Prop} {Q : Exit → Act → World → Prop}
  (hQ : ∀ σ a w, K σ → Holds' V F0 w0 σ a w → Q .normal a w) {σ : St} {a : Act} {w : World}
  (h : awpPre P tab wd ops (ops.toList.take m) (lateT P tab ops m q K (wst P tab ((ops.toList.drop m).take q) (awpOps P tab ops (ops.toList.drop (m + q)) K))) σ) (hh : Holds' V F0 w0 σ a w) :
  wpAny P .any ops (fun e a w => e = .normal ∧ Q .normal a w) ops.size (Array.replicate ops.size false) a { w with drawn := w.drawn + 1 } := by
 replace hQ : ∀ σ a w, K σ → Holds' V F0 w0 σ a w → (fun (e : Exit) a w => e = .normal ∧ Q .normal a w) .normal a w := fun σ a w hk hh => ⟨rfl, hQ σ a w hk hh⟩
 obtain ⟨S, p, hS0, hSp, τ', hK, hE⟩ := pre_elim htab _ _ σ ⟨rfl, rfl, fun _ => rfl⟩ h
 have hmsz : m ≤ ops.size := by omega
 have hlen : (ops.toList.take m).length = m := by simp; omega
 have hget : ∀ i o, i < m → ops[i]? = some o → (ops.toList.take m)[i]? = some o := fun i o hi ho => by
  rw [List.getElem?_take, if_pos hi]; simpa using ho
 have T : Text P ops m S p := ⟨hmsz, fun i o hi ho => (hSp i o (hget i o hi ho)).1, fun i o hi ho => (hSp i o (hget i o hi ho)).2⟩
 have D := drawOk_spec hok
 rw [hlen] at hE
 have hlate : ∀ U, U ≠ [] → U <:+ lateRs ops m q → ∀ a w, Holds' V F0 w0 (junkT ops U (S m)) a w → wpOps P ops (fun e a w => e = .normal ∧ Q .normal a w) (m :: (U ++ List.range' (m + 1) (ops.size - (m + 1)))) a w := by
  intro U hne hsuf a w hhU
  unfold lateT at hK
  split at hK
  ·rename_i hl; rw [hl] at hsuf; exact absurd (List.suffix_nil.1 hsuf) hne
  ·obtain ⟨_, hU⟩ := lateGo_suffix hK
   have h1 := hU U hne hsuf
   have hUlt : ∀ i ∈ U, i < ops.size := fun i hi => by
    have := lateR_lt (lateRs_mem.1 (hsuf.subset hi))
    omega
   have hmlt : m < ops.size := by
    have hne2 : lateRs ops m q ≠ [] := fun h0 => by rw [h0] at hsuf; exact hne (List.suffix_nil.1 hsuf)
    obtain ⟨l, hl⟩ := List.exists_mem_of_ne_nil _ hne2
    exact lateR_size (lateRs_mem.1 hl)
   have hall : All2 (fun o k => ops[k]? = some o) (behind ops m U) (m :: (U ++ List.range' (m + 1) (ops.size - (m + 1)))) := by
    have := All2.append (opsAt_all (ops := ops) (U := m :: U) (fun i hi => by rcases List.mem_cons.1 hi with rfl | hi; exact hmlt; exact hUlt i hi)) (drop_all (ops := ops) (m + 1))
    exact this
   exact awpOps_list htab (Q := fun e a w => e = .normal ∧ Q .normal a w) hQ _ _ hall _ a w h1 (((StEq.junkT hE).le) V F0 w0 a w hhU)
 have hK : wst P tab ((ops.toList.drop m).take q) (awpOps P tab ops (ops.toList.drop (m + q)) K) τ' := by
  unfold lateT at hK
  split at hK
  ·exact hK
  ·rename_i hne
   obtain ⟨h1, _⟩ := lateGo_suffix hK
   obtain ⟨l, hl⟩ := List.exists_mem_of_ne_nil _ hne
   have hq0 := (lateR_lt (lateRs_mem.1 hl)).1
   subst hq0
   exact h1
 obtain ⟨ws, hwl, hws, hwi, hK⟩ := wst_elim htab hK
 have hwlen : ws.length = q := by rw [hwl]; simp; omega
 have hW : Stores tab P ops m q (S m) (fun i => match Nat.ble m i with | true => ws[i - m]? | false => none) := by
  refine ⟨fun i h1 h2 => ?_, fun i j id ys ys' hi hj => ?_⟩
  ·obtain ⟨o, ho⟩ : ∃ o, ops[i]? = some o := ⟨_, Array.getElem?_eq_getElem (by omega)⟩
   have hgo : ((ops.toList.drop m).take q)[i - m]? = some o := by
    rw [List.getElem?_take, if_pos (by omega), List.getElem?_drop, show m + (i - m) = i by omega]; simpa using ho
   obtain ⟨t, x, y, ti, id, s, n, ys, g1, g2, g3, g4, g5, g6, g7, g8, g9⟩ := hws (i - m) o hgo
   refine ⟨o, t, x, y, ti, id, s, n, ys, ho, g1, g2, by rw [← opnd_eq hE.2.2]; exact g3, by rw [← hE.2.1]; exact g4, by rw [← opnd_eq hE.2.2]; exact g5, g6, g7, g8, ?_⟩
   have hb : Nat.ble m i = true := by simpa using h1
   simp only [hb]; exact g9
  ·split at hi
   ·rename_i hbi
    split at hj
    ·rename_i hbj
     have := hwi _ _ _ _ _ hi hj
     have b1 := Nat.le_of_ble_eq_true hbi
     have b2 := Nat.le_of_ble_eq_true hbj
     omega
    ·cases hj
   ·cases hi
 have hh' := hh
 rw [← hS0] at hh'
 refine any_prefix T D hmq hW hlate (fun c a w h => by cases h.1) (fun a' w' hm' => ?_) _ _ _ _ (left_le _ _) (V := V) (F0 := F0) (w0 := w0) ?_
 ·have hwl2 : wList (fun i => match Nat.ble m i with | true => ws[i - m]? | false => none) m q = ws := by rw [← hwlen]; exact wList_of ws m
  rw [hwl2] at hm'
  have hE2 : StEq { τ' with h := wHeap τ'.h ws } { S m with h := wHeap (S m).h ws } := ⟨hE.1, by simp only; rw [hE.2.1], hE.2.2⟩
  have h1 := hE2.le V F0 w0 a' w' hm'
  have := awpOps_sound htab (Q := fun e a w => e = .normal ∧ Q .normal a w) hQ (ops.toList.drop (m + q)) (m + q) (fun j => by rw [List.getElem?_drop]; simp) (by simp; omega) _ a' w' hK h1
  rw [List.length_drop, Array.length_toList] at this
  exact this
 ·obtain ⟨⟨ρ, F, hs, h1, h2⟩, hk⟩ := hh'
  have hno : ∀ i, ¬ (Array.replicate ops.size false).getD i false = true := fun i => by
   by_cases hi : i < ops.size <;> simp [hi]
  refine ⟨by simp, fun i o hi => absurd hi (hno i), fun i hi => absurd hi (hno i), ρ, F, hs.ok.drew, hs.size, hs.defers, fun t => .inr ⟨fun i o hi => absurd hi (hno i), ?_⟩, fun id b N hid ob hl => ?_, fun id x hid => .inl (hs.dom id x hid), fun i id ys _ hi => absurd hi (hno i), h1, h2, hk.trans ⟨rfl, rfl, rfl, Nat.le_refl _, fun _ _ => rfl⟩⟩
  ·exact ARel.mono (w := w) (w' := { w with drawn := w.drawn + 1 }) (fun _ _ h => h) (fun _ h => h) (fun _ _ => rfl) (T.sub m (Nat.zero_le _) (Nat.le_refl _)) (hs.tmp t)
  ·obtain ⟨ob', hob'⟩ := hs.dom id _ hid
   have := T.sub m (Nat.zero_le _) (Nat.le_refl _) id ob' hob'
   rw [hl] at this; cases this
   exact ORel.mono (w := w) (w' := { w with drawn := w.drawn + 1 }) (fun _ _ h => h) (fun _ h => h) (fun _ _ => rfl) (T.sub m (Nat.zero_le _) (Nat.le_refl _)) rfl (hs.obj id b N hid ob hob')
def jk (σ : St) (d : Nat) : St := match σ.get d with
 | .s (.c (.ref id 0 _ 0)) => match look σ.h id with
  | some (.var cs) => { σ with h := upd σ.h id (.var (List.replicate cs.length .junk)) }
  | _ => σ
 | _ => σ
theorem Le.jk (σ : St) (d : Nat) : Le σ (jk σ d) := by
 unfold Ab.jk
 split
 ·rename_i id s hg
  split
  ·rename_i cs hl
   rintro V F0 w0 a w ⟨⟨ρ, F, hs, h1, h2⟩, hk⟩
   have hsh := shape_var (cs' := List.replicate cs.length .junk) hl
   refine ⟨⟨ρ, F, ⟨hs.ok, hs.size, fun t => ARel.shape (fun _ _ => rfl) hsh (hs.tmp t), fun i b N hid ob ho => ?_, fun i x hid => ?_, hs.defers⟩, pin_sub h1 look_upd_some, h2⟩, hk⟩
   ·by_cases e : id = i
    ·subst e
     rw [look_upd_same hl] at ho
     cases ho
     obtain ⟨c, T, hc, hcn, hr⟩ := hs.obj id b N hid _ hl
     refine ⟨c, T, hc, hcn, All2.of_get (by rw [List.length_replicate]; exact All2.length hr) fun j u cc _ hcc => ?_⟩
     have := List.mem_of_getElem? hcc
     rw [List.mem_replicate] at this
     rw [this.2]; trivial
    ·rw [look_upd_other e] at ho
     exact ORel.shape (fun _ _ => rfl) hsh rfl (hs.obj i b N hid ob ho)
   ·obtain ⟨ob, hob⟩ := hs.dom i x hid
    by_cases e : id = i
    ·subst e; exact ⟨_, look_upd_same hl⟩
    ·exact ⟨ob, by simp only; rw [look_upd_other e]; exact hob⟩
  ·exact Le.refl _
 ·exact Le.refl _
def jkK (K : St → Prop) : List Nat → St → Prop
 | [], σ => K σ
 | d :: r, σ => match σ.get d with
  | .s (.c (.ref id 0 _ 0)) => match look σ.h id with
   | some (.var cs) => updK σ id (.var (List.replicate cs.length .junk)) (jkK K r)
   | _ => jkK K r σ
  | _ => jkK K r σ
def jkAll : List Nat → St → St
 | [], σ => σ
 | d :: r, σ => jkAll r (jk σ d)
theorem Le.jkAll : ∀ (l : List Nat) (σ : St), Le σ (jkAll l σ)
 | [], σ => Le.refl _
 | d :: r, σ => (Le.jk σ d).trans (Le.jkAll r _)
theorem jkK_eq (K : St → Prop) : ∀ (l : List Nat) (σ : St), jkK K l σ = K (jkAll l σ)
 | [], σ => rfl
 | d :: r, σ => by
  simp only [jkK, jkAll, jk]
  split
  ·split
   ·rw [updK_eq, jkK_eq K r]
   ·rw [jkK_eq K r]
  ·rw [jkK_eq K r]
def awpDraw (P : Program) (tab : Tab) (l : List Oper) (K : St → Prop) (σ : St) : Prop :=
 prepAllK l σ (jkK (awpPre P tab (wSlots ((l.drop (preLen l)).take (qLen l))) ⟨l⟩ (l.take (preLen l)) (lateT P tab ⟨l⟩ (preLen l) (qLen l) K (wst P tab ((l.drop (preLen l)).take (qLen l)) (awpOps P tab ⟨l⟩ (l.drop (preLen l + qLen l)) K)))) (wSlots ((l.drop (preLen l)).take (qLen l))))
theorem region_draw {P : Program} {tab : Tab} (htab : tabCheck P tab = true) (hm : P.follows .mixedOrders = true) {id : Nat} {ops0 ops : Array Oper} (h0 : ops = dropE ops0) (hac : acycB ops0 = true) (hpm : permOk ops (order ops) = true) (hok : drawOk (permOps ops (order ops)) (preLen (permOps ops (order ops)).toList) (qLen (permOps ops (order ops)).toList) = true)
  {V : Nat → Prop} {F0 : Base} {w0 : World} {K : St → Prop} {Q : Exit → Act → World → Prop}
  (hQ : ∀ σ a w, K σ → Holds' V F0 w0 σ a w → Q .normal a w) {σ : St} {a : Act} {w : World}
  (h : awpDraw P tab (pick ops (order ops) (order ops)) K σ) (hh : Holds' V F0 w0 σ a w) : (Code.region id ops0 true).wp P Q a w := by
 have hp := permOk_spec hpm
 refine wp_mono (Q := fun e a w => e = .normal ∧ Q .normal a w) ?_ (fun e a w hq => by obtain ⟨rfl, h⟩ := hq; exact h)
 refine wp_region_any hm ?_
 have hsz0 : ops0.size = ops.size := by rw [h0, dropE_size]
 refine wpAny_drop hac _ _ _ _ (by simp) ?_
 rw [← h0, hsz0]
 unfold awpDraw at h
 rw [prepAllK_eq, jkK_eq] at h
 have hsz : preLen (permOps ops (order ops)).toList + qLen (permOps ops (order ops)).toList ≤ (permOps ops (order ops)).size := by
  have h1 := preLen_le (permOps ops (order ops)).toList
  have h2 := wsLen_le (permOps ops (order ops)).toList ((permOps ops (order ops)).toList.drop (preLen (permOps ops (order ops)).toList))
  unfold qLen
  simp at h1 h2 ⊢
  omega
 have := any_draw htab hm hsz hok hQ h (((Le.prepAll _ σ).trans (Le.jkAll _ _)) V F0 w0 a w hh)
 rw [perm_size hp] at this
 refine wpAny_perm hp _ _ _ _ _ ⟨by simp, by simp, fun i hi => ?_⟩ this
 have := idx_lt hp hi
 simp [hi, this]
def LoopP (body : (Exit → St → Prop) → St → Prop) (K : Exit → St → Prop) (σ : St) : Prop :=
 ∃ (X : Type) (inv : X → Prop) (st : X → St) (μ : X → Nat), (∃ x, inv x ∧ Le σ (st x)) ∧ ∀ x, inv x → fSt (st x) (body (fun e σ' => match e with
  | .normal => ∃ x', inv x' ∧ Le σ' (st x') ∧ μ x' < μ x
  | e => K e σ'))
theorem LoopP_intro {body : (Exit → St → Prop) → St → Prop} {K : Exit → St → Prop} {σ : St} {X : Type} (inv : X → Prop) (st : X → St) (μ : X → Nat) (x : X) (hi : inv x) (hx : Le σ (st x)) (h : ∀ x, inv x → fSt (st x) (body (fun e σ' => match e with
  | .normal => ∃ x', inv x' ∧ Le σ' (st x') ∧ μ x' < μ x
  | e => K e σ'))) : LoopP body K σ := ⟨X, inv, st, μ, ⟨x, hi, hx⟩, h⟩
theorem LoopP_elim {body : (Exit → St → Prop) → St → Prop} {K : Exit → St → Prop} {σ : St} (h : LoopP body K σ) : ∃ (X : Type) (inv : X → Prop) (st : X → St) (μ : X → Nat), (∃ x, inv x ∧ Le σ (st x)) ∧ ∀ x, inv x → body (fun e σ' => match e with
  | .normal => ∃ x', inv x' ∧ Le σ' (st x') ∧ μ x' < μ x
  | e => K e σ') (st x) := by
 obtain ⟨X, inv, st, μ, hx, h⟩ := h
 exact ⟨X, inv, st, μ, hx, fun x hi => by have := h x hi; rwa [fSt_eq] at this⟩
theorem LoopP_le {body : (Exit → St → Prop) → St → Prop} {K : Exit → St → Prop} {σ σ' : St} (hle : Le σ σ') (h : LoopP body K σ') : LoopP body K σ := by
 obtain ⟨X, inv, st, μ, ⟨x, hi, hx⟩, h⟩ := h
 exact ⟨X, inv, st, μ, ⟨x, hi, hle.trans hx⟩, h⟩
attribute [irreducible] LoopP
def litTo (c : Operand) (b : Bool) (σ : St) : St := match c with
 | .tmp t => σ.put (some t) (litB b)
 | _ => σ
def litK (c : Operand) (b : Bool) (σ : St) (K : St → Prop) : Prop := match c with
 | .tmp t => putK σ (some t) (litB b) K
 | _ => K σ
theorem litK_eq (c : Operand) (b : Bool) (σ : St) (K : St → Prop) : litK c b σ K = K (litTo c b σ) := by
 cases c <;> simp only [litK, litTo, putK_eq]
def RegP (rid : Nat) (k : List Nat → Prop) : Prop := ∃ ns, k ns
theorem RegP_intro (rid : Nat) (ns : List Nat) {k : List Nat → Prop} (h : k ns) : RegP rid k := ⟨ns, h⟩
theorem RegP_elim {rid : Nat} {k : List Nat → Prop} (h : RegP rid k) : ∃ ns, k ns := h
attribute [irreducible] RegP
def awp (P : Program) (tab : Tab) : Code → (Exit → St → Prop) → St → Prop
 | .skip, K, σ => K .normal σ
 | .region id ops draw, K, σ => match draw with
  | false => awpOps P tab ops ops.toList (K .normal) σ
  | true => RegP id fun ns => commitN ns σ fun σ => fOps (pick (dropE ops) (order (dropE ops)) (order (dropE ops))) fun l => awpDraw P tab l (K .normal) σ
 | .seq x y, K, σ => awp P tab x (fun e σ => match e with
  | .normal => awp P tab y K σ
  | e => K e σ) σ
 | .cond c x y, K, σ => match opnd tab σ 0 c with
  | .s (.c (.d (.bool b))) => condP b (litK c true σ (awp P tab x K)) (litK c false σ (awp P tab y K))
  | _ => False
 | .block id c, K, σ => awp P tab c (fun e σ => match e with
  | .exit i => match Nat.beq i id with
   | true => K .normal σ
   | false => K (.exit i) σ
  | e => K e σ) σ
 | .loop c, K, σ => LoopP (awp P tab c) K σ
 | .exit id, K, σ => K (.exit id) σ
 | .scope c, K, σ => awp P tab c (fun e σ => match e with
  | .goto _ => False
  | e => K e σ) σ
 | .label _, K, σ => K .normal σ
 | .ret, K, σ => K .ret σ
 | _, _, _ => False
def codeOk : Code → Bool
 | .region _ ops draw => match draw with
  | true => acycB ops && (permOk (dropE ops) (order (dropE ops)) && drawOk (permOps (dropE ops) (order (dropE ops))) (preLen (permOps (dropE ops) (order (dropE ops))).toList) (qLen (permOps (dropE ops) (order (dropE ops))).toList))
  | false => true
 | .seq x y => codeOk x && codeOk y
 | .cond _ x y => codeOk x && codeOk y
 | .block _ c => codeOk c
 | .loop c => codeOk c
 | .scope c => codeOk c
 | _ => true
theorem litTo_le {tab : Tab} {c : Operand} {b : Bool} {σ : St} (h : opnd tab σ 0 c = .s (.c (.d (.bool b)))) : Le σ (litTo c b σ) := by
 cases c with
 | tmp t => exact lit_le h
 | const v => exact Le.refl _
 | global g => exact Le.refl _
 | func f => exact Le.refl _
theorem awp_sound {P : Program} {tab : Tab} (htab : tabCheck P tab = true) (hm : P.follows .mixedOrders = true) {V : Nat → Prop} {F0 : Base} {w0 : World} : ∀ (c : Code) (K : Exit → St → Prop) (Q : Exit → Act → World → Prop) (σ : St) (a : Act) (w : World),
  codeOk c = true → awp P tab c K σ → Holds' V F0 w0 σ a w → (∀ e σ a w, K e σ → Holds' V F0 w0 σ a w → Q e a w) → c.wp P Q a w := by
 intro c
 induction c with
 | skip => intro K Q σ a w _ h hh hQ; exact wp_skip (hQ _ _ _ _ h hh)
 | region id ops draw =>
  intro K Q σ a w hok h hh hQ
  cases draw with
  | false =>
   have h' : awpOps P tab ops ops.toList (K .normal) σ := h
   have := awpOps_sound htab (Q := Q) (V := V) (F0 := F0) (w0 := w0) (fun σ a w hk hh => hQ _ _ _ _ hk hh) ops.toList 0 (by simp) (by simp) σ a w h' hh
   refine wp_region ?_
   rw [List.range_eq_range']
   simpa using this
  | true =>
   have h1 : RegP id (fun ns => commitN ns σ fun σ => fOps (pick (dropE ops) (order (dropE ops)) (order (dropE ops))) (fun l => awpDraw P tab l (K .normal) σ)) := h
   obtain ⟨ns, h2⟩ := RegP_elim h1
   obtain ⟨σ', hle, h'⟩ := commitN_le h2
   rw [fOps_eq] at h'
   simp only [codeOk, Bool.and_eq_true] at hok
   exact region_draw htab hm rfl hok.1 hok.2.1 hok.2.2 (fun σ a w hk hh => hQ _ _ _ _ hk hh) h' (hle V F0 w0 a w hh)
 | seq x y ihx ihy =>
  intro K Q σ a w hok h hh hQ
  simp only [codeOk, Bool.and_eq_true] at hok
  refine wp_seq (ihx _ _ σ a w hok.1 h hh fun e σ' a' w' hk hh' => ?_)
  cases e with
  | normal => exact ihy K Q σ' a' w' hok.2 hk hh' hQ
  | exit i => exact hQ _ _ _ _ hk hh'
  | goto l => exact hQ _ _ _ _ hk hh'
  | ret => exact hQ _ _ _ _ hk hh'
  | panic c => exact hQ _ _ _ _ hk hh'
  | outgrown => exact hQ _ _ _ _ hk hh'
 | cond c x y ihx ihy =>
  intro K Q σ a w hok h hh hQ
  simp only [codeOk, Bool.and_eq_true] at hok
  simp only [awp] at h
  split at h
  ·rename_i b hb
   have hv : a.eval c = .bool b := by
    obtain ⟨⟨ρ, F, hs, _⟩, _⟩ := hh
    have := opnd_rel (a := a) (ρ := ρ) (F := F) (w := w) (H := σ.h) (σ := σ) tab 0 (x := c) (fun t e => by subst e; exact hs.tmp t)
    rw [hb] at this
    exact bool_of_rel this
   rw [litK_eq, litK_eq] at h
   rcases condP_elim h with ⟨rfl, h'⟩ | ⟨rfl, h'⟩
   ·exact wp_cond hv (ihx K Q _ a w hok.1 h' (litTo_le hb V F0 w0 a w hh) hQ)
   ·exact wp_cond hv (ihy K Q _ a w hok.2 h' (litTo_le hb V F0 w0 a w hh) hQ)
  ·exact h.elim
 | block id c ih =>
  intro K Q σ a w hok h hh hQ
  refine wp_block (ih _ _ σ a w hok h hh fun e σ' a' w' hk hh' => ?_)
  cases e with
  | exit i =>
   simp only [Exit.inBlock]
   simp only at hk
   split at hk
   ·rename_i hb; rw [if_pos (Nat.eq_of_beq_eq_true hb)]; exact hQ _ _ _ _ hk hh'
   ·rename_i hb; rw [if_neg (Nat.ne_of_beq_eq_false hb)]; exact hQ _ _ _ _ hk hh'
  | normal => exact hQ _ _ _ _ hk hh'
  | goto l => exact hQ _ _ _ _ hk hh'
  | ret => exact hQ _ _ _ _ hk hh'
  | panic c => exact hQ _ _ _ _ hk hh'
  | outgrown => exact hQ _ _ _ _ hk hh'
 | loop c ih =>
  intro K Q σ a w hok h hh hQ
  obtain ⟨X, inv, st, μ, ⟨x0, hi0, hle⟩, hr⟩ := LoopP_elim (body := awp P tab c) (K := K) (σ := σ) h
  intro b k cs
  have key : ∀ n x a w, inv x → μ x = n → Holds' V F0 w0 (st x) a w → ∃ e a' w', Q e a' w' ∧ Arrives P (lone (b.at a (.code c :: .inLoop c :: k)) cs w) b k cs e a' w' := by
   intro n
   induction n using Nat.strongRecOn with
   | _ n ihn =>
    intro x a w hix hn hh
    have hbody := ih _ (fun e a' w' => match e with | .normal => ∃ x', inv x' ∧ Holds' V F0 w0 (st x') a' w' ∧ μ x' < μ x | e => Q e a' w') (st x) a w hok (hr x hix) hh (fun e σ' a' w' hk hh' => by
     cases e with
     | normal =>
      obtain ⟨x', hi', hle', hlt⟩ := hk
      exact ⟨x', hi', hle' V F0 w0 a' w' hh', hlt⟩
     | exit i => exact hQ _ _ _ _ hk hh'
     | goto l => exact hQ _ _ _ _ hk hh'
     | ret => exact hQ _ _ _ _ hk hh'
     | panic c => exact hQ _ _ _ _ hk hh'
     | outgrown => exact hQ _ _ _ _ hk hh')
    obtain ⟨e, a₁, w₁, hq, harr⟩ := hbody b (.inLoop c :: k) cs
    cases e with
    | normal =>
     obtain ⟨x', hi', hh', hlt⟩ := hq
     obtain ⟨e₂, a₂, w₂, hq₂, harr₂⟩ := ihn (μ x') (by omega) x' a₁ w₁ hi' rfl hh'
     exact ⟨e₂, a₂, w₂, hq₂, .of_steps (Steps.trans harr (.one step_inLoop)) harr₂⟩
    | exit id => exact ⟨_, a₁, w₁, hq, .pass (x := .inLoop c) rfl (fun _ _ => .inl (by simp)) harr⟩
    | goto l => exact ⟨_, a₁, w₁, hq, .pass (x := .inLoop c) rfl (fun _ _ => .inl (by simp)) harr⟩
    | ret => exact ⟨_, a₁, w₁, hq, .pass (x := .inLoop c) rfl (fun _ _ => .inl (by simp)) harr⟩
    | panic ch => exact ⟨_, a₁, w₁, hq, .pass (x := .inLoop c) rfl (fun _ _ => .inl (by simp)) harr⟩
    | outgrown => exact ⟨_, a₁, w₁, hq, .pass (x := .inLoop c) rfl (fun _ _ => .inl (by simp)) harr⟩
  obtain ⟨e, a', w', hq, harr⟩ := key _ x0 a w hi0 rfl (hle V F0 w0 a w hh)
  exact ⟨e, a', w', hq, .of_steps (.one step_loop) harr⟩
 | rangeFunc f ps as b _ _ => intro K Q σ a w _ h; exact h.elim
 | exit id => intro K Q σ a w _ h hh hQ; exact wp_exit (hQ _ _ _ _ h hh)
 | scope c ih =>
  intro K Q σ a w hok h hh hQ
  refine wp_scope_straight (ih _ _ σ a w hok h hh fun e σ' a' w' hk hh' => ?_)
  cases e with
  | goto l => exact hk.elim
  | exit i => exact hQ _ _ _ _ hk hh'
  | normal => exact hQ _ _ _ _ hk hh'
  | ret => exact hQ _ _ _ _ hk hh'
  | panic c => exact hQ _ _ _ _ hk hh'
  | outgrown => exact hQ _ _ _ _ hk hh'
 | label l => intro K Q σ a w _ h hh hQ; exact wp_label (hQ _ _ _ _ h hh)
 | goto l => intro K Q σ a w _ h; exact h.elim
 | ret => intro K Q σ a w _ h hh hQ; exact wp_ret (hQ _ _ _ _ h hh)
 | refuse why => intro K Q σ a w _ h; exact h.elim
end Go.Ab
