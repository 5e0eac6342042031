/- Plain laws: EvalDef always gets an answer. -/
import Derived.Test.YtffnbobdkpebgaaGreatTaB
set_option linter.unusedVariables false
set_option linter.unusedSimpArgs false
namespace Go.Ab
variable {fu : Nat}
def MRef (s : MScope) (x : Int) : Prop := ∃ r ∈ s.rules, ∃ e, (e = r.guard ∨ e = r.value) ∧ ∃ n ∈ e, (36 ≤ n.op ∧ n.op ≤ 39) ∧ n.n = x
theorem o_MDefs (hf : 200000 ≤ fu) {s : MScope} (hs : SzScope s) (d : Int) : Ok (m_deps_MemberDefs fu s d) (fun v => v.length ≤ 6000 ∧ ∀ x ∈ v, MRef s x) := by
 have hr := hs.rules
 unfold m_deps_MemberDefs m_deps_valid
 rw [bd_of]
 refine Ok.con (fun q => Ok.ret ⟨Nat.zero_le _, fun x hx => (by cases hx)⟩) fun q => Ok.bd (o_Trans hf hs d) fun c hc => Ok.ap (by simp; omega) ?_
 have hz : (c ++ [d]).length ≤ 15 := by simp; omega
 generalize c ++ [d] = zs at hz
 refine Ok.rgA (fun (o : List Int) i => o.length ≤ 100 * i ∧ ∀ x ∈ o, MRef s x) s.rules.length (by omega) (fun m o i ho hi rec => ?_) hf (o := []) ⟨Nat.zero_le _, fun x hx => (by cases hx)⟩
 obtain ⟨a1, a2⟩ := ho
 simp only [m_deps_MemberDefs_L1]
 refine Ok.con (fun q1 => ?_) fun q1 => ?_
 ·have q1' : i < s.rules.length := by simpa [nI] using q1
  refine Ok.ixN q1' fun r hr' => Ok.bd (o_ContI hf (by omega) _) fun b _ => Ok.con (fun _ => Ok.cnt (by omega) (rec _ _ ⟨by omega, a2⟩ (by omega) (by omega))) fun _ => ?_
  have hz := hs.rls r (mem_ix hr')
  refine Ok.rgA (fun (o2 : List Int) t => o2.length ≤ o.length + 50 * t ∧ ∀ x ∈ o2, MRef s x) 2 (by omega) (fun m o2 t ho2 ht rec2 => ?_) hf (o := o) ⟨by omega, a2⟩
  obtain ⟨b1, b2⟩ := ho2
  simp only [m_deps_MemberDefs_L2]
  refine Ok.con (fun q3 => ?_) fun q3 => Ok.cnt (by omega) (rec o2 (i + 1) ⟨by omega, b2⟩ (by omega) (by omega))
  have q3' : t < 2 := by simpa [nI] using q3
  refine Ok.ixN (by simpa using q3') fun e he => ?_
  have hm : e = r.guard ∨ e = r.value := by simpa using mem_ix he
  have hel : e.length ≤ 50 := by
   rcases hm with rfl | rfl
   ·exact hz.guard
   ·exact hz.value
  refine Ok.bd (o_Refs hf hel) fun c hc => ?_
  obtain ⟨_, c1, _, c2⟩ := hc
  refine Ok.ap (by omega) (Ok.cnt (by omega) (rec2 (o2 ++ c.2.2) (t + 1) ⟨by rw [List.length_append]; omega, fun x hx => ?_⟩ (by omega) (by omega)))
  rcases List.mem_append.1 hx with hx | hx
  ·exact b2 x hx
  ·exact ⟨r, mem_ix hr', e, hm, (c2 x).1 hx⟩
 ·refine (o_uniq (xs := o) (by omega)).mono fun v hv => ⟨by omega, fun x hx => a2 x ((hv.2 x).1 hx)⟩
theorem o_memberDef (hf : 200000 ≤ fu) (l : MLaw) (s : MScope) {ms : MScope} (hz : SzScope ms) (c : MCase) (want : List Bool) {inner : List Bool} (li : inner.length = ms.defs.length) {x : Int} (x0 : 0 ≤ x) (x1 : x < ms.defs.length) : Ok (m_interp_machine_memberDef fu l s ms c want inner x) (fun r => r.length = inner.length) := by
 unfold m_interp_machine_memberDef
 refine Ok.lk (Ok.mono (P := fun r => r.length = inner.length) ?_ fun r hr => ⟨by simp [hr], hr⟩)
 unfold n_interp_machine_memberDef
 refine Ok.ix x0 (by omega) fun _ _ => Ok.bd (o_Trans hf hz x) fun t ht => ?_
 obtain ⟨t1, t2⟩ := ht
 refine Ok.loop (fun y : Nat × List Bool => y.1 ≤ t.length ∧ y.2.length = inner.length) (fun y => t.length - y.1) (fun n y hy rec => ?_) ⟨Nat.zero_le _, by simp⟩ (by simp only; omega)
 obtain ⟨i, w⟩ := y
 obtain ⟨a1, a2⟩ := hy
 simp only at a1 a2
 simp only [m_interp_machine_memberDef_L1]
 refine Ok.con (fun q => ?_) fun _ => Ok.ret a2
 have q' : i < t.length := by simpa [nI] using q
 refine Ok.ixN q' fun y hy => ?_
 have hv := ((t2 y).1 (mem_ix hy)).val
 exact Ok.ix hv.1 (by omega) fun _ _ => Ok.cnt (by omega) (rec _ ⟨by simp only; omega, by simp [a2]⟩ (by simp only; omega))
theorem o_require (hf : 200000 ≤ fu) (l : MLaw) {s ms : MScope} (hs : SzScope s) (hz : SzScope ms) (c : MCase) {want inner : List Bool} (lw : want.length = s.defs.length) (li : inner.length = ms.defs.length) {d : Int} (d0 : 0 ≤ d) (d1 : d < s.defs.length) (hm : ∀ x, MRef s x → 0 ≤ x ∧ x < ms.defs.length) : Ok (m_interp_machine_require fu l s ms c want inner d) (fun r => r.1.length = want.length ∧ r.2.length = inner.length) := by
 unfold m_interp_machine_require
 refine Ok.lk (Ok.mono (P := fun r => r.1.length = want.length ∧ r.2.length = inner.length) ?_ fun r hr => ⟨by simp [hr.1, hr.2], hr⟩)
 unfold n_interp_machine_require
 refine Ok.ix d0 (by omega) fun _ _ => Ok.bd (o_Trans hf hs d) fun t ht => ?_
 obtain ⟨t1, t2⟩ := ht
 refine Ok.loop (fun y : Nat × List Bool => y.1 ≤ t.length ∧ y.2.length = want.length) (fun y => t.length - y.1) (fun n y hy rec => ?_) ⟨Nat.zero_le _, by simp⟩ (by simp only; omega)
 obtain ⟨i, w⟩ := y
 obtain ⟨a1, a2⟩ := hy
 simp only at a1 a2
 simp only [m_interp_machine_require_L1]
 refine Ok.con (fun q => ?_) fun _ => ?_
 ·have q' : i < t.length := by simpa [nI] using q
  refine Ok.ixN q' fun y hy => ?_
  have hv := ((t2 y).1 (mem_ix hy)).val
  exact Ok.ix hv.1 (by omega) fun _ _ => Ok.cnt (by omega) (rec _ ⟨by simp only; omega, by simp [a2]⟩ (by simp only; omega))
 ·refine Ok.bd (o_MDefs hf hs d) fun md hmd => ?_
  obtain ⟨m1, m2⟩ := hmd
  refine Ok.loop (fun y : Nat × List Bool => y.1 ≤ md.length ∧ y.2.length = inner.length) (fun y => md.length - y.1) (fun n y hy rec2 => ?_) ⟨Nat.zero_le _, rfl⟩ (by simp only; omega)
  obtain ⟨j, v⟩ := y
  obtain ⟨b1, b2⟩ := hy
  simp only at b1 b2
  simp only [m_interp_machine_require_L2]
  refine Ok.con (fun q => ?_) fun _ => Ok.ret ⟨a2, b2⟩
  have q' : j < md.length := by simpa [nI] using q
  refine Ok.ixN q' fun x hx => ?_
  obtain ⟨x0, x1⟩ := hm x (m2 x (mem_ix hx))
  exact Ok.bd (o_memberDef hf l s hz c w (by omega) x0 x1) fun r hr => Ok.cnt (by omega) (rec2 _ ⟨by simp only; omega, by simp only; omega⟩ (by simp only; omega))
theorem typed_mem {e : List MNode} {sg : MSignature} {t : MTy} (h : Typed fu e sg t) {n : MNode} (hn : n ∈ e) : MemOk n sg := by
 obtain ⟨l, i0, ts, _, _, _, _, _, h6, _⟩ := h
 obtain ⟨k, hk⟩ := List.getElem?_of_mem hn
 obtain ⟨_, _, _, _, _, _, _, _, hm⟩ := h6 k n (lt_ix hk) hk
 exact hm
theorem mref_ok {l : MLaw} (hv : LawOk fu l) {i : Nat} {s ms : MScope} (hs : l.scopes[i]? = some s) (hms : (0 ≤ s.ms ∧ l.scopes[s.ms.toNat]? = some ms) ∨ (s.ms < 0 ∧ ms.defs = [])) : ∀ x, MRef s x → 0 ≤ x ∧ x < ms.defs.length := by
 rintro x ⟨r, hr, e, he, n, hn, ⟨h1, h2⟩, rfl⟩
 obtain ⟨j, hj⟩ := List.getElem?_of_mem hr
 have hk := (hv.scopes i s hs).rules j r hj
 have hm : MemOk n (sigOf l s) := by
  rcases he with rfl | rfl
  ·exact typed_mem (hk.guard (List.length_pos_of_mem hn)) hn
  ·obtain ⟨f, _, ht⟩ := hk.value
   exact typed_mem ht hn
 have hb := hm h1 h2
 have e1 : (sigOf l s).memberDefs.length = ms.defs.length := by
  rcases hms with ⟨h0, h⟩ | ⟨h0, h⟩
  ·have : memS l s = some ms := by unfold memS; rw [decide_eq_false (by omega)]; exact h
   rw [sigOf, this]; simp
  ·have : memS l s = none := by unfold memS; rw [decide_eq_true h0]; rfl
   rw [sigOf, this, h]; rfl
 rw [e1] at hb
 exact hb
theorem o_EvalDef (hf : 201000 ≤ fu) {l : MLaw} (hl : SzLaw l) (i : Int) {c : MCase} (hc : SzCase c) (d : Int) : Ok (m_interp_EvalDef fu l i c d) (fun _ => True) := by
 unfold m_interp_EvalDef
 refine Ok.bd (o_check20 (by omega) hl i hc d true) fun e he => Ok.con (fun _ => Ok.tt) fun q => ?_
 obtain ⟨hv, hi, hd, _⟩ := he (by simpa using q)
 have hs : l.scopes[i.toNat]? = some l.scopes[i.toNat] := List.getElem?_eq_getElem (by omega)
 generalize l.scopes[i.toNat] = s at hs
 have hz := hl.scs s (mem_ix hs)
 obtain ⟨d0, d1⟩ := hd rfl
 have d1 := d1 s hs
 refine Ok.bd (o_newMach (by omega) hl hv hi.1 hs c) fun r hr => ?_
 obtain ⟨ms, rfl, hzm, hms⟩ := hr
 refine Ok.bd (o_require (by omega) l hz hzm c (want := List.replicate s.defs.length false) (inner := List.replicate ms.defs.length false) (by simp) (by simp) d0 d1 (mref_ok hv hs hms)) fun w hw => ?_
 obtain ⟨w1, w2⟩ := hw
 rw [List.length_replicate] at w1 w2
 refine Ok.bd (o_machRun hf hl hz hzm hc w1 w2) fun r hr => Ok.con (fun _ => Ok.tt) fun q2 => ?_
 obtain ⟨top, ht, hk⟩ := hr (by simpa using q2)
 have l1 := hk.top.lenD
 have l2 := hk.top.lenR
 exact Ok.bde ht (Ok.ix d0 (by omega) fun _ _ => Ok.ix d0 (by omega) fun _ _ => Ok.tt)
end Go.Ab
set_option linter.unusedVariables false
set_option linter.unusedSimpArgs false
namespace Go.Ab
variable {fu : Nat}
theorem bdn {A B : Type} (f g : A → Option B) : bd none f = bd none g := by simp only [bd]
theorem bd0 {A B : Type} (f : A → Option B) : bd none f = none := by simp only [bd]
structure NAg (n : MNode) (a b : MEnv) : Prop where
 d : n.op = 8 → a.defs.length = b.defs.length ∧ ix a.defs n.n = ix b.defs n.n
 m : 36 ≤ n.op → n.op ≤ 39 → ∀ (k : Nat) x y, a.members[k]? = some x → b.members[k]? = some y → x.length = y.length ∧ ix x n.n = ix y n.n
structure EAg (a b : MEnv) : Prop where
 date : a.date = b.date
 inputs : a.inputs = b.inputs
 tys : a.memberTypes = b.memberTypes
 tables : a.tables = b.tables
 len : a.members.length = b.members.length
theorem wf_op {n : MNode} {k : Int} (h : m_eval_wellFormed fu n k = some true) : n.op ≤ 39 := by
 unfold m_eval_wellFormed at h
 obtain ⟨a, ha, h⟩ := bd_some h
 unfold m_expr_Arity at ha
 cases q : (decide (n.op < 1)) || (decide (39 < n.op)) with
 | true => rw [q, cond_true] at ha; cases ha; simp at h
 | false => simp at q; omega
section
variable {n : MNode} {dt : Int} {inp D D' : List MValue} {M M' : List (List MValue)} {mt : List MTy} {tb : List MTable} (args : List MValue)
theorem ex_cong (h : NAg n (MEnv.mk dt inp D M mt tb) (MEnv.mk dt inp D' M' mt tb)) : m_eval_exists fu n (MEnv.mk dt inp D M mt tb) = m_eval_exists fu n (MEnv.mk dt inp D' M' mt tb) := by
 unfold m_eval_exists
 cases q : n.op == 8 with
 | true =>
  obtain ⟨a, b⟩ := h.d (by simpa using q)
  simp only at a b
  simp only [ln_len, a, b]
 | false => rfl
theorem al_cong (h : NAg n (MEnv.mk dt inp D M mt tb) (MEnv.mk dt inp D' M' mt tb)) : m_eval_allowed fu n args (MEnv.mk dt inp D M mt tb) = m_eval_allowed fu n args (MEnv.mk dt inp D' M' mt tb) := by
 unfold m_eval_allowed
 cases q : n.op == 8 with
 | true =>
  obtain ⟨a, b⟩ := h.d (by simpa using q)
  simp only at b
  simp only [b]
 | false => rfl
theorem me_cong (h : NAg n (MEnv.mk dt inp D M mt tb) (MEnv.mk dt inp D' M' mt tb)) (hl : M.length = M'.length) (h0 : 36 ≤ n.op) (h1 : n.op ≤ 39) : m_eval_members fu n (MEnv.mk dt inp D M mt tb) = m_eval_members fu n (MEnv.mk dt inp D' M' mt tb) := by
 unfold m_eval_members
 have key : ∀ (i : Nat) {R : Type} {f g : List MValue → Option R}, (∀ x y, x.length = y.length → ix x n.n = ix y n.n → f x = g y) → i < M'.length → bd (ix M (nI i)) f = bd (ix M' (nI i)) g := by
  intro i R f g hk hi
  have e1 := List.getElem?_eq_getElem (l := M) (i := i) (by omega)
  have e2 := List.getElem?_eq_getElem (l := M') (i := i) hi
  rw [show ix M (nI i) = M[i]? from ix_nat M i, show ix M' (nI i) = M'[i]? from ix_nat M' i, e1, e2, bd_of, bd_of]
  obtain ⟨a, b⟩ := h.m h0 h1 i _ _ e1 e2
  exact hk _ _ a b
 have l1 : ∀ e k m x, m_eval_members_L1 (MEnv.mk dt inp D M mt tb) fu n e k m x = m_eval_members_L1 (MEnv.mk dt inp D' M' mt tb) fu n e k m x := by
  intro e k m
  induction m with
  | zero => intro x; rfl
  | succ m ih =>
   intro x
   obtain ⟨i, a⟩ := x
   simp only [m_eval_members_L1, ih]
   rw [ln_len, ln_len, hl]
   cases q : decide (nI i < (M'.length : Int)) with
   | false => rfl
   | true => exact key i (fun x y e1 e2 => by simp only [ln_len, e1, e2]) (by simpa [nI] using q)
 have l2 : ∀ e k m x, m_eval_members_L2 (MEnv.mk dt inp D M mt tb) fu n e k m x = m_eval_members_L2 (MEnv.mk dt inp D' M' mt tb) fu n e k m x := by
  intro e k m
  induction m with
  | zero => intro x; rfl
  | succ m ih =>
   intro x
   obtain ⟨i, a⟩ := x
   simp only [m_eval_members_L2, ih]
   rw [ln_len, ln_len, hl]
   cases q : decide (nI i < (M'.length : Int)) with
   | false => rfl
   | true => exact key i (fun x y e1 e2 => by simp only [ln_len, e1, e2]) (by simpa [nI] using q)
 simp only [l1, l2, ln_len, hl]
theorem op_cong (h : NAg n (MEnv.mk dt inp D M mt tb) (MEnv.mk dt inp D' M' mt tb)) (hl : M.length = M'.length) (h1 : n.op ≤ 39) : m_eval_operate fu n args (MEnv.mk dt inp D M mt tb) = m_eval_operate fu n args (MEnv.mk dt inp D' M' mt tb) := by
 unfold m_eval_operate
 cases q : decide (36 ≤ n.op) with
 | true => rw [me_cong h hl (of_decide_eq_true q) h1]; rfl
 | false =>
  simp only [cond_false, ln_len, hl]
  cases q : n.op == 8 with
  | true =>
   obtain ⟨a, b⟩ := h.d (by simpa using q)
   simp only at b
   simp only [b]
  | false => rfl
end
theorem ap_cong {n : MNode} (args : List MValue) {a b : MEnv} (he : EAg a b) (h : NAg n a b) : m_eval_Apply fu n args a = m_eval_Apply fu n args b := by
 obtain ⟨e1, e2, e3, e4, e5⟩ := he
 cases a; cases b
 simp only at e1 e2 e3 e4 e5
 subst e1 e2 e3 e4
 unfold m_eval_Apply
 cases q : m_eval_wellFormed fu n (ln cValue args) with
 | none => exact bdn _ _
 | some w =>
  cases w with
  | false => rw [bd_of, bd_of]; rfl
  | true =>
   rw [bd_of, bd_of, ex_cong h, al_cong args h, op_cong args h e5 (wf_op q)]
theorem node_cong {e : List MNode} {a b : MEnv} (he : EAg a b) (h : ∀ n ∈ e, NAg n a b) : ∀ (fu : Nat) (i : Int), m_eval_evaluator_node fu (MEvalEvaluator.mk e a) i = m_eval_evaluator_node fu (MEvalEvaluator.mk e b) i ∧ m_eval_evaluator_truth fu (MEvalEvaluator.mk e a) i = m_eval_evaluator_truth fu (MEvalEvaluator.mk e b) i := by
 intro fu
 induction fu with
 | zero => intro i; exact ⟨rfl, rfl⟩
 | succ fu ih =>
  intro i
  have i1 : ∀ i, m_eval_evaluator_node fu (MEvalEvaluator.mk e a) i = m_eval_evaluator_node fu (MEvalEvaluator.mk e b) i := fun i => (ih i).1
  have i2 : ∀ i, m_eval_evaluator_truth fu (MEvalEvaluator.mk e a) i = m_eval_evaluator_truth fu (MEvalEvaluator.mk e b) i := fun i => (ih i).2
  refine ⟨?_, ?_⟩
  ·show o_eval_evaluator_node fu (m_eval_evaluator_node fu) (m_eval_evaluator_truth fu) _ i = o_eval_evaluator_node fu (m_eval_evaluator_node fu) (m_eval_evaluator_truth fu) _ i
   unfold o_eval_evaluator_node
   simp only [i1, i2]
   cases h1 : ix e i with
   | none => exact bdn _ _
   | some nd =>
    have hn := h nd (mem_ix (ix_some h1).2)
    have lp : ∀ ops k (m : Nat) (x : List MValue × Nat), m_eval_evaluator_node_L1 ops (MEvalEvaluator.mk e a) k (m_eval_evaluator_node fu) m x = m_eval_evaluator_node_L1 ops (MEvalEvaluator.mk e b) k (m_eval_evaluator_node fu) m x := by
     intro ops k m
     induction m with
     | zero => intro x; rfl
     | succ m ihm =>
      intro x
      obtain ⟨gs, j⟩ := x
      simp only [m_eval_evaluator_node_L1, ihm, i1]
    rw [bd_of, bd_of]
    simp only [lp, ap_cong _ he hn]
  ·show o_eval_evaluator_truth fu (m_eval_evaluator_node fu) (m_eval_evaluator_truth fu) _ i = o_eval_evaluator_truth fu (m_eval_evaluator_node fu) (m_eval_evaluator_truth fu) _ i
   unfold o_eval_evaluator_truth
   simp only [i1]
theorem eval_cong {e : List MNode} {a b : MEnv} (he : EAg a b) (h : ∀ n ∈ e, NAg n a b) : m_eval_Eval fu e a = m_eval_Eval fu e b := by
 unfold m_eval_Eval
 simp only [fun i => (node_cong he h fu i).1]
theorem choose_cong {s : MScope} {a b : MEnv} (mem : Int) (R R' : List Int) {d : Int} (he : EAg a b) (h : ∀ l, m_effective_RulesOn fu s d a.date = some l → ∀ x ∈ l, ∀ r, s.rules[x.toNat]? = some r → ∀ n ∈ r.guard, NAg n a b) : m_interp_unit_choose fu (MInterpUnit.mk s a mem R) d = m_interp_unit_choose fu (MInterpUnit.mk s b mem R') d := by
 unfold m_interp_unit_choose
 simp only
 rw [← he.date]
 cases q : m_effective_TreeOn fu s d a.date with
 | none => exact bdn _ _
 | some t =>
  have q' := q
  unfold m_effective_TreeOn at q'
  obtain ⟨l, hl, q'⟩ := bd_some q'
  have ht : t.1 = l := by
   have : ∀ m x, m_effective_TreeOn_L1 l fu s (fun p_11 => some (l, p_11.1, p_11.2)) m x = some t → t.1 = l := by
    intro m
    induction m with
    | zero => intro x h; cases h
    | succ m ih =>
     intro x h
     obtain ⟨p1, p2, i⟩ := x
     simp only [m_effective_TreeOn_L1] at h
     cases q1 : decide (nI i < ln cInt l) with
     | false => rw [q1, cond_false] at h; cases h; rfl
     | true =>
      rw [q1, cond_true] at h
      obtain ⟨_, _, h⟩ := bd_some h
      obtain ⟨_, _, h⟩ := bd_some h
      obtain ⟨_, _, h⟩ := bd_some h
      obtain ⟨_, _, h⟩ := bd_some h
      obtain ⟨_, _, h⟩ := bd_some h
      unfold cnt at h
      split at h
      ·exact ih _ h
      ·cases h
   exact this _ _ q'
  rw [bd_of, bd_of]
  have lp : ∀ k m x, m_interp_unit_choose_L1 t (MInterpUnit.mk s a mem R) fu d k m x = m_interp_unit_choose_L1 t (MInterpUnit.mk s b mem R') fu d k m x := by
   intro k m
   induction m with
   | zero => intro x; rfl
   | succ m ih =>
    intro x
    obtain ⟨i, w⟩ := x
    simp only [m_interp_unit_choose_L1, ih]
    cases q1 : ix t.1 (nI i) with
    | none => simp only [bd0]
    | some id =>
     cases q2 : ix s.rules id with
     | none => simp only [bd_of, q2, bd0]
     | some r =>
      have hn := h l hl id (by rw [← ht]; exact mem_ix (ix_some q1).2) r (ix_some q2).2
      simp only [bd_of, q2, eval_cong he hn]
      rfl
  simp only [lp]
end Go.Ab
set_option linter.unusedVariables false
set_option linter.unusedSimpArgs false
namespace Go.Ab
variable {fu : Nat}
theorem NAg.rfl (n : MNode) (a : MEnv) : NAg n a a := ⟨fun _ => ⟨Eq.refl _, Eq.refl _⟩, fun _ _ k x y h1 h2 => by rw [h1] at h2; cases h2; exact ⟨Eq.refl _, Eq.refl _⟩⟩
theorem EAg.rfl (a : MEnv) : EAg a a := ⟨Eq.refl _, Eq.refl _, Eq.refl _, Eq.refl _, Eq.refl _⟩
theorem choose_R {s : MScope} {a : MEnv} (mem : Int) (R R' : List Int) (d : Int) : m_interp_unit_choose fu (MInterpUnit.mk s a mem R) d = m_interp_unit_choose fu (MInterpUnit.mk s a mem R') d :=
 choose_cong mem R R' (EAg.rfl a) fun l _ x _ r _ n _ => NAg.rfl n a
theorem ro_df (hf : 200000 ≤ fu) {s : MScope} (hs : SzScope s) (d dt : Int) : Ok (m_effective_RulesOn fu s d dt) (fun v => v.length ≤ 60 ∧ ∀ x ∈ v, 0 ≤ x ∧ ∃ r, s.rules[x.toNat]? = some r ∧ r.df = d) := by
 have h60 := hs.rules
 unfold m_effective_RulesOn
 refine Ok.rgA (fun (o : List Int) i => o.length ≤ i ∧ ∀ x ∈ o, 0 ≤ x ∧ ∃ r, s.rules[x.toNat]? = some r ∧ r.df = d) s.rules.length (by omega) (fun n o i ho hi rec => ?_) hf (o := []) ⟨Nat.le_refl _, fun x hx => (by simp at hx)⟩
 obtain ⟨h1, h2⟩ := ho
 simp only [m_effective_RulesOn_L1, m_daterange_Contains, m_daterange_Valid, bd_of]
 refine Ok.con (fun q => ?_) fun _ => Ok.ret ⟨by omega, h2⟩
 have q' : i < s.rules.length := by simpa [nI] using q
 refine Ok.ixN q' fun r hr => Ok.con (fun q2 => Ok.con (fun _ => Ok.ap (by simp; omega) (Ok.cnt (by omega) (rec _ _ ⟨by simp; omega, fun x hx => ?_⟩ (by omega) (by omega)))) fun _ => Ok.cnt (by omega) (rec _ _ ⟨by omega, h2⟩ (by omega) (by omega))) fun _ => Ok.cnt (by omega) (rec _ _ ⟨by omega, h2⟩ (by omega) (by omega))
 rw [mem_ap] at hx
 rcases hx with hx | rfl
 ·exact h2 x hx
 ·exact ⟨by simp only [nI]; omega, r, by simpa [nI] using hr, by simpa using q2⟩
theorem ix_eq {α : Type} (xs : List α) {n : Int} (h : 0 ≤ n) : ix xs n = xs[n.toNat]? := by
 rw [← ix_nat, Int.toNat_of_nonneg h]
theorem ix_out {α : Type} (xs : List α) {n : Int} (h : ¬ (0 ≤ n ∧ n < xs.length)) : ix xs n = none := by
 cases q : ix xs n with
 | none => rfl
 | some x =>
  have := ix_some q
  have h2 := lt_ix this.2
  omega
def MRefD (s : MScope) (d x : Int) : Prop := ∃ r ∈ s.rules, r.df = d ∧ ∃ e, (e = r.guard ∨ e = r.value) ∧ ∃ n ∈ e, (36 ≤ n.op ∧ n.op ≤ 39) ∧ n.n = x
theorem nag_of {s : MScope} {a b : MEnv} {d : Int} (d0 : 0 ≤ d) (d1 : d < s.defs.length) (la : a.defs.length = s.defs.length) (lb : b.defs.length = s.defs.length) (hd : ∀ x, Dir s d x → a.defs[x.toNat]? = b.defs[x.toNat]?) (hm : ∀ y, MRefD s d y → ∀ (k : Nat) u w, a.members[k]? = some u → b.members[k]? = some w → u.length = w.length ∧ ix u y = ix w y) {r : MRule} (hr : r ∈ s.rules) (hrd : r.df = d) {e : List MNode} (he : e = r.guard ∨ e = r.value) : ∀ n ∈ e, NAg n a b := fun n hn =>
 ⟨fun h8 => ⟨by rw [la, lb], by
  by_cases q : 0 ≤ n.n ∧ n.n < s.defs.length
  ·rw [ix_eq _ q.1, ix_eq _ q.1]
   exact hd n.n ⟨⟨d0, d1⟩, q, r, hr, hrd, e, he, n, hn, h8, rfl⟩
  ·rw [ix_out _ (by rw [la]; exact q), ix_out _ (by rw [lb]; exact q)]⟩,
 fun h0 h1 k x y hx hy => hm n.n ⟨r, hr, hrd, e, he, n, hn, ⟨h0, h1⟩, rfl⟩ k x y hx hy⟩
structure RC (fu : Nat) (s : MScope) (env : MEnv) (D : List MValue) (mem : Int) (d : Int) (rl : Int) (r : MRule) (v : MValue) : Prop where
 ch : m_interp_unit_choose fu (MInterpUnit.mk s (envD env D) mem []) d = some (rl, MEvalError.mk 0 0 0 0)
 pos : 0 ≤ rl
 rule : s.rules[rl.toNat]? = some r
 df : r.df = d
 ev : m_eval_Eval fu r.value (envD env D) = some (v, 0)
theorem RC.cong (hf : 200000 ≤ fu) {s : MScope} (hs : SzScope s) {env env' : MEnv} (ea : EAg env env') {D D' : List MValue} {mem d rl : Int} {r : MRule} {v : MValue} (h : RC fu s env D mem d rl r v) (d0 : 0 ≤ d) (d1 : d < s.defs.length) (la : D.length = s.defs.length) (lb : D'.length = s.defs.length) (hd : ∀ x, Dir s d x → D[x.toNat]? = D'[x.toNat]?) (hm : ∀ y, MRefD s d y → ∀ (k : Nat) u w, env.members[k]? = some u → env'.members[k]? = some w → u.length = w.length ∧ ix u y = ix w y) : RC fu s env' D' mem d rl r v := by
 have ea' : EAg (envD env D) (envD env' D') := ⟨ea.date, ea.inputs, ea.tys, ea.tables, ea.len⟩
 refine ⟨?_, h.pos, h.rule, h.df, ?_⟩
 ·rw [← h.ch]
  refine (choose_cong mem [] [] ea' fun l hl x hx r hr n hn => ?_).symm
  obtain ⟨l', hl', _, h2⟩ := ro_df hf hs d (envD env D).date
  rw [hl] at hl'; cases hl'
  obtain ⟨_, r', hr', hdf⟩ := h2 x hx
  rw [hr] at hr'; cases hr'
  exact nag_of (a := envD env D) (b := envD env' D') d0 d1 la lb hd hm (mem_ix hr) hdf (.inl rfl) n hn
 ·rw [← h.ev]
  exact (eval_cong ea' (nag_of (a := envD env D) (b := envD env' D') d0 d1 la lb hd hm (mem_ix h.rule) h.df (.inr rfl))).symm
def Res2 (fu : Nat) (s : MScope) (env : MEnv) (mem : Int) (D : List MValue) (R : List Int) (d : Nat) : Prop :=
 ∃ rl r v, RC fu s env D mem d rl r v ∧ D[d]? = some v ∧ R[d]? = some rl
theorem o_define2 (hf : 201000 ≤ fu) {s : MScope} (hs : SzScope s) {env : MEnv} (he : EnvOk env) {D : List MValue} (mem : Int) {R : List Int} {d : Nat} (d1 : d < D.length) (lr : R.length = D.length) :
  Ok (m_interp_unit_define fu s env.date env.inputs D env.members env.memberTypes env.tables mem R d) (fun r => (r.2.1.length = D.length ∧ r.2.2.length = R.length) ∧ (r.1.code = 0 → ∃ rl r' v, RC fu s env D mem d rl r' v ∧ r.2.1 = D.set d v ∧ r.2.2 = R.set d rl)) := by
 unfold m_interp_unit_define
 refine Ok.lk (Ok.mono (P := fun r => (r.2.1.length = D.length ∧ r.2.2.length = R.length) ∧ (r.1.code = 0 → ∃ rl r' v, RC fu s env D mem d rl r' v ∧ r.2.1 = D.set d v ∧ r.2.2 = R.set d rl)) ?_ fun r hr => ⟨by simp [hr.1.1, hr.1.2], hr⟩)
 unfold n_interp_unit_define
 have he' : EnvOk (envD env D) := ⟨he.members, he.tables⟩
 refine Ok.bde' (o_choose hf (u := MInterpUnit.mk s (envD env D) mem R) hs he' d) fun c hch hc => Ok.con (fun q => Ok.ret ⟨⟨rfl, rfl⟩, fun h => ?_⟩) fun q => Ok.con (fun _ => Ok.bde (m := m_interp_unit_fail _ _ _ _ _) rfl (Ok.ret ⟨⟨rfl, rfl⟩, fun h => by cases h⟩)) fun q1 => Ok.con (fun _ => Ok.bde (m := m_interp_unit_fail _ _ _ _ _) rfl (Ok.ret ⟨⟨rfl, rfl⟩, fun h => by cases h⟩)) fun q2 => ?_
 ·simp at q; exact absurd h q
 obtain ⟨e0, hc'⟩ := hc (by simpa using q)
 rcases hc' with h | h | ⟨l, h1, h2, h3, h4⟩
 ·rw [h] at q1; cases q1
 ·rw [h] at q2; cases q2
 refine Ok.ix h3 h4 fun r' hr' => Ok.bde' (o_Eval hf r'.value he') fun v hv hp => Ok.con (fun q3 => Ok.bde (m := m_interp_unit_fail _ _ _ _ _) rfl (Ok.ret ⟨⟨rfl, rfl⟩, fun h => ?_⟩)) fun q3 => Ok.bde (ix_nat D d ▸ List.getElem?_eq_getElem d1) (Ok.bde (ix_nat R d ▸ List.getElem?_eq_getElem (by omega)) (Ok.ret ⟨⟨by simp, by simp⟩, fun _ => ?_⟩))
 ·simp at q3; exact absurd h q3
 ·have e0' : v.2 = 0 := by simpa using q3
  obtain ⟨l', hl', _, hl2⟩ := ro_df (by omega : 200000 ≤ fu) hs d (envD env D).date
  rw [h1] at hl'; cases hl'
  obtain ⟨_, r2, hr2, hdf⟩ := hl2 _ h2
  rw [hr'] at hr2; cases hr2
  refine ⟨c.1, r', v.1, ⟨?_, h3, hr', hdf, ?_⟩, by simp, by simp⟩
  ·rw [choose_R mem [] R]
   exact hch.trans (by rw [← e0])
  ·have hv' : m_eval_Eval fu r'.value (envD env D) = some v := hv
   rw [hv', ← e0']
theorem define_fwd {s : MScope} {env : MEnv} {D : List MValue} {mem : Int} {R : List Int} {d : Nat} {rl : Int} {r : MRule} {v : MValue} (h : RC fu s env D mem d rl r v) (d1 : d < D.length) (lr : R.length = D.length) :
  m_interp_unit_define fu s env.date env.inputs D env.members env.memberTypes env.tables mem R d = some (MEvalError.mk 0 0 0 0, D.set d v, R.set d rl) := by
 unfold m_interp_unit_define
 have e : n_interp_unit_define fu s env.date env.inputs D env.members env.memberTypes env.tables mem R d = some (MEvalError.mk 0 0 0 0, D.set d v, R.set d rl) := by
  unfold n_interp_unit_define
  have h1 := (choose_R mem R [] d).trans h.ch
  have h2 := h.ev
  unfold envD at h1 h2
  have h3 := h.pos
  have a1 : (rl == -1) = false := by simp; omega
  have a2 : (rl == -2) = false := by simp; omega
  rw [h1, bd_of]
  simp only [a1, a2, cond_false]
  rw [show ((0 : Int) != 0) = false from rfl, cond_false, ix_of h.pos h.rule, bd_of, h2, bd_of]
  simp only
  rw [show ((0 : Int) != 0) = false from rfl, cond_false, ix_nat, List.getElem?_eq_getElem d1, bd_of, ix_nat, List.getElem?_eq_getElem (by omega), bd_of, Int.toNat_natCast]
 rw [e]
 unfold Go.Ab.lk
 simp
structure Unit2 (fu : Nat) (s : MScope) (env : MEnv) (mem : Int) (want : List Bool) (D : List MValue) (R : List Int) : Prop where
 lenD : D.length = s.defs.length
 lenR : R.length = s.defs.length
 res : ∃ o e, m_deps_EvaluationOrder fu s = some (o, e) ∧ Ord s (o, e) ∧ ∀ d : Nat, (d : Int) ∈ o → want[d]? = some true → Res2 fu s env mem D R d
structure Full (fu : Nat) (s : MScope) (env : MEnv) (mem : Int) (D : List MValue) (R : List Int) : Prop where
 lenD : D.length = s.defs.length
 lenR : R.length = s.defs.length
 res : ∀ d : Nat, d < s.defs.length → Res2 fu s env mem D R d
theorem Unit2.full {s : MScope} {env : MEnv} {mem : Int} {want : List Bool} {D : List MValue} {R : List Int} (h : Unit2 fu s env mem want D R) (ha : ∀ d : Nat, d < s.defs.length → ¬ Rch s d d) (hw : ∀ d : Nat, d < s.defs.length → want[d]? = some true) : Full fu s env mem D R := by
 obtain ⟨o, e, h1, h2, h3⟩ := h.res
 exact ⟨h.lenD, h.lenR, fun d hd => h3 d (h2.all (ord_done h2 ha) d hd) (hw d hd)⟩
theorem noM {env : MEnv} {P : Int → Prop} : ∀ y, P y → ∀ (k : Nat) u w, env.members[k]? = some u → env.members[k]? = some w → u.length = w.length ∧ ix u y = ix w y := fun y _ k u w h1 h2 => by
 rw [h1] at h2; cases h2; exact ⟨rfl, rfl⟩
theorem o_unitRun2 (hf : 201000 ≤ fu) {s : MScope} (hs : SzScope s) {env : MEnv} (he : EnvOk env) {D : List MValue} (mem : Int) {R : List Int} {want : List Bool} (lD : D.length = s.defs.length) (lR : R.length = s.defs.length) (lw : want.length = s.defs.length) :
  Ok (m_interp_unit_run fu s env.date env.inputs D env.members env.memberTypes env.tables mem R want) (fun r => (r.2.1.length = D.length ∧ r.2.2.length = R.length) ∧ (r.1.code = 0 → Unit2 fu s env mem want r.2.1 r.2.2)) := by
 have h14 := hs.defs
 unfold m_interp_unit_run
 refine Ok.lk (Ok.mono (P := fun r => (r.2.1.length = D.length ∧ r.2.2.length = R.length) ∧ (r.1.code = 0 → Unit2 fu s env mem want r.2.1 r.2.2)) ?_ fun r hr => ⟨by simp [hr.1.1, hr.1.2], hr⟩)
 unfold n_interp_unit_run
 refine Ok.bde' (o_Order (by omega) hs) fun c hc ho => ?_
 have lo : c.1.length ≤ 14 := Nat.le_trans (nd_len _ _ ho.nd ho.rng) h14
 refine Ok.loop (fun x : Nat × List MValue × List Int => x.1 ≤ c.1.length ∧ x.2.1.length = s.defs.length ∧ x.2.2.length = s.defs.length ∧ (∀ (k d : Nat), k < x.1 → c.1[k]? = some (d : Int) → want[d]? = some true → Res2 fu s env mem x.2.1 x.2.2 d)) (fun x => c.1.length - x.1) (fun n x hx rec => ?_) ⟨Nat.zero_le _, lD, lR, fun k d hk => absurd hk (Nat.not_lt_zero _)⟩ (by simp only; omega)
 obtain ⟨i, D1, R1⟩ := x
 obtain ⟨a1, a2, a3, a4⟩ := hx
 simp only at a1 a2 a3 a4
 simp only [m_interp_unit_run_L1]
 refine Ok.con (fun q => ?_) fun q => Ok.ret ⟨⟨by simp only; omega, by simp only; omega⟩, fun _ => ⟨a2, a3, c.1, c.2, hc, ho, fun d hd hw => ?_⟩⟩
 ·have q' : i < c.1.length := by simpa [nI] using q
  refine Ok.ixN q' fun x hx => ?_
  obtain ⟨x0, x1⟩ := ho.rng x (mem_ix hx)
  obtain ⟨d, rfl⟩ : ∃ d : Nat, x = d := ⟨x.toNat, by omega⟩
  have hd : d < s.defs.length := by omega
  have uniq : ∀ k : Nat, k < i → c.1[k]? ≠ some (d : Int) := fun k hk h => by
   have := (List.getElem?_inj (i := k) (j := i) (by omega) ho.nd).1 (h.trans hx.symm)
   omega
  refine Ok.ix x0 (by omega) fun w hw => Ok.con (fun q2 => Ok.cnt (by omega) (rec _ ⟨by simp only; omega, a2, a3, fun k d' hk hd' hw' => ?_⟩ (by simp only; omega))) fun q2 => ?_
  ·by_cases q3 : k = i
   ·subst q3
    rw [hx] at hd'
    have : d = d' := by have := Option.some.inj hd'; omega
    subst this
    simp only [Int.toNat_natCast] at hw
    rw [hw] at hw'
    simp at q2; simp [q2] at hw'
   ·exact a4 k d' (by simp only at hk; omega) hd' hw'
  ·refine Ok.bd (o_define2 hf hs he mem (by omega) (by omega)) fun r hr => Ok.con (fun q3 => Ok.ret ⟨⟨by simp only; omega, by simp only; omega⟩, fun h => ?_⟩) fun q3 => Ok.cnt (by omega) (rec _ ⟨by simp only; omega, by simp only; omega, by simp only; omega, fun k d' hk hd' hw' => ?_⟩ (by simp only; omega))
   ·simp at q3; exact absurd h q3
   ·obtain ⟨rl, r', v, rc, e7, e8⟩ := hr.2 (by simpa using q3)
    simp only at hk ⊢
    have ne : ∀ (k : Nat) (x y : Int), k ≤ i → c.1[k]? = some x → Dir s x y → D1[y.toNat]? = (D1.set d v)[y.toNat]? := fun k x y hk hx' hxy => by
     obtain ⟨j, hj, hjy⟩ := ho.pre k x y hx' hxy
     have y0 := hxy.2.1.1
     rw [List.getElem?_set_ne (fun h => uniq j (by omega) (by rw [hjy]; congr 1; omega))]
    rw [e7, e8]
    by_cases q4 : k = i
    ·subst q4
     rw [hx] at hd'
     have : d = d' := by have := Option.some.inj hd'; omega
     subst this
     exact ⟨rl, r', v, rc.cong (by omega) hs (EAg.rfl _) x0 x1 a2 (by simp [a2]) (fun y hy => ne k _ y (Nat.le_refl _) hx hy) noM, List.getElem?_set_self (by omega), List.getElem?_set_self (by omega)⟩
    ·have hne : d' ≠ d := fun h => uniq k (by omega) (by rw [hd', h])
     obtain ⟨rl', r2, v', rc', f1, f2⟩ := a4 k d' (by omega) hd' hw'
     have hr' := ho.rng _ (mem_ix hd')
     exact ⟨rl', r2, v', rc'.cong (by omega) hs (EAg.rfl _) hr'.1 hr'.2 a2 (by simp [a2]) (fun y hy => ne k _ y (by omega) hd' hy) noM, by rw [List.getElem?_set_ne (fun h => hne h.symm)]; exact f1, by rw [List.getElem?_set_ne (fun h => hne h.symm)]; exact f2⟩
 ·have q' : c.1.length ≤ i := by simpa [nI] using q
  obtain ⟨k, hk⟩ := List.getElem?_of_mem hd
  exact a4 k d (by have := lt_ix hk; omega) hk hw
theorem o_again (hf : 201000 ≤ fu) {s : MScope} (hs : SzScope s) (ha : ∀ d : Nat, d < s.defs.length → ¬ Rch s d d) {env env' : MEnv} (ea : EAg env env') {D : List MValue} {mem : Int} {R : List Int} (full : Full fu s env mem D R) {want : List Bool} (lw : want.length = s.defs.length) (cw : ∀ (d : Nat) (x : Int), want[d]? = some true → Dir s d x → want[x.toNat]? = some true) (hm : ∀ (d : Nat) (y : Int), want[d]? = some true → MRefD s d y → ∀ (k : Nat) u w, env.members[k]? = some u → env'.members[k]? = some w → u.length = w.length ∧ ix u y = ix w y) {D0 : List MValue} {R0 : List Int} (l0 : D0.length = s.defs.length) (l1 : R0.length = s.defs.length) :
  Ok (m_interp_unit_run fu s env'.date env'.inputs D0 env'.members env'.memberTypes env'.tables mem R0 want) (fun r => r.1 = MEvalError.mk 0 0 0 0 ∧ r.2.1.length = s.defs.length ∧ r.2.2.length = s.defs.length ∧ ∀ d : Nat, d < s.defs.length → want[d]? = some true → r.2.1[d]? = D[d]? ∧ r.2.2[d]? = R[d]?) := by
 have h14 := hs.defs
 obtain ⟨lD, lR, hres⟩ := full
 unfold m_interp_unit_run
 refine Ok.lk (Ok.mono (P := fun r => r.1 = MEvalError.mk 0 0 0 0 ∧ r.2.1.length = s.defs.length ∧ r.2.2.length = s.defs.length ∧ ∀ d : Nat, d < s.defs.length → want[d]? = some true → r.2.1[d]? = D[d]? ∧ r.2.2[d]? = R[d]?) ?_ fun r hr => ⟨by simp [hr.2.1, hr.2.2.1, l0, l1], hr⟩)
 unfold n_interp_unit_run
 refine Ok.bde' (o_Order (by omega) hs) fun c hc ho => ?_
 have lo : c.1.length ≤ 14 := Nat.le_trans (nd_len _ _ ho.nd ho.rng) h14
 refine Ok.loop (fun x : Nat × List MValue × List Int => x.1 ≤ c.1.length ∧ x.2.1.length = s.defs.length ∧ x.2.2.length = s.defs.length ∧ (∀ (k d : Nat), k < x.1 → c.1[k]? = some (d : Int) → want[d]? = some true → x.2.1[d]? = D[d]? ∧ x.2.2[d]? = R[d]?)) (fun x => c.1.length - x.1) (fun n x hx rec => ?_) ⟨Nat.zero_le _, l0, l1, fun k d hk => absurd hk (Nat.not_lt_zero _)⟩ (by simp only; omega)
 obtain ⟨i, D1, R1⟩ := x
 obtain ⟨a1, a2, a3, a4⟩ := hx
 simp only at a1 a2 a3 a4
 simp only [m_interp_unit_run_L1]
 refine Ok.con (fun q => ?_) fun q => Ok.ret ⟨rfl, a2, a3, fun d hd hw => ?_⟩
 ·have q' : i < c.1.length := by simpa [nI] using q
  refine Ok.ixN q' fun x hx => ?_
  obtain ⟨x0, x1⟩ := ho.rng x (mem_ix hx)
  obtain ⟨d, rfl⟩ : ∃ d : Nat, x = d := ⟨x.toNat, by omega⟩
  have hd : d < s.defs.length := by omega
  have uniq : ∀ k : Nat, k < i → c.1[k]? ≠ some (d : Int) := fun k hk h => by
   have := (List.getElem?_inj (i := k) (j := i) (by omega) ho.nd).1 (h.trans hx.symm)
   omega
  refine Ok.ix x0 (by omega) fun w hw => Ok.con (fun q2 => Ok.cnt (by omega) (rec _ ⟨by simp only; omega, a2, a3, fun k d' hk hd' hw' => ?_⟩ (by simp only; omega))) fun q2 => ?_
  ·by_cases q3 : k = i
   ·subst q3
    rw [hx] at hd'
    have : d = d' := by have := Option.some.inj hd'; omega
    subst this
    simp only [Int.toNat_natCast] at hw
    rw [hw] at hw'
    simp at q2; simp [q2] at hw'
   ·exact a4 k d' (by simp only at hk; omega) hd' hw'
  ·have hwd : want[d]? = some true := by
    simp only [Int.toNat_natCast] at hw
    rw [hw]; simpa using q2
   obtain ⟨rl, r', v, rc, f1, f2⟩ := hres d hd
   have rc' : RC fu s env' D1 mem d rl r' v := rc.cong (by omega) hs ea x0 x1 lD a2 (fun y hy => by
    obtain ⟨j, hj, hjy⟩ := ho.pre i d y hx hy
    have y0 := hy.2.1.1
    exact ((a4 j y.toNat hj (by rw [hjy]; congr 1; omega) (cw d y hwd hy)).1).symm) (fun y hy => hm d y hwd hy)
   rw [define_fwd rc' (by omega) (by omega), bd_of]
   refine Ok.con (fun q3 => by cases q3) fun _ => Ok.cnt (by omega) (rec _ ⟨by simp only; omega, by simp [a2], by simp [a3], fun k d' hk hd' hw' => ?_⟩ (by simp only; omega))
   simp only at hk ⊢
   by_cases q4 : d' = d
   ·subst q4
    rw [List.getElem?_set_self (by omega), List.getElem?_set_self (by omega)]
    exact ⟨f1.symm, f2.symm⟩
   ·rw [List.getElem?_set_ne (fun h => q4 h.symm), List.getElem?_set_ne (fun h => q4 h.symm)]
    have hki : k ≠ i := fun h => by subst h; rw [hx] at hd'; have := Option.some.inj hd'; omega
    exact a4 k d' (by omega) hd' hw'
 ·have q' : c.1.length ≤ i := by simpa [nI] using q
  obtain ⟨k, hk⟩ := List.getElem?_of_mem (ho.all (ord_done ho ha) d hd)
  exact a4 k d (by have := lt_ix hk; omega) hk hw
end Go.Ab
set_option linter.unusedVariables false
set_option linter.unusedSimpArgs false
namespace Go.Ab
variable {fu : Nat}
theorem o_MDefs2 (hf : 200000 ≤ fu) {s : MScope} (hs : SzScope s) {d : Int} (d0 : 0 ≤ d) (d1 : d < s.defs.length) : Ok (m_deps_MemberDefs fu s d) (fun v => v.length ≤ 6000 ∧ ∀ x, x ∈ v ↔ ∃ d', (d' = d ∨ Rch s d d') ∧ MRefD s d' x) := by
 have hr := hs.rules
 unfold m_deps_MemberDefs m_deps_valid
 rw [bd_of]
 refine Ok.con (fun q => ?_) fun q => Ok.bd (o_Trans hf hs d) fun c hc => Ok.ap (by simp; omega) ?_
 ·exfalso; simp [ln_len] at q; omega
 have hz : (c ++ [d]).length ≤ 15 := by simp; omega
 have hzm : ∀ x, x ∈ c ++ [d] ↔ (x = d ∨ Rch s d x) := fun x => by rw [mem_ap, hc.2]; exact Or.comm
 generalize c ++ [d] = zs at hz hzm
 refine Ok.rgA (fun (o : List Int) i => o.length ≤ 100 * i ∧ ∀ x, x ∈ o ↔ ∃ k r, k < i ∧ s.rules[k]? = some r ∧ (r.df ∈ zs ∧ ∃ e, (e = r.guard ∨ e = r.value) ∧ ∃ n ∈ e, (36 ≤ n.op ∧ n.op ≤ 39) ∧ n.n = x)) s.rules.length (by omega) (fun m o i ho hi rec => ?_) hf (o := []) ⟨Nat.zero_le _, fun x => by simp⟩
 obtain ⟨a1, a2⟩ := ho
 simp only [m_deps_MemberDefs_L1]
 refine Ok.con (fun q1 => ?_) fun q1 => ?_
 ·have q1' : i < s.rules.length := by simpa [nI] using q1
  refine Ok.ixN q1' fun r hr' => Ok.bd (o_ContI hf (by omega) _) fun b hb => Ok.con (fun q2 => Ok.cnt (by omega) (rec _ _ ⟨by omega, fun x => ?_⟩ (by omega) (by omega))) fun q2 => ?_
  ·have nb : r.df ∉ zs := fun h => by rw [hb.2 h] at q2; cases q2
   rw [a2, ex_succ hr']
   exact ⟨.inl, fun h => h.elim id fun h => absurd h.1 nb⟩
  have yb : r.df ∈ zs := hb.1 (by simpa using q2)
  have hz := hs.rls r (mem_ix hr')
  refine Ok.rgA (fun (o2 : List Int) t => o2.length ≤ o.length + 50 * t ∧ ∀ x, x ∈ o2 ↔ x ∈ o ∨ ∃ k e, k < t ∧ [r.guard, r.value][k]? = some e ∧ ∃ n ∈ e, (36 ≤ n.op ∧ n.op ≤ 39) ∧ n.n = x) 2 (by omega) (fun m o2 t ho2 ht rec2 => ?_) hf (o := o) ⟨by omega, fun x => by simp⟩
  obtain ⟨b1, b2⟩ := ho2
  simp only [m_deps_MemberDefs_L2]
  refine Ok.con (fun q3 => ?_) fun q3 => ?_
  ·have q3' : t < 2 := by simpa [nI] using q3
   refine Ok.ixN (by simpa using q3') fun e he => ?_
   have hm : e = r.guard ∨ e = r.value := by simpa using mem_ix he
   have hel : e.length ≤ 50 := by
    rcases hm with rfl | rfl
    ·exact hz.guard
    ·exact hz.value
   refine Ok.bd (o_Refs hf hel) fun c hc => ?_
   obtain ⟨_, c1, _, c2⟩ := hc
   refine Ok.ap (by omega) (Ok.cnt (by omega) (rec2 (o2 ++ c.2.2) (t + 1) ⟨by rw [List.length_append]; omega, fun x => ?_⟩ (by omega) (by omega)))
   rw [List.mem_append, b2, c2, ex_succ he, or_assoc]
  ·have q3' : 2 ≤ t := by simpa [nI] using q3
   refine Ok.cnt (by omega) (rec o2 (i + 1) ⟨by omega, fun x => ?_⟩ (by omega) (by omega))
   rw [b2, ex_all (by simpa using q3'), a2, ex_succ hr']
   have : (∃ e ∈ [r.guard, r.value], ∃ n ∈ e, (36 ≤ n.op ∧ n.op ≤ 39) ∧ n.n = x) ↔ (r.df ∈ zs ∧ ∃ e, (e = r.guard ∨ e = r.value) ∧ ∃ n ∈ e, (36 ≤ n.op ∧ n.op ≤ 39) ∧ n.n = x) := by
    simp only [List.mem_cons, List.not_mem_nil, or_false]
    exact ⟨fun h => ⟨yb, h⟩, fun h => h.2⟩
   rw [this]
 ·have q1' : s.rules.length ≤ i := by simpa [nI] using q1
  refine (o_uniq (xs := o) (by omega)).mono fun v hv => ⟨by omega, fun x => ?_⟩
  rw [hv.2, a2, ex_all q1']
  constructor
  ·rintro ⟨r, hr, hz, h⟩
   exact ⟨r.df, (hzm _).1 hz, r, hr, rfl, h⟩
  ·rintro ⟨d', hd', r, hr, hdf, h⟩
   exact ⟨r, hr, by rw [hdf]; exact (hzm _).2 hd', h⟩
theorem set_tr {w : List Bool} {k d : Nat} (h : k < w.length) : (w.set k true)[d]? = some true ↔ w[d]? = some true ∨ d = k := by
 by_cases q : d = k
 ·subst q
  rw [List.getElem?_set_self h]
  simp
 ·rw [List.getElem?_set_ne (fun h => q h.symm)]
  simp [q]
def Mk (s : MScope) (x : Int) (w r : List Bool) : Prop := r.length = w.length ∧ ∀ d : Nat, r[d]? = some true ↔ w[d]? = some true ∨ d = x.toNat ∨ ∃ z, Rch s x z ∧ z.toNat = d
theorem o_memberDef2 (hf : 200000 ≤ fu) (l : MLaw) (s : MScope) {ms : MScope} (hz : SzScope ms) (c : MCase) (want : List Bool) {inner : List Bool} (li : inner.length = ms.defs.length) {x : Int} (x0 : 0 ≤ x) (x1 : x < ms.defs.length) : Ok (m_interp_machine_memberDef fu l s ms c want inner x) (Mk ms x inner) := by
 unfold m_interp_machine_memberDef
 refine Ok.lk (Ok.mono (P := Mk ms x inner) ?_ fun r hr => ⟨by simp [hr.1], hr⟩)
 unfold n_interp_machine_memberDef
 refine Ok.ix x0 (by omega) fun _ _ => Ok.bd (o_Trans hf hz x) fun t ht => ?_
 obtain ⟨t1, t2⟩ := ht
 refine Ok.loop (fun y : Nat × List Bool => y.1 ≤ t.length ∧ y.2.length = inner.length ∧ ∀ d : Nat, y.2[d]? = some true ↔ (inner[d]? = some true ∨ d = x.toNat) ∨ ∃ k z, k < y.1 ∧ t[k]? = some z ∧ z.toNat = d) (fun y => t.length - y.1) (fun n y hy rec => ?_) ⟨Nat.zero_le _, by simp, fun d => ?_⟩ (by simp only; omega)
 ·obtain ⟨i, w⟩ := y
  obtain ⟨a1, a2, a3⟩ := hy
  simp only at a1 a2 a3
  simp only [m_interp_machine_memberDef_L1]
  refine Ok.con (fun q => ?_) fun q => Ok.ret ⟨a2, fun d => ?_⟩
  ·have q' : i < t.length := by simpa [nI] using q
   refine Ok.ixN q' fun y hy => ?_
   have hv := ((t2 y).1 (mem_ix hy)).val
   refine Ok.ix hv.1 (by omega) fun _ _ => Ok.cnt (by omega) (rec _ ⟨by simp only; omega, by simp [a2], fun d => ?_⟩ (by simp only; omega))
   simp only
   rw [set_tr (by omega), a3, ex_succ hy, or_assoc, show (d = y.toNat) = (y.toNat = d) from propext eq_comm]
  ·have q' : t.length ≤ i := by simpa [nI] using q
   rw [a3, ex_all q', or_assoc]
   have : (∃ a ∈ t, a.toNat = d) ↔ ∃ z, Rch ms x z ∧ z.toNat = d := by
    constructor
    ·rintro ⟨a, h1, h2⟩; exact ⟨a, (t2 a).1 h1, h2⟩
    ·rintro ⟨a, h1, h2⟩; exact ⟨a, (t2 a).2 h1, h2⟩
   rw [this]
 ·rw [set_tr (by omega)]
  simp
structure Cl (s ms : MScope) (want inner : List Bool) : Prop where
 lw : want.length = s.defs.length
 li : inner.length = ms.defs.length
 cw : ∀ (d : Nat) (x : Int), want[d]? = some true → Dir s d x → want[x.toNat]? = some true
 ci : ∀ (d : Nat) (x : Int), inner[d]? = some true → Dir ms d x → inner[x.toNat]? = some true
 cm : ∀ (d : Nat) (y : Int), want[d]? = some true → MRefD s d y → inner[y.toNat]? = some true
def SubB (a b : List Bool) : Prop := ∀ d : Nat, a[d]? = some true → b[d]? = some true
theorem SubB.rfl (a : List Bool) : SubB a a := fun _ h => h
theorem SubB.trans {a b c : List Bool} (h : SubB a b) (k : SubB b c) : SubB a c := fun d x => k d (h d x)
theorem Mk.sub {s : MScope} {x : Int} {w r : List Bool} (h : Mk s x w r) : SubB w r := fun d hd => (h.2 d).2 (.inl hd)
theorem Mk.self {s : MScope} {x : Int} {w r : List Bool} (h : Mk s x w r) : r[x.toNat]? = some true := (h.2 _).2 (.inr (.inl rfl))
theorem Mk.closed {s : MScope} {x : Int} (x0 : 0 ≤ x) {w r : List Bool} (h : Mk s x w r) (hw : ∀ (d : Nat) (y : Int), w[d]? = some true → Dir s d y → w[y.toNat]? = some true) : ∀ (d : Nat) (y : Int), r[d]? = some true → Dir s d y → r[y.toNat]? = some true := fun d y hd hy => by
 rcases (h.2 d).1 hd with q | q | ⟨z, hz, q⟩
 ·exact h.sub _ (hw d y q hy)
 ·refine (h.2 _).2 (.inr (.inr ⟨y, .one ?_, rfl⟩))
  have : (d : Int) = x := by omega
  rwa [this] at hy
 ·refine (h.2 _).2 (.inr (.inr ⟨y, .step hz ?_, rfl⟩))
  have := hz.val.1
  have : (d : Int) = z := by omega
  rwa [this] at hy
theorem Cl.member {s ms : MScope} {want inner r : List Bool} (h : Cl s ms want inner) {x : Int} (x0 : 0 ≤ x) (m : Mk ms x inner r) : Cl s ms want r :=
 ⟨h.lw, m.1.trans h.li, h.cw, m.closed x0 h.ci, fun d y h1 h2 => m.sub _ (h.cm d y h1 h2)⟩
theorem o_require2 (hf : 200000 ≤ fu) (l : MLaw) {s ms : MScope} (hs : SzScope s) (hz : SzScope ms) (c : MCase) {want inner : List Bool} (cl : Cl s ms want inner) {d : Int} (d0 : 0 ≤ d) (d1 : d < s.defs.length) (hm : ∀ x, MRef s x → 0 ≤ x ∧ x < ms.defs.length) : Ok (m_interp_machine_require fu l s ms c want inner d) (fun r => Cl s ms r.1 r.2 ∧ SubB want r.1 ∧ SubB inner r.2 ∧ r.1[d.toNat]? = some true) := by
 have lw := cl.lw
 have li := cl.li
 unfold m_interp_machine_require
 refine Ok.lk (Ok.mono (P := fun r => Cl s ms r.1 r.2 ∧ SubB want r.1 ∧ SubB inner r.2 ∧ r.1[d.toNat]? = some true) ?_ fun r hr => ⟨by simp [hr.1.lw, hr.1.li, lw, li], hr⟩)
 unfold n_interp_machine_require
 refine Ok.ix d0 (by omega) fun _ _ => Ok.bd (o_Trans hf hs d) fun t ht => ?_
 obtain ⟨t1, t2⟩ := ht
 refine Ok.loop (fun y : Nat × List Bool => y.1 ≤ t.length ∧ y.2.length = want.length ∧ ∀ e : Nat, y.2[e]? = some true ↔ (want[e]? = some true ∨ e = d.toNat) ∨ ∃ k z, k < y.1 ∧ t[k]? = some z ∧ z.toNat = e) (fun y => t.length - y.1) (fun n y hy rec => ?_) ⟨Nat.zero_le _, by simp, fun e => ?_⟩ (by simp only; omega)
 ·obtain ⟨i, w⟩ := y
  obtain ⟨a1, a2, a3⟩ := hy
  simp only at a1 a2 a3
  simp only [m_interp_machine_require_L1]
  refine Ok.con (fun q => ?_) fun q => ?_
  ·have q' : i < t.length := by simpa [nI] using q
   refine Ok.ixN q' fun y hy => ?_
   have hv := ((t2 y).1 (mem_ix hy)).val
   refine Ok.ix hv.1 (by omega) fun _ _ => Ok.cnt (by omega) (rec _ ⟨by simp only; omega, by simp [a2], fun e => ?_⟩ (by simp only; omega))
   simp only
   rw [set_tr (by omega), a3, ex_succ hy, or_assoc, show (e = y.toNat) = (y.toNat = e) from propext eq_comm]
  ·have q' : t.length ≤ i := by simpa [nI] using q
   have mk : Mk s d want w := ⟨a2, fun e => by
    rw [a3, ex_all q', or_assoc]
    have : (∃ a ∈ t, a.toNat = e) ↔ ∃ z, Rch s d z ∧ z.toNat = e := by
     constructor
     ·rintro ⟨a, h1, h2⟩; exact ⟨a, (t2 a).1 h1, h2⟩
     ·rintro ⟨a, h1, h2⟩; exact ⟨a, (t2 a).2 h1, h2⟩
    rw [this]⟩
   refine Ok.bd (o_MDefs2 hf hs d0 d1) fun md hmd => ?_
   obtain ⟨m1, m2⟩ := hmd
   refine Ok.loop (fun y : Nat × List Bool => y.1 ≤ md.length ∧ Cl s ms want y.2 ∧ SubB inner y.2 ∧ ∀ (k : Nat) (x : Int), k < y.1 → md[k]? = some x → y.2[x.toNat]? = some true) (fun y => md.length - y.1) (fun n y hy rec2 => ?_) ⟨Nat.zero_le _, cl, SubB.rfl _, no0⟩ (by simp only; omega)
   obtain ⟨j, v⟩ := y
   obtain ⟨b1, b2, b3, b4⟩ := hy
   simp only at b1 b2 b3 b4
   simp only [m_interp_machine_require_L2]
   refine Ok.con (fun q => ?_) fun q => Ok.ret ?_
   ·have q' : j < md.length := by simpa [nI] using q
    refine Ok.ixN q' fun x hx => ?_
    have hxm : MRef s x := by
     obtain ⟨d', _, r, hr, _, e, he, h⟩ := (m2 x).1 (mem_ix hx)
     exact ⟨r, hr, e, he, h⟩
    obtain ⟨x0, x1⟩ := hm x hxm
    exact Ok.bd (o_memberDef2 hf l s hz c w b2.li x0 x1) fun r hr => Ok.cnt (by omega) (rec2 _ ⟨by simp only; omega, b2.member x0 hr, b3.trans hr.sub, stp hx hr.self fun k y hk hy => hr.sub _ (b4 k y hk hy)⟩ (by simp only; omega))
   ·have q2 : md.length ≤ j := by simpa [nI] using q
    have b5 := all_ix q2 b4
    refine ⟨⟨a2.trans lw, b2.li, mk.closed d0 cl.cw, b2.ci, fun e y he hy => ?_⟩, mk.sub, b3, mk.self⟩
    rcases (mk.2 e).1 he with h | h | ⟨z, hz', h⟩
    ·exact b2.cm e y h hy
    ·exact b5 y ((m2 y).2 ⟨d, .inl rfl, by rwa [show (e : Int) = d by omega] at hy⟩)
    ·have := hz'.val.1
     exact b5 y ((m2 y).2 ⟨z, .inr hz', by rwa [show (e : Int) = z by omega] at hy⟩)
 ·rw [set_tr (by omega)]
  simp
end Go.Ab
set_option linter.unusedVariables false
set_option linter.unusedSimpArgs false
namespace Go.Ab
variable {fu : Nat}
theorem ex_ix {α : Type} {xs : List α} {i : Nat} (h : i < xs.length) : ∃ x, xs[i]? = some x := ⟨_, List.getElem?_eq_getElem h⟩
def Acyc (s : MScope) : Prop := ∀ d : Nat, d < s.defs.length → ¬ Rch s d d
def tEnv (l : MLaw) (c : MCase) (ms : MScope) (MD : List (List MValue)) : MEnv := MEnv.mk c.date c.inputs [] MD (tysOf ms) l.tables
structure FullRun (fu : Nat) (l : MLaw) (s ms : MScope) (c : MCase) (MD : List (List MValue)) (MR : List (List Int)) (D : List MValue) (R : List Int) : Prop where
 len : MD.length = c.members.length
 mem : ∀ (k : Nat) v u w, c.members[k]? = some v → MD[k]? = some u → MR[k]? = some w → Full fu ms (memEnv l c v) (nI k) u w
 top : Full fu s (tEnv l c ms MD) (-1) D R
 lenR : MR.length = c.members.length
theorem o_machFull (hf : 201000 ≤ fu) {l : MLaw} (hl : SzLaw l) {s ms : MScope} (hs : SzScope s) (hms : SzScope ms) (ac : Acyc s) (am : Acyc ms) {c : MCase} (hc : SzCase c) {want inner : List Bool} (lw : want.length = s.defs.length) (li : inner.length = ms.defs.length) (aw : ∀ d : Nat, d < s.defs.length → want[d]? = some true) (ai : ∀ d : Nat, d < ms.defs.length → inner[d]? = some true) :
  Ok (m_interp_machine_run fu l s ms c want inner) (fun r => r.1.code = 0 → ∃ top, r.2.2.2.2 = some top ∧ r.2.2.2.1.length = c.members.length ∧ FullRun fu l s ms c (r.2.2.2.1.map (·.env.defs)) (r.2.2.2.1.map (·.rules)) top.env.defs top.rules) := by
 have h14 := hms.defs
 have h10 := hc.members
 have htb : ∀ t ∈ l.tables, t.rows.length ≤ 150 := fun t ht => (hl.tbs t ht).2
 unfold m_interp_machine_run
 refine Ok.loop (fun x : Nat × List MTy => x.1 ≤ ms.defs.length ∧ x.2 = (ms.defs.take x.1).map (·.ty)) (fun x => ms.defs.length - x.1) (fun n x hx rec1 => ?_) ⟨Nat.zero_le _, by simp⟩ (by simp only; omega)
 obtain ⟨i, ts⟩ := x
 obtain ⟨a1, a2⟩ := hx
 simp only at a1 a2
 simp only [m_interp_machine_run_L1]
 refine Ok.con (fun q => ?_) fun q => ?_
 ·have q' : i < ms.defs.length := by simpa [nI] using q
  refine Ok.ixN q' fun f hf' => Ok.ap (by rw [a2]; simp; omega) (Ok.cnt (by omega) (rec1 _ ⟨by simp only; omega, ?_⟩ (by simp only; omega)))
  simp only
  rw [a2, List.take_add_one, hf', List.map_append]
  rfl
 ·have q' : ms.defs.length ≤ i := by simpa [nI] using q
  have e1 : ts = tysOf ms := by rw [a2, List.take_of_length_le q']; rfl
  subst e1
  refine Ok.loop (fun x : Nat × List (List MValue) × List Bool × List MInterpUnit => x.1 ≤ c.members.length ∧ x.2.2.1 = inner ∧ x.2.1 = x.2.2.2.map (·.env.defs) ∧ x.2.2.2.length = x.1 ∧ ∀ (i : Nat) u v, x.2.2.2[i]? = some u → c.members[i]? = some v → Full fu ms (memEnv l c v) (nI i) u.env.defs u.rules) (fun x => c.members.length - x.1) (fun n x hx rec2 => ?_) ⟨Nat.zero_le _, rfl, rfl, rfl, fun i u v h => (by simp at h)⟩ (by simp only; omega)
  obtain ⟨j, vs, inn, us⟩ := x
  obtain ⟨b1, b2, b3, b4, b5⟩ := hx
  simp only at b1 b2 b3 b4 b5
  subst b2
  simp only [m_interp_machine_run_L2]
  refine Ok.con (fun q2 => ?_) fun q2 => ?_
  ·have q2' : j < c.members.length := by simpa [nI] using q2
   refine Ok.ixN q2' fun v hv => ?_
   rw [o_newUnit hms, bd_of]
   have he : EnvOk (memEnv l c v) := ⟨Nat.zero_le _, htb⟩
   refine Ok.bd (o_unitRun2 hf hms he (nI j) (D := List.replicate ms.defs.length (MValue.mk 0 0 0)) (R := List.replicate ms.defs.length 0) (by simp) (by simp) li) fun r hr => Ok.con (fun q3 => Ok.ret fun h => ?_) fun q3 => ?_
   ·simp at q3; exact absurd h q3
   have hu := (hr.2 (by simpa using q3)).full am ai
   refine Ok.ap (by simp; omega) (Ok.ap (by rw [b3]; simp; omega) (Ok.cnt (by omega) (rec2 _ ⟨by simp only; omega, rfl, ?_, by simp [b4], fun k u w hk hw => ?_⟩ (by simp only; omega))))
   ·simp only; rw [b3, List.map_append]; rfl
   ·simp only at hk
    by_cases q4 : k < us.length
    ·rw [List.getElem?_append_left q4] at hk
     exact b5 k u w hk hw
    ·have hkl := lt_ix hk
     simp at hkl
     have : k = us.length := by omega
     subst this
     simp at hk; subst hk
     rw [b4, hv] at hw; cases hw
     rw [b4]
     exact hu
  ·have q2' : c.members.length ≤ j := by simpa [nI] using q2
   rw [o_newUnit hs, bd_of]
   have he : EnvOk (tEnv l c ms (us.map (·.env.defs))) := ⟨by simp only [tEnv]; rw [List.length_map]; omega, htb⟩
   subst b3
   refine Ok.bd (o_unitRun2 hf hs he (-1) (D := List.replicate s.defs.length (MValue.mk 0 0 0)) (R := List.replicate s.defs.length 0) (by simp) (by simp) lw) fun r hr => Ok.ret fun h => ⟨_, rfl, by simp only; omega, by simp only; rw [List.length_map]; omega, fun k v u w hv hu hw => ?_, (hr.2 h).full ac aw, by simp only; rw [List.length_map]; omega⟩
   simp only [List.getElem?_map, Option.map_eq_some_iff] at hu hw
   obtain ⟨u', hu', rfl⟩ := hu
   obtain ⟨w', hw', rfl⟩ := hw
   rw [hu'] at hw'; cases hw'
   exact b5 k u' v hu' hv
structure Agree (l : MLaw) (s ms : MScope) (c : MCase) (MD : List (List MValue)) (D : List MValue) (R : List Int) (want inner : List Bool) (MD' : List (List MValue)) (D' : List MValue) (R' : List Int) : Prop where
 lenD : D'.length = s.defs.length
 lenR : R'.length = s.defs.length
 vals : ∀ d : Nat, d < s.defs.length → want[d]? = some true → D'[d]? = D[d]? ∧ R'[d]? = R[d]?
 len : MD'.length = MD.length
 mems : ∀ (k : Nat) u w, MD[k]? = some u → MD'[k]? = some w → u.length = ms.defs.length ∧ w.length = ms.defs.length ∧ ∀ d : Nat, d < ms.defs.length → inner[d]? = some true → u[d]? = w[d]?
theorem Agree.mem {l : MLaw} {s ms : MScope} {c : MCase} {MD MD' : List (List MValue)} {D D' : List MValue} {R R' : List Int} {want inner : List Bool} (h : Agree l s ms c MD D R want inner MD' D' R') {y : Int} (hy : inner[y.toNat]? = some true) (k : Nat) (u w : List MValue) (hu : MD[k]? = some u) (hw : MD'[k]? = some w) : u.length = w.length ∧ ix u y = ix w y := by
 obtain ⟨a, b, c⟩ := h.mems k u w hu hw
 refine ⟨by rw [a, b], ?_⟩
 by_cases q : 0 ≤ y ∧ y < ms.defs.length
 ·rw [ix_eq _ q.1, ix_eq _ q.1]
  exact c y.toNat (by omega) hy
 ·rw [ix_out _ (by rw [a]; exact q), ix_out _ (by rw [b]; exact q)]
theorem o_machAgain (hf : 201000 ≤ fu) {l : MLaw} (hl : SzLaw l) {s ms : MScope} (hs : SzScope s) (hms : SzScope ms) (ac : Acyc s) (am : Acyc ms) {c : MCase} (hc : SzCase c) {MD : List (List MValue)} {MR : List (List Int)} {D : List MValue} {R : List Int} (full : FullRun fu l s ms c MD MR D R) {want inner : List Bool} (cl : Cl s ms want inner) :
  Ok (m_interp_machine_run fu l s ms c want inner) (fun r => r.1 = MEvalError.mk 0 0 0 0 ∧ ∃ MD' D' R', r.2.2.2.2 = some (MInterpUnit.mk s (envD (tEnv l c ms MD') D') (-1) R') ∧ Agree l s ms c MD D R want inner MD' D' R') := by
 have h14 := hms.defs
 have h10 := hc.members
 have lw := cl.lw
 have li := cl.li
 have htb : ∀ t ∈ l.tables, t.rows.length ≤ 150 := fun t ht => (hl.tbs t ht).2
 unfold m_interp_machine_run
 refine Ok.loop (fun x : Nat × List MTy => x.1 ≤ ms.defs.length ∧ x.2 = (ms.defs.take x.1).map (·.ty)) (fun x => ms.defs.length - x.1) (fun n x hx rec1 => ?_) ⟨Nat.zero_le _, by simp⟩ (by simp only; omega)
 obtain ⟨i, ts⟩ := x
 obtain ⟨a1, a2⟩ := hx
 simp only at a1 a2
 simp only [m_interp_machine_run_L1]
 refine Ok.con (fun q => ?_) fun q => ?_
 ·have q' : i < ms.defs.length := by simpa [nI] using q
  refine Ok.ixN q' fun f hf' => Ok.ap (by rw [a2]; simp; omega) (Ok.cnt (by omega) (rec1 _ ⟨by simp only; omega, ?_⟩ (by simp only; omega)))
  simp only
  rw [a2, List.take_add_one, hf', List.map_append]
  rfl
 ·have q' : ms.defs.length ≤ i := by simpa [nI] using q
  have e1 : ts = tysOf ms := by rw [a2, List.take_of_length_le q']; rfl
  subst e1
  refine Ok.loop (fun x : Nat × List (List MValue) × List Bool × List MInterpUnit => x.1 ≤ c.members.length ∧ x.2.2.1 = inner ∧ x.2.1.length = x.1 ∧ x.2.2.2.length = x.1 ∧ ∀ (k : Nat) u w, MD[k]? = some u → x.2.1[k]? = some w → u.length = ms.defs.length ∧ w.length = ms.defs.length ∧ ∀ d : Nat, d < ms.defs.length → inner[d]? = some true → u[d]? = w[d]?) (fun x => c.members.length - x.1) (fun n x hx rec2 => ?_) ⟨Nat.zero_le _, rfl, rfl, rfl, fun i u v h k => (by simp at k)⟩ (by simp only; omega)
  obtain ⟨j, vs, inn, us⟩ := x
  obtain ⟨b1, b2, b3, b4, b5⟩ := hx
  simp only at b1 b2 b3 b4 b5
  subst b2
  simp only [m_interp_machine_run_L2]
  refine Ok.con (fun q2 => ?_) fun q2 => ?_
  ·have q2' : j < c.members.length := by simpa [nI] using q2
   refine Ok.ixN q2' fun v hv => ?_
   rw [o_newUnit hms, bd_of]
   obtain ⟨Dk, hD⟩ := ex_ix (xs := MD) (i := j) (by rw [full.len]; exact q2')
   obtain ⟨Rk, hR⟩ := ex_ix (xs := MR) (i := j) (by rw [full.lenR]; exact q2')
   have fk := full.mem j v Dk Rk hv hD hR
   refine Ok.bd (o_again hf hms am (env' := memEnv l c v) (EAg.rfl _) fk li cl.ci (fun d y _ _ k u w h => (by simp [memEnv] at h)) (D0 := List.replicate ms.defs.length (MValue.mk 0 0 0)) (R0 := List.replicate ms.defs.length 0) (by simp) (by simp)) fun r hr => ?_
   obtain ⟨r1, r2, r3, r4⟩ := hr
   rw [r1]
   refine Ok.con (fun q3 => by cases q3) fun _ => ?_
   refine Ok.ap (by simp; omega) (Ok.ap (by simp; omega) (Ok.cnt (by omega) (rec2 _ ⟨by simp only; omega, rfl, by simp [b3], by simp [b4], fun k u w hk hw => ?_⟩ (by simp only; omega))))
   simp only at hw
   by_cases q4 : k < vs.length
   ·rw [List.getElem?_append_left q4] at hw
    exact b5 k u w hk hw
   ·have hkl := lt_ix hw
    simp at hkl
    have : k = vs.length := by omega
    subst this
    simp at hw; subst hw
    rw [b3, hD] at hk; cases hk
    exact ⟨fk.lenD, r2, fun d hd hi => ((r4 d hd hi).1).symm⟩
  ·have q2' : c.members.length ≤ j := by simpa [nI] using q2
   rw [o_newUnit hs, bd_of]
   have hlv : vs.length = MD.length := by rw [full.len]; omega
   have ea : EAg (tEnv l c ms MD) (tEnv l c ms vs) := ⟨rfl, rfl, rfl, rfl, hlv.symm⟩
   have agm : ∀ y : Int, inn[y.toNat]? = some true → ∀ (k : Nat) u w, MD[k]? = some u → vs[k]? = some w → u.length = w.length ∧ ix u y = ix w y := fun y hy k u w hu hw =>
    Agree.mem (l := l) (s := MScope.mk ByteArray.empty 0 [] [] []) (ms := ms) (c := c) (MD := MD) (MD' := vs) (D := []) (D' := []) (R := []) (R' := []) (want := []) ⟨rfl, rfl, fun d h => absurd h (Nat.not_lt_zero _), hlv, b5⟩ hy k u w hu hw
   refine Ok.bd (o_again hf hs ac (env' := tEnv l c ms vs) ea full.top lw cl.cw (fun d y h1 h2 k u w hu hw => agm y (cl.cm d y h1 h2) k u w hu hw) (D0 := List.replicate s.defs.length (MValue.mk 0 0 0)) (R0 := List.replicate s.defs.length 0) (by simp) (by simp)) fun r hr => ?_
   obtain ⟨r1, r2, r3, r4⟩ := hr
   exact Ok.ret ⟨r1, vs, _, _, rfl, r2, r3, r4, hlv, b5⟩
end Go.Ab
set_option linter.unusedVariables false
set_option linter.unusedSimpArgs false
namespace Go.Ab
variable {fu : Nat}
theorem check_single {l : MLaw} {i : Int} {c : MCase} {s : MScope} (h0 : 0 ≤ i) (hs : l.scopes[i.toNat]? = some s) {d : Int} (d0 : 0 ≤ d) (d1 : d < s.defs.length) : m_interp_check fu l i c d true = m_interp_check fu l i c 0 false := by
 unfold m_interp_check
 simp only [cond_true, cond_false, decide_eq_false (show ¬ d < 0 by omega), ix_of h0 hs, bd_of, ln_len, decide_eq_false (show ¬ (s.defs.length : Int) ≤ d by omega)]
theorem Cl.none (s ms : MScope) : Cl s ms (List.replicate s.defs.length false) (List.replicate ms.defs.length false) := by
 have no : ∀ (n d : Nat), (List.replicate n false)[d]? ≠ some true := fun n d h => by
  rw [List.getElem?_replicate] at h
  split at h <;> cases h
 exact ⟨by simp, by simp, fun d _ h => absurd h (no _ _), fun d _ h => absurd h (no _ _), fun d _ h => absurd h (no _ _)⟩
structure Ran (fu : Nat) (l : MLaw) (i : Int) (c : MCase) (s ms : MScope) (MD : List (List MValue)) (MR : List (List Int)) (D : List MValue) (R : List Int) : Prop where
 law : LawOk fu l
 i0 : 0 ≤ i
 sc : l.scopes[i.toNat]? = some s
 hs : SzScope s
 hms : SzScope ms
 ac : Acyc s
 am : Acyc ms
 mref : ∀ x, MRef s x → 0 ≤ x ∧ x < ms.defs.length
 ck : ∃ e, m_interp_check fu l i c 0 false = some e ∧ e.code = 0
 nm : m_interp_newMachine fu l i c = some (l, s, ms, c, List.replicate s.defs.length false, List.replicate ms.defs.length false)
 run : FullRun fu l s ms c MD MR D R
theorem o_Run2 (hf : 201000 ≤ fu) {l : MLaw} (hl : SzLaw l) (i : Int) {c : MCase} (hc : SzCase c) : Ok (m_interp_Run fu l i c) (fun v => v.2.code = 0 → ∃ s ms MD MR, Ran fu l i c s ms MD MR v.1.values v.1.rules) := by
 have h10 := hc.members
 unfold m_interp_Run
 refine Ok.bde' (o_check20 (by omega) hl i hc 0 false) fun e hck he => Ok.con (fun q => Ok.ret fun h => ?_) fun q => ?_
 ·simp at q; exact absurd h q
 have e0 : e.code = 0 := by simpa using q
 obtain ⟨hv, hi, _, hm0⟩ := he e0
 obtain ⟨s, hs⟩ := ex_ix (xs := l.scopes) (i := i.toNat) (by omega)
 have hz := hl.scs s (mem_ix hs)
 have h14 := hz.defs
 refine Ok.bde' (o_newMach (by omega) hl hv hi.1 hs c) fun r hnm hr => ?_
 obtain ⟨ms, rfl, hzm, hms⟩ := hr
 have h14m := hzm.defs
 have ac : Acyc s := (hv.scopes _ s hs).acyc
 have am : Acyc ms := fun d hd => by
  rcases hms with ⟨_, h⟩ | ⟨_, h⟩
  ·exact (hv.scopes _ ms h).acyc d hd
  ·rw [h] at hd; simp at hd
 refine Ok.bd (o_all (by omega) l s ms c (by simp; omega) (by simp; omega)) fun w hw => ?_
 obtain ⟨w1, w2, w3, w4⟩ := hw
 rw [List.length_replicate] at w1 w2 w3 w4
 refine Ok.bd (o_machFull hf hl hz hzm ac am hc w1 w2 w3 w4) fun r hr => Ok.con (fun q2 => Ok.ret fun h => ?_) fun q2 => ?_
 ·simp at q2; exact absurd h q2
 obtain ⟨top, ht, hlen, hk⟩ := hr (by simpa using q2)
 refine Ok.bde ht ?_
 refine Ok.loop (fun x : Nat × List MMemberResult => x.1 ≤ r.2.2.2.1.length ∧ x.2.length = x.1) (fun x => r.2.2.2.1.length - x.1) (fun n x hx rec1 => ?_) ⟨Nat.zero_le _, rfl⟩ (by simp only; omega)
 obtain ⟨j, ms'⟩ := x
 obtain ⟨a1, a2⟩ := hx
 simp only at a1 a2
 simp only [m_interp_Run_L1]
 refine Ok.con (fun q3 => ?_) fun q3 => Ok.ret fun _ => ⟨s, ms, _, _, hv, hi.1, hs, hz, hzm, ac, am, mref_ok hv hs hms, ⟨e, hck, e0⟩, hnm, hk⟩
 have q3' : j < r.2.2.2.1.length := by simpa [nI] using q3
 exact Ok.ixN q3' fun u hu => Ok.ap (by simp; omega) (Ok.cnt (by omega) (rec1 _ ⟨by simp only; omega, by simp [a2]⟩ (by simp only; omega)))
theorem o_EvalDef2 (hf : 201000 ≤ fu) {l : MLaw} (hl : SzLaw l) {i : Int} {c : MCase} (hc : SzCase c) {s ms : MScope} {MD : List (List MValue)} {MR : List (List Int)} {D : List MValue} {R : List Int} (h : Ran fu l i c s ms MD MR D R) {d : Int} (d0 : 0 ≤ d) (d1 : d < s.defs.length) : Ok (m_interp_EvalDef fu l i c d) (fun v => v.2.2 = MEvalError.mk 0 0 0 0 ∧ D[d.toNat]? = some v.1 ∧ R[d.toNat]? = some v.2.1) := by
 obtain ⟨e, ck, e0⟩ := h.ck
 unfold m_interp_EvalDef
 rw [check_single h.i0 h.sc d0 d1, ck, bd_of, e0]
 refine Ok.con (fun q => by cases q) fun _ => Ok.bde h.nm ?_
 refine Ok.bd (o_require2 (by omega) l h.hs h.hms c (Cl.none s ms) d0 d1 h.mref) fun w hw => ?_
 obtain ⟨w1, _, _, w4⟩ := hw
 refine Ok.bd (o_machAgain hf hl h.hs h.hms h.ac h.am hc h.run w1) fun r hr => ?_
 obtain ⟨r1, MD', D', R', r2, ag⟩ := hr
 rw [r1]
 refine Ok.con (fun q => by cases q) fun _ => Ok.bde r2 ?_
 have hd : d.toNat < s.defs.length := by omega
 obtain ⟨v1, v2⟩ := ag.vals d.toNat hd w4
 refine Ok.ix d0 (by have := ag.lenD; simp only [envD]; omega) fun v hv => Ok.ix d0 (by have := ag.lenR; simp only; omega) fun k hk => Ok.ret ⟨rfl, ?_, ?_⟩
 ·exact v1.symm.trans hv
 ·exact v2.symm.trans hk
theorem o_SelectRule2 (hf : 201000 ≤ fu) {l : MLaw} (hl : SzLaw l) {i : Int} {c : MCase} (hc : SzCase c) {s ms : MScope} {MD : List (List MValue)} {MR : List (List Int)} {D : List MValue} {R : List Int} (h : Ran fu l i c s ms MD MR D R) {d : Int} (d0 : 0 ≤ d) (d1 : d < s.defs.length) : Ok (m_interp_SelectRule fu l i c d) (fun v => v.2 = MEvalError.mk 0 0 0 0 ∧ R[d.toNat]? = some v.1) := by
 obtain ⟨e, ck, e0⟩ := h.ck
 have hs := h.hs
 have hms := h.hms
 unfold m_interp_SelectRule
 rw [check_single h.i0 h.sc d0 d1, ck, bd_of, e0]
 refine Ok.con (fun q => by cases q) fun _ => Ok.bde h.nm ?_
 refine Ok.bde' (ro_df (by omega) hs d c.date) fun ids hids hI => ?_
 obtain ⟨id1, id2⟩ := hI
 refine Ok.loop (fun x : Nat × List MRule => x.1 ≤ ids.length ∧ x.2.length = x.1 ∧ (∀ (k : Nat) (y : Int), k < x.1 → ids[k]? = some y → ∀ r, s.rules[y.toNat]? = some r → ∃ g ∈ x.2, g.value = r.guard) ∧ ∀ g ∈ x.2, g.df = d ∧ g.guard = [] ∧ g.name = ByteArray.empty ∧ g.source = ByteArray.empty ∧ ∃ r ∈ s.rules, g.value = r.guard) (fun x => ids.length - x.1) (fun n x hx rec1 => ?_) ⟨Nat.zero_le _, rfl, no0, fun g hg => (by cases hg)⟩ (by simp only; omega)
 obtain ⟨j, p⟩ := x
 obtain ⟨a1, a2, a3, a4⟩ := hx
 simp only at a1 a2 a3 a4
 simp only [m_interp_SelectRule_L1]
 refine Ok.con (fun q => ?_) fun q => ?_
 ·have q' : j < ids.length := by simpa [nI] using q
  refine Ok.ixN q' fun y hy => ?_
  obtain ⟨y0, r, hr, hdf⟩ := id2 y (mem_ix hy)
  refine Ok.bde (ix_of y0 hr) (Ok.ap (by simp; omega) (Ok.cnt (by omega) (rec1 _ ⟨by simp only; omega, by simp [a2], stp hy (fun r' hr' => ?_) fun k z hk hz r' hr' => ?_, fun g hg => ?_⟩ (by simp only; omega))))
  ·rw [hr] at hr'; cases hr'
   exact ⟨_, List.mem_append.2 (.inr (List.mem_singleton.2 rfl)), rfl⟩
  ·obtain ⟨g, hg, he⟩ := a3 k z hk hz r' hr'
   exact ⟨g, List.mem_append.2 (.inl hg), he⟩
  ·rcases List.mem_append.1 hg with hg | hg
   ·exact a4 g hg
   ·rw [List.mem_singleton] at hg; subst hg
    exact ⟨rfl, rfl, rfl, rfl, r, mem_ix hr, rfl⟩
 have q' : ids.length ≤ j := by simpa [nI] using q
 have a5 := all_ix q' a3
 have hgs : SzScope (MScope.mk s.name s.ms s.inputs s.defs p) := ⟨hs.name, hs.inputs, hs.defs, by simp only; omega, hs.inp, hs.dfs, fun g hg => by
  obtain ⟨_, g2, g3, g4, r, hr, g5⟩ := a4 g hg
  exact ⟨by rw [g3]; decide, by rw [g4]; decide, by rw [g2]; simp, by rw [g5]; exact (hs.rls r hr).guard⟩⟩
 refine Ok.bd (o_Direct (by omega) hgs d) fun dl hdl => ?_
 obtain ⟨dl1, dl2⟩ := hdl
 refine Ok.loop (fun x : Nat × List Bool × List Bool => x.1 ≤ dl.length ∧ Cl s ms x.2.1 x.2.2 ∧ ∀ (k : Nat) (y : Int), k < x.1 → dl[k]? = some y → x.2.1[y.toNat]? = some true) (fun x => dl.length - x.1) (fun n x hx rec2 => ?_) ⟨Nat.zero_le _, Cl.none s ms, no0⟩ (by simp only; omega)
 obtain ⟨k, w, v⟩ := x
 obtain ⟨b1, b2, b3⟩ := hx
 simp only at b1 b2 b3
 simp only [m_interp_SelectRule_L2]
 refine Ok.con (fun q2 => ?_) fun q2 => ?_
 ·have q2' : k < dl.length := by simpa [nI] using q2
  refine Ok.ixN q2' fun y hy => ?_
  have hy2 := ((dl2 y).1 (mem_ix hy)).2.1
  exact Ok.bd (o_require2 (by omega) l hs hms c b2 hy2.1 hy2.2 h.mref) fun r hr => Ok.cnt (by omega) (rec2 _ ⟨by simp only; omega, hr.1, stp hy hr.2.2.2 fun k' z hk hz => hr.2.1 _ (b3 k' z hk hz)⟩ (by simp only; omega))
 have q2' : dl.length ≤ k := by simpa [nI] using q2
 have b4 := all_ix q2' b3
 unfold m_interp_guardMembers
 refine Ok.bd (P := fun v => v.length ≤ 6000 ∧ ∀ x, x ∈ v ↔ ∃ d', (d' = d ∨ Rch (MScope.mk s.name s.ms s.inputs s.defs p) d d') ∧ MRefD (MScope.mk s.name s.ms s.inputs s.defs p) d' x) (Ok.bd (o_MDefs2 (by omega) hgs d0 d1) fun v hv => Ok.ret hv) fun ml hml => ?_
 obtain ⟨ml1, ml2⟩ := hml
 refine Ok.loop (fun x : Nat × List Bool => x.1 ≤ ml.length ∧ Cl s ms w x.2 ∧ ∀ (k : Nat) (y : Int), k < x.1 → ml[k]? = some y → x.2[y.toNat]? = some true) (fun x => ml.length - x.1) (fun n x hx rec3 => ?_) ⟨Nat.zero_le _, b2, no0⟩ (by simp only; omega)
 obtain ⟨t, inn⟩ := x
 obtain ⟨c1, c2, c3⟩ := hx
 simp only at c1 c2 c3
 simp only [m_interp_SelectRule_L3]
 refine Ok.con (fun q3 => ?_) fun q3 => ?_
 ·have q3' : t < ml.length := by simpa [nI] using q3
  refine Ok.ixN q3' fun y hy => ?_
  obtain ⟨d', _, g, hg, _, e, he, n, hn, hop, hny⟩ := (ml2 y).1 (mem_ix hy)
  obtain ⟨_, g2, _, _, r, hr, g5⟩ := a4 g hg
  have hne : e = r.guard := by
   rcases he with he | he
   ·rw [he, g2] at hn; cases hn
   ·rw [he, g5]
  obtain ⟨y0, y1⟩ := h.mref y ⟨r, hr, e, .inl hne, n, hn, hop, hny⟩
  exact Ok.bd (o_memberDef2 (by omega) l s hms c w c2.li y0 y1) fun r hr => Ok.cnt (by omega) (rec3 _ ⟨by simp only; omega, c2.member y0 hr, stp hy hr.self fun k' z hk hz => hr.sub _ (c3 k' z hk hz)⟩ (by simp only; omega))
 have q3' : ml.length ≤ t := by simpa [nI] using q3
 have c4 := all_ix q3' c3
 refine Ok.bd (o_machAgain hf hl hs hms h.ac h.am hc h.run c2) fun r hr => ?_
 obtain ⟨r1, MD', D', R', r2, ag⟩ := hr
 rw [r1]
 refine Ok.con (fun q => by cases q) fun _ => Ok.bde r2 ?_
 have hd : d.toNat < s.defs.length := by omega
 obtain ⟨rl, rr, vv, rc, _, hR⟩ := h.run.top.res d.toNat hd
 have hch := rc.ch
 rw [show ((d.toNat : Nat) : Int) = d by omega] at hch
 have lD := h.run.top.lenD
 have hch' : m_interp_unit_choose fu (MInterpUnit.mk s (envD (tEnv l c ms MD') D') (-1) R') d = some (rl, MEvalError.mk 0 0 0 0) := by
  rw [← hch]
  refine (choose_cong (a := envD (tEnv l c ms MD) D) (b := envD (tEnv l c ms MD') D') (-1) [] R' ⟨rfl, rfl, rfl, rfl, ag.len.symm⟩ fun l' hl' x hx r hr n hn => ?_).symm
  have hl2 : m_effective_RulesOn fu s d c.date = some l' := hl'
  rw [hids] at hl2; cases hl2
  obtain ⟨g, hg, hgv⟩ := a5 x hx r hr
  have gdf := (a4 g hg).1
  refine ⟨fun h8 => ⟨by show D.length = D'.length; rw [lD, ag.lenD], ?_⟩, fun h0 h1 k u w hu hw => ?_⟩
  ·show ix D n.n = ix D' n.n
   by_cases qn : 0 ≤ n.n ∧ n.n < s.defs.length
   ·rw [ix_eq _ qn.1, ix_eq _ qn.1]
    have hdir : Dir (MScope.mk s.name s.ms s.inputs s.defs p) d n.n := ⟨⟨d0, d1⟩, qn, g, hg, gdf, g.value, .inr rfl, n, by rw [hgv]; exact hn, h8, rfl⟩
    exact ((ag.vals n.n.toNat (by omega) (b4 n.n ((dl2 n.n).2 hdir))).1).symm
   ·rw [ix_out _ (by rw [lD]; exact qn), ix_out _ (by rw [ag.lenD]; exact qn)]
  ·have hm : MRefD (MScope.mk s.name s.ms s.inputs s.defs p) d n.n := ⟨g, hg, gdf, g.value, .inr rfl, n, by rw [hgv]; exact hn, ⟨h0, h1⟩, rfl⟩
   exact ag.mem (c4 n.n ((ml2 n.n).2 ⟨d, .inl rfl, hm⟩)) k u w hu hw
 rw [hch', bd_of]
 exact Ok.ret ⟨rfl, hR⟩
theorem wrap_ix {n : Nat} (h0 : 0 < n) (h1 : n ≤ 14) (d : Int) : ∃ k : Nat, Int.tmod (w64 (Int.tmod d n + n)) n = k ∧ k < n := by
 have a1 : Int.tmod d n < n := Int.tmod_lt_of_pos d (by omega)
 have a2 : -(n : Int) < Int.tmod d n := by
  have := Int.tmod_lt_of_pos (-d) (b := (n : Int)) (by omega)
  rw [Int.neg_tmod] at this
  omega
 rw [w64_id (by omega) (by omega)]
 have b1 : 0 ≤ Int.tmod (Int.tmod d n + n) n := Int.tmod_nonneg _ (by omega)
 have b2 : Int.tmod (Int.tmod d n + n) n < n := Int.tmod_lt_of_pos _ (by omega)
 exact ⟨(Int.tmod (Int.tmod d n + n) n).toNat, by omega, by omega⟩
theorem l_DefAgrees {l : MLaw} (hl : SizedLaw l) (i : Int) (c : MCase) (d : Int) : m_law20_InterpDefAgrees 300000 l i c d = some true := by
 apply Ok.eq
 have hf : 201000 ≤ 300000 := by decide
 have aw : Ok (bd (m_law20_awake 300000) fun c_2 => some c_2) (fun v => v = true) := Ok.bde (by decide +kernel) (Ok.ret rfl)
 unfold m_law20_InterpDefAgrees
 generalize hfu : 300000 = fu at *
 refine Ok.bd (o_small20 (by omega) hl c) fun b hb => Ok.con (fun _ => aw) fun q => ?_
 obtain ⟨hz, hcz⟩ := hb (by simpa using q)
 refine Ok.bd (o_Run2 hf hz i hcz) fun v hv => Ok.con (fun q2 => aw) fun q2 => ?_
 have q2' : v.2.code = 0 ∧ v.1.values.length ≠ 0 := by simpa [ln_len] using q2
 obtain ⟨s, ms, MD, MR, ran⟩ := hv q2'.1
 have l1 := ran.run.top.lenD
 have l2 := ran.run.top.lenR
 have h14 := ran.hs.defs
 refine Ok.con (fun q3 => ?_) fun _ => ?_
 ·exfalso; simp [ln_len, l1, l2] at q3
 rw [nz_of (by rw [ln_len]; omega), bd_of, bd_of]
 simp only [ln_len]
 obtain ⟨k, hk, hkn⟩ := wrap_ix (n := v.1.values.length) (by omega) (by omega) d
 rw [hk]
 refine Ok.bd (o_EvalDef2 hf hz hcz ran (d := (k : Int)) (by omega) (by omega)) fun a ha => Ok.bd (o_SelectRule2 hf hz hcz ran (d := (k : Int)) (by omega) (by omega)) fun b hb => ?_
 obtain ⟨a1, a2, a3⟩ := ha
 obtain ⟨b1, b2⟩ := hb
 rw [Int.toNat_natCast] at a2 a3 b2
 rw [a3] at b2
 have b3 := Option.some.inj b2
 rw [a1, b1, ← b3]
 refine Ok.con (fun _ => Ok.bde (ix_nat _ k ▸ a2) (Ok.con (fun _ => Ok.bde (ix_nat _ k ▸ a3) (Ok.con (fun _ => aw) fun q5 => ?_)) fun q4 => ?_)) fun q3 => by cases q3
 ·simp at q5
 ·simp at q4
end Go.Ab
