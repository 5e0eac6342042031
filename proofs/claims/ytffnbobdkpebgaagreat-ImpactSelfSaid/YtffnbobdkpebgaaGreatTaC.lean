/- Plain laws: EvalDef always gets an answer. -/
import Derived.Test.YtffnbobdkpebgaaGreatTaB
set_option linter.unusedVariables false
set_option linter.unusedSimpArgs false
namespace Go.Ab
variable {fu : Nat}

def MRef (s : MScope) (x : Int) : Prop := ∃ r ∈ s.rules, ∃ e, (e = r.guard ∨ e = r.value) ∧ ∃ n ∈ e, (36 ≤ n.op ∧ n.op ≤ 39) ∧ n.n = x
theorem o_MDefs (hf : 200000 ≤ fu) {s : MScope} (hs : SzScope s) (d : Int) : Ok (m_deps_MemberDefs fu s d) (fun v => v.length ≤ 6000 ∧ ∀ x ∈ v, MRef s x) := by
  have hr := hs.rules
  unfold m_deps_MemberDefs m_deps_valid
  rw [bd_of]
  refine Ok.con (fun q => Ok.ret ⟨Nat.zero_le _, fun x hx => (by cases hx)⟩) fun q => Ok.bd (o_Trans hf hs d) fun c hc => Ok.ap (by simp; omega) ?_
  have hz : (c ++ [d]).length ≤ 15 := by simp; omega
  generalize c ++ [d] = zs at hz
  refine Ok.rgA (fun (o : List Int) i => o.length ≤ 100 * i ∧ ∀ x ∈ o, MRef s x) s.rules.length (by omega) (fun m o i ho hi rec => ?_) hf (o := []) ⟨Nat.zero_le _, fun x hx => (by cases hx)⟩
  obtain ⟨a1, a2⟩ := ho
  simp only [m_deps_MemberDefs_L1]
  refine Ok.con (fun q1 => ?_) fun q1 => ?_
  · have q1' : i < s.rules.length := by simpa [nI] using q1
    refine Ok.ixN q1' fun r hr' => Ok.bd (o_ContI hf (by omega) _) fun b _ => Ok.con (fun _ => Ok.cnt (by omega) (rec _ _ ⟨by omega, a2⟩ (by omega) (by omega))) fun _ => ?_
    have hz := hs.rls r (mem_ix hr')
    refine Ok.rgA (fun (o2 : List Int) t => o2.length ≤ o.length + 50 * t ∧ ∀ x ∈ o2, MRef s x) 2 (by omega) (fun m o2 t ho2 ht rec2 => ?_) hf (o := o) ⟨by omega, a2⟩
    obtain ⟨b1, b2⟩ := ho2
    simp only [m_deps_MemberDefs_L2]
    refine Ok.con (fun q3 => ?_) fun q3 => Ok.cnt (by omega) (rec o2 (i + 1) ⟨by omega, b2⟩ (by omega) (by omega))
    have q3' : t < 2 := by simpa [nI] using q3
    refine Ok.ixN (by simpa using q3') fun e he => ?_
    have hm : e = r.guard ∨ e = r.value := by simpa using mem_ix he
    have hel : e.length ≤ 50 := by
      rcases hm with rfl | rfl
      · exact hz.guard
      · exact hz.value
    refine Ok.bd (o_Refs hf hel) fun c hc => ?_
    obtain ⟨_, c1, _, c2⟩ := hc
    refine Ok.ap (by omega) (Ok.cnt (by omega) (rec2 (o2 ++ c.2.2) (t + 1) ⟨by rw [List.length_append]; omega, fun x hx => ?_⟩ (by omega) (by omega)))
    rcases List.mem_append.1 hx with hx | hx
    · exact b2 x hx
    · exact ⟨r, mem_ix hr', e, hm, (c2 x).1 hx⟩
  · refine (o_uniq (xs := o) (by omega)).mono fun v hv => ⟨by omega, fun x hx => a2 x ((hv.2 x).1 hx)⟩
theorem o_memberDef (hf : 200000 ≤ fu) (l : MLaw) (s : MScope) {ms : MScope} (hz : SzScope ms) (c : MCase) (want : List Bool) {inner : List Bool} (li : inner.length = ms.defs.length) {x : Int} (x0 : 0 ≤ x) (x1 : x < ms.defs.length) : Ok (m_interp_machine_memberDef fu l s ms c want inner x) (fun r => r.length = inner.length) := by
  unfold m_interp_machine_memberDef
  refine Ok.lk (Ok.mono (P := fun r => r.length = inner.length) ?_ fun r hr => ⟨by simp [hr], hr⟩)
  unfold n_interp_machine_memberDef
  refine Ok.ix x0 (by omega) fun _ _ => Ok.bd (o_Trans hf hz x) fun t ht => ?_
  obtain ⟨t1, t2⟩ := ht
  refine Ok.loop (fun y : Nat × List Bool => y.1 ≤ t.length ∧ y.2.length = inner.length) (fun y => t.length - y.1) (fun n y hy rec => ?_) ⟨Nat.zero_le _, by simp⟩ (by simp only; omega)
  obtain ⟨i, w⟩ := y
  obtain ⟨a1, a2⟩ := hy
  simp only at a1 a2
  simp only [m_interp_machine_memberDef_L1]
  refine Ok.con (fun q => ?_) fun _ => Ok.ret a2
  have q' : i < t.length := by simpa [nI] using q
  refine Ok.ixN q' fun y hy => ?_
  have hv := ((t2 y).1 (mem_ix hy)).val
  exact Ok.ix hv.1 (by omega) fun _ _ => Ok.cnt (by omega) (rec _ ⟨by simp only; omega, by simp [a2]⟩ (by simp only; omega))
theorem o_require (hf : 200000 ≤ fu) (l : MLaw) {s ms : MScope} (hs : SzScope s) (hz : SzScope ms) (c : MCase) {want inner : List Bool} (lw : want.length = s.defs.length) (li : inner.length = ms.defs.length) {d : Int} (d0 : 0 ≤ d) (d1 : d < s.defs.length) (hm : ∀ x, MRef s x → 0 ≤ x ∧ x < ms.defs.length) : Ok (m_interp_machine_require fu l s ms c want inner d) (fun r => r.1.length = want.length ∧ r.2.length = inner.length) := by
  unfold m_interp_machine_require
  refine Ok.lk (Ok.mono (P := fun r => r.1.length = want.length ∧ r.2.length = inner.length) ?_ fun r hr => ⟨by simp [hr.1, hr.2], hr⟩)
  unfold n_interp_machine_require
  refine Ok.ix d0 (by omega) fun _ _ => Ok.bd (o_Trans hf hs d) fun t ht => ?_
  obtain ⟨t1, t2⟩ := ht
  refine Ok.loop (fun y : Nat × List Bool => y.1 ≤ t.length ∧ y.2.length = want.length) (fun y => t.length - y.1) (fun n y hy rec => ?_) ⟨Nat.zero_le _, by simp⟩ (by simp only; omega)
  obtain ⟨i, w⟩ := y
  obtain ⟨a1, a2⟩ := hy
  simp only at a1 a2
  simp only [m_interp_machine_require_L1]
  refine Ok.con (fun q => ?_) fun _ => ?_
  · have q' : i < t.length := by simpa [nI] using q
    refine Ok.ixN q' fun y hy => ?_
    have hv := ((t2 y).1 (mem_ix hy)).val
    exact Ok.ix hv.1 (by omega) fun _ _ => Ok.cnt (by omega) (rec _ ⟨by simp only; omega, by simp [a2]⟩ (by simp only; omega))
  · refine Ok.bd (o_MDefs hf hs d) fun md hmd => ?_
    obtain ⟨m1, m2⟩ := hmd
    refine Ok.loop (fun y : Nat × List Bool => y.1 ≤ md.length ∧ y.2.length = inner.length) (fun y => md.length - y.1) (fun n y hy rec2 => ?_) ⟨Nat.zero_le _, rfl⟩ (by simp only; omega)
    obtain ⟨j, v⟩ := y
    obtain ⟨b1, b2⟩ := hy
    simp only at b1 b2
    simp only [m_interp_machine_require_L2]
    refine Ok.con (fun q => ?_) fun _ => Ok.ret ⟨a2, b2⟩
    have q' : j < md.length := by simpa [nI] using q
    refine Ok.ixN q' fun x hx => ?_
    obtain ⟨x0, x1⟩ := hm x (m2 x (mem_ix hx))
    exact Ok.bd (o_memberDef hf l s hz c w (by omega) x0 x1) fun r hr => Ok.cnt (by omega) (rec2 _ ⟨by simp only; omega, by simp only; omega⟩ (by simp only; omega))
theorem typed_mem {e : List MNode} {sg : MSignature} {t : MTy} (h : Typed fu e sg t) {n : MNode} (hn : n ∈ e) : MemOk n sg := by
  obtain ⟨l, i0, ts, _, _, _, _, _, h6, _⟩ := h
  obtain ⟨k, hk⟩ := List.getElem?_of_mem hn
  obtain ⟨_, _, _, _, _, _, _, _, hm⟩ := h6 k n (lt_ix hk) hk
  exact hm
theorem mref_ok {l : MLaw} (hv : LawOk fu l) {i : Nat} {s ms : MScope} (hs : l.scopes[i]? = some s) (hms : (0 ≤ s.ms ∧ l.scopes[s.ms.toNat]? = some ms) ∨ (s.ms < 0 ∧ ms.defs = [])) : ∀ x, MRef s x → 0 ≤ x ∧ x < ms.defs.length := by
  rintro x ⟨r, hr, e, he, n, hn, ⟨h1, h2⟩, rfl⟩
  obtain ⟨j, hj⟩ := List.getElem?_of_mem hr
  have hk := (hv.scopes i s hs).rules j r hj
  have hm : MemOk n (sigOf l s) := by
    rcases he with rfl | rfl
    · exact typed_mem (hk.guard (List.length_pos_of_mem hn)) hn
    · obtain ⟨f, _, ht⟩ := hk.value
      exact typed_mem ht hn
  have hb := hm h1 h2
  have e1 : (sigOf l s).memberDefs.length = ms.defs.length := by
    rcases hms with ⟨h0, h⟩ | ⟨h0, h⟩
    · have : memS l s = some ms := by unfold memS; rw [decide_eq_false (by omega)]; exact h
      rw [sigOf, this]; simp
    · have : memS l s = none := by unfold memS; rw [decide_eq_true h0]; rfl
      rw [sigOf, this, h]; rfl
  rw [e1] at hb
  exact hb
theorem o_EvalDef (hf : 201000 ≤ fu) {l : MLaw} (hl : SzLaw l) (i : Int) {c : MCase} (hc : SzCase c) (d : Int) : Ok (m_interp_EvalDef fu l i c d) (fun _ => True) := by
  unfold m_interp_EvalDef
  refine Ok.bd (o_check20 (by omega) hl i hc d true) fun e he => Ok.con (fun _ => Ok.tt) fun q => ?_
  obtain ⟨hv, hi, hd, _⟩ := he (by simpa using q)
  have hs : l.scopes[i.toNat]? = some l.scopes[i.toNat] := List.getElem?_eq_getElem (by omega)
  generalize l.scopes[i.toNat] = s at hs
  have hz := hl.scs s (mem_ix hs)
  obtain ⟨d0, d1⟩ := hd rfl
  have d1 := d1 s hs
  refine Ok.bd (o_newMach (by omega) hl hv hi.1 hs c) fun r hr => ?_
  obtain ⟨ms, rfl, hzm, hms⟩ := hr
  refine Ok.bd (o_require (by omega) l hz hzm c (want := List.replicate s.defs.length false) (inner := List.replicate ms.defs.length false) (by simp) (by simp) d0 d1 (mref_ok hv hs hms)) fun w hw => ?_
  obtain ⟨w1, w2⟩ := hw
  rw [List.length_replicate] at w1 w2
  refine Ok.bd (o_machRun hf hl hz hzm hc w1 w2) fun r hr => Ok.con (fun _ => Ok.tt) fun q2 => ?_
  obtain ⟨top, ht, hk⟩ := hr (by simpa using q2)
  have l1 := hk.top.lenD
  have l2 := hk.top.lenR
  exact Ok.bde ht (Ok.ix d0 (by omega) fun _ _ => Ok.ix d0 (by omega) fun _ _ => Ok.tt)
end Go.Ab

/- Plain laws: a law compared with itself; ImpactSelf. -/
set_option linter.unusedVariables false
set_option linter.unusedSimpArgs false
namespace Go.Ab
variable {fu : Nat}

/-- A loop that compares a list with itself. -/
theorem self_rg {α : Type} {L : Nat → Nat → Option Bool} {xs : List α} {f : α → List D} {g : α → Option Bool} (hl : xs.length ≤ 900) (hf : 200000 ≤ fu) (hg : ∀ e ∈ xs, g e = some true)
    (hL : ∀ n i, L (n + 1) i = (bif (decide ((nI i) < (ln f xs))) then bd (ix xs (nI i)) fun e => bd (ix xs (nI i)) fun _ => bd (g e) fun c => (bif (!c) then some false else cnt i (L n (i + 1))) else some true)) : L fu 0 = some true := by
  apply Ok.eq
  refine Ok.rg xs.length (by omega) (fun n i hi rec => ?_) hf
  rw [hL]
  refine Ok.con (fun q => ?_) fun _ => Ok.ret rfl
  have q' : i < xs.length := by simpa [nI] using q
  exact Ok.ixN q' fun e he => Ok.ixN q' fun _ _ => Ok.bde (hg e (mem_ix he)) (Ok.con (fun q2 => by cases q2) fun _ => Ok.cnt (by omega) (rec _ (by omega) (by omega)))
theorem sf_S (hf : 200000 ≤ fu) {xs : List BA} (h : xs.length ≤ 900) : m_slices_Equal_string fu xs xs = some true := by
  apply Ok.eq
  unfold m_slices_Equal_string
  refine Ok.con (fun q => by simp at q) fun _ => ?_
  refine Ok.rg xs.length (by omega) (fun n i hi rec => ?_) hf
  simp only [m_slices_Equal_string_L1]
  refine Ok.con (fun q => ?_) fun _ => Ok.ret rfl
  have q' : i < xs.length := by simpa [nI] using q
  refine Ok.ixN q' fun e he => Ok.ixN q' fun e' he' => ?_
  rw [he] at he'; cases he'
  exact Ok.con (fun q2 => by simp at q2) fun _ => Ok.cnt (by omega) (rec _ (by omega) (by omega))
theorem sf_R (hf : 200000 ≤ fu) {xs : List MRow} (h : xs.length ≤ 900) : m_slices_Equal_Row fu xs xs = some true := by
  apply Ok.eq
  unfold m_slices_Equal_Row
  refine Ok.con (fun q => by simp at q) fun _ => ?_
  refine Ok.rg xs.length (by omega) (fun n i hi rec => ?_) hf
  simp only [m_slices_Equal_Row_L1]
  refine Ok.con (fun q => ?_) fun _ => Ok.ret rfl
  have q' : i < xs.length := by simpa [nI] using q
  refine Ok.ixN q' fun e he => Ok.ixN q' fun e' he' => ?_
  rw [he] at he'; cases he'
  exact Ok.con (fun q2 => by simp at q2) fun _ => Ok.cnt (by omega) (rec _ (by omega) (by omega))
theorem sf_F (hf : 200000 ≤ fu) {xs : List MField} (h : xs.length ≤ 900) : m_slices_Equal_Field fu xs xs = some true := by
  apply Ok.eq
  unfold m_slices_Equal_Field
  refine Ok.con (fun q => by simp at q) fun _ => ?_
  refine Ok.rg xs.length (by omega) (fun n i hi rec => ?_) hf
  simp only [m_slices_Equal_Field_L1]
  refine Ok.con (fun q => ?_) fun _ => Ok.ret rfl
  have q' : i < xs.length := by simpa [nI] using q
  refine Ok.ixN q' fun e he => Ok.ixN q' fun e' he' => ?_
  rw [he] at he'; cases he'
  exact Ok.con (fun q2 => by simp at q2) fun _ => Ok.cnt (by omega) (rec _ (by omega) (by omega))
theorem sf_N (hf : 200000 ≤ fu) {xs : List MNode} (h : xs.length ≤ 900) : m_slices_Equal_Node fu xs xs = some true := by
  apply Ok.eq
  unfold m_slices_Equal_Node
  refine Ok.con (fun q => by simp at q) fun _ => ?_
  refine Ok.rg xs.length (by omega) (fun n i hi rec => ?_) hf
  simp only [m_slices_Equal_Node_L1]
  refine Ok.con (fun q => ?_) fun _ => Ok.ret rfl
  have q' : i < xs.length := by simpa [nI] using q
  refine Ok.ixN q' fun e he => Ok.ixN q' fun e' he' => ?_
  rw [he] at he'; cases he'
  exact Ok.con (fun q2 => by simp at q2) fun _ => Ok.cnt (by omega) (rec _ (by omega) (by omega))
theorem sf_Enum (hf : 200000 ≤ fu) {e : MEnum} (h : e.members.length ≤ 900) : m_law_sameEnum fu e e = some true := by
  unfold m_law_sameEnum
  rw [sf_S hf h, bd_of, decide_eq_true rfl, cond_true]
theorem sf_Table (hf : 200000 ≤ fu) {e : MTable} (h : e.rows.length ≤ 900) : m_law_sameTable fu e e = some true := by
  unfold m_law_sameTable
  rw [sf_R hf h, bd_of]
  simp
theorem sf_Rule (hf : 200000 ≤ fu) {e : MRule} (h : SzRule e) : m_law_sameRule fu e e = some true := by
  have h1 := h.guard
  have h2 := h.value
  unfold m_law_sameRule
  rw [sf_N hf (xs := e.guard) (by omega), bd_of, sf_N hf (xs := e.value) (by omega), bd_of]
  simp
theorem sf_Rules (hf : 200000 ≤ fu) {xs : List MRule} (h : xs.length ≤ 900) (hx : ∀ e ∈ xs, SzRule e) : m_slices_EqualFunc_Rule_154 fu xs xs = some true := by
  apply Ok.eq
  unfold m_slices_EqualFunc_Rule_154
  refine Ok.con (fun q => by simp at q) fun _ => ?_
  refine Ok.rg xs.length (by omega) (fun n i hi rec => ?_) hf
  simp only [m_slices_EqualFunc_Rule_154_L1]
  refine Ok.con (fun q => ?_) fun _ => Ok.ret rfl
  have q' : i < xs.length := by simpa [nI] using q
  refine Ok.ixN q' fun e he => Ok.ixN q' fun e' he' => ?_
  rw [he] at he'; cases he'
  exact Ok.bde (sf_Rule hf (hx e (mem_ix he))) (Ok.con (fun q2 => by cases q2) fun _ => Ok.cnt (by omega) (rec _ (by omega) (by omega)))
theorem sf_Scope (hf : 200000 ≤ fu) {s : MScope} (h : SzScope s) : m_law_sameScope fu s s = some true := by
  have h1 := h.inputs
  have h2 := h.defs
  have h3 := h.rules
  unfold m_law_sameScope
  rw [sf_F hf (xs := s.inputs) (by omega), bd_of, sf_F hf (xs := s.defs) (by omega), bd_of, sf_Rules hf (xs := s.rules) (by omega) h.rls, bd_of]
  simp
theorem sf_Law (hf : 200000 ≤ fu) {l : MLaw} (h : SzLaw l) : m_law_Equal fu l l = some true := by
  have h1 := h.enums
  have h2 := h.tables
  have h3 := h.scopes
  have e1 : m_slices_EqualFunc_Enum_99 fu l.enums l.enums = some true := by
    apply Ok.eq
    unfold m_slices_EqualFunc_Enum_99
    refine Ok.con (fun q => by simp at q) fun _ => ?_
    refine Ok.rg l.enums.length (by omega) (fun n i hi rec => ?_) hf
    simp only [m_slices_EqualFunc_Enum_99_L1]
    refine Ok.con (fun q => ?_) fun _ => Ok.ret rfl
    have q' : i < l.enums.length := by simpa [nI] using q
    refine Ok.ixN q' fun e he => Ok.ixN q' fun e' he' => ?_
    rw [he] at he'; cases he'
    have := (h.ens e (mem_ix he)).2.1
    exact Ok.bde (sf_Enum hf (by omega)) (Ok.con (fun q2 => by cases q2) fun _ => Ok.cnt (by omega) (rec _ (by omega) (by omega)))
  have e2 : m_slices_EqualFunc_Table_101 fu l.tables l.tables = some true := by
    apply Ok.eq
    unfold m_slices_EqualFunc_Table_101
    refine Ok.con (fun q => by simp at q) fun _ => ?_
    refine Ok.rg l.tables.length (by omega) (fun n i hi rec => ?_) hf
    simp only [m_slices_EqualFunc_Table_101_L1]
    refine Ok.con (fun q => ?_) fun _ => Ok.ret rfl
    have q' : i < l.tables.length := by simpa [nI] using q
    refine Ok.ixN q' fun e he => Ok.ixN q' fun e' he' => ?_
    rw [he] at he'; cases he'
    have := (h.tbs e (mem_ix he)).2
    exact Ok.bde (sf_Table hf (by omega)) (Ok.con (fun q2 => by cases q2) fun _ => Ok.cnt (by omega) (rec _ (by omega) (by omega)))
  have e3 : m_slices_EqualFunc_Scope_103 fu l.scopes l.scopes = some true := by
    apply Ok.eq
    unfold m_slices_EqualFunc_Scope_103
    refine Ok.con (fun q => by simp at q) fun _ => ?_
    refine Ok.rg l.scopes.length (by omega) (fun n i hi rec => ?_) hf
    simp only [m_slices_EqualFunc_Scope_103_L1]
    refine Ok.con (fun q => ?_) fun _ => Ok.ret rfl
    have q' : i < l.scopes.length := by simpa [nI] using q
    refine Ok.ixN q' fun e he => Ok.ixN q' fun e' he' => ?_
    rw [he] at he'; cases he'
    exact Ok.bde (sf_Scope hf (h.scs e (mem_ix he))) (Ok.con (fun q2 => by cases q2) fun _ => Ok.cnt (by omega) (rec _ (by omega) (by omega)))
  unfold m_law_Equal
  rw [e1, bd_of, cond_true, e2, bd_of, cond_true, e3, bd_of]

theorem o_Clone (hf : 200000 ≤ fu) {l : MLaw} (h : SzLaw l) : Ok (m_law_Clone fu l) (fun v => v = (l.enums, l.tables, l.scopes)) := by
  have h3 := h.scopes
  unfold m_law_Clone
  refine Ok.bd (o_enums hf h.enums fun e he => (h.ens e he).2.1) fun _ e1 => Ok.bd (o_tables hf h.tables fun e he => (h.tbs e he).2) fun _ e2 => ?_
  subst e1 e2
  refine Ok.loop (fun x : Nat × List MScope => x.1 ≤ l.scopes.length ∧ x.2 = l.scopes.take x.1) (fun x => l.scopes.length - x.1) (fun n x hx rec => ?_) ⟨Nat.zero_le _, by simp⟩ (by simp only; omega)
  obtain ⟨i, ss⟩ := x
  obtain ⟨a1, a2⟩ := hx
  simp only at a1 a2
  simp only [m_law_Clone_L1]
  refine Ok.con (fun q => ?_) fun q => Ok.ret ?_
  · have q' : i < l.scopes.length := by simpa [nI] using q
    refine Ok.ixN q' fun s hs => ?_
    have hz := h.scs s (mem_ix hs)
    have z1 := hz.inputs
    have z2 := hz.defs
    have z3 := hz.rules
    unfold m_slices_Clone_155
    refine Ok.ap (by simp; omega) (Ok.ap (by simp; omega) ?_)
    refine Ok.loop (fun x : List MRule × Nat => x.2 ≤ s.rules.length ∧ x.1 = s.rules.take x.2) (fun x => s.rules.length - x.2) (fun n x hx rec2 => ?_) ⟨Nat.zero_le _, by simp⟩ (by simp only; omega)
    obtain ⟨rs, j⟩ := x
    obtain ⟨b1, b2⟩ := hx
    simp only at b1 b2
    simp only [m_law_Clone_L2]
    refine Ok.con (fun q2 => ?_) fun q2 => ?_
    · have q2' : j < s.rules.length := by simpa [nI] using q2
      refine Ok.ixN q2' fun r hr => ?_
      have hr' := hz.rls r (mem_ix hr)
      have g1 := hr'.guard
      have g2 := hr'.value
      unfold m_slices_Clone_156
      refine Ok.ap (by simp; omega) (Ok.ap (by simp; omega) (Ok.ap (by rw [b2]; simp; omega) (Ok.cnt (by omega) (rec2 _ ⟨by simp only; omega, ?_⟩ (by simp only; omega)))))
      simp only
      rw [b2, List.take_add_one, hr]
      rfl
    · have q2' : s.rules.length ≤ j := by simpa [nI] using q2
      rw [List.take_of_length_le q2'] at b2
      subst b2
      refine Ok.ap (by rw [a2]; simp; omega) (Ok.cnt (by omega) (rec _ ⟨by simp only; omega, ?_⟩ (by simp only; omega)))
      simp only
      rw [a2, List.take_add_one, hs]
      rfl
  · have q' : l.scopes.length ≤ i := by simpa [nI] using q
    rw [a2, List.take_of_length_le q']
theorem o_iface (hf : 200000 ≤ fu) {l : MLaw} (h : SzLaw l) : Ok (m_lawdiff_interfaceOf fu l) (fun v => SzLaw v) := by
  have h3 := h.scopes
  unfold m_lawdiff_interfaceOf
  refine Ok.bd (o_Clone hf h) fun _ e => ?_
  subst e
  refine Ok.loop (fun x : Nat × List MScope => x.1 ≤ l.scopes.length ∧ x.2.length = l.scopes.length ∧ ∀ s ∈ x.2, SzScope s) (fun x => l.scopes.length - x.1) (fun n x hx rec => ?_) ⟨Nat.zero_le _, rfl, h.scs⟩ (by simp only; omega)
  obtain ⟨i, ss⟩ := x
  obtain ⟨a1, a2, a3⟩ := hx
  simp only at a1 a2 a3
  simp only [m_lawdiff_interfaceOf_L1]
  refine Ok.con (fun q => ?_) fun q => Ok.ret ⟨h.enums, h.tables, by simp only; omega, h.ens, h.tbs, a3⟩
  have q' : i < l.scopes.length := by simpa [nI] using q
  refine Ok.ixN (by omega) fun s hs => Ok.cnt (by omega) (rec _ ⟨by simp only; omega, by simp [a2], fun t ht => ?_⟩ (by simp only; omega))
  simp only at ht
  rcases List.mem_or_eq_of_mem_set ht with h' | h'
  · exact a3 t h'
  · have hz := a3 s (mem_ix hs)
    subst h'
    exact ⟨hz.name, hz.inputs, hz.defs, Nat.zero_le _, hz.inp, hz.dfs, fun r hr => (by cases hr)⟩
theorem sf_Iface (hf : 200000 ≤ fu) {l : MLaw} (h : SzLaw l) : m_lawdiff_SameInterface fu l l = some true := by
  obtain ⟨v, e, hv⟩ := o_iface hf h
  unfold m_lawdiff_SameInterface
  rw [e, bd_of, bd_of, sf_Law hf hv, bd_of]

theorem o_cpart (hf : 200000 ≤ fu) {l : MLaw} (hl : SzLaw l) (hv : LawOk fu l) {i j : Nat} {s : MScope} {r : MRule} (hs : l.scopes[i]? = some s) (hr : s.rules[j]? = some r) : m_lawdiff_counterpart fu l s.name r.name = some (s, r, true) := by
  have h5 := hl.scopes
  have hz := hl.scs s (mem_ix hs)
  have h60 := hz.rules
  apply Ok.eq
  unfold m_lawdiff_counterpart
  refine Ok.bd (P := fun v => v = (i : Int)) ?_ fun v e => ?_
  · unfold m_slices_IndexFunc_Scope_106
    refine Ok.loop (fun k : Nat => k ≤ i) (fun k => i - k) (fun n k hk rec => ?_) (Nat.zero_le _) (by have := lt_ix hs; omega)
    simp only [m_slices_IndexFunc_Scope_106_L1, m_lawdiff_counterpart_1, bd_of]
    have hil := lt_ix hs
    refine Ok.con (fun q => ?_) fun q => ?_
    · refine Ok.ixN (by omega) fun t ht => Ok.con (fun q2 => Ok.ret ?_) fun q2 => ?_
      · have := hv.names k i t s ht hs (of_decide_eq_true q2)
        rw [this]
      · refine Ok.cnt (by omega) (rec (k + 1) ?_ ?_)
        all_goals
          rcases Nat.lt_or_ge k i with h | h
          · omega
          · exfalso
            have : k = i := by omega
            subst this
            rw [hs] at ht; cases ht
            exact of_decide_eq_false q2 rfl
    · exfalso
      simp [ln_len, nI] at q
      omega
  subst e
  refine Ok.con (fun q => ?_) fun _ => Ok.bde (ix_nat l.scopes i ▸ hs) (Ok.bd (P := fun v => v = (j : Int)) ?_ fun v e => ?_)
  · exfalso; have := of_decide_eq_true q; omega
  · unfold m_slices_IndexFunc_Rule_108
    refine Ok.loop (fun k : Nat => k ≤ j) (fun k => j - k) (fun n k hk rec => ?_) (Nat.zero_le _) (by have := lt_ix hr; omega)
    simp only [m_slices_IndexFunc_Rule_108_L1, m_lawdiff_counterpart_2, bd_of]
    have hil := lt_ix hr
    refine Ok.con (fun q => ?_) fun q => ?_
    · refine Ok.ixN (by omega) fun t ht => Ok.con (fun q2 => Ok.ret ?_) fun q2 => ?_
      · rcases Nat.lt_or_ge k j with h | h
        · exact absurd (of_decide_eq_true q2) (((hv.scopes i s hs).rules j r hr).name k t h ht)
        · have : k = j := by omega
          rw [this]
      · refine Ok.cnt (by omega) (rec (k + 1) ?_ ?_)
        all_goals
          rcases Nat.lt_or_ge k j with h | h
          · omega
          · exfalso
            have : k = j := by omega
            subst this
            rw [hr] at ht; cases ht
            exact of_decide_eq_false q2 rfl
    · exfalso
      simp [ln_len, nI] at q
      omega
  · subst e
    refine Ok.con (fun q => ?_) fun _ => Ok.bde (ix_nat s.rules j ▸ hr) (Ok.ret rfl)
    exfalso; have := of_decide_eq_true q; omega
theorem o_props (s : MScope) (r : MRule) : Ok (m_lawdiff_props fu s r) (fun _ => True) := by
  unfold m_lawdiff_props
  refine Ok.con (fun q => ?_) fun _ => ?_
  · have q' : 0 ≤ r.df ∧ r.df < s.defs.length := by simpa [ln_len] using q
    refine Ok.ix q'.1 q'.2 fun _ _ => Ok.con (fun q2 => ?_) fun _ => Ok.tt
    have q2' : 0 ≤ r.parent ∧ r.parent < s.rules.length := by simpa [ln_len] using q2
    exact Ok.ix q2'.1 q2'.2 fun _ _ => Ok.tt
  · refine Ok.con (fun q2 => ?_) fun _ => Ok.tt
    have q2' : 0 ≤ r.parent ∧ r.parent < s.rules.length := by simpa [ln_len] using q2
    exact Ok.ix q2'.1 q2'.2 fun _ _ => Ok.tt
theorem sf_Changed (hf : 200000 ≤ fu) {l : MLaw} (hl : SzLaw l) (hv : LawOk fu l) : m_lawdiff_ChangedRules fu l l = some [] := by
  have h5 := hl.scopes
  apply Ok.eq
  unfold m_lawdiff_ChangedRules
  refine Ok.rgA (fun (o : List MChange) i => o = []) l.scopes.length (by omega) (fun n o i ho hi rec1 => ?_) hf (o := []) rfl
  subst ho
  simp only [m_lawdiff_ChangedRules_L1]
  refine Ok.con (fun q => ?_) fun _ => ?_
  · have q' : i < l.scopes.length := by simpa [nI] using q
    refine Ok.ixN q' fun s hs => ?_
    have hz := hl.scs s (mem_ix hs)
    have h60 := hz.rules
    refine Ok.rgA (fun (o : List MChange) i => o = []) s.rules.length (by omega) (fun n o j ho hj rec2 => ?_) hf (o := []) rfl
    subst ho
    simp only [m_lawdiff_ChangedRules_L2]
    refine Ok.con (fun q2 => ?_) fun _ => Ok.cnt (by omega) (rec1 [] (i + 1) rfl (by omega) (by omega))
    have q2' : j < s.rules.length := by simpa [nI] using q2
    refine Ok.ixN q2' fun r hr => Ok.bde (o_cpart hf hl hv hs hr) (Ok.con (fun q3 => by cases q3) fun _ => ?_)
    obtain ⟨p, hp, _⟩ := o_props (fu := fu) s r
    have hr' := hz.rls r (mem_ix hr)
    have g1 := hr'.guard
    have g2 := hr'.value
    refine Ok.bde hp (Ok.bde hp (Ok.con (fun q3 => by simp at q3) fun _ => Ok.bde (sf_N hf (by omega)) (Ok.con (fun q3 => by cases q3) fun _ => Ok.bde (sf_N hf (by omega)) (Ok.con (fun q3 => by cases q3) fun _ => Ok.cnt (by omega) (rec2 [] (j + 1) rfl (by omega) (by omega))))))
  · refine Ok.rgA (fun (o : List MChange) i => o = []) l.scopes.length (by omega) (fun n o i ho hi rec1 => ?_) hf (o := []) rfl
    subst ho
    simp only [m_lawdiff_ChangedRules_L3]
    refine Ok.con (fun q => ?_) fun _ => Ok.ret rfl
    have q' : i < l.scopes.length := by simpa [nI] using q
    refine Ok.ixN q' fun s hs => ?_
    have hz := hl.scs s (mem_ix hs)
    have h60 := hz.rules
    refine Ok.rgA (fun (o : List MChange) i => o = []) s.rules.length (by omega) (fun n o j ho hj rec2 => ?_) hf (o := []) rfl
    subst ho
    simp only [m_lawdiff_ChangedRules_L4]
    refine Ok.con (fun q2 => ?_) fun _ => Ok.cnt (by omega) (rec1 [] (i + 1) rfl (by omega) (by omega))
    have q2' : j < s.rules.length := by simpa [nI] using q2
    exact Ok.ixN q2' fun r hr => Ok.bde (o_cpart hf hl hv hs hr) (Ok.con (fun q3 => by cases q3) fun _ => Ok.cnt (by omega) (rec2 [] (j + 1) rfl (by omega) (by omega)))
theorem p_awake52 : m_law52_awake 300000 = some true := by decide +kernel
theorem l_ImpactSelf {l : MLaw} (hl : SizedLaw l) (i : Int) (c : MCase) (d : Int) : m_law52_ImpactSelf 300000 l i c d = some true := by
  apply Ok.eq
  have hf : 201000 ≤ 300000 := by decide
  have aw : Ok (bd (m_law52_awake 300000) fun c_2 => some c_2) (fun v => v = true) := Ok.bde p_awake52 (Ok.ret rfl)
  unfold m_law52_ImpactSelf
  generalize hfu : 300000 = fu at *
  have hf' : 200000 ≤ fu := by omega
  refine Ok.bd (P := fun b => b = true → SzLaw l ∧ SzCase c) ?_ fun b hb => Ok.con (fun _ => aw) fun q => ?_
  · unfold m_law52_small
    exact Ok.bd (o_smallL hf' hl) fun a ha => Ok.con (fun q => Ok.bd (o_smallL hf' hl) fun a _ => Ok.con (fun _ => Ok.bd (o_smallC hf' c) fun b hb => Ok.ret fun h => ⟨ha q, hb h⟩) fun _ => Ok.ret fun h => tf h.symm) fun _ => Ok.ret fun h => tf h.symm
  obtain ⟨hz, hcz⟩ := hb (by simpa using q)
  obtain ⟨w, hw, hwv⟩ := o_Validate hf' hz
  obtain ⟨v, hv, _⟩ := o_EvalDef hf hz i hcz d
  refine Ok.bd (P := fun r => (r.2 ≠ 0 → r.1.rules = []) ∧ (r.2 = 0 → r.1 = MImpact.mk v.1 v.1 v.2.2.code v.2.2.code [])) ?_ fun r hr => Ok.con (fun q2 => ?_) fun q2 => ?_
  · unfold m_impact_Compare
    refine Ok.bde hw (Ok.con (fun _ => Ok.ret ⟨fun _ => rfl, fun h => by cases h⟩) fun q2 => Ok.bde hw (Ok.con (fun _ => Ok.ret ⟨fun _ => rfl, fun h => by cases h⟩) fun _ => Ok.con (fun _ => Ok.ret ⟨fun _ => rfl, fun h => by cases h⟩) fun q3 => ?_))
    have q3' : 0 ≤ i ∧ i < l.scopes.length := by simp [ln_len] at q3; omega
    refine Ok.ix q3'.1 q3'.2 fun s hs => Ok.con (fun _ => Ok.ret ⟨fun _ => rfl, fun h => by cases h⟩) fun _ => Ok.bde (sf_Iface hf' hz) (Ok.con (fun _ => Ok.ret ⟨fun _ => rfl, fun h => by cases h⟩) fun _ => Ok.bde hv (Ok.bde hv (Ok.bde (sf_Changed hf' hz (hwv (by simpa using q2))) ?_)))
    obtain ⟨fu, rfl⟩ : ∃ m, fu = m + 1 := ⟨fu - 1, by omega⟩
    rw [m_impact_Compare_L1]
    exact Ok.con (fun q4 => by simp [nI] at q4) fun _ => Ok.ret ⟨fun h => absurd rfl h, fun _ => rfl⟩
  · have := hr.1 (by simpa using q2)
    rw [this]
    exact Ok.con (fun _ => aw) fun q3 => (by cases q3)
  · have e := hr.2 (by simpa using q2)
    rw [e]
    refine Ok.bde hv (Ok.con (fun _ => ?_) fun q3 => by simp at q3)
    refine Ok.bd (P := fun b => b = false) ?_ fun b hb => Ok.con (fun _ => aw) fun q4 => by rw [hb] at q4; cases q4
    unfold m_impact_IsChanged
    exact Ok.con (fun q4 => by simp at q4) fun _ => Ok.ret (by simp)
end Go.Ab
