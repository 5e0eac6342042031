/- Plain laws: EvalDef always gets an answer. -/
import Derived.Test.YtffnbobdkpebgaaGreatTaB
set_option linter.unusedVariables false
set_option linter.unusedSimpArgs false
namespace Go.Ab
variable {fu : Nat}

def MRef (s : MScope) (x : Int) : Prop := ∃ r ∈ s.rules, ∃ e, (e = r.guard ∨ e = r.value) ∧ ∃ n ∈ e, (36 ≤ n.op ∧ n.op ≤ 39) ∧ n.n = x
theorem o_MDefs (hf : 200000 ≤ fu) {s : MScope} (hs : SzScope s) (d : Int) : Ok (m_deps_MemberDefs fu s d) (fun v => v.length ≤ 6000 ∧ ∀ x ∈ v, MRef s x) := by
  have hr := hs.rules
  unfold m_deps_MemberDefs m_deps_valid
  rw [bd_of]
  refine Ok.con (fun q => Ok.ret ⟨Nat.zero_le _, fun x hx => (by cases hx)⟩) fun q => Ok.bd (o_Trans hf hs d) fun c hc => Ok.ap (by simp; omega) ?_
  have hz : (c ++ [d]).length ≤ 15 := by simp; omega
  generalize c ++ [d] = zs at hz
  refine Ok.rgA (fun (o : List Int) i => o.length ≤ 100 * i ∧ ∀ x ∈ o, MRef s x) s.rules.length (by omega) (fun m o i ho hi rec => ?_) hf (o := []) ⟨Nat.zero_le _, fun x hx => (by cases hx)⟩
  obtain ⟨a1, a2⟩ := ho
  simp only [m_deps_MemberDefs_L1]
  refine Ok.con (fun q1 => ?_) fun q1 => ?_
  · have q1' : i < s.rules.length := by simpa [nI] using q1
    refine Ok.ixN q1' fun r hr' => Ok.bd (o_ContI hf (by omega) _) fun b _ => Ok.con (fun _ => Ok.cnt (by omega) (rec _ _ ⟨by omega, a2⟩ (by omega) (by omega))) fun _ => ?_
    have hz := hs.rls r (mem_ix hr')
    refine Ok.rgA (fun (o2 : List Int) t => o2.length ≤ o.length + 50 * t ∧ ∀ x ∈ o2, MRef s x) 2 (by omega) (fun m o2 t ho2 ht rec2 => ?_) hf (o := o) ⟨by omega, a2⟩
    obtain ⟨b1, b2⟩ := ho2
    simp only [m_deps_MemberDefs_L2]
    refine Ok.con (fun q3 => ?_) fun q3 => Ok.cnt (by omega) (rec o2 (i + 1) ⟨by omega, b2⟩ (by omega) (by omega))
    have q3' : t < 2 := by simpa [nI] using q3
    refine Ok.ixN (by simpa using q3') fun e he => ?_
    have hm : e = r.guard ∨ e = r.value := by simpa using mem_ix he
    have hel : e.length ≤ 50 := by
      rcases hm with rfl | rfl
      · exact hz.guard
      · exact hz.value
    refine Ok.bd (o_Refs hf hel) fun c hc => ?_
    obtain ⟨_, c1, _, c2⟩ := hc
    refine Ok.ap (by omega) (Ok.cnt (by omega) (rec2 (o2 ++ c.2.2) (t + 1) ⟨by rw [List.length_append]; omega, fun x hx => ?_⟩ (by omega) (by omega)))
    rcases List.mem_append.1 hx with hx | hx
    · exact b2 x hx
    · exact ⟨r, mem_ix hr', e, hm, (c2 x).1 hx⟩
  · refine (o_uniq (xs := o) (by omega)).mono fun v hv => ⟨by omega, fun x hx => a2 x ((hv.2 x).1 hx)⟩
theorem o_memberDef (hf : 200000 ≤ fu) (l : MLaw) (s : MScope) {ms : MScope} (hz : SzScope ms) (c : MCase) (want : List Bool) {inner : List Bool} (li : inner.length = ms.defs.length) {x : Int} (x0 : 0 ≤ x) (x1 : x < ms.defs.length) : Ok (m_interp_machine_memberDef fu l s ms c want inner x) (fun r => r.length = inner.length) := by
  unfold m_interp_machine_memberDef
  refine Ok.lk (Ok.mono (P := fun r => r.length = inner.length) ?_ fun r hr => ⟨by simp [hr], hr⟩)
  unfold n_interp_machine_memberDef
  refine Ok.ix x0 (by omega) fun _ _ => Ok.bd (o_Trans hf hz x) fun t ht => ?_
  obtain ⟨t1, t2⟩ := ht
  refine Ok.loop (fun y : Nat × List Bool => y.1 ≤ t.length ∧ y.2.length = inner.length) (fun y => t.length - y.1) (fun n y hy rec => ?_) ⟨Nat.zero_le _, by simp⟩ (by simp only; omega)
  obtain ⟨i, w⟩ := y
  obtain ⟨a1, a2⟩ := hy
  simp only at a1 a2
  simp only [m_interp_machine_memberDef_L1]
  refine Ok.con (fun q => ?_) fun _ => Ok.ret a2
  have q' : i < t.length := by simpa [nI] using q
  refine Ok.ixN q' fun y hy => ?_
  have hv := ((t2 y).1 (mem_ix hy)).val
  exact Ok.ix hv.1 (by omega) fun _ _ => Ok.cnt (by omega) (rec _ ⟨by simp only; omega, by simp [a2]⟩ (by simp only; omega))
theorem o_require (hf : 200000 ≤ fu) (l : MLaw) {s ms : MScope} (hs : SzScope s) (hz : SzScope ms) (c : MCase) {want inner : List Bool} (lw : want.length = s.defs.length) (li : inner.length = ms.defs.length) {d : Int} (d0 : 0 ≤ d) (d1 : d < s.defs.length) (hm : ∀ x, MRef s x → 0 ≤ x ∧ x < ms.defs.length) : Ok (m_interp_machine_require fu l s ms c want inner d) (fun r => r.1.length = want.length ∧ r.2.length = inner.length) := by
  unfold m_interp_machine_require
  refine Ok.lk (Ok.mono (P := fun r => r.1.length = want.length ∧ r.2.length = inner.length) ?_ fun r hr => ⟨by simp [hr.1, hr.2], hr⟩)
  unfold n_interp_machine_require
  refine Ok.ix d0 (by omega) fun _ _ => Ok.bd (o_Trans hf hs d) fun t ht => ?_
  obtain ⟨t1, t2⟩ := ht
  refine Ok.loop (fun y : Nat × List Bool => y.1 ≤ t.length ∧ y.2.length = want.length) (fun y => t.length - y.1) (fun n y hy rec => ?_) ⟨Nat.zero_le _, by simp⟩ (by simp only; omega)
  obtain ⟨i, w⟩ := y
  obtain ⟨a1, a2⟩ := hy
  simp only at a1 a2
  simp only [m_interp_machine_require_L1]
  refine Ok.con (fun q => ?_) fun _ => ?_
  · have q' : i < t.length := by simpa [nI] using q
    refine Ok.ixN q' fun y hy => ?_
    have hv := ((t2 y).1 (mem_ix hy)).val
    exact Ok.ix hv.1 (by omega) fun _ _ => Ok.cnt (by omega) (rec _ ⟨by simp only; omega, by simp [a2]⟩ (by simp only; omega))
  · refine Ok.bd (o_MDefs hf hs d) fun md hmd => ?_
    obtain ⟨m1, m2⟩ := hmd
    refine Ok.loop (fun y : Nat × List Bool => y.1 ≤ md.length ∧ y.2.length = inner.length) (fun y => md.length - y.1) (fun n y hy rec2 => ?_) ⟨Nat.zero_le _, rfl⟩ (by simp only; omega)
    obtain ⟨j, v⟩ := y
    obtain ⟨b1, b2⟩ := hy
    simp only at b1 b2
    simp only [m_interp_machine_require_L2]
    refine Ok.con (fun q => ?_) fun _ => Ok.ret ⟨a2, b2⟩
    have q' : j < md.length := by simpa [nI] using q
    refine Ok.ixN q' fun x hx => ?_
    obtain ⟨x0, x1⟩ := hm x (m2 x (mem_ix hx))
    exact Ok.bd (o_memberDef hf l s hz c w (by omega) x0 x1) fun r hr => Ok.cnt (by omega) (rec2 _ ⟨by simp only; omega, by simp only; omega⟩ (by simp only; omega))
theorem typed_mem {e : List MNode} {sg : MSignature} {t : MTy} (h : Typed fu e sg t) {n : MNode} (hn : n ∈ e) : MemOk n sg := by
  obtain ⟨l, i0, ts, _, _, _, _, _, h6, _⟩ := h
  obtain ⟨k, hk⟩ := List.getElem?_of_mem hn
  obtain ⟨_, _, _, _, _, _, _, _, hm⟩ := h6 k n (lt_ix hk) hk
  exact hm
theorem mref_ok {l : MLaw} (hv : LawOk fu l) {i : Nat} {s ms : MScope} (hs : l.scopes[i]? = some s) (hms : (0 ≤ s.ms ∧ l.scopes[s.ms.toNat]? = some ms) ∨ (s.ms < 0 ∧ ms.defs = [])) : ∀ x, MRef s x → 0 ≤ x ∧ x < ms.defs.length := by
  rintro x ⟨r, hr, e, he, n, hn, ⟨h1, h2⟩, rfl⟩
  obtain ⟨j, hj⟩ := List.getElem?_of_mem hr
  have hk := (hv.scopes i s hs).rules j r hj
  have hm : MemOk n (sigOf l s) := by
    rcases he with rfl | rfl
    · exact typed_mem (hk.guard (List.length_pos_of_mem hn)) hn
    · obtain ⟨f, _, ht⟩ := hk.value
      exact typed_mem ht hn
  have hb := hm h1 h2
  have e1 : (sigOf l s).memberDefs.length = ms.defs.length := by
    rcases hms with ⟨h0, h⟩ | ⟨h0, h⟩
    · have : memS l s = some ms := by unfold memS; rw [decide_eq_false (by omega)]; exact h
      rw [sigOf, this]; simp
    · have : memS l s = none := by unfold memS; rw [decide_eq_true h0]; rfl
      rw [sigOf, this, h]; rfl
  rw [e1] at hb
  exact hb
theorem o_EvalDef (hf : 201000 ≤ fu) {l : MLaw} (hl : SzLaw l) (i : Int) {c : MCase} (hc : SzCase c) (d : Int) : Ok (m_interp_EvalDef fu l i c d) (fun _ => True) := by
  unfold m_interp_EvalDef
  refine Ok.bd (o_check20 (by omega) hl i hc d true) fun e he => Ok.con (fun _ => Ok.tt) fun q => ?_
  obtain ⟨hv, hi, hd, _⟩ := he (by simpa using q)
  have hs : l.scopes[i.toNat]? = some l.scopes[i.toNat] := List.getElem?_eq_getElem (by omega)
  generalize l.scopes[i.toNat] = s at hs
  have hz := hl.scs s (mem_ix hs)
  obtain ⟨d0, d1⟩ := hd rfl
  have d1 := d1 s hs
  refine Ok.bd (o_newMach (by omega) hl hv hi.1 hs c) fun r hr => ?_
  obtain ⟨ms, rfl, hzm, hms⟩ := hr
  refine Ok.bd (o_require (by omega) l hz hzm c (want := List.replicate s.defs.length false) (inner := List.replicate ms.defs.length false) (by simp) (by simp) d0 d1 (mref_ok hv hs hms)) fun w hw => ?_
  obtain ⟨w1, w2⟩ := hw
  rw [List.length_replicate] at w1 w2
  refine Ok.bd (o_machRun hf hl hz hzm hc w1 w2) fun r hr => Ok.con (fun _ => Ok.tt) fun q2 => ?_
  obtain ⟨top, ht, hk⟩ := hr (by simpa using q2)
  have l1 := hk.top.lenD
  have l2 := hk.top.lenR
  exact Ok.bde ht (Ok.ix d0 (by omega) fun _ _ => Ok.ix d0 (by omega) fun _ _ => Ok.tt)
end Go.Ab

/- Plain laws: copies of a law; the rule of a name. -/
set_option linter.unusedVariables false
set_option linter.unusedSimpArgs false
namespace Go.Ab
variable {fu : Nat}

theorem o_Clone (hf : 200000 ≤ fu) {l : MLaw} (h : SzLaw l) : Ok (m_law_Clone fu l) (fun v => v = (l.enums, l.tables, l.scopes)) := by
  have h3 := h.scopes
  unfold m_law_Clone
  refine Ok.bd (o_enums hf h.enums fun e he => (h.ens e he).2.1) fun _ e1 => Ok.bd (o_tables hf h.tables fun e he => (h.tbs e he).2) fun _ e2 => ?_
  subst e1 e2
  refine Ok.loop (fun x : Nat × List MScope => x.1 ≤ l.scopes.length ∧ x.2 = l.scopes.take x.1) (fun x => l.scopes.length - x.1) (fun n x hx rec => ?_) ⟨Nat.zero_le _, by simp⟩ (by simp only; omega)
  obtain ⟨i, ss⟩ := x
  obtain ⟨a1, a2⟩ := hx
  simp only at a1 a2
  simp only [m_law_Clone_L1]
  refine Ok.con (fun q => ?_) fun q => Ok.ret ?_
  · have q' : i < l.scopes.length := by simpa [nI] using q
    refine Ok.ixN q' fun s hs => ?_
    have hz := h.scs s (mem_ix hs)
    have z1 := hz.inputs
    have z2 := hz.defs
    have z3 := hz.rules
    unfold m_slices_Clone_155
    refine Ok.ap (by simp; omega) (Ok.ap (by simp; omega) ?_)
    refine Ok.loop (fun x : List MRule × Nat => x.2 ≤ s.rules.length ∧ x.1 = s.rules.take x.2) (fun x => s.rules.length - x.2) (fun n x hx rec2 => ?_) ⟨Nat.zero_le _, by simp⟩ (by simp only; omega)
    obtain ⟨rs, j⟩ := x
    obtain ⟨b1, b2⟩ := hx
    simp only at b1 b2
    simp only [m_law_Clone_L2]
    refine Ok.con (fun q2 => ?_) fun q2 => ?_
    · have q2' : j < s.rules.length := by simpa [nI] using q2
      refine Ok.ixN q2' fun r hr => ?_
      have hr' := hz.rls r (mem_ix hr)
      have g1 := hr'.guard
      have g2 := hr'.value
      unfold m_slices_Clone_156
      refine Ok.ap (by simp; omega) (Ok.ap (by simp; omega) (Ok.ap (by rw [b2]; simp; omega) (Ok.cnt (by omega) (rec2 _ ⟨by simp only; omega, ?_⟩ (by simp only; omega)))))
      simp only
      rw [b2, List.take_add_one, hr]
      rfl
    · have q2' : s.rules.length ≤ j := by simpa [nI] using q2
      rw [List.take_of_length_le q2'] at b2
      subst b2
      refine Ok.ap (by rw [a2]; simp; omega) (Ok.cnt (by omega) (rec _ ⟨by simp only; omega, ?_⟩ (by simp only; omega)))
      simp only
      rw [a2, List.take_add_one, hs]
      rfl
  · have q' : l.scopes.length ≤ i := by simpa [nI] using q
    rw [a2, List.take_of_length_le q']
theorem o_cpart (hf : 200000 ≤ fu) {l : MLaw} (hl : SzLaw l) (hv : LawOk fu l) {i j : Nat} {s : MScope} {r : MRule} (hs : l.scopes[i]? = some s) (hr : s.rules[j]? = some r) : m_lawdiff_counterpart fu l s.name r.name = some (s, r, true) := by
  have h5 := hl.scopes
  have hz := hl.scs s (mem_ix hs)
  have h60 := hz.rules
  apply Ok.eq
  unfold m_lawdiff_counterpart
  refine Ok.bd (P := fun v => v = (i : Int)) ?_ fun v e => ?_
  · unfold m_slices_IndexFunc_Scope_106
    refine Ok.loop (fun k : Nat => k ≤ i) (fun k => i - k) (fun n k hk rec => ?_) (Nat.zero_le _) (by have := lt_ix hs; omega)
    simp only [m_slices_IndexFunc_Scope_106_L1, m_lawdiff_counterpart_1, bd_of]
    have hil := lt_ix hs
    refine Ok.con (fun q => ?_) fun q => ?_
    · refine Ok.ixN (by omega) fun t ht => Ok.con (fun q2 => Ok.ret ?_) fun q2 => ?_
      · have := hv.names k i t s ht hs (of_decide_eq_true q2)
        rw [this]
      · refine Ok.cnt (by omega) (rec (k + 1) ?_ ?_)
        all_goals
          rcases Nat.lt_or_ge k i with h | h
          · omega
          · exfalso
            have : k = i := by omega
            subst this
            rw [hs] at ht; cases ht
            exact of_decide_eq_false q2 rfl
    · exfalso
      simp [ln_len, nI] at q
      omega
  subst e
  refine Ok.con (fun q => ?_) fun _ => Ok.bde (ix_nat l.scopes i ▸ hs) (Ok.bd (P := fun v => v = (j : Int)) ?_ fun v e => ?_)
  · exfalso; have := of_decide_eq_true q; omega
  · unfold m_slices_IndexFunc_Rule_108
    refine Ok.loop (fun k : Nat => k ≤ j) (fun k => j - k) (fun n k hk rec => ?_) (Nat.zero_le _) (by have := lt_ix hr; omega)
    simp only [m_slices_IndexFunc_Rule_108_L1, m_lawdiff_counterpart_2, bd_of]
    have hil := lt_ix hr
    refine Ok.con (fun q => ?_) fun q => ?_
    · refine Ok.ixN (by omega) fun t ht => Ok.con (fun q2 => Ok.ret ?_) fun q2 => ?_
      · rcases Nat.lt_or_ge k j with h | h
        · exact absurd (of_decide_eq_true q2) (((hv.scopes i s hs).rules j r hr).name k t h ht)
        · have : k = j := by omega
          rw [this]
      · refine Ok.cnt (by omega) (rec (k + 1) ?_ ?_)
        all_goals
          rcases Nat.lt_or_ge k j with h | h
          · omega
          · exfalso
            have : k = j := by omega
            subst this
            rw [hr] at ht; cases ht
            exact of_decide_eq_false q2 rfl
    · exfalso
      simp [ln_len, nI] at q
      omega
  · subst e
    refine Ok.con (fun q => ?_) fun _ => Ok.bde (ix_nat s.rules j ▸ hr) (Ok.ret rfl)
    exfalso; have := of_decide_eq_true q; omega
theorem o_props (s : MScope) (r : MRule) : Ok (m_lawdiff_props fu s r) (fun _ => True) := by
  unfold m_lawdiff_props
  refine Ok.con (fun q => ?_) fun _ => ?_
  · have q' : 0 ≤ r.df ∧ r.df < s.defs.length := by simpa [ln_len] using q
    refine Ok.ix q'.1 q'.2 fun _ _ => Ok.con (fun q2 => ?_) fun _ => Ok.tt
    have q2' : 0 ≤ r.parent ∧ r.parent < s.rules.length := by simpa [ln_len] using q2
    exact Ok.ix q2'.1 q2'.2 fun _ _ => Ok.tt
  · refine Ok.con (fun q2 => ?_) fun _ => Ok.tt
    have q2' : 0 ≤ r.parent ∧ r.parent < s.rules.length := by simpa [ln_len] using q2
    exact Ok.ix q2'.1 q2'.2 fun _ _ => Ok.tt
theorem p_awake52 : m_law52_awake 300000 = some true := by decide +kernel
end Go.Ab

/- Plain laws: the interfaces and the changed rules of two laws. -/
set_option linter.unusedVariables false
set_option linter.unusedSimpArgs false
namespace Go.Ab
variable {fu : Nat}

/-- A loop that compares two lists of one length. -/
theorem eq_rg {α : Type} {L : Nat → Nat → Option Bool} {xs ys : List α} {f : α → List D} {g : α → α → Option Bool} (hl : xs.length ≤ 900) (he : xs.length = ys.length) (hf : 200000 ≤ fu) (hg : ∀ x ∈ xs, ∀ y ∈ ys, Ok (g x y) (fun v => v = true ↔ x = y))
    (hL : ∀ n i, L (n + 1) i = (bif (decide ((nI i) < (ln f xs))) then bd (ix xs (nI i)) fun e => bd (ix ys (nI i)) fun e' => bd (g e e') fun c => (bif (!c) then some false else cnt i (L n (i + 1))) else some true)) : Ok (L fu 0) (fun v => v = true ↔ xs = ys) := by
  refine Ok.loop (fun i : Nat => i ≤ xs.length ∧ ∀ k : Nat, k < i → xs[k]? = ys[k]?) (fun i => xs.length - i) (fun n i hi rec => ?_) ⟨Nat.zero_le _, fun k hk => absurd hk (Nat.not_lt_zero _)⟩ (by omega)
  obtain ⟨hi, ha⟩ := hi
  rw [hL]
  refine Ok.con (fun q => ?_) fun q => Ok.ret ⟨fun _ => ?_, fun _ => rfl⟩
  · have q' : i < xs.length := by simpa [nI] using q
    refine Ok.ixN q' fun x hx => Ok.ixN (by omega) fun y hy => Ok.bd (hg x (mem_ix hx) y (mem_ix hy)) fun b hb => Ok.con (fun q2 => Ok.ret ⟨fun h => Bool.noConfusion h, fun h => ?_⟩) fun q2 => Ok.cnt (by omega) (rec _ ⟨by omega, fun k hk => ?_⟩ (by omega))
    · rw [h, hy] at hx; cases hx
      have := hb.2 rfl
      rw [this] at q2; cases q2
    · by_cases q3 : k = i
      · subst q3
        have := hb.1 (by simpa using q2)
        rw [hx, hy, this]
      · exact ha k (by omega)
  · have q' : xs.length ≤ i := by simpa [nI] using q
    refine List.ext_getElem? fun k => ?_
    rcases Nat.lt_or_ge k xs.length with h | h
    · exact ha k (by omega)
    · rw [List.getElem?_eq_none h, List.getElem?_eq_none (by omega)]
theorem ne_len {α : Type} {f : α → List D} {xs ys : List α} (h : (ln f xs != ln f ys) = true) : (false = true ↔ xs = ys) := ⟨fun h => Bool.noConfusion h, fun e => by subst e; simp at h⟩
theorem eq_len {α : Type} {f : α → List D} {xs ys : List α} (h : (ln f xs != ln f ys) = false) : xs.length = ys.length := by simp [ln_len] at h; omega
theorem x_S (hf : 200000 ≤ fu) {xs ys : List BA} (h : xs.length ≤ 900) : Ok (m_slices_Equal_string fu xs ys) (fun v => v = true ↔ xs = ys) :=
  Ok.con (fun q => Ok.ret (ne_len q)) fun q => eq_rg (f := cStr) (g := fun a b => some (decide (a = b))) h (eq_len q) hf (fun x _ y _ => Ok.ret (by simp)) fun n i => by simp only [m_slices_Equal_string_L1, bd_of]
theorem x_R (hf : 200000 ≤ fu) {xs ys : List MRow} (h : xs.length ≤ 900) : Ok (m_slices_Equal_Row fu xs ys) (fun v => v = true ↔ xs = ys) :=
  Ok.con (fun q => Ok.ret (ne_len q)) fun q => eq_rg (f := cRow) (g := fun e_3 e_4 => some ((e_3.valid.fr == e_4.valid.fr) && ((e_3.valid.to == e_4.valid.to) && ((e_3.lo == e_4.lo) && ((e_3.hi == e_4.hi) && (e_3.n == e_4.n)))))) h (eq_len q) hf (fun x _ y _ => Ok.ret (by
    obtain ⟨⟨a, b⟩, c, d, e⟩ := x
    obtain ⟨⟨a', b'⟩, c', d', e'⟩ := y
    simp [and_assoc])) fun n i => by simp only [m_slices_Equal_Row_L1, bd_of]
theorem x_F (hf : 200000 ≤ fu) {xs ys : List MField} (h : xs.length ≤ 900) : Ok (m_slices_Equal_Field fu xs ys) (fun v => v = true ↔ xs = ys) :=
  Ok.con (fun q => Ok.ret (ne_len q)) fun q => eq_rg (f := cField) (g := fun e_3 e_4 => some ((decide (e_3.name = e_4.name)) && ((e_3.ty.kind == e_4.ty.kind) && (e_3.ty.en == e_4.ty.en)))) h (eq_len q) hf (fun x _ y _ => Ok.ret (by
    obtain ⟨a, b, c⟩ := x
    obtain ⟨a', b', c'⟩ := y
    simp)) fun n i => by simp only [m_slices_Equal_Field_L1, bd_of]
theorem x_N (hf : 200000 ≤ fu) {xs ys : List MNode} (h : xs.length ≤ 900) : Ok (m_slices_Equal_Node fu xs ys) (fun v => v = true ↔ xs = ys) :=
  Ok.con (fun q => Ok.ret (ne_len q)) fun q => eq_rg (f := cNode) (g := fun e_3 e_4 => some ((e_3.op == e_4.op) && (e_3.n == e_4.n))) h (eq_len q) hf (fun x _ y _ => Ok.ret (by
    obtain ⟨a, b⟩ := x
    obtain ⟨a', b'⟩ := y
    simp)) fun n i => by simp only [m_slices_Equal_Node_L1, bd_of]
theorem x_Enum (hf : 200000 ≤ fu) {a b : MEnum} (h : a.members.length ≤ 900) : Ok (m_law_sameEnum fu a b) (fun v => v = true ↔ a = b) := by
  unfold m_law_sameEnum
  obtain ⟨n, m⟩ := a
  obtain ⟨n', m'⟩ := b
  refine Ok.con (fun q => Ok.bd (x_S hf h) fun c hc => Ok.ret ?_) fun q => Ok.ret ?_
  · simp at q; rw [hc]; simp [q]
  · simp at q; simp [q]
theorem x_Table (hf : 200000 ≤ fu) {a b : MTable} (h : a.rows.length ≤ 900) : Ok (m_law_sameTable fu a b) (fun v => v = true ↔ a = b) := by
  unfold m_law_sameTable
  obtain ⟨n, ⟨k1, k2⟩, ⟨v1, v2⟩, r⟩ := a
  obtain ⟨n', ⟨k1', k2'⟩, ⟨v1', v2'⟩, r'⟩ := b
  refine Ok.con (fun q => Ok.bd (x_R hf h) fun c hc => Ok.ret ?_) fun q => Ok.ret ?_
  · simp at q; rw [hc]; simp [q]
  · simp at q; simp only [Bool.false_eq_true, false_iff, MTable.mk.injEq, MTy.mk.injEq]
    rintro ⟨e1, ⟨e2, e3⟩, ⟨e4, e5⟩, e6⟩
    exact q e1 e2 e3 e4 e5
theorem x_Rule (hf : 200000 ≤ fu) {a b : MRule} (h : SzRule a) : Ok (m_law_sameRule fu a b) (fun v => v = true ↔ a = b) := by
  have g1 := h.guard
  have g2 := h.value
  unfold m_law_sameRule
  obtain ⟨n, d, p, pr, ⟨f, t⟩, g, v, s⟩ := a
  obtain ⟨n', d', p', pr', ⟨f', t'⟩, g', v', s'⟩ := b
  refine Ok.con (fun q => Ok.bd (x_N hf (Nat.le_trans g1 (by decide))) fun c hc => Ok.con (fun q2 => Ok.bd (x_N hf (Nat.le_trans g2 (by decide))) fun e he => Ok.ret ?_) fun q2 => Ok.ret ?_) fun q => Ok.ret ?_
  · have := hc.1 q2
    simp only at this
    simp at q; simp only [Bool.and_eq_true, he, decide_eq_true_eq]
    simp [q, this]
  · simp only [Bool.false_eq_true, false_iff, MRule.mk.injEq]
    rintro ⟨e1, e2, e3, e4, e5, e6, e7, e8⟩
    rw [hc.2 e6] at q2; cases q2
  · simp at q; simp only [Bool.false_eq_true, false_iff, MRule.mk.injEq, MRange.mk.injEq]
    rintro ⟨e1, e2, e3, e4, ⟨e5, e9⟩, e6, e7, e8⟩
    exact q e1 e2 e3 e4 e5 e9
theorem x_Scope (hf : 200000 ≤ fu) {a b : MScope} (h : SzScope a) : Ok (m_law_sameScope fu a b) (fun v => v = true ↔ a = b) := by
  have g1 := h.inputs
  have g2 := h.defs
  have g3 := h.rules
  have g4 := h.rls
  unfold m_law_sameScope
  obtain ⟨n, m, i, d, r⟩ := a
  obtain ⟨n', m', i', d', r'⟩ := b
  simp only at g1 g2 g3 g4
  have rl : Ok (m_slices_EqualFunc_Rule_154 fu r r') (fun v => v = true ↔ r = r') :=
    Ok.con (fun q => Ok.ret (ne_len q)) fun q => eq_rg (f := cRule) (g := m_law_sameRule fu) (by omega) (eq_len q) hf (fun x hx y _ => x_Rule hf (g4 x hx)) fun n i => by simp only [m_slices_EqualFunc_Rule_154_L1]
  refine Ok.con (fun q => Ok.bd (x_F hf (by simp only; omega)) fun c hc => Ok.con (fun q2 => Ok.bd (x_F hf (by simp only; omega)) fun e he => Ok.con (fun q3 => Ok.bd rl fun z hz => Ok.ret ?_) fun q3 => Ok.ret ?_) fun q2 => Ok.ret ?_) fun q => Ok.ret ?_
  · have e1 := hc.1 q2
    have e2 := he.1 q3
    simp at q; rw [hz]; simp only at e1 e2; simp [q, e1, e2]
  · simp only [Bool.false_eq_true, false_iff, MScope.mk.injEq]
    rintro ⟨e1, e2, e3, e4, e5⟩
    rw [he.2 e4] at q3; cases q3
  · simp only [Bool.false_eq_true, false_iff, MScope.mk.injEq]
    rintro ⟨e1, e2, e3, e4, e5⟩
    rw [hc.2 e3] at q2; cases q2
  · simp at q; simp only [Bool.false_eq_true, false_iff, MScope.mk.injEq]
    rintro ⟨e1, e2, e3, e4, e5⟩
    exact q e1 e2
theorem x_Law (hf : 200000 ≤ fu) {a b : MLaw} (h : SzLaw a) : Ok (m_law_Equal fu a b) (fun v => v = true ↔ a = b) := by
  have h1 := h.enums
  have h2 := h.tables
  have h3 := h.scopes
  have h4 := h.ens
  have h5 := h.tbs
  have h6 := h.scs
  unfold m_law_Equal
  obtain ⟨e, t, s⟩ := a
  obtain ⟨e', t', s'⟩ := b
  simp only at h1 h2 h3 h4 h5 h6
  have r1 : Ok (m_slices_EqualFunc_Enum_99 fu e e') (fun v => v = true ↔ e = e') :=
    Ok.con (fun q => Ok.ret (ne_len q)) fun q => eq_rg (f := cEnum) (g := m_law_sameEnum fu) (by omega) (eq_len q) hf (fun x hx y _ => x_Enum hf (by have := (h4 x hx).2.1; omega)) fun n i => by simp only [m_slices_EqualFunc_Enum_99_L1]
  have r2 : Ok (m_slices_EqualFunc_Table_101 fu t t') (fun v => v = true ↔ t = t') :=
    Ok.con (fun q => Ok.ret (ne_len q)) fun q => eq_rg (f := cTable) (g := m_law_sameTable fu) (by omega) (eq_len q) hf (fun x hx y _ => x_Table hf (by have := (h5 x hx).2; omega)) fun n i => by simp only [m_slices_EqualFunc_Table_101_L1]
  have r3 : Ok (m_slices_EqualFunc_Scope_103 fu s s') (fun v => v = true ↔ s = s') :=
    Ok.con (fun q => Ok.ret (ne_len q)) fun q => eq_rg (f := cScope) (g := m_law_sameScope fu) (by omega) (eq_len q) hf (fun x hx y _ => x_Scope hf (h6 x hx)) fun n i => by simp only [m_slices_EqualFunc_Scope_103_L1]
  refine Ok.bd r1 fun c hc => Ok.con (fun q1 => Ok.bd r2 fun d hd => Ok.con (fun q2 => Ok.bd r3 fun z hz => Ok.ret ?_) fun q2 => Ok.ret ?_) fun q1 => Ok.ret ?_
  · rw [hz]; simp [hc.1 q1, hd.1 q2]
  · simp only [Bool.false_eq_true, false_iff, MLaw.mk.injEq]
    rintro ⟨e1, e2, e3⟩
    rw [hd.2 e2] at q2; cases q2
  · simp only [Bool.false_eq_true, false_iff, MLaw.mk.injEq]
    rintro ⟨e1, e2, e3⟩
    rw [hc.2 e1] at q1; cases q1

/-- A scope without its rules; a law without rules. -/
def bare0 (s : MScope) : MScope := MScope.mk s.name s.ms s.inputs s.defs []
def ifc (l : MLaw) : MLaw := MLaw.mk l.enums l.tables (l.scopes.map bare0)
theorem o_ifaceX (hf : 200000 ≤ fu) {l : MLaw} (h : SzLaw l) : m_lawdiff_interfaceOf fu l = some (ifc l) := by
  have h3 := h.scopes
  apply Ok.eq
  unfold m_lawdiff_interfaceOf
  refine Ok.bd (o_Clone hf h) fun _ e => ?_
  subst e
  refine Ok.loop (fun x : Nat × List MScope => x.1 ≤ l.scopes.length ∧ x.2.length = l.scopes.length ∧ ∀ k : Nat, x.2[k]? = if k < x.1 then (l.scopes[k]?).map bare0 else l.scopes[k]?) (fun x => l.scopes.length - x.1) (fun n x hx rec => ?_) ⟨Nat.zero_le _, rfl, fun k => by simp⟩ (by simp only; omega)
  obtain ⟨i, ss⟩ := x
  obtain ⟨a1, a2, a3⟩ := hx
  simp only at a1 a2 a3
  simp only [m_lawdiff_interfaceOf_L1]
  refine Ok.con (fun q => ?_) fun q => Ok.ret ?_
  · have q' : i < l.scopes.length := by simpa [nI] using q
    refine Ok.ixN (by omega) fun s hs => Ok.cnt (by omega) (rec _ ⟨by simp only; omega, by simp [a2], fun k => ?_⟩ (by simp only; omega))
    simp only [nI, Int.toNat_natCast]
    have hs' : l.scopes[i]? = some s := by have := a3 i; rw [if_neg (Nat.lt_irrefl i), hs] at this; exact this.symm
    by_cases q3 : k = i
    · subst q3
      rw [List.getElem?_set_self (by omega), if_pos (by omega), hs']
      rfl
    · rw [List.getElem?_set_ne (fun h => q3 h.symm), a3 k]
      by_cases q4 : k < i
      · rw [if_pos q4, if_pos (by omega)]
      · rw [if_neg q4, if_neg (by omega)]
  · have q' : l.scopes.length ≤ i := by simpa [nI] using q
    unfold ifc
    congr 1
    refine List.ext_getElem? fun k => ?_
    rw [a3 k, List.getElem?_map]
    by_cases q4 : k < i
    · rw [if_pos q4]
    · rw [if_neg q4, List.getElem?_eq_none (by omega)]; rfl
theorem sz_ifc {l : MLaw} (h : SzLaw l) : SzLaw (ifc l) := by
  refine ⟨h.enums, h.tables, by simp only [ifc, List.length_map]; exact h.scopes, h.ens, h.tbs, fun s hs => ?_⟩
  obtain ⟨t, ht, rfl⟩ := List.mem_map.1 hs
  have hz := h.scs t ht
  exact ⟨hz.name, hz.inputs, hz.defs, Nat.zero_le _, hz.inp, hz.dfs, fun r hr => (by cases hr)⟩
theorem x_Iface (hf : 200000 ≤ fu) {a b : MLaw} (ha : SzLaw a) (hb : SzLaw b) : Ok (m_lawdiff_SameInterface fu a b) (fun v => v = true ↔ ifc a = ifc b) := by
  unfold m_lawdiff_SameInterface
  rw [o_ifaceX hf ha, bd_of, o_ifaceX hf hb, bd_of]
  exact Ok.bd (x_Law hf (sz_ifc ha)) fun v hv => Ok.ret hv
theorem ifc_scope {a b : MLaw} (h : ifc a = ifc b) {i : Nat} {s : MScope} (hs : a.scopes[i]? = some s) : ∃ t, b.scopes[i]? = some t ∧ bare0 s = bare0 t := by
  have e : a.scopes.map bare0 = b.scopes.map bare0 := congrArg MLaw.scopes h
  have e2 : (a.scopes.map bare0)[i]? = (b.scopes.map bare0)[i]? := by rw [e]
  rw [List.getElem?_map, List.getElem?_map, hs] at e2
  cases q : b.scopes[i]? with
  | none => rw [q] at e2; cases e2
  | some t => rw [q] at e2; exact ⟨t, rfl, Option.some.inj e2⟩

/-- The rule of these names. -/
def cpS (l : MLaw) (S R : BA) (p : MScope × MRule) : Prop := ∃ i j : Nat, l.scopes[i]? = some p.1 ∧ p.1.rules[j]? = some p.2 ∧ p.1.name = S ∧ p.2.name = R
theorem cpS.uniq {l : MLaw} (hv : LawOk fu l) {S R : BA} {p q : MScope × MRule} (hp : cpS l S R p) (hq : cpS l S R q) : p = q := by
  obtain ⟨i, j, h1, h2, h3, h4⟩ := hp
  obtain ⟨i', j', g1, g2, g3, g4⟩ := hq
  have e1 := hv.names i i' _ _ h1 g1 (h3.trans g3.symm)
  subst e1
  have e2 : p.1 = q.1 := by rw [h1] at g1; exact Option.some.inj g1
  rw [← e2] at g2
  have e3 : j = j' := by
    rcases Nat.lt_trichotomy j j' with h | h | h
    · exact absurd (h4.trans g4.symm) (((hv.scopes i _ h1).rules j' _ g2).name j _ h h2)
    · exact h
    · exact absurd (g4.trans h4.symm) (((hv.scopes i _ h1).rules j _ h2).name j' _ h g2)
  subst e3
  rw [h2] at g2
  have e4 := Option.some.inj g2
  cases p; cases q; simp only at e2 e4; rw [e2, e4]
theorem o_cpX (hf : 200000 ≤ fu) {l : MLaw} (hl : SzLaw l) (hv : LawOk fu l) (S R : BA) : Ok (m_lawdiff_counterpart fu l S R) (fun v => (v.2.2 = true ∧ cpS l S R (v.1, v.2.1)) ∨ (v.2.2 = false ∧ ∀ p, ¬ cpS l S R p)) := by
  have h5 := hl.scopes
  by_cases q : ∃ p, cpS l S R p
  · obtain ⟨p, hp⟩ := q
    obtain ⟨i, j, h1, h2, h3, h4⟩ := id hp
    have := o_cpart hf hl hv h1 h2
    rw [h3, h4] at this
    exact ⟨_, this, .inl ⟨rfl, hp⟩⟩
  have hno : ∀ p, ¬ cpS l S R p := fun p hp => q ⟨p, hp⟩
  unfold m_lawdiff_counterpart
  refine Ok.bd (P := fun v => v < 0 ∨ ∃ s, 0 ≤ v ∧ l.scopes[v.toNat]? = some s ∧ s.name = S) ?_ fun v hv' => Ok.con (fun _ => Ok.ret (.inr ⟨rfl, hno⟩)) fun q1 => ?_
  · unfold m_slices_IndexFunc_Scope_106
    refine Ok.rg l.scopes.length (by omega) (fun n k hk rec => ?_) hf
    simp only [m_slices_IndexFunc_Scope_106_L1, m_lawdiff_counterpart_1, bd_of]
    refine Ok.con (fun q => ?_) fun _ => Ok.ret (.inl (by decide))
    have q' : k < l.scopes.length := by simpa [nI] using q
    exact Ok.ixN q' fun t ht => Ok.con (fun q2 => Ok.ret (.inr ⟨t, by simp only [nI]; omega, by simp only [nI, Int.toNat_natCast]; exact ht, of_decide_eq_true q2⟩)) fun _ => Ok.cnt (by omega) (rec _ (by omega) (by omega))
  have q1' : ¬ v < 0 := by simpa using q1
  obtain ⟨s, s0, s1, s2⟩ : ∃ s, 0 ≤ v ∧ l.scopes[v.toNat]? = some s ∧ s.name = S := by
    rcases hv' with h | h
    · exact absurd h q1'
    · exact h
  have hz := hl.scs s (mem_ix s1)
  have h60 := hz.rules
  refine Ok.bde (ix_of s0 s1) (Ok.bd (P := fun w => w < 0 ∨ ∃ r, 0 ≤ w ∧ s.rules[w.toNat]? = some r ∧ r.name = R) ?_ fun w hw => Ok.con (fun _ => Ok.ret (.inr ⟨rfl, hno⟩)) fun q2 => ?_)
  · unfold m_slices_IndexFunc_Rule_108
    refine Ok.rg s.rules.length (by omega) (fun n k hk rec => ?_) hf
    simp only [m_slices_IndexFunc_Rule_108_L1, m_lawdiff_counterpart_2, bd_of]
    refine Ok.con (fun q => ?_) fun _ => Ok.ret (.inl (by decide))
    have q' : k < s.rules.length := by simpa [nI] using q
    exact Ok.ixN q' fun t ht => Ok.con (fun q2 => Ok.ret (.inr ⟨t, by simp only [nI]; omega, by simp only [nI, Int.toNat_natCast]; exact ht, of_decide_eq_true q2⟩)) fun _ => Ok.cnt (by omega) (rec _ (by omega) (by omega))
  · have q2' : ¬ w < 0 := by simpa using q2
    rcases hw with h | ⟨r, r0, r1, r2⟩
    · exact absurd h q2'
    · exact absurd ⟨v.toNat, w.toNat, s1, r1, s2, r2⟩ (hno (s, r))
end Go.Ab

/- Plain laws: ImpactSymmetric. -/
set_option linter.unusedVariables false
set_option linter.unusedSimpArgs false
namespace Go.Ab
variable {fu : Nat}

def prV (fu : Nat) (s : MScope) (r : MRule) : MLawdiffProperties := (m_lawdiff_props fu s r).getD (MLawdiffProperties.mk ⟨#[]⟩ ⟨#[]⟩ ⟨#[]⟩ 0 (MRange.mk 0 0))
theorem e_props (s : MScope) (r : MRule) : m_lawdiff_props fu s r = some (prV fu s r) := by
  obtain ⟨p, hp, _⟩ := o_props (fu := fu) s r
  unfold prV; rw [hp]; rfl
def DiffP (fu : Nat) (s : MScope) (r : MRule) (t : MScope) (x : MRule) : Prop := ¬ (prV fu s r = prV fu t x ∧ r.guard = x.guard ∧ r.value = x.value)
theorem DiffP.symm {s t : MScope} {r x : MRule} (h : DiffP fu s r t x) : DiffP fu t x s r := fun ⟨a, b, c⟩ => h ⟨a.symm, b.symm, c.symm⟩
/-- A rule of the first law that is gone or turned. -/
def Gone (fu : Nat) (b : MLaw) (s : MScope) (r : MRule) : Prop := (∀ q, ¬ cpS b s.name r.name q) ∨ ∃ q, cpS b s.name r.name q ∧ DiffP fu s r q.1 q.2
def Added (a : MLaw) (s : MScope) (r : MRule) : Prop := ∀ p, ¬ cpS a s.name r.name p
/-- The rules ahead of a place. -/
def Pos (l : MLaw) (M : MScope → MRule → Prop) (i j : Nat) (S R : BA) : Prop := ∃ (i' j' : Nat) (s : MScope) (r : MRule), (i' < i ∨ (i' = i ∧ j' < j)) ∧ l.scopes[i']? = some s ∧ s.rules[j']? = some r ∧ s.name = S ∧ r.name = R ∧ M s r
theorem ix_uniq {l : MLaw} (hv : LawOk fu l) {i j i' j' : Nat} {s s' : MScope} {r r' : MRule} (h1 : l.scopes[i]? = some s) (h2 : s.rules[j]? = some r) (g1 : l.scopes[i']? = some s') (g2 : s'.rules[j']? = some r') (e1 : s.name = s'.name) (e2 : r.name = r'.name) : i = i' ∧ j = j' := by
  have e := hv.names i i' _ _ h1 g1 e1
  subst e
  rw [h1] at g1; cases g1
  refine ⟨rfl, ?_⟩
  rcases Nat.lt_trichotomy j j' with h | h | h
  · exact absurd e2 (((hv.scopes i _ h1).rules j' _ g2).name j _ h h2)
  · exact h
  · exact absurd e2.symm (((hv.scopes i _ h1).rules j _ h2).name j' _ h g2)
theorem Pos.step {l : MLaw} {M : MScope → MRule → Prop} {i j : Nat} {s : MScope} {r : MRule} (hs : l.scopes[i]? = some s) (hr : s.rules[j]? = some r) (S R : BA) : Pos l M i (j + 1) S R ↔ Pos l M i j S R ∨ (S = s.name ∧ R = r.name ∧ M s r) := by
  constructor
  · rintro ⟨i', j', s', r', h, h1, h2, h3, h4, h5⟩
    by_cases q : i' = i ∧ j' = j
    · obtain ⟨rfl, rfl⟩ := q
      rw [hs] at h1; cases h1
      rw [hr] at h2; cases h2
      exact .inr ⟨h3.symm, h4.symm, h5⟩
    · exact .inl ⟨i', j', s', r', by omega, h1, h2, h3, h4, h5⟩
  · rintro (⟨i', j', s', r', h, h1, h2, h3, h4, h5⟩ | ⟨h3, h4, h5⟩)
    · exact ⟨i', j', s', r', by omega, h1, h2, h3, h4, h5⟩
    · exact ⟨i, j, s, r, by omega, hs, hr, h3.symm, h4.symm, h5⟩
theorem Pos.next {l : MLaw} {M : MScope → MRule → Prop} {i j : Nat} {s : MScope} (hs : l.scopes[i]? = some s) (hj : s.rules.length ≤ j) (S R : BA) : Pos l M (i + 1) 0 S R ↔ Pos l M i j S R := by
  constructor
  · rintro ⟨i', j', s', r', h, h1, h2, h3⟩
    refine ⟨i', j', s', r', ?_, h1, h2, h3⟩
    by_cases q : i' = i
    · subst q
      rw [hs] at h1; cases h1
      have := lt_ix h2
      omega
    · omega
  · rintro ⟨i', j', s', r', h, h1, h2, h3⟩
    exact ⟨i', j', s', r', by omega, h1, h2, h3⟩
theorem Pos.zero {l : MLaw} {M : MScope → MRule → Prop} {S R : BA} : ¬ Pos l M 0 0 S R := by
  rintro ⟨i', j', s', r', h, _⟩
  omega
theorem Pos.fin {l : MLaw} {M : MScope → MRule → Prop} {i : Nat} (hi : l.scopes.length ≤ i) (S R : BA) : Pos l M i 0 S R ↔ ∃ p, cpS l S R p ∧ M p.1 p.2 := by
  constructor
  · rintro ⟨i', j', s, r, h, h1, h2, h3, h4, h5⟩
    exact ⟨(s, r), ⟨i', j', h1, h2, h3, h4⟩, h5⟩
  · rintro ⟨p, ⟨i', j', h1, h2, h3, h4⟩, h5⟩
    exact ⟨i', j', p.1, p.2, by have := lt_ix h1; omega, h1, h2, h3, h4, h5⟩
theorem Pos.new {l : MLaw} (hv : LawOk fu l) {M : MScope → MRule → Prop} {i j : Nat} {s : MScope} {r : MRule} (hs : l.scopes[i]? = some s) (hr : s.rules[j]? = some r) : ¬ Pos l M i j s.name r.name := by
  rintro ⟨i', j', s', r', h, h1, h2, h3, h4, _⟩
  have := ix_uniq hv h1 h2 hs hr h3 h4
  omega
def key (c : MChange) : BA × BA := (c.scope, c.rule)
/-- The keys of a list are different, and are those of which P holds. -/
def Acc (o : List MChange) (P : BA → BA → Prop) : Prop := (o.map key).Nodup ∧ ∀ S R, (S, R) ∈ o.map key ↔ P S R
theorem Acc.congr {o : List MChange} {P Q : BA → BA → Prop} (h : Acc o P) (hq : ∀ S R, P S R ↔ Q S R) : Acc o Q := ⟨h.1, fun S R => (h.2 S R).trans (hq S R)⟩
theorem Acc.add {o : List MChange} {P : BA → BA → Prop} (h : Acc o P) {S R : BA} (hn : ¬ P S R) (k : Int) : Acc (o ++ [MChange.mk S R k]) (fun S' R' => P S' R' ∨ (S' = S ∧ R' = R)) := by
  refine ⟨?_, fun S' R' => ?_⟩
  · rw [List.map_append]
    refine List.nodup_append.2 ⟨h.1, by simp, fun x hx y hy => ?_⟩
    simp [key] at hy
    subst hy
    rintro rfl
    exact hn ((h.2 S R).1 hx)
  · rw [List.map_append, List.mem_append, h.2]
    simp [key]
theorem o_Changed (hf : 200000 ≤ fu) {a b : MLaw} (ha : SzLaw a) (hb : SzLaw b) (va : LawOk fu a) (vb : LawOk fu b) : Ok (m_lawdiff_ChangedRules fu a b) (fun v => v.length ≤ 1000 ∧ Acc v (fun S R => (∃ p, cpS a S R p ∧ Gone fu b p.1 p.2) ∨ (∃ q, cpS b S R q ∧ Added a q.1 q.2))) := by
  have h5 := ha.scopes
  have h5b := hb.scopes
  unfold m_lawdiff_ChangedRules
  refine Ok.rgA (fun (o : List MChange) i => o.length ≤ 60 * i ∧ Acc o (Pos a (Gone fu b) i 0)) a.scopes.length (by omega) (fun n o i ho hi rec1 => ?_) hf (o := []) ⟨Nat.zero_le _, List.nodup_nil, fun S R => ⟨fun h => (by cases h), fun h => absurd h Pos.zero⟩⟩
  obtain ⟨o1, o2⟩ := ho
  simp only [m_lawdiff_ChangedRules_L1]
  refine Ok.con (fun q => ?_) fun q => ?_
  · have q' : i < a.scopes.length := by simpa [nI] using q
    refine Ok.ixN q' fun s hs => ?_
    have hz := ha.scs s (mem_ix hs)
    have h60 := hz.rules
    refine Ok.rgA (fun (o' : List MChange) j => o'.length ≤ o.length + j ∧ Acc o' (Pos a (Gone fu b) i j)) s.rules.length (by omega) (fun n o' j ho hj rec2 => ?_) hf (o := o) ⟨Nat.le_refl _, o2⟩
    obtain ⟨p1, p2⟩ := ho
    simp only [m_lawdiff_ChangedRules_L2, e_props, bd_of]
    refine Ok.con (fun q2 => ?_) fun q2 => ?_
    · have q2' : j < s.rules.length := by simpa [nI] using q2
      refine Ok.ixN q2' fun r hr => ?_
      have hr' := hz.rls r (mem_ix hr)
      have g1 := hr'.guard
      have g2 := hr'.value
      have add : ∀ (k : Int), Gone fu b s r → Ok (bd (ap o' [MChange.mk s.name r.name k]) fun z => cnt j (m_lawdiff_ChangedRules_L2 s fu b (fun p_18 => cnt i (m_lawdiff_ChangedRules_L1 a fu b (fun p_19 => m_lawdiff_ChangedRules_L3 b fu a (fun p_31 => some p_31) fu (p_19, 0)) _ (p_18, i + 1))) n (z, j + 1))) _ := fun k hg =>
        Ok.ap (by simp; omega) (Ok.cnt (by omega) (rec2 (o' ++ [MChange.mk s.name r.name k]) (j + 1) ⟨by simp; omega, (p2.add (Pos.new va hs hr) k).congr fun S R => by
          rw [Pos.step hs hr]
          exact or_congr Iff.rfl ⟨fun h => ⟨h.1, h.2, hg⟩, fun h => ⟨h.1, h.2.1⟩⟩⟩ (by omega) (by omega)))
      refine Ok.bd (o_cpX hf hb vb s.name r.name) fun c hc => Ok.con (fun q3 => ?_) fun q3 => ?_
      · rcases hc with ⟨h, _⟩ | ⟨_, h⟩
        · rw [h] at q3; cases q3
        · exact add 1 (.inl h)
      · obtain ⟨hcp⟩ : cpS b s.name r.name (c.1, c.2.1) ∧ True := by
          rcases hc with ⟨_, h⟩ | ⟨h, _⟩
          · exact ⟨h, trivial⟩
          · rw [h] at q3; cases q3
        refine Ok.con (fun q4 => ?_) fun q4 => Ok.bd (x_N hf (by omega)) fun e he => Ok.con (fun q5 => ?_) fun q5 => Ok.bd (x_N hf (by omega)) fun w hw => Ok.con (fun q6 => ?_) fun q6 => ?_
        · refine add 3 (.inr ⟨_, hcp, fun h => ?_⟩)
          simp only at h
          rw [h.1] at q4
          simp at q4
        · refine add 3 (.inr ⟨_, hcp, fun h => ?_⟩)
          rw [he.2 h.2.1] at q5; cases q5
        · refine add 3 (.inr ⟨_, hcp, fun h => ?_⟩)
          rw [hw.2 h.2.2] at q6; cases q6
        · have e1 : prV fu s r = prV fu c.1 c.2.1 := by
            cases h1 : prV fu s r
            cases h2 : prV fu c.1 c.2.1
            rw [h1, h2] at q4
            rename_i a1 a2 a3 a4 a5 b1 b2 b3 b4 b5
            cases a5; cases b5
            simp at q4
            simp [q4]
          have e2 := he.1 (by simpa using q5)
          have e3 := hw.1 (by simpa using q6)
          have hg : ¬ Gone fu b s r := by
            rintro (h | ⟨q, h1, h2⟩)
            · exact h _ hcp
            · have := hcp.uniq vb h1
              subst this
              exact h2 ⟨e1, e2, e3⟩
          refine Ok.cnt (by omega) (rec2 o' (j + 1) ⟨by omega, p2.congr fun S R => ?_⟩ (by omega) (by omega))
          rw [Pos.step hs hr]
          exact ⟨.inl, fun h => h.elim id fun h => absurd h.2.2 hg⟩
    · have q2' : s.rules.length ≤ j := by simpa [nI] using q2
      exact Ok.cnt (by omega) (rec1 o' (i + 1) ⟨by omega, p2.congr fun S R => (Pos.next hs q2' S R).symm⟩ (by omega) (by omega))
  · have q' : a.scopes.length ≤ i := by simpa [nI] using q
    have hl : o.length ≤ 300 := by omega
    have o3 := o2.congr fun S R => Pos.fin q' S R
    clear o1 o2
    refine Ok.rgA (fun (o' : List MChange) i => o'.length ≤ 300 + 60 * i ∧ Acc o' (fun S R => (∃ p, cpS a S R p ∧ Gone fu b p.1 p.2) ∨ Pos b (Added a) i 0 S R)) b.scopes.length (by omega) (fun n o i ho hi rec1 => ?_) hf (o := o) ⟨by omega, o3.congr fun S R => ⟨.inl, fun h => h.elim id fun h => absurd h Pos.zero⟩⟩
    obtain ⟨o1, o2⟩ := ho
    simp only [m_lawdiff_ChangedRules_L3]
    refine Ok.con (fun q => ?_) fun q => ?_
    · have q' : i < b.scopes.length := by simpa [nI] using q
      refine Ok.ixN q' fun s hs => ?_
      have hz := hb.scs s (mem_ix hs)
      have h60 := hz.rules
      refine Ok.rgA (fun (o' : List MChange) j => o'.length ≤ o.length + j ∧ Acc o' (fun S R => (∃ p, cpS a S R p ∧ Gone fu b p.1 p.2) ∨ Pos b (Added a) i j S R)) s.rules.length (by omega) (fun n o' j ho hj rec2 => ?_) hf (o := o) ⟨Nat.le_refl _, o2⟩
      obtain ⟨p1, p2⟩ := ho
      simp only [m_lawdiff_ChangedRules_L4]
      refine Ok.con (fun q2 => ?_) fun q2 => ?_
      · have q2' : j < s.rules.length := by simpa [nI] using q2
        refine Ok.ixN q2' fun r hr => Ok.bd (o_cpX hf ha va s.name r.name) fun c hc => Ok.con (fun q3 => ?_) fun q3 => ?_
        · have hno : ∀ p, ¬ cpS a s.name r.name p := by
            rcases hc with ⟨h, _⟩ | ⟨_, h⟩
            · rw [h] at q3; cases q3
            · exact h
          refine Ok.ap (by simp; omega) (Ok.cnt (by omega) (rec2 (o' ++ [MChange.mk s.name r.name 2]) (j + 1) ⟨by simp; omega, (p2.add (S := s.name) (R := r.name) ?_ 2).congr fun S R => ?_⟩ (by omega) (by omega)))
          · rintro (⟨p, h, _⟩ | h)
            · exact hno p h
            · exact Pos.new vb hs hr h
          · rw [Pos.step hs hr, or_assoc]
            exact or_congr Iff.rfl (or_congr Iff.rfl ⟨fun h => ⟨h.1, h.2, hno⟩, fun h => ⟨h.1, h.2.1⟩⟩)
        · have hg : ¬ Added a s r := fun h => by
            rcases hc with ⟨_, h'⟩ | ⟨h', _⟩
            · exact h _ h'
            · rw [h'] at q3; cases q3
          refine Ok.cnt (by omega) (rec2 o' (j + 1) ⟨by omega, p2.congr fun S R => ?_⟩ (by omega) (by omega))
          rw [Pos.step hs hr]
          exact or_congr Iff.rfl ⟨.inl, fun h => h.elim id fun h => absurd h.2.2 hg⟩
      · have q2' : s.rules.length ≤ j := by simpa [nI] using q2
        exact Ok.cnt (by omega) (rec1 o' (i + 1) ⟨by omega, p2.congr fun S R => or_congr Iff.rfl (Pos.next hs q2' S R).symm⟩ (by omega) (by omega))
    · have q' : b.scopes.length ≤ i := by simpa [nI] using q
      exact Ok.ret ⟨by omega, o2.congr fun S R => or_congr Iff.rfl (Pos.fin q' S R)⟩
/-- The changes in the other direction are of the same rules. -/
theorem mk_symm {a b : MLaw} {S R : BA} (h : (∃ p, cpS a S R p ∧ Gone fu b p.1 p.2) ∨ (∃ q, cpS b S R q ∧ Added a q.1 q.2)) : (∃ p, cpS b S R p ∧ Gone fu a p.1 p.2) ∨ (∃ q, cpS a S R q ∧ Added b q.1 q.2) := by
  have nm : ∀ {l : MLaw} {p : MScope × MRule}, cpS l S R p → p.1.name = S ∧ p.2.name = R := fun ⟨_, _, _, _, h3, h4⟩ => ⟨h3, h4⟩
  rcases h with ⟨p, hp, h⟩ | ⟨q, hq, h⟩
  · obtain ⟨n1, n2⟩ := nm hp
    unfold Gone at h
    rw [n1, n2] at h
    rcases h with h | ⟨q, hq, h⟩
    · exact .inr ⟨p, hp, by unfold Added; rw [n1, n2]; exact h⟩
    · obtain ⟨m1, m2⟩ := nm hq
      exact .inl ⟨q, hq, .inr ⟨p, by rw [m1, m2]; exact hp, h.symm⟩⟩
  · obtain ⟨m1, m2⟩ := nm hq
    exact .inl ⟨q, hq, .inl (by unfold Added at h; exact h)⟩
end Go.Ab

/- Plain laws: ImpactSymmetric. -/
set_option linter.unusedVariables false
set_option linter.unusedSimpArgs false
namespace Go.Ab
variable {fu : Nat}

theorem o_ContB (hf : 200000 ≤ fu) {xs : List Int} (h : xs.length ≤ 100000) (v : Int) : Ok (m_slices_Contains_int fu xs v) (fun _ => True) := by
  refine Ok.bd (P := fun _ => True) ?_ fun _ _ => Ok.tt
  unfold m_slices_Index_int
  refine Ok.loop (fun i : Nat => i ≤ xs.length) (fun i => xs.length - i) (fun n i hi rec => ?_) (Nat.zero_le _) (by omega)
  simp only [m_slices_Index_int_L1]
  refine Ok.con (fun q => ?_) fun q => Ok.tt
  have q' : i < xs.length := by simpa [nI] using q
  exact Ok.ixN q' fun b hb => Ok.con (fun _ => Ok.tt) fun _ => Ok.cnt (by omega) (rec _ (by omega) (by omega))
theorem o_clos (hf : 200000 ≤ fu) {s : MScope} (hs : SzScope s) {ds : List Int} (h : ds.length ≤ 6000) : Ok (m_impact_closure fu s ds) (fun v => v.length ≤ 100000) := by
  unfold m_impact_closure m_slices_Clone_110
  refine Ok.ap (by simp; omega) ?_
  refine Ok.loop (fun x : List Int × Nat => x.2 ≤ ds.length ∧ x.1.length ≤ 6000 + 14 * x.2) (fun x => ds.length - x.2) (fun n x hx rec => ?_) ⟨Nat.zero_le _, by simp; omega⟩ (by simp only; omega)
  obtain ⟨o, i⟩ := x
  obtain ⟨a1, a2⟩ := hx
  simp only at a1 a2
  simp only [m_impact_closure_L1]
  refine Ok.con (fun q => ?_) fun q => Ok.ret (by omega)
  have q' : i < ds.length := by simpa [nI] using q
  exact Ok.ixN q' fun d hd => Ok.bd (o_Trans hf hs d) fun t ht => Ok.ap (by omega) (Ok.cnt (by omega) (rec _ ⟨by simp only; omega, by simp only [List.length_append]; omega⟩ (by simp only; omega)))
theorem o_conts (hf : 200000 ≤ fu) {s : MScope} (hs : SzScope s) {ds : List Int} (h : ds.length ≤ 100000) (R : BA) : Ok (m_impact_contains fu s ds R) (fun _ => True) := by
  have h60 := hs.rules
  unfold m_impact_contains
  refine Ok.bd (P := fun w => w < (s.rules.length : Int)) ?_ fun w hw => Ok.con (fun q => ?_) fun _ => Ok.tt
  · unfold m_slices_IndexFunc_Rule_109
    refine Ok.rg s.rules.length (by omega) (fun n k hk rec => ?_) hf
    simp only [m_slices_IndexFunc_Rule_109_L1, m_impact_contains_1, bd_of]
    refine Ok.con (fun q => ?_) fun _ => Ok.ret (by omega)
    have q' : k < s.rules.length := by simpa [nI] using q
    exact Ok.ixN q' fun t ht => Ok.con (fun q2 => Ok.ret (by simp only [nI]; omega)) fun _ => Ok.cnt (by omega) (rec _ (by omega) (by omega))
  · exact Ok.ix (of_decide_eq_true q) hw fun _ _ => Ok.bd (o_ContB hf h _) fun _ _ => Ok.tt
theorem o_rel (hf : 200000 ≤ fu) {l : MLaw} (hl : SzLaw l) (hv : LawOk fu l) {i : Int} (h0 : 0 ≤ i) {s : MScope} (hs : l.scopes[i.toNat]? = some s) (d : Int) (x : MChange) : Ok (m_impact_relevant fu l i d x) (fun _ => True) := by
  have hz := hl.scs s (mem_ix hs)
  unfold m_impact_relevant
  refine Ok.bde (ix_of h0 hs) (Ok.con (fun _ => Ok.bd (o_clos hf hz (by simp)) fun c hc => Ok.bd (o_conts hf hz hc _) fun _ _ => Ok.tt) fun _ => Ok.con (fun _ => Ok.tt) fun q => ?_)
  have q' : ¬ s.ms < 0 := of_decide_eq_false q
  have hlt : s.ms < l.scopes.length := by
    rcases (hv.scopes _ s hs).ms with h | ⟨_, h, m, hm, _⟩
    · omega
    · have := lt_ix hm; omega
  refine Ok.ix (by omega) hlt fun m hm => Ok.con (fun _ => Ok.bd (o_MDefs hf hz d) fun c hc => Ok.bd (o_clos hf (hl.scs m (mem_ix hm)) hc.1) fun c hc => Ok.bd (o_conts hf (hl.scs m (mem_ix hm)) hc _) fun _ _ => Ok.tt) fun _ => Ok.tt
def relV (fu : Nat) (l : MLaw) (i d : Int) (k : BA × BA) : Bool := (m_impact_relevant fu l i d (MChange.mk k.1 k.2 0)).getD false
theorem e_rel (hf : 200000 ≤ fu) {l : MLaw} (hl : SzLaw l) (hv : LawOk fu l) {i : Int} (h0 : 0 ≤ i) {s : MScope} (hs : l.scopes[i.toNat]? = some s) (d : Int) (x : MChange) : m_impact_relevant fu l i d x = some (relV fu l i d (key x)) := by
  obtain ⟨v, e, _⟩ := o_rel hf hl hv h0 hs d x
  have e2 : m_impact_relevant fu l i d (MChange.mk (key x).1 (key x).2 0) = some v := by rw [← e]; rfl
  unfold relV
  rw [e2, e]; rfl
/-- What a comparison of two laws comes to. -/
def Impact1 (fu : Nat) (a b : MLaw) (i d : Int) (c : MCase) (v : MImpact) : Prop :=
  ∃ ra rb ch, m_interp_EvalDef fu a i c d = some ra ∧ m_interp_EvalDef fu b i c d = some rb ∧ Acc ch (fun S R => (∃ p, cpS a S R p ∧ Gone fu b p.1 p.2) ∨ (∃ q, cpS b S R q ∧ Added a q.1 q.2)) ∧ ch.length ≤ 1000 ∧
    v = MImpact.mk ra.1 rb.1 ra.2.2.code rb.2.2.code (ch.filter fun x => relV fu a i d (key x) || relV fu b i d (key x))
def Rng (a : MLaw) (i d : Int) : Prop := 0 ≤ i ∧ ∃ s, a.scopes[i.toNat]? = some s ∧ 0 ≤ d ∧ d < s.defs.length
theorem Rng.tr {a b : MLaw} {i d : Int} (h : Rng a i d) (e : ifc a = ifc b) : Rng b i d := by
  obtain ⟨h0, s, h1, h2, h3⟩ := h
  obtain ⟨t, ht, hb⟩ := ifc_scope e h1
  have : (bare0 s).defs = (bare0 t).defs := by rw [hb]
  have : s.defs = t.defs := this
  exact ⟨h0, t, ht, h2, by rw [← this]; exact h3⟩
theorem o_Compare (hf : 201000 ≤ fu) {a b : MLaw} (ha : SzLaw a) (hb : SzLaw b) {c : MCase} (hc : SzCase c) (i d : Int) {wa wb : MLawError} (ea : m_law_Validate fu a = some wa) (eb : m_law_Validate fu b = some wb) (va : wa.code = 0 → LawOk fu a) (vb : wb.code = 0 → LawOk fu b) :
    Ok (m_impact_Compare fu a b i c d) (fun v => (v.2 = 0 ↔ wa.code = 0 ∧ wb.code = 0 ∧ Rng a i d ∧ ifc a = ifc b) ∧ (v.2 = 0 → Impact1 fu a b i d c v.1)) := by
  have hf' : 200000 ≤ fu := by omega
  unfold m_impact_Compare
  have bad : ∀ (n : Int), n ≠ 0 → ∀ (x : MImpact), ¬ (wa.code = 0 ∧ wb.code = 0 ∧ Rng a i d ∧ ifc a = ifc b) → Ok (some (x, n)) (fun v : MImpact × Int => (v.2 = 0 ↔ wa.code = 0 ∧ wb.code = 0 ∧ Rng a i d ∧ ifc a = ifc b) ∧ (v.2 = 0 → Impact1 fu a b i d c v.1)) := fun n hn x h => Ok.ret ⟨⟨fun h' => absurd h' hn, fun h' => absurd h' h⟩, fun h' => absurd h' hn⟩
  refine Ok.bde ea (Ok.con (fun q => bad _ (by decide) _ fun h => ?_) fun q1 => Ok.bde eb (Ok.con (fun q => bad _ (by decide) _ fun h => ?_) fun q2 => Ok.con (fun q => bad _ (by decide) _ fun h => ?_) fun q3 => ?_))
  · simp at q; exact q h.1
  · simp at q; exact q h.2.1
  · obtain ⟨_, _, ⟨h0, s, h1, h2, h3⟩, _⟩ := h
    have := lt_ix h1
    simp [ln_len] at q
    omega
  have va' := va (by simpa using q1)
  have vb' := vb (by simpa using q2)
  have q3' : (0 ≤ i ∧ i < a.scopes.length) ∧ 0 ≤ d := by simp [ln_len] at q3; omega
  refine Ok.ix q3'.1.1 q3'.1.2 fun s hs => Ok.con (fun q => bad _ (by decide) _ fun h => ?_) fun q4 => ?_
  · obtain ⟨_, _, ⟨h0, s', h1, h2, h3⟩, _⟩ := h
    rw [hs] at h1; cases h1
    simp [ln_len] at q
    omega
  have rng : Rng a i d := ⟨q3'.1.1, s, hs, q3'.2, by simp [ln_len] at q4; omega⟩
  refine Ok.bd (x_Iface hf' ha hb) fun e he => Ok.con (fun q => bad _ (by decide) _ fun h => ?_) fun q5 => ?_
  · rw [he.2 h.2.2.2] at q; cases q
  have hif := he.1 (by simpa using q5)
  obtain ⟨t, ht, _⟩ := ifc_scope hif hs
  obtain ⟨ra, hra, _⟩ := o_EvalDef hf ha i hc d
  obtain ⟨rb, hrb, _⟩ := o_EvalDef hf hb i hc d
  refine Ok.bde hra (Ok.bde hrb (Ok.bd (o_Changed hf' ha hb va' vb') fun ch hch => ?_))
  obtain ⟨l1, acc⟩ := hch
  refine Ok.loop (fun x : Nat × List MChange => x.1 ≤ ch.length ∧ x.2 = (ch.take x.1).filter fun x => relV fu a i d (key x) || relV fu b i d (key x)) (fun x => ch.length - x.1) (fun n x hx rec => ?_) ⟨Nat.zero_le _, by simp⟩ (by simp only; omega)
  obtain ⟨j, o⟩ := x
  obtain ⟨a1, a2⟩ := hx
  simp only at a1 a2
  simp only [m_impact_Compare_L1]
  refine Ok.con (fun q => ?_) fun q => Ok.ret ⟨⟨fun _ => ⟨by simpa using q1, by simpa using q2, rng, hif⟩, fun _ => rfl⟩, fun _ => ⟨ra, rb, ch, hra, hrb, acc, l1, ?_⟩⟩
  · have q' : j < ch.length := by simpa [nI] using q
    refine Ok.ixN q' fun x hx => Ok.bde (e_rel hf' ha va' q3'.1.1 hs d x) ?_
    have hlen : o.length ≤ j := by
      rw [a2]
      refine Nat.le_trans (List.length_filter_le _ _) ?_
      simp; omega
    have tk : ∀ b' : Bool, (relV fu a i d (key x) || relV fu b i d (key x)) = b' → (ch.take (j + 1)).filter (fun x => relV fu a i d (key x) || relV fu b i d (key x)) = if b' then o ++ [x] else o := fun b' hb' => by
      rw [List.take_add_one, hx, List.filter_append, ← a2]
      cases b' <;> simp [hb']
    refine Ok.con (fun q6 => Ok.ap (by simp; omega) (Ok.cnt (by omega) (rec _ ⟨by simp only; omega, ?_⟩ (by simp only; omega)))) fun q6 => Ok.bde (e_rel hf' hb vb' q3'.1.1 ht d x) (Ok.con (fun q7 => Ok.ap (by simp; omega) (Ok.cnt (by omega) (rec _ ⟨by simp only; omega, ?_⟩ (by simp only; omega)))) fun q7 => Ok.cnt (by omega) (rec _ ⟨by simp only; omega, ?_⟩ (by simp only; omega)))
    · simp only; rw [tk true (by rw [q6]; rfl)]; rfl
    · simp only; rw [tk true (by rw [q6, q7]; rfl)]; rfl
    · simp only; rw [tk false (by rw [q6, q7]; rfl)]; rfl
  · have q' : ch.length ≤ j := by simpa [nI] using q
    rw [a2, List.take_of_length_le q']
theorem nd_sub {α : Type} [DecidableEq α] : ∀ (l m : List α), l.Nodup → (∀ x ∈ l, x ∈ m) → l.length ≤ m.length
  | [], _, _, _ => Nat.zero_le _
  | x :: l, m, hd, h => by
    obtain ⟨h1, h2⟩ := List.nodup_cons.1 hd
    have hx := h x (by simp)
    have := nd_sub l (m.erase x) h2 fun y hy => (List.mem_erase_of_ne (fun e => h1 (by rw [← e]; exact hy))).2 (h y (by simp [hy]))
    rw [List.length_erase_of_mem hx] at this
    have := List.length_pos_of_mem hx
    simp only [List.length_cons]
    omega
theorem sym_keys {a b : MLaw} {P P' : MChange → Bool} {ca cb : List MChange} {f : BA × BA → Bool} (hP : ∀ x, P x = f (key x)) (hP' : ∀ x, P' x = f (key x)) (ha : Acc ca (fun S R => (∃ p, cpS a S R p ∧ Gone fu b p.1 p.2) ∨ (∃ q, cpS b S R q ∧ Added a q.1 q.2))) (hb : Acc cb (fun S R => (∃ p, cpS b S R p ∧ Gone fu a p.1 p.2) ∨ (∃ q, cpS a S R q ∧ Added b q.1 q.2))) :
    ((ca.filter P).length ≤ (cb.filter P').length) ∧ ∀ x ∈ ca.filter P, ∃ y ∈ cb.filter P', x.scope = y.scope ∧ x.rule = y.rule := by
  have mem : ∀ x ∈ ca.filter P, ∃ y ∈ cb.filter P', key x = key y := fun x hx => by
    obtain ⟨h1, h2⟩ := List.mem_filter.1 hx
    have := (ha.2 x.scope x.rule).1 (List.mem_map.2 ⟨x, h1, rfl⟩)
    obtain ⟨y, hy, e⟩ := List.mem_map.1 ((hb.2 x.scope x.rule).2 (mk_symm this))
    have e' : key x = key y := e.symm
    exact ⟨y, List.mem_filter.2 ⟨hy, by rw [hP', ← e', ← hP]; exact h2⟩, e'⟩
  refine ⟨?_, fun x hx => ?_⟩
  · have h1 : ((ca.filter P).map key).Nodup := ha.1.sublist (List.Sublist.map key List.filter_sublist)
    have := nd_sub ((ca.filter P).map key) ((cb.filter P').map key) h1 fun k hk => by
      obtain ⟨x, hx, rfl⟩ := List.mem_map.1 hk
      obtain ⟨y, hy, e⟩ := mem x hx
      exact List.mem_map.2 ⟨y, hy, e.symm⟩
    simpa using this
  · obtain ⟨y, hy, e⟩ := mem x hx
    exact ⟨y, hy, congrArg Prod.fst e, congrArg Prod.snd e⟩
theorem l_ImpactSymmetric {p : MGuerdonlaw52Pair} (ha : SizedLaw p.a) (hb : SizedLaw p.b) (i : Int) (c : MCase) (d : Int) : m_law52_ImpactSymmetric 300000 p i c d = some true := by
  apply Ok.eq
  have hf : 201000 ≤ 300000 := by decide
  have aw : Ok (bd (m_law52_awake 300000) fun c_2 => some c_2) (fun v => v = true) := Ok.bde p_awake52 (Ok.ret rfl)
  unfold m_law52_ImpactSymmetric
  generalize hfu : 300000 = fu at *
  have hf' : 200000 ≤ fu := by omega
  obtain ⟨a, b⟩ := p
  simp only at ha hb
  refine Ok.bd (P := fun v => v = true → SzLaw a ∧ SzLaw b ∧ SzCase c) ?_ fun v hv => Ok.con (fun _ => aw) fun q => ?_
  · unfold m_law52_small
    exact Ok.bd (o_smallL hf' ha) fun x hx => Ok.con (fun q => Ok.bd (o_smallL hf' hb) fun y hy => Ok.con (fun q2 => Ok.bd (o_smallC hf' c) fun z hz => Ok.ret fun h => ⟨hx q, hy q2, hz h⟩) fun _ => Ok.ret fun h => tf h.symm) fun _ => Ok.ret fun h => tf h.symm
  obtain ⟨za, zb, zc⟩ := hv (by simpa using q)
  obtain ⟨wa, ea, va⟩ := o_Validate hf' za
  obtain ⟨wb, eb, vb⟩ := o_Validate hf' zb
  refine Ok.bd (o_Compare hf za zb zc i d ea eb va vb) fun x hx => Ok.bd (o_Compare hf zb za zc i d eb ea vb va) fun y hy => ?_
  have both : x.2 = 0 ↔ y.2 = 0 := by
    rw [hx.1, hy.1]
    exact ⟨fun ⟨h1, h2, h3, h4⟩ => ⟨h2, h1, h3.tr h4, h4.symm⟩, fun ⟨h1, h2, h3, h4⟩ => ⟨h2, h1, h3.tr h4, h4.symm⟩⟩
  refine Ok.con (fun q2 => Ok.con (fun _ => aw) fun q3 => ?_) fun q2 => ?_
  · exfalso
    have e : (x.2 == 0) = (y.2 == 0) := by
      rw [Bool.eq_iff_iff]
      simpa using both
    rw [e] at q3
    simp at q3
  have q2' : x.2 = 0 ∧ y.2 = 0 := by simpa using q2
  obtain ⟨ra, rb, ca, e1, e2, e3, e4, e5⟩ := hx.2 q2'.1
  obtain ⟨rb', ra', cb, f1, f2, f3, f4, f5⟩ := hy.2 q2'.2
  rw [e1] at f2; cases f2
  rw [e2] at f1; cases f1
  have k1 := sym_keys (P := fun x => relV fu a i d (key x) || relV fu b i d (key x)) (P' := fun x => relV fu b i d (key x) || relV fu a i d (key x)) (f := fun k => relV fu a i d k || relV fu b i d k) (fun _ => rfl) (fun x => Bool.or_comm _ _) e3 f3
  have k2 := sym_keys (P := fun x => relV fu b i d (key x) || relV fu a i d (key x)) (P' := fun x => relV fu a i d (key x) || relV fu b i d (key x)) (f := fun k => relV fu a i d k || relV fu b i d k) (fun x => Bool.or_comm _ _) (fun _ => rfl) f3 e3
  have lx : x.1.rules.length ≤ 1000 := by rw [e5]; exact Nat.le_trans (List.length_filter_le _ _) e4
  have ly : y.1.rules.length ≤ 1000 := by rw [f5]; exact Nat.le_trans (List.length_filter_le _ _) f4
  have leq : x.1.rules.length = y.1.rules.length := by rw [e5, f5]; exact Nat.le_antisymm k1.1 k2.1
  have found : ∀ u ∈ x.1.rules, ∃ w ∈ y.1.rules, u.scope = w.scope ∧ u.rule = w.rule := by rw [e5, f5]; exact k1.2
  refine Ok.con (fun q3 => ?_) fun _ => ?_
  · exfalso
    rw [ln_len, ln_len, leq, e5, f5] at q3
    simp at q3
  clear k1 k2 e5 f5 hx hy both
  refine Ok.loop (fun n : Nat => n ≤ x.1.rules.length) (fun n => x.1.rules.length - n) (fun m n hn rec => ?_) (Nat.zero_le _) (by omega)
  simp only [m_law52_ImpactSymmetric_L1]
  refine Ok.con (fun q3 => ?_) fun _ => aw
  have q3' : n < x.1.rules.length := by simpa [nI] using q3
  have hu : x.1.rules[n]? = some x.1.rules[n] := List.getElem?_eq_getElem q3'
  generalize x.1.rules[n] = u at hu
  obtain ⟨w, hw, w1, w2⟩ := found u (mem_ix hu)
  obtain ⟨kw, hkw⟩ := List.getElem?_of_mem hw
  have hkl := lt_ix hkw
  refine Ok.loop (fun z : Bool × Nat => z.2 ≤ y.1.rules.length ∧ (kw < z.2 → z.1 = true)) (fun z => y.1.rules.length - z.2) (fun m' z hz rec2 => ?_) ⟨Nat.zero_le _, fun h => absurd h (Nat.not_lt_zero _)⟩ (by simp only; omega)
  obtain ⟨fd, k⟩ := z
  obtain ⟨b1, b2⟩ := hz
  simp only at b1 b2
  simp only [m_law52_ImpactSymmetric_L2]
  refine Ok.con (fun q4 => ?_) fun q4 => ?_
  · have q4' : k < y.1.rules.length := by simpa [nI] using q4
    refine Ok.con (fun q5 => Ok.cnt (by omega) (rec2 _ ⟨by simp only; omega, fun _ => rfl⟩ (by simp only; omega))) fun q5 => ?_
    refine Ok.ixN q3' fun u' hu' => Ok.ixN q4' fun w' hw' => ?_
    rw [hu] at hu'; cases hu'
    have nk : ¬ kw < k := fun h => by rw [b2 h] at q5; cases q5
    refine Ok.con (fun q6 => Ok.ixN q3' fun u' hu' => Ok.ixN q4' fun w'' hw'' => ?_) fun q6 => Ok.cnt (by omega) (rec2 _ ⟨by simp only; omega, fun h => ?_⟩ (by simp only; omega))
    · rw [hu] at hu'; cases hu'
      rw [hw'] at hw''; cases hw''
      refine Ok.cnt (by omega) (rec2 _ ⟨by simp only; omega, fun h => ?_⟩ (by simp only; omega))
      have : kw = k := by simp only at h; omega
      subst this
      rw [hkw] at hw'; cases hw'
      simp [w2]
    · exfalso
      have : kw = k := by simp only at h; omega
      subst this
      rw [hkw] at hw'; cases hw'
      exact of_decide_eq_false q6 w1
  · have q4' : y.1.rules.length ≤ k := by simpa [nI] using q4
    rw [b2 (by omega)]
    exact Ok.con (fun q5 => by cases q5) fun _ => Ok.cnt (by omega) (rec _ (by omega) (by omega))
end Go.Ab
