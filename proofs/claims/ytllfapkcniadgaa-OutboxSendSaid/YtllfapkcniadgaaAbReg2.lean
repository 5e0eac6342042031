/- The abstract machine: a region that draws its order, second part: every order. -/
import Derived.Test.YtllfapkcniadgaaAbReg
set_option linter.unusedVariables false
namespace Go.Ab
open Go.RowKit

theorem listed_set {listed : Array Bool} {i j : Nat} (hi : i < listed.size) : (listed.setIfInBounds i true).getD j false = true ↔ j = i ∨ listed.getD j false = true := by
  by_cases e : i = j
  · subst e; simp [hi]
  · rw [getD_set_ne false e]
    constructor
    · exact .inr
    · rintro (h | h)
      · exact absurd h.symm e
      · exact h

theorem unlisted {listed : Array Bool} {j : Nat} (hj : j < listed.size) : listed.getD j true = false ↔ ¬ listed.getD j false = true := by
  simp [hj]

theorem ready_lt {ops : Array Oper} {md : Region.Mode} {listed : Array Bool} {j : Nat} (h : j ∈ Region.ready md ops listed) : j < ops.size := by
  obtain ⟨_, o, ho, _⟩ := mem_ready.1 h
  exact (Array.getElem?_eq_some_iff.1 ho).1

/-- Behind the operations that only read, the rest comes in the order of the text. -/
theorem any_tail {P : Program} {ops : Array Oper} {Q : Exit → Act → World → Prop} {m : Nat} (D : DrawOk ops m) : ∀ (r k : Nat) (listed : Array Bool) (a : Act) (w : World) (fuel : Nat), k + r = ops.size → m ≤ k → r ≤ fuel →
    listed.size = ops.size → (∀ i, listed.getD i false = true ↔ i < k) → wpOps P ops Q (List.range' k r) a w → wpAny P .any ops Q fuel listed a w
  | 0, k, listed, a, w, fuel, hk, hm, hf, hs, hl, h => by
    have hr : Region.ready .any ops listed = [] := by
      rw [List.eq_nil_iff_forall_not_mem]
      intro j hj
      have hlt := ready_lt hj
      have := (unlisted (by omega)).1 (mem_ready.1 hj).1
      exact this ((hl j).2 (by omega))
    cases fuel with
    | zero => exact ⟨hr, by simpa [wpOps] using h⟩
    | succ fuel => exact ⟨fun _ => by simpa [wpOps] using h, fun i hi => by rw [hr] at hi; cases hi⟩
  | r + 1, k, listed, a, w, fuel, hk, hm, hf, hs, hl, h => by
    cases fuel with
    | zero => omega
    | succ fuel =>
      rw [List.range'_succ, wpOps_cons] at h
      have honly : ∀ i ∈ Region.ready .any ops listed, i = k := fun i hi => by
        have hlt := ready_lt hi
        obtain ⟨hun, o, ho, hall⟩ := mem_ready.1 hi
        have h1 := (unlisted (by omega)).1 hun
        have h2 : ¬ i < k := fun e => h1 ((hl i).2 e)
        rcases Nat.lt_or_eq_of_le (Nat.le_of_not_lt h2) with h3 | h3
        · rcases D.tail i o k (by omega) ho h3 with hlk | ⟨e, he, hb, hon⟩
          · obtain ⟨_, _, _, _, hkm, _⟩ := D.late k hlk
            omega
          · have := (hl _).1 (hall e he hb)
            omega
        · exact h3.symm
      have hkr : k ∈ Region.ready .any ops listed := by
        obtain ⟨o, ho⟩ : ∃ o, ops[k]? = some o := ⟨_, Array.getElem?_eq_getElem (by omega)⟩
        refine mem_ready.2 ⟨(unlisted (by omega)).2 (fun e => by have := (hl k).1 e; omega), o, ho, fun e he hb => (hl _).2 (D.acyclic k o ho e he hb)⟩
      refine ⟨fun h0 => (by rw [h0] at hkr; cases hkr), fun i hi => ?_⟩
      have := honly i hi
      subst this
      refine wpOp_mono (fun a' w' h' => any_tail D r (i + 1) _ a' w' fuel (by omega) (by omega) (by omega) (by simpa using hs) (fun j => ?_) h') h
      rw [listed_set (by omega)]
      constructor
      · rintro (h | h)
        · omega
        · have := (hl j).1 h; omega
      · intro h
        by_cases e : j = i
        · exact .inl e
        · exact .inr ((hl j).2 (by omega))

/-- In the middle of the operations that only read. -/
structure Mid (ops : Array Oper) (m : Nat) (S : Nat → St) (p : Nat → Option (AV × Heap)) (V F0 : Nat → Prop) (w0 : World) (listed : Array Bool) (a : Act) (w : World) : Prop where
  size : listed.size = ops.size
  closed : ∀ i o, listed.getD i false = true → ops[i]? = some o → ∀ e ∈ o.after, Region.binds .any e = true → listed.getD e.on false = true
  pre : ∀ i, listed.getD i false = true → i < m
  rel : ∃ ρ F, WOk V ρ F w ∧ a.tmps.size = (S 0).n ∧ a.defers = [] ∧
    (∀ t, (∃ i o, listed.getD i false = true ∧ ops[i]? = some o ∧ o.dst = some t ∧ ARel ρ F w (S m).h (a.tmps.getD t undef) (pval (p i))) ∨
      ((∀ i o, listed.getD i false = true → ops[i]? = some o → o.dst ≠ some t) ∧ ARel ρ F w (S m).h (a.tmps.getD t undef) ((S 0).get t))) ∧
    HRel ρ F w (S m).h ∧
    (∀ id x, ρ id = some x → (∃ ob, look (S 0).h id = some ob) ∨ ∃ i v news ob, listed.getD i false = true ∧ p i = some (v, news) ∧ look news id = some ob) ∧
    ((∀ b, F0 b → F b) ∧ ∀ b, b < w0.heap.size → V b) ∧ (∀ b, F b → F0 b ∨ w0.heap.size ≤ b) ∧ Keep V w0 w

theorem Mid.done {P : Program} {ops : Array Oper} {m : Nat} {S : Nat → St} {p : Nat → Option (AV × Heap)} {V F0 : Nat → Prop} {w0 : World} {listed : Array Bool} {a : Act} {w : World} (T : Text P ops m S p) (D : DrawOk ops m)
    (M : Mid ops m S p V F0 w0 listed a w) (hall : ∀ i, i < m → listed.getD i false = true) : Holds' V F0 w0 (S m) a w := by
  obtain ⟨ρ, F, ok, hsz, hdf, htm, hh, hdom, h1, h2, hk⟩ := M.rel
  refine ⟨⟨ρ, F, ⟨ok, by rw [hsz, T.n (Nat.le_refl m)], fun t => ?_, hh, fun id x hid => ?_, hdf⟩, h1, h2⟩, hk⟩
  · rcases T.get (Nat.le_refl m) t with ⟨j, o, hj, ho, hd, hg⟩ | ⟨hno, hg⟩
    · rcases htm t with ⟨i, o', hi, ho', hd', hr⟩ | ⟨hno, _⟩
      · have := D.uniq i j o' o t (M.pre i hi) hj ho' ho hd' hd
        subst this
        rw [hg]; exact hr
      · exact absurd hd (hno j o (hall j hj) ho)
    · rcases htm t with ⟨i, o', hi, ho', hd', hr⟩ | ⟨_, hr⟩
      · exact absurd hd' (hno i o' (M.pre i hi) ho')
      · rw [hg]; exact hr
  · rcases hdom id x hid with ⟨ob, hob⟩ | ⟨i, v, news, ob, hi, hp, hob⟩
    · exact ⟨ob, T.sub m (Nat.zero_le _) (Nat.le_refl _) id ob hob⟩
    · exact ⟨ob, T.sub_news (M.pre i hi) hp id ob hob⟩

theorem tmp_looks {ops : Array Oper} {o : Oper} {t : Nat} (h : Operand.tmp t ∈ o.op.operands) : t ∈ o.looksAt ops := by
  unfold Oper.looksAt
  rw [List.mem_append]
  left
  rw [List.mem_filterMap]
  exact ⟨.tmp t, by simpa using h, rfl⟩

theorem guard_looks {ops : Array Oper} {o : Oper} {j d : Nat} {want : Bool} (h : o.guard = some (j, want)) (hd : (ops[j]?).bind (·.dst) = some d) : d ∈ o.looksAt ops := by
  unfold Oper.looksAt
  rw [List.mem_append]
  right
  simp [h, hd]

/-- What an operation that may come up looks at reads as in the order of the text. -/
theorem Mid.looks {P : Program} {ops : Array Oper} {m : Nat} {S : Nat → St} {p : Nat → Option (AV × Heap)} {listed : Array Bool} {a : Act} {w : World} (T : Text P ops m S p) (D : DrawOk ops m)
    {ρ : Map} {F : Nat → Prop} {H : Heap} (hclosed : ∀ i o, listed.getD i false = true → ops[i]? = some o → ∀ e ∈ o.after, Region.binds .any e = true → listed.getD e.on false = true) (hpre : ∀ i, listed.getD i false = true → i < m)
    (htm : ∀ t, (∃ i o, listed.getD i false = true ∧ ops[i]? = some o ∧ o.dst = some t ∧ ARel ρ F w H (a.tmps.getD t undef) (pval (p i))) ∨
      ((∀ i o, listed.getD i false = true → ops[i]? = some o → o.dst ≠ some t) ∧ ARel ρ F w H (a.tmps.getD t undef) ((S 0).get t)))
    {i : Nat} {o : Oper} (him : i < m) (ho : ops[i]? = some o) (hun : ¬ listed.getD i false = true) (hall : ∀ e ∈ o.after, Region.binds .any e = true → listed.getD e.on false = true) {t : Nat} (ht : t ∈ o.looksAt ops) :
    ARel ρ F w H (a.tmps.getD t undef) ((S i).get t) := by
  rcases T.get (Nat.le_of_lt him) t with ⟨j, oj, hj, hoj, hd, hg⟩ | ⟨hno, hg⟩
  · obtain ⟨e, he, hb, hon⟩ := D.dep i j o oj t him (by omega) ho hoj ht hd hj
    have hXj := hall e he hb
    rw [hon] at hXj
    rcases htm t with ⟨i', o', hi', ho', hd', hr⟩ | ⟨hno, _⟩
    · have := D.uniq i' j o' oj t (hpre i' hi') (by omega) ho' hoj hd' hd
      subst this
      rw [hg]; exact hr
    · exact absurd hd (hno j oj hXj hoj)
  · rcases htm t with ⟨i', o', hi', ho', hd', hr⟩ | ⟨_, hr⟩
    · rcases Nat.lt_trichotomy i' i with h | h | h
      · exact absurd hd' (hno i' o' h ho')
      · subst h; exact absurd hi' hun
      · obtain ⟨e, he, hb, hon⟩ := D.anti i i' o o' t him (hpre i' hi') ho ho' ht hd' h
        have := hclosed i' o' hi' ho' e he hb
        rw [hon] at this
        exact absurd this hun
    · rw [hg]; exact hr

theorem bool_slot {ρ : Map} {F : Nat → Prop} {w : World} {H : Heap} {a : Act} {d : Nat} {b : Bool} (h : ARel ρ F w H (a.tmps.getD d undef) (.s (.c (.d (.bool b))))) : a.tmps[d]? = some (.bool b) := by
  have := bool_of_rel h
  cases ht : a.tmps[d]? with
  | none => simp [ht, undef] at this
  | some v => simp [ht] at this; rw [this]

/-- The measure: how many have not come up. -/
def left (n : Nat) (listed : Array Bool) : Nat := ((List.range n).filter fun i => !listed.getD i false).length

theorem filter_lt {n i : Nat} {f g : Nat → Bool} (hi : i < n) (hf : f i = true) (hg : g i = false) (h : ∀ j, g j = true → f j = true) : ((List.range n).filter g).length < ((List.range n).filter f).length := by
  have key : ∀ (l : List Nat), i ∈ l → (l.filter g).length < (l.filter f).length := by
    have mono : ∀ (l : List Nat), (l.filter g).length ≤ (l.filter f).length := by
      intro l
      induction l with
      | nil => simp
      | cons x l ih =>
        simp only [List.filter_cons]
        cases hgx : g x with
        | false => cases f x <;> simp <;> omega
        | true => rw [h x hgx]; simp; omega
    intro l
    induction l with
    | nil => intro h; cases h
    | cons x l ih =>
      intro hm
      simp only [List.filter_cons]
      rcases List.mem_cons.1 hm with rfl | hm
      · rw [hf, hg]; simp; have := mono l; omega
      · have := ih hm
        cases hgx : g x with
        | false => cases f x <;> simp <;> omega
        | true => rw [h x hgx]; simp; omega
  exact key _ (List.mem_range.2 hi)

theorem left_set {n i : Nat} {listed : Array Bool} (hi : i < n) (hs : listed.size = n) (h : ¬ listed.getD i false = true) : left n (listed.setIfInBounds i true) < left n listed := by
  refine filter_lt hi (by simpa using h) ?_ (fun j hj => ?_)
  · have := (listed_set (j := i) (by omega : i < listed.size)).2 (.inl rfl); simp [this]
  · simp only [Bool.not_eq_true'] at hj ⊢
    cases hb : listed.getD j false with
    | false => rfl
    | true => have := (listed_set (j := j) (by omega : i < listed.size)).2 (.inr hb); rw [hj] at this; cases this

/-- One of the operations that only read comes up. -/
theorem Mid.step {P : Program} {ops : Array Oper} {m : Nat} {S : Nat → St} {p : Nat → Option (AV × Heap)} {V F0 : Nat → Prop} {w0 : World} {listed : Array Bool} {a : Act} {w : World} (T : Text P ops m S p) (D : DrawOk ops m)
    (M : Mid ops m S p V F0 w0 listed a w) {i : Nat} (hi : i ∈ Region.ready .any ops listed) (him : i < m) {Q : Exit → Act → World → Prop} {K : Act → World → Prop}
    (hK : ∀ a' w', Mid ops m S p V F0 w0 (listed.setIfInBounds i true) a' w' → K a' w') :
    ∃ o, ops[i]? = some o ∧ ((Region.wanted o (yielded ops a.tmps) = true ∧ o.wp P a w K Q) ∨ (Region.wanted o (yielded ops a.tmps) = false ∧ K (a.put o.dst undef) w)) := by
  have hilt := ready_lt hi
  obtain ⟨hun, o, ho, hedges⟩ := mem_ready.1 hi
  have hun' := (unlisted (by rw [M.size]; exact hilt)).1 hun
  obtain ⟨ρ, F, ok, hsz, hdf, htm, hh, hdom, h1, h2, hk⟩ := M.rel
  have hlooks : ∀ t, t ∈ o.looksAt ops → ARel ρ F w (S m).h (a.tmps.getD t undef) ((S i).get t) := fun t ht => Mid.looks T D M.closed M.pre htm him ho hun' hedges ht
  have hn : (S i).n = (S 0).n := T.n (Nat.le_of_lt him)
  have hset : ∀ j, (listed.setIfInBounds i true).getD j false = true ↔ j = i ∨ listed.getD j false = true := fun j => listed_set (by rw [M.size]; exact hilt)
  -- what a step leaves
  have next : ∀ (v' : Value) ρ' F' w', Grow V ρ F w ρ' F' w' (fun id => ∃ v news ob, p i = some (v, news) ∧ look news id = some ob) → ARel ρ' F' w' (S m).h v' (pval (p i)) → dstOk (S i) o.dst = true →
      (∀ id ob b N v news, p i = some (v, news) → look news id = some ob → ρ' id = some (b, N) → ORel ρ' F' w' (S m).h b N ob) →
      K (a.put o.dst v') w' := by
    intro v' ρ' F' w' g hv hd hob
    refine hK _ _ ⟨by simpa using M.size, fun j oj hj hoj e he hb => (hset _).2 ?_, fun j hj => ?_, ρ', F', g.ok, ?_, ?_, fun t => ?_, fun id b N hid ob hl => ?_, fun id x hid => ?_, ⟨fun b hb => g.set b (h1.1 b hb), h1.2⟩, fun b hb => (g.new b hb).elim (h2 b) (fun h => .inr (Nat.le_trans hk.size h)), hk.trans (Keep.of_below g.below ok.keep)⟩
    · rcases (hset j).1 hj with rfl | hj
      · rw [ho] at hoj; cases hoj; exact .inr (hedges e he hb)
      · exact .inr (M.closed j oj hj hoj e he hb)
    · rcases (hset j).1 hj with rfl | hj
      · exact him
      · exact M.pre j hj
    · cases o.dst <;> simp [Act.put, hsz]
    · cases o.dst <;> simpa [Act.put] using hdf
    · -- the slots
      by_cases hdt : o.dst = some t
      · left
        refine ⟨i, o, (hset i).2 (.inl rfl), ho, hdt, ?_⟩
        have hlt : t < a.tmps.size := by rw [hdt] at hd; rw [hsz, ← hn]; simpa [dstOk] using hd
        rw [hdt]
        simp only [Act.put]
        rw [getD_set _ _ _ _ hlt, if_pos rfl]
        exact hv
      · have hsame : (a.put o.dst v').tmps.getD t undef = a.tmps.getD t undef := by
          cases hod : o.dst with
          | none => rfl
          | some d =>
            have hlt : d < a.tmps.size := by rw [hod] at hd; rw [hsz, ← hn]; simpa [dstOk] using hd
            simp only [Act.put]
            rw [getD_set _ _ _ _ hlt, if_neg (fun e => hdt (by rw [hod, e]))]
        rw [hsame]
        rcases htm t with ⟨i', o', hi', ho', hd', hr⟩ | ⟨hno, hr⟩
        · exact .inl ⟨i', o', (hset i').2 (.inr hi'), ho', hd', g.arel ok (Sub.refl _) hr⟩
        · refine .inr ⟨fun j oj hj hoj => ?_, g.arel ok (Sub.refl _) hr⟩
          rcases (hset j).1 hj with rfl | hj
          · rw [ho] at hoj; cases hoj; exact hdt
          · exact hno j oj hj hoj
    · rcases g.fresh id _ hid with hold | ⟨v, news, ob', hp, hob'⟩
      · exact g.orel ok (Sub.refl _) hold (hh id b N hold ob hl)
      · have := T.sub_news him hp id ob' hob'
        rw [hl] at this; cases this
        exact hob id _ b N v news hp hob' hid
    · rcases g.fresh id x hid with hold | ⟨v, news, ob', hp, hob'⟩
      · rcases hdom id x hold with h | ⟨j, v, news, ob, hj, hp, hob⟩
        · exact .inl h
        · exact .inr ⟨j, v, news, ob, (hset j).2 (.inr hj), hp, hob⟩
      · exact .inr ⟨i, v, news, ob', (hset i).2 (.inl rfl), hp, hob'⟩
  have hpk := T.ok i o him ho
  refine ⟨o, ho, ?_⟩
  cases hp : p i with
  | none =>
    rw [hp] at hpk
    obtain ⟨j, want, d, hg, hd, hget, hdst⟩ := hpk
    have hs := hlooks d (guard_looks hg hd)
    rw [hget] at hs
    have hw : Region.wanted o (yielded ops a.tmps) = false := by
      simp only [Region.wanted, hg, yielded, hd, Option.bind_some, bool_slot hs]
      cases want <;> rfl
    exact .inr ⟨hw, next undef ρ F w (Grow.refl ok) (by rw [hp]; trivial) hdst (fun id ob b N v news h => by rw [hp] at h; cases h)⟩
  | some x =>
    obtain ⟨v, news⟩ := x
    rw [hp] at hpk
    obtain ⟨hg, hst, hdst, hfr⟩ := hpk
    have hw : Region.wanted o (yielded ops a.tmps) = true := by
      cases hgd : o.guard with
      | none => simp [Region.wanted, hgd]
      | some x =>
        obtain ⟨j, want⟩ := x
        obtain ⟨d, hd, hget⟩ := hg j want hgd
        have hs := hlooks d (guard_looks hgd hd)
        rw [hget] at hs
        simp only [Region.wanted, hgd, yielded, hd, Option.bind_some, bool_slot hs]
        cases want <;> rfl
    refine .inl ⟨hw, ?_⟩
    refine hst V ρ F (S m).h a w _ Q ok (T.sub m (Nat.le_of_lt him) (Nat.le_refl _)) (T.sub_news him hp) (fun t ht => hlooks t (tmp_looks ht)) hh (fun id ob hl => ?_) (fun v' ρ' F' w' g hv hob => ?_)
    · cases hid : ρ id with
      | none => rfl
      | some x =>
        rcases hdom id x hid with ⟨ob', hob'⟩ | ⟨j, v', news', ob', hj, hpj, hob'⟩
        · have := T.sub i (Nat.zero_le _) (Nat.le_of_lt him) id ob' hob'
          rw [hfr id ob hl] at this; cases this
        · have := T.disj him (M.pre j hj) hp hpj hl hob'
          subst this
          exact absurd hj hun'
    · refine next v' ρ' F' w' ⟨g.below, g.ok, g.map, fun id x h => (g.fresh id x h).imp_right (fun ⟨ob, h⟩ => ⟨v, news, ob, hp, h⟩), g.set, g.new⟩ (by rw [hp]; exact hv) hdst (fun id ob b N v1 news1 h hl hid => ?_)
      rw [hp] at h; cases h
      exact hob id ob b N hl hid

theorem extract_yields {P : Program} {o : Oper} {x : Operand} {k : Nat} {a : Act} {w : World} {K : Act → World → Prop} (ho : o.op = .extract x k) (h : o.wp P a w K (fun _ _ _ => False)) :
    ∃ v, (∀ w', (execOp a.eval o).run P w' = .ok (.value v) w') ∧ K (a.put o.dst v) w := by
  unfold Oper.wp at h
  have e : ∀ w', (execOp a.eval o).run P w' = ((do return Next.value (← Instr.extract (a.eval x) k)) : Sem Next).run P w' := fun w' => by simp [execOp, ho]
  rw [e] at h
  simp only [e]
  unfold Instr.extract at h ⊢
  cases hv : a.eval x with
  | tuple vs =>
    rw [hv] at h
    simp only at h ⊢
    cases hk : vs[k]? with
    | some v =>
      rw [hk] at h
      exact ⟨v, fun w' => by simp, by simpa [Oper.upon] using h⟩
    | none =>
      rw [hk] at h
      simp [stuck, Oper.upon] at h
  | _ =>
    rw [hv] at h
    simp [stuck, Oper.upon] at h

theorem any_prefix {P : Program} {ops : Array Oper} {Q : Exit → Act → World → Prop} {m : Nat} {S : Nat → St} {p : Nat → Option (AV × Heap)} {V F0 : Nat → Prop} {w0 : World} (T : Text P ops m S p) (D : DrawOk ops m)
    (hQp : ∀ c a w, ¬ Q (.panic c) a w) (hend : ∀ a w, Holds' V F0 w0 (S m) a w → wpOps P ops Q (List.range' m (ops.size - m)) a w) :
    ∀ (fuel : Nat) (listed : Array Bool) (a : Act) (w : World), left ops.size listed ≤ fuel → Mid ops m S p V F0 w0 listed a w → wpAny P .any ops Q fuel listed a w := by
  intro fuel
  -- all that only read have come up
  have fin : ∀ (fuel : Nat) (listed : Array Bool) (a : Act) (w : World), left ops.size listed ≤ fuel → Mid ops m S p V F0 w0 listed a w → (∀ i, i < m → listed.getD i false = true) → wpAny P .any ops Q fuel listed a w := by
    intro fuel listed a w hf M hall
    refine any_tail D (ops.size - m) m listed a w fuel (by have := T.le; omega) (Nat.le_refl _) ?_ M.size (fun i => ⟨M.pre i, hall i⟩) (hend a w (M.done T D hall))
    refine Nat.le_trans ?_ hf
    have : ((List.range' m (ops.size - m)).filter fun i => !listed.getD i false).length ≤ left ops.size listed := by
      unfold left
      have hsub : List.Sublist (List.range' m (ops.size - m)) (List.range ops.size) := by
        have h := T.le
        rw [List.range_eq_range', show ops.size = m + (ops.size - m) by omega, ← List.range'_append_1, Nat.zero_add, show m + (ops.size - m) - m = ops.size - m by omega]
        exact List.sublist_append_right _ _
      exact (hsub.filter _).length_le
    have e : ((List.range' m (ops.size - m)).filter fun i => !listed.getD i false) = List.range' m (ops.size - m) := by
      rw [List.filter_eq_self]
      intro i hi
      rw [List.mem_range'_1] at hi
      cases hb : listed.getD i false with
      | false => rfl
      | true => have := M.pre i hb; omega
    rw [e, List.length_range'] at this
    exact this
  induction fuel with
  | zero =>
    intro listed a w hf M
    refine fin 0 listed a w hf M fun i hi => ?_
    cases hb : listed.getD i false with
    | true => rfl
    | false =>
      have hlt := left_set (n := ops.size) (by have := T.le; omega) M.size (by simp [hb] : ¬ listed.getD i false = true)
      omega
  | succ fuel ih =>
    intro listed a w hf M
    by_cases hall : ∀ i, i < m → listed.getD i false = true
    · exact fin _ listed a w hf M hall
    by_cases hlr : ∃ l, isLate ops m l = true ∧ l ∈ Region.ready .any ops listed
    · obtain ⟨l, hlate, hl⟩ := hlr
      obtain ⟨ol, t, k, hol, hlm, hop, hg, _, hap⟩ := D.late l hlate
      obtain ⟨o, ho, h⟩ := Mid.step T D M hl hlm (Q := fun _ _ _ => False) (K := fun a' w' => Mid ops m S p V F0 w0 (listed.setIfInBounds l true) a' w') (fun _ _ h => h)
      rw [hol] at ho; cases ho
      have hw : Region.wanted ol (yielded ops a.tmps) = true := by simp [Region.wanted, hg]
      rcases h with ⟨_, h⟩ | ⟨h, _⟩
      · obtain ⟨v, hv, hM⟩ := extract_yields hop h
        have hun := (unlisted (by rw [M.size]; exact ready_lt hl)).1 (mem_ready.1 hl).1
        exact wpAny_first hol D.nosel (fun c a w h => absurd h (hQp c _ w)) fuel listed a w (fun j oj hoj hne hju hno => by
            rcases hap j oj hoj hne with ⟨e, he, hb, hon⟩ | ⟨e, he, hb, hon⟩ | h
            · exact absurd hon (hno e he hb)
            · obtain ⟨_, o2, ho2, hed⟩ := mem_ready.1 hl
              rw [hol] at ho2; cases ho2
              have := hed e he hb
              rw [hon] at this
              rw [Array.getD_eq_getD_getElem?] at this hju
              cases hx : listed[j]? with
              | none => rw [hx] at this; simp at this
              | some b => rw [hx] at this hju; simp at this hju; rw [this] at hju; cases hju
            · exact h) hl (.inl ⟨hw, hv⟩)
          (ih _ _ _ (by have := left_set (n := ops.size) (ready_lt hl) M.size hun; omega) hM)
      · rw [hw] at h; cases h
    · refine ⟨fun hnil => ?_, fun i hi => ?_⟩
      · -- the first that has not come up is ready
        exfalso
        have key : ∀ n, n ≤ m → ∀ i, i < n → listed.getD i false = true := by
          intro n
          induction n with
          | zero => intro _ i hi; omega
          | succ n ihn =>
            intro hn i hi
            by_cases e : i < n
            · exact ihn (by omega) i e
            · have : i = n := by omega
              subst this
              cases hb : listed.getD i false with
              | true => rfl
              | false =>
                obtain ⟨o, ho⟩ := T.op (show i < m by omega)
                have hm : i ∈ Region.ready .any ops listed := mem_ready.2 ⟨(unlisted (by rw [M.size]; have := T.le; omega)).2 (by simp [hb]), o, ho, fun e he hbd => ihn (by omega) _ (D.acyclic i o ho e he hbd)⟩
                rw [hnil] at hm; cases hm
        exact hall (key m (Nat.le_refl _))
      · have hilt := ready_lt hi
        obtain ⟨hun, o, ho, hedges⟩ := mem_ready.1 hi
        have hun' := (unlisted (by rw [M.size]; exact hilt)).1 hun
        have him : i < m := by
          rcases Nat.lt_or_ge i m with h | h
          · exact h
          · exfalso
            have hn : ∀ j, j < m → isLate ops m j = false → listed.getD j false = true := by
              intro j hj hnl
              rcases D.tail i o j h ho (by omega) with hlt | ⟨e, he, hb, hon⟩
              · rw [hnl] at hlt; cases hlt
              · have := hedges e he hb
                rwa [hon] at this
            apply hall
            intro j hj
            cases hlj : isLate ops m j with
            | false => exact hn j hj hlj
            | true =>
              cases hb : listed.getD j false with
              | true => rfl
              | false =>
                exfalso
                obtain ⟨ol, t, k, hol, _, _, _, hdep, _⟩ := D.late j hlj
                refine hlr ⟨j, hlj, mem_ready.2 ⟨(unlisted (by rw [M.size]; have := T.le; omega)).2 (by simp [hb]), ol, hol, fun e he hbd => hn _ ?_ (hdep e he hbd)⟩⟩
                have := D.acyclic j ol hol e he hbd
                omega
        obtain ⟨o', ho', h⟩ := Mid.step T D M hi him (Q := Q) (K := wpAny P .any ops Q fuel (listed.setIfInBounds i true)) (fun a' w' M' => ih _ _ _ (by have := left_set (n := ops.size) hilt M.size hun'; omega) M')
        unfold wpOp
        rw [ho']
        simp only
        rcases h with ⟨hw, h⟩ | ⟨hw, h⟩
        · rw [hw]; simp only [if_true]; exact .inl h
        · rw [hw]; simp only [Bool.false_eq_true, if_false]; exact h

end Go.Ab
