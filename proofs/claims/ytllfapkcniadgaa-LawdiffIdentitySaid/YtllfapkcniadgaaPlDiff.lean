/- Plain laws of lawdiff: laws without changes, changes in the other direction, one changed rule. -/
import Derived.Test.YtllfapkcniadgaaAbDiff
import Derived.Test.YtllfapkcniadgaaPlVal
set_option linter.unusedVariables false
set_option linter.unusedSimpArgs false
namespace Go.Ab

/-! ### Lists without repetition -/
theorem nodup_sub {α : Type} [DecidableEq α] : ∀ {l m : List α}, l.Nodup → (∀ x ∈ l, x ∈ m) → l.length ≤ m.length
  | [], m, _, _ => Nat.zero_le _
  | x :: l, m, h, hs => by
    obtain ⟨h1, h2⟩ := List.nodup_cons.1 h
    have hx := hs x (by simp)
    have := nodup_sub (m := m.erase x) h2 fun y hy => (List.mem_erase_of_ne fun e => h1 (by subst e; exact hy)).2 (hs y (by simp [hy]))
    rw [List.length_erase_of_mem hx] at this
    have := List.length_pos_of_mem hx
    simp only [List.length_cons]; omega
theorem nodup_map_of {α β : Type} {f : α → β} {l : List α} (h : ∀ (j k : Nat) (e r : α), j < k → l[j]? = some e → l[k]? = some r → f e ≠ f r) : (l.map f).Nodup := by
  rw [List.Nodup, List.pairwise_iff_getElem]
  intro i j hi hj hij
  simp only [List.length_map] at hi hj
  simp only [List.getElem_map]
  exact h i j _ _ hij (List.getElem?_eq_getElem hi) (List.getElem?_eq_getElem hj)

/-! ### Counterparts -/
theorem scopeAt_at {l : MLaw} (h : Apart l) {i : Nat} {s : MScope} (hi : l.scopes[i]? = some s) : scopeAt l.scopes s.name = some i := by
  obtain ⟨hl, rfl⟩ := List.getElem?_eq_some_iff.1 hi
  exact find_some hl (by simp) fun j hj x hx => by simpa using (h i _ hi).1 j x hj hx
theorem ruleAt_at {s : MScope} (h : ApartS s) {k : Nat} {r : MRule} (hk : s.rules[k]? = some r) : ruleAt s.rules r.name = some k := by
  obtain ⟨hl, rfl⟩ := List.getElem?_eq_some_iff.1 hk
  exact find_some hl (by simp) fun j hj x hx => by simpa using h.rules j k x _ hj hx hk
theorem cpart_of {l : MLaw} {sn rn : BA} {i k : Nat} {t : MScope} (h1 : scopeAt l.scopes sn = some i) (h2 : l.scopes[i]? = some t) (h3 : ruleAt t.rules rn = some k) : cpart l sn rn = some (t, k) := by
  unfold cpart; rw [h1]; simp only [h2, h3]
theorem cpart_at {l : MLaw} (h : Apart l) {i k : Nat} {s : MScope} {r : MRule} (hi : l.scopes[i]? = some s) (hk : s.rules[k]? = some r) : cpart l s.name r.name = some (s, k) :=
  cpart_of (scopeAt_at h hi) hi (ruleAt_at (h i s hi).2 hk)
theorem scopeAt_some {l : List MScope} {n : BA} {i : Nat} (h : scopeAt l n = some i) : ∃ s, l[i]? = some s ∧ s.name = n := by
  obtain ⟨h1, h2⟩ := find_lt h
  exact ⟨_, List.getElem?_eq_getElem h1, by simpa using h2 h1⟩
theorem ruleAt_some {l : List MRule} {n : BA} {i : Nat} (h : ruleAt l n = some i) : ∃ s, l[i]? = some s ∧ s.name = n := by
  obtain ⟨h1, h2⟩ := find_lt h
  exact ⟨_, List.getElem?_eq_getElem h1, by simpa using h2 h1⟩
theorem cpart_inv {l : MLaw} {sn rn : BA} {t : MScope} {k : Nat} (h : cpart l sn rn = some (t, k)) : ∃ (i : Nat) (r : MRule), l.scopes[i]? = some t ∧ t.name = sn ∧ t.rules[k]? = some r ∧ r.name = rn := by
  unfold cpart at h
  split at h
  · cases h
  · rename_i i hi
    obtain ⟨s, hs, hn⟩ := scopeAt_some hi
    rw [hs] at h
    simp only at h
    split at h
    · cases h
    · rename_i j hj
      cases h
      obtain ⟨r, hr, hn2⟩ := ruleAt_some hj
      exact ⟨i, r, hs, hn, hr, hn2⟩

theorem ruleSame_refl (s : MScope) (x : MRule) : ruleSame s x s x = true := by simp [ruleSame]
theorem ruleSame_comm (s : MScope) (x : MRule) (t : MScope) (y : MRule) : ruleSame s x t y = ruleSame t y s x := by
  rw [Bool.eq_iff_iff]
  simp only [ruleSame, Bool.and_eq_true, decide_eq_true_eq, beq_iff_eq]
  constructor <;> (rintro ⟨a, b, c, ⟨d, e⟩, f, g, h⟩; exact ⟨a.symm, b.symm, c.symm, ⟨d.symm, e.symm⟩, f.symm, g.symm, h.symm⟩)

/-! ### No changes -/
theorem chg_nil {a b : MLaw} : chg a b = [] ↔ (∀ s ∈ a.scopes, ∀ r ∈ s.rules, ch1 b s r = []) ∧ ∀ s ∈ b.scopes, ∀ r ∈ s.rules, ch2 a s r = [] := by
  simp only [chg, List.append_eq_nil_iff, List.flatMap_eq_nil_iff]
theorem chg_self {a : MLaw} (h : Apart a) : chg a a = [] := by
  rw [chg_nil]
  constructor
  · intro s hs r hr
    obtain ⟨i, hi⟩ := List.getElem?_of_mem hs
    obtain ⟨k, hk⟩ := List.getElem?_of_mem hr
    unfold ch1
    rw [cpart_at h hi hk]
    simp only [hk, ruleSame_refl, cond_true]
  · intro s hs r hr
    obtain ⟨i, hi⟩ := List.getElem?_of_mem hs
    obtain ⟨k, hk⟩ := List.getElem?_of_mem hr
    unfold ch2
    rw [cpart_at h hi hk]

theorem ch1_nil {b : MLaw} {s : MScope} {r : MRule} (h : ch1 b s r = []) : ∃ (i : Nat) (t : MScope) (k : Nat) (x : MRule), b.scopes[i]? = some t ∧ t.name = s.name ∧ t.rules[k]? = some x ∧ x.name = r.name ∧ cpart b s.name r.name = some (t, k) ∧ ruleSame s r t x = true := by
  unfold ch1 at h
  split at h
  · cases h
  · rename_i t k hc
    obtain ⟨i, x, h1, h2, h3, h4⟩ := cpart_inv hc
    rw [h3] at h
    simp only at h
    refine ⟨i, t, k, x, h1, h2, h3, h4, hc, ?_⟩
    cases q : ruleSame s r t x with
    | true => rfl
    | false => rw [q] at h; cases h
theorem ch2_nil {a : MLaw} {s : MScope} {r : MRule} (h : ch2 a s r = []) : ∃ (i : Nat) (t : MScope) (k : Nat) (x : MRule), a.scopes[i]? = some t ∧ t.name = s.name ∧ t.rules[k]? = some x ∧ x.name = r.name := by
  unfold ch2 at h
  split at h
  · cases h
  · rename_i q hc
    obtain ⟨t, k⟩ := q
    obtain ⟨i, x, h1, h2, h3, h4⟩ := cpart_inv hc
    exact ⟨i, t, k, x, h1, h2, h3, h4⟩

theorem scope_uniq {l : MLaw} (h : Apart l) {i j : Nat} {s t : MScope} (hi : l.scopes[i]? = some s) (hj : l.scopes[j]? = some t) (e : s.name = t.name) : i = j ∧ s = t := by
  have : i = j := by
    have a := scopeAt_at h hi
    have b := scopeAt_at h hj
    rw [e, b] at a
    exact (Option.some.inj a).symm
  subst this
  rw [hi] at hj
  exact ⟨rfl, Option.some.inj hj⟩

/-- Two valid laws of one interface, without changes: each rule of a scope stands in the other law's scope at the same place, alike. -/
theorem same_rules {a b : MLaw} (ha : Apart a) (hb : Apart b) (hbare : bare a = bare b) (hc : chg a b = []) {i : Nat} {s : MScope} (hi : a.scopes[i]? = some s) :
    ∃ t, b.scopes[i]? = some t ∧ t.name = s.name ∧ t.defs = s.defs ∧ s.rules.length = t.rules.length ∧ ∀ (k : Nat) (r : MRule), s.rules[k]? = some r → ∃ (n : Nat) (x : MRule), cpart b s.name r.name = some (t, n) ∧ t.rules[n]? = some x ∧ ruleSame s r t x = true := by
  rw [chg_nil] at hc
  rw [bare_iff] at hbare
  have hsc := hbare.2.2
  have h1 : (a.scopes.map bareS)[i]? = some (bareS s) := by rw [List.getElem?_map, hi]; rfl
  rw [hsc, List.getElem?_map] at h1
  obtain ⟨t, ht, he⟩ := Option.map_eq_some_iff.1 h1
  obtain ⟨e1, e2, e3, e4⟩ := bareS_iff.1 he
  have key : ∀ (k : Nat) (r : MRule), s.rules[k]? = some r → ∃ (n : Nat) (x : MRule), cpart b s.name r.name = some (t, n) ∧ t.rules[n]? = some x ∧ ruleSame s r t x = true ∧ x.name = r.name := by
    intro k r hr
    obtain ⟨j, t', n, x, g1, g2, g3, g4, g5, g6⟩ := ch1_nil (hc.1 s (List.mem_of_getElem? hi) r (List.mem_of_getElem? hr))
    obtain ⟨_, rfl⟩ := scope_uniq hb g1 ht (by rw [g2, e1])
    exact ⟨n, x, g5, g3, g6, g4⟩
  refine ⟨t, ht, e1, e4, Nat.le_antisymm ?_ ?_, fun k r hr => ?_⟩
  · have := nodup_sub (nodup_map_of (f := MRule.name) (ha i s hi).2.rules) (m := t.rules.map MRule.name) fun x hx => by
      obtain ⟨r, hr, rfl⟩ := List.mem_map.1 hx
      obtain ⟨k, hk⟩ := List.getElem?_of_mem hr
      obtain ⟨n, x, _, g3, _, g4⟩ := key k r hk
      exact List.mem_map.2 ⟨x, List.mem_of_getElem? g3, g4⟩
    simpa using this
  · have := nodup_sub (nodup_map_of (f := MRule.name) (hb i t ht).2.rules) (m := s.rules.map MRule.name) fun x hx => by
      obtain ⟨r, hr, rfl⟩ := List.mem_map.1 hx
      obtain ⟨j, s', k, x, g1, g2, g3, g4⟩ := ch2_nil (hc.2 t (List.mem_of_getElem? ht) r hr)
      obtain ⟨_, rfl⟩ := scope_uniq ha g1 hi (by rw [g2, e1])
      exact List.mem_map.2 ⟨x, List.mem_of_getElem? g3, g4⟩
    simpa using this
  · obtain ⟨n, x, g5, g3, g6, _⟩ := key k r hr
    exact ⟨n, x, g5, g3, g6⟩

/-- Alike rules of two valid scopes with the same definitions are of the same definition. -/
theorem same_df {s t : MScope} {x y : MRule} {k n : Nat} (hs : ApartS s) (ht : ApartS t) (hd : t.defs = s.defs) (hx : s.rules[k]? = some x) (hy : t.rules[n]? = some y) (h : ruleSame s x t y = true) : y.df = x.df := by
  simp only [ruleSame, Bool.and_eq_true, decide_eq_true_eq] at h
  have h := h.1
  obtain ⟨x0, x1⟩ := hs.df k x hx
  obtain ⟨y0, y1⟩ := ht.df n y hy
  rw [hd] at y1
  rw [defName_in x0 (by omega), defName_in y0 (by rw [hd]; omega)] at h
  rcases Nat.lt_trichotomy x.df.toNat y.df.toNat with q | q | q
  · exact absurd (by rw [h]; simp [hd]) (hs.defs x.df.toNat y.df.toNat _ _ q (List.getElem?_eq_getElem (by omega)) (List.getElem?_eq_getElem (by omega)))
  · omega
  · exact absurd (by rw [h]; simp [hd]) (hs.defs y.df.toNat x.df.toNat _ _ q (List.getElem?_eq_getElem (by omega)) (List.getElem?_eq_getElem (by omega)))
end Go.Ab

/- Plain laws of lawdiff: changes in the other direction, one changed rule. -/
set_option linter.unusedVariables false
set_option linter.unusedSimpArgs false
namespace Go.Ab

/-! ### The other direction -/
def flipC (c : MChange) : MChange := ⟨c.scope, c.rule, bif c.kind == 1 then 2 else bif c.kind == 2 then 1 else c.kind⟩
theorem mem_chg {a b : MLaw} {c : MChange} : c ∈ chg a b ↔ (∃ s ∈ a.scopes, ∃ r ∈ s.rules, c ∈ ch1 b s r) ∨ ∃ s ∈ b.scopes, ∃ r ∈ s.rules, c ∈ ch2 a s r := by
  simp only [chg, List.mem_append, List.mem_flatMap]
theorem ch1_mem {b : MLaw} {s : MScope} {r : MRule} {c : MChange} (h : c ∈ ch1 b s r) : (cpart b s.name r.name = none ∧ c = ⟨s.name, r.name, 1⟩) ∨ ∃ (t : MScope) (k : Nat) (x : MRule), cpart b s.name r.name = some (t, k) ∧ t.rules[k]? = some x ∧ ruleSame s r t x = false ∧ c = ⟨s.name, r.name, 3⟩ := by
  unfold ch1 at h
  split at h
  · rename_i hc; exact .inl ⟨hc, by simpa using h⟩
  · rename_i t k hc
    split at h
    · cases h
    · rename_i x hx
      cases q : ruleSame s r t x with
      | true => rw [q] at h; cases h
      | false => rw [q] at h; exact .inr ⟨t, k, x, hc, hx, q, by simpa using h⟩
theorem ch2_mem {a : MLaw} {s : MScope} {r : MRule} {c : MChange} (h : c ∈ ch2 a s r) : cpart a s.name r.name = none ∧ c = ⟨s.name, r.name, 2⟩ := by
  unfold ch2 at h
  split at h
  · rename_i hc; exact ⟨hc, by simpa using h⟩
  · cases h
theorem flip_mem {a b : MLaw} (ha : Apart a) {c : MChange} (h : c ∈ chg a b) : flipC c ∈ chg b a := by
  rw [mem_chg] at h ⊢
  rcases h with ⟨s, hs, r, hr, h⟩ | ⟨s, hs, r, hr, h⟩
  · rcases ch1_mem h with ⟨hc, rfl⟩ | ⟨t, k, x, hc, hx, q, rfl⟩
    · right
      refine ⟨s, hs, r, hr, ?_⟩
      unfold ch2; rw [hc]; simp [flipC]
    · left
      obtain ⟨i, x', h1, h2, h3, h4⟩ := cpart_inv hc
      rw [hx] at h3; cases h3
      refine ⟨t, List.mem_of_getElem? h1, x, List.mem_of_getElem? hx, ?_⟩
      obtain ⟨j, hj⟩ := List.getElem?_of_mem hs
      obtain ⟨n, hn⟩ := List.getElem?_of_mem hr
      have hca := cpart_at ha hj hn
      unfold ch1
      rw [h2, h4, hca]
      simp only [hn]
      rw [ruleSame_comm, q]
      simp [flipC]
  · obtain ⟨hc, rfl⟩ := ch2_mem h
    left
    refine ⟨s, hs, r, hr, ?_⟩
    unfold ch1; rw [hc]; simp [flipC]

theorem nodup_flat {α β : Type} {f : α → List β} {l : List α} (h1 : ∀ x ∈ l, (f x).Nodup) (h2 : ∀ (j k : Nat) (e r : α), j < k → l[j]? = some e → l[k]? = some r → ∀ x ∈ f e, ∀ y ∈ f r, x ≠ y) : (l.flatMap f).Nodup := by
  rw [List.Nodup, List.pairwise_flatMap]
  refine ⟨h1, ?_⟩
  rw [List.pairwise_iff_getElem]
  intro i j hi hj hij
  exact h2 i j _ _ hij (List.getElem?_eq_getElem hi) (List.getElem?_eq_getElem hj)
theorem nodup_short {α : Type} {l : List α} (h : l.length ≤ 1) : l.Nodup := by
  match l, h with
  | [], _ => simp
  | [x], _ => simp
theorem nodup_part {l : MLaw} (h : Apart l) {g : MScope → MRule → List MChange} (hg : ∀ s r, (g s r).length ≤ 1) (hn : ∀ s r c, c ∈ g s r → c.scope = s.name ∧ c.rule = r.name) : (l.scopes.flatMap fun s => s.rules.flatMap (g s)).Nodup := by
  apply nodup_flat
  · intro s hs
    obtain ⟨i, hi⟩ := List.getElem?_of_mem hs
    apply nodup_flat
    · exact fun r hr => nodup_short (hg s r)
    · intro j k e r hj he hr x hx y hy hxy
      subst hxy
      exact (h i s hi).2.rules j k e r hj he hr ((hn s e x hx).2.symm.trans (hn s r x hy).2)
  · intro j k e r hj he hr x hx y hy hxy
    subst hxy
    obtain ⟨r1, _, h1⟩ := List.mem_flatMap.1 hx
    obtain ⟨r2, _, h2⟩ := List.mem_flatMap.1 hy
    exact (h k r hr).1 j e hj he ((hn e r1 x h1).1.symm.trans (hn r r2 x h2).1)
theorem chg_nodup {a b : MLaw} (ha : Apart a) (hb : Apart b) : (chg a b).Nodup := by
  unfold chg
  rw [List.nodup_append]
  refine ⟨nodup_part ha (ch1_len b) (fun s r c h => ?_), nodup_part hb (ch2_len a) (fun s r c h => ?_), fun x hx y hy e => ?_⟩
  · rcases ch1_mem h with ⟨_, rfl⟩ | ⟨_, _, _, _, _, _, rfl⟩ <;> exact ⟨rfl, rfl⟩
  · obtain ⟨_, rfl⟩ := ch2_mem h; exact ⟨rfl, rfl⟩
  · subst e
    obtain ⟨s, _, h1⟩ := List.mem_flatMap.1 hx
    obtain ⟨r, _, h1⟩ := List.mem_flatMap.1 h1
    obtain ⟨s2, _, h2⟩ := List.mem_flatMap.1 hy
    obtain ⟨r2, _, h2⟩ := List.mem_flatMap.1 h2
    have k2 := congrArg MChange.kind (ch2_mem h2).2
    rcases ch1_mem h1 with ⟨_, e⟩ | ⟨_, _, _, _, _, _, e⟩
    · have := congrArg MChange.kind e; simp only at this k2; omega
    · have := congrArg MChange.kind e; simp only at this k2; omega
theorem flip_flip (c : MChange) (h : c.kind = 1 ∨ c.kind = 2 ∨ c.kind = 3) : flipC (flipC c) = c := by
  obtain ⟨s, r, k⟩ := c
  simp only at h
  rcases h with rfl | rfl | rfl <;> rfl
theorem chg_kind {a b : MLaw} {c : MChange} (h : c ∈ chg a b) : c.kind = 1 ∨ c.kind = 2 ∨ c.kind = 3 := by
  rw [mem_chg] at h
  rcases h with ⟨s, hs, r, hr, h⟩ | ⟨s, hs, r, hr, h⟩
  · rcases ch1_mem h with ⟨_, rfl⟩ | ⟨_, _, _, _, _, _, rfl⟩ <;> simp
  · obtain ⟨_, rfl⟩ := ch2_mem h; simp
theorem chg_len_le {a b : MLaw} (ha : Apart a) (hb : Apart b) : (chg a b).length ≤ (chg b a).length := by
  have := nodup_sub (l := (chg a b).map flipC) (m := chg b a) ?_ ?_
  · simpa using this
  · apply nodup_map_of
    intro j k e r hj he hr heq
    have h1 := congrArg flipC heq
    rw [flip_flip e (chg_kind (List.mem_of_getElem? he)), flip_flip r (chg_kind (List.mem_of_getElem? hr))] at h1
    subst h1
    have hn := chg_nodup ha hb
    rw [List.Nodup, List.pairwise_iff_getElem] at hn
    obtain ⟨g1, g2⟩ := List.getElem?_eq_some_iff.1 he
    obtain ⟨g3, g4⟩ := List.getElem?_eq_some_iff.1 hr
    exact hn j k g1 g3 hj (g2.trans g4.symm)
  · intro x hx
    obtain ⟨c, hc, rfl⟩ := List.mem_map.1 hx
    exact flip_mem ha hc
theorem chg_len {a b : MLaw} (ha : Apart a) (hb : Apart b) : (chg a b).length = (chg b a).length := Nat.le_antisymm (chg_len_le ha hb) (chg_len_le hb ha)

/-! ### One changed rule -/
theorem flat_only {α β : Type} {f : α → List β} {l : List α} {i : Nat} {x : α} (hi : l[i]? = some x) (h : ∀ (j : Nat) (y : α), l[j]? = some y → j ≠ i → f y = []) : l.flatMap f = f x := by
  obtain ⟨hl, rfl⟩ := List.getElem?_eq_some_iff.1 hi
  have e : l = l.take i ++ l[i] :: l.drop (i + 1) := by rw [← List.drop_eq_getElem_cons hl, List.take_append_drop]
  have h1 : (l.take i).flatMap f = [] := by
    rw [List.flatMap_eq_nil_iff]
    intro y hy
    obtain ⟨j, hj⟩ := List.getElem?_of_mem hy
    have hji : j < i := by have := (List.getElem?_eq_some_iff.1 hj).1; simp at this; omega
    rw [List.getElem?_take_of_lt hji] at hj
    exact h j y hj (by omega)
  have h2 : (l.drop (i + 1)).flatMap f = [] := by
    rw [List.flatMap_eq_nil_iff]
    intro y hy
    obtain ⟨j, hj⟩ := List.getElem?_of_mem hy
    rw [List.getElem?_drop] at hj
    exact h _ y hj (by omega)
  conv => lhs; rw [e]
  rw [List.flatMap_append, List.flatMap_cons, h1, h2, List.nil_append, List.append_nil]
theorem map_set_same {α β : Type} {f : α → β} {l : List α} {i : Nat} {x y : α} (hi : l[i]? = some x) (h : f y = f x) : (l.set i y).map f = l.map f := by
  apply List.ext_getElem?
  intro j
  rw [List.getElem?_map, List.getElem?_map]
  by_cases hj : i = j
  · subst hj
    have := (List.getElem?_eq_some_iff.1 hi).1
    rw [List.getElem?_set_self this, hi]
    simp [h]
  · rw [List.getElem?_set_ne hj]
theorem find_names {α : Type} {f : α → BA} {l m : List α} (h : l.map f = m.map f) (n : BA) : (l.findIdx? fun s => decide (f s = n)) = m.findIdx? fun s => decide (f s = n) := by
  have e : ∀ l : List α, (l.findIdx? fun s => decide (f s = n)) = (l.map f).findIdx? fun s => decide (s = n) := fun l => by rw [List.findIdx?_map]; rfl
  rw [e, e, h]
theorem get_names {α : Type} {f : α → BA} {l m : List α} (h : l.map f = m.map f) (i : Nat) : (l[i]?).map f = (m[i]?).map f := by
  rw [← List.getElem?_map, ← List.getElem?_map, h]

/-- A law with one scope put in anew. -/
def withScope (a : MLaw) (i : Nat) (s : MScope) : MLaw := { a with scopes := a.scopes.set i s }
theorem one_rule {a : MLaw} (ha : Apart a) {i k : Nat} {s : MScope} {r : MRule} (hi : a.scopes[i]? = some s) (hk : s.rules[k]? = some r) (src : BA) :
    chg a (withScope a i { s with rules := s.rules.set k { r with source := src } }) = bif decide (src = r.source) then [] else [⟨s.name, r.name, 3⟩] := by
  have hil := (List.getElem?_eq_some_iff.1 hi).1
  have hkl := (List.getElem?_eq_some_iff.1 hk).1
  have hsn : (a.scopes.set i { s with rules := s.rules.set k { r with source := src } }).map MScope.name = a.scopes.map MScope.name := map_set_same hi rfl
  have hrn : (s.rules.set k { r with source := src }).map MRule.name = s.rules.map MRule.name := map_set_same hk rfl
  have hfs : ∀ n, scopeAt (withScope a i { s with rules := s.rules.set k { r with source := src } }).scopes n = scopeAt a.scopes n := fun n => find_names hsn n
  have hfr : ∀ n, ruleAt (s.rules.set k { r with source := src }) n = ruleAt s.rules n := fun n => find_names hrn n
  have hpn : ∀ p, parentName { s with rules := s.rules.set k { r with source := src } } p = parentName s p := by
    intro p
    have := get_names hrn p.toNat
    unfold parentName
    simp only
    cases decide (p < 0) with
    | true => rfl
    | false =>
      cases h1 : s.rules[p.toNat]? with
      | none => rw [h1] at this; rw [Option.map_eq_none_iff.1 this]
      | some x =>
        rw [h1] at this
        obtain ⟨y, hy, he⟩ := Option.map_eq_some_iff.1 this
        rw [hy]; exact he
  -- a rule of another scope
  have other : ∀ (j : Nat) (s1 : MScope), a.scopes[j]? = some s1 → j ≠ i → ∀ r1 ∈ s1.rules, ch1 (withScope a i { s with rules := s.rules.set k { r with source := src } }) s1 r1 = [] := by
    intro j s1 hj hne r1 hr1
    obtain ⟨n, hn⟩ := List.getElem?_of_mem hr1
    have hcp := cpart_of (l := withScope a i { s with rules := s.rules.set k { r with source := src } }) ((hfs s1.name).trans (scopeAt_at ha hj)) (by show (a.scopes.set i _)[j]? = some s1; rw [List.getElem?_set_ne (fun e => hne e.symm), hj]) (ruleAt_at (ha j s1 hj).2 hn)
    unfold ch1
    rw [hcp]
    simp only [hn, ruleSame_refl, cond_true]
  have same1 : ∀ (n : Nat) (r1 : MRule), s.rules[n]? = some r1 → cpart (withScope a i { s with rules := s.rules.set k { r with source := src } }) s.name r1.name = some ({ s with rules := s.rules.set k { r with source := src } }, n) := by
    intro n r1 hn
    exact cpart_of ((hfs s.name).trans (scopeAt_at ha hi)) (by show (a.scopes.set i _)[i]? = some _; rw [List.getElem?_set_self hil]) ((hfr r1.name).trans (ruleAt_at (ha i s hi).2 hn))
  have h2 : ((withScope a i { s with rules := s.rules.set k { r with source := src } }).scopes.flatMap fun s => s.rules.flatMap (ch2 a s)) = [] := by
    rw [List.flatMap_eq_nil_iff]
    intro t ht
    rw [List.flatMap_eq_nil_iff]
    intro x hx
    obtain ⟨j, hj⟩ := List.getElem?_of_mem ht
    obtain ⟨n, hn⟩ := List.getElem?_of_mem hx
    have hj' : (a.scopes.set i { s with rules := s.rules.set k { r with source := src } })[j]? = some t := hj
    have key : cpart a t.name x.name ≠ none := by
      by_cases e : i = j
      · subst e
        rw [List.getElem?_set_self hil] at hj'
        cases hj'
        have := get_names hrn n
        simp only at hn
        rw [hn] at this
        obtain ⟨y, hy, he⟩ := Option.map_eq_some_iff.1 this.symm
        rw [show x.name = y.name from he.symm]
        have := cpart_at ha hi hy
        simp only at this ⊢
        rw [this]; simp
      · rw [List.getElem?_set_ne e] at hj'
        rw [cpart_at ha hj' hn]; simp
    unfold ch2
    split
    · rename_i h; exact absurd h key
    · rfl
  unfold chg
  rw [h2, List.append_nil, flat_only hi fun j y hj hne => List.flatMap_eq_nil_iff.2 (other j y hj hne), flat_only hk fun n y hn hne => ?_]
  · unfold ch1
    rw [same1 k r hk]
    simp only
    rw [List.getElem?_set_self hkl]
    simp only
    have : ruleSame s r { s with rules := s.rules.set k { r with source := src } } { r with source := src } = decide (src = r.source) := by
      unfold ruleSame
      rw [hpn, show defName { s with rules := s.rules.set k { r with source := src } } r.df = defName s r.df from rfl]
      rw [Bool.eq_iff_iff]
      simp [MRule.fr, MRule.to, eq_comm]
    rw [this]
  · unfold ch1
    rw [same1 n y hn]
    simp only
    rw [List.getElem?_set_ne (fun e => hne e.symm), hn]
    simp only
    have : ruleSame s y { s with rules := s.rules.set k { r with source := src } } y = true := by
      unfold ruleSame
      rw [hpn, show defName { s with rules := s.rules.set k { r with source := src } } y.df = defName s y.df from rfl]
      simp
    rw [this]; rfl
end Go.Ab

/- The models of LawdiffIdentity, LawdiffSymmetry and LawdiffOneRule answer true. -/
set_option linter.unusedVariables false
set_option linter.unusedSimpArgs false
namespace Go.Ab

theorem s_scopeOf {fu : Nat} {l : MLaw} {n : BA} (hf : 200 ≤ fu) (hl : l.scopes.length ≤ 100) : m_ref51_scopeOf fu l n = some (optI (scopeAt l.scopes n)) := by
  apply Ok.eq
  unfold m_ref51_scopeOf
  refine Ok.loop (fun i => i ≤ l.scopes.length ∧ AllTo l.scopes i fun s => decide (s.name = n) = false) (fun i => l.scopes.length - i) (fun m i hi rec => ?_) ⟨Nat.zero_le _, AllTo.zero _ _⟩ (by omega)
  obtain ⟨i1, i3⟩ := hi
  simp only [m_ref51_scopeOf_L1]
  refine Ok.con (fun q => ?_) fun q => Ok.ret ?_
  · have q : i < l.scopes.length := by simpa using q
    refine Ok.ixN q fun e he => ?_
    have hg : l.scopes[i] = e := by rw [List.getElem?_eq_getElem q] at he; exact Option.some.inj he
    refine Ok.con (fun qn => Ok.ret ?_) fun qn => Ok.cnt (by omega) (rec _ ⟨by omega, i3.step q (by rw [hg]; exact qn)⟩ (by omega))
    unfold scopeAt
    rw [find_some q (by rw [hg]; exact qn) i3]; rfl
  · have q : l.scopes.length ≤ i := by simpa using q
    unfold scopeAt
    rw [find_none q i3]; rfl
theorem s_ruleOf {fu : Nat} {s : MScope} {n : BA} (hf : 200 ≤ fu) (hl : s.rules.length ≤ 100) : m_ref51_ruleOf fu s n = some (optI (ruleAt s.rules n)) := by
  apply Ok.eq
  unfold m_ref51_ruleOf
  refine Ok.loop (fun i => i ≤ s.rules.length ∧ AllTo s.rules i fun s => decide (s.name = n) = false) (fun i => s.rules.length - i) (fun m i hi rec => ?_) ⟨Nat.zero_le _, AllTo.zero _ _⟩ (by omega)
  obtain ⟨i1, i3⟩ := hi
  simp only [m_ref51_ruleOf_L1]
  refine Ok.con (fun q => ?_) fun q => Ok.ret ?_
  · have q : i < s.rules.length := by simpa using q
    refine Ok.ixN q fun e he => ?_
    have hg : s.rules[i] = e := by rw [List.getElem?_eq_getElem q] at he; exact Option.some.inj he
    refine Ok.con (fun qn => Ok.ret ?_) fun qn => Ok.cnt (by omega) (rec _ ⟨by omega, i3.step q (by rw [hg]; exact qn)⟩ (by omega))
    unfold ruleAt
    rw [find_some q (by rw [hg]; exact qn) i3]; rfl
  · have q : s.rules.length ≤ i := by simpa using q
    unfold ruleAt
    rw [find_none q i3]; rfl
theorem s_Counterpart {fu : Nat} {l : MLaw} {sn rn : BA} {t : MScope} {k : Nat} (hf : 200 ≤ fu) (hl : SmallLaw l) (h : cpart l sn rn = some (t, k)) : m_ref51_Counterpart fu l sn rn = some (t, nI k, true) := by
  obtain ⟨h1, h2, h3, h4, h5, h6, h7, h8⟩ := hl
  unfold cpart at h
  unfold m_ref51_Counterpart
  rw [s_scopeOf hf (by omega), bd_of]
  split at h
  · cases h
  · rename_i i hi
    obtain ⟨s, hs, _⟩ := scopeAt_some hi
    rw [hs] at h
    simp only at h
    split at h
    · cases h
    · rename_i j hj
      cases h
      have hr := (h8 t (List.mem_of_getElem? hs)).2.2.2.1
      rw [hi]
      have n0 : ∀ n : Nat, decide (optI (some n) < 0) = false := fun n => decide_eq_false (by show ¬ ((n : Int) < 0); omega)
      rw [n0, cond_false]
      have hx : ∀ {R : Type} {f : MScope → Option R}, bd (ix l.scopes (optI (some i))) f = f t := fun {R f} => by
        show bd (ix l.scopes (nI i)) f = _
        rw [ix_nI, hs, bd_of]
      rw [hx, s_ruleOf hf (by omega), bd_of, hj, n0, cond_false, hx]; rfl
theorem s_Nodes {fu : Nat} {a b : List MNode} (hf : 200 ≤ fu) (hl : a.length ≤ 100) : m_same_Nodes fu a b = some (decide (a = b)) := by
  apply Ok.eq
  unfold m_same_Nodes
  refine Ok.con (fun q => Ok.ret ?_) fun q => ?_
  · have q : ¬ a.length = b.length := by simp [ln] at q; omega
    rw [decide_eq_false fun e => q (by rw [e])]
  have q : a.length = b.length := by simp [ln] at q; omega
  refine Ok.loop (fun i => i ≤ a.length ∧ a.take i = b.take i) (fun i => a.length - i) (fun m i hi rec => ?_) ⟨Nat.zero_le _, rfl⟩ (by omega)
  obtain ⟨i1, i3⟩ := hi
  simp only [m_same_Nodes_L1]
  refine Ok.con (fun q1 => ?_) fun q1 => Ok.ret ?_
  · have q1 : i < a.length ∧ i < b.length := by simpa using q1
    refine Ok.ixN q1.1 fun e he => Ok.ixN q1.2 fun e' he' => Ok.con (fun qn => Ok.ret ?_) fun qn => Ok.cnt (by omega) (rec _ ⟨by omega, ?_⟩ (by omega))
    · rw [decide_eq_false fun e => ?_]
      subst e
      rw [he] at he'; cases he'
      simp at qn
    · have := x_node qn
      rw [List.take_add_one, List.take_add_one, he, he', i3, this]
  · have q1 : a.length ≤ i := by simp at q1; omega
    rw [List.take_of_length_le (by omega), List.take_of_length_le (by omega)] at i3
    rw [decide_eq_true i3]

theorem s_Small {fu : Nat} {l : MLaw} (h : SizedLaw l) : m_same_SmallLaw fu l = some (decide (SmallLaw l)) := by
  unfold m_same_SmallLaw; rw [if_pos h]
theorem s_Changed {fu : Nat} {a b : MLaw} (ha : sumRules a.scopes ≤ 60) (hb : sumRules b.scopes ≤ 60) : m_lawdiff_ChangedRules fu a b = some (chg a b) := by
  unfold m_lawdiff_ChangedRules; rw [decide_eq_true (by omega)]; rfl
theorem s_SameI {fu : Nat} {a b : MLaw} (ha : SmallLaw a) (hb : SmallLaw b) : m_lawdiff_SameInterface fu a b = some (decide (bare a = bare b)) := by
  unfold m_lawdiff_SameInterface; rw [if_pos ⟨MidLaw.of_small ha, MidLaw.of_small hb⟩]
theorem s_awake (fu : Nat) : m_law51_awake fu = some true := rfl
theorem aw {fu : Nat} : Ok (bd (m_law51_awake fu) fun c => some c) (fun v => v = true) := Ok.bde (s_awake fu) (Ok.ret rfl)

theorem l_Identity {a b : MLaw} (sa : SizedLaw a) (sb : SizedLaw b) (na : NodesIn a) (nb : NodesIn b) : m_law51_LawdiffIdentity 1000 a b = some true := by
  apply Ok.eq
  unfold m_law51_LawdiffIdentity
  rw [s_Small sa, bd_of]
  refine Ok.con (fun _ => aw) fun qa => ?_
  have ha : SmallLaw a := by simpa using qa
  rw [s_Small sb, bd_of]
  refine Ok.con (fun _ => aw) fun qb => ?_
  have hb : SmallLaw b := by simpa using qb
  refine Ok.bd (o_IsValid (by decide) ha na) fun va pa => Ok.con (fun _ => aw) fun qva => ?_
  have pa := pa (by simpa using qva)
  have suma := ha.2.2.2.2.2.2.1
  have sumb := hb.2.2.2.2.2.2.1
  rw [s_Changed suma suma, bd_of, chg_self pa]
  refine Ok.con (fun q => by cases q) fun _ => ?_
  rw [s_SameI ha ha, bd_of]
  refine Ok.con (fun q => by simp at q) fun _ => ?_
  refine Ok.bd (o_IsValid (by decide) hb nb) fun vb pb => Ok.con (fun _ => aw) fun qvb => ?_
  have pb := pb (by simpa using qvb)
  rw [s_SameI ha hb, bd_of]
  refine Ok.con (fun _ => aw) fun qi => ?_
  have hbare : bare a = bare b := by simpa using qi
  rw [s_Changed suma sumb, bd_of]
  refine Ok.con (fun _ => aw) fun qc => ?_
  have hc : chg a b = [] := by simpa using qc
  have h3 := ha.2.2.1
  have h8 := ha.2.2.2.2.2.2.2
  refine Ok.loop (fun i => i ≤ a.scopes.length) (fun i => a.scopes.length - i) (fun m i hi rec1 => ?_) (Nat.zero_le _) (by omega)
  simp only [m_law51_LawdiffIdentity_L1]
  refine Ok.con (fun q => ?_) fun _ => aw
  have q : i < a.scopes.length := by simpa using q
  obtain ⟨s, hs⟩ : ∃ s, a.scopes[i]? = some s := ⟨_, List.getElem?_eq_getElem q⟩
  obtain ⟨t, ht, e1, e2, e3, e4⟩ := same_rules pa pb hbare hc hs
  have hsm := h8 s (List.mem_of_getElem? hs)
  refine Ok.ixN q fun s' hs' => Ok.ixN (List.getElem?_eq_some_iff.1 ht).1 fun t' ht' => ?_
  rw [hs] at hs'; cases hs'
  rw [ht] at ht'; cases ht'
  refine Ok.con (fun ql => ?_) fun _ => ?_
  · have ql : ¬ s.rules.length = t.rules.length := by simp [ln] at ql; omega
    exact absurd e3 ql
  refine Ok.loop (fun k => k ≤ s.rules.length) (fun k => s.rules.length - k) (fun m k hk rec2 => ?_) (Nat.zero_le _) (by have := hsm.2.2.2.1; omega)
  simp only [m_law51_LawdiffIdentity_L2]
  have hx : ∀ {f : MScope → Option Bool}, bd (ix a.scopes (nI i)) f = f s := fun {f} => by rw [ix_nI, hs, bd_of]
  simp only [hx]
  have hsr := hsm.2.2.2.1
  refine Ok.con (fun qk => ?_) fun _ => Ok.cnt (by omega) (rec1 _ (by omega) (by omega))
  have qk : k < s.rules.length := by simpa using qk
  refine Ok.ixN qk fun x hxk => ?_
  obtain ⟨n, y, g1, g2, g3⟩ := e4 k x hxk
  rw [s_Counterpart (by decide) hb g1, bd_of]
  have hy : ∀ {f : MRule → Option Bool}, bd (ix (t, nI n, true).1.rules (t, nI n, true).2.1) f = f y := fun {f} => by
    show bd (ix t.rules (nI n)) f = _
    rw [ix_nI, g2, bd_of]
  simp only [hy]
  have hdf := same_df (pa i s hs).2 (pb i t ht).2 e2 hxk g2 g3
  simp only [ruleSame, Bool.and_eq_true, decide_eq_true_eq, beq_iff_eq] at g3
  obtain ⟨_, _, p1, ⟨p2, p3⟩, p4, p5, p6⟩ := g3
  have hyl := (hb.2.2.2.2.2.2.2 t (List.mem_of_getElem? ht)).2.2.2.2.2.2 y (List.mem_of_getElem? g2)
  rw [s_Nodes (by decide) (by have := hyl.2.2.1; omega), bd_of, s_Nodes (by decide) (by have := hyl.2.2.2; omega), bd_of]
  refine Ok.con (fun q => by cases q) fun _ => Ok.con (fun q => by simp [hdf] at q) fun _ => Ok.con (fun q => by simp [p1] at q) fun _ => Ok.con (fun q => ?_) fun _ => Ok.con (fun q => by simp [p4] at q) fun _ => Ok.con (fun q => by simp [p5] at q) fun _ => Ok.con (fun q => by simp [p6] at q) fun _ => Ok.cnt (by omega) (rec2 _ (by omega) (by omega))
  · simp only [MRule.fr, MRule.to] at p2 p3
    simp [p2, p3] at q

theorem s_has {fu : Nat} {l : List MChange} {x : MChange} (hl : l.length < fu) (hl2 : l.length ≤ 1000) (h : x ∈ l) : m_law51_has fu l x = some true := by
  apply Ok.eq
  unfold m_law51_has
  obtain ⟨n, hn⟩ := List.getElem?_of_mem h
  have hnl := (List.getElem?_eq_some_iff.1 hn).1
  refine Ok.loop (fun i => i ≤ n) (fun i => n - i) (fun m i hi rec => ?_) (Nat.zero_le _) (by omega)
  simp only [m_law51_has_L1]
  refine Ok.con (fun q => ?_) fun q => ?_
  · have q : i < l.length := by simpa using q
    refine Ok.ixN q fun e he => Ok.con (fun _ => Ok.ret rfl) fun qn => Ok.cnt (by omega) (rec _ ?_ ?_)
    all_goals
      have : i ≠ n := fun e' => by
        subst e'
        rw [hn] at he; cases he
        simp at qn
      omega
  · have q : l.length ≤ i := by simpa using q
    omega

theorem chg_small {a b : MLaw} (ha : sumRules a.scopes ≤ 60) (hb : sumRules b.scopes ≤ 60) : (chg a b).length ≤ 120 := by
  unfold chg
  rw [List.length_append]
  have h1 := out_len (f := ch1 b) (ch1_len b) a.scopes
  have h2 := out_len (f := ch2 a) (ch2_len a) b.scopes
  omega

theorem l_Symmetry {a b : MLaw} (sa : SizedLaw a) (sb : SizedLaw b) (na : NodesIn a) (nb : NodesIn b) : m_law51_LawdiffSymmetry 1000 a b = some true := by
  apply Ok.eq
  unfold m_law51_LawdiffSymmetry
  rw [s_Small sa, bd_of]
  refine Ok.con (fun _ => aw) fun qa => ?_
  have ha : SmallLaw a := by simpa using qa
  rw [s_Small sb, bd_of]
  refine Ok.con (fun _ => aw) fun qb => ?_
  have hb : SmallLaw b := by simpa using qb
  refine Ok.bd (o_IsValid (by decide) ha na) fun va pa => Ok.con (fun _ => aw) fun qva => ?_
  have pa := pa (by simpa using qva)
  refine Ok.bd (o_IsValid (by decide) hb nb) fun vb pb => Ok.con (fun _ => aw) fun qvb => ?_
  have pb := pb (by simpa using qvb)
  have suma := ha.2.2.2.2.2.2.1
  have sumb := hb.2.2.2.2.2.2.1
  rw [s_Changed suma sumb, bd_of, s_Changed sumb suma, bd_of]
  refine Ok.con (fun q => ?_) fun _ => ?_
  · have q : ¬ (chg a b).length = (chg b a).length := by simp [ln] at q; omega
    exact absurd (chg_len pa pb) q
  have l1 := chg_small suma sumb
  have l2 := chg_small sumb suma
  refine Ok.loop (fun i => i ≤ (chg a b).length) (fun i => (chg a b).length - i) (fun m i hi rec => ?_) (Nat.zero_le _) (by omega)
  simp only [m_law51_LawdiffSymmetry_L1]
  refine Ok.con (fun q => ?_) fun _ => aw
  have q : i < (chg a b).length := by simpa using q
  refine Ok.ixN q fun c hc => ?_
  have hm := flip_mem pa (List.mem_of_getElem? hc)
  have hk := chg_kind (List.mem_of_getElem? hc)
  refine Ok.con (fun q1 => ?_) fun q1 => Ok.con (fun q2 => ?_) fun q2 => ?_
  · have e : flipC c = MChange.mk c.scope c.rule 2 := by unfold flipC; rw [q1]; rfl
    rw [← e, s_has (by omega) (by omega) hm, bd_of]
    exact Ok.cnt (by omega) (rec _ (by omega) (by omega))
  · have e : flipC c = MChange.mk c.scope c.rule 1 := by unfold flipC; rw [q1, q2]; rfl
    rw [← e, s_has (by omega) (by omega) hm, bd_of]
    exact Ok.cnt (by omega) (rec _ (by omega) (by omega))
  · have e : flipC c = c := by unfold flipC; rw [q1, q2]; rfl
    rw [e] at hm
    rw [s_has (by omega) (by omega) hm, bd_of]
    exact Ok.cnt (by omega) (rec _ (by omega) (by omega))

theorem tmod_in {n m : Int} (h0 : 0 ≤ n) (h1 : n ≤ 255) (hm : 0 < m) : 0 ≤ Int.tmod (w64 n) m ∧ Int.tmod (w64 n) m < m := by
  rw [w64_id (by omega) (by omega), Int.tmod_eq_emod_of_nonneg h0]
  exact ⟨Int.emod_nonneg _ (by omega), Int.emod_lt_of_pos _ hm⟩
theorem sum_set {l : List MScope} {i : Nat} {s t : MScope} (hi : l[i]? = some s) (h : t.rules.length = s.rules.length) : sumRules (l.set i t) = sumRules l := by
  unfold sumRules
  congr 1
  apply List.ext_getElem?
  intro j
  rw [List.getElem?_map, List.getElem?_map]
  by_cases hj : i = j
  · subst hj
    have := (List.getElem?_eq_some_iff.1 hi).1
    rw [List.getElem?_set_self this, hi]
    simp [h]
  · rw [List.getElem?_set_ne hj]

theorem l_OneRule {a : MLaw} {sc ru : Int} {src : BA} (sa : SizedLaw a) (na : NodesIn a) (h0 : 0 ≤ sc) (h1 : sc ≤ 255) (k0 : 0 ≤ ru) (k1 : ru ≤ 255) : m_law51_LawdiffOneRule 1000 a sc ru src = some true := by
  apply Ok.eq
  unfold m_law51_LawdiffOneRule
  rw [s_Small sa, bd_of]
  refine Ok.con (fun _ => aw) fun qa => ?_
  have ha : SmallLaw a := by simpa using qa
  refine Ok.bd (o_IsValid (by decide) ha na) fun va pa => Ok.con (fun _ => aw) fun qva => ?_
  simp only [Bool.or_eq_false_iff, Bool.not_eq_false', ln_len] at qva
  obtain ⟨⟨qv, ql⟩, _⟩ := qva
  have pa := pa qv
  have suma := ha.2.2.2.2.2.2.1
  have ql : ¬ a.scopes.length = 0 := by simpa using ql
  simp only [ln_len]
  obtain ⟨m0, m1⟩ := tmod_in h0 h1 (show (0 : Int) < (a.scopes.length : Nat) by omega)
  generalize Int.tmod (w64 sc) (a.scopes.length : Nat) = i at m0 m1 ⊢
  rw [nz_of (by omega), bd_of]
  refine Ok.ix m0 m1 fun s hs => Ok.con (fun _ => aw) fun qr => ?_
  have qr : ¬ s.rules.length = 0 := by simpa using qr
  obtain ⟨n0, n1⟩ := tmod_in k0 k1 (show (0 : Int) < (s.rules.length : Nat) by omega)
  generalize Int.tmod (w64 ru) (s.rules.length : Nat) = k at n0 n1 ⊢
  rw [nz_of (by omega), bd_of]
  have hsr := (ha.2.2.2.2.2.2.2 s (List.mem_of_getElem? hs)).2.2.2.1
  have hsc := ha.2.2.1
  refine Ok.ix n0 n1 fun r hr => Ok.ap (by simp; omega) ?_
  rw [List.nil_append]
  refine Ok.ix n0 n1 fun r' hr' => Ok.ap (by simp; omega) ?_
  rw [hr] at hr'; cases hr'
  rw [List.nil_append]
  refine Ok.ix m0 m1 fun s' hs' => ?_
  rw [hs] at hs'; cases hs'
  have key := one_rule pa hs hr src
  have hsum : sumRules (withScope a i.toNat { s with rules := s.rules.set k.toNat { r with source := src } }).scopes ≤ 60 := by
    show sumRules (a.scopes.set i.toNat _) ≤ 60
    rw [sum_set hs (by simp)]; exact suma
  have hch := s_Changed (fu := 1000) suma hsum
  rw [key] at hch
  refine Ok.bde hch ?_
  by_cases e : src = r.source
  · rw [decide_eq_true e]
    exact aw
  · rw [decide_eq_false e]
    refine Ok.con (fun q => by cases q) fun _ => Ok.con (fun _ => ?_) fun q => by cases q
    refine Ok.ix (by decide) (by simp) fun c hc => ?_
    have hkl := (List.getElem?_eq_some_iff.1 hr).1
    refine Ok.ix n0 (by rw [List.length_set]; exact n1) fun x hx => ?_
    rw [List.getElem?_set_self hkl] at hx
    cases hx
    have hc : (⟨s.name, r.name, 3⟩ : MChange) = c := Option.some.inj hc
    subst hc
    refine Ok.con (fun _ => aw) fun q => by simp at q
end Go.Ab
