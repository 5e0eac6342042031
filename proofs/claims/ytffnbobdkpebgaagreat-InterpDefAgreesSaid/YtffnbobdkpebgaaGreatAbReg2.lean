/- The abstract machine: a region that draws its order, second part: every order. -/
import Derived.Test.YtffnbobdkpebgaaGreatAbReg
set_option linter.unusedVariables false
namespace Go.Ab
open Go.RowKit
theorem listed_set {listed : Array Bool} {i j : Nat} (hi : i < listed.size) : (listed.setIfInBounds i true).getD j false = true ↔ j = i ∨ listed.getD j false = true := by
 by_cases e : i = j
 ·subst e; simp [hi]
 ·rw [getD_set_ne false e]
  constructor
  ·exact .inr
  ·rintro (h | h)
   ·exact absurd h.symm e
   ·exact h
theorem unlisted {listed : Array Bool} {j : Nat} (hj : j < listed.size) : listed.getD j true = false ↔ ¬ listed.getD j false = true := by
 simp [hj]
theorem ready_lt {ops : Array Oper} {md : Region.Mode} {listed : Array Bool} {j : Nat} (h : j ∈ Region.ready md ops listed) : j < ops.size := by
 obtain ⟨_, o, ho, _⟩ := mem_ready.1 h
 exact (Array.getElem?_eq_some_iff.1 ho).1
theorem any_tail {P : Program} {ops : Array Oper} {Q : Exit → Act → World → Prop} {m q : Nat} (D : DrawOk ops m q) : ∀ (r k : Nat) (listed : Array Bool) (a : Act) (w : World) (fuel : Nat), k + r = ops.size → m + q ≤ k → r ≤ fuel →
  listed.size = ops.size → (∀ i, listed.getD i false = true ↔ i < k) → wpOps P ops Q (List.range' k r) a w → wpAny P .any ops Q fuel listed a w
 | 0, k, listed, a, w, fuel, hk, hm, hf, hs, hl, h => by
  have hr : Region.ready .any ops listed = [] := by
   rw [List.eq_nil_iff_forall_not_mem]
   intro j hj
   have hlt := ready_lt hj
   have := (unlisted (by omega)).1 (mem_ready.1 hj).1
   exact this ((hl j).2 (by omega))
  cases fuel with
  | zero => exact ⟨hr, by simpa [wpOps] using h⟩
  | succ fuel => exact ⟨fun _ => by simpa [wpOps] using h, fun i hi => by rw [hr] at hi; cases hi⟩
 | r + 1, k, listed, a, w, fuel, hk, hm, hf, hs, hl, h => by
  cases fuel with
  | zero => omega
  | succ fuel =>
   rw [List.range'_succ, wpOps_cons] at h
   have honly : ∀ i ∈ Region.ready .any ops listed, i = k := fun i hi => by
    have hlt := ready_lt hi
    obtain ⟨hun, o, ho, hall⟩ := mem_ready.1 hi
    have h1 := (unlisted (by omega)).1 hun
    have h2 : ¬ i < k := fun e => h1 ((hl i).2 e)
    rcases Nat.lt_or_eq_of_le (Nat.le_of_not_lt h2) with h3 | h3
    ·rcases D.tail i o k (by omega) ho h3 with hlk | ⟨_, hlk⟩ | hlk
     ·obtain ⟨_, _, hkm, _⟩ := D.late k hlk
      omega
     ·have := lateR_lt hlk
      omega
     ·have := hlk (fun j => listed.getD j false = true) (fun k' ok hk' hok e he hb => (hl _).2 (by have := (hl _).1 hk'; have := D.acyclic k' ok hok e he hb; omega)) hall
      have := (hl _).1 this
      omega
    ·exact h3.symm
   have hkr : k ∈ Region.ready .any ops listed := by
    obtain ⟨o, ho⟩ : ∃ o, ops[k]? = some o := ⟨_, Array.getElem?_eq_getElem (by omega)⟩
    refine mem_ready.2 ⟨(unlisted (by omega)).2 (fun e => by have := (hl k).1 e; omega), o, ho, fun e he hb => (hl _).2 (D.acyclic k o ho e he hb)⟩
   refine ⟨fun h0 => (by rw [h0] at hkr; cases hkr), fun i hi => ?_⟩
   have := honly i hi
   subst this
   refine wpOp_mono (fun a' w' h' => any_tail D r (i + 1) _ a' w' fuel (by omega) (by omega) (by omega) (by simpa using hs) (fun j => ?_) h') h
   rw [listed_set (by omega)]
   constructor
   ·rintro (h | h)
    ·omega
    ·have := (hl j).1 h; omega
   ·intro h
    by_cases e : j = i
    ·exact .inl e
    ·exact .inr ((hl j).2 (by omega))
structure Stores (tab : Tab) (P : Program) (ops : Array Oper) (m q : Nat) (σ : St) (W : Nat → Option (Nat × List C)) : Prop where
 ok : ∀ i, m ≤ i → i < m + q → ∃ o t x y ti id s n ys, ops[i]? = some o ∧ o.op = .store t x y ∧ TIOk P t ti ∧ opnd tab σ 0 x = .s (.c (.ref id 0 s 0)) ∧ look σ.h id = some (.var (List.replicate n .junk)) ∧
  cellsOf (opnd tab σ t y) = some ys ∧ ys.length = ti.size ∧ ys.length = n ∧ liveAll ys = true ∧ W i = some (id, ys)
 inj : ∀ i j id ys ys', W i = some (id, ys) → W j = some (id, ys') → i = j
structure Mid (ops : Array Oper) (m q : Nat) (S : Nat → St) (p : Nat → Option (AV × Heap)) (W : Nat → Option (Nat × List C)) (V : Nat → Prop) (F0 : Base) (w0 : World) (listed : Array Bool) (a : Act) (w : World) : Prop where
 size : listed.size = ops.size
 closed : ∀ i o, listed.getD i false = true → ops[i]? = some o → ∀ e ∈ o.after, Region.binds .any e = true → listed.getD e.on false = true
 pre : ∀ i, listed.getD i false = true → i < m + q
 rel : ∃ ρ F, WOk V ρ F w ∧ a.tmps.size = (S 0).n ∧ a.defers = [] ∧
  (∀ t, (∃ i o, (i < m ∧ listed.getD i false = true) ∧ ops[i]? = some o ∧ o.dst = some t ∧ ARel ρ F w (S m).h (a.tmps.getD t undef) (pval (p i))) ∨
   ((∀ i o, listed.getD i false = true → ops[i]? = some o → o.dst ≠ some t) ∧ ARel ρ F w (S m).h (a.tmps.getD t undef) ((S 0).get t))) ∧
  HRel ρ F w (S m).h ∧
  (∀ id x, ρ id = some x → (∃ ob, look (S 0).h id = some ob) ∨ ∃ i v news ob, (i < m ∧ listed.getD i false = true) ∧ p i = some (v, news) ∧ look news id = some ob) ∧
  (∀ i id ys, m ≤ i → listed.getD i false = true → W i = some (id, ys) → ∃ b N, ρ id = some (b, N) ∧ ORel ρ F w (S m).h b N (.var ys)) ∧
  PinOK V F0 ρ F (S 0).h ∧ (∀ b, F b → F0.F b ∨ ¬ F0.old b) ∧ Keep V w0 w
def wHeap : Heap → List (Nat × List C) → Heap
 | H, [] => H
 | H, (id, ys) :: r => wHeap (upd H id (.var ys)) r
theorem wHeap_shape : ∀ {l : List (Nat × List C)} {H : Heap}, (∀ id ys, (id, ys) ∈ l → ∃ cs, look H id = some (.var cs)) → Shape H (wHeap H l)
 | [], H, _ => fun id T s es h => ⟨es, h, rfl⟩
 | (id, ys) :: r, H, h => by
  obtain ⟨cs, hcs⟩ := h id ys (by simp)
  have h1 := shape_var (cs' := ys) hcs
  have h2 := wHeap_shape (l := r) (H := upd H id (.var ys)) (fun id' ys' hm => by
   by_cases e : id = id'
   ·subst e; exact ⟨ys, look_upd_same hcs⟩
   ·rw [look_upd_other e]; exact h id' ys' (by simp [hm]))
  intro k T s es hk
  obtain ⟨es1, k1, l1⟩ := h1 k T s es hk
  obtain ⟨es2, k2, l2⟩ := h2 k T s es1 k1
  exact ⟨es2, k2, l2.trans l1⟩
theorem wHeap_look : ∀ {l : List (Nat × List C)} {H : Heap}, (∀ id ys, (id, ys) ∈ l → ∃ cs, look H id = some (.var cs)) → (∀ id ys ys', (id, ys) ∈ l → (id, ys') ∈ l → ys = ys') → ∀ id ob, look (wHeap H l) id = some ob →
  (∃ ys, (id, ys) ∈ l ∧ ob = .var ys) ∨ ((∀ ys, (id, ys) ∉ l) ∧ look H id = some ob)
 | [], H, _, _, id, ob, hl => .inr ⟨fun ys => by simp, hl⟩
 | (i, zs) :: r, H, h, hu, id, ob, hl => by
  obtain ⟨cs, hcs⟩ := h i zs (by simp)
  have := wHeap_look (l := r) (H := upd H i (.var zs)) (fun id' ys' hm => by
   by_cases e : i = id'
   ·subst e; exact ⟨zs, look_upd_same hcs⟩
   ·rw [look_upd_other e]; exact h id' ys' (by simp [hm])) (fun id ys ys' h1 h2 => hu id ys ys' (by simp [h1]) (by simp [h2])) id ob hl
  rcases this with ⟨ys, hm, rfl⟩ | ⟨hno, hlk⟩
  ·exact .inl ⟨ys, by simp [hm], rfl⟩
  ·by_cases e : i = id
   ·subst e
    rw [look_upd_same hcs] at hlk
    cases hlk
    exact .inl ⟨zs, by simp, rfl⟩
   ·rw [look_upd_other e] at hlk
    refine .inr ⟨fun ys hm => ?_, hlk⟩
    rcases List.mem_cons.1 hm with h1 | h1
    ·cases h1; exact e rfl
    ·exact hno ys h1
theorem wHeap_dom : ∀ {l : List (Nat × List C)} {H : Heap} {id : Nat} {ob : Ob}, (∀ id ys, (id, ys) ∈ l → ∃ cs, look H id = some (.var cs)) → look H id = some ob → ∃ ob', look (wHeap H l) id = some ob'
 | [], H, id, ob, _, hl => ⟨ob, hl⟩
 | (i, zs) :: r, H, id, ob, h, hl => by
  obtain ⟨cs, hcs⟩ := h i zs (by simp)
  have hh : ∀ id' ys', (id', ys') ∈ r → ∃ cs, look (upd H i (.var zs)) id' = some (.var cs) := fun id' ys' hm => by
   by_cases e : i = id'
   ·subst e; exact ⟨zs, look_upd_same hcs⟩
   ·rw [look_upd_other e]; exact h id' ys' (by simp [hm])
  show ∃ ob', look (wHeap (upd H i (.var zs)) r) id = some ob'
  by_cases e : i = id
  ·subst e; exact wHeap_dom hh (look_upd_same hcs)
  ·exact wHeap_dom (ob := ob) hh (by rw [look_upd_other e]; exact hl)
def wList (W : Nat → Option (Nat × List C)) (m q : Nat) : List (Nat × List C) := (List.range' m q).filterMap W
theorem wList_mem {W : Nat → Option (Nat × List C)} {m q id : Nat} {ys : List C} : (id, ys) ∈ wList W m q ↔ ∃ i, m ≤ i ∧ i < m + q ∧ W i = some (id, ys) := by
 unfold wList
 rw [List.mem_filterMap]
 constructor
 ·rintro ⟨i, hi, hw⟩
  rw [List.mem_range'_1] at hi
  exact ⟨i, hi.1, hi.2, hw⟩
 ·rintro ⟨i, h1, h2, hw⟩
  exact ⟨i, List.mem_range'_1.2 ⟨h1, h2⟩, hw⟩
theorem Mid.done {P : Program} {tab : Tab} {ops : Array Oper} {m q : Nat} {S : Nat → St} {p : Nat → Option (AV × Heap)} {W : Nat → Option (Nat × List C)} {V : Nat → Prop} {F0 : Base} {w0 : World} {listed : Array Bool} {a : Act} {w : World} (T : Text P ops m S p) (D : DrawOk ops m q)
  (hW : Stores tab P ops m q (S m) W) (M : Mid ops m q S p W V F0 w0 listed a w) (hall : ∀ i, i < m + q → listed.getD i false = true) : Holds' V F0 w0 { S m with h := wHeap (S m).h (wList W m q) } a w := by
 obtain ⟨ρ, F, ok, hsz, hdf, htm, hh, hdom, hwr, h1, h2, hk⟩ := M.rel
 have hvars : ∀ id ys, (id, ys) ∈ wList W m q → ∃ cs, look (S m).h id = some (.var cs) := fun id ys hm => by
  obtain ⟨i, g1, g2, g3⟩ := wList_mem.1 hm
  obtain ⟨o, t, x, y, ti, id', s, n, ys', _, _, _, _, hl, _, _, _, _, hw⟩ := hW.ok i g1 g2
  rw [g3] at hw; cases hw
  exact ⟨_, hl⟩
 have huniq : ∀ id ys ys', (id, ys) ∈ wList W m q → (id, ys') ∈ wList W m q → ys = ys' := fun id ys ys' hm hm' => by
  obtain ⟨i, _, _, g3⟩ := wList_mem.1 hm
  obtain ⟨j, _, _, g4⟩ := wList_mem.1 hm'
  have := hW.inj i j id ys ys' g3 g4
  subst this
  rw [g3] at g4; cases g4; rfl
 have hsh := wHeap_shape hvars
 refine ⟨⟨ρ, F, ⟨ok, by rw [hsz]; exact (T.n (Nat.le_refl m)).symm, fun t => ?_, fun id b N hid ob hl => ?_, fun id x hid => ?_, hdf⟩, ⟨h1.1, h1.2.1, fun id p hp ⟨o, ho⟩ => h1.2.2 id p hp ?_⟩, h2⟩, hk⟩
 rotate_right
 ·have : ∃ o', look (S m).h id = some o' := by
   rcases wHeap_look hvars huniq id o ho with ⟨ys, hm, rfl⟩ | ⟨_, hl'⟩
   ·obtain ⟨cs, hcs⟩ := hvars id ys hm; exact ⟨_, hcs⟩
   ·exact ⟨_, hl'⟩
  obtain ⟨o', ho'⟩ := this
  exact T.pins (Nat.le_refl m) (F0.num id p hp) ho'
 ·have hgoal : ARel ρ F w (S m).h (a.tmps.getD t undef) ((S m).get t) := by
   rcases T.get (Nat.le_refl m) t with ⟨j, o, hj, ho, hd, hg⟩ | ⟨hno, hg⟩
   ·rcases htm t with ⟨i, o', ⟨him, hi⟩, ho', hd', hr⟩ | ⟨hno, _⟩
    ·have := D.uniq i j o' o t him hj ho' ho hd' hd
     subst this
     rw [hg]; exact hr
    ·exact absurd hd (hno j o (hall j (by omega)) ho)
   ·rcases htm t with ⟨i, o', ⟨him, hi⟩, ho', hd', hr⟩ | ⟨_, hr⟩
    ·exact absurd hd' (hno i o' him ho')
    ·rw [hg]; exact hr
  exact ARel.shape (fun _ _ => rfl) hsh hgoal
 ·rcases wHeap_look hvars huniq id ob hl with ⟨ys, hm, rfl⟩ | ⟨_, hl'⟩
  ·obtain ⟨i, g1, g2, g3⟩ := wList_mem.1 hm
   obtain ⟨b', N', hb', ho⟩ := hwr i id ys g1 (hall i g2) g3
   rw [hid] at hb'; cases hb'
   exact ORel.shape (fun _ _ => rfl) hsh rfl ho
  ·exact ORel.shape (fun _ _ => rfl) hsh rfl (hh id b N hid ob hl')
 ·rcases hdom id x hid with ⟨ob, hob⟩ | ⟨i, v, news, ob, ⟨him, hi⟩, hp, hob⟩
  ·exact wHeap_dom hvars (T.sub m (Nat.zero_le _) (Nat.le_refl _) id ob hob)
  ·exact wHeap_dom hvars (T.sub_news him hp id ob hob)
theorem tmp_looks {ops : Array Oper} {o : Oper} {t : Nat} (h : Operand.tmp t ∈ o.op.operands) : t ∈ o.looksAt ops := by
 unfold Oper.looksAt
 rw [List.mem_append]
 left
 rw [List.mem_filterMap]
 exact ⟨.tmp t, by simpa using h, rfl⟩
theorem guard_looks {ops : Array Oper} {o : Oper} {j d : Nat} {want : Bool} (h : o.guard = some (j, want)) (hd : (ops[j]?).bind (·.dst) = some d) : d ∈ o.looksAt ops := by
 unfold Oper.looksAt
 rw [List.mem_append]
 right
 simp [h, hd]
theorem Mid.looks {P : Program} {ops : Array Oper} {m q : Nat} {S : Nat → St} {p : Nat → Option (AV × Heap)} {listed : Array Bool} {a : Act} {w : World} (T : Text P ops m S p) (D : DrawOk ops m q)
  {ρ : Map} {F : Nat → Prop} {H : Heap} (hclosed : ∀ i o, listed.getD i false = true → ops[i]? = some o → ∀ e ∈ o.after, Region.binds .any e = true → listed.getD e.on false = true)
  (htm : ∀ t, (∃ i o, (i < m ∧ listed.getD i false = true) ∧ ops[i]? = some o ∧ o.dst = some t ∧ ARel ρ F w H (a.tmps.getD t undef) (pval (p i))) ∨
   ((∀ i o, listed.getD i false = true → ops[i]? = some o → o.dst ≠ some t) ∧ ARel ρ F w H (a.tmps.getD t undef) ((S 0).get t)))
  {i : Nat} {o : Oper} (him : i < m) (ho : ops[i]? = some o) (hun : ¬ listed.getD i false = true) (hall : ∀ e ∈ o.after, Region.binds .any e = true → listed.getD e.on false = true) {t : Nat} (ht : t ∈ o.looksAt ops) :
  ARel ρ F w H (a.tmps.getD t undef) ((S i).get t) := by
 rcases T.get (Nat.le_of_lt him) t with ⟨j, oj, hj, hoj, hd, hg⟩ | ⟨hno, hg⟩
 ·obtain ⟨e, he, hb, hon⟩ := D.dep i j o oj t him (by omega) ho hoj ht hd hj
  have hXj := hall e he hb
  rw [hon] at hXj
  rcases htm t with ⟨i', o', ⟨him', hi'⟩, ho', hd', hr⟩ | ⟨hno, _⟩
  ·have := D.uniq i' j o' oj t him' (by omega) ho' hoj hd' hd
   subst this
   rw [hg]; exact hr
  ·exact absurd hd (hno j oj hXj hoj)
 ·rcases htm t with ⟨i', o', ⟨him', hi'⟩, ho', hd', hr⟩ | ⟨_, hr⟩
  ·rcases Nat.lt_trichotomy i' i with h | h | h
   ·exact absurd hd' (hno i' o' h ho')
   ·subst h; exact absurd hi' hun
   ·obtain ⟨e, he, hb, hon⟩ := D.anti i i' o o' t him him' ho ho' ht hd' h
    have := hclosed i' o' hi' ho' e he hb
    rw [hon] at this
    exact absurd this hun
  ·rw [hg]; exact hr
theorem Mid.looksW {P : Program} {ops : Array Oper} {m q : Nat} {S : Nat → St} {p : Nat → Option (AV × Heap)} {listed : Array Bool} {a : Act} {w : World} (T : Text P ops m S p) (D : DrawOk ops m q)
  {ρ : Map} {F : Nat → Prop} {H : Heap}
  (htm : ∀ t, (∃ i o, (i < m ∧ listed.getD i false = true) ∧ ops[i]? = some o ∧ o.dst = some t ∧ ARel ρ F w H (a.tmps.getD t undef) (pval (p i))) ∨
   ((∀ i o, listed.getD i false = true → ops[i]? = some o → o.dst ≠ some t) ∧ ARel ρ F w H (a.tmps.getD t undef) ((S 0).get t)))
  {i : Nat} {o : Oper} (h1 : m ≤ i) (h2 : i < m + q) (ho : ops[i]? = some o) (hall : ∀ e ∈ o.after, Region.binds .any e = true → listed.getD e.on false = true) {t : Nat} (ht : t ∈ o.looksAt ops) :
  ARel ρ F w H (a.tmps.getD t undef) ((S m).get t) := by
 rcases T.get (Nat.le_refl m) t with ⟨j, oj, hj, hoj, hd, hg⟩ | ⟨hno, hg⟩
 ·obtain ⟨e, he, hb, hon⟩ := D.wdep i o j oj t h1 h2 ho hj hoj hd ht
  have hXj := hall e he hb
  rw [hon] at hXj
  rcases htm t with ⟨i', o', ⟨him', hi'⟩, ho', hd', hr⟩ | ⟨hno, _⟩
  ·have := D.uniq i' j o' oj t him' hj ho' hoj hd' hd
   subst this
   rw [hg]; exact hr
  ·exact absurd hd (hno j oj hXj hoj)
 ·rcases htm t with ⟨i', o', ⟨him', hi'⟩, ho', hd', hr⟩ | ⟨_, hr⟩
  ·exact absurd hd' (hno i' o' him' ho')
  ·rw [hg]; exact hr
theorem bool_slot {ρ : Map} {F : Nat → Prop} {w : World} {H : Heap} {a : Act} {d : Nat} {b : Bool} (h : ARel ρ F w H (a.tmps.getD d undef) (.s (.c (.d (.bool b))))) : a.tmps[d]? = some (.bool b) := by
 have := bool_of_rel h
 cases ht : a.tmps[d]? with
 | none => simp [ht, undef] at this
 | some v => simp [ht] at this; rw [this]
theorem unwanted_undef {ops : Array Oper} {o : Oper} {tmps : Array Value} {j d : Nat} {want : Bool} (hg : o.guard = some (j, want)) (hd : (ops[j]?).bind (·.dst) = some d) (hv : tmps.getD d undef = undef) :
  Region.wanted o (yielded ops tmps) = false := by
 simp only [Region.wanted, hg, yielded, hd, Option.bind_some]
 cases ht : tmps[d]? with
 | none => rfl
 | some v =>
  rw [Array.getD_eq_getD_getElem?, ht] at hv
  simp only [Option.getD_some] at hv
  subst hv
  rfl
def left (n : Nat) (listed : Array Bool) : Nat := ((List.range n).filter fun i => !listed.getD i false).length
theorem filter_lt {n i : Nat} {f g : Nat → Bool} (hi : i < n) (hf : f i = true) (hg : g i = false) (h : ∀ j, g j = true → f j = true) : ((List.range n).filter g).length < ((List.range n).filter f).length := by
 have key : ∀ (l : List Nat), i ∈ l → (l.filter g).length < (l.filter f).length := by
  have mono : ∀ (l : List Nat), (l.filter g).length ≤ (l.filter f).length := by
   intro l
   induction l with
   | nil => simp
   | cons x l ih =>
    simp only [List.filter_cons]
    cases hgx : g x with
    | false => cases f x <;> simp <;> omega
    | true => rw [h x hgx]; simp; omega
  intro l
  induction l with
  | nil => intro h; cases h
  | cons x l ih =>
   intro hm
   simp only [List.filter_cons]
   rcases List.mem_cons.1 hm with rfl | hm
   ·rw [hf, hg]; simp; have := mono l; omega
   ·have := ih hm
    cases hgx : g x with
    | false => cases f x <;> simp <;> omega
    | true => rw [h x hgx]; simp; omega
 exact key _ (List.mem_range.2 hi)
theorem left_set {n i : Nat} {listed : Array Bool} (hi : i < n) (hs : listed.size = n) (h : ¬ listed.getD i false = true) : left n (listed.setIfInBounds i true) < left n listed := by
 refine filter_lt hi (by simpa using h) ?_ (fun j hj => ?_)
 ·have := (listed_set (j := i) (by omega : i < listed.size)).2 (.inl rfl); simp [this]
 ·simp only [Bool.not_eq_true'] at hj ⊢
  cases hb : listed.getD j false with
  | false => rfl
  | true => have := (listed_set (j := j) (by omega : i < listed.size)).2 (.inr hb); rw [hj] at this; cases this
theorem Mid.step {P : Program} {ops : Array Oper} {m q : Nat} {S : Nat → St} {p : Nat → Option (AV × Heap)} {W : Nat → Option (Nat × List C)} {V : Nat → Prop} {F0 : Base} {w0 : World} {listed : Array Bool} {a : Act} {w : World} (T : Text P ops m S p) (D : DrawOk ops m q)
  (M : Mid ops m q S p W V F0 w0 listed a w) {i : Nat} (hi : i ∈ Region.ready .any ops listed) (him : i < m) {Q : Exit → Act → World → Prop} {K : Act → World → Prop}
  (hK : ∀ a' w', Mid ops m q S p W V F0 w0 (listed.setIfInBounds i true) a' w' → K a' w') :
  ∃ o, ops[i]? = some o ∧ ((Region.wanted o (yielded ops a.tmps) = true ∧ o.wp P a w K Q) ∨ (Region.wanted o (yielded ops a.tmps) = false ∧ K (a.put o.dst undef) w)) := by
 have hilt := ready_lt hi
 obtain ⟨hun, o, ho, hedges⟩ := mem_ready.1 hi
 have hun' := (unlisted (by rw [M.size]; exact hilt)).1 hun
 obtain ⟨ρ, F, ok, hsz, hdf, htm, hh, hdom, hwr, h1, h2, hk⟩ := M.rel
 have hlooks : ∀ t, t ∈ o.looksAt ops → ARel ρ F w (S m).h (a.tmps.getD t undef) ((S i).get t) := fun t ht => Mid.looks T D M.closed htm him ho hun' hedges ht
 have hn : (S i).n = (S 0).n := T.n (Nat.le_of_lt him)
 have hset : ∀ j, (listed.setIfInBounds i true).getD j false = true ↔ j = i ∨ listed.getD j false = true := fun j => listed_set (by rw [M.size]; exact hilt)
 have next : ∀ (v' : Value) ρ' F' w', Grow V ρ F w ρ' F' w' (fun id => ∃ v news ob, p i = some (v, news) ∧ look news id = some ob) → ARel ρ' F' w' (S m).h v' (pval (p i)) → dstOk (S i) o.dst = true →
   (∀ id ob b N v news, p i = some (v, news) → look news id = some ob → ρ' id = some (b, N) → ORel ρ' F' w' (S m).h b N ob) →
   K (a.put o.dst v') w' := by
  intro v' ρ' F' w' g hv hd hob
  refine hK _ _ ⟨by simpa using M.size, fun j oj hj hoj e he hb => (hset _).2 ?_, fun j hj => ?_, ρ', F', g.ok, ?_, ?_, fun t => ?_, fun id b N hid ob hl => ?_, fun id x hid => ?_, fun i' id ys g1 g2 g3 => ?_, ⟨fun b hb => g.set b (h1.1 b hb), h1.2.1, fun id p hp ho => g.map id p (h1.2.2 id p hp ho)⟩, fun b hb => (g.new b hb).elim (h2 b) (fun h => .inr fun ho => absurd (ok.keep b (h1.2.1 b ho)) (by omega)), hk.trans (Keep.of_below g.below ok.keep)⟩
  ·rcases (hset j).1 hj with rfl | hj
   ·rw [ho] at hoj; cases hoj; exact .inr (hedges e he hb)
   ·exact .inr (M.closed j oj hj hoj e he hb)
  ·rcases (hset j).1 hj with rfl | hj
   ·omega
   ·exact M.pre j hj
  ·cases o.dst <;> simp [Act.put, hsz]
  ·cases o.dst <;> simpa [Act.put] using hdf
  ·-- the slots
   by_cases hdt : o.dst = some t
   ·left
    refine ⟨i, o, ⟨him, (hset i).2 (.inl rfl)⟩, ho, hdt, ?_⟩
    have hlt : t < a.tmps.size := by rw [hdt] at hd; rw [hsz, ← hn]; simpa [dstOk] using hd
    rw [hdt]
    simp only [Act.put]
    rw [getD_set _ _ _ _ hlt, if_pos rfl]
    exact hv
   ·have hsame : (a.put o.dst v').tmps.getD t undef = a.tmps.getD t undef := by
     cases hod : o.dst with
     | none => rfl
     | some d =>
      have hlt : d < a.tmps.size := by rw [hod] at hd; rw [hsz, ← hn]; simpa [dstOk] using hd
      simp only [Act.put]
      rw [getD_set _ _ _ _ hlt, if_neg (fun e => hdt (by rw [hod, e]))]
    rw [hsame]
    rcases htm t with ⟨i', o', ⟨him', hi'⟩, ho', hd', hr⟩ | ⟨hno, hr⟩
    ·exact .inl ⟨i', o', ⟨him', (hset i').2 (.inr hi')⟩, ho', hd', g.arel ok (Sub.refl _) hr⟩
    ·refine .inr ⟨fun j oj hj hoj => ?_, g.arel ok (Sub.refl _) hr⟩
     rcases (hset j).1 hj with rfl | hj
     ·rw [ho] at hoj; cases hoj; exact hdt
     ·exact hno j oj hj hoj
  ·rcases g.fresh id _ hid with hold | ⟨v, news, ob', hp, hob'⟩
   ·exact g.orel ok (Sub.refl _) hold (hh id b N hold ob hl)
   ·have := T.sub_news him hp id ob' hob'
    rw [hl] at this; cases this
    exact hob id _ b N v news hp hob' hid
  ·rcases g.fresh id x hid with hold | ⟨v, news, ob', hp, hob'⟩
   ·rcases hdom id x hold with h | ⟨j, v, news, ob, ⟨hjm, hj⟩, hp, hob⟩
    ·exact .inl h
    ·exact .inr ⟨j, v, news, ob, ⟨hjm, (hset j).2 (.inr hj)⟩, hp, hob⟩
   ·exact .inr ⟨i, v, news, ob', ⟨him, (hset i).2 (.inl rfl)⟩, hp, hob'⟩
  ·rcases (hset i').1 g2 with rfl | g2
   ·omega
   ·obtain ⟨b, N, hb, ho⟩ := hwr i' id ys g1 g2 g3
    exact ⟨b, N, g.map _ _ hb, g.orel ok (Sub.refl _) hb ho⟩
 have hpk := T.ok i o him ho
 refine ⟨o, ho, ?_⟩
 cases hp : p i with
 | none =>
  rw [hp] at hpk
  obtain ⟨j, want, d, hg, hd, hget, hdst⟩ := hpk
  have hs := hlooks d (guard_looks hg hd)
  have hw : Region.wanted o (yielded ops a.tmps) = false := by
   rcases hget with hget | hget
   ·rw [hget] at hs
    simp only [Region.wanted, hg, yielded, hd, Option.bind_some, bool_slot hs]
    cases want <;> rfl
   ·rw [hget] at hs
    exact unwanted_undef hg hd (undef_of hs)
  exact .inr ⟨hw, next undef ρ F w (Grow.refl ok) (by rw [hp]; exact undef_rel) hdst (fun id ob b N v news h => by rw [hp] at h; cases h)⟩
 | some x =>
  obtain ⟨v, news⟩ := x
  rw [hp] at hpk
  obtain ⟨hg, hst, hdst, hfr⟩ := hpk
  have hw : Region.wanted o (yielded ops a.tmps) = true := by
   cases hgd : o.guard with
   | none => simp [Region.wanted, hgd]
   | some x =>
    obtain ⟨j, want⟩ := x
    obtain ⟨d, hd, hget⟩ := hg j want hgd
    have hs := hlooks d (guard_looks hgd hd)
    rw [hget] at hs
    simp only [Region.wanted, hgd, yielded, hd, Option.bind_some, bool_slot hs]
    cases want <;> rfl
  refine .inl ⟨hw, ?_⟩
  refine hst V ρ F (S m).h a w _ Q ok (T.sub m (Nat.le_of_lt him) (Nat.le_refl _)) (T.sub_news him hp) (fun t ht => hlooks t (tmp_looks ht)) hh (fun id ob hl => ?_) (fun v' ρ' F' w' g hv hob => ?_)
  ·cases hid : ρ id with
   | none => rfl
   | some x =>
    rcases hdom id x hid with ⟨ob', hob'⟩ | ⟨j, v', news', ob', ⟨hjm, hj⟩, hpj, hob'⟩
    ·have := T.sub i (Nat.zero_le _) (Nat.le_of_lt him) id ob' hob'
     rw [(hfr id ob hl).1] at this; cases this
    ·have := T.disj him hjm hp hpj hl hob'
     subst this
     exact absurd hj hun'
  ·refine next v' ρ' F' w' ⟨g.below, g.ok, g.map, fun id x h => (g.fresh id x h).imp_right (fun ⟨ob, h⟩ => ⟨v, news, ob, hp, h⟩), g.set, g.new⟩ (by rw [hp]; exact hv) hdst (fun id ob b N v1 news1 h hl hid => ?_)
   rw [hp] at h; cases h
   exact hob id ob b N hl hid
theorem Mid.store {P : Program} {tab : Tab} {ops : Array Oper} {m q : Nat} {S : Nat → St} {p : Nat → Option (AV × Heap)} {W : Nat → Option (Nat × List C)} {V : Nat → Prop} {F0 : Base} {w0 : World} {listed : Array Bool} {a : Act} {w : World} (T : Text P ops m S p) (D : DrawOk ops m q)
  (hW : Stores tab P ops m q (S m) W) (M : Mid ops m q S p W V F0 w0 listed a w) {i : Nat} (hi : i ∈ Region.ready .any ops listed) (h1 : m ≤ i) (h2 : i < m + q) {Q : Exit → Act → World → Prop} {K : Act → World → Prop}
  (hK : ∀ a' w', Mid ops m q S p W V F0 w0 (listed.setIfInBounds i true) a' w' → K a' w') : wpOp P ops Q i K a w := by
 have hilt := ready_lt hi
 obtain ⟨hun, o, ho, hedges⟩ := mem_ready.1 hi
 have hun' := (unlisted (by rw [M.size]; exact hilt)).1 hun
 obtain ⟨hdst, hguard⟩ := D.wdst i o h1 h2 ho
 obtain ⟨ρ, F, ok, hsz, hdf, htm, hh, hdom, hwr, k1, k2, hk⟩ := M.rel
 obtain ⟨o', t, x, y, ti, id, s, n, ys, ho', hop, hti, hx, hl, hy, hys, hyn, hlv, hWi⟩ := hW.ok i h1 h2
 rw [ho] at ho'; cases ho'
 have hlooks : ∀ t, t ∈ o.looksAt ops → ARel ρ F w (S m).h (a.tmps.getD t undef) ((S m).get t) := fun t ht => Mid.looksW T D htm h1 h2 ho hedges ht
 have hmx : x ∈ o.op.operands := by rw [hop]; simp [Op.operands]
 have hmy : y ∈ o.op.operands := by rw [hop]; simp [Op.operands]
 have hx0 := opnd_rel (a := a) (ρ := ρ) (F := F) (w := w) (H := (S m).h) (σ := S m) tab 0 (x := x) (fun t e => by subst e; exact hlooks t (tmp_looks hmx))
 have hy0 := opnd_rel (a := a) (ρ := ρ) (F := F) (w := w) (H := (S m).h) (σ := S m) tab t (x := y) (fun t e => by subst e; exact hlooks t (tmp_looks hmy))
 rw [hx] at hx0
 obtain ⟨b, N, hb, hv⟩ := hx0
 have hyc := cellsOf_rel hy0 hy
 obtain ⟨c, T', hc, hcn, hcr⟩ := hh id b N hb _ hl
 have hlc := All2.length hcr
 simp only [List.length_replicate] at hlc
 have hly := All2.length hyc
 have hrun := run_storeAt (P := P) (p := 0) hti hc (by omega) (by omega) (one_all hyc hlv)
 have hset : ∀ j, (listed.setIfInBounds i true).getD j false = true ↔ j = i ∨ listed.getD j false = true := fun j => listed_set (by rw [M.size]; exact hilt)
 have hFw : ∀ k, F k → (w.setRow b (splice c 0 (a.eval y).cells.toList).toArray).heap[k]? = w.heap[k]? := fun k hk' => setRow_other w b k _ (fun e => (ok.own id b N hb).2.2 (e ▸ hk'))
 have hshr : Shape (S m).h (S m).h := fun id T s es h => ⟨es, h, rfl⟩
 have hszw : (w.setRow b (splice c 0 (a.eval y).cells.toList).toArray).heap.size = w.heap.size := by simp
 have hsp : splice c 0 (a.eval y).cells.toList = (a.eval y).cells.toList := by
  unfold splice
  rw [List.drop_of_length_le (by omega)]; simp
 unfold wpOp
 rw [ho]
 have hw : Region.wanted o (yielded ops a.tmps) = true := by simp [Region.wanted, hguard]
 simp only [hw, if_true]
 left
 simp only [Nat.zero_mul, Nat.zero_add] at hv
 refine wp_skipped (w' := w.setRow b (splice c 0 (a.eval y).cells.toList).toArray) (by simp [execOp, hop, hv, hrun]) ?_
 rw [hdst]
 refine hK _ _ ⟨by simpa using M.size, fun j oj hj hoj e he hb => (hset _).2 ?_, fun j hj => ?_, ρ, F, ?_, hsz, hdf, fun t => ?_, fun id' b' N' hid ob hl' => ?_, fun id' x' hid => ?_, fun j id' ys' g1 g2 g3 => ?_, k1, k2, hk.trans ⟨rfl, rfl, rfl, by simp, fun k hk' => setRow_other w b k _ (fun e => (ok.own id b N hb).2.1 (e ▸ hk'))⟩⟩
 ·rcases (hset j).1 hj with rfl | hj
  ·rw [ho] at hoj; cases hoj; exact .inr (hedges e he hb)
  ·exact .inr (M.closed j oj hj hoj e he hb)
 ·rcases (hset j).1 hj with rfl | hj
  ·exact h2
  ·exact M.pre j hj
 ·exact ⟨ok.glob.mono (fun _ h => h) hFw, fun k hk => by rw [hszw]; exact ok.keep k hk, fun k hk => by rw [hszw]; exact ok.comm k hk, fun i k M hi => by rw [hszw]; exact ok.own i k M hi, ok.inj⟩
 ·rcases htm t with ⟨i', o', ⟨him', hi'⟩, ho', hd', hr⟩ | ⟨hno, hr⟩
  ·exact .inl ⟨i', o', ⟨him', (hset i').2 (.inr hi')⟩, ho', hd', ARel.shape hFw hshr hr⟩
  ·refine .inr ⟨fun j oj hj hoj => ?_, ARel.shape hFw hshr hr⟩
   rcases (hset j).1 hj with rfl | hj
   ·rw [ho] at hoj; cases hoj; rw [hdst]; simp
   ·exact hno j oj hj hoj
 ·by_cases e : id' = id
  ·subst e
   rw [hb] at hid; cases hid
   rw [hl] at hl'; cases hl'
   refine ⟨splice c 0 (a.eval y).cells.toList, T', setRow_heap w b _ _ T' _ hc, by rw [length_splice (by omega)]; exact hcn, ?_⟩
   rw [hsp]
   exact All2.of_get (by rw [List.length_replicate]; omega) fun j u cc _ hcc => by
    have := List.mem_of_getElem? hcc
    rw [List.mem_replicate] at this
    rw [this.2]; trivial
  ·have hne : b' ≠ b := fun h => by subst h; exact e (ok.inj id' id _ _ _ hid hb)
   exact ORel.shape hFw hshr (setRow_other w b b' _ hne) (hh id' b' N' hid ob hl')
 ·rcases hdom id' x' hid with h | ⟨j, v, news, ob, ⟨hjm, hj⟩, hp, hob⟩
  ·exact .inl h
  ·exact .inr ⟨j, v, news, ob, ⟨hjm, (hset j).2 (.inr hj)⟩, hp, hob⟩
 ·rcases (hset j).1 g2 with rfl | g4
  ·rw [hWi] at g3; cases g3
   refine ⟨b, N, hb, splice c 0 (a.eval y).cells.toList, T', setRow_heap w b _ _ T' _ hc, by rw [length_splice (by omega)]; exact hcn, ?_⟩
   have hcast := All2.mono (fun _ _ => CRel.shape hFw hshr) hyc
   exact (congrArg (fun l => All2 (CRel ρ F (w.setRow b (splice c 0 (a.eval y).cells.toList).toArray) (S m).h) l ys) hsp).mpr hcast
  ·obtain ⟨b', N', hb', ho'⟩ := hwr j id' ys' g1 g4 g3
   have hne : b' ≠ b := fun h => by
    subst h
    have := ok.inj id' id _ _ _ hb' hb
    subst this
    have hji := hW.inj j i _ _ _ g3 hWi
    rw [hji] at g4
    exact hun' g4
   exact ⟨b', N', hb', ORel.shape hFw hshr (setRow_other w b b' _ hne) ho'⟩
theorem extract_yields {P : Program} {o : Oper} {x : Operand} {k : Nat} {a : Act} {w : World} {K : Act → World → Prop} (ho : o.op = .extract x k) (h : o.wp P a w K (fun _ _ _ => False)) :
  ∃ v, (∀ w', (execOp a.eval o).run P w' = .ok (.value v) w') ∧ K (a.put o.dst v) w := by
 unfold Oper.wp at h
 have e : ∀ w', (execOp a.eval o).run P w' = ((do return Next.value (← Instr.extract (a.eval x) k)) : Sem Next).run P w' := fun w' => by simp [execOp, ho]
 rw [e] at h
 simp only [e]
 unfold Instr.extract at h ⊢
 cases hv : a.eval x with
 | tuple vs =>
  rw [hv] at h
  simp only at h ⊢
  cases hk : vs[k]? with
  | some v =>
   rw [hk] at h
   exact ⟨v, fun w' => by simp, by simpa [Oper.upon] using h⟩
  | none =>
   rw [hk] at h
   simp [stuck, Oper.upon] at h
 | _ =>
  rw [hv] at h
  simp [stuck, Oper.upon] at h
theorem yields {P : Program} {o : Oper} {a : Act} {w : World} {K : Act → World → Prop} (hy : isYield o = true) (h : o.wp P a w K (fun _ _ _ => False)) :
  ∃ v, (∀ w', (execOp a.eval o).run P w' = .ok (.value v) w') ∧ K (a.put o.dst v) w := by
 unfold isYield at hy
 split at hy
 ·rename_i t k ho _; exact extract_yields ho h
 ·rename_i x ho _
  have e : ∀ w', (execOp a.eval o).run P w' = .ok (.value (a.eval x)) w' := fun w' => by simp [execOp, ho]
  refine ⟨a.eval x, e, ?_⟩
  unfold Oper.wp at h
  rw [e] at h
  exact h
 ·cases hy
def junkT (ops : Array Oper) : List Nat → St → St
 | [], σ => σ
 | i :: U, σ => match ops[i]? with
  | some o => junkT ops U (σ.put o.dst .junk)
  | none => junkT ops U σ
theorem junkT_h (ops : Array Oper) : ∀ (U : List Nat) (σ : St), (junkT ops U σ).h = σ.h ∧ (junkT ops U σ).n = σ.n
 | [], σ => ⟨rfl, rfl⟩
 | i :: U, σ => by
  simp only [junkT]
  split
  ·obtain ⟨h1, h2⟩ := junkT_h ops U (σ.put _ .junk)
   exact ⟨h1.trans (put_h _ _ _), h2.trans (put_n _ _ _)⟩
  ·exact junkT_h ops U σ
theorem junkT_get (ops : Array Oper) (t : Nat) : ∀ (U : List Nat) (σ : St), (junkT ops U σ).get t = .junk ∨ ((∀ i ∈ U, ∀ o, ops[i]? = some o → o.dst ≠ some t) ∧ (junkT ops U σ).get t = σ.get t)
 | [], σ => .inr ⟨fun i hi => (by cases hi), rfl⟩
 | i :: U, σ => by
  simp only [junkT]
  split
  ·rename_i o ho
   rcases junkT_get ops t U (σ.put o.dst .junk) with h | ⟨h1, h2⟩
   ·exact .inl h
   ·cases hd : o.dst with
    | none =>
     rw [hd] at h2
     refine .inr ⟨fun j hj oj hoj => ?_, ?_⟩
     ·rcases List.mem_cons.1 hj with rfl | hj
      ·rw [ho] at hoj; cases hoj; rw [hd]; simp
      ·exact h1 j hj oj hoj
     ·exact h2
    | some d =>
     rw [hd] at h2
     by_cases e : d = t
     ·subst e
      rw [get_put_same] at h2
      exact .inl h2
     ·rw [get_put_other _ _ e] at h2
      refine .inr ⟨fun j hj oj hoj => ?_, ?_⟩
      ·rcases List.mem_cons.1 hj with rfl | hj
       ·rw [ho] at hoj; cases hoj; rw [hd]; simpa using e
       ·exact h1 j hj oj hoj
      ·exact h2
  ·rename_i ho
   rcases junkT_get ops t U σ with h | ⟨h1, h2⟩
   ·exact .inl h
   ·refine .inr ⟨fun j hj oj hoj => ?_, h2⟩
    rcases List.mem_cons.1 hj with rfl | hj
    ·rw [ho] at hoj; cases hoj
    ·exact h1 j hj oj hoj
theorem Mid.doneU {P : Program} {ops : Array Oper} {m : Nat} {S : Nat → St} {p : Nat → Option (AV × Heap)} {W : Nat → Option (Nat × List C)} {V : Nat → Prop} {F0 : Base} {w0 : World} {listed : Array Bool} {a : Act} {w : World} (T : Text P ops m S p) (D : DrawOk ops m 0)
  (M : Mid ops m 0 S p W V F0 w0 listed a w) {U : List Nat} (hall : ∀ i, i < m → listed.getD i false = true ∨ i ∈ U) : Holds' V F0 w0 (junkT ops U (S m)) a w := by
 obtain ⟨ρ, F, ok, hsz, hdf, htm, hh, hdom, hwr, h1, h2, hk⟩ := M.rel
 obtain ⟨jh, jn⟩ := junkT_h ops U (S m)
 refine ⟨⟨ρ, F, ⟨ok, by rw [hsz, jn]; exact (T.n (Nat.le_refl m)).symm, fun t => ?_, fun id b N hid ob hl => ?_, fun id x hid => ?_, hdf⟩, ⟨h1.1, h1.2.1, fun id p hp ⟨o, ho⟩ => h1.2.2 id p hp (T.pins (Nat.le_refl m) (F0.num id p hp) (by rw [jh] at ho; exact ho))⟩, h2⟩, hk⟩
 ·rw [jh]
  rcases junkT_get ops t U (S m) with hj | ⟨hno', hg'⟩
  ·rw [hj]; trivial
  ·rw [hg']
   rcases T.get (Nat.le_refl m) t with ⟨j, o, hj, ho, hd, hg⟩ | ⟨hno, hg⟩
   ·rcases htm t with ⟨i, o', ⟨him, hi⟩, ho', hd', hr⟩ | ⟨hno, _⟩
    ·have := D.uniq i j o' o t him hj ho' ho hd' hd
     subst this
     rw [hg]; exact hr
    ·rcases hall j hj with h | h
     ·exact absurd hd (hno j o h ho)
     ·exact absurd hd (hno' j h o ho)
   ·rcases htm t with ⟨i, o', ⟨him, hi⟩, ho', hd', hr⟩ | ⟨_, hr⟩
    ·exact absurd hd' (hno i o' him ho')
    ·rw [hg]; exact hr
 ·rw [jh] at hl ⊢; exact hh id b N hid ob hl
 ·rw [jh]
  rcases hdom id x hid with ⟨ob, hob⟩ | ⟨i, v, news, ob, ⟨him, hi⟩, hp, hob⟩
  ·exact ⟨ob, T.sub m (Nat.zero_le _) (Nat.le_refl _) id ob hob⟩
  ·exact ⟨ob, T.sub_news him hp id ob hob⟩
theorem any_list {P : Program} {ops : Array Oper} {Q : Exit → Act → World → Prop} : ∀ (L : List Nat) (listed : Array Bool) (a : Act) (w : World) (fuel : Nat), listed.size = ops.size → left ops.size listed ≤ fuel →
  (∀ i, i < ops.size → (listed.getD i false = true ↔ i ∉ L)) → (∀ i ∈ L, i < ops.size) → L.Nodup →
  (∀ L1 k L2, L = L1 ++ k :: L2 → (∀ o, ops[k]? = some o → ∀ e ∈ o.after, Region.binds .any e = true → e.on < ops.size ∧ e.on ∉ k :: L2) ∧
   ∀ i ∈ L2, ∀ o, ops[i]? = some o → ∀ X : Nat → Prop, (∀ k ok, X k → ops[k]? = some ok → ∀ e ∈ ok.after, Region.binds .any e = true → X e.on) → (∀ e ∈ o.after, Region.binds .any e = true → X e.on) → X k) →
  (∀ k ok, listed.getD k false = true → ops[k]? = some ok → ∀ e ∈ ok.after, Region.binds .any e = true → listed.getD e.on false = true) →
  wpOps P ops Q L a w → wpAny P .any ops Q fuel listed a w
 | [], listed, a, w, fuel, hs, hf, hl, _, _, _, _, h => by
  have hr : Region.ready .any ops listed = [] := by
   rw [List.eq_nil_iff_forall_not_mem]
   intro j hj
   have hlt := ready_lt hj
   have := (unlisted (by omega)).1 (mem_ready.1 hj).1
   exact this ((hl j hlt).2 (by simp))
  cases fuel with
  | zero => exact ⟨hr, by simpa [wpOps] using h⟩
  | succ fuel => exact ⟨fun _ => by simpa [wpOps] using h, fun i hi => by rw [hr] at hi; cases hi⟩
 | k :: L, listed, a, w, fuel, hs, hf, hl, hlt, hnd, hch, hcl, h => by
  have hk := hlt k (by simp)
  have hkun : ¬ listed.getD k false = true := fun e => (hl k hk).1 e (by simp)
  have hleft := left_set (n := ops.size) hk hs hkun
  cases fuel with
  | zero => omega
  | succ fuel =>
   rw [wpOps_cons] at h
   have honly : ∀ i ∈ Region.ready .any ops listed, i = k := fun i hi => by
    have hilt := ready_lt hi
    obtain ⟨hun, o, ho, hall⟩ := mem_ready.1 hi
    have h1 := (unlisted (by omega)).1 hun
    have h2 : i ∈ k :: L := Classical.byContradiction fun e => h1 ((hl i hilt).2 e)
    rcases List.mem_cons.1 h2 with h3 | h3
    ·exact h3
    ·have := (hch [] k L rfl).2 i h3 o ho (fun j => listed.getD j false = true) hcl hall
     exact absurd this hkun
   have hkr : k ∈ Region.ready .any ops listed := by
    obtain ⟨o, ho⟩ : ∃ o, ops[k]? = some o := ⟨_, Array.getElem?_eq_getElem hk⟩
    refine mem_ready.2 ⟨(unlisted (by omega)).2 hkun, o, ho, fun e he hb => ?_⟩
    obtain ⟨h1, h2⟩ := (hch [] k L rfl).1 o ho e he hb
    exact (hl _ h1).2 h2
   refine ⟨fun h0 => (by rw [h0] at hkr; cases hkr), fun i hi => ?_⟩
   have := honly i hi
   subst this
   have hset : ∀ j, (listed.setIfInBounds i true).getD j false = true ↔ j = i ∨ listed.getD j false = true := fun j => listed_set (by omega)
   refine wpOp_mono (fun a' w' h' => any_list L _ a' w' fuel (by simpa using hs) (by omega) (fun j hj => ?_) (fun j hj => hlt j (by simp [hj])) (List.nodup_cons.1 hnd).2 (fun L1 k' L2 e => hch (i :: L1) k' L2 (by rw [e]; rfl)) (fun j oj hj hoj e he hb => ?_) h') h
   ·rw [hset]
    constructor
    ·rintro (rfl | h)
     ·exact (List.nodup_cons.1 hnd).1
     ·have := (hl j hj).1 h; simp at this; exact this.2
    ·intro h
     by_cases e : j = i
     ·exact .inl e
     ·exact .inr ((hl j hj).2 (by simp [e, h]))
   ·rw [hset]
    rcases (hset j).1 hj with rfl | hj
    ·obtain ⟨_, o, ho, hall⟩ := mem_ready.1 hi
     rw [ho] at hoj; cases hoj
     exact .inr (hall e he hb)
    ·exact .inr (hcl j oj hj hoj e he hb)
theorem filter_suffix {f g : Nat → Bool} : ∀ {l : List Nat}, l.Pairwise (fun a b => f a = true → f b = true) → l.filter f <:+ l
 | [], _ => by simp
 | x :: l, h => by
  rw [List.pairwise_cons] at h
  have ih := filter_suffix (f := f) (g := g) h.2
  cases hx : f x with
  | false => rw [List.filter_cons_of_neg (by simp [hx])]; exact ih.trans (List.suffix_cons _ _)
  | true =>
   rw [List.filter_cons_of_pos hx]
   have : l.filter f = l := List.filter_eq_self.2 fun y hy => h.1 y hy hx
   rw [this]
   exact List.suffix_refl _
theorem any_prefix {P : Program} {ops : Array Oper} {Q : Exit → Act → World → Prop} {tab : Tab} {m q : Nat} {S : Nat → St} {p : Nat → Option (AV × Heap)} {W : Nat → Option (Nat × List C)} {V : Nat → Prop} {F0 : Base} {w0 : World} (T : Text P ops m S p) (D : DrawOk ops m q) (hmq : m + q ≤ ops.size) (hW : Stores tab P ops m q (S m) W)
  (hlt : ∀ U, U ≠ [] → U <:+ lateRs ops m q → ∀ a w, Holds' V F0 w0 (junkT ops U (S m)) a w → wpOps P ops Q (m :: (U ++ List.range' (m + 1) (ops.size - (m + 1)))) a w)
  (hQp : ∀ c a w, ¬ Q (.panic c) a w) (hend : ∀ a w, Holds' V F0 w0 { S m with h := wHeap (S m).h (wList W m q) } a w → wpOps P ops Q (List.range' (m + q) (ops.size - (m + q))) a w) :
  ∀ (fuel : Nat) (listed : Array Bool) (a : Act) (w : World), left ops.size listed ≤ fuel → Mid ops m q S p W V F0 w0 listed a w → wpAny P .any ops Q fuel listed a w := by
 intro fuel
 have fin : ∀ (fuel : Nat) (listed : Array Bool) (a : Act) (w : World), left ops.size listed ≤ fuel → Mid ops m q S p W V F0 w0 listed a w → (∀ i, i < m + q → listed.getD i false = true) → wpAny P .any ops Q fuel listed a w := by
  intro fuel listed a w hf M hall
  refine any_tail D (ops.size - (m + q)) (m + q) listed a w fuel (by omega) (Nat.le_refl _) ?_ M.size (fun i => ⟨M.pre i, hall i⟩) (hend a w (M.done T D hW hall))
  refine Nat.le_trans ?_ hf
  have hpre := M.pre
  clear hall M
  generalize m + q = m at *
  have : ((List.range' m (ops.size - m)).filter fun i => !listed.getD i false).length ≤ left ops.size listed := by
   unfold left
   have hsub : List.Sublist (List.range' m (ops.size - m)) (List.range ops.size) := by
    rw [List.range_eq_range', show ops.size = m + (ops.size - m) by omega, ← List.range'_append_1, Nat.zero_add, show m + (ops.size - m) - m = ops.size - m by omega]
    exact List.sublist_append_right _ _
   exact (hsub.filter _).length_le
  have e : ((List.range' m (ops.size - m)).filter fun i => !listed.getD i false) = List.range' m (ops.size - m) := by
   rw [List.filter_eq_self]
   intro i hi
   rw [List.mem_range'_1] at hi
   cases hb : listed.getD i false with
   | false => rfl
   | true => have := hpre i hb; omega
  rw [e, List.length_range'] at this
  exact this
 induction fuel with
 | zero =>
  intro listed a w hf M
  refine fin 0 listed a w hf M fun i hi => ?_
  cases hb : listed.getD i false with
  | true => rfl
  | false =>
   have hlt := left_set (n := ops.size) (by omega) M.size (by simp [hb] : ¬ listed.getD i false = true)
   omega
 | succ fuel ih =>
  intro listed a w hf M
  by_cases hall : ∀ i, i < m + q → listed.getD i false = true
  ·exact fin _ listed a w hf M hall
  by_cases hlr : ∃ l, isLate ops m q l = true ∧ l ∈ Region.ready .any ops listed
  ·obtain ⟨l, hlate, hl⟩ := hlr
   obtain ⟨ol, hol, hlm, hop, hg, _, hap⟩ := D.late l hlate
   obtain ⟨o, ho, h⟩ := Mid.step T D M hl hlm (Q := fun _ _ _ => False) (K := fun a' w' => Mid ops m q S p W V F0 w0 (listed.setIfInBounds l true) a' w') (fun _ _ h => h)
   rw [hol] at ho; cases ho
   have hw : Region.wanted ol (yielded ops a.tmps) = true := by simp [Region.wanted, hg]
   rcases h with ⟨_, h⟩ | ⟨h, _⟩
   ·obtain ⟨v, hv, hM⟩ := yields hop h
    have hun := (unlisted (by rw [M.size]; exact ready_lt hl)).1 (mem_ready.1 hl).1
    exact wpAny_first hol D.nosel (fun c a w h => absurd h (hQp c _ w)) fuel listed a w (fun j oj hoj hne hju hno => by
      rcases hap j oj hoj hne with ⟨e, he, hb, hon⟩ | ⟨e, he, hb, hon⟩ | h
      ·exact absurd hon (hno e he hb)
      ·obtain ⟨_, o2, ho2, hed⟩ := mem_ready.1 hl
       rw [hol] at ho2; cases ho2
       have := hed e he hb
       rw [hon] at this
       rw [Array.getD_eq_getD_getElem?] at this hju
       cases hx : listed[j]? with
       | none => rw [hx] at this; simp at this
       | some b => rw [hx] at this hju; simp at this hju; rw [this] at hju; cases hju
      ·exact h) hl (.inl ⟨hw, hv⟩)
     (ih _ _ _ (by have := left_set (n := ops.size) (ready_lt hl) M.size hun; omega) hM)
   ·rw [hw] at h; cases h
  ·refine ⟨fun hnil => ?_, fun i hi => ?_⟩
   ·-- the first that has not come up is ready
    exfalso
    have key : ∀ n, n ≤ m + q → ∀ i, i < n → listed.getD i false = true := by
     intro n
     induction n with
     | zero => intro _ i hi; omega
     | succ n ihn =>
      intro hn i hi
      by_cases e : i < n
      ·exact ihn (by omega) i e
      ·have : i = n := by omega
       subst this
       cases hb : listed.getD i false with
       | true => rfl
       | false =>
        obtain ⟨o, ho⟩ : ∃ o, ops[i]? = some o := ⟨_, Array.getElem?_eq_getElem (by omega)⟩
        have hm : i ∈ Region.ready .any ops listed := mem_ready.2 ⟨(unlisted (by rw [M.size]; omega)).2 (by simp [hb]), o, ho, fun e he hbd => ihn (by omega) _ (D.acyclic i o ho e he hbd)⟩
        rw [hnil] at hm; cases hm
    exact hall (key (m + q) (Nat.le_refl _))
   ·have hilt := ready_lt hi
    obtain ⟨hun, o, ho, hedges⟩ := mem_ready.1 hi
    have hun' := (unlisted (by rw [M.size]; exact hilt)).1 hun
    have hmono : ∀ j, j < m + q → isLate ops m q j = true → (∀ j, j < m + q → isLate ops m q j = false → listed.getD j false = true) → listed.getD j false = true := by
     intro j hj hlj hn
     cases hb : listed.getD j false with
     | true => rfl
     | false =>
      exfalso
      obtain ⟨ol, hol, hjm, _, _, hdep, _⟩ := D.late j hlj
      refine hlr ⟨j, hlj, mem_ready.2 ⟨(unlisted (by rw [M.size]; have := T.le; omega)).2 (by simp [hb]), ol, hol, fun e he hbd => hn _ ?_ (hdep e he hbd)⟩⟩
      have := D.acyclic j ol hol e he hbd
      omega
    rcases Nat.lt_or_ge i (m + q) with him0 | h
    case inr =>
     have hn : ∀ j, j < m + q → isLate ops m q j = false → ¬ (i = m + q ∧ isLateR ops m q j = true) → listed.getD j false = true := by
      intro j hj hnl hnr
      rcases D.tail i o j h ho (by omega) with hlt | hlt | hlt
      ·rw [hnl] at hlt; cases hlt
      ·exact absurd hlt hnr
      ·exact hlt (fun j => listed.getD j false = true) M.closed hedges
     by_cases hex : i = m + q ∧ ∃ l, isLateR ops m q l = true
     case neg =>
      exfalso
      refine hall fun j hj => ?_
      have hn' : ∀ j, j < m + q → isLate ops m q j = false → listed.getD j false = true := fun j hj hnl => hn j hj hnl (fun e => hex ⟨e.1, j, e.2⟩)
      cases hlj : isLate ops m q j with
      | false => exact hn' j hj hlj
      | true => exact hmono j hj hlj hn'
     obtain ⟨him, l0, hl0⟩ := hex
     obtain ⟨hq0, _⟩ := lateR_lt hl0
     subst hq0
     simp only [Nat.add_zero] at him
     subst him
     have hnl : ∀ j, j < i → isLate ops i 0 j = false := fun j hj => D.excl l0 j hl0 hj
     have hpre : ∀ j, j < i → isLateR ops i 0 j = false → listed.getD j false = true := fun j hj hr => hn j (by omega) (hnl j hj) (fun e => by rw [hr] at e; cases e.2)
     let U := (lateRs ops i 0).filter fun j => !listed.getD j false
     have hUm : ∀ j, j ∈ U ↔ isLateR ops i 0 j = true ∧ ¬ listed.getD j false = true := fun j => by
      show j ∈ (lateRs ops i 0).filter _ ↔ _
      rw [List.mem_filter, lateRs_mem]; simp
     have hsorted : (lateRs ops i 0).Pairwise (· < ·) := by
      unfold lateRs
      exact List.Pairwise.filter _ List.pairwise_lt_range
     have hsuf : U <:+ lateRs ops i 0 := by
      refine filter_suffix (g := fun _ => true) ?_
      refine List.Pairwise.imp_of_mem (fun {x y} hx hy hlt hfx => ?_) hsorted
      simp only [Bool.not_eq_true', ] at hfx ⊢
      cases hb : listed.getD y false with
      | false => rfl
      | true =>
       obtain ⟨oy, hoy⟩ : ∃ o, ops[y]? = some o := ⟨_, Array.getElem?_eq_getElem (by have := (lateR_lt (lateRs_mem.1 hy)).2; omega)⟩
       have := D.chain y oy x (lateRs_mem.1 hy) (lateRs_mem.1 hx) hoy hlt (fun j => listed.getD j false = true) M.closed (M.closed y oy hb hoy)
       rw [hfx] at this; cases this
     have hUne : U ≠ [] := by
      intro h0
      refine hall fun j hj => ?_
      cases hr : isLateR ops i 0 j with
      | false => exact hpre j (by omega) hr
      | true =>
       cases hb : listed.getD j false with
       | true => rfl
       | false =>
        have : j ∈ U := (hUm j).2 ⟨hr, by simp [hb]⟩
        rw [h0] at this; cases this
     have hH := M.doneU T D (U := U) (fun j hj => by
      cases hr : isLateR ops i 0 j with
      | false => exact .inl (hpre j hj hr)
      | true =>
       cases hb : listed.getD j false with
       | true => exact .inl rfl
       | false => exact .inr ((hUm j).2 ⟨hr, by simp [hb]⟩))
     have hwp := hlt U hUne hsuf a w hH
     rw [wpOps_cons] at hwp
     have hUlt : ∀ j ∈ U, j < i := fun j hj => (lateR_lt ((hUm j).1 hj).1).2
     have hUs : U.Pairwise (· < ·) := List.Pairwise.filter _ hsorted
     have hset : ∀ j, (listed.setIfInBounds i true).getD j false = true ↔ j = i ∨ listed.getD j false = true := fun j => listed_set (by rw [M.size]; exact hilt)
     refine wpOp_mono (fun a' w' h' => any_list (U ++ List.range' (i + 1) (ops.size - (i + 1))) _ a' w' fuel (by simpa using M.size) (by have := left_set (n := ops.size) hilt M.size hun'; omega) (fun j hj => ?_) (fun j hj => ?_) ?_ (fun L1 k L2 e => ?_) (fun j oj hj hoj e he hb => ?_) h') hwp
     ·rw [hset, List.mem_append, List.mem_range'_1]
      constructor
      ·intro h1 h2
       rcases h1 with rfl | hlj <;> rcases h2 with hu | hr
       ·have := hUlt j hu; omega
       ·omega
       ·exact ((hUm j).1 hu).2 hlj
       ·have := M.pre j hlj; omega
      ·intro hno
       by_cases e : j = i
       ·exact .inl e
       ·right
        rcases Nat.lt_or_ge j i with hji | hji
        ·cases hb : listed.getD j false with
         | true => rfl
         | false =>
          cases hr : isLateR ops i 0 j with
          | false => have := hpre j hji hr; rw [hb] at this; cases this
          | true => exact absurd (.inl ((hUm j).2 ⟨hr, by simp [hb]⟩)) hno
        ·exact absurd (.inr ⟨by omega, by omega⟩) hno
     ·rw [List.mem_append, List.mem_range'_1] at hj
      rcases hj with hj | hj
      ·have := hUlt j hj; omega
      ·omega
     ·rw [List.nodup_append]
      refine ⟨hUs.imp (fun h => Nat.ne_of_lt h), List.nodup_range' .., fun x hx y hy e => ?_⟩
      subst e
      rw [List.mem_range'_1] at hy
      have := hUlt x hx; omega
     ·have hkin : k ∈ U ++ List.range' (i + 1) (ops.size - (i + 1)) := by rw [e]; simp
      rw [List.mem_append, List.mem_range'_1] at hkin
      have hsplit : (∃ U2, U = L1 ++ k :: U2 ∧ L2 = U2 ++ List.range' (i + 1) (ops.size - (i + 1))) ∨ (i + 1 ≤ k ∧ k < ops.size ∧ ∀ j ∈ L2, k < j ∧ j < ops.size) := by
       rcases List.append_eq_append_iff.1 e with ⟨as, h1, h2⟩ | ⟨bs, h1, h2⟩
       ·right
        have hs2 : (List.range' (i + 1) (ops.size - (i + 1))).Pairwise (· < ·) := List.pairwise_lt_range' ..
        rw [h2, List.pairwise_append] at hs2
        have hk : k ∈ List.range' (i + 1) (ops.size - (i + 1)) := by rw [h2]; simp
        rw [List.mem_range'_1] at hk
        refine ⟨hk.1, by omega, fun j hj => ⟨(List.pairwise_cons.1 hs2.2.1).1 j hj, ?_⟩⟩
        have : j ∈ List.range' (i + 1) (ops.size - (i + 1)) := by rw [h2]; simp [hj]
        rw [List.mem_range'_1] at this; omega
       ·cases bs with
        | nil =>
         right
         simp only [List.nil_append] at h2
         have hs2 : (List.range' (i + 1) (ops.size - (i + 1))).Pairwise (· < ·) := List.pairwise_lt_range' ..
         rw [← h2] at hs2
         have hk : k ∈ List.range' (i + 1) (ops.size - (i + 1)) := by rw [← h2]; simp
         rw [List.mem_range'_1] at hk
         refine ⟨hk.1, by omega, fun j hj => ⟨(List.pairwise_cons.1 hs2).1 j hj, ?_⟩⟩
         have : j ∈ List.range' (i + 1) (ops.size - (i + 1)) := by rw [← h2]; simp [hj]
         rw [List.mem_range'_1] at this; omega
        | cons b bs =>
         simp only [List.cons_append, List.cons.injEq] at h2
         obtain ⟨rfl, h2⟩ := h2
         exact .inl ⟨bs, h1, h2⟩
      rcases hsplit with ⟨U2, hU1, hL2⟩ | ⟨hk1, hk2, hj2⟩
      ·have hkU : k ∈ U := by rw [hU1]; simp
       have hki := hUlt k hkU
       have hs2 := hUs
       rw [hU1, List.pairwise_append] at hs2
       have hs3 := (List.pairwise_cons.1 hs2.2.1).1
       refine ⟨fun ok hok e' he' hb' => ?_, fun j hj oj hoj X hX hdeps => ?_⟩
       ·have hac := D.acyclic k ok hok e' he' hb'
        refine ⟨by omega, fun hm => ?_⟩
        rcases List.mem_cons.1 hm with h3 | h3
        ·omega
        ·rw [hL2, List.mem_append, List.mem_range'_1] at h3
         rcases h3 with h3 | h3
         ·have := hs3 _ h3; omega
         ·omega
       ·rw [hL2, List.mem_append, List.mem_range'_1] at hj
        rcases hj with hj | hj
        ·have hjU : j ∈ U := by rw [hU1]; simp [hj]
         exact D.chain j oj k ((hUm j).1 hjU).1 ((hUm k).1 hkU).1 hoj (hs3 j hj) X hX hdeps
        ·rcases D.tail j oj k (by omega) hoj (by omega) with h5 | h5 | h5
         ·rw [hnl k hki] at h5; cases h5
         ·omega
         ·exact h5 X hX hdeps
      ·refine ⟨fun ok hok e' he' hb' => ?_, fun j hj oj hoj X hX hdeps => ?_⟩
       ·have hac := D.acyclic k ok hok e' he' hb'
        refine ⟨by omega, fun hm => ?_⟩
        rcases List.mem_cons.1 hm with h3 | h3
        ·omega
        ·have := (hj2 _ h3).1; omega
       ·have := hj2 j hj
        rcases D.tail j oj k (by omega) hoj this.1 with h5 | h5 | h5
        ·obtain ⟨_, _, hkm, _⟩ := D.late k h5
         omega
        ·omega
        ·exact h5 X hX hdeps
     ·rw [hset]
      rcases (hset j).1 hj with rfl | hj
      ·rw [ho] at hoj; cases hoj; exact .inr (hedges e he hb)
      ·exact .inr (M.closed j oj hj hoj e he hb)
    rcases Nat.lt_or_ge i m with him | him
    case inr => exact Mid.store T D hW M hi him him0 (fun a' w' M' => ih _ _ _ (by have := left_set (n := ops.size) hilt M.size hun'; omega) M')
    obtain ⟨o', ho', h⟩ := Mid.step T D M hi him (Q := Q) (K := wpAny P .any ops Q fuel (listed.setIfInBounds i true)) (fun a' w' M' => ih _ _ _ (by have := left_set (n := ops.size) hilt M.size hun'; omega) M')
    unfold wpOp
    rw [ho']
    simp only
    rcases h with ⟨hw, h⟩ | ⟨hw, h⟩
    ·rw [hw]; simp only [if_true]; exact .inl h
    ·rw [hw]; simp only [Bool.false_eq_true, if_false]; exact h
end Go.Ab
