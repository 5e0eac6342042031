/- The abstract machine: from a function's body to its contract. -/
import Derived.Test.YtllfapkcniadgaaAbCode
set_option linter.unusedVariables false
namespace Go.Ab
open Go.RowKit

/-! ### What is handed back -/
def namesOf : List C → List Nat
  | [] => []
  | c :: r => nameOf c ++ namesOf r

/-- One cell, as it is and as it is told: data; or a row that goes over to the caller, its k-th. -/
def dC (h news : Heap) : C → C → Prop
  | a, .d x => match lend h a with
    | some y => y = x
    | none => False
  | .own id s, .own j s' => match look h id, look news j with
    | some (.row T s1 es), some (.row T' s1' es') => s = s' ∧ T = T' ∧ s1 = s1' ∧ es = es'
    | _, _ => False
  | .nil s, .own j s' => match look news j with
    | some (.row T s1 es) => s = s' ∧ s1 = s' ∧ es = []
    | _ => False
  | .vrow id s n, .vrow j s' n' => match look h id, look news j with
    | some (.var cs), some (.var cs') => s = s' ∧ n = n' ∧ cs.length = cs'.length
    | _, _ => False
  | _, .junk => True
  | _, _ => False

def pairC : C → C → List (Nat × Nat)
  | .own id _, .own j _ => [(j, id)]
  | .vrow id _ _, .vrow j _ _ => [(j, id)]
  | _, _ => []

def dCs (h news : Heap) : List C → List C → Prop
  | [], [] => True
  | a :: as, b :: bs => dC h news a b ∧ dCs h news as bs
  | _, _ => False

def pairCs : List C → List C → List (Nat × Nat)
  | a :: as, b :: bs => pairC a b ++ pairCs as bs
  | _, _ => []

def cellsSV : SV → List C
  | .c x => [x]
  | .agg cs => cs
def cellsSVs : List SV → List C
  | [] => []
  | v :: r => cellsSV v ++ cellsSVs r

def sameSV : SV → SV → Bool
  | .c _, .c _ => true
  | .agg cs, .agg ds => Nat.beq cs.length ds.length
  | _, _ => false
def sameSVs : List SV → List SV → Bool
  | [], [] => true
  | a :: as, b :: bs => sameSV a b && sameSVs as bs
  | _, _ => false

def nodupB : List Nat → Bool
  | [] => true
  | x :: r => !(r.any (Nat.beq x)) && nodupB r

/-- The cells of the variables behind the slices that go over. -/
def inn (h news : Heap) : List C → List C → List C × List C
  | .vrow id _ _ :: as, .vrow j _ _ :: bs => match look h id, look news j with
    | some (.var cs), some (.var cs') => (cs ++ (inn h news as bs).1, cs' ++ (inn h news as bs).2)
    | _, _ => inn h news as bs
  | _ :: as, _ :: bs => inn h news as bs
  | _, _ => ([], [])
def noV : List C → Bool
  | [] => true
  | .vrow .. :: _ => false
  | _ :: r => noV r

/-- The results, as told. -/
def Dlv (h news : Heap) (act exp : List SV) : Prop :=
  match inn h news (cellsSVs act) (cellsSVs exp) with
  | (A, B) => match sameSVs act exp, nodupB (namesOf (cellsSVs act ++ A)), nodupB ((pairCs (cellsSVs act ++ A) (cellsSVs exp ++ B)).map (·.1)), noV B with
    | true, true, true, true => dCs h news (cellsSVs act ++ A) (cellsSVs exp ++ B)
    | _, _, _, _ => False

theorem noV_spec : ∀ {l : List C}, noV l = true → ∀ id s n, C.vrow id s n ∉ l
  | [], _, _, _, _, h => by cases h
  | c :: r, hn, id, s, n, h => by
    cases c <;> simp only [noV] at hn
    case vrow => cases hn
    all_goals
      rcases List.mem_cons.1 h with h | h
      · cases h
      · exact noV_spec hn id s n h

theorem sameSVs_len : ∀ {act exp : List SV}, sameSVs act exp = true → (cellsSVs act).length = (cellsSVs exp).length
  | [], [], _ => rfl
  | a :: as, b :: bs, h => by
    simp only [sameSVs, Bool.and_eq_true] at h
    have := sameSVs_len h.2
    cases a <;> cases b <;> simp [sameSV, cellsSVs, cellsSV] at h ⊢
    · omega
    · omega
  | [], _ :: _, h => by simp [sameSVs] at h
  | _ :: _, [], h => by simp [sameSVs] at h

theorem nodupB_spec : ∀ {l : List Nat}, nodupB l = true → l.Nodup
  | [], _ => List.nodup_nil
  | x :: r, h => by
    simp only [nodupB, Bool.and_eq_true, Bool.not_eq_true'] at h
    refine List.nodup_cons.2 ⟨fun hm => ?_, nodupB_spec h.2⟩
    have : r.any (Nat.beq x) = true := List.any_eq_true.2 ⟨x, hm, Nat.beq_refl x⟩
    rw [h.1] at this; cases this

theorem pair_names : ∀ {as bs : List C} {j id : Nat}, (j, id) ∈ pairCs as bs → id ∈ namesOf as
  | [], _, j, id, h => by simp [pairCs] at h
  | a :: as, [], j, id, h => by simp [pairCs] at h
  | a :: as, b :: bs, j, id, h => by
    simp only [pairCs, List.mem_append] at h
    simp only [namesOf, List.mem_append]
    rcases h with h | h
    · left
      unfold pairC at h
      split at h
      · simp only [List.mem_singleton, Prod.mk.injEq] at h; obtain ⟨_, rfl⟩ := h; simp [nameOf]
      · simp only [List.mem_singleton, Prod.mk.injEq] at h; obtain ⟨_, rfl⟩ := h; simp [nameOf]
      · cases h
    · exact .inr (pair_names h)

theorem pair_disj : ∀ {as bs : List C}, (namesOf as).Nodup → ∀ {a b : C}, (a, b) ∈ as.zip bs → pairC a b = [] → ∀ id ∈ nameOf a, ∀ j, (j, id) ∉ pairCs as bs
  | [], _, _, a, b, h => by simp at h
  | _ :: _, [], _, a, b, h => by simp at h
  | a0 :: as, b0 :: bs, hn, a, b, h => by
    intro hp id hid j hj
    simp only [namesOf, List.nodup_append] at hn
    simp only [List.zip_cons_cons, List.mem_cons] at h
    simp only [pairCs, List.mem_append] at hj
    rcases h with h | h
    · cases h
      rw [hp] at hj
      rcases hj with hj | hj
      · cases hj
      · exact hn.2.2 id hid id (pair_names hj) rfl
    · rcases hj with hj | hj
      · have h1 : id ∈ nameOf a0 := by
          unfold pairC at hj
          split at hj
          · simp only [List.mem_singleton, Prod.mk.injEq] at hj; obtain ⟨_, rfl⟩ := hj; simp [nameOf]
          · simp only [List.mem_singleton, Prod.mk.injEq] at hj; obtain ⟨_, rfl⟩ := hj; simp [nameOf]
          · cases hj
        have h2 : id ∈ namesOf as := by
          have : ∀ {as bs : List C} {a b : C}, (a, b) ∈ as.zip bs → id ∈ nameOf a → id ∈ namesOf as := by
            intro as
            induction as with
            | nil => intro bs a b h; simp at h
            | cons x as ih =>
              intro bs a b h hi
              cases bs with
              | nil => simp at h
              | cons y bs =>
                simp only [List.zip_cons_cons, List.mem_cons] at h
                simp only [namesOf, List.mem_append]
                rcases h with h | h
                · cases h; exact .inl hi
                · exact .inr (ih h hi)
          exact this h hid
        exact hn.2.2 id h1 id h2 rfl
      · exact pair_disj hn.2.1 h hp id hid j hj

theorem pair_uniq : ∀ {as bs : List C}, (namesOf as).Nodup → ∀ {i j id : Nat}, (i, id) ∈ pairCs as bs → (j, id) ∈ pairCs as bs → i = j
  | [], _, _, i, j, id, h, _ => by simp [pairCs] at h
  | _ :: _, [], _, i, j, id, h, _ => by simp [pairCs] at h
  | a :: as, b :: bs, hn, i, j, id, hi, hj => by
    simp only [namesOf, List.nodup_append] at hn
    simp only [pairCs, List.mem_append] at hi hj
    have key : ∀ {k}, (k, id) ∈ pairC a b → id ∈ nameOf a := by
      intro k h
      unfold pairC at h
      split at h
      · simp only [List.mem_singleton, Prod.mk.injEq] at h; obtain ⟨_, rfl⟩ := h; simp [nameOf]
      · simp only [List.mem_singleton, Prod.mk.injEq] at h; obtain ⟨_, rfl⟩ := h; simp [nameOf]
      · cases h
    rcases hi with hi | hi <;> rcases hj with hj | hj
    · unfold pairC at hi hj
      split at hi
      · simp only [List.mem_singleton, Prod.mk.injEq] at hi hj; rw [hi.1, hj.1]
      · simp only [List.mem_singleton, Prod.mk.injEq] at hi hj; rw [hi.1, hj.1]
      · cases hi
    · exact absurd rfl (hn.2.2 id (key hi) id (pair_names hj))
    · exact absurd rfl (hn.2.2 id (key hj) id (pair_names hi))
    · exact pair_uniq hn.2.1 hi hj

theorem look_pairs : ∀ {l : List (Nat × Nat)} {j id : Nat}, (l.map (·.1)).Nodup → (j, id) ∈ l → look l j = some id
  | [], j, id, _, h => by cases h
  | (k, x) :: r, j, id, hn, h => by
    simp only [List.map_cons, List.nodup_cons] at hn
    simp only [List.mem_cons, Prod.mk.injEq] at h
    simp only [look]
    rcases h with ⟨rfl, rfl⟩ | h
    · rw [Nat.beq_refl]; rfl
    · have hne : Nat.beq k j = false := by
        cases hb : Nat.beq k j with
        | false => rfl
        | true =>
          have := Nat.eq_of_beq_eq_true hb
          subst this
          exact absurd (List.mem_map.2 ⟨_, h, rfl⟩) hn.1
      rw [hne]
      exact look_pairs hn.2 h

theorem dCs_zip {h news : Heap} : ∀ {as bs : List C}, dCs h news as bs → ∀ {a b : C}, (a, b) ∈ as.zip bs → dC h news a b
  | [], _, _, a, b, hm => by simp at hm
  | _ :: _, [], _, a, b, hm => by simp at hm
  | a0 :: as, b0 :: bs, hd, a, b, hm => by
    simp only [List.zip_cons_cons, List.mem_cons] at hm
    rcases hm with hm | hm
    · cases hm; exact hd.1
    · exact dCs_zip hd.2 hm

theorem dCs_split {h news : Heap} : ∀ {as bs as' bs' : List C}, as.length = bs.length → dCs h news (as ++ as') (bs ++ bs') → dCs h news as bs ∧ dCs h news as' bs'
  | [], [], _, _, _, hd => ⟨trivial, hd⟩
  | a :: as, b :: bs, _, _, hl, hd => by
    have := dCs_split (by simpa using hl) hd.2
    exact ⟨⟨hd.1, this.1⟩, this.2⟩
  | [], _ :: _, _, _, hl, _ => by simp at hl
  | _ :: _, [], _, _, hl, _ => by simp at hl

theorem pair_zip : ∀ {as bs : List C} {j id : Nat}, (j, id) ∈ pairCs as bs → (∃ s s', (C.own id s, C.own j s') ∈ as.zip bs) ∨ ∃ s n s' n', (C.vrow id s n, C.vrow j s' n') ∈ as.zip bs
  | [], _, j, id, h => by simp [pairCs] at h
  | _ :: _, [], j, id, h => by simp [pairCs] at h
  | a :: as, b :: bs, j, id, h => by
    simp only [pairCs, List.mem_append] at h
    simp only [List.zip_cons_cons, List.mem_cons]
    rcases h with h | h
    · unfold pairC at h
      split at h
      · rename_i id' s j' s'
        simp only [List.mem_singleton, Prod.mk.injEq] at h
        obtain ⟨rfl, rfl⟩ := h
        exact .inl ⟨s, s', .inl rfl⟩
      · rename_i id' s n j' s' n'
        simp only [List.mem_singleton, Prod.mk.injEq] at h
        obtain ⟨rfl, rfl⟩ := h
        exact .inr ⟨s, n, s', n', .inl rfl⟩
      · cases h
    · rcases pair_zip h with ⟨s, s', h⟩ | ⟨s, n, s', n', h⟩
      · exact .inl ⟨s, s', .inr h⟩
      · exact .inr ⟨s, n, s', n', .inr h⟩

theorem zip_pair : ∀ {as bs : List C} {id s j s' : Nat}, (C.own id s, C.own j s') ∈ as.zip bs → (j, id) ∈ pairCs as bs
  | [], _, _, _, _, _, h => by simp at h
  | _ :: _, [], _, _, _, _, h => by simp at h
  | a :: as, b :: bs, id, s, j, s', h => by
    simp only [List.zip_cons_cons, List.mem_cons] at h
    simp only [pairCs, List.mem_append]
    rcases h with h | h
    · cases h; left; simp [pairC]
    · exact .inr (zip_pair h)

theorem zip_pairV : ∀ {as bs : List C} {id s n j s' n' : Nat}, (C.vrow id s n, C.vrow j s' n') ∈ as.zip bs → (j, id) ∈ pairCs as bs
  | [], _, _, _, _, _, _, _, h => by simp at h
  | _ :: _, [], _, _, _, _, _, _, h => by simp at h
  | a :: as, b :: bs, id, s, n, j, s', n', h => by
    simp only [List.zip_cons_cons, List.mem_cons] at h
    simp only [pairCs, List.mem_append]
    rcases h with h | h
    · cases h; left; simp [pairC]
    · exact .inr (zip_pairV h)

/-- From the cells to the values. -/
theorem svs_of_cells {R R' : Value → C → Prop} : ∀ {act exp : List SV} {vs : List Value} , sameSVs act exp = true →
    All2 (fun v x => match x with | .c x => R v x | .agg cs => ∃ us : List Value, v = .agg us.toArray ∧ All2 R us cs) vs act →
    (∀ a b, (a, b) ∈ (cellsSVs act).zip (cellsSVs exp) → ∀ v, R v a → R' v b) →
    All2 (fun v x => match x with | .c x => R' v x | .agg cs => ∃ us : List Value, v = .agg us.toArray ∧ All2 R' us cs) vs exp
  | [], [], [], _, _, _ => trivial
  | a :: as, b :: bs, v :: vs, hs, ⟨h1, h2⟩, hR => by
    simp only [sameSVs, Bool.and_eq_true] at hs
    cases a with
    | c x =>
      cases b with
      | agg ds => simp [sameSV] at hs
      | c y =>
        refine ⟨hR x y (by simp [cellsSVs, cellsSV]) v h1, svs_of_cells hs.2 h2 fun a b hm => hR a b (by simp only [cellsSVs, cellsSV, List.cons_append, List.nil_append, List.zip_cons_cons, List.mem_cons]; exact .inr hm)⟩
    | agg cs =>
      cases b with
      | c y => simp [sameSV] at hs
      | agg ds =>
        have hl : cs.length = ds.length := Nat.eq_of_beq_eq_true hs.1
        obtain ⟨us, hv, hu⟩ := h1
        have hz : (cellsSVs (.agg cs :: as)).zip (cellsSVs (.agg ds :: bs)) = cs.zip ds ++ (cellsSVs as).zip (cellsSVs bs) := by
          simp only [cellsSVs, cellsSV]
          exact List.zip_append hl
        rw [hz] at hR
        refine ⟨⟨us, hv, ?_⟩, svs_of_cells hs.2 h2 fun a b hm => hR a b (List.mem_append.2 (.inr hm))⟩
        refine All2.of_get (by rw [All2.length hu, hl]) fun i u d hi hd => ?_
        obtain ⟨c, hc⟩ : ∃ c, cs[i]? = some c := ⟨_, List.getElem?_eq_getElem (by have := (List.getElem?_eq_some_iff.1 hd).1; omega)⟩
        obtain ⟨u', hu', hr⟩ := All2.get hu hc
        rw [hi] at hu'; cases hu'
        exact hR c d (List.mem_append.2 (.inl (List.mem_of_getElem? (by rw [List.getElem?_zip_eq_some]; exact ⟨hc, hd⟩)))) u hr
  | [], _ :: _, _, hs, _, _ => by simp [sameSVs] at hs
  | _ :: _, [], _, hs, _, _ => by simp [sameSVs] at hs
  | [], [], _ :: _, _, h, _ => h.elim
  | _ :: _, _ :: _, [], _, h, _ => h.elim

theorem svrel_iff {ρ : Map} {F : Nat → Prop} {w : World} {H : Heap} : (SVRel ρ F w H) = (fun v x => match x with | .c x => CRel ρ F w H v x | .agg cs => ∃ us : List Value, v = .agg us.toArray ∧ All2 (CRel ρ F w H) us cs) := by
  funext v x; cases x <;> rfl

theorem inn_skip {h news : Heap} {a b : C} {as bs : List C} (hn : ∀ id s n j s' n', ¬ (a = .vrow id s n ∧ b = .vrow j s' n')) : inn h news (a :: as) (b :: bs) = inn h news as bs := by
  conv => lhs; rw [inn.eq_def]
  split
  · rename_i id s n as' j s' n' bs' e1 e2
    cases e1; cases e2
    exact absurd ⟨rfl, rfl⟩ (hn _ _ _ _ _ _)
  · rename_i e1 e2; cases e1; cases e2; rfl
  · rename_i hx; exact absurd rfl (hx a as b bs rfl)

theorem inn_vv {h news : Heap} {id s n j s' n' : Nat} {as bs cs cs' : List C} (h1 : look h id = some (.var cs)) (h2 : look news j = some (.var cs')) : inn h news (.vrow id s n :: as) (.vrow j s' n' :: bs) = (cs ++ (inn h news as bs).1, cs' ++ (inn h news as bs).2) := by
  simp only [inn, h1, h2]

theorem dC_vv {h news : Heap} {id s n j s' n' : Nat} (hd : dC h news (.vrow id s n) (.vrow j s' n')) : ∃ cs cs', look h id = some (.var cs) ∧ look news j = some (.var cs') ∧ s = s' ∧ n = n' ∧ cs.length = cs'.length := by
  simp only [dC] at hd
  split at hd
  · rename_i cs cs' e1 e2; exact ⟨cs, cs', e1, e2, hd⟩
  · exact hd.elim

theorem inn_spec {h news : Heap} : ∀ {as bs : List C}, dCs h news as bs → (inn h news as bs).1.length = (inn h news as bs).2.length ∧
    ∀ id s n j s' n' cs cs', (C.vrow id s n, C.vrow j s' n') ∈ as.zip bs → look h id = some (.var cs) → look news j = some (.var cs') → ∀ p ∈ cs.zip cs', p ∈ (inn h news as bs).1.zip (inn h news as bs).2
  | [], [], _ => ⟨rfl, fun _ _ _ _ _ _ _ _ hm => by simp at hm⟩
  | [], _ :: _, hd => hd.elim
  | _ :: _, [], hd => hd.elim
  | a :: as, b :: bs, hd => by
    obtain ⟨ih1, ih2⟩ := inn_spec hd.2
    by_cases hv : ∃ id s n j s' n', a = .vrow id s n ∧ b = .vrow j s' n'
    · obtain ⟨id, s, n, j, s', n', rfl, rfl⟩ := hv
      obtain ⟨cs, cs', e1, e2, _, _, hl⟩ := dC_vv hd.1
      rw [inn_vv e1 e2]
      refine ⟨by simp [ih1, hl], fun id2 s2 n2 j2 s2' n2' cs2 cs2' hm l1 l2 p hp => ?_⟩
      rw [List.zip_append hl, List.mem_append]
      simp only [List.zip_cons_cons, List.mem_cons] at hm
      rcases hm with hm | hm
      · cases hm
        rw [e1] at l1; rw [e2] at l2; cases l1; cases l2
        exact .inl hp
      · exact .inr (ih2 _ _ _ _ _ _ _ _ hm l1 l2 p hp)
    · rw [inn_skip fun id s n j s' n' hx => hv ⟨id, s, n, j, s', n', hx⟩]
      refine ⟨ih1, fun id2 s2 n2 j2 s2' n2' cs2 cs2' hm l1 l2 p hp => ?_⟩
      simp only [List.zip_cons_cons, List.mem_cons, Prod.mk.injEq] at hm
      rcases hm with hm | hm
      · exact absurd ⟨_, _, _, _, _, _, hm.1.symm, hm.2.symm⟩ hv
      · exact ih2 _ _ _ _ _ _ _ _ hm l1 l2 p hp

/-- **The results go over to the caller.** -/
theorem deliver {F0 : Nat → Prop} {w0 : World} {σ : St} {a : Act} {w : World} {news : Heap} {act exp : List SV} (hF0 : ∀ b, F0 b → b < w0.heap.size) {ρ : Map} {F : Nat → Prop} (hs : SRel (fun b => b < w0.heap.size) ρ F σ a w) (h1 : ∀ b, F0 b → F b) (h2 : ∀ b, F b → F0 b ∨ w0.heap.size ≤ b)
    (hk : Keep (fun b => b < w0.heap.size) w0 w) {vs : List Value} (hv : All2 (SVRel ρ F w σ.h) vs act) (hd : Dlv σ.h news act exp) :
    ∃ ρ' F', Below w0.heap.size w0 w ∧ (∀ b, F' b → b < w.heap.size) ∧ (∀ b, F0 b → F' b) ∧ (∀ b, F' b → F0 b ∨ w0.heap.size ≤ b) ∧ (∀ id b N, ρ' id = some (b, N) → w0.heap.size ≤ b ∧ b < w.heap.size ∧ ¬ F' b) ∧
      (∀ i j b N M, ρ' i = some (b, N) → ρ' j = some (b, M) → i = j) ∧ (∀ id p, ρ' id = some p → ∃ o, look news id = some o) ∧ All2 (SVRel ρ' F' w news) vs exp ∧ HRel ρ' F' w news := by
  unfold Dlv at hd
  split at hd
  rename_i A1 B1 hinn
  split at hd
  case h_2 => exact hd.elim
  rename_i hsame hn1 hn2 hnv
  have hnod := nodupB_spec hn1
  have hjs := nodupB_spec hn2
  have hl0 := sameSVs_len hsame
  have hd0 := (dCs_split hl0 hd).1
  obtain ⟨hl1, hin⟩ := inn_spec hd0
  rw [hinn] at hl1 hin
  have hz0 : ∀ p, p ∈ (cellsSVs act).zip (cellsSVs exp) → p ∈ (cellsSVs act ++ A1).zip (cellsSVs exp ++ B1) := fun p hp => by
    rw [List.zip_append hl0]; exact List.mem_append.2 (.inl hp)
  have hz1 : ∀ id s n j s' n' cs cs', (C.vrow id s n, C.vrow j s' n') ∈ (cellsSVs act ++ A1).zip (cellsSVs exp ++ B1) → look σ.h id = some (.var cs) → look news j = some (.var cs') → ∀ p ∈ cs.zip cs', p ∈ (cellsSVs act ++ A1).zip (cellsSVs exp ++ B1) := fun id s n j s' n' cs cs' hm l1 l2 p hp => by
    rw [List.zip_append hl0] at hm ⊢
    rcases List.mem_append.1 hm with hm | hm
    · exact List.mem_append.2 (.inr (hin _ _ _ _ _ _ _ _ hm l1 l2 p hp))
    · exact absurd (List.of_mem_zip hm).2 (noV_spec hnv _ _ _)
  generalize cellsSVs act ++ A1 = A at *
  generalize cellsSVs exp ++ B1 = B at *
  generalize hpairs : pairCs A B = pairs at *
  let ρ' : Map := fun j => match look pairs j with | some id => ρ id | none => none
  let F' : Nat → Prop := fun b => F b ∨ ∃ id N, ρ id = some (b, N) ∧ ∀ j, (j, id) ∉ pairs
  have hρ' : ∀ j p, ρ' j = some p → ∃ id, (j, id) ∈ pairs ∧ ρ id = some p := fun j p h => by
    simp only [ρ'] at h
    split at h
    · rename_i id hl; exact ⟨id, look_mem hl, h⟩
    · cases h
  have hrow : ∀ j id, (j, id) ∈ pairs → (∃ T s es, look σ.h id = some (.row T s es) ∧ look news j = some (.row T s es)) ∨ ∃ cs cs', look σ.h id = some (.var cs) ∧ look news j = some (.var cs') ∧ cs.length = cs'.length ∧ ∀ p ∈ cs.zip cs', p ∈ A.zip B := fun j id hm => by
    rw [← hpairs] at hm
    rcases pair_zip hm with ⟨s, s', hz⟩ | ⟨s, n, s', n', hz⟩
    · have := dCs_zip hd hz
      simp only [dC] at this
      split at this
      · rename_i T s1 es T' s1' es' e1 e2
        obtain ⟨_, rfl, rfl, rfl⟩ := this
        exact .inl ⟨_, _, _, e1, e2⟩
      · exact this.elim
    · obtain ⟨cs, cs', e1, e2, _, _, hl⟩ := dC_vv (dCs_zip hd hz)
      exact .inr ⟨cs, cs', e1, e2, hl, hz1 _ _ _ _ _ _ _ _ hz e1 e2⟩
  have hFF : ∀ b, F b → F' b := fun b h => .inl h
  have hnotF' : ∀ j id b N, (j, id) ∈ pairs → ρ id = some (b, N) → ¬ F' b := fun j id b N hm hr hF => by
    rcases hF with hF | ⟨id', N', hr', hno⟩
    · exact (hs.ok.own id b N hr).2.2 hF
    · have := hs.ok.inj id id' b N N' hr hr'
      subst this
      exact hno j hm
  have cell : ∀ x y, (x, y) ∈ A.zip B → ∀ v, CRel ρ F w σ.h v x → CRel ρ' F' w news v y := by
    intro x y hz v hr
    have hdc := dCs_zip hd hz
    cases y with
    | d z =>
      have hp : pairC x (.d z) = [] := by cases x <;> rfl
      simp only [dC] at hdc
      split at hdc
      · rename_i z' hl
        subst hdc
        refine DRel.mono (fun b hb => ?_) (fun _ _ => rfl) (lend_rel' (Sub.refl σ.h) hs.obj hr hl)
        rcases hb with hb | ⟨id, N, hid, hρ⟩
        · exact .inl hb
        · refine .inr ⟨id, N, hρ, fun j hj => ?_⟩
          rw [← hpairs] at hj
          exact pair_disj hnod hz hp id hid j hj
      · exact hdc.elim
    | nil s => cases x <;> simp [dC] at hdc
    | own j s' =>
      cases x with
      | own id s =>
        simp only [dC] at hdc
        split at hdc
        · rename_i T s1 es T' s1' es' e1 e2
          obtain ⟨rfl, rfl, rfl, rfl⟩ := hdc
          have hm : (j, id) ∈ pairs := by rw [← hpairs]; exact zip_pair hz
          have hlk : look pairs j = some id := look_pairs hjs hm
          obtain ⟨T2, es2, hl2, hv2⟩ := hr
          rw [e1] at hl2; cases hl2
          refine ⟨T, es, e2, ?_⟩
          rcases hv2 with hv2 | ⟨b, N, cap, hb, r⟩
          · exact .inl hv2
          · exact .inr ⟨b, N, cap, by simp only [ρ', hlk]; exact hb, r⟩
        · exact hdc.elim
      | d z => simp [dC] at hdc
      | nil s =>
        simp only [dC] at hdc
        split at hdc
        · rename_i T s1 es e2
          obtain ⟨rfl, rfl, rfl⟩ := hdc
          exact ⟨T, [], e2, .inl ⟨hr, rfl⟩⟩
        · exact hdc.elim
      | sub id s st n => simp [dC] at hdc
      | ref id i s off => simp [dC] at hdc
      | vrow id s n => simp [dC] at hdc
      | junk => simp [dC] at hdc
    | sub j s st n => cases x <;> simp [dC] at hdc
    | ref j i s off => cases x <;> simp [dC] at hdc
    | vrow j s n =>
      cases x with
      | vrow id s1 n1 =>
        obtain ⟨_, _, _, _, rfl, rfl, _⟩ := dC_vv hdc
        have hm : (j, id) ∈ pairs := by rw [← hpairs]; exact zip_pairV hz
        have hlk : look pairs j = some id := look_pairs hjs hm
        obtain ⟨b, N, hb, r⟩ := hr
        exact ⟨b, N, by simp only [ρ', hlk]; exact hb, r⟩
      | d z => simp [dC] at hdc
      | nil s => simp [dC] at hdc
      | own id s => simp [dC] at hdc
      | sub id s st n => simp [dC] at hdc
      | ref id i s off => simp [dC] at hdc
      | junk => simp [dC] at hdc
    | junk => trivial
  refine ⟨ρ', F', ⟨hk.os, hk.tape, hk.output, hk.size, hk.block⟩, fun b hb => ?_, fun b hb => .inl (h1 b hb), fun b hb => ?_, fun j b N hj => ?_, fun i j b N M hi hj => ?_, fun j p hj => ?_, ?_, fun j b N hj o ho => ?_⟩
  · rcases hb with hb | ⟨id, N, hr, _⟩
    · exact hs.ok.comm b hb
    · exact (hs.ok.own id b N hr).1
  · rcases hb with hb | ⟨id, N, hr, _⟩
    · exact h2 b hb
    · right; have := (hs.ok.own id b N hr).2.1; omega
  · obtain ⟨id, hm, hr⟩ := hρ' j _ hj
    obtain ⟨h3, h4, h5⟩ := hs.ok.own id b N hr
    exact ⟨by omega, h3, hnotF' j id b N hm hr⟩
  · obtain ⟨id, hm, hr⟩ := hρ' i _ hi
    obtain ⟨id', hm', hr'⟩ := hρ' j _ hj
    have := hs.ok.inj id id' b N M hr hr'
    subst this
    rw [← hpairs] at hm hm'
    exact pair_uniq hnod hm hm'
  · obtain ⟨id, hm, hr⟩ := hρ' j _ hj
    rcases hrow j id hm with ⟨T, s, es, _, h⟩ | ⟨cs, cs', _, h, _⟩
    · exact ⟨_, h⟩
    · exact ⟨_, h⟩
  · rw [svrel_iff] at hv ⊢
    refine svs_of_cells hsame hv fun x y hz v hr => ?_
    exact cell x y (hz0 _ hz) v hr
  · obtain ⟨id, hm, hr⟩ := hρ' j _ hj
    rcases hrow j id hm with ⟨T, s, es, hl, hln⟩ | ⟨cs, cs', hl, hln, hlen, hzz⟩
    · rw [hln] at ho; cases ho
      obtain ⟨c, hc, hcn, hle, hse, hcr⟩ := hs.obj id b N hr _ hl
      refine ⟨c, hc, hcn, hle, hse, fun i e k x he hx => ?_⟩
      obtain ⟨v, hv1, hv2⟩ := hcr i e k x he hx
      exact ⟨v, hv1, DRel.mono hFF (fun _ _ => rfl) hv2⟩
    · rw [hln] at ho; cases ho
      obtain ⟨c, T, hc, hcn, hcr⟩ := hs.obj id b N hr _ hl
      refine ⟨c, T, hc, hcn, All2.of_get (by rw [All2.length hcr, hlen]) fun i u d hi hd2 => ?_⟩
      obtain ⟨x, hx⟩ : ∃ x, cs[i]? = some x := ⟨_, List.getElem?_eq_getElem (by have := (List.getElem?_eq_some_iff.1 hd2).1; omega)⟩
      obtain ⟨u', hu', hrr⟩ := All2.get hcr hx
      rw [hi] at hu'; cases hu'
      exact cell x d (hzz _ (List.mem_of_getElem? (by rw [List.getElem?_zip_eq_some]; exact ⟨hx, hd2⟩))) u hrr

/-! ### The results, out of a frame -/
def resV (tab : Tab) (σ : St) : ResultVar → Option SV
  | .tmp t => match σ.get t with
    | .s v => some v
    | .tup _ => none
  | .cell a t => match look tab t, σ.get a with
    | some i, .s (.c (.ref id 0 _ off)) => match look σ.h id with
      | some (.var cs) => match Nat.beq ((cs.drop off).take i.size).length i.size, i.agg, (cs.drop off).take i.size with
        | true, true, l => some (.agg l)
        | true, false, [c] => some (.c c)
        | _, _, _ => none
      | _ => none
    | _, _ => none

def resL (tab : Tab) (σ : St) : List ResultVar → Option (List SV)
  | [] => some []
  | r :: rs => match resV tab σ r, resL tab σ rs with
    | some v, some vs => some (v :: vs)
    | _, _ => none

theorem resV_run {P : Program} {tab : Tab} (htab : tabCheck P tab = true) {S : Nat → Prop} {ρ : Map} {F : Nat → Prop} {σ : St} {a : Act} {w : World} (hs : SRel S ρ F σ a w) {r : ResultVar} {x : SV} (h : resV tab σ r = some x) :
    ∃ v, (match r with | .tmp t => (pure (a.tmps.getD t undef) : Sem Value) | .cell c t => do loadVar t (← asAddr (a.tmps.getD c undef))).run P w = .ok v w ∧ SVRel ρ F w σ.h v x := by
  cases r with
  | tmp t =>
    simp only [resV] at h
    split at h
    · rename_i v hv
      cases h
      have := hs.tmp t
      rw [hv] at this
      exact ⟨_, rfl, this⟩
    · cases h
  | cell c t =>
    simp only [resV] at h
    split at h
    · rename_i i id s off hi hg
      split at h
      · rename_i cs hl
        have h0 := hs.tmp c
        rw [hg] at h0
        have hc := cells_var (s := s) i.size hs.obj hl h0
        have hti := tabOk_look htab hi
        have hgen : ∀ {l : List C}, l = (cs.drop off).take i.size → l.length = i.size → ∀ {r : SV}, ((i.agg = true ∧ r = .agg l) ∨ (i.agg = false ∧ ∃ c, l = [c] ∧ r = .c c)) →
            ∃ v, (do loadVar t (← asAddr (a.tmps.getD c undef)) : Sem Value).run P w = .ok v w ∧ SVRel ρ F w σ.h v r := by
          intro l hle hlen r hr
          rw [← hle] at hc
          obtain ⟨k1, k2⟩ := run_loadAt hti hlen hc
          obtain ⟨b, o, hp, _⟩ := hc
          have hrun : ∀ u, (Instr.loadAt t (a.tmps.getD c undef)).run P w = .ok u w → (do loadVar t (← asAddr (a.tmps.getD c undef)) : Sem Value).run P w = .ok u w := by
            intro u hu
            rw [hp] at hu ⊢
            simpa [Instr.loadAt, Instr.sureAddr, asAddr] using hu
          rcases hr with ⟨ha, rfl⟩ | ⟨ha, c, hlc, rfl⟩
          · obtain ⟨u, hu, hr⟩ := k1 ha; exact ⟨u, hrun u hu, hr⟩
          · obtain ⟨u, hu, hr⟩ := k2 c ha hlc; exact ⟨u, hrun u hu, hr⟩
        split at h
        · rename_i hbeq hagg
          cases h
          exact hgen rfl (Nat.eq_of_beq_eq_true hbeq) (.inl ⟨hagg, rfl⟩)
        · rename_i c0 hbeq hagg hlist
          cases h
          exact hgen rfl (Nat.eq_of_beq_eq_true hbeq) (.inr ⟨hagg, c0, hlist, rfl⟩)
        · cases h
      · cases h
    · cases h

theorem resL_run {P : Program} {tab : Tab} (htab : tabCheck P tab = true) {S : Nat → Prop} {ρ : Map} {F : Nat → Prop} {σ : St} {a : Act} {w : World} (hs : SRel S ρ F σ a w) : ∀ {rs : List ResultVar} {xs : List SV}, resL tab σ rs = some xs →
    ∃ vs, (rs.mapM (m := Sem) fun (r : ResultVar) => (match r with | .tmp t => pure (a.tmps.getD t undef) | .cell c t => do loadVar t (← asAddr (a.tmps.getD c undef)) : Sem Value)).run P w = .ok vs w ∧ All2 (SVRel ρ F w σ.h) vs xs
  | [], xs, h => by simp [resL] at h; subst h; exact ⟨[], by simp, trivial⟩
  | r :: rs, xs, h => by
    simp only [resL] at h
    split at h
    · rename_i v vs h1 h2
      cases h
      obtain ⟨u, hu, hr⟩ := resV_run htab hs h1
      obtain ⟨us, hus, hrs⟩ := resL_run htab hs h2
      refine ⟨u :: us, ?_, hr, hrs⟩
      simp only [List.mapM_cons, Sem.run_bind, hu, Result.andThen_ok, hus, Sem.run_pure]
    · cases h

def expOf : AV → List SV
  | .s v => [v]
  | .tup l => l

def tupOk : AV → Bool
  | .s _ => true
  | .tup l => !(Nat.beq l.length 1)

/-- At the end: the results are what is told. -/
def retP (tab : Tab) (fn : Func) (r : AV) (news : Heap) (σ : St) : Prop := match tupOk r, resL tab σ fn.results.toList with
  | true, some act => Dlv σ.h news act (expOf r)
  | _, _ => False

def entryT : Nat → List DV → List (Nat × AV)
  | _, [] => []
  | k, v :: r => (k, .s v.sv) :: entryT (k + 1) r

def entry (n : Nat) (args : List DV) : St := { n, t := entryT 0 args, h := [] }

theorem look_entryT : ∀ (args : List DV) (k t : Nat), look (entryT k args) t = if t < k then none else (args[t - k]?).map fun v => AV.s v.sv
  | [], k, t => by simp [entryT, look]
  | v :: r, k, t => by
    simp only [entryT, look]
    cases hb : Nat.beq k t with
    | true =>
      have := Nat.eq_of_beq_eq_true hb
      subst this
      simp
    | false =>
      have hne := Nat.ne_of_beq_eq_false hb
      simp only [cond_false]
      rw [look_entryT r (k + 1) t]
      by_cases h : t < k
      · rw [if_pos h, if_pos (by omega)]
      · rw [if_neg h, if_neg (by omega), show t - k = (t - (k + 1)) + 1 by omega]
        simp

theorem dv_sv {ρ : Map} {F : Nat → Prop} {w : World} {H : Heap} {v : Value} {x : DV} (h : DVRel F w v x) : SVRel ρ F w H v x.sv := by
  cases x with
  | c x => exact h
  | agg cs => obtain ⟨vs, hv, h⟩ := h; exact ⟨vs, hv, all2_map C.d (fun _ _ h => h) h⟩

def exitP (tab : Tab) (fn : Func) (r : AV) (news : Heap) (e : Exit) (σ : St) : Prop := match e with
  | .normal => retP tab fn r news σ
  | .ret => retP tab fn r news σ
  | _ => False

/-- Data that some world holds. -/
def Real (x : D) : Prop := ∃ F w v, DRel F w v x

theorem Real.len {s : Nat} {es : List (List D)} (h : Real (.slice s es)) : es.length ≤ 9223372036854775807 := by
  obtain ⟨F, w, v, h⟩ := h
  cases h with
  | nilS => simp
  | emptyS => simp
  | slice b off cap s es vs hF hcap hmax => exact Nat.le_trans hcap (by simpa [maxLen] using hmax)

theorem Real.row {s : Nat} {es : List (List D)} (h : Real (.slice s es)) {e : List D} (he : e ∈ es) : e.length = s ∧ ∀ x ∈ e, Real x := by
  obtain ⟨F, w, v, h⟩ := h
  cases h with
  | nilS => simp at he
  | emptyS => simp at he
  | slice b off cap s es vs hF hcap hmax hlen hc hd =>
    refine ⟨hlen e he, fun x hx => ?_⟩
    obtain ⟨i, hi⟩ := List.getElem?_of_mem he
    obtain ⟨j, hj⟩ := List.getElem?_of_mem hx
    exact ⟨_, _, _, hd i e j x hi hj⟩

def RealL : List D → Prop
  | [] => True
  | [x] => Real x
  | x :: r => Real x ∧ RealL r

def Reals : List DV → Prop
  | [] => True
  | .c x :: r => Real x ∧ Reals r
  | .agg cs :: r => RealL cs ∧ Reals r

theorem reals_of {F : Nat → Prop} {w : World} : ∀ {vs : List Value} {args : List DV}, All2 (DVRel F w) vs args → Reals args
  | [], [], _ => trivial
  | v :: vs, .c x :: r, h => ⟨⟨_, _, _, h.1⟩, reals_of h.2⟩
  | v :: vs, .agg cs :: r, h => by
    refine ⟨?_, reals_of h.2⟩
    obtain ⟨us, _, h1⟩ := h.1
    have : ∀ {us : List Value} {cs : List D}, All2 (DRel F w) us cs → RealL cs := by
      intro us cs
      induction cs generalizing us with
      | nil => intro _; trivial
      | cons c r ih =>
        intro h
        cases us with
        | nil => cases h
        | cons u us =>
          cases r with
          | nil => exact ⟨_, _, _, h.1⟩
          | cons c2 r => exact ⟨⟨_, _, _, h.1⟩, ih h.2⟩
    exact this h1

/-- **A function's contract, from its body.** -/
theorem Fn.intro {P : Program} {tab : Tab} (htab : tabCheck P tab = true) (hm : P.follows .mixedOrders = true) {f : FuncId} {fn : Func} {c : Code} (hf : P.funcs[f]? = some fn) (hb : fn.body = some c) (hent : ∀ as w, (callFunc f as).run P w = .ok (.enter f as) w)
    (hok : codeOk c = true) {args : List DV} {r : AV} {news : Heap} (n : Nat) (hn : fn.ntmps = n) (hlen : Nat.ble args.length n = true) (h : Reals args → fSt (entry n args) (awp P tab c (exitP tab fn r news))) : Fn P f args r news := by
  subst hn
  have hlen := Nat.le_of_ble_eq_true hlen
  refine ⟨hent, fun F w vs hF hargs => ?_⟩
  have h := h (reals_of hargs)
  rw [fSt_eq] at h
  refine calls_of_wp hf hb ?_
  have hl := All2.length hargs
  have hsize : vs.toArray.size = vs.length := by simp
  have hH : Holds' (fun b => b < w.heap.size) F w (entry fn.ntmps args) { tmps := vs.toArray ++ Array.replicate (fn.ntmps - vs.toArray.size) undef, defers := [] } w := by
    refine ⟨⟨fun _ => none, F, ⟨⟨fun _ h => h, hF, fun _ _ _ h => (by cases h), fun _ _ _ _ _ h => (by cases h)⟩, ?_, fun t => ?_, fun _ _ _ h => (by cases h), fun _ _ h => (by cases h), rfl⟩, ⟨fun _ h => h, fun _ h => h⟩, fun _ h => .inl h⟩, Keep.refl _ _⟩
    · simp [entry]; omega
    · simp only [St.get, entry]
      rw [look_entryT, if_neg (by omega), Nat.sub_zero]
      cases ha : args[t]? with
      | none => trivial
      | some v =>
        obtain ⟨u, hu, hr⟩ := All2.get hargs ha
        have hlt : t < vs.length := (List.getElem?_eq_some_iff.1 hu).1
        have hget : (vs.toArray ++ Array.replicate (fn.ntmps - vs.toArray.size) undef).getD t undef = u := by
          rw [Array.getD_eq_getD_getElem?, Array.getElem?_append_left (by simpa using hlt)]
          simp [hu]
        simp only [Option.map_some]
        rw [hget]
        exact dv_sv hr
  refine awp_sound htab hm c _ _ _ _ _ hok h hH fun e σ a w' hk hh => ?_
  have main : retP tab fn r news σ → a.defers = [] ∧ ∃ v, (results fn a.tmps).run P w' = .ok v w' ∧ ∃ v' ρ' F', Ending.returned v = .returned v' ∧ Left F w r news v' ρ' F' w' := by
    intro hr
    unfold retP at hr
    split at hr
    · rename_i act htup hres
      obtain ⟨⟨ρ, F1, hs, h1, h2⟩, hkp⟩ := hh
      obtain ⟨us, hus, hvs⟩ := resL_run htab hs hres
      obtain ⟨ρ', F', k1, k2, k3, k4, k5, k6, k7, k8, k9⟩ := deliver hF hs h1.1 h2 hkp hvs hr
      have hrun : (results fn a.tmps).run P w' = .ok (if h : us.toArray.size = 1 then us.toArray[0] else .tuple us.toArray) w' := by
        unfold results
        rw [Sem.run_bind, Array.mapM_eq_mapM_toList, Sem.run_map]
        refine (congrArg (fun q : Result (List Value) => (q.andThen fun a w' => Result.ok a.toArray w').andThen fun a w' => (pure (if h : a.size = 1 then a[0] else Value.tuple a) : Sem Value).run P w') (?_ : _ = Result.ok us w')).trans rfl
        exact hus
      refine ⟨hs.defers, _, hrun, _, ρ', F', rfl, ⟨k1, k2, k3, k4, k5, k6, k7, ?_, k9⟩⟩
      cases r with
      | s x =>
        match us, k8 with
        | [u], k8 => exact k8.1
      | tup xs =>
        have hx : us.length = xs.length := All2.length k8
        have hne : us.length ≠ 1 := by
          simp only [tupOk, Bool.not_eq_true'] at htup
          rw [hx]
          exact Nat.ne_of_beq_eq_false htup
        rw [dif_neg (by simpa using hne)]
        exact ⟨us, rfl, k8⟩
    · exact hr.elim
  cases e with
  | normal => exact main hk
  | ret => exact main hk
  | exit i => exact hk.elim
  | goto l => exact hk.elim
  | panic c => exact hk.elim
  | outgrown => exact hk.elim

end Go.Ab
