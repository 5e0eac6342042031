/- Part of the proof: contracts of the functions that the statement reaches. -/
import Derived.Test.YtllfapkcniadgaaS1G
set_option linter.unusedVariables false
namespace Go.Proofs.Ytllfapkcniadgaa
open Go Go.Ab

/-! ### What sending does, in plain lists -/
theorem dlv_eq (m : List Int) (k : Int) : (k ∈ m ∧ dlv m k = m) ∨ (k ∉ m ∧ dlv m k = m ++ [k]) := by
  unfold dlv
  by_cases h : k ∈ m
  · exact .inl ⟨h, by simp [h]⟩
  · exact .inr ⟨h, by simp [h]⟩

/-- What is new in the box: each belongs to a notice and did not stand there before. -/
def Fresh (ids : List Int) : List Int → List Int → Prop
  | _, [] => True
  | m, k :: t => k ∈ ids ∧ k ∉ m ∧ Fresh ids (m ++ [k]) t

theorem Fresh.mono {ids ids' : List Int} (h : ∀ k ∈ ids, k ∈ ids') : ∀ {t m : List Int}, Fresh ids m t → Fresh ids' m t
  | [], _, _ => trivial
  | k :: t, m, hf => ⟨h k hf.1, hf.2.1, Fresh.mono h hf.2.2⟩

theorem Fresh.get {ids : List Int} : ∀ {t m : List Int} {i : Nat} {k : Int}, Fresh ids m t → t[i]? = some k → k ∈ ids ∧ k ∉ m ++ t.take i
  | [], m, i, k, _, h => by simp at h
  | x :: t, m, 0, k, hf, h => by simp at h; subst h; exact ⟨hf.1, by simpa using hf.2.1⟩
  | x :: t, m, i + 1, k, hf, h => by
    have := Fresh.get hf.2.2 (i := i) (by simpa using h)
    simpa using this

structure Sent (m : List Int) (p : List Nt) (r : List Int × List Nt) : Prop where
  ext : ∃ t, r.1 = m ++ t ∧ Fresh (p.map (·.id)) m t
  len : r.2.length ≤ p.length
  all : ∀ n ∈ p, n.id ∈ r.2.map (·.id) ∨ n.id ∈ r.1

theorem Sent.step {m : List Int} {p p' : List Nt} {n : Nt} {r : List Int × List Nt} {m' : List Int} (h : Sent m' p' r) (hm : m' = m ∨ m' = dlv m n.id) (hp : ∀ x ∈ p', x ∈ n :: p) (hl : p'.length ≤ p.length + 1)
    (hall : ∀ x ∈ p, x ∈ p') (hn : n ∈ p' ∨ m' = dlv m n.id) : Sent m (n :: p) r := by
  obtain ⟨t, ht, hf⟩ := h.ext
  have hf' : Fresh ((n :: p).map (·.id)) m' t := hf.mono fun k hk => by
    obtain ⟨x, hx, rfl⟩ := List.mem_map.1 hk
    exact List.mem_map.2 ⟨x, hp x hx, rfl⟩
  refine ⟨?_, by have := h.len; simp; omega, fun x hx => ?_⟩
  · rcases hm with rfl | hm
    · exact ⟨t, ht, hf'⟩
    · rcases dlv_eq m n.id with ⟨_, e⟩ | ⟨hnot, e⟩
      · rw [hm, e] at ht hf'; exact ⟨t, ht, hf'⟩
      · rw [hm, e] at ht hf'
        exact ⟨n.id :: t, by rw [ht]; simp, by simp, hnot, hf'⟩
  · rcases List.mem_cons.1 hx with rfl | hx
    · rcases hn with hn | hn
      · exact h.all x hn
      · right
        rw [ht, hn]
        rcases dlv_eq m x.id with ⟨hmem, e⟩ | ⟨hnot, e⟩ <;> rw [e]
        · simp [hmem]
        · simp
    · exact h.all x (hall x hx)

theorem send_sent : ∀ (a m : List Int) (rest nx : List Nt), Sent m (rest ++ nx) (send a m rest nx)
  | [], m, rest, nx => ⟨⟨[], by simp [send], trivial⟩, by simp [send]; omega, fun n hn => .inl (by simp only [send, List.map_append, List.mem_append]; rcases List.mem_append.1 hn with h | h <;> simp only [List.mem_map] <;> first | exact .inr ⟨n, h, rfl⟩ | exact .inl ⟨n, h, rfl⟩)⟩
  | x :: a, m, n :: r, nx => by
    have ih := send_sent a (bif x == 0 || x == 1 then dlv m n.id else m) r (bif x == 0 then nx else nx ++ [n])
    rw [send]
    refine ih.step ?_ ?_ ?_ ?_ ?_
    · cases (x == 0 || x == 1) <;> simp
    · intro y hy; cases hx : (x == 0) <;> simp [hx] at hy ⊢ <;> grind
    · cases hx : (x == 0) <;> simp <;> omega
    · intro y hy; cases hx : (x == 0) <;> simp at hy ⊢ <;> grind
    · cases hx : (x == 0)
      · left; simp
      · right; simp
  | x :: a, m, [], n :: r => by
    have ih := send_sent a (bif x == 0 || x == 1 then dlv m n.id else m) r (bif x == 0 then [] else [n])
    rw [send]
    refine ih.step ?_ ?_ ?_ ?_ ?_
    · cases (x == 0 || x == 1) <;> simp
    · intro y hy; cases hx : (x == 0) <;> simp [hx] at hy ⊢ <;> grind
    · cases hx : (x == 0) <;> simp
    · intro y hy; cases hx : (x == 0) <;> simp at hy ⊢ <;> grind
    · cases hx : (x == 0)
      · left; simp
      · right; simp
  | _ :: _, m, [], [] => ⟨⟨[], by simp [send], trivial⟩, by simp [send], by simp⟩

theorem send_zeros : ∀ (k : Nat) (m : List Int) (rest nx : List Nt), rest.length + nx.length ≤ k → (send (List.replicate k 0) m rest nx).2 = []
  | 0, m, rest, nx, h => by
    have h1 : rest = [] := List.eq_nil_of_length_eq_zero (by omega)
    have h2 : nx = [] := List.eq_nil_of_length_eq_zero (by omega)
    subst h1; subst h2
    rfl
  | k + 1, m, n :: r, nx, h => by
    rw [List.replicate_succ, send]
    exact send_zeros k _ _ _ (by simp at h ⊢; omega)
  | k + 1, m, [], n :: r, h => by
    rw [List.replicate_succ, send]
    exact send_zeros k _ _ _ (by simp at h ⊢; omega)
  | k + 1, m, [], [], h => rfl

theorem send_done : ∀ (a : List Int) (k : Nat) (m : List Int) (rest nx : List Nt), rest.length + nx.length ≤ k → (send (a ++ List.replicate k 0) m rest nx).2 = []
  | [], k, m, rest, nx, h => by simpa using send_zeros k m rest nx h
  | x :: a, k, m, n :: r, nx, h => by
    rw [List.cons_append, send]
    exact send_done a k _ _ _ (by cases (x == 0) <;> simp at h ⊢ <;> omega)
  | x :: a, k, m, [], n :: r, h => by
    rw [List.cons_append, send]
    exact send_done a k _ _ _ (by cases (x == 0) <;> simp at h ⊢ <;> omega)
  | x :: a, k, m, [], [], h => rfl

theorem send_len : ∀ (a m : List Int) (rest nx : List Nt), (send a m rest nx).1.length ≤ m.length + a.length
  | [], m, rest, nx => by simp [send]
  | x :: a, m, n :: r, nx => by
    rw [send]
    refine Nat.le_trans (send_len a _ _ _) ?_
    have := dlv_len m n.id
    cases (x == 0 || x == 1) <;> simp <;> omega
  | x :: a, m, [], n :: r => by
    rw [send]
    refine Nat.le_trans (send_len a _ _ _) ?_
    have := dlv_len m n.id
    cases (x == 0 || x == 1) <;> simp <;> omega
  | _ :: _, m, [], [] => by simp [send]

end Go.Proofs.Ytllfapkcniadgaa
