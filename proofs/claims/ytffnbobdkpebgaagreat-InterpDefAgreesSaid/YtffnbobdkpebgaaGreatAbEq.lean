/- The abstract machine: two structs held against each other. -/
import Derived.Test.YtffnbobdkpebgaaGreatAbOps3
import Derived.Laws.StructEq
set_option linter.unusedVariables false
namespace Go.Ab
open Go.RowKit
theorem eqKs_len : ∀ {ks xs ys : List D} {b : Bool}, eqKs ks xs ys = some b → xs.length = ks.length ∧ ys.length = ks.length
 | [], [], [], _, _ => by simp
 | [], [], _ :: _, b, h => by simp [eqKs] at h
 | [], _ :: _, ys, b, h => by cases ys <;> simp [eqKs] at h
 | k :: ks, [], ys, b, h => by cases ks <;> cases ys <;> simp [eqKs] at h
 | k :: ks, x :: xs, [], b, h => by cases ks <;> cases xs <;> simp [eqKs] at h
 | [k], [x], [y], b, h => by simp
 | [k], [x], y :: y2 :: ys, b, h => by simp [eqKs] at h
 | [k], x :: x2 :: xs, y :: ys, b, h => by cases ys <;> simp [eqKs] at h
 | k :: k2 :: ks, x :: xs, y :: ys, b, h => by
  simp only [eqKs] at h
  split at h
  ·rename_i b' c' h1 h2
   have := eqKs_len h2
   simp at this ⊢; omega
  ·cases h
theorem eqK_bool {c : Bool} {x y : D} {b : Bool} (h : eqK (.bool c) x y = some b) : ∃ a1 b1, x = .bool a1 ∧ y = .bool b1 ∧ b = (a1 == b1) := by
 cases x <;> cases y <;> simp [eqK] at h
 exact ⟨_, _, rfl, rfl, by simpa using h.symm⟩
theorem eqK_int {k : IntKind} {n : Int} {x y : D} {b : Bool} (h : eqK (.int k n) x y = some b) : ∃ a1 b1, x = .int k a1 ∧ y = .int k b1 ∧ b = (a1 == b1) := by
 cases x <;> cases y <;> simp [eqK] at h
 split at h
 ·rename_i h1 h2
  have h1 := of_decide_eq_true h1
  have h2 := of_decide_eq_true h2
  subst h1; subst h2
  exact ⟨_, _, rfl, rfl, by simpa using h.symm⟩
 ·cases h
theorem eqK_str {c : ByteArray} {x y : D} {b : Bool} (h : eqK (.str c) x y = some b) : ∃ a1 b1, x = .str a1 ∧ y = .str b1 ∧ b = decide (a1 = b1) := by
 cases x <;> cases y <;> simp [eqK] at h
 exact ⟨_, _, rfl, rfl, by simpa using h.symm⟩
section
variable {P : Program} {F : Nat → Prop} {w : World}
theorem eqKs_cons {k x y : D} {ks xs ys : List D} {b : Bool} (h : eqKs (k :: ks) (x :: xs) (y :: ys) = some b) : ∃ c d, eqK k x y = some c ∧ eqKs ks xs ys = some d ∧ b = (c && d) := by
 cases ks with
 | nil =>
  cases xs with
  | nil =>
   cases ys with
   | nil => simp [eqKs] at h; exact ⟨b, true, h, rfl, by simp⟩
   | cons => simp [eqKs] at h
  | cons => simp [eqKs] at h
 | cons k2 ks =>
  simp only [eqKs] at h
  split at h
  ·rename_i b' c' h1 h2; cases h; exact ⟨_, _, h1, h2, rfl⟩
  ·cases h
theorem eqKs_mk {k x y : D} {ks xs ys : List D} {c d : Bool} (h1 : eqK k x y = some c) (h2 : eqKs ks xs ys = some d) : eqKs (k :: ks) (x :: xs) (y :: ys) = some (c && d) := by
 cases ks with
 | nil =>
  cases xs with
  | nil =>
   cases ys with
   | nil => simp [eqKs] at h2; subst h2; simp [eqKs, h1]
   | cons => simp [eqKs] at h2
  | cons => cases ys <;> simp [eqKs] at h2
 | cons k2 ks => simp [eqKs, h1, h2]
theorem eqKs_app : ∀ (n : Nat) {ks xs ys : List D} {b : Bool}, eqKs ks xs ys = some b → ∃ c d, eqKs (ks.take n) (xs.take n) (ys.take n) = some c ∧ eqKs (ks.drop n) (xs.drop n) (ys.drop n) = some d ∧ b = (c && d)
 | 0, ks, xs, ys, b, h => ⟨true, b, rfl, h, by simp⟩
 | n + 1, [], [], [], b, h => by simp [eqKs] at h; subst h; exact ⟨true, true, rfl, rfl, rfl⟩
 | n + 1, [], [], _ :: _, b, h => by simp [eqKs] at h
 | n + 1, [], _ :: _, ys, b, h => by cases ys <;> simp [eqKs] at h
 | n + 1, k :: ks, [], ys, b, h => by cases ks <;> cases ys <;> simp [eqKs] at h
 | n + 1, k :: ks, x :: xs, [], b, h => by cases ks <;> cases xs <;> simp [eqKs] at h
 | n + 1, k :: ks, x :: xs, y :: ys, b, h => by
  obtain ⟨c, d, h1, h2, rfl⟩ := eqKs_cons h
  obtain ⟨c2, d2, h3, h4, rfl⟩ := eqKs_app n h2
  exact ⟨c && c2, d2, by simp only [List.take_succ_cons]; exact eqKs_mk h1 h3, h4, by simp [Bool.and_assoc]⟩
def VRel (P : Program) (F : Nat → Prop) (w : World) (t : Nat) (u : Value) (xs : List D) : Prop :=
 match P.underlying t with
 | some (.struct _) => ∃ vs : List Value, u = .agg vs.toArray ∧ All2 (DRel F w) vs xs
 | some .bool | some (.int _) | some .string => ∃ x, xs = [x] ∧ DRel F w u x
 | _ => False
theorem part_rel {f : Nat} {d : Nat} {ks : List D} (hk : eqKinds P d f = some ks) {vs : List Value} {xs : List D} {o : Nat} (hv : All2 (DRel F w) vs xs) (hl : o + P.cellsOf f ≤ xs.length) (hks : ks.length = P.cellsOf f) (hinf : (P.info? f).isSome = true) :
  ∃ u, (part f vs.toArray o).run P w = .ok u w ∧ VRel P F w f u ((xs.drop o).take (P.cellsOf f)) := by
 have hlen := All2.length hv
 have hsz : (sizeOf f).run P w = .ok (P.cellsOf f) w := by
  obtain ⟨i, hi⟩ := Option.isSome_iff_exists.1 hinf
  simp [sizeOf, typeInfo, hi, Program.cellsOf]
 cases d with
 | zero => simp [eqKinds] at hk
 | succ d =>
  unfold eqKinds at hk
  have scal : P.cellsOf f = 1 → (isAgg f).run P w = .ok false w → ∃ u, (part f vs.toArray o).run P w = .ok u w ∧ ∃ x, (xs.drop o).take (P.cellsOf f) = [x] ∧ DRel F w u x := by
   intro h1 hagg
   obtain ⟨x, hx⟩ : ∃ x, xs[o]? = some x := ⟨_, List.getElem?_eq_getElem (by omega)⟩
   obtain ⟨u, hu, hr⟩ := All2.get hv hx
   refine ⟨u, ?_, x, ?_, hr⟩
   ·simp [part, hagg, hu]
   ·rw [h1]
    have hlt : o < xs.length := by omega
    rw [List.drop_eq_getElem_cons hlt]
    rw [List.getElem?_eq_getElem hlt] at hx
    cases hx
    rfl
  split at hk
  ·rename_i hu
   split at hk
   ·rename_i hs
    obtain ⟨u, h1, h2⟩ := scal (Nat.eq_of_beq_eq_true hs) (by simp [isAgg, run_underlying hu])
    exact ⟨u, h1, by unfold VRel; rw [hu]; exact h2⟩
   ·cases hk
  ·rename_i k hu
   split at hk
   ·rename_i hs
    obtain ⟨u, h1, h2⟩ := scal (Nat.eq_of_beq_eq_true hs) (by simp [isAgg, run_underlying hu])
    exact ⟨u, h1, by unfold VRel; rw [hu]; exact h2⟩
   ·cases hk
  ·rename_i hu
   split at hk
   ·rename_i hs
    obtain ⟨u, h1, h2⟩ := scal (Nat.eq_of_beq_eq_true hs) (by simp [isAgg, run_underlying hu])
    exact ⟨u, h1, by unfold VRel; rw [hu]; exact h2⟩
   ·cases hk
  ·rename_i fs hu
   have hagg : (isAgg f).run P w = .ok true w := by simp [isAgg, run_underlying hu]
   refine ⟨.agg (vs.toArray.extract o (o + P.cellsOf f)), by simp [part, hagg, hsz], ?_⟩
   unfold VRel
   rw [hu]
   refine ⟨(vs.drop o).take (P.cellsOf f), ?_, All2.take _ (All2.drop _ hv)⟩
   congr 1
   apply Array.ext'
   simp [List.take_drop]
  ·cases hk
theorem kindsF_len {g : Nat → Option (List D)} {n : Nat} : ∀ {fs : List Field} {o : Nat} {ks : List D}, kindsF P g n o fs = some ks → o + ks.length = n
 | [], o, ks, h => by
  simp only [kindsF] at h
  split at h
  ·rename_i hb; cases h; simpa using Nat.eq_of_beq_eq_true hb
  ·cases h
 | f :: fs, o, ks, h => by
  simp only [kindsF] at h
  split at h
  ·split at h
   ·rename_i a b ha hb
    split at h
    ·rename_i hl
     cases h
     have := kindsF_len hb
     have := Nat.eq_of_beq_eq_true hl
     simp; omega
    ·cases h
   ·cases h
  ·cases h
theorem eqKinds_len : ∀ {d t : Nat} {ks : List D}, eqKinds P d t = some ks → ks.length = P.cellsOf t
 | 0, _, _, h => by simp [eqKinds] at h
 | d + 1, t, ks, h => by
  unfold eqKinds at h
  split at h
  ·split at h
   ·rename_i hs; cases h; exact (Nat.eq_of_beq_eq_true hs).symm
   ·cases h
  ·split at h
   ·rename_i hs; cases h; exact (Nat.eq_of_beq_eq_true hs).symm
   ·cases h
  ·split at h
   ·rename_i hs; cases h; exact (Nat.eq_of_beq_eq_true hs).symm
   ·cases h
  ·split at h
   ·cases h
   ·have := kindsF_len h; omega
  ·cases h
theorem eqFields_flat {d n : Nat} (IH : ∀ {t : Nat} {ks : List D}, eqKinds P d t = some ks → ∀ {u v : Value} {xs ys : List D} {b : Bool}, VRel P F w t u xs → VRel P F w t v ys → eqKs ks xs ys = some b → (Op.equalIn (d + n) t u v).run P w = .ok b w) : ∀ {fs : List Field} {N o : Nat} {ks : List D}, kindsF P (eqKinds P d) N o fs = some ks → ∀ {us vs : List Value} {xs ys : List D} {b : Bool}, All2 (DRel F w) us xs → All2 (DRel F w) vs ys →
  eqKs ks (xs.drop o) (ys.drop o) = some b → (Op.eqFields (d + n) us.toArray vs.toArray fs).run P w = .ok b w
 | [], N, o, ks, h, us, vs, xs, ys, b, hx, hy, hb => by
  simp only [kindsF] at h
  split at h
  ·cases h
   have : b = true := by
    cases hxd : xs.drop o with
    | nil =>
     cases hyd : ys.drop o with
     | nil => rw [hxd, hyd] at hb; simpa [eqKs] using hb.symm
     | cons => rw [hxd, hyd] at hb; simp [eqKs] at hb
    | cons => rw [hxd] at hb; cases hyd : ys.drop o <;> rw [hyd] at hb <;> simp [eqKs] at hb
   subst this
   simp [Op.eqFields]
  ·cases h
 | f :: fs, N, o, ks, h, us, vs, xs, ys, b, hx, hy, hb => by
  simp only [kindsF] at h
  split at h
  ·rename_i hc
   simp only [Bool.and_eq_true] at hc
   obtain ⟨ho, hname, hinf, hpos⟩ := hc
   have hpos : P.cellsOf f.type ≠ 0 := fun h0 => by rw [h0] at hpos; simp at hpos
   have ho := Nat.eq_of_beq_eq_true ho
   split at h
   ·rename_i k1 k2 hk1 hk2
    split at h
    ·rename_i hl
     have hl := Nat.eq_of_beq_eq_true hl
     cases h
     obtain ⟨c, e, hc1, he1, rfl⟩ := eqKs_app (P.cellsOf f.type) hb
     rw [List.take_append_of_le_length (by omega), List.take_of_length_le (by omega)] at hc1
     rw [List.drop_append_of_le_length (by omega), List.drop_of_length_le (by omega), List.nil_append, List.drop_drop, List.drop_drop] at he1
     have hlens : o + P.cellsOf f.type ≤ xs.length ∧ o + P.cellsOf f.type ≤ ys.length := by
      have h1 := eqKs_len hc1
      simp at h1
      omega
     obtain ⟨u, hu1, hu2⟩ := part_rel hk1 hx hlens.1 hl hinf
     obtain ⟨v, hv1, hv2⟩ := part_rel hk1 hy hlens.2 hl hinf
     have heq := IH hk1 hu2 hv2 hc1
     have ih := eqFields_flat IH hk2 hx hy he1
     have hne : f.name ≠ "_" := by simpa using hname
     subst ho
     simp only [Op.eqFields, if_pos hne, Sem.run_bind, hu1, Result.andThen_ok, hv1, heq]
     cases c
     ·simp
     ·simpa using ih
    ·cases h
   ·cases h
  ·cases h
theorem equalIn_flat : ∀ {d t : Nat} {ks : List D}, eqKinds P d t = some ks → ∀ {u v : Value} {xs ys : List D} {b : Bool}, VRel P F w t u xs → VRel P F w t v ys → eqKs ks xs ys = some b → ∀ n, (Op.equalIn (d + n) t u v).run P w = .ok b w
 | 0, _, _, h, _, _, _, _, _, _, _, _, _ => by simp [eqKinds] at h
 | d + 1, t, ks, h, u, v, xs, ys, b, hu, hv, hb, n => by
  rw [show d + 1 + n = (d + n) + 1 by omega]
  unfold eqKinds at h
  unfold VRel at hu hv
  split at h
  ·rename_i ht
   rw [ht] at hu hv
   obtain ⟨x, rfl, hx⟩ := hu
   obtain ⟨y, rfl, hy⟩ := hv
   split at h
   ·cases h
    simp only [eqKs] at hb
    obtain ⟨a1, b1, rfl, rfl, rfl⟩ := eqK_bool hb
    cases hx; cases hy
    exact run_equalIn_bool' w _ t _ _ ht
   ·cases h
  ·rename_i k ht
   rw [ht] at hu hv
   obtain ⟨x, rfl, hx⟩ := hu
   obtain ⟨y, rfl, hy⟩ := hv
   split at h
   ·cases h
    simp only [eqKs] at hb
    obtain ⟨a1, b1, rfl, rfl, rfl⟩ := eqK_int hb
    cases hx; cases hy
    exact run_equalIn_int w _ t _ _ _ _ ht
   ·cases h
  ·rename_i ht
   rw [ht] at hu hv
   obtain ⟨x, rfl, hx⟩ := hu
   obtain ⟨y, rfl, hy⟩ := hv
   split at h
   ·cases h
    simp only [eqKs] at hb
    obtain ⟨a1, b1, rfl, rfl, rfl⟩ := eqK_str hb
    cases hx; cases hy
    rw [run_equalIn_string w _ t _ _ ht, toList_inj]
   ·cases h
  ·rename_i fs ht
   rw [ht] at hu hv
   obtain ⟨us, rfl, hx⟩ := hu
   obtain ⟨vs, rfl, hy⟩ := hv
   split at h
   ·cases h
   ·rename_i hst
    have hf : P.fieldsOf t = fs := by simp [Program.fieldsOf, ht]
    rw [run_equalIn_struct w (d + n) t _ _ (by rw [hf]; exact ht) (by simpa using hst), hf]
    exact eqFields_flat (d := d) (n := n) (fun hk _ _ _ _ _ hu hv hb => equalIn_flat hk hu hv hb n) h hx hy (by simpa using hb)
  ·cases h
end
end Go.Ab
