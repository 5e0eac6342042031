/- The abstract machine: append. -/
import Derived.Test.YtffnbobdkpebgaaGreatAbMut
set_option linter.unusedVariables false
namespace Go.Ab
open Go.RowKit
def Src (F : Nat → Prop) (w : World) (v : Value) (s : Nat) (es : List (List D)) : Prop :=
 (es = [] ∧ v = .slice none 0 0) ∨ ∃ (ad : Addr) (cap : Nat) (xs : List Value), v = .slice (some ad) es.length cap ∧ xs.length = es.length * s ∧ (∀ (j : Nat) u, xs[j]? = some u → w.cell? (ad.add j) = some u) ∧
  (∀ u ∈ xs, u.oneCell' = true) ∧ Holds F w s 0 xs es
theorem holds_one {F : Nat → Prop} {w : World} {s : Nat} {xs : List Value} {es : List (List D)} (hl : xs.length = es.length * s) (h : Holds F w s 0 xs es) : ∀ u ∈ xs, u.oneCell' = true := by
 intro u hu
 obtain ⟨p, hp⟩ := List.getElem?_of_mem hu
 have hlt := (List.getElem?_eq_some_iff.1 hp).1
 have hs : 0 < s := by
  rcases Nat.eq_zero_or_pos s with h0 | h0
  ·subst h0; omega
  ·exact h0
 have h1 : p / s < es.length := Nat.div_lt_of_lt_mul (by rw [Nat.mul_comm]; omega)
 have he := List.getElem?_eq_getElem h1
 have h2 : p % s < (es[p / s]).length := by rw [h.1 _ (List.mem_of_getElem? he)]; exact Nat.mod_lt _ hs
 obtain ⟨v, hv, hd⟩ := h.2 (p / s) _ (p % s) _ he (List.getElem?_eq_getElem h2)
 rw [Nat.zero_add, Nat.mul_comm, Nat.div_add_mod, hp] at hv
 cases hv
 exact hd.one
theorem holds_fun {F : Nat → Prop} {w : World} {s : Nat} {es : List (List D)} {f : Nat → Value} (hs : ∀ e ∈ es, e.length = s) (h : ∀ (i : Nat) e (j : Nat) x, es[i]? = some e → e[j]? = some x → DRel F w (f (i * s + j)) x) :
  Holds F w s 0 ((List.range (es.length * s)).map f) es := by
 refine ⟨hs, fun i e j x hi hj => ⟨f (i * s + j), ?_, h i e j x hi hj⟩⟩
 have h1 := (List.getElem?_eq_some_iff.1 hi).1
 have h2 := (List.getElem?_eq_some_iff.1 hj).1
 rw [hs e (List.mem_of_getElem? hi)] at h2
 have : i * s + j < es.length * s := by
  have : (i + 1) * s ≤ es.length * s := Nat.mul_le_mul_right _ h1
  rw [Nat.add_mul, Nat.one_mul] at this; omega
 rw [Nat.zero_add]
 simp [this]
theorem row_pos {s n p : Nat} (h : p < n * s) : 0 < s ∧ p / s < n ∧ p % s < s ∧ p / s * s + p % s = p := by
 have hs : 0 < s := by
  rcases Nat.eq_zero_or_pos s with h0 | h0
  ·subst h0; omega
  ·exact h0
 exact ⟨hs, Nat.div_lt_of_lt_mul (by rw [Nat.mul_comm]; exact h), Nat.mod_lt _ hs, by rw [Nat.mul_comm]; exact Nat.div_add_mod p s⟩
theorem src_of_fun {F : Nat → Prop} {w : World} {s b off cap : Nat} {es : List (List D)} {f : Nat → Value} (hs : ∀ e ∈ es, e.length = s)
  (hc : ∀ (i : Nat) e (j : Nat) x, es[i]? = some e → e[j]? = some x → w.cell? ⟨b, off + (i * s + j), none⟩ = some (f (i * s + j)) ∧ DRel F w (f (i * s + j)) x) :
  Src F w (.slice (some ⟨b, off, none⟩) es.length cap) s es := by
 have hh : Holds F w s 0 ((List.range (es.length * s)).map f) es := holds_fun hs fun i e j x hi hj => (hc i e j x hi hj).2
 refine .inr ⟨_, cap, (List.range (es.length * s)).map f, rfl, by simp, fun p u hu => ?_, holds_one (by simp) hh, hh⟩
 obtain ⟨hlt, rfl⟩ := range_get hu
 obtain ⟨h0, h1, h2, h3⟩ := row_pos hlt
 have he := List.getElem?_eq_getElem h1
 have h2' : p % s < (es[p / s]).length := by rw [hs _ (List.mem_of_getElem? he)]; exact h2
 have := (hc (p / s) _ (p % s) _ he (List.getElem?_eq_getElem h2')).1
 rw [h3] at this
 rw [add_none]; exact this
theorem elems_src {σ : St} {ρ : Map} {F : Nat → Prop} {w : World} {c : C} {s : Nat} {es : List (List D)} (h : elems σ.h c = some (s, es)) (hh : HRel ρ F w σ.h) {v : Value} (hr : CRel ρ F w σ.h v c) : Src F w v s es := by
 cases c with
 | d x =>
  have h1 : DRel F w v x := hr
  cases h1 <;> simp [elems] at h
  case nilS => obtain ⟨rfl, rfl⟩ := h; exact .inl ⟨rfl, rfl⟩
  case emptyS =>
   obtain ⟨rfl, rfl⟩ := h
   exact .inr ⟨_, _, [], rfl, by simp, by simp, by simp, by simp [Holds]⟩
  case slice b off cap s1 es1 vs hF hcap hmax hlen hc hd =>
   obtain ⟨rfl, rfl⟩ := h
   refine src_of_fun (f := fun p => vs (p / s1) (p % s1)) hlen fun i e j x hi hj => ?_
   have hjs : j < s1 := by have := (List.getElem?_eq_some_iff.1 hj).1; rw [hlen e (List.mem_of_getElem? hi)] at this; exact this
   have e1 : (i * s1 + j) / s1 = i := by rw [Nat.mul_comm, Nat.mul_add_div (by omega), Nat.div_eq_of_lt hjs, Nat.add_zero]
   have e2 : (i * s1 + j) % s1 = j := by rw [Nat.mul_comm, Nat.mul_add_mod, Nat.mod_eq_of_lt hjs]
   simp only [e1, e2]
   rw [← Nat.add_assoc]
   exact ⟨hc i e j x hi hj, hd i e j x hi hj⟩
 | nil s =>
  simp [elems] at h
  obtain ⟨rfl, rfl⟩ := h
  exact .inl ⟨rfl, hr⟩
 | own id s =>
  obtain ⟨T, es2, hl, hv⟩ := hr
  simp [elems, hl] at h
  obtain ⟨rfl, rfl⟩ := h
  rcases hv with ⟨rfl, rfl⟩ | ⟨b, N, cap, hb, rfl, hcap, hmax, hN⟩
  ·exact .inl ⟨rfl, rfl⟩
  ·obtain ⟨cs, hcs, hn, hle, hsz, hd⟩ := hh id b N hb _ hl
   refine src_of_fun (f := fun p => cs.getD p undef) hsz fun i e j x hi hj => ?_
   obtain ⟨u, hu, hdu⟩ := hd i e j x hi hj
   rw [Nat.zero_add, cell_block hcs]
   simp only [List.getD, hu, Option.getD_some]
   exact ⟨trivial, hdu⟩
 | sub id s st n =>
  obtain ⟨T, es2, hl, hlen, hv⟩ := hr
  simp [elems, hl] at h
  obtain ⟨rfl, rfl⟩ := h
  have hlen' : ((es2.drop st).take n).length = n := by simp; omega
  rcases hv with ⟨rfl, rfl⟩ | ⟨_, rfl, b, o, rfl⟩ | ⟨b, N, cap, hb, rfl, hcap, hmax, hN⟩
  ·left; exact ⟨by simp, rfl⟩
  ·have := src_of_fun (F := F) (w := w) (s := s) (b := b) (off := o) (cap := 0) (es := (es2.drop st).take 0) (f := fun _ => undef) (by simp) (by simp)
   simpa using this
  ·obtain ⟨cs, hcs, hn, hle, hsz, hd⟩ := hh id b N hb _ hl
   have := src_of_fun (F := F) (w := w) (s := s) (b := b) (off := st * s) (cap := cap) (es := (es2.drop st).take n) (f := fun p => cs.getD (st * s + p) undef) (fun e he => hsz e (List.mem_of_mem_drop (List.mem_of_mem_take he))) fun i e j x hi hj => by
    obtain ⟨u, hu, hdu⟩ := hd _ e j x (take_drop_get hi) hj
    rw [Nat.add_mul, Nat.add_assoc] at hu
    rw [cell_block hcs]
    simp only [List.getD, hu, Option.getD_some]
    exact ⟨trivial, hdu⟩
   rw [hlen'] at this
   exact this
 | ref id i s off => simp [elems] at h
 | vrow id s n => simp [elems] at h
 | junk => simp [elems] at h
def Tgt (F : Nat → Prop) (w : World) (T s : Nat) (v : Value) (es : List (List D)) : Prop :=
 (v = .slice none 0 0 ∧ es = []) ∨ ∃ (b cap : Nat) (c : List Value), v = .slice (some ⟨b, 0, none⟩) es.length cap ∧ w.heap[b]? = some (.cells c.toArray T (0, 0)) ∧ c.length = cap * s ∧ es.length ≤ cap ∧ cap ≤ maxLen ∧ Holds F w s 0 c es
theorem holds_app {F : Nat → Prop} {w : World} {s : Nat} {xs ys rest : List Value} {es es2 : List (List D)} (hx : Holds F w s 0 xs es) (hxl : es.length * s ≤ xs.length) (hy : Holds F w s 0 ys es2) :
  Holds F w s 0 (xs.take (es.length * s) ++ ys ++ rest) (es ++ es2) := by
 have hl : (xs.take (es.length * s)).length = es.length * s := by simp; omega
 refine ⟨fun e he => ?_, fun i e j x hi hj => ?_⟩
 ·rcases List.mem_append.1 he with h | h
  ·exact hx.1 e h
  ·exact hy.1 e h
 ·rw [Nat.zero_add, List.append_assoc]
  by_cases h : i < es.length
  ·rw [List.getElem?_append_left h] at hi
   obtain ⟨v, hv, hd⟩ := hx.2 i e j x hi hj
   rw [Nat.zero_add] at hv
   have hjs : j < s := by have := (List.getElem?_eq_some_iff.1 hj).1; rw [hx.1 e (List.mem_of_getElem? hi)] at this; exact this
   have : i * s + j < es.length * s := by
    have : (i + 1) * s ≤ es.length * s := Nat.mul_le_mul_right _ h
    rw [Nat.add_mul, Nat.one_mul] at this; omega
   exact ⟨v, by rw [List.getElem?_append_left (by omega), List.getElem?_take, if_pos this]; exact hv, hd⟩
  ·rw [List.getElem?_append_right (by omega)] at hi
   obtain ⟨v, hv, hd⟩ := hy.2 (i - es.length) e j x hi hj
   rw [Nat.zero_add] at hv
   have e1 : i * s + j = es.length * s + ((i - es.length) * s + j) := by
    have : i * s = es.length * s + (i - es.length) * s := by rw [← Nat.add_mul]; congr 1; omega
    omega
   refine ⟨v, ?_, hd⟩
   rw [e1, List.getElem?_append_right (by omega), hl, Nat.add_sub_cancel_left, List.getElem?_append_left]
   ·exact hv
   ·exact (List.getElem?_eq_some_iff.1 hv).1
structure Appended (S : World) (F : Nat → Prop) (T s : Nat) (v : Value) (es : List (List D)) (v' : Value) (w' : World) : Prop where
 os : w'.os = S.os
 tape : w'.tape = S.tape
 output : w'.output = S.output
 size : S.heap.size ≤ w'.heap.size
 val : (v' = .slice none 0 0 ∧ es = [] ∧ w' = S) ∨ ∃ (g cap : Nat) (c : List Value), v' = .slice (some ⟨g, 0, none⟩) es.length cap ∧ w'.heap[g]? = some (.cells c.toArray T (0, 0)) ∧ c.length = cap * s ∧ es.length ≤ cap ∧ cap ≤ maxLen ∧ Holds F S s 0 c es ∧
  (g = S.heap.size ∨ v.ownBlock = some g) ∧ (∀ k, k ≠ g → k < S.heap.size → w'.heap[k]? = S.heap[k]?)
theorem alloc_old (w : World) (o : Obj) (k : Nat) (h : k < w.heap.size) : (w.alloc o).heap[k]? = w.heap[k]? := by
 show (w.heap.push o)[k]? = _
 rw [Array.getElem?_push, if_neg (by omega)]
theorem run_append_any {P : Program} {t ty : Nat} {i ie : TI} (hi : TIOk P t i) (htag : i.tag = 4) (he : TIOk P i.elem ie) {F : Nat → Prop} {w : World} {v u : Value} {es es2 : List (List D)}
  (hv : Tgt F w i.elem ie.size v es) (hu : Src F w u ie.size es2) (hmax : es.length + es2.length ≤ maxLen) (hby : (es.length + es2.length) * ie.bytes ≤ 140737488355328) :
  ∃ v' w', (Builtin.append_ #[t, t] ty #[v, u]).run P w = .ok v' w' ∧ Appended w F i.elem ie.size v (es ++ es2) v' w' := by
 have ht := hi.slice htag
 obtain ⟨inf, d, hinf, _, hsz, hbytes, _, _, ⟨z, hz, hzz⟩, _⟩ := he.info
 have hzl : z.cells.size = ie.size := by
  have h1 := All2.length (zrels_crel (ρ := fun _ => none) (F := F) (w := w) (H := []) hzz)
  have h2 := he.zlen
  simp at h1; omega
 have hzc : ∀ n, (Builtin.zeroCells z.cells n).size = n * ie.size := fun n => by rw [size_zeroCells, hzl]
 have hzt : ∀ n, (Builtin.zeroCells z.cells n).toList.length = n * ie.size := fun n => by rw [Array.length_toList, hzc]
 have hmax' : es.length + es2.length ≤ 9223372036854775807 := by unfold maxLen at hmax; omega
 rcases hu with ⟨rfl, rfl⟩ | ⟨ad, ucap, xs, rfl, hxl, hxc, hx1, hxh⟩
 ·-- nothing is appended
  refine ⟨v, w, ?_, rfl, rfl, rfl, Nat.le_refl _, ?_⟩
  ·rcases hv with ⟨rfl, rfl⟩ | ⟨b, cap, c, rfl, hc, hcl, hcap, hcm, hh⟩
   ·simp [Builtin.append_, run_underlying ht, sizeOf, typeInfo, hinf, Builtin.lenOf, Builtin.firstCells]
   ·simp [Builtin.append_, run_underlying ht, sizeOf, typeInfo, hinf, Builtin.lenOf, Builtin.firstCells, hcap, storeCells]
  ·rw [List.append_nil]
   rcases hv with ⟨rfl, rfl⟩ | ⟨b, cap, c, rfl, hc, hcl, hcap, hcm, hh⟩
   ·exact .inl ⟨rfl, rfl, rfl⟩
   ·exact .inr ⟨b, cap, c, rfl, hc, hcl, hcap, hcm, hh, .inr rfl, fun _ _ _ => rfl⟩
 ·rcases hv with ⟨rfl, rfl⟩ | ⟨b, cap, c, rfl, hc, hcl, hcap, hcm, hh⟩
  ·by_cases hm : es2.length = 0
   ·have h0 : es2 = [] := List.eq_nil_of_length_eq_zero hm
    subst h0
    refine ⟨.slice none 0 0, w, ?_, rfl, rfl, rfl, Nat.le_refl _, .inl ⟨rfl, rfl, rfl⟩⟩
    simp [Builtin.append_, run_underlying ht, sizeOf, typeInfo, hinf, Builtin.lenOf, Builtin.firstCells, loadCells, loadCellsFrom]
   ·simp only [List.length_nil, Nat.zero_add] at hmax hby hmax'
    have hr := run_append_nil (P := P) w t ty i.elem inf z ht hinf hz ad es2.length ucap xs (by rw [hsz]; exact hxl) hxc (by omega) (by omega) (by rw [hbytes]; omega)
    refine ⟨_, _, hr, rfl, rfl, rfl, by simp, .inr ⟨w.heap.size, grownCap w es2.length 0 i.elem, xs ++ (Builtin.zeroCells z.cells (grownCap w es2.length 0 i.elem - es2.length)).toList, by simp, ?_, ?_, ?_, ?_, ?_, .inl rfl, fun k hk hlt => alloc_old w.drew _ k hlt⟩⟩
    ·have := _root_.Go.heap_alloc_new w.drew (.cells (xs.toArray ++ Builtin.zeroCells z.cells (grownCap w es2.length 0 i.elem - es2.length)) i.elem)
     rw [show w.heap.size = w.drew.heap.size from rfl, this]
     congr 2
     apply Array.ext'; simp
    ·rw [List.length_append, hzt, hxl, ← Nat.add_mul]
     congr 1
     have := grownCap_ge w es2.length 0 i.elem; omega
    ·simpa using grownCap_ge w es2.length 0 i.elem
    ·exact grownCap_le_maxLen w es2.length 0 i.elem hmax
    ·have := holds_app (F := F) (w := w) (s := ie.size) (xs := []) (ys := xs) (rest := (Builtin.zeroCells z.cells (grownCap w es2.length 0 i.elem - es2.length)).toList) (es := []) (es2 := es2) ⟨by simp, by simp⟩ (by simp) hxh
     simpa using this
  ·have hle : es.length * ie.size ≤ c.length := by rw [hcl]; exact Nat.mul_le_mul_right _ hcap
   by_cases hroom : es.length + es2.length ≤ cap
   ·have hfit : es.length * inf.size + xs.length ≤ c.toArray.size := by
     rw [hxl, hsz, ← Nat.add_mul, List.size_toArray, hcl]; exact Nat.mul_le_mul_right _ hroom
    have hr := run_append_room (P := P) w t ty i.elem inf ht hinf b es.length cap c.toArray hc ad es2.length ucap xs (by rw [hsz]; exact hxl) hxc hx1 hroom hfit
    rw [hsz] at hr hfit
    refine ⟨_, _, hr, rfl, rfl, rfl, by simp, .inr ⟨b, cap, c.take (es.length * ie.size) ++ xs ++ c.drop (es.length * ie.size + xs.length), by simp, ?_, ?_, by simpa using hroom, hcm, holds_app hh hle hxh, .inr rfl, fun k hk _ => setRow_other w b k _ hk⟩⟩
    ·exact setRow_heap w b _ _ i.elem _ hc
    ·simp only [List.length_append, List.length_take, List.length_drop]
     simp only [List.size_toArray] at hfit
     omega
   ·have holds : ∀ (j : Nat) u, (c.take (es.length * ie.size))[j]? = some u → w.cell? ((⟨b, 0, none⟩ : Addr).add j) = some u := fun j u hu => by
     rw [add_none, Nat.zero_add, cell_block hc]
     rw [List.getElem?_take] at hu
     split at hu
     ·exact hu
     ·cases hu
    have hr := run_append_grow (P := P) w t ty i.elem inf z ht hinf hz ⟨b, 0, none⟩ es.length cap (c.take (es.length * ie.size)) (by rw [hsz]; simp; omega) holds ad es2.length ucap xs (by rw [hsz]; exact hxl) hxc (by omega) (by omega) (growslice_fits (by omega) (by rw [hbytes]; exact hby))
    refine ⟨_, _, hr, rfl, rfl, rfl, by simp, .inr ⟨w.heap.size, grownCap w (es.length + es2.length) cap i.elem, c.take (es.length * ie.size) ++ xs ++ (Builtin.zeroCells z.cells (grownCap w (es.length + es2.length) cap i.elem - (es.length + es2.length))).toList, by simp, ?_, ?_, ?_, ?_, holds_app hh hle hxh, .inl rfl, fun k hk hlt => alloc_old w.drew _ k hlt⟩⟩
    ·have := _root_.Go.heap_alloc_new w.drew (.cells ((c.take (es.length * ie.size)).toArray ++ xs.toArray ++ Builtin.zeroCells z.cells (grownCap w (es.length + es2.length) cap i.elem - (es.length + es2.length))) i.elem)
     rw [show w.heap.size = w.drew.heap.size from rfl, this]
     congr 2
     apply Array.ext'; simp
    ·rw [List.length_append, List.length_append, hzt, hxl, List.length_take, Nat.min_eq_left hle, ← Nat.add_mul, ← Nat.add_mul]
     congr 1
     have := grownCap_ge w (es.length + es2.length) cap i.elem; omega
    ·simpa using grownCap_ge w (es.length + es2.length) cap i.elem
    ·exact grownCap_le_maxLen w _ cap i.elem hmax
end Go.Ab
