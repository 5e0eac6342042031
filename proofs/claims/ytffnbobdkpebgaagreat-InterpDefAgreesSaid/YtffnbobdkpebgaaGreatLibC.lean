/- Contracts of functions of Go's library, out of the shelf's. -/
import Derived.Test.YtffnbobdkpebgaaGreatLibM
import Derived.Test.YtffnbobdkpebgaaGreatTpTab
import Derived.Test.YtffnbobdkpebgaaGreatTryzShelf
set_option linter.unusedVariables false
namespace Go.Proofs.YtffnbobdkpebgaaGreat
open Go Go.Ab Go.RowKit
theorem ofFlat {P : Program} {g : FuncId} (he : ∀ xs w, (callFunc g xs).run P w = .ok (.enter g xs) w) {args : List DV} {r : AV}
  (h : ∀ (F : Nat → Prop) (w : World) (vs : List Value), Glob F w → All2 (DVRel F w) vs args → Calls P g vs.toArray w fun e w' => ∃ v, e = .returned v ∧ ARel (fun _ => none) F w [] v r ∧ w' = w) : Go.Ab.Fn P g args r [] :=
 ⟨he, fun F w vs hG hF hv => (h F w vs hG hv).mono fun e w' ⟨v, e1, hr, hw⟩ => by
  subst hw
  exact ⟨v, fun _ => none, F, e1, ⟨Below.refl _ _, hG, hF, fun _ h => h, fun _ h => .inl h, fun _ _ _ h => (by cases h), fun _ _ _ _ _ h => (by cases h), fun _ _ h => (by cases h), hr, fun _ _ _ h => (by cases h)⟩⟩⟩
theorem gc_bits_LeadingZeros64 (fu : Nat) (x r_ : Int) (H : m_bits_LeadingZeros64 fu x = some r_) : Go.Ab.Fn Tryz.prog 159 [.c (.int .u64 x)] (.s (.c (.d (iD r_)))) [] := by
 unfold m_bits_LeadingZeros64 at H
 split at H
 ·rename_i hb
  have hb := of_decide_eq_true hb
  obtain rfl := Option.some.inj H
  refine ofFlat Tryz.call159 fun F w vs hG hv => ?_
  match vs, hv with
  | [v], hv =>
   obtain ⟨h1, -⟩ := hv
   have h1 : DRel F w v (.int .u64 x) := h1
   cases h1
   refine (Tryz.bits_LeadingZeros64 x w hb.1 (by omega)).mono ?_
   rintro e w' ⟨rfl, rfl⟩
   exact ⟨_, rfl, DRel.int .i64 _, rfl⟩
 ·cases H
theorem gc_bits_Mul64 (fu : Nat) (x y : Int) (r_ : Int × Int) (H : m_bits_Mul64 fu x y = some r_) : Go.Ab.Fn Tryz.prog 118 [.c (.int .u64 x), .c (.int .u64 y)] (.tup [.c (.d (.int .u64 r_.1)), .c (.d (.int .u64 r_.2))]) [] := by
 unfold m_bits_Mul64 at H
 split at H
 ·rename_i hb
  simp only [Bool.and_eq_true, decide_eq_true_eq] at hb
  obtain ⟨⟨h0, h1⟩, h2, h3⟩ := hb
  obtain rfl := Option.some.inj H
  obtain ⟨a, rfl⟩ := Int.eq_ofNat_of_zero_le h0
  obtain ⟨b, rfl⟩ := Int.eq_ofNat_of_zero_le h2
  refine ofFlat Tryz.call118 fun F w vs hG hv => ?_
  match vs, hv with
  | [u, v], hv =>
   obtain ⟨k1, k2, -⟩ := hv
   have k1 : DRel F w u (.int .u64 (a : Int)) := k1
   have k2 : DRel F w v (.int .u64 (b : Int)) := k2
   cases k1; cases k2
   refine (Tryz.bits_Mul64 a b (by omega) (by omega) w).mono ?_
   rintro e w' ⟨rfl, rfl⟩
   refine ⟨_, rfl, ⟨_, rfl, ?_, ?_, trivial⟩, rfl⟩
   ·have : ((a * b / 18446744073709551616 : Nat) : Int) = (a : Int) * b / 18446744073709551616 := by simp
    show DRel F w' _ (.int .u64 ((a : Int) * b / 18446744073709551616))
    rw [← this]; exact .int _ _
   ·have : ((a * b % 18446744073709551616 : Nat) : Int) = (a : Int) * b % 18446744073709551616 := by simp
    show DRel F w' _ (.int .u64 ((a : Int) * b % 18446744073709551616))
    rw [← this]; exact .int _ _
 ·cases H
theorem gc_strings_Contains (fu : Nat) (s t : BA) (r_ : Bool) (H : m_strings_Contains fu s t = some r_) : Go.Ab.Fn Tryz.prog 138 [.c (.str s), .c (.str t)] (.s (.c (.d (.bool r_)))) [] := by
 unfold m_strings_Contains at H
 split at H
 ·rename_i hb
  have hb := of_decide_eq_true hb
  obtain rfl := Option.some.inj H
  refine ofFlat Tryz.call138 fun F w vs hG hv => ?_
  obtain ⟨_, m, hm⟩ := hG rfl
  match vs, hv with
  | [u, v], hv =>
   obtain ⟨k1, k2, -⟩ := hv
   have k1 : DRel F w u (.str s) := k1
   have k2 : DRel F w v (.str t) := k2
   cases k1; cases k2
   refine (Tryz.strings_Contains s t m w (by omega) hm).mono ?_
   rintro e w' ⟨rfl, rfl⟩
   exact ⟨_, rfl, DRel.bool _, rfl⟩
 ·cases H
theorem holds_row {ρ : Map} {F : Nat → Prop} {w : World} {H : Heap} {b N T : Nat} {xs : List Int} (h : ORel ρ F w H b N (.row T 1 (xs.map cInt))) : Go.Sort.Holds (Value.int .i64) w b 0 xs.toArray := by
 obtain ⟨c, hc, hn, hl, hs, h⟩ := h
 intro j hj
 have hj' : j < xs.length := by simpa using hj
 have he : (xs.map cInt)[j]? = some (cInt xs[j]) := by simp [hj']
 obtain ⟨v, hv, hd⟩ := h j _ 0 (iD xs[j]) he rfl
 have hv' : v = .int .i64 xs[j] := by
  have hd : DRel F w v (.int .i64 xs[j]) := hd
  cases hd; rfl
 subst hv'
 have hcell : w.cell? ⟨b, 0 + j, none⟩ = some (.int .i64 xs[j]) := by
  rw [cell_block hc, Nat.zero_add]
  simpa using hv
 refine ⟨?_, ?_⟩
 ·rw [hcell]; simp [hj']
 ·simp [World.frozen?, hc]
theorem heap_of {α : Type} [Inhabited α] (enc : α → Value) (w : World) (n b off : Nat) (d : Array α) (os : Array Obj) {k : Nat} (hk : k < w.heap.size) :
  (Go.Sort.grow (Go.Sort.putRow enc (Go.Sort.ahead w n) b off d) os).heap[k]? = if b = k then (w.heap[k]?).map (Go.Sort.onCells (Go.Sort.putCells enc off d)) else w.heap[k]? := by
 unfold Go.Sort.grow Go.Sort.putRow Go.Sort.mapBlock Go.Sort.ahead
 simp only
 rw [Array.getElem?_append_left (by simpa using hk), Array.getElem?_modify]
theorem left_row {S : Nat → Prop} {ρ : Map} {F : Nat → Prop} {w : World} {b N T : Nat} {xs ys : List Int} (ok : WOk S ρ F w) (hρ : ρ 7000000 = some (b, N)) (hdom : ∀ id p, ρ id = some p → id = 7000000)
  (ho : ORel ρ F w [(7000000, .row T 1 (xs.map cInt))] b N (.row T 1 (xs.map cInt))) (n : Nat) (d : Array Int) (os : Array Obj) (hd : d.size = xs.length) (hy : ∀ (i : Nat) (hi : i < ys.length), d[i]? = some ys[i]) (hl : ys.length ≤ xs.length)
  {id : Nat} {w' : World} (hw : w' = Go.Sort.grow (Go.Sort.putRow (Value.int .i64) (Go.Sort.ahead w n) b 0 d) os) :
  Keep S w w' ∧ WOk S (fun k => if k = id then some (b, N) else none) F w' ∧ ORel (fun k => if k = id then some (b, N) else none) F w' [(id, .row T 1 (ys.map cInt))] b N (.row T 1 (ys.map cInt)) := by
 obtain ⟨k1, k2, k3⟩ := ok.own _ b N hρ
 have hsz : w.heap.size ≤ w'.heap.size := by
  subst hw
  unfold Go.Sort.grow Go.Sort.putRow Go.Sort.mapBlock Go.Sort.ahead
  simp
 have hother : ∀ k, k < w.heap.size → k ≠ b → w'.heap[k]? = w.heap[k]? := fun k hk hne => by
  subst hw
  rw [heap_of _ _ _ _ _ _ _ hk, if_neg (fun e => hne e.symm)]
 have hF : ∀ k, F k → w'.heap[k]? = w.heap[k]? := fun k hk => hother k (ok.comm k hk) (fun e => k3 (e ▸ hk))
 have hwos : w'.os = w.os ∧ w'.tape = w.tape ∧ w'.output = w.output := by subst hw; exact ⟨rfl, rfl, rfl⟩
 refine ⟨⟨hwos.1, hwos.2.1, hwos.2.2, hsz, fun k hk => hother k (ok.keep k hk) (fun e => k2 (e ▸ hk))⟩, ⟨ok.glob.mono (fun _ h => h) hF, fun k hk => Nat.lt_of_lt_of_le (ok.keep k hk) hsz, fun k hk => Nat.lt_of_lt_of_le (ok.comm k hk) hsz, fun i k M hi => ?_, fun i j k M M' hi hj => ?_⟩, ?_⟩
 ·split at hi
  ·cases hi; exact ⟨by omega, k2, k3⟩
  ·cases hi
 ·split at hi <;> split at hj
  ·subst_vars; rfl
  ·cases hj
  ·cases hi
  ·cases hi
 ·obtain ⟨c, hc, hn, hle, hs, h⟩ := ho
  have hlen : xs.length ≤ c.length := by simp at hle; omega
  have hcell : w'.heap[b]? = some (.cells (Go.Sort.putCells (Value.int .i64) 0 d c.toArray) T (0, 0)) := by
   subst hw
   rw [heap_of _ _ _ _ _ _ _ k1, if_pos rfl, hc]
   rfl
  refine ⟨(Go.Sort.putCells (Value.int .i64) 0 d c.toArray).toList, by simpa using hcell, by simpa [Go.Sort.putCells] using hn, by simp; omega, fun e he => ?_, fun i e j x hi hj => ?_⟩
  ·obtain ⟨y, _, rfl⟩ := List.mem_map.1 he; rfl
  ·have hi' : i < ys.length := by have := (List.getElem?_eq_some_iff.1 hi).1; simpa using this
   have he : e = cInt ys[i] := by simp [hi'] at hi; exact hi.symm
   subst he
   have hj0 : j = 0 := by
    cases j with
    | zero => rfl
    | succ j => simp [cInt] at hj
   subst hj0
   have hx : x = .int .i64 ys[i] := by simp [cInt] at hj; exact hj.symm
   subst hx
   refine ⟨.int .i64 ys[i], ?_, .int _ _⟩
   have hic : i < c.length := by omega
   have hid : i < d.size := by omega
   have hdi := hy i hi'
   rw [Array.getElem?_eq_getElem hid] at hdi
   have hdi : d[i] = ys[i] := Option.some.inj hdi
   simp [Go.Sort.putCells, hic, hid, hdi]
theorem look_one {k id : Nat} {o : Ob} (h : k ≠ id) : Go.Ab.look [(k, o)] id = none := by
 unfold Go.Ab.look; rw [beq_false h]; rfl
theorem gc_slices_Sort_int (fu : Nat) (xs r_ : List Int) (H : m_slices_Sort_int fu xs = some r_) : Go.Ab.FnH Tryz.prog 84 [.c (.own 7000000 1)] [(7000000, .row 3 1 (List.map cInt xs))] (.tup []) [(7000000, .row 3 1 (List.map cInt r_))] := by
 unfold m_slices_Sort_int at H
 split at H
 ·rename_i hb
  have hb := of_decide_eq_true hb
  obtain rfl := Option.some.inj H
  have hlen : (xs.mergeSort fun x y => decide (x ≤ y)).length = xs.length := List.length_mergeSort xs
  refine ⟨Tryz.call84, fun id T s es o hpre hpost => ?_, fun S F ρ w vs ok hdom hobj hargs => ?_⟩
  ·by_cases hid : 7000000 = id
   ·subst hid; cases hpre; cases hpost; exact ⟨_, rfl, by simp⟩
   ·rw [look_one hid] at hpre; cases hpre
  ·have hdom' : ∀ id p, ρ id = some p → id = 7000000 := fun id p h => by
    obtain ⟨_, o, ho⟩ := hdom id p h
    by_cases hid : 7000000 = id
    ·exact hid.symm
    ·rw [look_one hid] at ho; cases ho
   match vs, hargs with
   | [v], hargs =>
    obtain ⟨⟨T, es, he, hv⟩, -⟩ := hargs
    have he' : (some (Ob.row 3 1 (List.map cInt xs)) : Option Ob) = some (.row T 1 es) := he
    cases he'
    rcases hv with ⟨rfl, hes⟩ | ⟨b, N, cap, hρ, rfl, hcap, hmax, hN⟩
    ·have hxs : xs = [] := by simpa using hes
     subst hxs
     refine (Tryz.slices_Sort_int_none none 0 w).mono ?_
     rintro e w' ⟨rfl, rfl⟩
     refine ⟨_, ρ, F, rfl, ⟨Keep.refl _ _, ok, fun _ h => h, fun _ h => .inl h, fun _ _ h _ => h, fun id p h => ?_, ⟨[], rfl, trivial⟩, fun id b N h o ho => ?_⟩⟩
     ·have := hdom' id p h; subst this; exact ⟨_, rfl⟩
     ·have := hdom' id _ h; subst this
      have := hobj 7000000 b N h _ rfl
      cases ho
      simpa using this
    ·have ho := hobj 7000000 b N hρ _ rfl
     rw [List.length_map]
     refine (Tryz.slices_Sort_int b 0 cap xs w (holds_row ho) (ok.own _ b N hρ).1 (by omega)).mono ?_
     rintro e w' ⟨rfl, n, os, hw⟩
     obtain ⟨h1, h2, h3⟩ := left_row (id := 7000000) ok hρ hdom' ho n (xs.mergeSort fun x y => decide (x ≤ y)).toArray os (by simp) (ys := xs.mergeSort fun x y => decide (x ≤ y)) (fun i hi => by simp) (by omega) hw
     refine ⟨_, _, F, rfl, ⟨h1, h2, fun _ h => h, fun _ h => .inl h, fun id p h _ => ?_, fun id p h => ?_, ⟨[], rfl, trivial⟩, fun id b' N' h o hoo => ?_⟩⟩
     ·have := hdom' id p h; subst this; rw [hρ] at h; cases h; simp
     ·split at h
      ·subst_vars; exact ⟨_, rfl⟩
      ·cases h
     ·split at h
      ·subst_vars; cases h; cases hoo; exact h3
      ·cases h
 ·cases H
theorem compact_len (xs : List Int) : (Go.Lib.compact xs).length ≤ xs.length := by
 unfold Go.Lib.compact Go.Lib.compactUpTo
 rw [List.length_map]
 exact Nat.le_trans (List.length_filter_le _ _) (by simp)
theorem gc_slices_Compact_int (fu : Nat) (xs r_ : List Int) (H : m_slices_Compact_int fu xs = some r_) : Go.Ab.FnH Tryz.prog 85 [.c (.own 7000000 1)] [(7000000, .row 3 1 (List.map cInt xs))] (.s (.c (.own 0 1))) [(0, .row 3 1 (List.map cInt r_))] := by
 unfold m_slices_Compact_int at H
 split at H
 ·rename_i hb
  have hb := of_decide_eq_true hb
  obtain rfl := Option.some.inj H
  have hlen := compact_len xs
  refine ⟨Tryz.call85, fun id T s es o hpre hpost => ?_, fun S F ρ w vs ok hdom hobj hargs => ?_⟩
  ·by_cases hid : 7000000 = id
   ·subst hid; rw [look_one (by decide)] at hpost; cases hpost
   ·rw [look_one hid] at hpre; cases hpre
  ·have hdom' : ∀ id p, ρ id = some p → id = 7000000 := fun id p h => by
    obtain ⟨_, o, ho⟩ := hdom id p h
    by_cases hid : 7000000 = id
    ·exact hid.symm
    ·rw [look_one hid] at ho; cases ho
   have hpin : ∀ id p, ρ id = some p → ¬ ∃ o, Go.Ab.look [(0, Ob.row 3 1 (List.map cInt (Go.Lib.compact xs)))] id = some o := fun id p h ⟨o, ho⟩ => by
    have := hdom' id p h; subst this
    rw [look_one (by decide)] at ho; cases ho
   match vs, hargs with
   | [v], hargs =>
    obtain ⟨⟨T, es, he, hv⟩, -⟩ := hargs
    have he' : (some (Ob.row 3 1 (List.map cInt xs)) : Option Ob) = some (.row T 1 es) := he
    cases he'
    rcases hv with ⟨rfl, hes⟩ | ⟨b, N, cap, hρ, rfl, hcap, hmax, hN⟩
    ·have hxs : xs = [] := by simpa using hes
     subst hxs
     refine (Tryz.slices_Compact_int_empty none 0 w).mono ?_
     rintro e w' ⟨rfl, rfl⟩
     refine ⟨_, fun _ => none, F, rfl, ⟨Keep.refl _ _, ⟨ok.glob, ok.keep, ok.comm, fun _ _ _ h => (by cases h), fun _ _ _ _ _ h => (by cases h)⟩, fun _ h => h, fun _ h => .inl h, fun id p h ho => absurd ho (hpin id p h), fun _ _ h => (by cases h), ⟨3, [], rfl, .inl ⟨rfl, rfl⟩⟩, fun _ _ _ h => (by cases h)⟩⟩
    ·have ho := hobj 7000000 b N hρ _ rfl
     rw [List.length_map] at hcap ⊢
     refine (Tryz.slices_Compact_int b 0 cap xs w (holds_row ho) (by omega) hcap).mono ?_
     rintro e w' ⟨rfl, n, hw⟩
     rw [← Go.Sort.grow_empty (Go.Sort.putRow _ _ _ _ _)] at hw
     obtain ⟨h1, h2, h3⟩ := left_row (id := 0) ok hρ hdom' ho n _ #[] (by simp; omega) (ys := Go.Lib.compact xs) (fun i hi => by simp [List.getElem?_append_left hi]) hlen hw
     refine ⟨_, _, F, rfl, ⟨h1, h2, fun _ h => h, fun _ h => .inl h, fun id p h ho => absurd ho (hpin id p h), fun id p h => ?_, ⟨3, _, rfl, .inr ⟨b, N, cap, by simp, by simp, by simp; omega, hmax, hN⟩⟩, fun id b' N' h o hoo => ?_⟩⟩
     ·split at h
      ·subst_vars; exact ⟨_, rfl⟩
      ·cases h
     ·split at h
      ·subst_vars; cases h; cases hoo; exact h3
      ·cases h
 ·cases H
def dimI (y m : Int) : Int := bif decide (m < 1) || decide (12 < m) then 0 else bif decide (m = 2) then (bif decide (Int.tmod y 4 = 0) && (!decide (Int.tmod y 100 = 0) || decide (Int.tmod y 400 = 0)) then 29 else 28) else bif decide (m = 4) || (decide (m = 6) || (decide (m = 9) || decide (m = 11))) then 30 else 31
set_option maxHeartbeats 4000000 in
theorem dim_plain (y m : Int) (h1 : 1 ≤ m) (h2 : m ≤ 12) (hm : m ≠ 2) (w : World) : Calls Tryz.prog 236 #[.int .i64 y, .int .i64 m] w fun e w' => e = .returned (.int .i64 (dimI y m)) ∧ Below w.heap.size w w' := by
 have hm12 : m = 1 ∨ m = 3 ∨ m = 4 ∨ m = 5 ∨ m = 6 ∨ m = 7 ∨ m = 8 ∨ m = 9 ∨ m = 10 ∨ m = 11 ∨ m = 12 := by omega
 clear h1 h2 hm
 rcases hm12 with rfl | rfl | rfl | rfl | rfl | rfl | rfl | rfl | rfl | rfl | rfl
 all_goals
  go_enter Tryz.func236, Tryz.ntmps236
  go_wp2
  go_ret
  exact ⟨rfl, below_alloc _ _⟩
set_option maxHeartbeats 4000000 in
theorem dim_out (y m : Int) (h : m < 1 ∨ 12 < m) (w : World) : Calls Tryz.prog 236 #[.int .i64 y, .int .i64 m] w fun e w' => e = .returned (.int .i64 (dimI y m)) ∧ Below w.heap.size w w' := by
 have hd : dimI y m = 0 := by
  unfold dimI
  rcases h with h | h
  ·rw [decide_eq_true h]; rfl
  ·rw [decide_eq_true h, Bool.or_true]; rfl
 rw [hd]
 rcases h with h | h
 all_goals
  go_enter Tryz.func236, Tryz.ntmps236
  go_wp2
  all_goals first | omega | (go_ret; exact ⟨rfl, below_alloc _ _⟩)
set_option maxHeartbeats 4000000 in
theorem dim_feb (y : Int) (w : World) : Calls Tryz.prog 236 #[.int .i64 y, .int .i64 2] w fun e w' => e = .returned (.int .i64 (dimI y 2)) ∧ Below w.heap.size w w' := by
 have hd : dimI y 2 = bif decide (Int.tmod y 4 = 0) && (!decide (Int.tmod y 100 = 0) || decide (Int.tmod y 400 = 0)) then 29 else 28 := rfl
 rw [hd]
 by_cases h4 : Int.tmod y 4 = 0 <;> by_cases h100 : Int.tmod y 100 = 0 <;> by_cases h400 : Int.tmod y 400 = 0
 all_goals
  simp only [h4, h100, h400, decide_true, decide_false, Bool.not_true, Bool.not_false, Bool.true_and, Bool.false_and, Bool.true_or, Bool.false_or, cond_true, cond_false]
  go_enter Tryz.func236, Tryz.ntmps236
  go_wp2
  all_goals first | (exfalso; simp_all; done) | (go_ret; exact ⟨rfl, below_alloc _ _⟩)
theorem gc_date_DaysInMonth (fu : Nat) (y m r_ : Int) (H : m_date_DaysInMonth fu y m = some r_) : Go.Ab.Fn Tryz.prog 236 [.c (iD y), .c (iD m)] (.s (.c (.d (iD r_)))) [] := by
 obtain rfl := Option.some.inj H
 refine ⟨Tryz.call236, fun F w vs hG hF hv => ?_⟩
 match vs, hv with
 | [u, v], hv =>
  obtain ⟨k1, k2, -⟩ := hv
  have k1 : DRel F w u (.int .i64 y) := k1
  have k2 : DRel F w v (.int .i64 m) := k2
  cases k1; cases k2
  have key : Calls Tryz.prog 236 #[.int .i64 y, .int .i64 m] w fun e w' => e = .returned (.int .i64 (dimI y m)) ∧ Below w.heap.size w w' := by
   by_cases h1 : m < 1 ∨ 12 < m
   ·exact dim_out y m h1 w
   ·by_cases h2 : m = 2
    ·subst h2; exact dim_feb y w
    ·exact dim_plain y m (by omega) (by omega) h2 w
  refine key.mono ?_
  rintro e w' ⟨rfl, hb⟩
  exact ⟨_, fun _ => none, F, rfl, ⟨hb, hG.mono (fun _ h => h) (fun b h => hb.block b (hF b h)), fun b h => Nat.lt_of_lt_of_le (hF b h) hb.size, fun _ h => h, fun _ h => .inl h, fun _ _ _ h => (by cases h), fun _ _ _ _ _ h => (by cases h), fun _ _ h => (by cases h), DRel.int .i64 _, fun _ _ _ h => (by cases h)⟩⟩
end Go.Proofs.YtffnbobdkpebgaaGreat
