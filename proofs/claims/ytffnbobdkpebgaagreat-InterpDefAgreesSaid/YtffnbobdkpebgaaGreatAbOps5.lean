/- The abstract machine: the laws of the single operations that write nothing, fifth part: rows, calls. -/
import Derived.Test.YtffnbobdkpebgaaGreatAbOps4
set_option linter.unusedVariables false
namespace Go.Ab
open Go.RowKit
theorem pureD_rel {ρ : Map} {F : Nat → Prop} {w : World} {H : Heap} {v : Value} {c : C} {x : D} (h : CRel ρ F w H v c) (hc : pureD c = some x) : DRel F w v x := by
 cases c <;> simp [pureD] at hc <;> subst hc
 ·exact h
 ·have : v = .slice none 0 0 := h
  subst this
  exact .nilS _
theorem allD_rel {ρ : Map} {F : Nat → Prop} {w : World} {H : Heap} : ∀ {vs : List Value} {cs : List C} {xs : List D}, All2 (CRel ρ F w H) vs cs → allD cs = some xs → All2 (DRel F w) vs xs
 | [], [], xs, _, h => by simp [allD] at h; subst h; trivial
 | v :: vs, c :: cs, xs, ⟨h1, h2⟩, h => by
  simp only [allD] at h
  split at h
  ·rename_i x ys hx hys
   simp at h; subst h
   exact ⟨pureD_rel h1 hx, allD_rel h2 hys⟩
  ·cases h
theorem splice_get {α : Type} {l v : List α} {off p : Nat} (h : off + v.length ≤ l.length) : (splice l off v)[p]? = if p < off then l[p]? else if p < off + v.length then v[p - off]? else l[p]? := by
 unfold splice
 have h0 : (l.take off).length = off := by simp; omega
 rw [List.append_assoc]
 by_cases h1 : p < off
 ·rw [if_pos h1, List.getElem?_append_left (by omega), List.getElem?_take, if_pos h1]
 ·rw [if_neg h1, List.getElem?_append_right (by omega), h0]
  by_cases h2 : p < off + v.length
  ·rw [if_pos h2, List.getElem?_append_left (by omega)]
  ·rw [if_neg h2, List.getElem?_append_right (by omega), List.getElem?_drop]
   congr 1; omega
def rowParts (tab : Tab) (σ : St) (te sz : Nat) : Nat → List (Nat × Operand) → Option (List (List D))
 | _, [] => some []
 | k, (j, x) :: rest => match Nat.beq j k, cellsOf (opnd tab σ te x) with
  | true, some cs => match allD cs, rowParts tab σ te sz (k + 1) rest with
   | some ds, some r => match Nat.beq ds.length sz with
    | true => some (ds :: r)
    | false => none
   | _, _ => none
  | _, _ => none
def Holds (F : Nat → Prop) (w : World) (sz k : Nat) (c : List Value) (es : List (List D)) : Prop :=
 (∀ e ∈ es, e.length = sz) ∧ ∀ (i : Nat) e (j : Nat) x, es[i]? = some e → e[j]? = some x → ∃ v, c[(k + i) * sz + j]? = some v ∧ DRel F w v x
theorem fill_rows {tab : Tab} {σ : St} {a : Act} {ρ : Map} {F : Nat → Prop} {w : World} {H : Heap} {te sz : Nat} : ∀ (parts : List (Nat × Operand)) (k : Nat) (cells : Array Value) (es : List (List D)),
  (∀ p ∈ parts, ∀ ty, ARel ρ F w H (a.eval p.2) (opnd tab σ ty p.2)) → rowParts tab σ te sz k parts = some es → (k + parts.length) * sz ≤ cells.size →
  ∃ cells', Instr.fill (fun i => some (i * sz, sz)) cells (parts.map fun (i, x) => (i, a.eval x)) = some cells' ∧ cells'.size = cells.size ∧ (∀ p, p < k * sz → cells'.toList[p]? = cells.toList[p]?) ∧ Holds F w sz k cells'.toList es
 | [], k, cells, es, _, h, _ => by
  simp [rowParts] at h; subst h
  exact ⟨cells, rfl, rfl, fun _ _ => rfl, by simp, by simp⟩
 | (j, x) :: rest, k, cells, es, hop, h, hs => by
  simp only [rowParts] at h
  split at h
  ·rename_i cs hj hc
   split at h
   ·rename_i ds r hds hr
    split at h
    ·rename_i hb
     simp at h; subst h
     have hjk := Nat.eq_of_beq_eq_true hj
     have hsz := Nat.eq_of_beq_eq_true hb
     subst hjk
     have hx := allD_rel (cellsOf_rel (hop (j, x) (by simp) te) hc) hds
     have hl : (a.eval x).cells.size = sz := by have := All2.length hx; simp at this; omega
     have hs1 : (j + 1 + rest.length) * sz ≤ cells.size := by simp only [List.length_cons] at hs; rwa [show j + 1 + rest.length = j + (rest.length + 1) by omega]
     have hs2 : j * sz + sz ≤ cells.size := by
      have : (j + 1) * sz ≤ (j + 1 + rest.length) * sz := Nat.mul_le_mul_right _ (by omega)
      rw [Nat.add_mul, Nat.one_mul] at this; omega
     have hlen : j * sz + (a.eval x).cells.toList.length ≤ cells.toList.length := by simp; omega
     obtain ⟨cells', h1, h2, h3, h4, h5⟩ := fill_rows rest (j + 1) (splice cells.toList (j * sz) (a.eval x).cells.toList).toArray r (fun p hp => hop p (by simp [hp])) hr (by
      rw [List.size_toArray, length_splice hlen]; simpa using hs1)
     have hgo : ∀ p, p < (j + 1) * sz → cells'.toList[p]? = (splice cells.toList (j * sz) (a.eval x).cells.toList)[p]? := fun p hp => by simpa using h3 p hp
     refine ⟨cells', ?_, ?_, fun p hp => ?_, fun e he => ?_, fun i e q y hi hq => ?_⟩
     ·simp only [List.map_cons, Instr.fill]
      rw [if_neg (by simp; omega), fold_set_arr _ _ _ (by omega)]
      exact h1
     ·rw [h2, List.size_toArray, length_splice hlen]; simp
     ·rw [hgo p (by rw [Nat.add_mul, Nat.one_mul]; omega), splice_get hlen, if_pos hp]
     ·simp only [List.mem_cons] at he
      rcases he with rfl | he
      ·exact hsz
      ·exact h4 e he
     ·cases i with
      | zero =>
       simp at hi; subst hi
       obtain ⟨v, hv, hd⟩ := All2.get hx hq
       have hq' : q < sz := by have := (List.getElem?_eq_some_iff.1 hq).1; omega
       refine ⟨v, ?_, hd⟩
       rw [Nat.add_zero, hgo _ (by rw [Nat.add_mul, Nat.one_mul]; omega), splice_get hlen, if_neg (by omega), if_pos (by simp; omega)]
       rw [Nat.add_sub_cancel_left]; exact hv
      | succ i =>
       obtain ⟨v, hv, hd⟩ := h5 i e q y (by simpa using hi) hq
       exact ⟨v, by rwa [show j + (i + 1) = j + 1 + i by omega], hd⟩
    ·cases h
   ·cases h
  ·cases h
theorem rowParts_length {tab : Tab} {σ : St} {te sz : Nat} : ∀ (parts : List (Nat × Operand)) (k : Nat) (es : List (List D)), rowParts tab σ te sz k parts = some es → es.length = parts.length
 | [], k, es, h => by simp [rowParts] at h; subst h; rfl
 | (j, x) :: rest, k, es, h => by
  simp only [rowParts] at h
  split at h
  ·split at h
   ·rename_i ds r hds hr
    split at h
    ·simp at h; subst h; simp [rowParts_length rest (k + 1) r hr]
    ·cases h
   ·cases h
  ·cases h
theorem ok_buildSlice {P : Program} {tab : Tab} {σ : St} {o : Oper} {t n id : Nat} {parts : Array (Nat × Operand)} {i ie : TI} {es : List (List D)} (ho : o.op = .buildSlice t n parts) (hi : TIOk P t i) (htag : i.tag = 4)
  (he : TIOk P i.elem ie) (hr : rowParts tab σ i.elem ie.size 0 parts.toList = some es) (hn : parts.toList.length = n) (hb : n * ie.size ≤ 16777216) (hn' : n ≤ 16777216) :
  StepOK P o σ (.s (.c (.own id ie.size))) [(id, .row i.elem ie.size es)] :=
 step_new fun S ρ F H a w ok hs hnw hop hh => by
  have hlen := rowParts_length _ _ _ hr
  obtain ⟨z, hz, hzz⟩ := he.zero w
  let zero : Array Value := if n * ie.size = 0 then #[] else z.cells
  obtain ⟨cells', h1, h2, h3, h4, h5⟩ := fill_rows (a := a) (ρ := ρ) (F := F) (w := w) (H := H) parts.toList 0 ((Array.range (n * ie.size)).map (zero[· % zero.size]!)) es (fun p hp ty => hop tab ty p.2 (by
   rw [ho]; simp only [Op.operands, List.mem_toArray, List.mem_map]; exact ⟨p, hp, rfl⟩)) hr (by simp [hn])
  refine ⟨.slice (some ⟨w.heap.size, 0, none⟩) n n, cells'.toList, i.elem, ?_, fun ρ' w' hρ hid hw hbk => ⟨⟨i.elem, es, hnw _ _ (look_self _ _), .inr ⟨_, _, n, hid, by rw [hlen, hn], by omega, by unfold maxLen; omega, by simp [h2]⟩⟩, ?_⟩⟩
  ·have hbig : ¬ n * ie.size > 2 ^ 24 := by omega
   by_cases h0 : n * ie.size = 0
   ·have hz0 : zero = #[] := if_pos h0
    rw [hz0] at h1
    simp only [execOp, ho, Instr.buildSlice, Sem.run_bind, run_underlying (hi.slice htag), Result.andThen_ok, he.sizeOf, Sem.run_ite, if_neg hbig, if_pos h0, Sem.run_pure, Array.toList_map, h1, run_newRow]
   ·have hz0 : zero = z.cells := if_neg h0
    rw [hz0] at h1
    simp only [execOp, ho, Instr.buildSlice, Sem.run_bind, run_underlying (hi.slice htag), Result.andThen_ok, he.sizeOf, Sem.run_ite, if_neg hbig, if_neg h0, hz, Sem.run_pure, Array.toList_map, h1, run_newRow]
  ·refine ⟨cells'.toList, by simpa using hbk, rfl, by simp [h2, hlen, hn], h4, fun p e j x hp hj => ?_⟩
   obtain ⟨v, hv, hd⟩ := h5 p e j x hp hj
   rw [Nat.zero_add] at hv
   exact ⟨v, hv, DRel.mono (fun _ h => h) hw hd⟩
theorem ok_buildSliceD {P : Program} {tab : Tab} {σ : St} {o : Oper} {t n : Nat} {parts : Array (Nat × Operand)} {i ie : TI} {es : List (List D)} (ho : o.op = .buildSlice t n parts) (hi : TIOk P t i) (htag : i.tag = 4)
  (he : TIOk P i.elem ie) (hr : rowParts tab σ i.elem ie.size 0 parts.toList = some es) (hn : parts.toList.length = n) (hb : n * ie.size ≤ 16777216) (hn' : n ≤ 16777216) :
  StepOK P o σ (.s (.c (.d (.slice ie.size es)))) [] := by
 intro S ρ F H a w next Q ok hs hnw ht hh hf hk
 have hop : ∀ (tab : Tab) ty x, x ∈ o.op.operands → ARel ρ F w H (a.eval x) (opnd tab σ ty x) := fun tab ty x hx => opnd_rel tab ty (fun t e => by subst e; exact ht t hx)
 have hlen := rowParts_length _ _ _ hr
 obtain ⟨z, hz, hzz⟩ := he.zero w
 let zero : Array Value := if n * ie.size = 0 then #[] else z.cells
 obtain ⟨cells', h1, h2, h3, h4, h5⟩ := fill_rows (a := a) (ρ := ρ) (F := F) (w := w) (H := H) parts.toList 0 ((Array.range (n * ie.size)).map (zero[· % zero.size]!)) es (fun p hp ty => hop tab ty p.2 (by
  rw [ho]; simp only [Op.operands, List.mem_toArray, List.mem_map]; exact ⟨p, hp, rfl⟩)) hr (by simp [hn])
 have hrun : (execOp a.eval o).run P w = .ok (.value (.slice (some ⟨w.heap.size, 0, none⟩) n n)) (w.alloc (.cells cells'.toList.toArray i.elem)) := by
  have hbig : ¬ n * ie.size > 2 ^ 24 := by omega
  by_cases h0 : n * ie.size = 0
  ·have hz0 : zero = #[] := if_pos h0
   rw [hz0] at h1
   simp only [execOp, ho, Instr.buildSlice, Sem.run_bind, run_underlying (hi.slice htag), Result.andThen_ok, he.sizeOf, Sem.run_ite, if_neg hbig, if_pos h0, Sem.run_pure, Array.toList_map, h1, run_newRow]
  ·have hz0 : zero = z.cells := if_neg h0
   rw [hz0] at h1
   simp only [execOp, ho, Instr.buildSlice, Sem.run_bind, run_underlying (hi.slice htag), Result.andThen_ok, he.sizeOf, Sem.run_ite, if_neg hbig, if_neg h0, hz, Sem.run_pure, Array.toList_map, h1, run_newRow]
 have hsz : (w.alloc (.cells cells'.toList.toArray i.elem)).heap.size = w.heap.size + 1 := by simp [World.size_alloc]
 have hnew : (w.alloc (.cells cells'.toList.toArray i.elem)).heap[w.heap.size]? = some (.cells cells'.toList.toArray i.elem (0, 0)) := heap_alloc_new w _
 have hold : ∀ b, F b → (w.alloc (.cells cells'.toList.toArray i.elem)).heap[b]? = w.heap[b]? := fun b hb => (below_alloc w _).block b (ok.comm b hb)
 refine wp_value hrun (hk _ ρ (fun b => F b ∨ b = w.heap.size) _ ⟨below_alloc w _, ⟨ok.glob.mono (fun _ h => .inl h) hold, fun b hb => ?_, fun b hb => ?_, fun i b M h => ?_, ok.inj⟩, fun _ _ h => h, fun _ _ h => .inl h, fun _ h => .inl h, fun b h => h.imp_right fun h => by omega⟩ ?_ (fun id ob b N h => by cases h))
 ·have := ok.keep b hb; omega
 ·rcases hb with hb | hb
  ·have := ok.comm b hb; omega
  ·omega
 ·obtain ⟨g1, g2, g3⟩ := ok.own i b M h
  exact ⟨by omega, g2, fun h => h.elim g3 (by omega)⟩
 ·have hl : es.length = n := by rw [hlen, hn]
  have key := DRel.slice (F := fun b => F b ∨ b = w.heap.size) (w := w.alloc (.cells cells'.toList.toArray i.elem)) w.heap.size 0 n ie.size es (fun p j => (cells'[p * ie.size + j]?).getD default) (fun _ => .inr rfl) (by omega) (by unfold maxLen; omega) h4 (fun p e j x hp hj => ?_) (fun p e j x hp hj => ?_)
  ·rw [hl] at key; exact key
  ·obtain ⟨v, hv, hd⟩ := h5 p e j x hp hj
   rw [Nat.zero_add] at hv
   have hv' : cells'[p * ie.size + j]? = some v := by rw [← Array.getElem?_toList]; exact hv
   rw [World.cell?_alloc_new, hv', Nat.zero_add]
   simpa using hv'
  ·obtain ⟨v, hv, hd⟩ := h5 p e j x hp hj
   rw [Nat.zero_add] at hv
   have hv' : cells'[p * ie.size + j]? = some v := by rw [← Array.getElem?_toList]; exact hv
   rw [hv']
   exact DRel.mono (fun _ h => .inl h) hold hd
theorem ok_buildSlice1 {P : Program} {tab : Tab} {σ : St} {o : Oper} {t id : Nat} {x : Operand} {i ie : TI} {cs : List C} (ho : o.op = .buildSlice t 1 #[(0, x)]) (hi : TIOk P t i) (htag : i.tag = 4)
  (he : TIOk P i.elem ie) (hx : cellsOf (opnd tab σ i.elem x) = some cs) (hl : cs.length = ie.size) (h0 : 0 < ie.size) (hb : ie.size ≤ 16777216) :
  StepOK P o σ (.s (.c (.vrow id ie.size 1))) [(id, .var cs)] :=
 step_new fun S ρ F H a w ok hs hnw hop hh => by
  have h1 := cellsOf_rel (hop tab i.elem x (by simp [ho, Op.operands])) hx
  have hsz : (a.eval x).cells.size = ie.size := by have := All2.length h1; simp at this; omega
  obtain ⟨z, hz, hzz⟩ := he.zero w
  refine ⟨.slice (some ⟨w.heap.size, 0, none⟩) 1 1, (a.eval x).cells.toList, i.elem, ?_, fun ρ' w' hρ hid hw hbk => ⟨⟨_, _, hid, rfl, by simp [hsz], by unfold maxLen; omega⟩, _, i.elem, hbk, rfl, ?_⟩⟩
  ·have hbig : ¬ 1 * ie.size > 2 ^ 24 := by omega
   have hn0 : ¬ 1 * ie.size = 0 := by omega
   have key : Instr.fill (fun i => some (i * ie.size, ie.size)) ((Array.range (1 * ie.size)).map (z.cells[· % z.cells.size]!)) [(0, a.eval x)] = some (a.eval x).cells := by
    simp only [Instr.fill]
    rw [if_neg (by simp [hsz]), fold_set_arr _ _ _ (by simp [hsz])]
    congr 1
    apply Array.toList_inj.1
    apply List.ext_getElem?
    intro p
    have hfit : 0 * ie.size + (a.eval x).cells.toList.length ≤ ((Array.range (1 * ie.size)).map (z.cells[· % z.cells.size]!)).toList.length := by simp [hsz]
    rw [List.toList_toArray, splice_get hfit]
    by_cases hp : p < ie.size
    ·rw [if_neg (by omega), if_pos (by simp [hsz]; omega)]
     congr 1
     omega
    ·rw [if_neg (by omega), if_neg (by simp [hsz]; omega), List.getElem?_eq_none (by simp; omega), List.getElem?_eq_none (by simp [hsz]; omega)]
   simp only [execOp, ho, Instr.buildSlice, Sem.run_bind, run_underlying (hi.slice htag), Result.andThen_ok, he.sizeOf, Sem.run_ite, if_neg hbig, if_neg hn0, hz, Sem.run_pure, List.map_toArray, List.map_cons, List.map_nil, key, run_newRow]
  ·exact All2.mono (fun _ _ => CRel.mono hρ (fun _ h => h) hw (Sub.refl H)) h1
theorem lend1_rel {ρ : Map} {F : Nat → Prop} {w : World} {H h : Heap} {v : Value} {c : C} {x : D} (hs : Sub h H) (hh : HRel ρ F w H) (hr : CRel ρ F w H v c) (hc : lend1 h c = some x) :
  DRel (fun b => F b ∨ ∃ id N, id ∈ nameOf c ∧ ρ id = some (b, N)) w v x := by
 have up : ∀ {v : Value} {x : D} {c : C}, DRel F w v x → DRel (fun b => F b ∨ ∃ id N, id ∈ nameOf c ∧ ρ id = some (b, N)) w v x := fun h => DRel.mono (fun _ h => .inl h) (fun _ _ => rfl) h
 cases c with
 | d y => simp [lend1] at hc; subst hc; exact up hr
 | nil s =>
  simp [lend1] at hc; subst hc
  have : v = .slice none 0 0 := hr
  subst this
  exact .nilS _
 | own id s =>
  obtain ⟨T', es2, hl', hv⟩ := hr
  cases hl0 : look h id with
  | none => simp [lend1, elems, hl0] at hc
  | some ob =>
   have hlk := hs _ _ hl0
   rw [hl'] at hlk; cases hlk
   simp [lend1, elems, hl0] at hc
   subst hc
   rcases hv with ⟨rfl, rfl⟩ | ⟨b, N, cap, hb, rfl, hcap, hmax, hN⟩
   ·exact .nilS _
   ·obtain ⟨cs, hcs, hn, hle, hsz, hd⟩ := hh id b N hb _ hl'
    refine DRel.slice b 0 cap s es2 (fun i j => cs.getD (i * s + j) undef) (fun _ => .inr ⟨id, N, by simp [nameOf], hb⟩) hcap hmax hsz (fun i e j x hi hj => ?_) (fun i e j x hi hj => ?_)
    ·obtain ⟨u, hu, _⟩ := hd i e j x hi hj
     rw [cell_block hcs, Nat.zero_add]; simp [List.getD, hu]
    ·obtain ⟨u, hu, hd'⟩ := hd i e j x hi hj
     simp only [List.getD, hu, Option.getD_some]; exact up hd'
 | sub id s st n =>
  obtain ⟨T', es2, hl', hlen, hv⟩ := hr
  cases hl0 : look h id with
  | none => simp [lend1, elems, hl0] at hc
  | some ob =>
   have hlk := hs _ _ hl0
   rw [hl'] at hlk; cases hlk
   simp [lend1, elems, hl0] at hc
   subst hc
   have hlen' : ((es2.drop st).take n).length = n := by simp; omega
   rcases hv with ⟨rfl, rfl⟩ | ⟨_, rfl, b, o, rfl⟩ | ⟨b, N, cap, hb, rfl, hcap, hmax, hN⟩
   ·rw [List.take_zero]; exact .nilS _
   ·rw [List.take_zero]
    exact DRel.slice b o 0 s [] (fun _ _ => undef) (by simp) (by simp) (by unfold maxLen; omega) (by simp) (by simp) (by simp)
   ·obtain ⟨cs, hcs, hn, hle, hsz, hd⟩ := hh id b N hb _ hl'
    have key := DRel.slice (F := fun b => F b ∨ ∃ id' N, id' ∈ nameOf (.sub id s st n) ∧ ρ id' = some (b, N)) (w := w) b (st * s) cap s ((es2.drop st).take n) (fun i j => cs.getD ((st + i) * s + j) undef) (fun _ => .inr ⟨id, N, by simp [nameOf], hb⟩) (by omega) hmax
     (fun e he => hsz e (List.mem_of_mem_drop (List.mem_of_mem_take he))) (fun i e j x hi hj => by
      obtain ⟨u, hu, _⟩ := hd _ e j x (take_drop_get hi) hj
      rw [cell_block hcs, ← Nat.add_mul]; simp [List.getD, hu]) (fun i e j x hi hj => by
      obtain ⟨u, hu, hd'⟩ := hd _ e j x (take_drop_get hi) hj
      simp only [List.getD, hu, Option.getD_some]; exact up hd')
    rw [hlen'] at key
    exact key
 | ref id i s off => simp [lend1] at hc
 | vrow id s n => simp [lend1] at hc
 | junk => simp [lend1] at hc
theorem lend1All_rel {ρ : Map} {F : Nat → Prop} {w : World} {H h : Heap} (hs : Sub h H) (hh : HRel ρ F w H) : ∀ {vs : List Value} {cs : List C} {xs : List D}, All2 (CRel ρ F w H) vs cs → lend1All h cs = some xs →
  All2 (DRel (fun b => F b ∨ ∃ id N, id ∈ cs.flatMap nameOf ∧ ρ id = some (b, N)) w) vs xs
 | [], [], xs, _, h => by simp [lend1All] at h; subst h; trivial
 | v :: vs, c :: cs, xs, ⟨h1, h2⟩, h => by
  simp only [lend1All] at h
  split at h
  ·rename_i x ys hx hys
   simp at h; subst h
   refine ⟨DRel.mono (fun b hb => hb.imp_right fun ⟨id, N, hi, hρ⟩ => ⟨id, N, ?_, hρ⟩) (fun _ _ => rfl) (lend1_rel hs hh h1 hx), All2.mono (fun _ _ => DRel.mono (fun b hb => hb.imp_right fun ⟨id, N, hi, hρ⟩ => ⟨id, N, ?_, hρ⟩) (fun _ _ => rfl)) (lend1All_rel hs hh h2 hys)⟩
   ·simp only [List.flatMap_cons, List.mem_append]; exact .inl hi
   ·simp only [List.flatMap_cons, List.mem_append]; exact .inr hi
  ·cases h
theorem lend_rel' {ρ : Map} {F : Nat → Prop} {w : World} {H h : Heap} {v : Value} {c : C} {x : D} (hs : Sub h H) (hh : HRel ρ F w H) (hr : CRel ρ F w H v c) (hc : lend h c = some x) :
  DRel (fun b => F b ∨ ∃ id N, id ∈ lendN h c ∧ ρ id = some (b, N)) w v x := by
 cases c with
 | d y => exact lend1_rel (c := .d y) hs hh hr hc
 | nil s => exact lend1_rel (c := .nil s) hs hh hr hc
 | own id s => exact lend1_rel (c := .own id s) hs hh hr hc
 | sub id s st n => exact lend1_rel (c := .sub id s st n) hs hh hr hc
 | ref id i s off =>
  cases i with
  | succ i => simp [lend] at hc
  | zero =>
   simp only [lend] at hc
   split at hc
   ·rename_i cs hl
    split at hc
    ·rename_i ds hds
     simp only [Option.some.injEq] at hc
     subst hc
     obtain ⟨b, N, hb, rfl⟩ := hr
     obtain ⟨c, T, hcb, hn, hcr⟩ := hh id b N hb _ (hs _ _ hl)
     have hd := lend1All_rel hs hh hcr hds
     have e : lendN h (.ref id 0 s off) = id :: cs.flatMap nameOf := by simp only [lendN, hl]
     rw [e]
     have key := DRel.ptr (F := fun b => F b ∨ ∃ id' N, id' ∈ id :: cs.flatMap nameOf ∧ ρ id' = some (b, N)) (w := w) b 0 off ds (fun j => c.getD j undef) (.inr ⟨id, N, by simp, hb⟩) (fun j x hx => by
      obtain ⟨u, hu, _⟩ := All2.get hd hx
      rw [cell_block hcb, Nat.zero_add]; simp [List.getD, hu]) (fun j x hx => by
      obtain ⟨u, hu, hr⟩ := All2.get hd hx
      simp only [List.getD, hu, Option.getD_some]
      exact DRel.mono (fun b hb => hb.imp_right fun ⟨id, N, hi, hρ⟩ => ⟨id, N, List.mem_cons_of_mem _ hi, hρ⟩) (fun _ _ => rfl) hr)
     rw [Nat.zero_add] at key
     rw [Nat.zero_mul, Nat.zero_add]
     exact key
    ·cases hc
   ·cases hc
 | vrow id s n => simp [lend] at hc
 | junk => simp [lend] at hc
theorem lend_rel {ρ : Map} {F : Nat → Prop} {w : World} {H h : Heap} {v : Value} {c : C} {x : D} (hs : Sub h H) (hh : HRel ρ F w H) (hr : CRel ρ F w H v c) (hc : lend h c = some x) :
  DRel (fun b => F b ∨ ∃ id N, ρ id = some (b, N)) w v x :=
 DRel.mono (fun _ h => h.imp_right fun ⟨id, N, _, h⟩ => ⟨id, N, h⟩) (fun _ _ => rfl) (lend_rel' hs hh hr hc)
theorem lendAll_rel {ρ : Map} {F : Nat → Prop} {w : World} {H h : Heap} (hs : Sub h H) (hh : HRel ρ F w H) : ∀ {vs : List Value} {cs : List C} {xs : List D}, All2 (CRel ρ F w H) vs cs → lendAll h cs = some xs →
  All2 (DRel (fun b => F b ∨ ∃ id N, ρ id = some (b, N)) w) vs xs
 | [], [], xs, _, h => by simp [lendAll] at h; subst h; trivial
 | v :: vs, c :: cs, xs, ⟨h1, h2⟩, h => by
  simp only [lendAll] at h
  split at h
  ·rename_i x ys hx hys
   simp at h; subst h
   exact ⟨lend_rel hs hh h1 hx, lendAll_rel hs hh h2 hys⟩
  ·cases h
theorem lendV_rel {ρ : Map} {F : Nat → Prop} {w : World} {H h : Heap} (hs : Sub h H) (hh : HRel ρ F w H) {v : Value} {x : AV} {y : DV} (hr : ARel ρ F w H v x) (hl : lendV h x = some y) :
  DVRel (fun b => F b ∨ ∃ id N, ρ id = some (b, N)) w v y := by
 cases x with
 | tup vs => cases hl
 | s x =>
  cases x with
  | c x =>
   simp only [lendV] at hl
   split at hl
   ·rename_i d hd; simp at hl; subst hl; exact lend_rel hs hh hr hd
   ·cases hl
  | agg cs =>
   simp only [lendV] at hl
   split at hl
   ·rename_i ds hd
    simp at hl; subst hl
    obtain ⟨vs, rfl, hv⟩ := hr
    exact ⟨vs, rfl, lendAll_rel hs hh hv hd⟩
   ·cases hl
  | fn f cs =>
   simp only [lendV] at hl
   split at hl
   ·rename_i ds hd
    simp at hl; subst hl
    obtain ⟨vs, rfl, hv⟩ := hr
    have hall := lendAll_rel hs hh hv hd
    exact DRel.clos f ds vs (All2.length hall) fun j x v hx hv' => by
     obtain ⟨u, hu, hr⟩ := All2.get hall hx
     rw [hv'] at hu; cases hu; exact hr
   ·cases hl
theorem isD_rel {ρ : Map} {F : Nat → Prop} {w : World} {H h : Heap} {v : Value} {c : C} {x : D} (hr : CRel ρ F w H v c) (hc : lend h c = some x) (hd : c.isD = true) : DRel F w v x := by
 cases c <;> simp [C.isD] at hd
 ·simp [lend] at hc; subst hc; exact hr
 ·simp [lend] at hc; subst hc
  have : v = .slice none 0 0 := hr
  subst this
  exact .nilS _
theorem isD_all {ρ : Map} {F : Nat → Prop} {w : World} {H h : Heap} : ∀ {vs : List Value} {cs : List C} {xs : List D}, All2 (CRel ρ F w H) vs cs → lendAll h cs = some xs → cs.all C.isD = true → All2 (DRel F w) vs xs
 | [], [], xs, _, h, _ => by simp [lendAll] at h; subst h; trivial
 | v :: vs, c :: cs, xs, ⟨h1, h2⟩, h, hd => by
  simp only [List.all_cons, Bool.and_eq_true] at hd
  simp only [lendAll] at h
  split at h
  ·rename_i x ys hx hys
   simp at h; subst h
   exact ⟨isD_rel h1 hx hd.1, isD_all h2 hys hd.2⟩
  ·cases h
theorem isD_V {ρ : Map} {F : Nat → Prop} {w : World} {H h : Heap} {v : Value} {x : AV} {y : DV} (hr : ARel ρ F w H v x) (hl : lendV h x = some y) (hd : x.isD = true) : DVRel F w v y := by
 cases x with
 | tup vs => cases hl
 | s x =>
  cases x with
  | c x =>
   simp only [lendV] at hl
   split at hl
   ·rename_i d hd'; simp at hl; subst hl; exact isD_rel hr hd' hd
   ·cases hl
  | agg cs =>
   simp only [lendV] at hl
   split at hl
   ·rename_i ds hd'
    simp at hl; subst hl
    obtain ⟨vs, rfl, hv⟩ := hr
    exact ⟨vs, rfl, isD_all hv hd' hd⟩
   ·cases hl
  | fn f cs => simp [AV.isD] at hd
theorem lendArgs_rel {tab : Tab} {σ : St} {a : Act} {ρ : Map} {F : Nat → Prop} {w : World} {H : Heap} (hs : Sub σ.h H) (hh : HRel ρ F w H) : ∀ {xs : List Operand} {tys : List Nat} {ds : List DV},
  (∀ x ∈ xs, ∀ ty, ARel ρ F w H (a.eval x) (opnd tab σ ty x)) → lendArgs tab σ xs tys = some ds →
  All2 (DVRel (fun b => F b ∨ ∃ id N, ρ id = some (b, N)) w) (xs.map a.eval) ds ∧ (argsD tab σ xs tys = true → All2 (DVRel F w) (xs.map a.eval) ds)
 | [], tys, ds, _, h => by simp [lendArgs] at h; subst h; exact ⟨trivial, fun _ => trivial⟩
 | x :: xs, tys, ds, hop, h => by
  simp only [lendArgs] at h
  split at h
  ·rename_i y ys hy hys
   simp at h; subst h
   obtain ⟨h1, h2⟩ := lendArgs_rel hs hh (fun z hz => hop z (by simp [hz])) hys
   refine ⟨⟨lendV_rel hs hh (hop x (by simp) _) hy, h1⟩, fun hd => ?_⟩
   simp only [argsD, Bool.and_eq_true] at hd
   exact ⟨isD_V (hop x (by simp) _) hy hd.1, h2 hd.2⟩
  ·cases h
end Go.Ab
