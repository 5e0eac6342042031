/- The abstract machine: the laws of the single operations that write nothing, fourth part: composites, calls. -/
import Derived.Test.YtffnbobdkpebgaaGreatAbOps3
set_option linter.unusedVariables false
namespace Go.Ab
open Go.RowKit
def splice {α : Type} (l : List α) (off : Nat) (v : List α) : List α := l.take off ++ v ++ l.drop (off + v.length)
theorem length_splice {α : Type} {l v : List α} {off : Nat} (h : off + v.length ≤ l.length) : (splice l off v).length = l.length := by
 simp only [splice, List.length_append, List.length_take, List.length_drop]; omega
theorem All2.splice {α β : Type} {R : α → β → Prop} {l v : List α} {l' v' : List β} (off : Nat) (h : All2 R l l') (hv : All2 R v v') : All2 R (splice l off v) (splice l' off v') := by
 unfold Ab.splice
 rw [All2.length hv]
 exact All2.append (All2.append (All2.take off h) hv) (All2.drop _ h)
theorem fold_set : ∀ (v : List Value) (k off : Nat) (cs : Array Value), off + k + v.length ≤ cs.size →
  ((v.zipIdx k).foldl (fun cs (p : Value × Nat) => cs.setIfInBounds (off + p.2) p.1) cs).toList = splice cs.toList (off + k) v
 | [], k, off, cs, _ => by simp [splice]
 | u :: v, k, off, cs, h => by
  simp only [List.zipIdx_cons, List.foldl_cons]
  rw [fold_set v (k + 1) off _ (by simp at h ⊢; omega)]
  have e := list_seg_step cs.toList (off + k) u v (by simp at h ⊢; omega)
  simp only [splice, Array.toList_setIfInBounds, List.length_cons]
  rw [show off + k + (v.length + 1) = off + k + 1 + v.length by omega] at *
  rw [← e]
  simp [Nat.add_assoc]
theorem fold_set_arr (v cs : Array Value) (off : Nat) (h : off + v.size ≤ cs.size) :
  (v.zipIdx.foldl (fun cs (p : Value × Nat) => cs.setIfInBounds (off + p.2) p.1) cs) = (splice cs.toList off v.toList).toArray := by
 rw [← Array.foldl_toList, Array.toList_zipIdx]
 have := fold_set v.toList 0 off cs (by simpa using h)
 rw [Nat.add_zero] at this
 rw [← this]
def fillC (tab : Tab) (fields : List (Nat × Nat)) (σ : St) (cells : List C) : List (Nat × Operand) → Option (List C)
 | [] => some cells
 | (f, x) :: rest => match fields[f]? with
  | none => none
  | some (off, t) => match look tab t, cellsOf (opnd tab σ t x) with
   | some i, some cs => match Nat.beq cs.length i.size && Nat.ble (off + cs.length) cells.length with
    | true => fillC tab fields σ (splice cells off cs) rest
    | false => none
   | _, _ => none
theorem fill_rel {P : Program} {tab : Tab} (htab : tabCheck P tab = true) {σ : St} {a : Act} {ρ : Map} {F : Nat → Prop} {w : World} {H : Heap} {place : Nat → Option (Nat × Nat)} {fields : List (Nat × Nat)}
  (hp : ∀ f off t, fields[f]? = some (off, t) → place f = some (off, P.cellsOf t)) : ∀ (parts : List (Nat × Operand)) (cells : Array Value) (cs out : List C),
  (∀ p ∈ parts, ∀ ty, ARel ρ F w H (a.eval p.2) (opnd tab σ ty p.2)) → All2 (CRel ρ F w H) cells.toList cs → fillC tab fields σ cs parts = some out →
  ∃ cells', Instr.fill place cells (parts.map fun (i, x) => (i, a.eval x)) = some cells' ∧ All2 (CRel ρ F w H) cells'.toList out
 | [], cells, cs, out, _, h, hf => by simp [fillC] at hf; subst hf; exact ⟨cells, rfl, h⟩
 | (f, x) :: rest, cells, cs, out, hop, h, hf => by
  simp only [fillC] at hf
  split at hf
  ·cases hf
  ·rename_i off t hft
   split at hf
   ·rename_i i ps hi hc
    split at hf
    ·rename_i hb
     simp only [Bool.and_eq_true] at hb
     have h1 := Nat.eq_of_beq_eq_true hb.1
     have h2 := Nat.le_of_ble_eq_true hb.2
     have hx := cellsOf_rel (hop (f, x) (by simp) t) hc
     have hsz : (a.eval x).cells.size = ps.length := by have := All2.length hx; simpa using this
     have hcs : cells.size = cs.length := by have := All2.length h; simpa using this
     have hpl := hp f off t hft
     have hti := tabOk_look htab hi
     obtain ⟨info, desc, hinfo, _, hisz, _⟩ := hti.info
     have hcells : P.cellsOf t = i.size := by simp [Program.cellsOf, hinfo, hisz]
     obtain ⟨cells', h3, h4⟩ := fill_rel htab hp rest (splice cells.toList off (a.eval x).cells.toList).toArray (splice cs off ps) out (fun p hp' => hop p (by simp [hp'])) (by simpa using All2.splice off h hx) hf
     refine ⟨cells', ?_, h4⟩
     simp only [List.map_cons, Instr.fill, hpl]
     rw [if_neg (by simp; omega), fold_set_arr _ _ _ (by omega)]
     exact h3
    ·cases hf
   ·cases hf
theorem places_run {P : Program} (w : World) : ∀ (fs : List Field), (∀ f ∈ fs, (P.info? f.type).isSome = true) → (fs.mapM fun (f : Field) => (do pure (f.offset, ← sizeOf f.type) : Sem (Nat × Nat))).run P w = .ok (fs.map fun (f : Field) => (f.offset, P.cellsOf f.type)) w
 | [], _ => by simp
 | f :: fs, h => by
  obtain ⟨inf, hinf⟩ := Option.isSome_iff_exists.1 (h f (by simp))
  have ih := places_run w fs (fun g hg => h g (by simp [hg]))
  have hsz : (sizeOf f.type).run P w = .ok (P.cellsOf f.type) w := by simp [sizeOf, typeInfo, hinf, Program.cellsOf]
  simp only [List.mapM_cons, Sem.run_bind, Sem.run_pure, Result.andThen_ok, hsz, ih, List.map_cons]
theorem fieldsOk_all : ∀ {P : Program} {fs : List Field} {r : List (Nat × Nat)}, fieldsOk P fs r = true → (∀ f ∈ fs, (P.info? f.type).isSome = true) ∧ r = fs.map fun (f : Field) => (f.offset, f.type)
 | P, [], [], _ => by simp
 | P, f :: fs, (o, t) :: r, h => by
  simp only [fieldsOk, Bool.and_eq_true] at h
  obtain ⟨⟨⟨⟨h1, h2⟩, h3⟩, h4⟩, h5⟩ := h
  obtain ⟨h6, h7⟩ := fieldsOk_all h5
  refine ⟨fun g hg => ?_, by simp [← h7, Nat.eq_of_beq_eq_true h1, Nat.eq_of_beq_eq_true h2]⟩
  simp only [List.mem_cons] at hg
  rcases hg with rfl | hg
  ·exact h4
  ·exact h6 g hg
 | P, [], _ :: _, h => by simp [fieldsOk] at h
 | P, _ :: _, [], h => by simp [fieldsOk] at h
theorem ok_build {P : Program} {tab : Tab} (htab : tabCheck P tab = true) {σ : St} {o : Oper} {t : Nat} {parts : Array (Nat × Operand)} {i : TI} {out : List C} (ho : o.op = .build t parts) (hi : TIOk P t i) (htag : i.tag = 6)
  (hf : fillC tab i.fields σ i.zero parts.toList = some out) : StepOK P o σ (.s (.agg out)) [] :=
 step_pure fun S ρ F H a w ok hs hop hh => by
  obtain ⟨z, hz, hzz⟩ := hi.zero w
  obtain ⟨info, desc, h1, h2, h3, h4, h5, h6, _, h7⟩ := hi.info
  rw [htag] at h6
  cases desc <;> simp [descTag] at h6
  rename_i fs
  simp only [descOk] at h7
  obtain ⟨hsome, hfe⟩ := fieldsOk_all h7
  have hpl : (fs.mapM fun (f : Field) => (do pure (f.offset, ← sizeOf f.type) : Sem (Nat × Nat))).run P w = .ok (fs.map fun (f : Field) => (f.offset, P.cellsOf f.type)) w := by
   have := places_run (P := P) w fs.toList hsome
   rw [Array.mapM_eq_mapM_toList, Sem.run_map, this]
   simp only [Result.andThen_ok]
   rw [← Array.toList_map]
  obtain ⟨cells', hc1, hc2⟩ := fill_rel (ρ := ρ) (F := F) (w := w) (H := H) (a := a) htab (place := fun j => (fs.map fun (f : Field) => (f.offset, P.cellsOf f.type))[j]?) (fields := i.fields) (fun f off ty hft => by
    rw [hfe] at hft
    simp only [List.getElem?_map, Option.map_eq_some_iff] at hft
    obtain ⟨fd, hfd, he⟩ := hft
    simp only [Prod.mk.injEq] at he
    have : fs[f]? = some fd := by simpa using hfd
    simp [this, he.1, he.2]) parts.toList z.cells i.zero out (fun p hp ty => hop tab ty p.2 (by rw [ho]; simp only [Op.operands, List.mem_toArray, List.mem_map]; exact ⟨p, hp, rfl⟩)) (zrels_crel hzz) hf
  refine ⟨.agg cells', ?_, cells'.toList, by simp, hc2⟩
  simp only [execOp, ho, Instr.build, Sem.run_bind, hz, Result.andThen_ok, run_underlying h2, hpl, Array.toList_map, hc1, Sem.run_pure]
end Go.Ab
