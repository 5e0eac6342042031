/- The abstract machine: the laws of the single operations that write nothing. -/
import Derived.Test.YtffnbobdkpebgaaGreatAbOp
set_option linter.unusedVariables false
namespace Go.Ab
open Go.RowKit
theorem DRel.one {F : Nat → Prop} {w : World} {v : Value} {x : D} (h : DRel F w v x) : v.oneCell' = true := by cases h <;> rfl
def C.live : C → Bool
  | .junk => false
  | _ => true
theorem CRel.one {ρ : Map} {F : Nat → Prop} {w : World} {H : Heap} {v : Value} {c : C} (h : CRel ρ F w H v c) (hl : c.live = true) : v.oneCell' = true := by
  cases c with
  | d x => exact DRel.one h
  | nil s => subst h; rfl
  | own id s => obtain ⟨T, es, _, h | ⟨b, N, cap, _, h, _⟩⟩ := h; · rw [h.1]; rfl
                · rw [h]; rfl
  | sub id s st n => obtain ⟨T, es, _, _, h | ⟨_, _, b, o, h⟩ | ⟨b, N, cap, _, h, _⟩⟩ := h; · rw [h.1]; rfl
                     · rw [h]; rfl
                     · rw [h]; rfl
  | ref id i s off => obtain ⟨b, N, _, h⟩ := h; rw [h]; rfl
  | vrow id s n => obtain ⟨b, N, _, h, _⟩ := h; rw [h]; rfl
  | junk => cases hl
theorem cells_of_one {v : Value} (h : v.oneCell' = true) : v.cells = #[v] := by cases v <;> first | rfl | cases h
theorem cellsOf_rel {ρ : Map} {F : Nat → Prop} {w : World} {H : Heap} {v : Value} {x : AV} {cs : List C} (h : ARel ρ F w H v x) (hc : cellsOf x = some cs) :
    All2 (CRel ρ F w H) v.cells.toList cs := by
  cases x with
  | tup vs => cases hc
  | s x =>
    cases x with
    | c x =>
      have h' : CRel ρ F w H v x := h
      cases x <;> simp [cellsOf] at hc <;> subst hc <;> (rw [cells_of_one (CRel.one h' rfl)]; exact ⟨h', trivial⟩)
    | agg cs' =>
      simp [cellsOf] at hc
      subst hc
      obtain ⟨vs, rfl, h⟩ := h
      exact h
    | fn f cs' => cases hc
theorem ok_move {P : Program} {tab : Tab} {σ : St} {o : Oper} {x : Operand} {ty : Nat} (ho : o.op = .move x ∨ o.op = .assign x) : StepOK P o σ (opnd tab σ ty x) [] :=
  step_pure fun S ρ F H a w ok hs hop hh => by
    rcases ho with ho | ho <;> exact ⟨a.eval x, by simp [execOp, ho], hop tab ty x (by simp [ho, Op.operands])⟩
theorem bool_of_rel {ρ : Map} {F : Nat → Prop} {w : World} {H : Heap} {v : Value} {b : Bool} (h : ARel ρ F w H v (.s (.c (.d (.bool b))))) : v = .bool b := by
  cases h; rfl
theorem int_of_rel {ρ : Map} {F : Nat → Prop} {w : World} {H : Heap} {v : Value} {k : IntKind} {n : Int} (h : ARel ρ F w H v (.s (.c (.d (.int k n))))) : v = .int k n := by
  cases h; rfl
theorem str_of_rel {ρ : Map} {F : Nat → Prop} {w : World} {H : Heap} {v : Value} {s : ByteArray} (h : ARel ρ F w H v (.s (.c (.d (.str s))))) : v = .string s := by
  cases h; rfl
theorem ok_pick {P : Program} {tab : Tab} {σ : St} {o : Oper} {c x y : Operand} {ty : Nat} {t : Bool} (ho : o.op = .pick c x y) (hc : opnd tab σ 0 c = .s (.c (.d (.bool t)))) :
    StepOK P o σ (match t with | true => opnd tab σ ty x | false => opnd tab σ ty y) [] :=
  step_pure fun S ρ F H a w ok hs hop hh => by
    have h0 := hop tab 0 c (by simp [ho, Op.operands])
    rw [hc] at h0
    have h1 := bool_of_rel h0
    cases t
    · exact ⟨a.eval y, by simp [execOp, ho, h1, asBool], hop tab ty y (by simp [ho, Op.operands])⟩
    · exact ⟨a.eval x, by simp [execOp, ho, h1, asBool], hop tab ty x (by simp [ho, Op.operands])⟩
def Cells (F : Nat → Prop) (ρ : Map) (w : World) (H : Heap) (v : Value) (l : List C) : Prop :=
  ∃ b o, v = .pointer (some ⟨b, o, none⟩) ∧ ∃ vs : List Value, All2 (CRel ρ F w H) vs l ∧ ∀ (j : Nat) u, vs[j]? = some u → w.cell? ⟨b, o + j, none⟩ = some u
theorem run_loadAt {P : Program} {t : Nat} {i : TI} (hi : TIOk P t i) {ρ : Map} {F : Nat → Prop} {w : World} {H : Heap} {v : Value} {l : List C} (hl : l.length = i.size) (h : Cells F ρ w H v l) :
    (i.agg = true → ∃ u, (Instr.loadAt t v).run P w = .ok u w ∧ SVRel ρ F w H u (.agg l)) ∧
    (∀ c, i.agg = false → l = [c] → ∃ u, (Instr.loadAt t v).run P w = .ok u w ∧ SVRel ρ F w H u (.c c)) := by
  obtain ⟨b, o, rfl, vs, hvs, hc⟩ := h
  constructor
  · intro ha
    have hlen := All2.length hvs
    have := run_loadCells_list (P := P) w ⟨b, o, none⟩ vs (fun j u hu => by rw [Addr.add_lit]; exact hc j u hu)
    refine ⟨.agg vs.toArray, ?_, vs, rfl, hvs⟩
    simp only [Instr.loadAt, Instr.sureAddr, Sem.run_bind, Sem.run_pure, Result.andThen_ok, loadVar, hi.isAgg, ha, if_true, hi.sizeOf, ← hl, ← hlen, this]
  · intro c ha hlc
    subst hlc
    match vs, hvs with
    | [u], hvs =>
      refine ⟨u, ?_, hvs.1⟩
      have h0 := hc 0 u rfl
      simp only [Nat.add_zero] at h0
      simp only [Instr.loadAt, Instr.sureAddr, Sem.run_bind, Sem.run_pure, Result.andThen_ok, loadVar, hi.isAgg, ha, Bool.false_eq_true, if_false, run_load, h0]
theorem range_get {α : Type} {n j : Nat} {f : Nat → α} {u : α} (h : ((List.range n).map f)[j]? = some u) : j < n ∧ u = f j := by
  obtain ⟨h1, h2⟩ := List.getElem?_eq_some_iff.1 h
  simp at h1 h2
  exact ⟨h1, h2.symm⟩
theorem cells_of {F : Nat → Prop} {ρ : Map} {w : World} {H : Heap} {b o : Nat} {l : List C} {f : Nat → Value} (hr : ∀ (j : Nat) c, l[j]? = some c → CRel ρ F w H (f j) c)
    (hc : ∀ j, j < l.length → w.cell? ⟨b, o + j, none⟩ = some (f j)) : Cells F ρ w H (.pointer (some ⟨b, o, none⟩)) l :=
  ⟨b, o, rfl, (List.range l.length).map f, All2.of_get (by simp) fun j u c hu hcj => by obtain ⟨_, rfl⟩ := range_get hu; exact hr j c hcj,
    fun j u hu => by obtain ⟨h1, rfl⟩ := range_get hu; exact hc j h1⟩
theorem sub_get {α : Type} {cs : List α} {off n j : Nat} {x : α} (h : ((cs.drop off).take n)[j]? = some x) : cs[off + j]? = some x ∧ j < n := by
  rw [List.getElem?_take] at h
  split at h
  · rw [List.getElem?_drop] at h; exact ⟨h, by assumption⟩
  · cases h
theorem cells_ptr {F : Nat → Prop} {ρ : Map} {w : World} {H : Heap} {v : Value} {cs : List D} {off : Nat} (n : Nat) (h : DRel F w v (.ptr cs off)) : Cells F ρ w H v (((cs.drop off).take n).map .d) := by
  cases h with
  | ptr b o off cs vs hF hc hd =>
    refine cells_of (f := fun j => vs (off + j)) (fun j c hj => ?_) (fun j hj => ?_)
    · simp only [List.getElem?_map, Option.map_eq_some_iff] at hj
      obtain ⟨x, hx, rfl⟩ := hj
      exact hd _ _ (sub_get hx).1
    · have hj' : j < ((cs.drop off).take n).length := by simpa using hj
      have hx := List.getElem?_eq_getElem hj'
      rw [Nat.add_assoc]
      exact hc _ _ (sub_get hx).1
theorem cell_block {w : World} {b : Nat} {c : List Value} {T : TypeId} {fr : Nat × Nat} (h : w.heap[b]? = some (.cells c.toArray T fr)) (j : Nat) : w.cell? ⟨b, j, none⟩ = c[j]? := by
  simp [World.cell?, h]
theorem cells_var {F : Nat → Prop} {ρ : Map} {w : World} {H : Heap} {v : Value} {id s off : Nat} {cs : List C} (n : Nat) (hh : HRel ρ F w H) (hl : look H id = some (.var cs)) (h : CRel ρ F w H v (.ref id 0 s off)) :
    Cells F ρ w H v ((cs.drop off).take n) := by
  obtain ⟨b, N, hb, rfl⟩ := h
  obtain ⟨c, T, hc, hn, hr⟩ := hh id b N hb _ hl
  rw [Nat.zero_mul, Nat.zero_add]
  refine ⟨b, off, rfl, (c.drop off).take n, All2.take n (All2.drop off hr), fun j u hu => ?_⟩
  rw [cell_block hc]
  exact (sub_get hu).1
theorem cells_row {F : Nat → Prop} {ρ : Map} {w : World} {H : Heap} {v : Value} {id i s off T : Nat} {es : List (List D)} {e : List D} (n : Nat) (hh : HRel ρ F w H) (hl : look H id = some (.row T s es)) (he : es[i]? = some e)
    (h : CRel ρ F w H v (.ref id i s off)) : Cells F ρ w H v (((e.drop off).take n).map .d) := by
  obtain ⟨b, N, hb, rfl⟩ := h
  obtain ⟨c, hc, hn, hl, hs, hr⟩ := hh id b N hb _ hl
  refine cells_of (f := fun j => c.getD (i * s + (off + j)) undef) (fun j x hj => ?_) (fun j hj => ?_)
  · simp only [List.getElem?_map, Option.map_eq_some_iff] at hj
    obtain ⟨x, hx, rfl⟩ := hj
    obtain ⟨u, hu, hd⟩ := hr i e (off + j) x he (sub_get hx).1
    simp only [List.getD, hu, Option.getD_some]
    exact hd
  · have hj' : j < ((e.drop off).take n).length := by simpa using hj
    have hx := List.getElem?_eq_getElem hj'
    obtain ⟨u, hu, hd⟩ := hr i e (off + j) _ he (sub_get hx).1
    rw [cell_block hc, Nat.add_assoc]
    simp only [List.getD, hu, Option.getD_some]
theorem ok_load {P : Program} {tab : Tab} {σ : St} {o : Oper} {t : Nat} {x : Operand} {i : TI} {l : List C} (ho : o.op = .load t x) (hi : TIOk P t i) (hl : l.length = i.size)
    (hc : ∀ (S : Nat → Prop) (ρ : Map) (F : Nat → Prop) (H : Heap) (w : World) (v : Value), Sub σ.h H → HRel ρ F w H → ARel ρ F w H v (opnd tab σ 0 x) → Cells F ρ w H v l) {r : SV}
    (hr : (i.agg = true ∧ r = .agg l) ∨ (i.agg = false ∧ ∃ c, l = [c] ∧ r = .c c)) : StepOK P o σ (.s r) [] :=
  step_pure fun S ρ F H a w ok hs hop hh => by
    have h0 := hc S ρ F H w _ hs hh (hop tab 0 x (by simp [ho, Op.operands]))
    obtain ⟨h1, h2⟩ := run_loadAt hi hl h0
    rcases hr with ⟨ha, rfl⟩ | ⟨ha, c, hlc, rfl⟩
    · obtain ⟨u, hu, hr⟩ := h1 ha
      exact ⟨u, by simp [execOp, ho, hu], hr⟩
    · obtain ⟨u, hu, hr⟩ := h2 c ha hlc
      exact ⟨u, by simp [execOp, ho, hu], hr⟩
theorem field_of : ∀ {P : Program} {fs : List Field} {r : List (Nat × Nat)} {f o t : Nat}, fieldsOk P fs r = true → r[f]? = some (o, t) → ∃ fd, fs[f]? = some fd ∧ fd.offset = o ∧ fd.type = t ∧ P.cellsOf fd.type ≠ 0 ∧ (P.info? fd.type).isSome = true
  | P, fd :: fs, (o', t') :: r, 0, o, t, h, hf => by
    simp only [fieldsOk, Bool.and_eq_true, Bool.not_eq_true'] at h
    simp at hf
    obtain ⟨⟨⟨⟨h1, h2⟩, h3⟩, h4⟩, h5⟩ := h
    exact ⟨fd, rfl, (Nat.eq_of_beq_eq_true h1).trans hf.1, (Nat.eq_of_beq_eq_true h2).trans hf.2, Nat.ne_of_beq_eq_false h3, h4⟩
  | P, fd :: fs, (o', t') :: r, f + 1, o, t, h, hf => by
    simp only [fieldsOk, Bool.and_eq_true] at h
    simpa using field_of h.2 (by simpa using hf)
  | P, [], [], f, o, t, h, hf => by simp at hf
  | P, [], _ :: _, f, o, t, h, hf => by simp [fieldsOk] at h
  | P, _ :: _, [], f, o, t, h, hf => by simp [fieldsOk] at h
theorem run_fieldAt {P : Program} {t : Nat} {i : TI} (hi : TIOk P t i) (htag : i.tag = 6) {f o t' : Nat} (hf : i.fields[f]? = some (o, t')) (w : World) (b p : Nat) :
    (Instr.fieldAt t (.pointer (some ⟨b, p, none⟩)) f).run P w = .ok (.pointer (some ⟨b, p + o, none⟩)) w := by
  obtain ⟨info, desc, h1, h2, h3, h4, h5, h6, _, h7⟩ := hi.info
  rw [htag] at h6
  cases desc <;> simp [descTag] at h6
  rename_i fs
  simp only [descOk] at h7
  obtain ⟨fd, hfd, ho, ht, hne, hsome⟩ := field_of h7 hf
  have hfd' : fs[f]? = some fd := by simpa using hfd
  obtain ⟨inf, hinf⟩ := Option.isSome_iff_exists.1 hsome
  have hsz : inf.size ≠ 0 := by simpa [Program.cellsOf, hinf] using hne
  simp [Instr.fieldAt, run_underlying h2, hfd', Instr.sureAddr, fieldPlace, sizeOf, typeInfo, hinf, hsz, ho, Addr.add_lit]
theorem ok_field_ptr {P : Program} {tab : Tab} {σ : St} {o : Oper} {t f fo t' off : Nat} {x : Operand} {i : TI} {cs : List D} (ho : o.op = .fieldAddr t x f) (hi : TIOk P t i) (htag : i.tag = 6) (hf : i.fields[f]? = some (fo, t'))
    (hx : opnd tab σ 0 x = .s (.c (.d (.ptr cs off)))) : StepOK P o σ (.s (.c (.d (.ptr cs (off + fo))))) [] :=
  step_pure fun S ρ F H a w ok hs hop hh => by
    have h0 := hop tab 0 x (by simp [ho, Op.operands])
    rw [hx] at h0
    have h1 : DRel F w (a.eval x) (.ptr cs off) := h0
    generalize hv : a.eval x = v at h1
    cases h1 with
    | ptr b p off cs vs hF hc hd =>
      refine ⟨.pointer (some ⟨b, p + (off + fo), none⟩), ?_, .ptr b p (off + fo) cs vs hF hc hd⟩
      simp [execOp, ho, hv, run_fieldAt hi htag hf, Nat.add_assoc]
theorem ok_field_ref {P : Program} {tab : Tab} {σ : St} {o : Oper} {t f fo t' id ix s off : Nat} {x : Operand} {i : TI} (ho : o.op = .fieldAddr t x f) (hi : TIOk P t i) (htag : i.tag = 6) (hf : i.fields[f]? = some (fo, t'))
    (hx : opnd tab σ 0 x = .s (.c (.ref id ix s off))) : StepOK P o σ (.s (.c (.ref id ix s (off + fo)))) [] :=
  step_pure fun S ρ F H a w ok hs hop hh => by
    have h0 := hop tab 0 x (by simp [ho, Op.operands])
    rw [hx] at h0
    obtain ⟨b, N, hb, hv⟩ := h0
    exact ⟨.pointer (some ⟨b, ix * s + (off + fo), none⟩), by simp [execOp, ho, hv, run_fieldAt hi htag hf, Nat.add_assoc], b, N, hb, rfl⟩
end Go.Ab
