/- The abstract machine: the laws of the single operations that write nothing, second part. -/
import Derived.Test.YtffnbobdkpebgaaGreatAbOps
set_option linter.unusedVariables false
namespace Go.Ab
open Go.RowKit
theorem TIOk.slice {P : Program} {t : Nat} {i : TI} (hi : TIOk P t i) (htag : i.tag = 4) : P.underlying t = some (.slice i.elem) := by
  obtain ⟨info, desc, h1, h2, h3, h4, h5, h6, _, h7⟩ := hi.info
  rw [htag] at h6
  cases desc <;> simp [descTag] at h6
  simp only [descOk] at h7
  rw [h2, Nat.eq_of_beq_eq_true h7]
theorem TIOk.string {P : Program} {t : Nat} {i : TI} (hi : TIOk P t i) (htag : i.tag = 3) : P.underlying t = some .string := by
  obtain ⟨info, desc, h1, h2, h3, h4, h5, h6, _⟩ := hi.info
  rw [htag] at h6
  cases desc <;> simp [descTag] at h6
  exact h2
theorem TIOk.bool {P : Program} {t : Nat} {i : TI} (hi : TIOk P t i) (htag : i.tag = 1) : P.underlying t = some .bool := by
  obtain ⟨info, desc, h1, h2, h3, h4, h5, h6, _⟩ := hi.info
  rw [htag] at h6
  cases desc <;> simp [descTag] at h6
  exact h2
theorem add_none (b o n : Nat) : Addr.add ⟨b, o, none⟩ n = ⟨b, o + n, none⟩ := Addr.add_lit b o n
theorem run_indexAt {P : Program} {t : Nat} {i ie : TI} (hi : TIOk P t i) (htag : i.tag = 4) (he : TIOk P i.elem ie) (w : World) (b o len cap : Nat) (k : IntKind) (n : Int) (h0 : 0 ≤ n) (h1 : n < len) :
    (Instr.indexAt t (.slice (some ⟨b, o, none⟩) len cap) (.int k n)).run P w = .ok (.pointer (some ⟨b, o + n.toNat * ie.size, none⟩)) w := by
  simp [Instr.indexAt, asIntOf, run_underlying (hi.slice htag), h0, h1, he.sizeOf, add_none]
theorem ok_index_d {P : Program} {tab : Tab} {σ : St} {o : Oper} {t s : Nat} {x y : Operand} {i ie : TI} {es : List (List D)} {e : List D} {k : IntKind} {n : Int} (ho : o.op = .indexAddr t x y) (hi : TIOk P t i) (htag : i.tag = 4)
    (he : TIOk P i.elem ie) (hs : ie.size = s) (hx : opnd tab σ 0 x = .s (.c (.d (.slice s es)))) (hy : opnd tab σ 0 y = .s (.c (.d (.int k n)))) (h0 : 0 ≤ n) (hn : es[n.toNat]? = some e) :
    StepOK P o σ (.s (.c (.d (.ptr e 0)))) [] :=
  step_pure fun S ρ F H a w ok hsb hop hh => by
    have hx0 := hop tab 0 x (by simp [ho, Op.operands])
    have hy0 := hop tab 0 y (by simp [ho, Op.operands])
    rw [hx] at hx0; rw [hy] at hy0
    have hyv := int_of_rel hy0
    have hx1 : DRel F w (a.eval x) (.slice s es) := hx0
    generalize hv : a.eval x = v at hx1
    cases hx1 with
    | nilS => simp at hn
    | emptyS => simp at hn
    | slice b off cap s es vs hF hcap hmax hlen hc hd =>
      have hlt : n.toNat < es.length := (List.getElem?_eq_some_iff.1 hn).1
      refine ⟨.pointer (some ⟨b, off + n.toNat * ie.size, none⟩), ?_, ?_⟩
      · simp [execOp, ho, hv, hyv, run_indexAt hi htag he w b off es.length cap k n h0 (by omega)]
      · have hne : es ≠ [] := by intro h; subst h; simp at hn
        rw [hs]
        exact DRel.ptr (cs := e) (off := 0) b (off + n.toNat * s) (vs := fun j => vs n.toNat j) (hF hne) (fun j x hj => hc _ _ _ _ hn hj) (fun j x hj => hd _ _ _ _ hn hj)
theorem ok_index_own {P : Program} {tab : Tab} {σ : St} {o : Oper} {t s id T : Nat} {x y : Operand} {i ie : TI} {es : List (List D)} {k : IntKind} {n : Int} (ho : o.op = .indexAddr t x y) (hi : TIOk P t i) (htag : i.tag = 4)
    (he : TIOk P i.elem ie) (hs : ie.size = s) (hx : opnd tab σ 0 x = .s (.c (.own id s))) (hl : look σ.h id = some (.row T s es)) (hy : opnd tab σ 0 y = .s (.c (.d (.int k n)))) (h0 : 0 ≤ n) (hn : n.toNat < es.length) :
    StepOK P o σ (.s (.c (.ref id n.toNat s 0))) [] :=
  step_pure fun S ρ F H a w ok hsb hop hh => by
    have hx0 := hop tab 0 x (by simp [ho, Op.operands])
    have hy0 := hop tab 0 y (by simp [ho, Op.operands])
    rw [hx] at hx0; rw [hy] at hy0
    have hyv := int_of_rel hy0
    obtain ⟨T', es', hl', h | ⟨b, N, cap, hb, hv, hcap, hmax, hN⟩⟩ := hx0
    · rw [hsb _ _ hl] at hl'; cases hl'; obtain ⟨_, rfl⟩ := h; simp at hn
    · rw [hsb _ _ hl] at hl'; cases hl'
      refine ⟨.pointer (some ⟨b, n.toNat * s, none⟩), ?_, b, N, hb, by simp⟩
      rw [← hs]
      simp [execOp, ho, hv, hyv, run_indexAt hi htag he w b 0 es.length cap k n h0 (by omega)]
theorem ok_index_vrow {P : Program} {tab : Tab} {σ : St} {o : Oper} {t s id m : Nat} {x y : Operand} {i ie : TI} {k : IntKind} {n : Int} (ho : o.op = .indexAddr t x y) (hi : TIOk P t i) (htag : i.tag = 4)
    (he : TIOk P i.elem ie) (hs : ie.size = s) (hx : opnd tab σ 0 x = .s (.c (.vrow id s m))) (hy : opnd tab σ 0 y = .s (.c (.d (.int k n)))) (h0 : 0 ≤ n) (hn : n.toNat < m) :
    StepOK P o σ (.s (.c (.ref id 0 s (n.toNat * s)))) [] :=
  step_pure fun S ρ F H a w ok hsb hop hh => by
    have hx0 := hop tab 0 x (by simp [ho, Op.operands])
    have hy0 := hop tab 0 y (by simp [ho, Op.operands])
    rw [hx] at hx0; rw [hy] at hy0
    have hyv := int_of_rel hy0
    obtain ⟨b, N, hb, hv, hN, hmax⟩ := hx0
    refine ⟨.pointer (some ⟨b, n.toNat * s, none⟩), ?_, b, N, hb, by simp⟩
    rw [← hs]
    simp [execOp, ho, hv, hyv, run_indexAt hi htag he w b 0 m m k n h0 (by omega)]
theorem ok_index_sub {P : Program} {tab : Tab} {σ : St} {o : Oper} {t s id st m T : Nat} {x y : Operand} {i ie : TI} {es : List (List D)} {k : IntKind} {n : Int} (ho : o.op = .indexAddr t x y) (hi : TIOk P t i) (htag : i.tag = 4)
    (he : TIOk P i.elem ie) (hs : ie.size = s) (hx : opnd tab σ 0 x = .s (.c (.sub id s st m))) (hl : look σ.h id = some (.row T s es)) (hy : opnd tab σ 0 y = .s (.c (.d (.int k n)))) (h0 : 0 ≤ n) (hn : n.toNat < m) :
    StepOK P o σ (.s (.c (.ref id (st + n.toNat) s 0))) [] :=
  step_pure fun S ρ F H a w ok hsb hop hh => by
    have hx0 := hop tab 0 x (by simp [ho, Op.operands])
    have hy0 := hop tab 0 y (by simp [ho, Op.operands])
    rw [hx] at hx0; rw [hy] at hy0
    have hyv := int_of_rel hy0
    obtain ⟨T', es', hl', hlen, h | h | ⟨b, N, cap, hb, hv, hcap, hmax, hN⟩⟩ := hx0
    · omega
    · omega
    · refine ⟨.pointer (some ⟨b, st * s + n.toNat * s, none⟩), ?_, b, N, hb, by rw [Nat.add_zero, Nat.add_mul]⟩
      rw [← hs] at hv ⊢
      simp [execOp, ho, hv, hyv, run_indexAt hi htag he w b (st * ie.size) m cap k n h0 (by omega)]
def bnd (tab : Tab) (σ : St) (dflt : Int) : Option Operand → Option Int
  | none => some dflt
  | some x => match opnd tab σ 0 x with
    | .s (.c (.d (.int _ n))) => some n
    | _ => none
theorem bnd_rel {tab : Tab} {σ : St} {dflt n : Int} {x : Option Operand} {a : Act} {ρ : Map} {F : Nat → Prop} {w : World} {H : Heap} (h : bnd tab σ dflt x = some n)
    (hop : ∀ y, x = some y → ARel ρ F w H (a.eval y) (opnd tab σ 0 y)) : (x = none ∧ n = dflt) ∨ ∃ y k, x = some y ∧ a.eval y = .int k n := by
  cases x with
  | none => left; simp [bnd] at h; exact ⟨rfl, h.symm⟩
  | some y =>
    right
    simp only [bnd] at h
    split at h
    · rename_i k m hm
      have := hop y rfl
      rw [hm] at this
      simp only [Option.some.injEq] at h
      subst h
      exact ⟨y, k, rfl, int_of_rel this⟩
    · cases h
theorem run_sliceBounds {P : Program} {tab : Tab} {σ : St} {lo hi : Option Operand} {a : Act} {ρ : Map} {F : Nat → Prop} {w : World} {H : Heap} {len cap : Nat} {l h : Int} (isS : Bool) (hl : bnd tab σ 0 lo = some l) (hh : bnd tab σ len hi = some h)
    (h0 : 0 ≤ l) (h1 : l ≤ h) (h2 : h ≤ cap)
    (hop : ∀ y, lo = some y ∨ hi = some y → ARel ρ F w H (a.eval y) (opnd tab σ 0 y)) :
    (Instr.sliceBounds isS len cap (lo.map a.eval) (hi.map a.eval) none).run P w = .ok (l.toNat, h.toNat, cap) w := by
  rcases bnd_rel hl (fun y hy => hop y (.inl hy)) with ⟨rfl, rfl⟩ | ⟨y, k, rfl, hy⟩ <;> rcases bnd_rel hh (fun y hy => hop y (.inr hy)) with ⟨rfl, rfl⟩ | ⟨z, k', rfl, hz⟩
  · simp [Instr.sliceBounds]
  · simp only [Instr.sliceBounds, Option.map_none, Option.map_some, hz, Sem.run_bind, Sem.run_pure, Result.andThen_ok, Instr.sliceBound, asIntOf, Sem.run_ite, h2, and_true]
    rw [if_pos (by omega)]; simp
  · simp only [Instr.sliceBounds, Option.map_none, Option.map_some, hy, Sem.run_bind, Sem.run_pure, Result.andThen_ok, Instr.sliceBound, asIntOf, Sem.run_ite, h0, true_and]
    rw [if_pos h1]; simp
  · simp only [Instr.sliceBounds, Option.map_some, hy, hz, Sem.run_bind, Sem.run_pure, Result.andThen_ok, Instr.sliceBound, asIntOf, Sem.run_ite]
    rw [if_pos (by omega)]
    simp only [Result.andThen_ok]
    rw [if_pos (by omega)]; simp
theorem run_sliceAt {P : Program} {t : Nat} {i ie : TI} (hi : TIOk P t i) (htag : i.tag = 4) (he : TIOk P i.elem ie) (w : World) (ao : Option Addr) (len cap l h : Nat) (lo hi' : Option Value)
    (hb : (Instr.sliceBounds true len cap lo hi' none).run P w = .ok (l, h, cap) w) :
    (Instr.sliceAt t (.slice ao len cap) lo hi' none).run P w = .ok (.slice (if cap = l then ao else ao.map (·.add (l * ie.size))) (h - l) (cap - l)) w := by
  simp [Instr.sliceAt, Instr.slice, run_underlying (hi.slice htag), hb, he.sizeOf]
theorem mem_slice {t : Nat} {x y : Operand} {lo hi mx : Option Operand} : (y = x ∨ lo = some y ∨ hi = some y) → y ∈ (Op.slice t x lo hi mx).operands := by
  intro h
  simp only [Op.operands, Array.mem_append, Option.mem_toArray]
  rcases h with rfl | rfl | rfl <;> simp
theorem take_drop_get {α : Type} {es : List α} {l m : Nat} {i : Nat} {e : α} (h : ((es.drop l).take m)[i]? = some e) : es[l + i]? = some e := (sub_get h).1
theorem ok_slice_d {P : Program} {tab : Tab} {σ : St} {o : Oper} {t s : Nat} {x : Operand} {lo hi' : Option Operand} {i ie : TI} {es : List (List D)} {l h : Int} (ho : o.op = .slice t x lo hi' none) (hi : TIOk P t i) (htag : i.tag = 4)
    (he : TIOk P i.elem ie) (hs : ie.size = s) (hx : opnd tab σ 0 x = .s (.c (.d (.slice s es)))) (hl : bnd tab σ 0 lo = some l) (hh : bnd tab σ es.length hi' = some h) (h0 : 0 ≤ l) (h1 : l ≤ h) (h2 : h ≤ es.length) :
    StepOK P o σ (.s (.c (.d (.slice s ((es.drop l.toNat).take (h.toNat - l.toNat)))))) [] :=
  step_pure fun S ρ F H a w ok hsb hop hhr => by
    have hx0 := hop tab 0 x (by rw [ho]; exact mem_slice (.inl rfl))
    have hop' : ∀ y, lo = some y ∨ hi' = some y → ARel ρ F w H (a.eval y) (opnd tab σ 0 y) := fun y hy => hop tab 0 y (by rw [ho]; exact mem_slice (.inr hy))
    rw [hx] at hx0
    have hx1 : DRel F w (a.eval x) (.slice s es) := hx0
    generalize hv : a.eval x = v at hx1
    cases hx1 with
    | nilS =>
      simp only [List.length_nil] at h2
      have hl0 : l = 0 := by have : (h : Int) ≤ 0 := by simpa using h2
                             omega
      have hh0 : h = 0 := by have : (h : Int) ≤ 0 := by simpa using h2
                             omega
      subst hl0; subst hh0
      have hb := run_sliceBounds (P := P) (w := w) (cap := 0) (len := 0) true hl (by simpa using hh) (by omega) (by omega) (by simp) hop'
      have hr := run_sliceAt hi htag he w none 0 0 _ _ _ _ hb
      refine ⟨.slice none 0 0, by simp [execOp, ho, hv, hr], ?_⟩
      simp
      exact .nilS s
    | emptyS ad cap _ hmax =>
      simp only [List.length_nil] at h2
      have hl0 : l = 0 := by have : (h : Int) ≤ 0 := by simpa using h2
                             omega
      have hh0 : h = 0 := by have : (h : Int) ≤ 0 := by simpa using h2
                             omega
      subst hl0; subst hh0
      have hb := run_sliceBounds (P := P) (w := w) (cap := cap) (len := 0) true hl (by simpa using hh) (by omega) (by omega) (by simp) hop'
      have hr := run_sliceAt hi htag he w (some ad) 0 cap _ _ _ _ hb
      refine ⟨_, by simp only [execOp, ho, hv, Option.map_none, hr, Sem.run_bind, Result.andThen_ok, Sem.run_pure]; exact rfl, ?_⟩
      simp only [List.drop_nil, List.take_nil]
      split
      · exact .emptyS _ _ s (by simpa using hmax)
      · exact .emptyS _ _ s (by simpa using hmax)
    | slice b off cap s es vs hF hcap hmax hlen hc hd =>
      have hb := run_sliceBounds (P := P) (w := w) (cap := cap) (len := es.length) true hl hh h0 h1 (by omega) hop'
      have hr := run_sliceAt hi htag he w (some ⟨b, off, none⟩) es.length cap _ _ _ _ hb
      have hlen' : ((es.drop l.toNat).take (h.toNat - l.toNat)).length = h.toNat - l.toNat := by simp; omega
      refine ⟨_, by simp only [execOp, ho, hv, Option.map_none, hr, Sem.run_bind, Result.andThen_ok, Sem.run_pure]; exact rfl, ?_⟩
      by_cases hm : cap = l.toNat
      · rw [if_pos hm]
        have hz : h.toNat - l.toNat = 0 := by omega
        rw [hz, List.take_zero]
        exact DRel.slice b off (cap - l.toNat) s [] vs (by simp) (by simp) (by omega) (by simp) (by simp) (by simp)
      · rw [if_neg hm]
        simp only [Option.map_some, add_none]
        have key := DRel.slice (F := F) (w := w) b (off + l.toNat * s) (cap - l.toNat) s ((es.drop l.toNat).take (h.toNat - l.toNat)) (fun i j => vs (l.toNat + i) j) (fun hne => hF (by intro h0; subst h0; simp at hne)) (by rw [hlen']; omega) (by omega)
          (fun e he' => hlen e (List.mem_of_mem_drop (List.mem_of_mem_take he'))) (fun i e j x hi hj => by
            have := hc _ _ _ _ (take_drop_get hi) hj
            rwa [Nat.add_mul, ← Nat.add_assoc] at this) (fun i e j x hi hj => hd _ _ _ _ (take_drop_get hi) hj)
        rw [hlen'] at key
        rw [hs]
        exact key
theorem ok_slice_own {P : Program} {tab : Tab} {σ : St} {o : Oper} {t s id T : Nat} {x : Operand} {lo hi' : Option Operand} {i ie : TI} {es : List (List D)} {l h : Int} (ho : o.op = .slice t x lo hi' none) (hi : TIOk P t i) (htag : i.tag = 4)
    (he : TIOk P i.elem ie) (hs : ie.size = s) (hx : opnd tab σ 0 x = .s (.c (.own id s))) (hlk : look σ.h id = some (.row T s es)) (hl : bnd tab σ 0 lo = some l) (hh : bnd tab σ es.length hi' = some h) (h0 : 0 ≤ l) (h1 : l ≤ h) (h2 : h ≤ es.length) :
    StepOK P o σ (.s (.c (.sub id s l.toNat (h.toNat - l.toNat)))) [] :=
  step_pure fun S ρ F H a w ok hsb hop hhr => by
    have hx0 := hop tab 0 x (by rw [ho]; exact mem_slice (.inl rfl))
    have hop' : ∀ y, lo = some y ∨ hi' = some y → ARel ρ F w H (a.eval y) (opnd tab σ 0 y) := fun y hy => hop tab 0 y (by rw [ho]; exact mem_slice (.inr hy))
    rw [hx] at hx0
    obtain ⟨T', es', hl', hv⟩ := hx0
    rw [hsb _ _ hlk] at hl'; cases hl'
    rcases hv with ⟨hv, rfl⟩ | ⟨b, N, cap, hb, hv, hcap, hmax, hN⟩
    · simp only [List.length_nil] at h2
      have hl0 : l = 0 := by have : (h : Int) ≤ 0 := by simpa using h2
                             omega
      have hh0 : h = 0 := by have : (h : Int) ≤ 0 := by simpa using h2
                             omega
      subst hl0; subst hh0
      have hbd := run_sliceBounds (P := P) (w := w) (cap := 0) (len := 0) true hl (by simpa using hh) (by omega) (by omega) (by simp) hop'
      have hr := run_sliceAt hi htag he w none 0 0 _ _ _ _ hbd
      exact ⟨.slice none 0 0, by simp [execOp, ho, hv, hr], T, [], hsb _ _ hlk, by simp, .inl ⟨rfl, rfl⟩⟩
    · have hbd := run_sliceBounds (P := P) (w := w) (cap := cap) (len := es.length) true hl hh h0 h1 (by omega) hop'
      have hr := run_sliceAt hi htag he w (some ⟨b, 0, none⟩) es.length cap _ _ _ _ hbd
      refine ⟨_, by simp only [execOp, ho, hv, Option.map_none, hr, Sem.run_bind, Result.andThen_ok, Sem.run_pure]; exact rfl, T, es, hsb _ _ hlk, by omega, ?_⟩
      by_cases hm : cap = l.toNat
      · rw [if_pos hm]
        have hz : h.toNat - l.toNat = 0 := by omega
        by_cases hl0 : l.toNat = 0
        · refine .inr (.inr ⟨b, N, cap, hb, ?_, by omega, hmax, by rw [hl0, Nat.zero_add]; exact hN⟩)
          rw [hl0]; simp
        · exact .inr (.inl ⟨hl0, hz, b, 0, by rw [hz, hm, Nat.sub_self]⟩)
      · rw [if_neg hm]
        refine .inr (.inr ⟨b, N, cap - l.toNat, hb, ?_, by omega, by omega, ?_⟩)
        · simp only [Option.map_some, add_none, Nat.zero_add, hs]
        · rw [← hN]; congr 1; omega
theorem ok_slice_sub {P : Program} {tab : Tab} {σ : St} {o : Oper} {t s id T st n : Nat} {x : Operand} {lo hi' : Option Operand} {i ie : TI} {es : List (List D)} {l h : Int} (ho : o.op = .slice t x lo hi' none) (hi : TIOk P t i) (htag : i.tag = 4)
    (he : TIOk P i.elem ie) (hs : ie.size = s) (hx : opnd tab σ 0 x = .s (.c (.sub id s st n))) (hlk : look σ.h id = some (.row T s es)) (hl : bnd tab σ 0 lo = some l) (hh : bnd tab σ n hi' = some h) (h0 : 0 ≤ l) (h1 : l ≤ h) (h2 : h ≤ n) :
    StepOK P o σ (.s (.c (.sub id s (st + l.toNat) (h.toNat - l.toNat)))) [] :=
  step_pure fun S ρ F H a w ok hsb hop hhr => by
    have hx0 := hop tab 0 x (by rw [ho]; exact mem_slice (.inl rfl))
    have hop' : ∀ y, lo = some y ∨ hi' = some y → ARel ρ F w H (a.eval y) (opnd tab σ 0 y) := fun y hy => hop tab 0 y (by rw [ho]; exact mem_slice (.inr hy))
    rw [hx] at hx0
    obtain ⟨T', es', hl', hlen, hv⟩ := hx0
    rw [hsb _ _ hlk] at hl'; cases hl'
    rcases hv with ⟨hv, rfl⟩ | ⟨hst, rfl, b, off, hv⟩ | ⟨b, N, cap, hb, hv, hcap, hmax, hN⟩
    · have hl0 : l = 0 := by have : (h : Int) ≤ 0 := by simpa using h2
                             omega
      have hh0 : h = 0 := by have : (h : Int) ≤ 0 := by simpa using h2
                             omega
      subst hl0; subst hh0
      have hbd := run_sliceBounds (P := P) (w := w) (cap := 0) (len := 0) true hl (by simpa using hh) (by omega) (by omega) (by simp) hop'
      have hr := run_sliceAt hi htag he w none 0 0 _ _ _ _ hbd
      exact ⟨.slice none 0 0, by simp [execOp, ho, hv, hr], T, es, hsb _ _ hlk, by simpa using hlen, .inl ⟨rfl, rfl⟩⟩
    · have hl0 : l = 0 := by have : (h : Int) ≤ 0 := by simpa using h2
                             omega
      have hh0 : h = 0 := by have : (h : Int) ≤ 0 := by simpa using h2
                             omega
      subst hl0; subst hh0
      have hbd := run_sliceBounds (P := P) (w := w) (cap := 0) (len := 0) true hl (by simpa using hh) (by omega) (by omega) (by simp) hop'
      have hr := run_sliceAt hi htag he w (some ⟨b, off, none⟩) 0 0 _ _ _ _ hbd
      exact ⟨.slice (some ⟨b, off, none⟩) 0 0, by simp [execOp, ho, hv, hr], T, es, hsb _ _ hlk, by simpa using hlen, .inr (.inl ⟨by simpa using hst, rfl, b, off, rfl⟩)⟩
    · have hbd := run_sliceBounds (P := P) (w := w) (cap := cap) (len := n) true hl hh h0 h1 (by omega) hop'
      have hr := run_sliceAt hi htag he w (some ⟨b, st * s, none⟩) n cap _ _ _ _ hbd
      refine ⟨_, by simp only [execOp, ho, hv, Option.map_none, hr, Sem.run_bind, Result.andThen_ok, Sem.run_pure]; exact rfl, T, es, hsb _ _ hlk, by omega, ?_⟩
      by_cases hm : cap = l.toNat
      · rw [if_pos hm]
        have hz : h.toNat - l.toNat = 0 := by omega
        by_cases hl0 : st + l.toNat = 0
        · have e1 : l.toNat = 0 := by omega
          have e2 : st = 0 := by omega
          refine .inr (.inr ⟨b, N, cap, hb, ?_, by omega, hmax, by rw [e1, Nat.add_zero]; exact hN⟩)
          rw [e1]; simp
        · exact .inr (.inl ⟨hl0, hz, b, st * s, by rw [hz, hm, Nat.sub_self]⟩)
      · rw [if_neg hm]
        refine .inr (.inr ⟨b, N, cap - l.toNat, hb, ?_, by omega, by omega, ?_⟩)
        · simp only [Option.map_some, add_none, hs, Nat.add_mul]
        · rw [← hN]; congr 1; omega
end Go.Ab
