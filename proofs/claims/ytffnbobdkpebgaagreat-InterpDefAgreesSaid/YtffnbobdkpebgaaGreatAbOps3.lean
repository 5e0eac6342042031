/- The abstract machine: the laws of the single operations that write nothing, third part. -/
import Derived.Test.YtffnbobdkpebgaaGreatAbOps2
set_option linter.unusedVariables false
namespace Go.Ab
open Go.RowKit
theorem ok_extract {P : Program} {tab : Tab} {σ : St} {o : Oper} {x : Operand} {i : Nat} {vs : List SV} {r : SV} (ho : o.op = .extract x i) (hx : opnd tab σ 0 x = .tup vs) (hi : vs[i]? = some r) : StepOK P o σ (.s r) [] :=
 step_pure fun S ρ F H a w ok hs hop hh => by
  have h0 := hop tab 0 x (by simp [ho, Op.operands])
  rw [hx] at h0
  obtain ⟨us, hu, hr⟩ := h0
  obtain ⟨u, hu1, hu2⟩ := All2.get hr hi
  exact ⟨u, by simp [execOp, ho, hu, Instr.extract, hu1], hu2⟩
def intBin (op : BinOp) (k : IntKind) (a b : Int) : Option D :=
 match op with
 | .add => some (.int k (k.wrap (a + b)))
 | .sub => some (.int k (k.wrap (a - b)))
 | .mul => some (.int k (k.wrap (a * b)))
 | .and => some (.int k (bits .and k a b))
 | .or => some (.int k (bits .or k a b))
 | .xor => some (.int k (bits .xor k a b))
 | .andNot => some (.int k (bits .andNot k a b))
 | .eql => some (.bool (a == b))
 | .neq => some (.bool (a != b))
 | .lss => some (.bool (decide (a < b)))
 | .leq => some (.bool (decide (a ≤ b)))
 | .gtr => some (.bool (decide (b < a)))
 | .geq => some (.bool (decide (b ≤ a)))
 | _ => none
def strBin (op : BinOp) (a b : ByteArray) : Option D :=
 match op with
 | .eql => some (.bool (decide (a = b)))
 | .neq => some (.bool (!decide (a = b)))
 | .lss => some (.bool (Op.bytesLess a.toList b.toList))
 | .geq => some (.bool (!Op.bytesLess a.toList b.toList))
 | _ => none
def scal (op : BinOp) : D → D → Option D
 | .int k a, .int k' b => match decide (k = k') with | true => intBin op k a b | false => none
 | .str a, .str b => strBin op a b
 | _, _ => none
theorem toList_inj (a b : ByteArray) : (a.toList == b.toList) = decide (a = b) := by
 rw [ByteArray.toList_eq, ByteArray.toList_eq]
 by_cases h : a = b
 ·subst h; simp
 ·have : ¬ a.data.toList = b.data.toList := by
   intro e
   apply h
   obtain ⟨⟨x⟩⟩ := a
   obtain ⟨⟨y⟩⟩ := b
   simp at e
   rw [e]
  rw [beq_eq_false_iff_ne.2 this]
  simp [h]
theorem run_scal {P : Program} {op : BinOp} {x y z : D} (h : scal op x y = some z) {F : Nat → Prop} {w : World} {u v : Value} (hx : DRel F w u x) (hy : DRel F w v y) (t : TypeId) (p q : Operand) :
  ∃ r, (do eqGuard op t p q u v; binOp op t u v).run P w = .ok r w ∧ DRel F w r z := by
 unfold scal at h
 split at h
 ·rename_i k a k' b
  cases hx; cases hy
  split at h
  ·rename_i hk
   have hk' : k = k' := by simpa using hk
   subst hk'
   cases op <;> simp [intBin] at h <;> subst h <;> simp [eqGuard, binOp, Op.intArith, Op.intCmp, intBits_and, intBits_or, intBits_xor, intBits_andNot] <;> first | exact .int _ _ | exact .bool _
  ·cases h
 ·rename_i a b
  cases hx; cases hy
  cases op <;> simp [strBin] at h <;> subst h <;> simp [eqGuard, binOp, Op.stringOp, toList_inj] <;> exact .bool _
 ·cases h
theorem ok_bin {P : Program} {tab : Tab} {σ : St} {o : Oper} {op : BinOp} {t t' : TypeId} {x y : Operand} {a b z : D} (ho : o.op = .binOp op t x y t') (hx : opnd tab σ 0 x = .s (.c (.d a))) (hy : opnd tab σ 0 y = .s (.c (.d b))) (hz : scal op a b = some z) :
  StepOK P o σ (.s (.c (.d z))) [] :=
 step_pure fun S ρ F H ac w ok hs hop hh => by
  have h0 := hop tab 0 x (by simp [ho, Op.operands])
  have h1 := hop tab 0 y (by simp [ho, Op.operands])
  rw [hx] at h0; rw [hy] at h1
  obtain ⟨r, hr, hd⟩ := run_scal (P := P) hz (show DRel F w _ a from h0) (show DRel F w _ b from h1) t x y
  exact ⟨r, by simp only [execOp, ho, Sem.run_bind] at hr ⊢; simp [hr], hd⟩
def boolBin (op : BinOp) (a b : Bool) : Option Bool :=
 match op with
 | .eql => some (a == b)
 | .neq => some (!(a == b))
 | _ => none
theorem ok_binb {P : Program} {tab : Tab} {σ : St} {o : Oper} {op : BinOp} {t t' : TypeId} {x y : Operand} {i : TI} {a b c : Bool} (ho : o.op = .binOp op t x y t') (hi : TIOk P t i) (htag : i.tag = 1)
  (hx : opnd tab σ 0 x = .s (.c (.d (.bool a)))) (hy : opnd tab σ 0 y = .s (.c (.d (.bool b)))) (hz : boolBin op a b = some c) :
  StepOK P o σ (.s (.c (.d (.bool c)))) [] :=
 step_pure fun S ρ F H ac w ok hs hop hh => by
  have h0 := hop tab 0 x (by simp [ho, Op.operands])
  have h1 := hop tab 0 y (by simp [ho, Op.operands])
  rw [hx] at h0; rw [hy] at h1
  have hu := bool_of_rel h0
  have hv := bool_of_rel h1
  refine ⟨.bool c, ?_, .bool c⟩
  cases op <;> simp only [boolBin, Option.some.injEq, reduceCtorEq] at hz <;> subst hz
  ·simp only [execOp, ho, hu, hv, eqGuard_at_bool, pure_bind, Sem.run_bind, run_eql_bool w t a b (hi.bool htag), Result.andThen_ok, Sem.run_pure]
  ·simp only [execOp, ho, hu, hv, eqGuard_at_bool, pure_bind, Sem.run_bind, run_neq_bool w t a b (hi.bool htag), Result.andThen_ok, Sem.run_pure]
def divBin (op : BinOp) (k : IntKind) (a b : Int) : Option D :=
 match op with
 | .quo => some (.int k (k.wrap (a.tdiv b)))
 | .rem => some (.int k (a.tmod b))
 | _ => none
theorem ok_div {P : Program} {tab : Tab} {σ : St} {o : Oper} {op : BinOp} {t t' : TypeId} {x y : Operand} {k : IntKind} {a b : Int} {z : D} (ho : o.op = .binOp op t x y t') (hx : opnd tab σ 0 x = .s (.c (.d (.int k a)))) (hy : opnd tab σ 0 y = .s (.c (.d (.int k b))))
  (hb : b ≠ 0) (hz : divBin op k a b = some z) : StepOK P o σ (.s (.c (.d z))) [] :=
 step_pure fun S ρ F H ac w ok hs hop hh => by
  have h0 := hop tab 0 x (by simp [ho, Op.operands])
  have h1 := hop tab 0 y (by simp [ho, Op.operands])
  rw [hx] at h0; rw [hy] at h1
  have hu := int_of_rel h0
  have hv := int_of_rel h1
  cases op <;> simp [divBin] at hz <;> subst hz
  ·exact ⟨_, by simp [execOp, ho, hu, hv, eqGuard, binOp, Op.intDiv, hb], .int _ _⟩
  ·exact ⟨_, by simp [execOp, ho, hu, hv, eqGuard, binOp, Op.intDiv, hb], .int _ _⟩
theorem ok_cat {P : Program} {tab : Tab} {σ : St} {o : Oper} {t t' : TypeId} {x y : Operand} {a b : ByteArray} (ho : o.op = .binOp .add t x y t') (hx : opnd tab σ 0 x = .s (.c (.d (.str a)))) (hy : opnd tab σ 0 y = .s (.c (.d (.str b))))
  (hb : a.size + b.size ≤ 1000000) : StepOK P o σ (.s (.c (.d (.str (a ++ b))))) [] :=
 step_pure fun S ρ F H ac w ok hs hop hh => by
  have h0 := hop tab 0 x (by simp [ho, Op.operands])
  have h1 := hop tab 0 y (by simp [ho, Op.operands])
  rw [hx] at h0; rw [hy] at h1
  have hu : ac.eval x = .string a := by have h2 : DRel F w (ac.eval x) (.str a) := h0; generalize ac.eval x = u at h2; cases h2; rfl
  have hv : ac.eval y = .string b := by have h2 : DRel F w (ac.eval y) (.str b) := h1; generalize ac.eval y = u at h2; cases h2; rfl
  have hn : ¬ ((a.size + b.size : Nat) : Int) > IntKind.i64.max := by
   have : (IntKind.i64.max : Int) = 9223372036854775807 := by decide
   rw [this]; omega
  exact ⟨.string (a ++ b), by simp only [execOp, ho, hu, hv, eqGuard, binOp, Op.stringOp, if_neg hn]; rfl, .str _⟩
def shlI (k : IntKind) (a b : Int) : Int := k.wrap (a * 2 ^ (min b.toNat k.bits))
def shrI (k : IntKind) (a b : Int) : Int := a.fdiv (2 ^ (min b.toNat k.bits))
def shBin (op : BinOp) (k : IntKind) (a b : Int) : Option D := match op with
 | .shl => some (.int k (shlI k a b))
 | .shr => some (.int k (shrI k a b))
 | _ => none
theorem ok_sh {P : Program} {tab : Tab} {σ : St} {o : Oper} {op : BinOp} {t t' : TypeId} {x y : Operand} {k k' : IntKind} {a b : Int} {z : D} (ho : o.op = .binOp op t x y t') (hx : opnd tab σ 0 x = .s (.c (.d (.int k a)))) (hy : opnd tab σ 0 y = .s (.c (.d (.int k' b))))
  (hb : 0 ≤ b) (hz : shBin op k a b = some z) : StepOK P o σ (.s (.c (.d z))) [] :=
 step_pure fun S ρ F H ac w ok hs hop hh => by
  have h0 := hop tab 0 x (by simp [ho, Op.operands])
  have h1 := hop tab 0 y (by simp [ho, Op.operands])
  rw [hx] at h0; rw [hy] at h1
  have hu := int_of_rel h0
  have hv := int_of_rel h1
  have hb' : ¬ b < 0 := by omega
  cases op <;> simp [shBin] at hz <;> subst hz
  ·exact ⟨_, by simp [execOp, ho, hu, hv, eqGuard, binOp, Op.shift, hb', shlI], .int _ _⟩
  ·exact ⟨_, by simp [execOp, ho, hu, hv, eqGuard, binOp, Op.shift, hb', shrI], .int _ _⟩
def unD (op : UnOp) : D → Option D
 | .bool b => match op with | .not => some (.bool (!b)) | _ => none
 | .int k n => match op with | .neg => some (.int k (k.wrap (0 - n))) | _ => none
 | _ => none
theorem ok_un {P : Program} {tab : Tab} {σ : St} {o : Oper} {op : UnOp} {t : TypeId} {x : Operand} {a z : D} (ho : o.op = .unOp op t x) (hx : opnd tab σ 0 x = .s (.c (.d a))) (hz : unD op a = some z) :
  StepOK P o σ (.s (.c (.d z))) [] :=
 step_pure fun S ρ F H ac w ok hs hop hh => by
  have h0 := hop tab 0 x (by simp [ho, Op.operands])
  rw [hx] at h0
  have h1 : DRel F w (ac.eval x) a := h0
  generalize hv : ac.eval x = v at h1
  cases h1 <;> cases op <;> simp [unD] at hz <;> subst hz
  ·exact ⟨_, by simp [execOp, ho, hv, Op.unary, Op.intArith], .int _ _⟩
  ·exact ⟨_, by simp [execOp, ho, hv, Op.unary], .bool _⟩
theorem ok_conv {P : Program} {tab : Tab} {σ : St} {o : Oper} {t t' : TypeId} {x : Operand} {k k' : IntKind} {n : Int} (ho : o.op = .convert t t' x) (hx : opnd tab σ 0 x = .s (.c (.d (.int k n)))) (hs : (P.underlying t).isSome = true)
  (hk : P.underlying t' = some (.int k')) : StepOK P o σ (.s (.c (.d (.int k' (k'.wrap n))))) [] :=
 step_pure fun S ρ F H ac w ok hsb hop hh => by
  have h0 := hop tab 0 x (by simp [ho, Op.operands])
  rw [hx] at h0
  have hv := int_of_rel h0
  obtain ⟨d, hd⟩ := Option.isSome_iff_exists.1 hs
  refine ⟨.int k' (k'.wrap n), ?_, .int _ _⟩
  simp [execOp, ho, hv, convert, run_underlying hd, run_underlying hk, Conv.intToInt]
theorem elems_len {σ : St} {H : Heap} {ρ : Map} {F : Nat → Prop} {w : World} {c : C} {s : Nat} {es : List (List D)} (h : elems σ.h c = some (s, es)) (hs : Sub σ.h H) {v : Value} (hr : CRel ρ F w H v c) :
  ∃ ao cap, v = .slice ao es.length cap := by
 cases c with
 | d x =>
  cases x <;> simp [elems] at h
  obtain ⟨rfl, rfl⟩ := h
  have h1 : DRel F w v (.slice _ _) := hr
  cases h1 with
  | nilS => exact ⟨none, 0, rfl⟩
  | emptyS ad cap => exact ⟨_, cap, rfl⟩
  | slice b off cap s es vs => exact ⟨_, cap, rfl⟩
 | nil s =>
  simp [elems] at h
  obtain ⟨rfl, rfl⟩ := h
  exact ⟨none, 0, hr⟩
 | own id s =>
  obtain ⟨T', es'', hl', hv⟩ := hr
  simp only [elems] at h
  split at h
  ·rename_i hl
   simp only [Option.some.injEq, Prod.mk.injEq] at h
   obtain ⟨rfl, rfl⟩ := h
   rw [hs _ _ hl] at hl'; cases hl'
   rcases hv with ⟨hv, rfl⟩ | ⟨b, N, cap, hb, hv, _⟩
   ·exact ⟨none, 0, hv⟩
   ·exact ⟨_, cap, hv⟩
  ·cases h
 | sub id s st n =>
  obtain ⟨T', es'', hl', hlen, hv⟩ := hr
  simp only [elems] at h
  split at h
  ·rename_i hl
   simp only [Option.some.injEq, Prod.mk.injEq] at h
   obtain ⟨rfl, rfl⟩ := h
   rw [hs _ _ hl] at hl'; cases hl'
   have hlen' : ((es''.drop st).take n).length = n := by simp; omega
   rw [hlen']
   rcases hv with ⟨hv, rfl⟩ | ⟨_, rfl, b, o, hv⟩ | ⟨b, N, cap, hb, hv, _⟩
   ·exact ⟨none, 0, hv⟩
   ·exact ⟨_, 0, hv⟩
   ·exact ⟨_, cap, hv⟩
  ·cases h
 | ref id i s off => simp [elems] at h
 | vrow id s n => simp [elems] at h
 | junk => simp [elems] at h
theorem ok_len {P : Program} {tab : Tab} {σ : St} {o : Oper} {t : TypeId} {x : Operand} {i : TI} {c : C} {s : Nat} {es : List (List D)} (ho : o.op = .call { callee := .builtin .len, args := #[x], argTypes := #[t] }) (hi : TIOk P t i) (htag : i.tag = 4)
  (hx : opnd tab σ t x = .s (.c c)) (he : elems σ.h c = some (s, es)) : StepOK P o σ (.s (.c (.d (.int .i64 es.length)))) [] :=
 step_pure fun S ρ F H ac w ok hs hop hh => by
  have h0 := hop tab t x (by simp [ho, Op.operands, Call.operands])
  rw [hx] at h0
  obtain ⟨ao, cap, hv⟩ := elems_len he hs (show CRel ρ F w H _ c from h0)
  refine ⟨.int .i64 es.length, ?_, .int _ _⟩
  simp [execOp, ho, resolve, invoke, builtin, Builtin.len_, hv, run_underlying (hi.slice htag), goInt]
theorem ok_lens {P : Program} {tab : Tab} {σ : St} {o : Oper} {t : TypeId} {x : Operand} {i : TI} {s : ByteArray} (ho : o.op = .call { callee := .builtin .len, args := #[x], argTypes := #[t] }) (hi : TIOk P t i) (htag : i.tag = 3)
  (hx : opnd tab σ t x = .s (.c (.d (.str s)))) : StepOK P o σ (.s (.c (.d (.int .i64 s.size)))) [] :=
 step_pure fun S ρ F H ac w ok hs hop hh => by
  have h0 := hop tab t x (by simp [ho, Op.operands, Call.operands])
  rw [hx] at h0
  have hv := str_of_rel h0
  refine ⟨.int .i64 s.size, ?_, .int _ _⟩
  simp [execOp, ho, resolve, invoke, builtin, Builtin.len_, hv, run_underlying (hi.string htag), goInt]
theorem look_one {α : Type} {id id' : Nat} {x y : α} (h : look [(id, x)] id' = some y) : id' = id ∧ y = x := by
 simp only [look] at h
 cases hb : Nat.beq id id' with
 | true => rw [hb] at h; have := Nat.eq_of_beq_eq_true hb; simp at h; exact ⟨this.symm, h.symm⟩
 | false => rw [hb] at h; simp at h
theorem look_self {α : Type} (id : Nat) (x : α) : look [(id, x)] id = some x := by
 simp [look]
theorem step_new {P : Program} {o : Oper} {σ : St} {v : AV} {id : Nat} {ob : Ob}
  (h : ∀ (S : Nat → Prop) (ρ : Map) (F : Nat → Prop) (H : Heap) (a : Act) (w : World), WOk S ρ F w → Sub σ.h H → Sub [(id, ob)] H →
   (∀ (tab : Tab) ty x, x ∈ o.op.operands → ARel ρ F w H (a.eval x) (opnd tab σ ty x)) → HRel ρ F w H →
   ∃ (v' : Value) (c : List Value) (T : TypeId), (execOp a.eval o).run P w = .ok (.value v') (w.alloc (.cells c.toArray T)) ∧
    (∀ ρ' w', (∀ i p, ρ i = some p → ρ' i = some p) → ρ' id = some (w.heap.size, c.length) → (∀ b, F b → w'.heap[b]? = w.heap[b]?) → w'.heap[w.heap.size]? = some (.cells c.toArray T (0, 0)) →
     ARel ρ' F w' H v' v ∧ ORel ρ' F w' H w.heap.size c.length ob)) : StepOK P o σ v [(id, ob)] := by
 intro S ρ F H a w next Q ok hs hn ht hh hf hk
 obtain ⟨v', c, T, hr, hv⟩ := h S ρ F H a w ok hs hn (fun tab ty x hx => opnd_rel tab ty (fun t e => by subst e; exact ht t hx)) hh
 have hid := hf id ob (look_self id ob)
 have g := Grow.own ok (.cells c.toArray T) (N := c.length) hid
 have hnew : (w.alloc (.cells c.toArray T)).heap[w.heap.size]? = some (.cells c.toArray T (0, 0)) := heap_alloc_new w _
 have h1 := hv _ _ g.map (by simp) (g.heap ok) hnew
 refine wp_value hr (hk v' _ F _ ⟨g.below, g.ok, g.map, fun i p hi => (g.fresh i p hi).imp_right (fun e => ⟨ob, by rw [e]; exact look_self id ob⟩), g.set, g.new⟩ h1.1 ?_)
 intro i ob' b N hi hb
 obtain ⟨rfl, rfl⟩ := look_one hi
 simp only [if_true, Option.some.injEq, Prod.mk.injEq] at hb
 obtain ⟨rfl, rfl⟩ := hb
 exact h1.2
theorem run_newRow {P : Program} (w : World) (T : TypeId) (cells : Array Value) : (newRow T cells).run P w = .ok ⟨w.heap.size, 0, none⟩ (w.alloc (.cells cells T)) := by
 simp [newRow]
theorem ok_box {P : Program} {tab : Tab} {σ : St} {o : Oper} {t id : Nat} {x : Operand} {cs : List C} (ho : o.op = .box t x) (hx : cellsOf (opnd tab σ t x) = some cs) :
  StepOK P o σ (.s (.c (.ref id 0 0 0))) [(id, .var cs)] :=
 step_new fun S ρ F H a w ok hs hn hop hh => by
  have h0 := hop tab t x (by simp [ho, Op.operands])
  have h1 := cellsOf_rel h0 hx
  refine ⟨.pointer (some ⟨w.heap.size, 0, none⟩), (a.eval x).cells.toList, t, ?_, fun ρ' w' hρ hid hw hb => ⟨⟨_, _, hid, by simp⟩, _, t, hb, rfl, ?_⟩⟩
  ·simp [execOp, ho, Instr.box, newVar, run_newRow]
  ·exact All2.mono (fun _ _ => CRel.mono hρ (fun _ h => h) hw (Sub.refl H)) h1
theorem ok_alloc {P : Program} {σ : St} {o : Oper} {t id : Nat} {i : TI} (ho : o.op = .alloc t) (hi : TIOk P t i) :
  StepOK P o σ (.s (.c (.ref id 0 0 0))) [(id, .var i.zero)] :=
 step_new fun S ρ F H a w ok hs hn hop hh => by
  obtain ⟨z, hz, hzz⟩ := hi.zero w
  refine ⟨.pointer (some ⟨w.heap.size, 0, none⟩), z.cells.toList, t, ?_, fun ρ' w' hρ hid hw hb => ⟨⟨_, _, hid, by simp⟩, _, t, hb, rfl, zrels_crel hzz⟩⟩
  simp [execOp, ho, Instr.alloc, newVar, run_newRow, hz]
theorem ok_nilCheck {P : Program} {tab : Tab} {σ : St} {o : Oper} {x : Operand} (ho : o.op = .nilCheck x) (hx : (∃ cs off, opnd tab σ 0 x = .s (.c (.d (.ptr cs off)))) ∨ ∃ id i s off, opnd tab σ 0 x = .s (.c (.ref id i s off))) :
  StepOK P o σ (opnd tab σ 0 x) [] :=
 step_pure fun S ρ F H a w ok hs hop hh => by
  have h0 := hop tab 0 x (by simp [ho, Op.operands])
  rcases hx with ⟨cs, off, hx⟩ | ⟨id, i, s, off, hx⟩
  ·rw [hx] at h0 ⊢
   have h1 : DRel F w (a.eval x) (.ptr cs off) := h0
   generalize hv : a.eval x = v at h1 h0
   cases h1 with
   | ptr b p off cs vs hF hc hd => exact ⟨_, by simp [execOp, ho, hv], h0⟩
  ·rw [hx] at h0 ⊢
   have h1 := h0
   obtain ⟨b, N, hb, hv⟩ := h1
   exact ⟨.pointer (some ⟨b, i * s + off, none⟩), by simp [execOp, ho, hv], by rw [hv] at h0; exact h0⟩
end Go.Ab
