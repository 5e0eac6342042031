/- The abstract machine: the contract of a call; what one operation that writes nothing does; the laws by which each is sound. -/
import Derived.Test.YtffnbobdkpebgaaGreatAbRel
set_option linter.unusedVariables false
namespace Go.Ab
open Go.RowKit
def zrel : Value → C → Bool
 | .int k n, .d (.int k' n') => decide (k = k') && decide (n = n')
 | .bool b, .d (.bool b') => b == b'
 | .string s, .d (.str s') => decide (s = s')
 | .slice none 0 0, .nil _ => true
 | .pointer none, .d .nilptr => true
 | _, .junk => true
 | _, _ => false
def zrels : List Value → List C → Bool
 | [], [] => true
 | v :: vs, c :: cs => zrel v c && zrels vs cs
 | _, _ => false
def descAgg : TypeDesc → Bool
 | .struct _ | .array _ _ => true
 | _ => false
def descTag : TypeDesc → Nat
 | .bool => 1
 | .int _ => 2
 | .string => 3
 | .slice _ => 4
 | .pointer _ => 5
 | .struct _ => 6
 | _ => 0
def fieldsOk (P : Program) : List Field → List (Nat × Nat) → Bool
 | [], [] => true
 | f :: fs, (o, t) :: r => Nat.beq f.offset o && Nat.beq f.type t && !(Nat.beq (P.cellsOf f.type) 0) && (P.info? f.type).isSome && fieldsOk P fs r
 | _, _ => false
def descOk (P : Program) (i : TI) : TypeDesc → Bool
 | .struct fs => fieldsOk P fs.toList i.fields
 | .slice e => Nat.beq e i.elem
 | .pointer e => Nat.beq e i.elem
 | _ => true
def eqK : D → D → D → Option Bool
 | .bool _, .bool a, .bool b => some (a == b)
 | .int k _, .int k1 a, .int k2 b => match decide (k = k1), decide (k = k2) with
  | true, true => some (a == b)
  | _, _ => none
 | .str _, .str a, .str b => some (decide (a = b))
 | _, _, _ => none
def eqKs : List D → List D → List D → Option Bool
 | [], [], [] => some true
 | [k], [x], [y] => eqK k x y
 | k :: ks, x :: xs, y :: ys => match eqK k x y, eqKs ks xs ys with
  | some b, some c => some (b && c)
  | _, _ => none
 | _, _, _ => none
def kindsF (P : Program) (g : Nat → Option (List D)) (n : Nat) : Nat → List Field → Option (List D)
 | o, [] => match Nat.beq o n with
  | true => some []
  | false => none
 | o, f :: r => match Nat.beq f.offset o && (!(f.name == "_") && ((P.info? f.type).isSome && !(Nat.beq (P.cellsOf f.type) 0))) with
  | true => match g f.type, kindsF P g n (o + P.cellsOf f.type) r with
   | some a, some b => match Nat.beq a.length (P.cellsOf f.type) with
    | true => some (a ++ b)
    | false => none
   | _, _ => none
  | false => none
def eqKinds (P : Program) : Nat → Nat → Option (List D)
 | 0, _ => none
 | d + 1, t => match P.underlying t with
  | some .bool => match Nat.beq (P.cellsOf t) 1 with | true => some [.bool false] | false => none
  | some (.int k) => match Nat.beq (P.cellsOf t) 1 with | true => some [.int k 0] | false => none
  | some .string => match Nat.beq (P.cellsOf t) 1 with | true => some [.str ByteArray.empty] | false => none
  | some (.struct fs) => match P.stoodInHeld t with | true => none | false => kindsF P (eqKinds P d) (P.cellsOf t) 0 fs.toList
  | _ => none
def kEq : List D → List D → Bool
 | [], [] => true
 | .bool a :: r, .bool b :: s => (a == b) && kEq r s
 | .int k a :: r, .int k' b :: s => (decide (k = k') && decide (a = b)) && kEq r s
 | .str a :: r, .str b :: s => decide (a = b) && kEq r s
 | _, _ => false
theorem kEq_spec : ∀ {a b : List D}, kEq a b = true → a = b
 | [], [], _ => rfl
 | [], _ :: _, h => by simp [kEq] at h
 | x :: a, [], h => by cases x <;> simp [kEq] at h
 | x :: a, y :: b, h => by
  cases x <;> cases y <;> simp [kEq] at h
  ·obtain ⟨⟨rfl, rfl⟩, h⟩ := h; rw [kEq_spec h]
  ·obtain ⟨rfl, h⟩ := h; rw [kEq_spec h]
  ·obtain ⟨rfl, h⟩ := h; rw [kEq_spec h]
def eqkOk (P : Program) (t : Nat) (i : TI) : Bool := match i.eqk with
 | [] => true
 | ks => (match eqKinds P 8 t with | some l => kEq l ks | none => false) && !(P.eqGuardType P.depth t)
def tiCheck (P : Program) (t : Nat) (i : TI) : Bool :=
 match P.info? t, P.underlying t with
 | some info, some desc => Nat.beq info.size i.size && Nat.beq info.bytes i.bytes && (descAgg desc == i.agg) && Nat.beq (descTag desc) i.tag && Nat.beq i.zero.length i.size &&
   (match info.zero with | some z => zrels z.cells.toList i.zero | none => false) && descOk P i desc && eqkOk P t i
 | _, _ => false
def tabCheck (P : Program) (tab : Tab) : Bool := tab.all fun p => tiCheck P p.1 p.2
theorem look_mem {α : Type} : ∀ {l : List (Nat × α)} {k : Nat} {v : α}, look l k = some v → (k, v) ∈ l
 | [], _, _, h => by simp [look] at h
 | (k', v') :: r, k, v, h => by
  unfold look at h
  cases hb : Nat.beq k' k with
  | true =>
   rw [hb] at h
   have := Nat.eq_of_beq_eq_true hb
   simp at h
   subst this; subst h
   exact List.mem_cons_self
  | false => rw [hb] at h; exact List.mem_cons_of_mem _ (look_mem h)
structure TIOk (P : Program) (t : Nat) (i : TI) : Prop where
 info : ∃ info desc, P.info? t = some info ∧ P.underlying t = some desc ∧ info.size = i.size ∧ info.bytes = i.bytes ∧ descAgg desc = i.agg ∧ descTag desc = i.tag ∧ (∃ z, info.zero = some z ∧ zrels z.cells.toList i.zero = true) ∧ descOk P i desc = true
 zlen : i.zero.length = i.size
 eqk : i.eqk ≠ [] → eqKinds P 8 t = some i.eqk ∧ P.eqGuardType P.depth t = false
theorem tabOk_look {P : Program} {tab : Tab} (h : tabCheck P tab = true) {t : Nat} {i : TI} (hl : look tab t = some i) : TIOk P t i := by
 have h1 := List.all_eq_true.1 h _ (look_mem hl)
 simp only [tiCheck] at h1
 split at h1
 ·rename_i info desc hi hd
  simp only [Bool.and_eq_true] at h1
  obtain ⟨⟨⟨⟨⟨⟨⟨h1, h2⟩, h3⟩, h6⟩, h8⟩, h4⟩, h5⟩, h9⟩ := h1
  refine ⟨⟨info, desc, hi, hd, Nat.eq_of_beq_eq_true h1, Nat.eq_of_beq_eq_true h2, by simpa using h3, Nat.eq_of_beq_eq_true h6, ?_, h5⟩, Nat.eq_of_beq_eq_true h8, fun hne => ?_⟩
  ·split at h4
   ·rename_i z hz; exact ⟨z, hz, h4⟩
   ·cases h4
  ·unfold eqkOk at h9
   split at h9
   ·rename_i he; exact absurd he hne
   ·simp only [Bool.and_eq_true, Bool.not_eq_true'] at h9
    obtain ⟨h9, h10⟩ := h9
    split at h9
    ·rename_i l hl; exact ⟨by rw [hl, kEq_spec h9], h10⟩
    ·cases h9
 ·cases h1
section ti
variable {P : Program} {t : Nat} {i : TI} (h : TIOk P t i) (w : World)
include h
theorem TIOk.sizeOf : (Go.sizeOf t).run P w = .ok i.size w := by
 obtain ⟨info, desc, hi, hd, hs, _⟩ := h.info
 simp [Go.sizeOf, typeInfo, hi, hs]
theorem TIOk.isAgg : (Go.isAgg t).run P w = .ok i.agg w := by
 obtain ⟨info, desc, hi, hd, hs, hb, ha, _⟩ := h.info
 unfold Go.isAgg
 simp only [Sem.run_bind, run_underlying hd, Result.andThen_ok]
 cases desc <;> simp [descAgg] at ha <;> simp [← ha]
theorem TIOk.zero : ∃ z, (zeroValue t).run P w = .ok z w ∧ zrels z.cells.toList i.zero = true := by
 obtain ⟨info, desc, hi, hd, hs, hb, ha, hta, ⟨z, hz, hzz⟩, _⟩ := h.info
 exact ⟨z, by simp [zeroValue, typeInfo, hi, hz], hzz⟩
end ti
theorem zrel_crel {ρ : Map} {F : Nat → Prop} {w : World} {H : Heap} {v : Value} {c : C} (h : zrel v c = true) : CRel ρ F w H v c := by
 unfold zrel at h
 split at h
 ·simp only [Bool.and_eq_true, decide_eq_true_eq] at h; obtain ⟨rfl, rfl⟩ := h; exact .int _ _
 ·simp only [beq_iff_eq] at h; subst h; exact .bool _
 ·simp only [decide_eq_true_eq] at h; subst h; exact .str _
 ·rfl
 ·exact .nilptr
 ·trivial
 ·cases h
theorem zrels_crel {ρ : Map} {F : Nat → Prop} {w : World} {H : Heap} : ∀ {vs : List Value} {cs : List C}, zrels vs cs = true → All2 (CRel ρ F w H) vs cs
 | [], [], _ => trivial
 | v :: vs, c :: cs, h => by
  simp only [zrels, Bool.and_eq_true] at h
  exact ⟨zrel_crel h.1, zrels_crel h.2⟩
 | [], _ :: _, h => by simp [zrels] at h
 | _ :: _, [], h => by simp [zrels] at h
theorem lit_rel {ρ : Map} {F : Nat → Prop} {w : World} {H : Heap} (tab : Tab) (ty : Nat) (v : Value) : ARel ρ F w H v (lit tab ty v) := by
 unfold lit
 split
 ·exact .int _ _
 ·exact .bool _
 ·exact .str _
 ·split
  ·rfl
  ·trivial
 ·exact .nilptr
 ·trivial
theorem opnd_rel {ρ : Map} {F : Nat → Prop} {w : World} {H : Heap} {a : Act} {σ : St} (tab : Tab) (ty : Nat) {x : Operand}
  (h : ∀ t, x = .tmp t → ARel ρ F w H (a.eval x) (σ.get t)) : ARel ρ F w H (a.eval x) (opnd tab σ ty x) := by
 cases x with
 | tmp t => exact h t rfl
 | const v => exact lit_rel tab ty v
 | global g => trivial
 | func f => exact DRel.clos f [] [] rfl (by simp)
def DVRel (F : Nat → Prop) (w : World) (v : Value) : DV → Prop
 | .c x => DRel F w v x
 | .agg cs => ∃ vs : List Value, v = .agg vs.toArray ∧ All2 (DRel F w) vs cs
structure Left (F : Nat → Prop) (w : World) (r : AV) (news : Heap) (v : Value) (ρ' : Map) (F' : Nat → Prop) (w' : World) : Prop where
 below : Below w.heap.size w w'
 glob : Glob F' w'
 comm : ∀ b, F' b → b < w'.heap.size
 set : ∀ b, F b → F' b
 new : ∀ b, F' b → F b ∨ w.heap.size ≤ b
 own : ∀ id b N, ρ' id = some (b, N) → w.heap.size ≤ b ∧ b < w'.heap.size ∧ ¬ F' b
 inj : ∀ i j b N M, ρ' i = some (b, N) → ρ' j = some (b, M) → i = j
 dom : ∀ id p, ρ' id = some p → ∃ o, look news id = some o
 val : ARel ρ' F' w' news v r
 obj : HRel ρ' F' w' news
structure Fn (P : Program) (f : FuncId) (args : List DV) (r : AV) (news : Heap) : Prop where
 enters : ∀ as w, (callFunc f as).run P w = .ok (.enter f as) w
 calls : ∀ (F : Nat → Prop) (w : World) (vs : List Value), Glob F w → (∀ b, F b → b < w.heap.size) → All2 (DVRel F w) vs args →
  Calls P f vs.toArray w fun e w' => ∃ v ρ' F', e = .returned v ∧ Left F w r news v ρ' F' w'
def StepOK (P : Program) (o : Oper) (σ : St) (v : AV) (news : Heap) : Prop :=
 ∀ (S : Nat → Prop) (ρ : Map) (F : Nat → Prop) (H : Heap) (a : Act) (w : World) (next : Act → World → Prop) (Q : Exit → Act → World → Prop),
  WOk S ρ F w → Sub σ.h H → Sub news H → (∀ t, Operand.tmp t ∈ o.op.operands → ARel ρ F w H (a.eval (.tmp t)) (σ.get t)) → HRel ρ F w H →
  (∀ id ob, look news id = some ob → ρ id = none) →
  (∀ v' ρ' F' w', Grow S ρ F w ρ' F' w' (fun id => ∃ ob, look news id = some ob) → ARel ρ' F' w' H v' v →
   (∀ id ob b N, look news id = some ob → ρ' id = some (b, N) → ORel ρ' F' w' H b N ob) → next (a.put o.dst v') w') →
  o.wp P a w next Q
theorem wp_value {P : Program} {o : Oper} {a : Act} {w w' : World} {v' : Value} {next : Act → World → Prop} {Q : Exit → Act → World → Prop}
  (h : (execOp a.eval o).run P w = .ok (.value v') w') (hk : next (a.put o.dst v') w') : o.wp P a w next Q := by
 unfold Oper.wp; rw [h]; exact hk
theorem wp_skipped {P : Program} {o : Oper} {a : Act} {w w' : World} {next : Act → World → Prop} {Q : Exit → Act → World → Prop}
  (h : (execOp a.eval o).run P w = .ok .skip w') (hk : next (a.put o.dst undef) w') : o.wp P a w next Q := by
 unfold Oper.wp; rw [h]; exact hk
theorem step_pure {P : Program} {o : Oper} {σ : St} {v : AV}
  (h : ∀ (S : Nat → Prop) (ρ : Map) (F : Nat → Prop) (H : Heap) (a : Act) (w : World), WOk S ρ F w → Sub σ.h H →
   (∀ (tab : Tab) ty x, x ∈ o.op.operands → ARel ρ F w H (a.eval x) (opnd tab σ ty x)) → HRel ρ F w H → ∃ v', (execOp a.eval o).run P w = .ok (.value v') w ∧ ARel ρ F w H v' v) : StepOK P o σ v [] := by
 intro S ρ F H a w next Q ok hs hn ht hh hf hk
 obtain ⟨v', hr, hv⟩ := h S ρ F H a w ok hs (fun tab ty x hx => opnd_rel tab ty (fun t e => by subst e; exact ht t hx)) hh
 exact wp_value hr (hk v' ρ F w (Grow.refl ok) hv (by simp [look]))
end Go.Ab
