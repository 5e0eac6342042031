/- The abstract machine: its states against frames and worlds; forgetting; the operations that write. -/
import Derived.Test.YtffnbobdkpebgaaGreatAbCall
set_option linter.unusedVariables false
namespace Go.Ab
open Go.RowKit
structure SRel (S : Nat → Prop) (ρ : Map) (F : Nat → Prop) (σ : St) (a : Act) (w : World) : Prop where
 ok : WOk S ρ F w
 size : a.tmps.size = σ.n
 tmp : ∀ t, ARel ρ F w σ.h (a.tmps.getD t undef) (σ.get t)
 obj : HRel ρ F w σ.h
 dom : ∀ id p, ρ id = some p → ∃ ob, look σ.h id = some ob
 defers : a.defers = []
def St.put (σ : St) (d : Option Nat) (v : AV) : St := match d with
 | some d => { σ with t := (d, v) :: σ.t }
 | none => σ
def St.add (σ : St) (news : Heap) : St := { σ with h := news ++ σ.h }
def dstOk (σ : St) : Option Nat → Bool
 | some d => Nat.blt d σ.n
 | none => true
theorem look_append {α : Type} : ∀ {l r : List (Nat × α)} {k : Nat}, look (l ++ r) k = match look l k with | some v => some v | none => look r k
 | [], r, k => rfl
 | (j, x) :: l, r, k => by
  simp only [List.cons_append, look]
  cases Nat.beq j k with
  | true => rfl
  | false => exact look_append
theorem get_put_same (σ : St) (d : Nat) (v : AV) : (σ.put (some d) v).get d = v := by
 simp [St.put, St.get, look]
theorem get_put_other (σ : St) {d t : Nat} (v : AV) (h : d ≠ t) : (σ.put (some d) v).get t = σ.get t := by
 have : Nat.beq d t = false := by
  cases hb : Nat.beq d t with
  | false => rfl
  | true => exact absurd (Nat.eq_of_beq_eq_true hb) h
 simp [St.put, St.get, look, this]
theorem getD_set (xs : Array Value) (d t : Nat) (v : Value) (h : d < xs.size) : (xs.setIfInBounds d v).getD t undef = if d = t then v else xs.getD t undef := by
 by_cases e : d = t
 ·subst e; simp [h]
 ·simp [e, Array.getElem?_setIfInBounds_ne e]
theorem SRel.put {S : Nat → Prop} {ρ : Map} {F : Nat → Prop} {σ : St} {a : Act} {w : World} (h : SRel S ρ F σ a w) {d : Option Nat} {v : Value} {x : AV} (hd : dstOk σ d = true) (hv : ARel ρ F w σ.h v x) : SRel S ρ F (σ.put d x) (a.put d v) w := by
 cases d with
 | none => exact h
 | some d =>
  have hlt : d < a.tmps.size := by rw [h.size]; simpa [dstOk] using hd
  refine ⟨h.ok, by simp [Act.put, h.size, St.put], fun t => ?_, h.obj, h.dom, h.defers⟩
  simp only [Act.put]
  rw [getD_set _ _ _ _ hlt]
  by_cases e : d = t
  ·subst e; rw [if_pos rfl, get_put_same]; exact hv
  ·rw [if_neg e, get_put_other _ _ e]; exact h.tmp t
structure Base where
 F : Nat → Prop
 old : Nat → Prop
 pin : Map
 num : ∀ id p, pin id = some p → 7000000 ≤ id
structure Holds' (S : Nat → Prop) (F0 : Base) (w0 : World) (σ : St) (a : Act) (w : World) : Prop where
 ex : ∃ ρ F, SRel S ρ F σ a w ∧ ((∀ b, F0.F b → F b) ∧ (∀ b, F0.old b → S b) ∧ ∀ id p, F0.pin id = some p → (∃ o, look σ.h id = some o) → ρ id = some p) ∧ (∀ b, F b → F0.F b ∨ ¬ F0.old b)
 keep : Keep S w0 w
abbrev PinOK (S : Nat → Prop) (F0 : Base) (ρ : Map) (F : Nat → Prop) (h : Heap) : Prop := (∀ b, F0.F b → F b) ∧ (∀ b, F0.old b → S b) ∧ ∀ id p, F0.pin id = some p → (∃ o, look h id = some o) → ρ id = some p
theorem pin_sub {S : Nat → Prop} {F0 : Base} {ρ : Map} {F : Nat → Prop} {h h' : Heap} (k : PinOK S F0 ρ F h) (hs : ∀ id o, look h' id = some o → ∃ o', look h id = some o') : PinOK S F0 ρ F h' :=
 ⟨k.1, k.2.1, fun id p hp ⟨o, ho⟩ => k.2.2 id p hp (hs id o ho)⟩
def SeqOK (P : Program) (o : Oper) (σ σ' : St) : Prop :=
 ∀ (S : Nat → Prop) (F0 : Base) (w0 : World) (a : Act) (w : World) (next : Act → World → Prop) (Q : Exit → Act → World → Prop),
  Holds' S F0 w0 σ a w → (∀ a' w', Holds' S F0 w0 σ' a' w' → next a' w') → o.wp P a w next Q
theorem seq_of_step {P : Program} {o : Oper} {σ : St} {v : AV} {news : Heap} (h : StepOK P o σ v news) (hd : dstOk σ o.dst = true) (hf : ∀ id ob, look news id = some ob → look σ.h id = none ∧ id < 7000000) :
  SeqOK P o σ ((σ.put o.dst v).add news) := by
 intro S F0 w0 a w next Q ⟨⟨ρ, F, hs, hF0, hF1⟩, hk⟩ hn
 have hsub : Sub σ.h (news ++ σ.h) := fun id ob hl => by
  rw [look_append]
  cases hl' : look news id with
  | none => exact hl
  | some ob' => have := (hf id ob' hl').1; rw [hl] at this; cases this
 have hsubn : Sub news (news ++ σ.h) := fun id ob hl => by rw [look_append, hl]
 refine h S ρ F (news ++ σ.h) a w next Q hs.ok hsub hsubn (fun t _ => ?_) (fun id b N hid ob hl => ?_) (fun id ob hl => ?_) (fun v' ρ' F' w' g hv ho => ?_)
 ·exact ARel.mono (fun _ _ h => h) (fun _ h => h) (fun _ _ => rfl) hsub (hs.tmp t)
 ·obtain ⟨ob', hob'⟩ := hs.dom id _ hid
  have : look news id = none := by
   cases hl' : look news id with
   | none => rfl
   | some ob'' => have := (hf id _ hl').1; rw [hob'] at this; cases this
  rw [look_append, this, hob'] at hl
  simp only [Option.some.injEq] at hl
  subst hl
  exact ORel.mono (fun _ _ h => h) (fun _ h => h) (fun _ _ => rfl) hsub rfl (hs.obj id b N hid _ hob')
 ·cases hid : ρ id with
  | none => rfl
  | some p => obtain ⟨ob', hob'⟩ := hs.dom id p hid; rw [(hf id ob hl).1] at hob'; cases hob'
 ·refine hn _ _ ⟨⟨ρ', F', ?_, ⟨fun b hb => g.set b (hF0.1 b hb), hF0.2.1, fun id p hp ⟨ob, hob⟩ => ?_⟩, fun b hb => (g.new b hb).elim (hF1 b) (fun h => .inr fun ho => absurd (hs.ok.keep b (hF0.2.1 b ho)) (by omega))⟩, hk.trans (Keep.of_below g.below hs.ok.keep)⟩
  rotate_left
  ·have hn0 : look news id = none := by
    cases hl' : look news id with
    | none => rfl
    | some ob' => have := (hf id ob' hl').2; have := F0.num id p hp; omega
   refine g.map id p (hF0.2.2 id p hp ⟨ob, ?_⟩)
   have : look (news ++ σ.h) id = some ob := by
    cases hd' : o.dst <;> rw [hd'] at hob <;> exact hob
   rw [look_append, hn0] at this
   exact this
  have h1 : SRel S ρ' F' (σ.add news) a w' := by
   refine ⟨g.ok, hs.size, fun t => g.arel hs.ok hsub (hs.tmp t), fun id b N hid ob hl => ?_, fun id p hid => ?_, hs.defers⟩
   ·rcases g.fresh id _ hid with hold | ⟨ob', hob'⟩
    ·obtain ⟨ob', hob'⟩ := hs.dom id _ hold
     have : look news id = none := by
      cases hl' : look news id with
      | none => rfl
      | some ob'' => have := (hf id _ hl').1; rw [hob'] at this; cases this
     have hl2 : look σ.h id = some ob := by
      simp only [St.add] at hl
      rw [look_append, this] at hl; exact hl
     exact g.orel hs.ok hsub hold (hs.obj id b N hold ob hl2)
    ·have hl2 : look news id = some ob := by
      simp only [St.add] at hl
      rw [look_append, hob'] at hl; simp at hl; rw [hob', hl]
     exact ho id ob b N hl2 hid
   ·rcases g.fresh id p hid with hold | ⟨ob', hob'⟩
    ·obtain ⟨ob', hob'⟩ := hs.dom id p hold
     exact ⟨_, hsub _ _ hob'⟩
    ·exact ⟨_, hsubn _ _ hob'⟩
  have h2 := h1.put (d := o.dst) (v := v') (x := v) hd hv
  cases hdst : o.dst <;> rw [hdst] at h2 <;> exact h2
def killH (p : Nat → Bool) : Heap → Heap
 | [] => []
 | (k, o) :: r => bif p k then killH p r else (k, o.kill p) :: killH p r
def killT (p : Nat → Bool) : List (Nat × AV) → List (Nat × AV)
 | [] => []
 | (k, v) :: r => (k, v.kill p) :: killT p r
def St.kill (p : Nat → Bool) (σ : St) : St := { σ with t := killT p σ.t, h := killH p σ.h }
theorem look_killH {p : Nat → Bool} : ∀ {h : Heap} {k : Nat}, p k = false → look (killH p h) k = (look h k).map (Ob.kill p)
 | [], k, _ => rfl
 | (j, o) :: r, k, hp => by
  unfold killH
  cases hj : p j with
  | true =>
   have : Nat.beq j k = false := by
    cases hb : Nat.beq j k with
    | false => rfl
    | true => have := Nat.eq_of_beq_eq_true hb; subst this; rw [hj] at hp; cases hp
   simp only [cond_true, look, this, cond_false]
   exact look_killH hp
  | false =>
   simp only [cond_false, look]
   cases Nat.beq j k with
   | true => rfl
   | false => exact look_killH hp
theorem look_killH_none {p : Nat → Bool} : ∀ {h : Heap} {k : Nat}, p k = true → look (killH p h) k = none
 | [], k, _ => rfl
 | (j, o) :: r, k, hp => by
  unfold killH
  cases hj : p j with
  | true => simp only [cond_true]; exact look_killH_none hp
  | false =>
   have : Nat.beq j k = false := by
    cases hb : Nat.beq j k with
    | false => rfl
    | true => have := Nat.eq_of_beq_eq_true hb; subst this; rw [hj] at hp; cases hp
   simp only [cond_false, look, this]
   exact look_killH_none hp
theorem get_kill {p : Nat → Bool} (σ : St) (t : Nat) : (σ.kill p).get t = (σ.get t).kill p := by
 simp only [St.get, St.kill]
 generalize σ.t = l
 induction l with
 | nil => rfl
 | cons x r ih =>
  obtain ⟨k, v⟩ := x
  simp only [killT, look]
  cases Nat.beq k t with
  | true => rfl
  | false => exact ih
def cut (p : Nat → Bool) (ρ : Map) : Map := fun id => bif p id then none else ρ id
section kill
variable {p : Nat → Bool} {ρ : Map} {F : Nat → Prop} {w : World} {H : Heap}
theorem CRel.kill {v : Value} {c : C} (h : CRel ρ F w H v c) : CRel (cut p ρ) F w (killH p H) v (c.kill p) := by
 cases c with
 | d x => exact h
 | nil s => exact h
 | own id s =>
  simp only [C.kill]
  cases hp : p id with
  | true => trivial
  | false =>
   obtain ⟨T, es, he, h⟩ := h
   refine ⟨T, es, by rw [look_killH hp, he]; rfl, ?_⟩
   rcases h with h | ⟨b, N, cap, hb, r⟩
   ·exact .inl h
   ·exact .inr ⟨b, N, cap, by simp [cut, hp, hb], r⟩
 | sub id s st n =>
  simp only [C.kill]
  cases hp : p id with
  | true => trivial
  | false =>
   obtain ⟨T, es, he, hl, h⟩ := h
   refine ⟨T, es, by rw [look_killH hp, he]; rfl, hl, ?_⟩
   rcases h with h | h | ⟨b, N, cap, hb, r⟩
   ·exact .inl h
   ·exact .inr (.inl h)
   ·exact .inr (.inr ⟨b, N, cap, by simp [cut, hp, hb], r⟩)
 | ref id i s off =>
  simp only [C.kill]
  cases hp : p id with
  | true => trivial
  | false => obtain ⟨b, N, hb, r⟩ := h; exact ⟨b, N, by simp [cut, hp, hb], r⟩
 | vrow id s n =>
  simp only [C.kill]
  cases hp : p id with
  | true => trivial
  | false => obtain ⟨b, N, hb, r⟩ := h; exact ⟨b, N, by simp [cut, hp, hb], r⟩
 | junk => trivial
theorem SVRel.kill {v : Value} {x : SV} (h : SVRel ρ F w H v x) : SVRel (cut p ρ) F w (killH p H) v (x.kill p) := by
 cases x with
 | c x => exact CRel.kill h
 | agg cs => obtain ⟨vs, hv, h⟩ := h; exact ⟨vs, hv, all2_map (C.kill p) (fun _ _ h => CRel.kill h) h⟩
 | fn f cs => obtain ⟨vs, hv, h⟩ := h; exact ⟨vs, hv, all2_map (C.kill p) (fun _ _ h => CRel.kill h) h⟩
theorem ARel.kill {v : Value} {x : AV} (h : ARel ρ F w H v x) : ARel (cut p ρ) F w (killH p H) v (x.kill p) := by
 cases x with
 | s x => exact SVRel.kill h
 | tup xs => obtain ⟨vs, hv, h⟩ := h; exact ⟨vs, hv, all2_map (SV.kill p) (fun _ _ h => SVRel.kill h) h⟩
theorem ORel.kill {b N : Nat} {o : Ob} (h : ORel ρ F w H b N o) : ORel (cut p ρ) F w (killH p H) b N (o.kill p) := by
 cases o with
 | var cs => obtain ⟨c, T, hc, hn, h⟩ := h; exact ⟨c, T, hc, hn, all2_map (C.kill p) (fun _ _ h => CRel.kill h) h⟩
 | row T s es => exact h
theorem cut_some {id : Nat} {x : Nat × Nat} (h : cut p ρ id = some x) : p id = false ∧ ρ id = some x := by
 unfold cut at h
 cases hp : p id with
 | true => rw [hp] at h; cases h
 | false => rw [hp] at h; exact ⟨rfl, h⟩
theorem SRel.kill {S : Nat → Prop} {σ : St} {a : Act} (h : SRel S ρ F σ a w) : SRel S (cut p ρ) F (σ.kill p) a w := by
 refine ⟨⟨h.ok.glob, h.ok.keep, h.ok.comm, fun id b N hid => h.ok.own id b N (cut_some hid).2, fun i j b N M hi hj => h.ok.inj i j b N M (cut_some hi).2 (cut_some hj).2⟩, h.size, fun t => ?_, fun id b N hid o hl => ?_, fun id x hid => ?_, h.defers⟩
 ·rw [get_kill]; exact ARel.kill (h.tmp t)
 ·obtain ⟨hp, hid⟩ := cut_some hid
  simp only [St.kill] at hl ⊢
  rw [look_killH hp] at hl
  simp only [Option.map_eq_some_iff] at hl
  obtain ⟨o', ho', rfl⟩ := hl
  exact ORel.kill (h.obj id b N hid o' ho')
 ·obtain ⟨hp, hid⟩ := cut_some hid
  obtain ⟨ob, hob⟩ := h.dom id x hid
  exact ⟨ob.kill p, by simp only [St.kill]; rw [look_killH hp, hob]; rfl⟩
end kill
theorem Holds'.kill {S : Nat → Prop} {F0 : Base} {w0 : World} {σ : St} {a : Act} {w : World} (p : Nat → Bool) (h : Holds' S F0 w0 σ a w) : Holds' S F0 w0 (σ.kill p) a w := by
 obtain ⟨⟨ρ, F, hs, h1, h2⟩, hk⟩ := h
 refine ⟨⟨cut p ρ, F, hs.kill, ⟨h1.1, h1.2.1, fun id x hx ⟨ob, hob⟩ => ?_⟩, h2⟩, hk⟩
 have hp : p id = false := by
  cases hp : p id with
  | false => rfl
  | true => simp only [St.kill] at hob; rw [look_killH_none hp] at hob; cases hob
 simp only [St.kill] at hob
 rw [look_killH hp] at hob
 obtain ⟨o', ho', _⟩ := Option.map_eq_some_iff.1 hob
 have := h1.2.2 id x hx ⟨o', ho'⟩
 simp [cut, hp, this]
end Go.Ab
