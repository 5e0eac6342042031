/- The abstract machine: how its data and states stand for values, memory and worlds; what is kept when memory grows. -/
import Derived.Test.YtffnbobdkpebgaaGreatAbDef
set_option linter.unusedVariables false
namespace Go.Ab
open Go.RowKit
def All2 {α β : Type} (R : α → β → Prop) : List α → List β → Prop
 | [], [] => True
 | a :: as, b :: bs => R a b ∧ All2 R as bs
 | _, _ => False
theorem All2.mono {α β : Type} {R R' : α → β → Prop} (h : ∀ a b, R a b → R' a b) : ∀ {as : List α} {bs : List β}, All2 R as bs → All2 R' as bs
 | [], [], _ => trivial
 | _ :: _, _ :: _, ⟨h1, h2⟩ => ⟨h _ _ h1, All2.mono h h2⟩
theorem All2.length {α β : Type} {R : α → β → Prop} : ∀ {as : List α} {bs : List β}, All2 R as bs → as.length = bs.length
 | [], [], _ => rfl
 | _ :: _, _ :: _, ⟨_, h2⟩ => by simp [All2.length h2]
theorem All2.get {α β : Type} {R : α → β → Prop} : ∀ {as : List α} {bs : List β}, All2 R as bs → ∀ {i : Nat} {b : β}, bs[i]? = some b → ∃ a, as[i]? = some a ∧ R a b
 | [], [], _, i, b, h => by simp at h
 | a :: as, b' :: bs, ⟨h1, h2⟩, 0, b, h => by simp at h; subst h; exact ⟨a, rfl, h1⟩
 | a :: as, b' :: bs, ⟨h1, h2⟩, i + 1, b, h => by
  simp at h
  obtain ⟨x, hx, hr⟩ := All2.get h2 h
  exact ⟨x, by simpa using hx, hr⟩
theorem All2.append {α β : Type} {R : α → β → Prop} : ∀ {as : List α} {bs : List β} {as' : List α} {bs' : List β}, All2 R as bs → All2 R as' bs' → All2 R (as ++ as') (bs ++ bs')
 | [], [], _, _, _, h => h
 | _ :: _, _ :: _, _, _, ⟨h1, h2⟩, h => ⟨h1, All2.append h2 h⟩
theorem All2.drop {α β : Type} {R : α → β → Prop} : ∀ (n : Nat) {as : List α} {bs : List β}, All2 R as bs → All2 R (as.drop n) (bs.drop n)
 | 0, _, _, h => by simpa using h
 | _ + 1, [], [], _ => by simp [All2]
 | n + 1, _ :: _, _ :: _, ⟨_, h2⟩ => by simpa using All2.drop n h2
theorem All2.take {α β : Type} {R : α → β → Prop} : ∀ (n : Nat) {as : List α} {bs : List β}, All2 R as bs → All2 R (as.take n) (bs.take n)
 | 0, _, _, _ => by simp [All2]
 | _ + 1, [], [], _ => by simp [All2]
 | n + 1, _ :: _, _ :: _, ⟨h1, h2⟩ => by simpa [All2] using ⟨h1, All2.take n h2⟩
theorem All2.of_get {α β : Type} {R : α → β → Prop} : ∀ {as : List α} {bs : List β}, as.length = bs.length → (∀ (i : Nat) a b, as[i]? = some a → bs[i]? = some b → R a b) → All2 R as bs
 | [], [], _, _ => trivial
 | a :: as, b :: bs, h, hr => ⟨hr 0 a b rfl rfl, All2.of_get (by simpa using h) fun i x y hx hy => hr (i + 1) x y (by simpa using hx) (by simpa using hy)⟩
 | [], _ :: _, h, _ => by simp at h
 | _ :: _, [], h, _ => by simp at h
inductive DRel (F : Nat → Prop) (w : World) : Value → D → Prop
 | int (k : IntKind) (n : Int) : DRel F w (.int k n) (.int k n)
 | bool (b : Bool) : DRel F w (.bool b) (.bool b)
 | str (s : ByteArray) : DRel F w (.string s) (.str s)
 | nilS (s : Nat) : DRel F w (.slice none 0 0) (.slice s [])
 | emptyS (a : Addr) (cap s : Nat) (hmax : cap ≤ maxLen) : DRel F w (.slice (some a) 0 cap) (.slice s [])
 | slice (b off cap s : Nat) (es : List (List D)) (vs : Nat → Nat → Value) (hF : es ≠ [] → F b) (hcap : es.length ≤ cap) (hmax : cap ≤ maxLen) (hlen : ∀ e ∈ es, e.length = s)
   (hc : ∀ (i : Nat) e (j : Nat) x, es[i]? = some e → e[j]? = some x → w.cell? ⟨b, off + i * s + j, none⟩ = some (vs i j))
   (hd : ∀ (i : Nat) e (j : Nat) x, es[i]? = some e → e[j]? = some x → DRel F w (vs i j) x) : DRel F w (.slice (some ⟨b, off, none⟩) es.length cap) (.slice s es)
 | nilptr : DRel F w (.pointer none) .nilptr
 | ptr (b o off : Nat) (cs : List D) (vs : Nat → Value) (hF : F b)
   (hc : ∀ (j : Nat) x, cs[j]? = some x → w.cell? ⟨b, o + j, none⟩ = some (vs j))
   (hd : ∀ (j : Nat) x, cs[j]? = some x → DRel F w (vs j) x) : DRel F w (.pointer (some ⟨b, o + off, none⟩)) (.ptr cs off)
 | clos (f : FuncId) (caps : List D) (vs : List Value) (hl : vs.length = caps.length)
   (hd : ∀ (j : Nat) x v, caps[j]? = some x → vs[j]? = some v → DRel F w v x) : DRel F w (.func (.func f) #[] vs.toArray) (.clos f caps)
theorem DRel.mono {F F' : Nat → Prop} {w w' : World} (hF : ∀ b, F b → F' b) (hw : ∀ b, F b → w'.heap[b]? = w.heap[b]?) {v : Value} {x : D} (h : DRel F w v x) : DRel F' w' v x := by
 induction h with
 | int k n => exact .int k n
 | bool b => exact .bool b
 | str s => exact .str s
 | nilS s => exact .nilS s
 | emptyS a cap s hmax => exact .emptyS a cap s hmax
 | slice b off cap s es vs hFb hcap hmax hlen hc hd ih =>
  refine .slice b off cap s es vs (fun h => hF _ (hFb h)) hcap hmax hlen (fun i e j x he hx => ?_) ih
  have hne : es ≠ [] := by intro h0; subst h0; simp at he
  exact (World.cell?_of_block (w := w) (hw b (hFb hne))).trans (hc i e j x he hx)
 | nilptr => exact .nilptr
 | ptr b o off cs vs hFb hc hd ih =>
  exact .ptr b o off cs vs (hF _ hFb) (fun j x hx => (World.cell?_of_block (w := w) (hw b hFb)).trans (hc j x hx)) ih
 | clos f caps vs hl hd ih => exact .clos f caps vs hl ih
abbrev Map := Nat → Option (Nat × Nat)
abbrev Heap := List (Nat × Ob)
def CRel (ρ : Map) (F : Nat → Prop) (w : World) (H : Heap) (v : Value) : C → Prop
 | .d x => DRel F w v x
 | .nil _ => v = .slice none 0 0
 | .own id s => ∃ T es, look H id = some (.row T s es) ∧ ((v = .slice none 0 0 ∧ es = []) ∨
   ∃ b N cap, ρ id = some (b, N) ∧ v = .slice (some ⟨b, 0, none⟩) es.length cap ∧ es.length ≤ cap ∧ cap ≤ maxLen ∧ cap * s = N)
 | .sub id s st n => ∃ T es, look H id = some (.row T s es) ∧ st + n ≤ es.length ∧ ((v = .slice none 0 0 ∧ n = 0) ∨ (st ≠ 0 ∧ n = 0 ∧ ∃ b o, v = .slice (some ⟨b, o, none⟩) 0 0) ∨
   ∃ b N cap, ρ id = some (b, N) ∧ v = .slice (some ⟨b, st * s, none⟩) n cap ∧ n ≤ cap ∧ cap ≤ maxLen ∧ (st + cap) * s = N)
 | .ref id i s off => ∃ b N, ρ id = some (b, N) ∧ v = .pointer (some ⟨b, i * s + off, none⟩)
 | .vrow id s n => ∃ b N, ρ id = some (b, N) ∧ v = .slice (some ⟨b, 0, none⟩) n n ∧ n * s = N ∧ n ≤ maxLen
 | .junk => True
def SVRel (ρ : Map) (F : Nat → Prop) (w : World) (H : Heap) (v : Value) : SV → Prop
 | .c x => CRel ρ F w H v x
 | .agg cs => ∃ vs : List Value, v = .agg vs.toArray ∧ All2 (CRel ρ F w H) vs cs
 | .fn f cs => ∃ vs : List Value, v = .func (.func f) #[] vs.toArray ∧ All2 (CRel ρ F w H) vs cs
def ARel (ρ : Map) (F : Nat → Prop) (w : World) (H : Heap) (v : Value) : AV → Prop
 | .s x => SVRel ρ F w H v x
 | .tup xs => ∃ vs : List Value, v = .tuple vs.toArray ∧ All2 (SVRel ρ F w H) vs xs
def ORel (ρ : Map) (F : Nat → Prop) (w : World) (H : Heap) (b N : Nat) : Ob → Prop
 | .var cs => ∃ (c : List Value) (T : TypeId), w.heap[b]? = some (.cells c.toArray T (0, 0)) ∧ c.length = N ∧ All2 (CRel ρ F w H) c cs
 | .row T s es => ∃ (c : List Value), w.heap[b]? = some (.cells c.toArray T (0, 0)) ∧ c.length = N ∧ es.length * s ≤ N ∧ (∀ e ∈ es, e.length = s) ∧
   ∀ (i : Nat) e (j : Nat) x, es[i]? = some e → e[j]? = some x → ∃ v, c[i * s + j]? = some v ∧ DRel F w v x
def HRel (ρ : Map) (F : Nat → Prop) (w : World) (H : Heap) : Prop :=
 ∀ id b N, ρ id = some (b, N) → ∀ o, look H id = some o → ORel ρ F w H b N o
def Glob (F : Nat → Prop) (w : World) : Prop := gOn = true → F gMax ∧ ∃ m, w.cell? ⟨gMax, 0, none⟩ = some (.int .i64 m)
theorem Glob.mono {F F' : Nat → Prop} {w w' : World} (h : Glob F w) (hF : ∀ b, F b → F' b) (hw : ∀ b, F b → w'.heap[b]? = w.heap[b]?) : Glob F' w' := fun ho => by
 obtain ⟨h1, m, h2⟩ := h ho
 exact ⟨hF _ h1, m, (World.cell?_of_block (w := w) (hw _ h1)).trans h2⟩
structure WOk (S : Nat → Prop) (ρ : Map) (F : Nat → Prop) (w : World) : Prop where
 glob : Glob F w
 keep : ∀ b, S b → b < w.heap.size
 comm : ∀ b, F b → b < w.heap.size
 own : ∀ id b N, ρ id = some (b, N) → b < w.heap.size ∧ ¬ S b ∧ ¬ F b
 inj : ∀ i j b N M, ρ i = some (b, N) → ρ j = some (b, M) → i = j
structure Keep (S : Nat → Prop) (w w' : World) : Prop where
 os : w'.os = w.os
 tape : w'.tape = w.tape
 output : w'.output = w.output
 size : w.heap.size ≤ w'.heap.size
 block : ∀ b, S b → w'.heap[b]? = w.heap[b]?
theorem Keep.refl (S : Nat → Prop) (w : World) : Keep S w w := ⟨rfl, rfl, rfl, Nat.le_refl _, fun _ _ => rfl⟩
theorem Keep.trans {S : Nat → Prop} {a b c : World} (h : Keep S a b) (k : Keep S b c) : Keep S a c :=
 ⟨k.os.trans h.os, k.tape.trans h.tape, k.output.trans h.output, Nat.le_trans h.size k.size, fun i hi => (k.block i hi).trans (h.block i hi)⟩
theorem Keep.of_below {S : Nat → Prop} {w w' : World} (h : Below w.heap.size w w') (hS : ∀ b, S b → b < w.heap.size) : Keep S w w' :=
 ⟨h.os, h.tape, h.output, h.size, fun b hb => h.block b (hS b hb)⟩
structure Grow (S : Nat → Prop) (ρ : Map) (F : Nat → Prop) (w : World) (ρ' : Map) (F' : Nat → Prop) (w' : World) (ids : Nat → Prop) : Prop where
 below : Below w.heap.size w w'
 ok : WOk S ρ' F' w'
 map : ∀ id p, ρ id = some p → ρ' id = some p
 fresh : ∀ id p, ρ' id = some p → ρ id = some p ∨ ids id
 set : ∀ b, F b → F' b
 new : ∀ b, F' b → F b ∨ w.heap.size ≤ b
def Sub (H H' : Heap) : Prop := ∀ id o, look H id = some o → look H' id = some o
theorem Sub.refl (H : Heap) : Sub H H := fun _ _ h => h
theorem Sub.trans {A B C : Heap} (h : Sub A B) (k : Sub B C) : Sub A C := fun id o x => k id o (h id o x)
section mono
variable {ρ ρ' : Map} {F F' : Nat → Prop} {w w' : World} {H H' : Heap}
theorem CRel.mono (hρ : ∀ id p, ρ id = some p → ρ' id = some p) (hF : ∀ b, F b → F' b) (hw : ∀ b, F b → w'.heap[b]? = w.heap[b]?) (hH : Sub H H') {v : Value} {c : C}
  (h : CRel ρ F w H v c) : CRel ρ' F' w' H' v c := by
 cases c with
 | d x => exact DRel.mono hF hw h
 | nil s => exact h
 | own id s =>
  obtain ⟨T, es, he, h⟩ := h
  refine ⟨T, es, hH _ _ he, ?_⟩
  rcases h with h | ⟨b, N, cap, hb, r⟩
  ·exact .inl h
  ·exact .inr ⟨b, N, cap, hρ _ _ hb, r⟩
 | sub id s st n =>
  obtain ⟨T, es, he, hl, h⟩ := h
  refine ⟨T, es, hH _ _ he, hl, ?_⟩
  rcases h with h | h | ⟨b, N, cap, hb, r⟩
  ·exact .inl h
  ·exact .inr (.inl h)
  ·exact .inr (.inr ⟨b, N, cap, hρ _ _ hb, r⟩)
 | ref id i s off => obtain ⟨b, N, hb, r⟩ := h; exact ⟨b, N, hρ _ _ hb, r⟩
 | vrow id s n => obtain ⟨b, N, hb, r⟩ := h; exact ⟨b, N, hρ _ _ hb, r⟩
 | junk => trivial
theorem SVRel.mono (hρ : ∀ id p, ρ id = some p → ρ' id = some p) (hF : ∀ b, F b → F' b) (hw : ∀ b, F b → w'.heap[b]? = w.heap[b]?) (hH : Sub H H') {v : Value} {x : SV}
  (h : SVRel ρ F w H v x) : SVRel ρ' F' w' H' v x := by
 cases x with
 | c x => exact CRel.mono hρ hF hw hH h
 | agg cs => obtain ⟨vs, hv, h⟩ := h; exact ⟨vs, hv, All2.mono (fun _ _ => CRel.mono hρ hF hw hH) h⟩
 | fn f cs => obtain ⟨vs, hv, h⟩ := h; exact ⟨vs, hv, All2.mono (fun _ _ => CRel.mono hρ hF hw hH) h⟩
theorem ARel.mono (hρ : ∀ id p, ρ id = some p → ρ' id = some p) (hF : ∀ b, F b → F' b) (hw : ∀ b, F b → w'.heap[b]? = w.heap[b]?) (hH : Sub H H') {v : Value} {x : AV}
  (h : ARel ρ F w H v x) : ARel ρ' F' w' H' v x := by
 cases x with
 | s x => exact SVRel.mono hρ hF hw hH h
 | tup xs => obtain ⟨vs, hv, h⟩ := h; exact ⟨vs, hv, All2.mono (fun _ _ => SVRel.mono hρ hF hw hH) h⟩
theorem ORel.mono (hρ : ∀ id p, ρ id = some p → ρ' id = some p) (hF : ∀ b, F b → F' b) (hw : ∀ b, F b → w'.heap[b]? = w.heap[b]?) (hH : Sub H H') {b N : Nat} {o : Ob}
  (hb : w'.heap[b]? = w.heap[b]?) (h : ORel ρ F w H b N o) : ORel ρ' F' w' H' b N o := by
 cases o with
 | var cs => obtain ⟨c, T, hc, hn, h⟩ := h; exact ⟨c, T, hb.trans hc, hn, All2.mono (fun _ _ => CRel.mono hρ hF hw hH) h⟩
 | row T s es =>
  obtain ⟨c, hc, hn, hl, hs, h⟩ := h
  refine ⟨c, hb.trans hc, hn, hl, hs, fun i e j x he hx => ?_⟩
  obtain ⟨v, hv, hd⟩ := h i e j x he hx
  exact ⟨v, hv, DRel.mono hF hw hd⟩
end mono
section grow
variable {S : Nat → Prop} {ρ ρ' : Map} {F F' : Nat → Prop} {w w' : World} {ids : Nat → Prop} {H H' : Heap}
theorem Grow.heap (g : Grow S ρ F w ρ' F' w' ids) (ok : WOk S ρ F w) : ∀ b, F b → w'.heap[b]? = w.heap[b]? := fun b hb => g.below.block b (ok.comm b hb)
theorem Grow.arel (g : Grow S ρ F w ρ' F' w' ids) (ok : WOk S ρ F w) (hH : Sub H H') {v : Value} {x : AV} (h : ARel ρ F w H v x) : ARel ρ' F' w' H' v x :=
 ARel.mono g.map g.set (g.heap ok) hH h
theorem Grow.orel (g : Grow S ρ F w ρ' F' w' ids) (ok : WOk S ρ F w) (hH : Sub H H') {id b N : Nat} {o : Ob} (hid : ρ id = some (b, N)) (h : ORel ρ F w H b N o) : ORel ρ' F' w' H' b N o :=
 ORel.mono g.map g.set (g.heap ok) hH (g.below.block b (ok.own id b N hid).1) h
theorem Grow.refl (ok : WOk S ρ F w) : Grow S ρ F w ρ F w ids := ⟨Below.refl _ _, ok, fun _ _ h => h, fun _ _ h => .inl h, fun _ h => h, fun _ h => .inl h⟩
theorem Grow.trans {ρ'' : Map} {F'' : Nat → Prop} {w'' : World} {ids' : Nat → Prop} (g : Grow S ρ F w ρ' F' w' ids) (k : Grow S ρ' F' w' ρ'' F'' w'' ids') :
  Grow S ρ F w ρ'' F'' w'' (fun i => ids i ∨ ids' i) :=
 ⟨g.below.trans (k.below.mono g.below.size), k.ok, fun id p h => k.map _ _ (g.map _ _ h),
  fun id p h => (k.fresh id p h).elim (fun h => (g.fresh id p h).elim .inl (fun h => .inr (.inl h))) (fun h => .inr (.inr h)),
  fun b h => k.set b (g.set b h), fun b h => (k.new b h).elim (fun h => g.new b h) (fun h => .inr (Nat.le_trans g.below.size h))⟩
theorem WOk.drew (ok : WOk S ρ F w) : WOk S ρ F { w with drawn := w.drawn + 1 } := ⟨ok.glob.mono (fun _ h => h) (fun _ _ => rfl), ok.keep, ok.comm, ok.own, ok.inj⟩
end grow
theorem below_alloc (w : World) (o : Obj) : Below w.heap.size w (w.alloc o) := (Below.refl _ _).alloc (Nat.le_refl _) o
theorem Grow.own {S : Nat → Prop} {ρ : Map} {F : Nat → Prop} {w : World} (ok : WOk S ρ F w) (o : Obj) {id N : Nat} (hid : ρ id = none) :
  Grow S ρ F w (fun i => if i = id then some (w.heap.size, N) else ρ i) F (w.alloc o) (fun i => i = id) := by
 have hsz : (w.alloc o).heap.size = w.heap.size + 1 := by simp [World.size_alloc]
 refine ⟨below_alloc w o, ⟨ok.glob.mono (fun _ h => h) (fun b hb => (below_alloc w o).block b (ok.comm b hb)), fun b hb => ?_, fun b hb => ?_, fun i b M h => ?_, fun i j b M M' hi hj => ?_⟩, fun i p h => ?_, fun i p h => ?_, fun _ h => h, fun _ h => .inl h⟩
 ·have := ok.keep b hb; omega
 ·have := ok.comm b hb; omega
 ·split at h
  ·simp only [Option.some.injEq, Prod.mk.injEq] at h
   obtain ⟨rfl, _⟩ := h
   exact ⟨by omega, fun h => by have := ok.keep _ h; omega, fun h => by have := ok.comm _ h; omega⟩
  ·obtain ⟨h1, h2, h3⟩ := ok.own i b M h
   exact ⟨by omega, h2, h3⟩
 ·split at hi <;> split at hj
  ·simp_all
  ·simp only [Option.some.injEq, Prod.mk.injEq] at hi; obtain ⟨rfl, _⟩ := hi; have := (ok.own j _ _ hj).1; omega
  ·simp only [Option.some.injEq, Prod.mk.injEq] at hj; obtain ⟨rfl, _⟩ := hj; have := (ok.own i _ _ hi).1; omega
  ·exact ok.inj i j b M M' hi hj
 ·split
  ·subst_vars; rw [hid] at h; cases h
  ·exact h
 ·split at h
  ·right; assumption
  ·left; exact h
end Go.Ab
