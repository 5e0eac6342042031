/- The abstract machine: one state weakened to another, cell by cell. -/
import Derived.Test.YtffnbobdkpebgaaGreatAbFn
import Derived.IntWalk
set_option linter.unusedVariables false
namespace Go.Ab
open Go.RowKit
def leC (h : Heap) : C → C → Prop
 | a, .junk => True
 | .d x, .d y => x = y
 | .nil s, .nil s' => s = s'
 | .nil s, .d (.slice s' es) => s = s' ∧ es = []
 | .nil s, .own id s' => match look h id with
  | some (.row T s1 es) => s = s' ∧ s1 = s' ∧ es = []
  | _ => False
 | .own id s, .own id' s' => id = id' ∧ s = s'
 | .own id s, .sub id' s' st' n' => match look h id with
  | some (.row T s1 es) => (id = id' ∧ s = s') ∧ st' = 0 ∧ n' = es.length
  | _ => False
 | .sub id s st n, .sub id' s' st' n' => (id = id' ∧ s = s') ∧ st = st' ∧ n = n'
 | .ref id i s off, .ref id' i' s' off' => (id = id' ∧ i = i') ∧ s = s' ∧ off = off'
 | .vrow id s n, .vrow id' s' n' => id = id' ∧ s = s' ∧ n = n'
 | _, _ => False
def leCs (h : Heap) : List C → List C → Prop
 | [], [] => True
 | [a], [b] => leC h a b
 | a :: as, b :: bs => leC h a b ∧ leCs h as bs
 | _, _ => False
def leSV (h : Heap) : SV → SV → Prop
 | a, .c .junk => True
 | .c a, .c b => leC h a b
 | .agg as, .agg bs => leCs h as bs
 | .fn f as, .fn g bs => f = g ∧ leCs h as bs
 | _, _ => False
def leSVs (h : Heap) : List SV → List SV → Prop
 | [], [] => True
 | a :: as, b :: bs => leSV h a b ∧ leSVs h as bs
 | _, _ => False
def leAV (h : Heap) : AV → AV → Prop
 | a, .s (.c .junk) => True
 | .s a, .s b => leSV h a b
 | .tup as, .tup bs => leSVs h as bs
 | _, _ => False
def leOb (h : Heap) : Ob → Ob → Prop
 | .var cs, .var cs' => leCs h cs cs'
 | .row T s es, .row T' s' es' => (T = T' ∧ s = s') ∧ es = es'
 | _, _ => False
def subT (h : Heap) (σ : St) : List (Nat × AV) → Prop
 | [] => True
 | [(k, v)] => leAV h (σ.get k) v
 | (k, v) :: r => leAV h (σ.get k) v ∧ subT h σ r
def subH (h : Heap) (H : Heap) : Heap → Prop
 | [] => True
 | (id, ob) :: r => (match look H id with
  | some ob' => leOb h ob' ob
  | none => match Nat.blt id 7000000, ob with
   | true, .row T s es => es = []
   | _, _ => False) ∧ subH h H r
def hasK : Heap → Nat → Bool
 | [], _ => false
 | (k, _) :: r, i => Nat.beq k i || hasK r i
def outP (h : Heap) : Nat → Bool := fun id => !(hasK h id)
theorem hasK_look : ∀ {h : Heap} {k : Nat}, hasK h k = true → ∃ o, look h k = some o
 | [], k, hh => by simp [hasK] at hh
 | (j, o) :: r, k, hh => by
  simp only [hasK, Bool.or_eq_true] at hh
  simp only [look]
  cases hb : Nat.beq j k with
  | true => exact ⟨o, rfl⟩
  | false => rw [hb] at hh; simp only [Bool.false_eq_true, false_or] at hh; exact hasK_look hh
theorem hasK_none : ∀ {h : Heap} {k : Nat}, hasK h k = false → look h k = none
 | [], k, hh => rfl
 | (j, o) :: r, k, hh => by
  simp only [hasK, Bool.or_eq_false_iff] at hh
  simp only [look, hh.1, cond_false]
  exact hasK_none hh.2
theorem subH_mem {h H : Heap} : ∀ {l : Heap}, subH h H l → ∀ {id : Nat} {ob : Ob}, (id, ob) ∈ l → (∃ ob', look H id = some ob' ∧ leOb h ob' ob) ∨ (look H id = none ∧ id < 7000000 ∧ ∃ T s, ob = .row T s [])
 | [], _, id, ob, hm => by simp at hm
 | (j, o) :: r, hs, id, ob, hm => by
  simp only [subH] at hs
  rcases List.mem_cons.1 hm with e | e
  ·cases e
   have h1 := hs.1
   split at h1
   ·rename_i ob' hl; exact .inl ⟨ob', hl, h1⟩
   ·rename_i hl
    split at h1
    ·rename_i T s es hb; subst h1; exact .inr ⟨hl, by simpa [Nat.blt_eq] using hb, T, s, rfl⟩
    ·exact h1.elim
  ·exact subH_mem hs.2 e
section le
variable {ρ : Map} {F : Nat → Prop} {w : World} {H h : Heap}
def RowSub (H h : Heap) : Prop := ∀ id T s es, look H id = some (.row T s es) → look h id = some (.row T s es)
theorem CRel.le (hr : RowSub H h) {v : Value} {c c' : C} (hc : CRel ρ F w H v c) (hl : leC h c c') : CRel ρ F w h v c' := by
 unfold leC at hl
 split at hl
 ·trivial
 ·subst hl; exact hc
 ·subst hl; exact hc
 ·obtain ⟨rfl, rfl⟩ := hl
  have : v = .slice none 0 0 := hc
  subst this
  exact .nilS _
 ·split at hl
  ·rename_i T s1 es hlk
   obtain ⟨rfl, rfl, rfl⟩ := hl
   exact ⟨T, [], hlk, .inl ⟨hc, rfl⟩⟩
  ·exact hl.elim
 ·obtain ⟨rfl, rfl⟩ := hl
  obtain ⟨T, es, hlk, h⟩ := hc
  exact ⟨T, es, hr _ _ _ _ hlk, h⟩
 ·obtain ⟨T, es, hlk, h⟩ := hc
  rw [hr _ _ _ _ hlk] at hl
  obtain ⟨⟨rfl, rfl⟩, rfl, rfl⟩ := hl
  refine ⟨T, es, hr _ _ _ _ hlk, by omega, ?_⟩
  rcases h with ⟨rfl, rfl⟩ | ⟨b, N, cap, h1, h2, h3, h4, h5⟩
  ·exact .inl ⟨rfl, rfl⟩
  ·exact .inr (.inr ⟨b, N, cap, h1, by rw [h2, Nat.zero_mul], h3, h4, by rw [Nat.zero_add]; exact h5⟩)
 ·obtain ⟨⟨rfl, rfl⟩, rfl, rfl⟩ := hl
  obtain ⟨T, es, hlk, h⟩ := hc
  exact ⟨T, es, hr _ _ _ _ hlk, h⟩
 ·obtain ⟨⟨rfl, rfl⟩, rfl, rfl⟩ := hl
  exact hc
 ·obtain ⟨rfl, rfl, rfl⟩ := hl
  exact hc
 ·exact hl.elim
theorem leCs_rel (hr : RowSub H h) : ∀ {vs : List Value} {cs cs' : List C}, All2 (CRel ρ F w H) vs cs → leCs h cs cs' → All2 (CRel ρ F w h) vs cs'
 | [], [], [], _, _ => trivial
 | [], [], _ :: _, _, hl => by cases hl
 | v :: vs, [a], [b], hc, hl => ⟨hc.1.le hr hl, by cases vs with | nil => trivial | cons => exact hc.2.elim⟩
 | v :: vs, a :: a2 :: as, b :: b2 :: bs, hc, hl => ⟨hc.1.le hr hl.1, leCs_rel hr hc.2 hl.2⟩
 | v :: vs, a :: as, [], hc, hl => by cases as <;> cases hl
 | v :: vs, [a], b :: b2 :: bs, hc, hl => by exact hl.2.elim
 | v :: vs, a :: a2 :: as, [b], hc, hl => by cases as <;> exact hl.2.elim
theorem SVRel.le (hr : RowSub H h) {v : Value} {c c' : SV} (hc : SVRel ρ F w H v c) (hl : leSV h c c') : SVRel ρ F w h v c' := by
 unfold leSV at hl
 split at hl
 ·trivial
 ·exact CRel.le hr hc hl
 ·obtain ⟨vs, hv, hc⟩ := hc
  exact ⟨vs, hv, leCs_rel hr hc hl⟩
 ·obtain ⟨rfl, hl⟩ := hl
  obtain ⟨vs, hv, hc⟩ := hc
  exact ⟨vs, hv, leCs_rel hr hc hl⟩
 ·exact hl.elim
theorem leSVs_rel (hr : RowSub H h) : ∀ {vs : List Value} {cs cs' : List SV}, All2 (SVRel ρ F w H) vs cs → leSVs h cs cs' → All2 (SVRel ρ F w h) vs cs'
 | [], [], [], _, _ => trivial
 | [], [], _ :: _, _, hl => by cases hl
 | v :: vs, a :: as, b :: bs, hc, hl => ⟨hc.1.le hr hl.1, leSVs_rel hr hc.2 hl.2⟩
 | v :: vs, a :: as, [], hc, hl => by cases hl
theorem ARel.le (hr : RowSub H h) {v : Value} {c c' : AV} (hc : ARel ρ F w H v c) (hl : leAV h c c') : ARel ρ F w h v c' := by
 unfold leAV at hl
 split at hl
 ·trivial
 ·exact SVRel.le hr hc hl
 ·obtain ⟨vs, hv, hc⟩ := hc
  exact ⟨vs, hv, leSVs_rel hr hc hl⟩
 ·exact hl.elim
theorem ORel.le (hr : RowSub H h) {b N : Nat} {o o' : Ob} (ho : ORel ρ F w H b N o) (hl : leOb h o o') : ORel ρ F w h b N o' := by
 unfold leOb at hl
 split at hl
 ·obtain ⟨c, T, hc, hn, ho⟩ := ho
  exact ⟨c, T, hc, hn, leCs_rel hr ho hl⟩
 ·obtain ⟨⟨rfl, rfl⟩, rfl⟩ := hl
  exact ho
 ·exact hl.elim
end le
theorem subT_get {h : Heap} {σ : St} : ∀ {l : List (Nat × AV)}, subT h σ l → ∀ {k : Nat} {v : AV}, look l k = some v → leAV h (σ.get k) v
 | [], _, k, v, hl => by simp [look] at hl
 | [(j, x)], hs, k, v, hl => by
  simp only [look] at hl
  cases hb : Nat.beq j k with
  | true =>
   rw [hb] at hl
   have := Nat.eq_of_beq_eq_true hb
   subst this
   simp only [cond_true, Option.some.injEq] at hl
   subst hl
   exact hs
  | false => rw [hb] at hl; simp at hl
 | (j, x) :: y :: r, hs, k, v, hl => by
  rw [look] at hl
  cases hb : Nat.beq j k with
  | true =>
   rw [hb] at hl
   have := Nat.eq_of_beq_eq_true hb
   subst this
   simp only [cond_true, Option.some.injEq] at hl
   subst hl
   exact hs.1
  | false => rw [hb] at hl; exact subT_get hs.2 hl
theorem Le.sub {σ : St} {n : Nat} {t : List (Nat × AV)} {h : Heap} (hn : n = σ.n) (ht : subT h (σ.kill (outP h)) t) (hh : subH h (σ.kill (outP h)).h h) : Le σ ⟨n, t, h⟩ := by
 refine Le.trans (Le.kill (outP h) σ) ?_
 rintro V F0 w0 a w ⟨⟨ρ, F, hs, h1, h2⟩, hk⟩
 have hdom : ∀ id, look (σ.kill (outP h)).h id ≠ none → hasK h id = true := by
  intro id hne
  cases hp : hasK h id with
  | true => rfl
  | false => exact absurd (look_killH_none (h := σ.h) (p := outP h) (k := id) (by simp [outP, hp])) hne
 have hr : RowSub (σ.kill (outP h)).h h := by
  intro id T s es hl
  obtain ⟨ob, ho⟩ := hasK_look (hdom id (by rw [hl]; simp))
  rcases subH_mem hh (look_mem ho) with ⟨ob', hl', hle⟩ | ⟨hl', _⟩
  ·rw [hl] at hl'
   cases hl'
   unfold leOb at hle
   split at hle
   ·rename_i heq; cases heq
   ·rename_i heq
    cases heq
    obtain ⟨⟨rfl, rfl⟩, rfl⟩ := hle
    exact ho
   ·exact hle.elim
  ·rw [hl] at hl'; cases hl'
 refine ⟨⟨ρ, F, ⟨hs.ok, by rw [hn]; exact hs.size, fun k => ?_, fun id b N hid ob hl => ?_, fun id x hid => ?_, hs.defers⟩, ⟨h1.1, h1.2.1, fun id p hp ⟨o, ho⟩ => h1.2.2 id p hp ?_⟩, h2⟩, hk⟩
 rotate_right
 ·rcases subH_mem hh (look_mem ho) with ⟨ob', hl', _⟩ | ⟨_, hlt, _⟩
  ·exact ⟨ob', hl'⟩
  ·have := F0.num id p hp; omega
 ·simp only [St.get]
  cases hl : look t k with
  | none => trivial
  | some v => exact ARel.le hr (hs.tmp k) (subT_get ht hl)
 ·obtain ⟨ob0, h0⟩ := hs.dom id _ hid
  rcases subH_mem hh (look_mem hl) with ⟨ob', hl', hle⟩ | ⟨hl', _⟩
  ·exact ORel.le hr (hs.obj id b N hid ob' hl') hle
  ·rw [h0] at hl'; cases hl'
 ·obtain ⟨ob0, h0⟩ := hs.dom id x hid
  exact hasK_look (hdom id (by rw [h0]; simp))
theorem inc64 {i n : Nat} (h : i < n) (hn : n ≤ 9223372036854775807) : D.int .i64 (IntKind.i64.wrap ((i : Int) + 1)) = D.int .i64 ((i + 1 : Nat) : Int) := by
 rw [IntWalk.i64_in _ (by omega)]; simp
theorem take_succ_eq {α : Type} {xs ys : List α} {i : Nat} (hx : i < xs.length) (hy : i < ys.length) (h : xs.take i = ys.take i) (he : xs[i] = ys[i]) : xs.take (i + 1) = ys.take (i + 1) := by
 rw [List.take_succ_eq_append_getElem hx, List.take_succ_eq_append_getElem hy, h, he]
end Go.Ab
