/- The abstract machine: rows of its own that become data; names that are exchanged. -/
import Derived.Test.YtffnbobdkpebgaaGreatAbReg2
set_option linter.unusedVariables false
namespace Go.Ab
open Go.RowKit
def chunk (s : Nat) : Nat → List D → List (List D)
 | 0, _ => []
 | n + 1, ds => ds.take s :: chunk s n (ds.drop s)
theorem chunk_len (s : Nat) : ∀ (n : Nat) (ds : List D), (chunk s n ds).length = n
 | 0, _ => rfl
 | n + 1, ds => by simp [chunk, chunk_len s n]
theorem chunk_get {s : Nat} : ∀ {n : Nat} {ds : List D} {i : Nat} {e : List D} {j : Nat} {x : D}, (chunk s n ds)[i]? = some e → e[j]? = some x → ds[i * s + j]? = some x
 | 0, _, _, _, _, _, h, _ => by simp [chunk] at h
 | n + 1, ds, 0, e, j, x, h, hx => by
  simp only [chunk, List.getElem?_cons_zero, Option.some.injEq] at h
  subst h
  rw [List.getElem?_take] at hx
  split at hx
  ·rw [Nat.zero_mul, Nat.zero_add]; exact hx
  ·cases hx
 | n + 1, ds, i + 1, e, j, x, h, hx => by
  simp only [chunk, List.getElem?_cons_succ] at h
  have := chunk_get h hx
  rw [List.getElem?_drop] at this
  rw [Nat.succ_mul, ← this]
  congr 1
  omega
theorem chunk_size {s : Nat} : ∀ {n : Nat} {ds : List D}, ds.length = n * s → ∀ e ∈ chunk s n ds, e.length = s
 | 0, _, _, e, h => by simp [chunk] at h
 | n + 1, ds, hl, e, h => by
  rw [Nat.succ_mul] at hl
  simp only [chunk, List.mem_cons] at h
  rcases h with rfl | h
  ·rw [List.length_take]; omega
  ·exact chunk_size (by rw [List.length_drop]; omega) e h
def C.commit (p : Nat → Bool) (h : Heap) : C → C
 | .own id s => bif p id then (match lend h (.own id s) with | some x => .d x | none => .junk) else .own id s
 | .sub id s st n => bif p id then (match lend h (.sub id s st n) with | some x => .d x | none => .junk) else .sub id s st n
 | .ref id i s off => bif p id then (match look h id with
   | some (.var cs) => (match i with
    | 0 => (match allD cs with | some ds => .d (.ptr ds off) | none => .junk)
    | _ => .junk)
   | _ => .junk) else .ref id i s off
 | .vrow id s n => bif p id then (match look h id with
   | some (.var cs) => match allD cs with | some ds => .d (.slice s (chunk s n ds)) | none => .junk
   | _ => .junk) else .vrow id s n
 | c => c
def SV.commit (p : Nat → Bool) (h : Heap) : SV → SV
 | .c x => .c (x.commit p h)
 | .agg cs => .agg (cs.map (C.commit p h))
 | .fn f cs => .fn f (cs.map (C.commit p h))
def AV.commit (p : Nat → Bool) (h : Heap) : AV → AV
 | .s v => .s (v.commit p h)
 | .tup vs => .tup (vs.map (SV.commit p h))
def Ob.commit (p : Nat → Bool) (h : Heap) : Ob → Ob
 | .var cs => .var (cs.map (C.commit p h))
 | .row T s es => .row T s es
def commitH (p : Nat → Bool) (h : Heap) : Heap → Heap
 | [] => []
 | (k, o) :: r => bif p k then commitH p h r else (k, o.commit p h) :: commitH p h r
def commitT (p : Nat → Bool) (h : Heap) : List (Nat × AV) → List (Nat × AV)
 | [] => []
 | (k, v) :: r => (k, v.commit p h) :: commitT p h r
def St.commit (p : Nat → Bool) (σ : St) : St := { σ with t := commitT p σ.h σ.t, h := commitH p σ.h σ.h }
theorem look_commitH {p : Nat → Bool} {h0 : Heap} : ∀ {h : Heap} {k : Nat}, p k = false → look (commitH p h0 h) k = (look h k).map (Ob.commit p h0)
 | [], k, _ => rfl
 | (j, o) :: r, k, hp => by
  unfold commitH
  cases hj : p j with
  | true =>
   have : Nat.beq j k = false := by
    cases hb : Nat.beq j k with
    | false => rfl
    | true => have := Nat.eq_of_beq_eq_true hb; subst this; rw [hj] at hp; cases hp
   simp only [cond_true, look, this, cond_false]
   exact look_commitH hp
  | false =>
   simp only [cond_false, look]
   cases Nat.beq j k with
   | true => rfl
   | false => exact look_commitH hp
theorem look_commitH_none {p : Nat → Bool} {h0 : Heap} : ∀ {h : Heap} {k : Nat}, p k = true → look (commitH p h0 h) k = none
 | [], k, _ => rfl
 | (j, o) :: r, k, hp => by
  unfold commitH
  cases hj : p j with
  | true => simp only [cond_true]; exact look_commitH_none hp
  | false =>
   have : Nat.beq j k = false := by
    cases hb : Nat.beq j k with
    | false => rfl
    | true => have := Nat.eq_of_beq_eq_true hb; subst this; rw [hj] at hp; cases hp
   simp only [cond_false, look, this]
   exact look_commitH_none hp
theorem get_commit {p : Nat → Bool} (σ : St) (t : Nat) : (σ.commit p).get t = (σ.get t).commit p σ.h := by
 simp only [St.get, St.commit]
 generalize σ.t = l
 induction l with
 | nil => rfl
 | cons x r ih =>
  obtain ⟨k, v⟩ := x
  simp only [commitT, look]
  cases Nat.beq k t with
  | true => rfl
  | false => exact ih
def comF (p : Nat → Bool) (ρ : Map) (F : Nat → Prop) : Nat → Prop := fun b => F b ∨ ∃ id N, p id = true ∧ ρ id = some (b, N)
section commit
variable {p : Nat → Bool} {ρ : Map} {F : Nat → Prop} {w : World} {H : Heap}
theorem CRel.commit (hh : HRel ρ F w H) {v : Value} {c : C} (h : CRel ρ F w H v c) : CRel (cut p ρ) (comF p ρ F) w (commitH p H H) v (c.commit p H) := by
 have hlend : ∀ {c : C} {x : D} {id : Nat}, lendN H c = [id] → p id = true → CRel ρ F w H v c → lend H c = some x → DRel (comF p ρ F) w v x := by
  intro c x id hn hp hr hl
  refine DRel.mono (fun b hb => ?_) (fun _ _ => rfl) (lend_rel' (Sub.refl H) hh hr hl)
  rcases hb with hb | ⟨j, N, hj, hρ⟩
  ·exact .inl hb
  ·rw [hn] at hj
   simp only [List.mem_singleton] at hj
   subst hj
   exact .inr ⟨j, N, hp, hρ⟩
 cases c with
 | d x => exact DRel.mono (fun _ h => .inl h) (fun _ _ => rfl) h
 | nil s => exact h
 | own id s =>
  simp only [C.commit]
  cases hp : p id with
  | true =>
   simp only [cond_true]
   split
   ·rename_i x hl; exact hlend (c := .own id s) (id := id) rfl hp h hl
   ·trivial
  | false =>
   simp only [cond_false]
   obtain ⟨T, es, he, h⟩ := h
   refine ⟨T, es, by rw [look_commitH hp, he]; rfl, ?_⟩
   rcases h with h | ⟨b, N, cap, hb, r⟩
   ·exact .inl h
   ·exact .inr ⟨b, N, cap, by simp [cut, hp, hb], r⟩
 | sub id s st n =>
  simp only [C.commit]
  cases hp : p id with
  | true =>
   simp only [cond_true]
   split
   ·rename_i x hl; exact hlend (c := .sub id s st n) (id := id) rfl hp h hl
   ·trivial
  | false =>
   simp only [cond_false]
   obtain ⟨T, es, he, hle, h⟩ := h
   refine ⟨T, es, by rw [look_commitH hp, he]; rfl, hle, ?_⟩
   rcases h with h | h | ⟨b, N, cap, hb, r⟩
   ·exact .inl h
   ·exact .inr (.inl h)
   ·exact .inr (.inr ⟨b, N, cap, by simp [cut, hp, hb], r⟩)
 | ref id i s off =>
  simp only [C.commit]
  cases hp : p id with
  | true =>
   simp only [cond_true]
   obtain ⟨b, N, hb, hv⟩ := h
   split
   ·rename_i cs hl
    split
    ·split
     ·rename_i ds hds
      obtain ⟨c, T, hc, hcn, hr⟩ := hh id b N hb _ hl
      have hd := allD_rel hr hds
      subst hv
      have key := DRel.ptr (F := comF p ρ F) (w := w) b 0 off ds (fun j => c.getD j undef) (.inr ⟨id, N, hp, hb⟩) (fun j x hx => ?_) (fun j x hx => ?_)
      ·have key2 : DRel (comF p ρ F) w (.pointer (some ⟨b, 0 * s + off, none⟩)) (.ptr ds off) := by simpa using key
       exact key2
      ·obtain ⟨v, hv1, hv2⟩ := All2.get hd hx
       simp [World.cell?, hc, hv1]
      ·obtain ⟨v, hv1, hv2⟩ := All2.get hd hx
       have e : c.getD j undef = v := by rw [List.getD_eq_getElem?_getD, hv1]; rfl
       rw [e]
       exact DRel.mono (fun _ h => .inl h) (fun _ _ => rfl) hv2
     ·trivial
    ·trivial
   ·trivial
  | false => obtain ⟨b, N, hb, r⟩ := h; exact ⟨b, N, by simp [cut, hp, hb], r⟩
 | vrow id s n =>
  simp only [C.commit]
  cases hp : p id with
  | true =>
   simp only [cond_true]
   obtain ⟨b, N, hb, hv, hnN, hmax⟩ := h
   split
   ·rename_i cs hl
    split
    ·rename_i ds hds
     obtain ⟨c, T, hc, hcn, hr⟩ := hh id b N hb _ hl
     have hd := allD_rel hr hds
     subst hv
     have hlen : ds.length = n * s := by rw [← All2.length hd, hcn, hnN]
     have key := DRel.slice (F := comF p ρ F) (w := w) b 0 n s (chunk s n ds) (fun i j => c.getD (i * s + j) undef) (fun _ => .inr ⟨id, N, hp, hb⟩) (by rw [chunk_len]; exact Nat.le_refl _) hmax (chunk_size hlen) (fun i e j x hi hx => ?_) (fun i e j x hi hx => ?_)
     ·rw [chunk_len] at key; exact key
     ·obtain ⟨v, hv1, hv2⟩ := All2.get hd (chunk_get hi hx)
      simp [World.cell?, hc, hv1]
     ·obtain ⟨v, hv1, hv2⟩ := All2.get hd (chunk_get hi hx)
      have e : c.getD (i * s + j) undef = v := by rw [List.getD_eq_getElem?_getD, hv1]; rfl
      rw [e]
      exact DRel.mono (fun _ h => .inl h) (fun _ _ => rfl) hv2
    ·trivial
   ·trivial
  | false => obtain ⟨b, N, hb, r⟩ := h; exact ⟨b, N, by simp [cut, hp, hb], r⟩
 | junk => trivial
theorem SVRel.commit (hh : HRel ρ F w H) {v : Value} {x : SV} (h : SVRel ρ F w H v x) : SVRel (cut p ρ) (comF p ρ F) w (commitH p H H) v (x.commit p H) := by
 cases x with
 | c x => exact CRel.commit hh h
 | agg cs => obtain ⟨vs, hv, h⟩ := h; exact ⟨vs, hv, all2_map (C.commit p H) (fun _ _ h => CRel.commit hh h) h⟩
 | fn f cs => obtain ⟨vs, hv, h⟩ := h; exact ⟨vs, hv, all2_map (C.commit p H) (fun _ _ h => CRel.commit hh h) h⟩
theorem ARel.commit (hh : HRel ρ F w H) {v : Value} {x : AV} (h : ARel ρ F w H v x) : ARel (cut p ρ) (comF p ρ F) w (commitH p H H) v (x.commit p H) := by
 cases x with
 | s x => exact SVRel.commit hh h
 | tup xs => obtain ⟨vs, hv, h⟩ := h; exact ⟨vs, hv, all2_map (SV.commit p H) (fun _ _ h => SVRel.commit hh h) h⟩
theorem ORel.commit (hh : HRel ρ F w H) {b N : Nat} {o : Ob} (h : ORel ρ F w H b N o) : ORel (cut p ρ) (comF p ρ F) w (commitH p H H) b N (o.commit p H) := by
 cases o with
 | var cs => obtain ⟨c, T, hc, hn, h⟩ := h; exact ⟨c, T, hc, hn, all2_map (C.commit p H) (fun _ _ h => CRel.commit hh h) h⟩
 | row T s es =>
  obtain ⟨c, hc, hn, hl, hs, h⟩ := h
  refine ⟨c, hc, hn, hl, hs, fun i e j x he hx => ?_⟩
  obtain ⟨v, h1, h2⟩ := h i e j x he hx
  exact ⟨v, h1, DRel.mono (fun _ h => .inl h) (fun _ _ => rfl) h2⟩
theorem SRel.commit {S : Nat → Prop} {σ : St} {a : Act} (h : SRel S ρ F σ a w) : SRel S (cut p ρ) (comF p ρ F) (σ.commit p) a w := by
 refine ⟨⟨h.ok.glob.mono (fun _ h => .inl h) (fun _ _ => rfl), h.ok.keep, fun b hb => ?_, fun id b N hid => ?_, fun i j b N M hi hj => h.ok.inj i j b N M (cut_some hi).2 (cut_some hj).2⟩, h.size, fun t => ?_, fun id b N hid o hl => ?_, fun id x hid => ?_, h.defers⟩
 ·rcases hb with hb | ⟨id, N, _, hid⟩
  ·exact h.ok.comm b hb
  ·exact (h.ok.own id b N hid).1
 ·obtain ⟨hp, hid⟩ := cut_some hid
  obtain ⟨k1, k2, k3⟩ := h.ok.own id b N hid
  refine ⟨k1, k2, fun hb => ?_⟩
  rcases hb with hb | ⟨id', M, hp', hid'⟩
  ·exact k3 hb
  ·have := h.ok.inj id id' b N M hid hid'
   subst this
   rw [hp] at hp'; cases hp'
 ·rw [get_commit]; exact ARel.commit h.obj (h.tmp t)
 ·obtain ⟨hp, hid⟩ := cut_some hid
  simp only [St.commit] at hl ⊢
  rw [look_commitH hp] at hl
  simp only [Option.map_eq_some_iff] at hl
  obtain ⟨o', ho', rfl⟩ := hl
  exact ORel.commit h.obj (h.obj id b N hid o' ho')
 ·obtain ⟨hp, hid⟩ := cut_some hid
  obtain ⟨ob, hob⟩ := h.dom id x hid
  exact ⟨ob.commit p σ.h, by simp only [St.commit]; rw [look_commitH hp, hob]; rfl⟩
end commit
theorem Holds'.commit {S : Nat → Prop} {F0 : Base} {w0 : World} {σ : St} {a : Act} {w : World} (p : Nat → Bool) (h : Holds' S F0 w0 σ a w) : Holds' S F0 w0 (σ.commit p) a w := by
 obtain ⟨⟨ρ, F, hs, h1, h2⟩, hk⟩ := h
 refine ⟨⟨cut p ρ, comF p ρ F, hs.commit, ⟨fun b hb => .inl (h1.1 b hb), h1.2.1, fun id x hx ⟨ob, hob⟩ => ?_⟩, fun b hb => ?_⟩, hk⟩
 ·have hp : p id = false := by
   cases hp : p id with
   | false => rfl
   | true => simp only [St.commit] at hob; rw [look_commitH_none hp] at hob; cases hob
  simp only [St.commit] at hob
  rw [look_commitH hp] at hob
  obtain ⟨o', ho', _⟩ := Option.map_eq_some_iff.1 hob
  have := h1.2.2 id x hx ⟨o', ho'⟩
  simp [cut, hp, this]
 rcases hb with hb | ⟨id, N, _, hid⟩
 ·exact h2 b hb
 ·exact .inr fun ho => (hs.ok.own id b N hid).2.1 (h1.2.1 b ho)
def sw (i j k : Nat) : Nat := bif Nat.beq k i then j else bif Nat.beq k j then i else k
theorem sw_sw (i j k : Nat) : sw i j (sw i j k) = k := by
 have b : ∀ x y, Nat.beq x y = decide (x = y) := fun x y => by
  by_cases h : x = y
  ·subst h; simp [Nat.beq_refl]
  ·simp [h]; cases hb : Nat.beq x y with
   | false => rfl
   | true => exact absurd (Nat.eq_of_beq_eq_true hb) h
 unfold sw
 simp only [b]
 by_cases h1 : k = i
 ·subst h1
  by_cases h2 : j = k
  ·subst h2; simp
  ·simp [h2]
 ·by_cases h2 : k = j
  ·subst h2; simp [h1]
  ·simp [h1, h2]
theorem sw_beq (i j a k : Nat) : Nat.beq (sw i j a) k = Nat.beq a (sw i j k) := by
 cases h : Nat.beq a (sw i j k) with
 | true => have := Nat.eq_of_beq_eq_true h; subst this; rw [sw_sw]; exact Nat.beq_refl k
 | false =>
  cases h' : Nat.beq (sw i j a) k with
  | false => rfl
  | true => have := Nat.eq_of_beq_eq_true h'; subst this; rw [sw_sw, Nat.beq_refl] at h; cases h
def C.swap (i j : Nat) : C → C
 | .own id s => .own (sw i j id) s
 | .sub id s st n => .sub (sw i j id) s st n
 | .ref id k s off => .ref (sw i j id) k s off
 | .vrow id s n => .vrow (sw i j id) s n
 | c => c
def SV.swap (i j : Nat) : SV → SV
 | .c x => .c (x.swap i j)
 | .agg cs => .agg (cs.map (C.swap i j))
 | .fn f cs => .fn f (cs.map (C.swap i j))
def AV.swap (i j : Nat) : AV → AV
 | .s v => .s (v.swap i j)
 | .tup vs => .tup (vs.map (SV.swap i j))
def Ob.swap (i j : Nat) : Ob → Ob
 | .var cs => .var (cs.map (C.swap i j))
 | .row T s es => .row T s es
def swapH (i j : Nat) : Heap → Heap
 | [] => []
 | (k, o) :: r => (sw i j k, o.swap i j) :: swapH i j r
def swapT (i j : Nat) : List (Nat × AV) → List (Nat × AV)
 | [] => []
 | (k, v) :: r => (k, v.swap i j) :: swapT i j r
def St.swap (i j : Nat) (σ : St) : St := { σ with t := swapT i j σ.t, h := swapH i j σ.h }
theorem look_swapH {i j : Nat} : ∀ {h : Heap} {k : Nat}, look (swapH i j h) k = (look h (sw i j k)).map (Ob.swap i j)
 | [], k => rfl
 | (a, o) :: r, k => by
  simp only [swapH, look, sw_beq]
  cases Nat.beq a (sw i j k) with
  | true => rfl
  | false => exact look_swapH
theorem get_swap {i j : Nat} (σ : St) (t : Nat) : (σ.swap i j).get t = (σ.get t).swap i j := by
 simp only [St.get, St.swap]
 generalize σ.t = l
 induction l with
 | nil => rfl
 | cons x r ih =>
  obtain ⟨k, v⟩ := x
  simp only [swapT, look]
  cases Nat.beq k t with
  | true => rfl
  | false => exact ih
section swap
variable {i j : Nat} {ρ : Map} {F : Nat → Prop} {w : World} {H : Heap}
theorem CRel.swap {v : Value} {c : C} (h : CRel ρ F w H v c) : CRel (fun k => ρ (sw i j k)) F w (swapH i j H) v (c.swap i j) := by
 have hl : ∀ {id T s es}, look H id = some (.row T s es) → look (swapH i j H) (sw i j id) = some (.row T s es) := fun hl => by rw [look_swapH, sw_sw, hl]; rfl
 cases c with
 | d x => exact h
 | nil s => exact h
 | own id s =>
  obtain ⟨T, es, he, h⟩ := h
  refine ⟨T, es, hl he, ?_⟩
  rcases h with h | ⟨b, N, cap, hb, r⟩
  ·exact .inl h
  ·exact .inr ⟨b, N, cap, by simp only [sw_sw]; exact hb, r⟩
 | sub id s st n =>
  obtain ⟨T, es, he, hle, h⟩ := h
  refine ⟨T, es, hl he, hle, ?_⟩
  rcases h with h | h | ⟨b, N, cap, hb, r⟩
  ·exact .inl h
  ·exact .inr (.inl h)
  ·exact .inr (.inr ⟨b, N, cap, by simp only [sw_sw]; exact hb, r⟩)
 | ref id k s off => obtain ⟨b, N, hb, r⟩ := h; exact ⟨b, N, by simp only [sw_sw]; exact hb, r⟩
 | vrow id s n => obtain ⟨b, N, hb, r⟩ := h; exact ⟨b, N, by simp only [sw_sw]; exact hb, r⟩
 | junk => trivial
theorem SVRel.swap {v : Value} {x : SV} (h : SVRel ρ F w H v x) : SVRel (fun k => ρ (sw i j k)) F w (swapH i j H) v (x.swap i j) := by
 cases x with
 | c x => exact CRel.swap h
 | agg cs => obtain ⟨vs, hv, h⟩ := h; exact ⟨vs, hv, all2_map (C.swap i j) (fun _ _ h => CRel.swap h) h⟩
 | fn f cs => obtain ⟨vs, hv, h⟩ := h; exact ⟨vs, hv, all2_map (C.swap i j) (fun _ _ h => CRel.swap h) h⟩
theorem ARel.swap {v : Value} {x : AV} (h : ARel ρ F w H v x) : ARel (fun k => ρ (sw i j k)) F w (swapH i j H) v (x.swap i j) := by
 cases x with
 | s x => exact SVRel.swap h
 | tup xs => obtain ⟨vs, hv, h⟩ := h; exact ⟨vs, hv, all2_map (SV.swap i j) (fun _ _ h => SVRel.swap h) h⟩
theorem ORel.swap {b N : Nat} {o : Ob} (h : ORel ρ F w H b N o) : ORel (fun k => ρ (sw i j k)) F w (swapH i j H) b N (o.swap i j) := by
 cases o with
 | var cs => obtain ⟨c, T, hc, hn, h⟩ := h; exact ⟨c, T, hc, hn, all2_map (C.swap i j) (fun _ _ h => CRel.swap h) h⟩
 | row T s es => exact h
end swap
theorem Holds'.swap {S : Nat → Prop} {F0 : Base} {w0 : World} {σ : St} {a : Act} {w : World} (i j : Nat) (hi : i < 7000000) (hj : j < 7000000) (hh : Holds' S F0 w0 σ a w) : Holds' S F0 w0 (σ.swap i j) a w := by
 obtain ⟨⟨ρ, F, h, h1, h2⟩, hk⟩ := hh
 refine ⟨⟨fun k => ρ (sw i j k), F, ⟨⟨h.ok.glob, h.ok.keep, h.ok.comm, fun id b N hid => h.ok.own _ b N hid, fun x y b N M hx hy => ?_⟩, h.size, fun t => ?_, fun id b N hid o hl => ?_, fun id x hid => ?_, h.defers⟩, ⟨h1.1, h1.2.1, fun id x hx ⟨ob, hob⟩ => ?_⟩, h2⟩, hk⟩
 rotate_right
 ·have hn := F0.num id x hx
  have e : sw i j id = id := by
   unfold sw
   have e1 : Nat.beq id i = false := by cases hb : Nat.beq id i with | false => rfl | true => have := Nat.eq_of_beq_eq_true hb; omega
   have e2 : Nat.beq id j = false := by cases hb : Nat.beq id j with | false => rfl | true => have := Nat.eq_of_beq_eq_true hb; omega
   rw [e1, e2]; rfl
  simp only [St.swap] at hob
  rw [look_swapH, e] at hob
  obtain ⟨o', ho', _⟩ := Option.map_eq_some_iff.1 hob
  show ρ (sw i j id) = some x
  rw [e]; exact h1.2.2 id x hx ⟨o', ho'⟩
 ·have := h.ok.inj _ _ b N M hx hy
  rw [← sw_sw i j x, this, sw_sw]
 ·rw [get_swap]; exact ARel.swap (h.tmp t)
 ·simp only [St.swap] at hl ⊢
  rw [look_swapH] at hl
  simp only [Option.map_eq_some_iff] at hl
  obtain ⟨o', ho', rfl⟩ := hl
  exact ORel.swap (h.obj _ b N hid o' ho')
 ·obtain ⟨ob, hob⟩ := h.dom _ x hid
  exact ⟨ob.swap i j, by simp only [St.swap]; rw [look_swapH, hob]; rfl⟩
end Go.Ab
