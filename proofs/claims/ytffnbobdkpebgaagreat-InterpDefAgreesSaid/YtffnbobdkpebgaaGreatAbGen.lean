/- The words of the mirrored models, and the steps of their walks. -/
import Derived.Test.YtffnbobdkpebgaaGreatAbApi
set_option linter.unusedVariables false
namespace Go.Ab
def bd {α β : Type} (x : Option α) (f : α → Option β) : Option β := match x with
 | some a => f a
 | none => none
def ix {α : Type} (xs : List α) (n : Int) : Option α := match decide (0 ≤ n) with
 | true => xs[n.toNat]?
 | false => none
def sl {α : Type} (xs : List α) (l h : Int) : Option (List α) := match decide (0 ≤ l) && (decide (l ≤ h) && decide (h ≤ xs.length)) with
 | true => some ((xs.drop l.toNat).take (h.toNat - l.toNat))
 | false => none
def ap {α : Type} (xs ys : List α) : Option (List α) := match Nat.ble (xs.length + ys.length) 1000000 with
 | true => some (xs ++ ys)
 | false => none
def nz (b : Int) : Option Unit := match decide (b = 0) with
 | true => none
 | false => some ()
def cnt {α : Type} (i : Nat) (x : Option α) : Option α := match Nat.blt i 1000000 with
 | true => x
 | false => none
def mkS {α : Type} (n : Int) (z : α) : Option (List α) := match decide (0 ≤ n) && decide (n ≤ 1000000) with
 | true => some (List.replicate n.toNat z)
 | false => none
abbrev ln {α : Type} (f : α → List D) (xs : List α) : Int := ((List.map f xs).length : Nat)
abbrev sz (s : BA) : Int := (ByteArray.size s : Nat)
abbrev nI (n : Nat) : Int := (n : Int)
abbrev w64 (n : Int) : Int := IntKind.i64.wrap n
theorem bd_some {α β : Type} {x : Option α} {f : α → Option β} {r : β} (h : bd x f = some r) : ∃ a, x = some a ∧ f a = some r := by
 cases x with
 | none => cases h
 | some a => exact ⟨a, rfl, h⟩
@[simp] theorem bd_of {α β : Type} (a : α) (f : α → Option β) : bd (some a) f = f a := rfl
@[simp] theorem bd_none {α β : Type} (f : α → Option β) : bd none f = none := rfl
theorem ix_some {α : Type} {xs : List α} {n : Int} {x : α} (h : ix xs n = some x) : 0 ≤ n ∧ xs[n.toNat]? = some x := by
 unfold ix at h
 split at h
 ·rename_i h0; exact ⟨of_decide_eq_true h0, h⟩
 ·cases h
theorem ix_of {α : Type} {xs : List α} {n : Int} {x : α} (h0 : 0 ≤ n) (h : xs[n.toNat]? = some x) : ix xs n = some x := by
 unfold ix; rw [decide_eq_true h0]; exact h
@[simp] theorem ix_nat {α : Type} (xs : List α) (i : Nat) : ix xs (i : Int) = xs[i]? := by
 unfold ix; rw [decide_eq_true (Int.natCast_nonneg i)]; simp
theorem sl_some {α : Type} {xs ys : List α} {l h : Int} (hs : sl xs l h = some ys) : (0 ≤ l ∧ l ≤ h ∧ h ≤ xs.length) ∧ ys = (xs.drop l.toNat).take (h.toNat - l.toNat) := by
 unfold sl at hs
 split at hs
 ·rename_i h0
  simp only [Bool.and_eq_true, decide_eq_true_eq] at h0
  exact ⟨⟨h0.1, h0.2.1, h0.2.2⟩, (Option.some.inj hs).symm⟩
 ·cases hs
theorem sl_of {α : Type} {xs : List α} {l h : Int} (h0 : 0 ≤ l) (h1 : l ≤ h) (h2 : h ≤ xs.length) : sl xs l h = some ((xs.drop l.toNat).take (h.toNat - l.toNat)) := by
 unfold sl; simp only [decide_eq_true h0, decide_eq_true h1, decide_eq_true h2, Bool.and_self]
theorem ap_some {α : Type} {xs ys zs : List α} (h : ap xs ys = some zs) : xs.length + ys.length ≤ 1000000 ∧ zs = xs ++ ys := by
 unfold ap at h
 split at h
 ·rename_i h0; exact ⟨Nat.le_of_ble_eq_true h0, (Option.some.inj h).symm⟩
 ·cases h
theorem ap_of {α : Type} {xs ys : List α} (h : xs.length + ys.length ≤ 1000000) : ap xs ys = some (xs ++ ys) := by
 unfold ap
 have : Nat.ble (xs.length + ys.length) 1000000 = true := by simpa using h
 rw [this]
theorem nz_some {b : Int} {u : Unit} (h : nz b = some u) : b ≠ 0 := by
 unfold nz at h
 split at h
 ·cases h
 ·rename_i h0; exact of_decide_eq_false h0
theorem nz_of {b : Int} (h : b ≠ 0) : nz b = some () := by
 unfold nz; rw [decide_eq_false h]
theorem cnt_some {α : Type} {i : Nat} {x : Option α} {r : α} (h : cnt i x = some r) : i < 1000000 ∧ x = some r := by
 unfold cnt at h
 split at h
 ·rename_i h0; exact ⟨by simpa using h0, h⟩
 ·cases h
theorem cnt_of {α : Type} {i : Nat} (h : i < 1000000) (x : Option α) : cnt i x = x := by
 unfold cnt
 have : Nat.blt i 1000000 = true := by simpa using h
 rw [this]
theorem mkS_some {α : Type} {n : Int} {z : α} {xs : List α} (h : mkS n z = some xs) : (0 ≤ n ∧ n ≤ 1000000) ∧ xs = List.replicate n.toNat z := by
 unfold mkS at h
 split at h
 ·rename_i h0
  simp only [Bool.and_eq_true, decide_eq_true_eq] at h0
  exact ⟨h0, (Option.some.inj h).symm⟩
 ·cases h
theorem mkS_of {α : Type} {n : Int} (h0 : 0 ≤ n) (h1 : n ≤ 1000000) (z : α) : mkS n z = some (List.replicate n.toNat z) := by
 unfold mkS; simp only [decide_eq_true h0, decide_eq_true h1, Bool.and_self]
def lk {α : Type} (m : Option α) (f : α → Bool) : Option α := match m with
 | some r => match f r with
  | true => some r
  | false => none
 | none => none
theorem lk_some {α : Type} {m : Option α} {f : α → Bool} {r : α} (h : lk m f = some r) : m = some r ∧ f r = true := by
 unfold lk at h
 split at h
 ·split at h
  ·rename_i h1; cases h; exact ⟨rfl, h1⟩
  ·cases h
 ·cases h
theorem lk_of {α : Type} {m : Option α} {f : α → Bool} {r : α} (h : m = some r) (hf : f r = true) : lk m f = some r := by
 subst h; unfold lk; simp only [hf]
def gz (b : Int) : Option Unit := match decide (0 ≤ b) with
 | true => some ()
 | false => none
theorem gz_some {b : Int} {u : Unit} (h : gz b = some u) : 0 ≤ b := by
 unfold gz at h
 split at h
 ·rename_i h0; exact of_decide_eq_true h0
 ·cases h
theorem gz_of {b : Int} (h : 0 ≤ b) : gz b = some () := by unfold gz; rw [decide_eq_true h]
def cat (a b : BA) : Option BA := match Nat.ble (a.size + b.size) 1000000 with
 | true => some (a ++ b)
 | false => none
theorem cat_some {a b c : BA} (h : cat a b = some c) : a.size + b.size ≤ 1000000 ∧ c = a ++ b := by
 unfold cat at h
 split at h
 ·rename_i h0; exact ⟨Nat.le_of_ble_eq_true h0, (Option.some.inj h).symm⟩
 ·cases h
theorem cat_of {a b : BA} (h : a.size + b.size ≤ 1000000) : cat a b = some (a ++ b) := by
 unfold cat
 have : Nat.ble (a.size + b.size) 1000000 = true := by simpa using h
 rw [this]
def oP {α : Type} (f : α → List D) (x : Option α) : D := match x with
 | none => .nilptr
 | some a => .ptr (f a) 0
def cPtr {α : Type} (f : α → List D) (x : α) : List D := [.ptr (f x) 0]
attribute [irreducible] bd ix sl ap nz cnt mkS lk gz cat
theorem idx_d {α : Type} {f : α → List D} {xs : List α} {n : Int} {x : α} (h : ix xs n = some x) : 0 ≤ n ∧ (xs.map f)[n.toNat]? = some (f x) := by
 obtain ⟨h0, h1⟩ := ix_some h
 exact ⟨h0, by rw [List.getElem?_map, h1]; rfl⟩
theorem idx_e {α : Type} {f : α → List D} {xs : List α} {n : Int} {x : α} (h : ix xs n = some x) : (xs.map f)[n.toNat]? = some (f x) := (idx_d h).2
theorem idx_o {α : Type} {f : α → List D} {xs : List α} {n : Int} {x : α} (h : ix xs n = some x) : 0 ≤ n ∧ n.toNat < (xs.map f).length := by
 obtain ⟨h0, h1⟩ := ix_some h
 have := (List.getElem?_eq_some_iff.1 h1).1
 exact ⟨h0, by rw [List.length_map]; exact this⟩
theorem sl_map {α : Type} {f : α → List D} {xs ys : List α} {l h : Int} (hs : sl xs l h = some ys) : ((xs.map f).drop l.toNat).take (h.toNat - l.toNat) = ys.map f := by
 rw [(sl_some hs).2, List.map_take, List.map_drop]
theorem sl_bd {α : Type} {f : α → List D} {xs ys : List α} {l h : Int} (hs : sl xs l h = some ys) : 0 ≤ l ∧ l ≤ h ∧ h ≤ ((xs.map f).length : Nat) := by
 rw [List.length_map]; exact (sl_some hs).1
theorem cT {b : Bool} {p q : Prop} (h : b = true) (hp : p) : condP b p q := by subst h; exact hp
theorem cF {b : Bool} {p q : Prop} (h : b = false) (hq : q) : condP b p q := by subst h; exact hq
theorem cT2 {b : Bool} {p q : Prop} (h : b = true) (hp : b = true → p) : condP b p q := by subst h; exact hp rfl
theorem cF2 {b : Bool} {p q : Prop} (h : b = false) (hq : b = false → q) : condP b p q := by subst h; exact hq rfl
theorem cBif {β : Type} {b b' : Bool} {x y z : Option β} {p q : Prop} (H : (bif b' then x else y) = z) (hb : b' = b) (hp : b = true → x = z → p) (hq : b = false → y = z → q) : condP b p q := by
 subst hb
 cases b'
 ·exact hq rfl H
 ·exact hp rfl H
theorem hT {β : Type} {b : Bool} {x y z : Option β} (q : b = true) (H : (bif b then x else y) = z) : x = z := by subst q; exact H
theorem hF {β : Type} {b : Bool} {x y z : Option β} (q : b = false) (H : (bif b then x else y) = z) : y = z := by subst q; exact H
theorem cK {b v : Bool} {p q : Prop} (h : b = v) (k : b = v → (match v with | true => p | false => q)) : condP b p q := by subst h; cases b <;> exact k rfl
theorem hK {β : Type} {b v : Bool} {x y z : Option β} (q : b = v) (H : (bif b then x else y) = z) : (match v with | true => x | false => y) = z := by subst q; cases b <;> exact H
theorem nonone {α : Type} {r : α} {p : Prop} (H : (none : Option α) = some r) : p := by cases H
section steps
variable {α β : Type} {r : β}
theorem eIx {f : α → List D} {xs : List α} {n : Int} {F : α → Option β} {k : List D → Prop} (H : bd (ix xs n) F = some r) (h : ∀ x, ix xs n = some x → F x = some r → k (f x)) :
  ∃ e, (0 ≤ n ∧ (xs.map f)[n.toNat]? = some e) ∧ k e := by
 obtain ⟨x, hx, H⟩ := bd_some H
 exact ⟨_, idx_d hx, h x hx H⟩
theorem eIo {f : α → List D} {xs : List α} {n : Int} {F : α → Option β} {k : Prop} (H : bd (ix xs n) F = some r) (h : ∀ x, ix xs n = some x → F x = some r → k) :
  (0 ≤ n ∧ n.toNat < (xs.map f).length) ∧ k := by
 obtain ⟨x, hx, H⟩ := bd_some H
 exact ⟨idx_o hx, h x hx H⟩
theorem eRd {f : α → List D} {xs : List α} {n : Int} {x : α} {k : List D → Prop} (hx : ix xs n = some x) (h : k (f x)) : ∃ e, (xs.map f)[n.toNat]? = some e ∧ k e := ⟨_, idx_e hx, h⟩
theorem eSt {γ : Type} {f : α → List D} {xs : List α} {n : Int} {x : α} (g : γ → α → α) (v : γ) {σ : St} {id T s off : Nat} {ds : List D} {K : St → Prop} (hx : ix xs n = some x) (hy : splice (f x) off ds = f (g v x))
  (hk : updK σ id (.row T s ((xs.set n.toNat (g v x)).map f)) K) : ∃ e, (xs.map f)[n.toNat]? = some e ∧ updK σ id (.row T s ((xs.map f).set n.toNat (splice e off ds))) K :=
 ⟨_, idx_e hx, by rw [hy, ← List.map_set]; exact hk⟩
theorem eAp {f : α → List D} {xs ys : List α} {F : List α → Option β} {p : Nat → Bool} {σ : St} {id T s b : Nat} {es es2 : List (List D)} {K : St → Prop} (H : bd (ap xs ys) F = some r) (h1 : es = xs.map f) (h2 : es2 = ys.map f) (hb : b ≤ 1000)
  (h : ∀ zs, F zs = some r → killK p σ fun σ1 => addK σ1 [(id, .row T s (zs.map f))] K) :
  ((es.length + es2.length) * b ≤ 140737488355328 ∧ es.length + es2.length ≤ 140737488355328) ∧ killK p σ fun σ1 => addK σ1 [(id, .row T s (es ++ es2))] K := by
 obtain ⟨zs, hz, H⟩ := bd_some H
 obtain ⟨hl, rfl⟩ := ap_some hz
 subst h1; subst h2
 have hl' : (xs.map f).length + (ys.map f).length ≤ 1000000 := by rw [List.length_map, List.length_map]; exact hl
 exact ⟨⟨Nat.le_trans (Nat.mul_le_mul hl' hb) (by decide), Nat.le_trans hl' (by decide)⟩, by rw [← List.map_append]; exact h _ H⟩
theorem eSl {f : α → List D} {xs : List α} {l h : Int} {F : List α → Option β} {k : Prop} (H : bd (sl xs l h) F = some r) (hk : ∀ ys, sl xs l h = some ys → F ys = some r → k) :
  (0 ≤ l ∧ l ≤ h ∧ h ≤ ((xs.map f).length : Nat)) ∧ k := by
 obtain ⟨ys, hs, H⟩ := bd_some H
 exact ⟨sl_bd hs, hk ys hs H⟩
theorem subL {f : α → List D} (xs : List α) (pre : List (List D)) : List.take xs.length (List.drop pre.length (pre ++ xs.map f)) = xs.map f := by
 rw [List.drop_left]; exact List.take_of_length_le (by simp)
theorem eIoS {xs : List α} {n : Int} {F : α → Option β} {k : Prop} (H : bd (ix xs n) F = some r) (h : ∀ x, ix xs n = some x → F x = some r → k) :
  (0 ≤ n ∧ n.toNat < xs.length) ∧ k := by
 obtain ⟨x, hx, H⟩ := bd_some H
 exact ⟨by have := idx_o (f := fun _ => []) hx; rwa [List.length_map] at this, h x hx H⟩
theorem eRdS {f : α → List D} {xs : List α} {n : Int} {x : α} {pre : List (List D)} {k : List D → Prop} (hx : ix xs n = some x) (h : k (f x)) : ∃ e, (pre ++ xs.map f)[pre.length + n.toNat]? = some e ∧ k e :=
 ⟨_, by rw [List.getElem?_append_right (Nat.le_add_right _ _), Nat.add_sub_cancel_left]; exact idx_e hx, h⟩
theorem eApS {f : α → List D} {xs ys : List α} {F : List α → Option β} {p : Nat → Bool} {σ : St} {id T s b n : Nat} {es es2 : List (List D)} {d : Option Nat} {K : St → Prop} (H : bd (ap xs ys) F = some r) (h0 : n = xs.length) (h1 : es = xs.map f) (h2 : es2 = ys.map f) (hb : b ≤ 1000)
  (h : ∀ zs pre, ap xs ys = some zs → F zs = some r → killK p σ fun σ1 => addK σ1 [(id, .row T s (pre ++ zs.map f))] fun σ2 => putK σ2 d (.s (.c (.sub id s pre.length zs.length))) K) :
  ((n + es2.length) * b ≤ 140737488355328 ∧ n + es2.length ≤ 140737488355328) ∧ ∀ pre : List (List D), killK p σ fun σ1 => addK σ1 [(id, .row T s (pre ++ (es ++ es2)))] fun σ2 => putK σ2 d (.s (.c (.sub id s pre.length (n + es2.length)))) K := by
 obtain ⟨zs, hz, H⟩ := bd_some H
 obtain ⟨hl, hzz⟩ := ap_some hz
 subst h1; subst h2; subst h0
 have hl' : xs.length + (ys.map f).length ≤ 1000000 := by rw [List.length_map]; exact hl
 refine ⟨⟨Nat.le_trans (Nat.mul_le_mul hl' hb) (by decide), Nat.le_trans hl' (by decide)⟩, fun pre => ?_⟩
 have := h zs pre hz H
 rw [hzz, List.map_append, List.length_append] at this
 rw [List.length_map]; exact this
theorem eSlS {f : α → List D} {xs : List α} {l : Int} {n : Nat} {F : List α → Option β} {k : Prop} (H : bd (sl xs l (ln f xs)) F = some r) (hn : n = xs.length) (hk : ∀ ys, sl xs l (ln f xs) = some ys → F ys = some r → k) :
  (0 ≤ l ∧ l ≤ (n : Int) ∧ (n : Int) ≤ (n : Int)) ∧ k := by
 obtain ⟨ys, hs, H⟩ := bd_some H
 obtain ⟨⟨h0, h1, h2⟩, _⟩ := sl_some hs
 subst hn
 exact ⟨⟨h0, by simpa [ln] using h1, Int.le_refl _⟩, hk ys hs H⟩
theorem tailL {f : α → List D} {xs ys : List α} {x : α} (hx : ix xs 0 = some x) (hs : sl xs 1 (ln f xs) = some ys) : xs = x :: ys := by
 obtain ⟨_, h1⟩ := ix_some hx
 obtain ⟨_, h2⟩ := sl_some hs
 cases xs with
 | nil => simp at h1
 | cons a l =>
  simp at h1
  subst h1
  rw [h2]
  simp [ln]
theorem ix_ap {xs ys zs : List α} {x : α} (hx : ix xs 0 = some x) (h : ap xs ys = some zs) : ix zs 0 = some x := by
 obtain ⟨_, h1⟩ := ix_some hx
 obtain ⟨_, rfl⟩ := ap_some h
 cases xs with
 | nil => simp at h1
 | cons a l => simp at h1; subst h1; simp [ix]
theorem eNz {b : Int} {F : Unit → Option β} {k : Prop} (H : bd (nz b) F = some r) (h : F () = some r → k) : b ≠ 0 ∧ k := by
 obtain ⟨x, hx, H⟩ := bd_some H
 exact ⟨nz_some hx, h H⟩
theorem eGz {b : Int} {F : Unit → Option β} {k : Prop} (H : bd (gz b) F = some r) (h : F () = some r → k) : 0 ≤ b ∧ k := by
 obtain ⟨x, hx, H⟩ := bd_some H
 exact ⟨gz_some hx, h H⟩
theorem eCat {a b : BA} {F : BA → Option β} {k : BA → Prop} (H : bd (cat a b) F = some r) (h : ∀ v, F v = some r → k v) : ∃ c, (a.size + b.size ≤ 1000000 ∧ c = a ++ b) ∧ k c := by
 obtain ⟨v, hv, H⟩ := bd_some H
 exact ⟨v, cat_some hv, h _ H⟩
theorem ePo {x : Option α} {F : α → Option β} {k : Prop} (H : bd x F = some r) (h : ∀ v, x = some v → F v = some r → k) : k := by
 obtain ⟨v, hv, H⟩ := bd_some H
 exact h v hv H
theorem eCallH {P : Program} {g : FuncId} {acts : List SV} {k : List SV → Heap → AV → Heap → Prop} {m : Option α} {F : α → Option β} {cargs : List SV} {pre : Heap} {res : α → AV} {post : α → Heap} (H : bd m F = some r) (hc : ∀ v, m = some v → FnH P g cargs pre (res v) (post v))
  (h : ∀ v, F v = some r → k cargs pre (res v) (post v)) : CallHK P g acts k := by
 obtain ⟨v, hv, H⟩ := bd_some H
 exact CallHK_intro (hc v hv) (h v H)
theorem eStr {s : BA} {n : Int} {F : Int → Option β} {k : Int → Prop} (H : bd (strAt s n) F = some r) (h : ∀ v, F v = some r → k v) : ∃ v, strAt s n = some v ∧ k v := by
 obtain ⟨v, hv, H⟩ := bd_some H
 exact ⟨v, hv, h v H⟩
theorem eMk {f : α → List D} {n : Int} {z : α} {zz : List D} {F : List α → Option β} {k : List (List D) → Prop} (H : bd (mkS n z) F = some r) (hz : zz = f z) (h : ∀ xs, F xs = some r → k (xs.map f)) :
  ∃ es, (n = n ∧ 0 ≤ n ∧ n ≤ 1000000 ∧ es = List.replicate n.toNat zz) ∧ k es := by
 obtain ⟨xs, hx, H⟩ := bd_some H
 obtain ⟨⟨h0, h1⟩, e⟩ := mkS_some hx
 exact ⟨_, ⟨rfl, h0, h1, by rw [e, List.map_replicate, hz]⟩, h xs H⟩
theorem eCall {P : Program} {g : FuncId} {ds : List DV} {ad : Bool} {k : AV → Heap → Prop} {m : Option α} {F : α → Option β} {res : α → AV} {nw : α → Heap} (H : bd m F = some r) (hc : ∀ v, m = some v → Fn P g ds (res v) (nw v))
  (hd : ∀ v, ad = true ∨ ((res v).flat = true ∧ nw v = [])) (h : ∀ v, F v = some r → k (res v) (nw v)) : CallK P g ds ad k := by
 obtain ⟨v, hv, H⟩ := bd_some H
 exact CallK_intro (hc v hv) (hd v) (h v H)
end steps
theorem Fn.asData {P : Program} {f : FuncId} {args : List DV} {T s s' : Nat} {es : List (List D)} (h : Fn P f args (.s (.c (.own 0 s))) [(0, .row T s' es)]) : Fn P f args (.s (.c (.d (.slice s es)))) [] :=
 ⟨h.enters, fun F w vs hG hF hv => (h.calls F w vs hG hF hv).mono fun e w' ⟨v, ρ', F', he, L⟩ =>
  ⟨v, fun _ => none, fun b => F' b ∨ ∃ id N, ρ' id = some (b, N), he, ⟨L.below, L.glob.mono (fun _ h => .inl h) (fun _ _ => rfl), fun b hb => hb.elim (L.comm b) (fun ⟨id, N, h⟩ => (L.own id b N h).2.1), fun b hb => .inl (L.set b hb),
   fun b hb => hb.elim (L.new b) (fun ⟨id, N, h⟩ => .inr (L.own id b N h).1), fun _ _ _ h => (by cases h), fun _ _ _ _ _ h => (by cases h), fun _ _ h => (by cases h),
   lend_rel (c := .own 0 s) (Sub.refl _) L.obj L.val (by rfl), fun _ _ _ h => (by cases h)⟩⟩⟩
def pickT (σ : St) : List Nat → List (Nat × AV)
 | [] => []
 | k :: r => (k, σ.get k) :: pickT σ r
def pickH (h : Heap) : List Nat → Heap
 | [] => []
 | k :: r => match look h k with
  | some o => (k, o) :: pickH h r
  | none => pickH h r
def patchC : List (Nat × List C) → List C → List C
 | [], cs => cs
 | (off, ds) :: r, cs => patchC r (splice cs off ds)
def patchH (h : Heap) : List (Nat × List (Nat × List C)) → Heap
 | [] => []
 | (id, l) :: r => match look h id with
  | some (.var cs) => (id, .var (patchC l cs)) :: patchH h r
  | _ => patchH h r
def loopSt (σ : St) (ks is : List Nat) (ov : List (Nat × AV)) (oh : Heap) : St := ⟨σ.n, ov ++ pickT σ ks, oh ++ pickH σ.h is⟩
theorem eLoop {X β : Type} {r : β} {body : (Exit → St → Prop) → St → Prop} {K : Exit → St → Prop} {σ : St} {N : Nat} {x0 : X} (L : Nat → X → Option β) (ks is : List Nat) (ov : X → List (Nat × AV)) (oh : X → Heap)
  (H : L N x0 = some r) (hle : Le σ (loopSt σ ks is (ov x0) (oh x0)))
  (hb : ∀ n x, L n x = some r → fSt (loopSt σ ks is (ov x) (oh x)) (body (fun e σ' => match e with
   | .normal => ∃ y : Nat × X, L y.1 y.2 = some r ∧ Le σ' (loopSt σ ks is (ov y.2) (oh y.2)) ∧ y.1 < n
   | e => K e σ'))) : LoopP body K σ :=
 LoopP_intro (X := Nat × X) (fun y => L y.1 y.2 = some r) (fun y => loopSt σ ks is (ov y.2) (oh y.2)) (fun y => y.1) (N, x0) H hle fun y hy => hb y.1 y.2 hy
theorem eLoopP {X β : Type} {r : β} {body : (Exit → St → Prop) → St → Prop} {K : Exit → St → Prop} {σ : St} {N : Nat} {x0 : X} (L : Nat → X → Option β) (ks is : List Nat) (ov : X → List (Nat × AV)) (oh : X → Heap) (pt : X → List (Nat × List (Nat × List C)))
  (H : L N x0 = some r) (hle : Le σ (loopSt σ ks is (ov x0) (oh x0 ++ patchH σ.h (pt x0))))
  (hb : ∀ n x, L n x = some r → fSt (loopSt σ ks is (ov x) (oh x ++ patchH σ.h (pt x))) (body (fun e σ' => match e with
   | .normal => ∃ y : Nat × X, L y.1 y.2 = some r ∧ Le σ' (loopSt σ ks is (ov y.2) (oh y.2 ++ patchH σ.h (pt y.2))) ∧ y.1 < n
   | e => K e σ'))) : LoopP body K σ :=
 eLoop L ks is ov (fun x => oh x ++ patchH σ.h (pt x)) H hle hb
theorem inc64' {i : Nat} (h : i < 1000000) : D.int .i64 (IntKind.i64.wrap ((i : Int) + 1)) = D.int .i64 ((i + 1 : Nat) : Int) := inc64 h (by decide)
def cBool (b : Bool) : List D := [.bool b]
def cSlc {α : Type} (s : Nat) (f : α → List D) (l : List α) : List D := [.slice s (l.map f)]
def cByte (n : Int) : List D := [.int .u8 n]
end Go.Ab
