/- Plain laws: counted loops of the models as recursion over lists. -/
import Derived.Test.YtffnbobdkpebgaaGreatAbGen
set_option linter.unusedVariables false
set_option linter.unusedSimpArgs false
namespace Go.Ab
theorem w64_id {n : Int} (h0 : -9223372036854775808 ≤ n) (h1 : n ≤ 9223372036854775807) : w64 n = n := IntWalk.i64_in _ (by omega)
theorem lt_ln {α : Type} {f : α → List D} {xs : List α} {i : Nat} {e : α} (h : xs[i]? = some e) : decide (nI i < ln f xs) = true := by
 have := (List.getElem?_eq_some_iff.1 h).1
 simp [ln]; exact this
theorem ge_ln {α : Type} {f : α → List D} {xs : List α} {i : Nat} (h : xs.length ≤ i) : decide (nI i < ln f xs) = false := by
 simp [ln]; exact h
theorem lt_sz {s : BA} {i : Nat} (h : i < s.size) : decide (nI i < sz s) = true := by simp [sz]; exact h
theorem ge_sz {s : BA} {i : Nat} (h : s.size ≤ i) : decide (nI i < sz s) = false := by simp [sz]; exact h
theorem ix_nI {α : Type} (xs : List α) (i : Nat) : ix xs (nI i) = xs[i]? := ix_nat xs i
theorem ln_len {α : Type} (f : α → List D) (xs : List α) : ln f xs = (xs.length : Nat) := by simp [ln]
def lrun {α S R : Type} (body : Nat → α → S → (S → Option R) → Option R) (k : S → Option R) : List α → Nat → S → Option R
 | [], _, s => k s
 | x :: xs, i, s => body i x s (fun s' => lrun body k xs (i + 1) s')
theorem to_lrun {α S X R : Type} (L : Nat → X → Option R) (mk : S → Nat → X) (xs : List α) (body : Nat → α → S → (S → Option R) → Option R) (k : S → Option R) (hl : xs.length ≤ 1000000)
  (hs : ∀ n s i e, xs[i]? = some e → L (n + 1) (mk s i) = body i e s (fun s' => cnt i (L n (mk s' (i + 1)))))
  (he : ∀ n s i, xs.length ≤ i → L (n + 1) (mk s i) = k s) : ∀ n s i, i ≤ xs.length → xs.length < n + i → L n (mk s i) = lrun body k (xs.drop i) i s := by
 intro n
 induction n with
 | zero => intro s i h1 h2; omega
 | succ n ih =>
  intro s i h1 h2
  rcases Nat.lt_or_ge i xs.length with h | h
  ·rw [hs n s i xs[i] (List.getElem?_eq_getElem h), List.drop_eq_getElem_cons h, lrun]
   congr 1
   funext s'
   rw [cnt_of (by omega), ih s' (i + 1) h (by omega)]
  ·rw [he n s i h, List.drop_eq_nil_of_le h, lrun]
theorem lrun_search {α R : Type} {p : Nat → α → Bool} {hit : Nat → α → Option R} {k : Unit → Option R} {body : Nat → α → Unit → (Unit → Option R) → Option R} (hb : ∀ i x c, body i x () c = bif p i x then hit i x else c ()) :
  ∀ (xs : List α) (i : Nat), (∀ j x, xs[j]? = some x → p (i + j) x = false) → lrun body k xs i () = k ()
 | [], i, _ => rfl
 | x :: xs, i, h => by
  rw [lrun, hb, show p i x = false from h 0 x rfl]
  exact lrun_search hb xs (i + 1) fun j y hy => by have := h (j + 1) y (by simpa using hy); rwa [Nat.add_assoc, Nat.add_comm 1 j]
theorem lrun_any {α R : Type} {p : α → Bool} {hit : Option R} {k : Unit → Option R} {body : Nat → α → Unit → (Unit → Option R) → Option R} (hb : ∀ i x c, body i x () c = bif p x then hit else c ()) :
  ∀ (xs : List α) (i : Nat), lrun body k xs i () = bif xs.any p then hit else k ()
 | [], i => rfl
 | x :: xs, i => by
  rw [lrun, hb, List.any_cons]
  cases p x with
  | true => rfl
  | false => simpa using lrun_any hb xs (i + 1)
def bytes (s : BA) : List Int := s.data.toList.map fun b => (b.toNat : Int)
theorem bytes_len (s : BA) : (bytes s).length = s.size := by simp [bytes]
theorem strAt_bytes (s : BA) (i : Nat) : strAt s (nI i) = (bytes s)[i]? := by
 unfold strAt bytes
 rw [decide_eq_true (Int.natCast_nonneg i)]
 simp only [Int.toNat_natCast]
 rw [List.getElem?_map]
 congr 1
 rw [Array.getElem?_toList]
 rfl
theorem strAt_zero (s : BA) : strAt s 0 = (bytes s)[0]? := strAt_bytes s 0
end Go.Ab
set_option linter.unusedVariables false
set_option linter.unusedSimpArgs false
namespace Go.Ab
def Ok {R : Type} (m : Option R) (Q : R → Prop) : Prop := ∃ v, m = some v ∧ Q v
section
variable {A B R : Type} {Q : R → Prop}
theorem Ok.ret {v : R} (h : Q v) : Ok (some v) Q := ⟨v, rfl, h⟩
theorem Ok.tt {v : R} : Ok (some v) (fun _ => True) := ⟨v, rfl, trivial⟩
theorem Ok.bd {m : Option A} {f : A → Option R} {P : A → Prop} (h : Ok m P) (k : ∀ v, P v → Ok (f v) Q) : Ok (bd m f) Q := by
 obtain ⟨v, rfl, p⟩ := h; rw [bd_of]; exact k v p
theorem Ok.bde {m : Option A} {f : A → Option R} {v : A} (h : m = some v) (k : Ok (f v) Q) : Ok (Go.Ab.bd m f) Q := by rw [h, bd_of]; exact k
theorem Ok.con {c : Bool} {a b : Option R} (h1 : c = true → Ok a Q) (h2 : c = false → Ok b Q) : Ok (bif c then a else b) Q := by
 cases c with
 | true => exact h1 rfl
 | false => exact h2 rfl
theorem Ok.cnt {i : Nat} {m : Option R} (h : i < 1000000) (k : Ok m Q) : Ok (cnt i m) Q := by rw [cnt_of h]; exact k
theorem Ok.ixN {xs : List A} {i : Nat} {f : A → Option R} (h : i < xs.length) (k : ∀ v, xs[i]? = some v → Ok (f v) Q) : Ok (Go.Ab.bd (ix xs (nI i)) f) Q :=
 Ok.bde (ix_nI xs i ▸ List.getElem?_eq_getElem h) (k _ (List.getElem?_eq_getElem h))
theorem Ok.ix {xs : List A} {i : Int} {f : A → Option R} (h0 : 0 ≤ i) (h : i < xs.length) (k : ∀ v, xs[i.toNat]? = some v → Ok (f v) Q) : Ok (Go.Ab.bd (ix xs i) f) Q := by
 have h : i.toNat < xs.length := by omega
 exact Ok.bde (ix_of h0 (List.getElem?_eq_getElem h)) (k _ (List.getElem?_eq_getElem h))
theorem Ok.sl {xs : List A} {l h : Int} {f : List A → Option R} (h0 : 0 ≤ l) (h1 : l ≤ h) (h2 : h ≤ xs.length) (k : Ok (f ((xs.drop l.toNat).take (h.toNat - l.toNat))) Q) : Ok (Go.Ab.bd (sl xs l h) f) Q := Ok.bde (sl_of h0 h1 h2) k
theorem Ok.ap {xs ys : List A} {f : List A → Option R} (h : xs.length + ys.length ≤ 1000000) (k : Ok (f (xs ++ ys)) Q) : Ok (Go.Ab.bd (ap xs ys) f) Q := Ok.bde (ap_of h) k
theorem Ok.strN {s : BA} {i : Nat} {f : Int → Option R} (h : i < s.size) (k : ∀ v, (bytes s)[i]? = some v → Ok (f v) Q) : Ok (Go.Ab.bd (strAt s (nI i)) f) Q := by
 have h : i < (bytes s).length := by rw [bytes_len]; exact h
 exact Ok.bde (strAt_bytes s i ▸ List.getElem?_eq_getElem h) (k _ (List.getElem?_eq_getElem h))
theorem Ok.mono {m : Option R} {P : R → Prop} (h : Ok m P) (k : ∀ v, P v → Q v) : Ok m Q := by
 obtain ⟨v, e, p⟩ := h; exact ⟨v, e, k v p⟩
theorem Ok.of_eq {m : Option R} {v : R} (h : m = some v) : Ok m (fun r => r = v) := ⟨v, h, rfl⟩
theorem Ok.eq {m : Option R} {v : R} (h : Ok m (fun r => r = v)) : m = some v := by obtain ⟨w, e, rfl⟩ := h; exact e
theorem Ok.loop {X : Type} {L : Nat → X → Option R} (I : X → Prop) (μ : X → Nat)
  (step : ∀ n x, I x → (∀ x', I x' → μ x' < μ x → Ok (L n x') Q) → Ok (L (n + 1) x) Q) : ∀ {n : Nat} {x : X}, I x → μ x < n → Ok (L n x) Q := by
 intro n
 induction n with
 | zero => intro x _ h; omega
 | succ n ih =>
  intro x hi hm
  exact step n x hi fun x' hi' hm' => ih hi' (by omega)
end
theorem tf {p : Prop} (h : true = false) : p := Bool.noConfusion h
theorem lnd {α : Type} (f : α → List D) (xs : List α) : ((List.map f xs).length : Int) = (xs.length : Int) := by simp
theorem yyA (a b : Bool) : ((a && b) = true) = (a = true ∧ b = true) := Bool.and_eq_true a b
theorem yyB (a b : Bool) : ((a || b) = true) = (a = true ∨ b = true) := Bool.or_eq_true a b
theorem yyC {x y : Bool} : (x && y) = false ↔ x = false ∨ y = false := Bool.and_eq_false_iff
theorem yyD {x y : Bool} : (x || y) = false ↔ x = false ∧ y = false := Bool.or_eq_false_iff
theorem yyE (b : Bool) : ((!b) = true) = (b = false) := Bool.not_eq_true' b
theorem yyF (b : Bool) : ((!b) = false) = (b = true) := Bool.not_eq_false' b
theorem yyG {p : Prop} [Decidable p] : (decide p = true) = p := decide_eq_true_eq
theorem yyH {p : Prop} {x : Decidable p} : decide p = false ↔ ¬p := decide_eq_false_iff_not
theorem yyI {α : Type _} [BEq α] [LawfulBEq α] {a b : α} : (a == b) = true ↔ a = b := beq_iff_eq
theorem yyJ {α : Type _} [BEq α] [LawfulBEq α] {a b : α} : (a != b) = true ↔ a ≠ b := bne_iff_ne
theorem yyK {α : Type _} [BEq α] [LawfulBEq α] {a b : α} : (a == b) = false ↔ a ≠ b := beq_eq_false_iff_ne
theorem yyL {α : Type _} [BEq α] [LawfulBEq α] {a b : α} : (a != b) = false ↔ a = b := bne_eq_false_iff_eq
theorem yyM : (¬True) = False := not_true_eq_false
theorem yyN : (¬False) = True := not_false_eq_true
theorem yyO : (!true) = false := rfl
theorem yyP : (!false) = true := rfl
theorem yyQ {α : Sort _} (a b : α) : (a ≠ b) = ¬(a = b) := rfl
theorem yyR {α : Type _} {β : Type _} {as : List α} (f : α → β) : (List.map f as).length = as.length := List.length_map f
end Go.Ab
