/- Plain laws: sizes of small laws and cases; words for proofs that a model answers. -/
import Derived.Test.YtffnbobdkpebgaaGreatPlOk
import Derived.Test.YtffnbobdkpebgaaGreatVzM1
import Derived.Test.YtffnbobdkpebgaaGreatPaMon
set_option linter.unusedVariables false
set_option linter.unusedSimpArgs false
namespace Go.Ab
structure SzRule (r : MRule) : Prop where
 name : r.name.size ≤ 80
 source : r.source.size ≤ 80
 guard : r.guard.length ≤ 50
 value : r.value.length ≤ 50
structure SzScope (s : MScope) : Prop where
 name : s.name.size ≤ 80
 inputs : s.inputs.length ≤ 14
 defs : s.defs.length ≤ 14
 rules : s.rules.length ≤ 60
 inp : ∀ f ∈ s.inputs, f.name.size ≤ 80
 dfs : ∀ f ∈ s.defs, f.name.size ≤ 80
 rls : ∀ r ∈ s.rules, SzRule r
structure SzLaw (l : MLaw) : Prop where
 enums : l.enums.length ≤ 9
 tables : l.tables.length ≤ 9
 scopes : l.scopes.length ≤ 5
 ens : ∀ e ∈ l.enums, e.name.size ≤ 80 ∧ e.members.length ≤ 20 ∧ ∀ m ∈ e.members, m.size ≤ 80
 tbs : ∀ t ∈ l.tables, t.name.size ≤ 80 ∧ t.rows.length ≤ 150
 scs : ∀ s ∈ l.scopes, SzScope s
structure SzCase (c : MCase) : Prop where
 inputs : c.inputs.length ≤ 14
 members : c.members.length ≤ 10
 mem : ∀ m ∈ c.members, m.length ≤ 14
theorem mem_ix {α : Type} {xs : List α} {i : Nat} {e : α} (h : xs[i]? = some e) : e ∈ xs := List.mem_of_getElem? h
theorem lt_ix {α : Type} {xs : List α} {i : Nat} {e : α} (h : xs[i]? = some e) : i < xs.length := (List.getElem?_eq_some_iff.1 h).1
theorem mem_tk {α : Type} {xs : List α} {n m : Nat} {e : α} (h : e ∈ (xs.drop n).take m) : e ∈ xs := List.mem_of_mem_drop (List.mem_of_mem_take h)
theorem len_tk {α : Type} (xs : List α) (n m : Nat) : ((xs.drop n).take m).length ≤ xs.length := by simp; omega
theorem Ok.mk {A R : Type} {Q : R → Prop} {n : Int} {x : A} {f : List A → Option R} (h0 : 0 ≤ n) (h1 : n ≤ 1000000) (k : Ok (f (List.replicate n.toNat x)) Q) : Ok (Go.Ab.bd (mkS n x) f) Q := by
 refine Ok.bde ?_ k
 unfold mkS
 simp [h0, h1]
theorem Ok.tr {R : Type} {m : Option R} {P : R → Prop} (h : Ok m P) : Ok m (fun _ => True) := h.mono fun _ _ => trivial
theorem Ok.bde' {A R : Type} {m : Option A} {f : A → Option R} {P : A → Prop} {Q : R → Prop} (h : Ok m P) (k : ∀ v, m = some v → P v → Ok (f v) Q) : Ok (Go.Ab.bd m f) Q := by
 obtain ⟨v, e, p⟩ := h; rw [e, bd_of]; exact k v e p
theorem Ok.rg {R : Type} {Q : R → Prop} {L : Nat → Nat → Option R} (N : Nat) (hN : N < 1000)
  (step : ∀ n i, i ≤ N → (∀ j, j ≤ N → i < j → Ok (L n j) Q) → Ok (L (n + 1) i) Q) {fu : Nat} (hf : 200000 ≤ fu) : Ok (L fu 0) Q :=
 Ok.loop (fun i => i ≤ N) (fun i => N - i) (fun n i hi rec => step n i hi fun j hj hij => rec j hj (by omega)) (Nat.zero_le _) (by omega)
theorem Ok.rgA {A R : Type} {Q : R → Prop} {L : Nat → List A × Nat → Option R} (I : List A → Nat → Prop) (N : Nat) (hN : N < 1000)
  (step : ∀ n o i, I o i → i ≤ N → (∀ o' j, I o' j → j ≤ N → i < j → Ok (L n (o', j)) Q) → Ok (L (n + 1) (o, i)) Q) {fu : Nat} (hf : 200000 ≤ fu) {o : List A} (h0 : I o 0) : Ok (L fu (o, 0)) Q :=
 Ok.loop (fun x => I x.1 x.2 ∧ x.2 ≤ N) (fun x => N - x.2) (fun n x hi rec => step n x.1 x.2 hi.1 hi.2 fun o' j ho hj hij => rec (o', j) ⟨ho, hj⟩ (by simp only; omega)) ⟨h0, Nat.zero_le _⟩ (by simp only; omega)
end Go.Ab
set_option linter.unusedVariables false
set_option linter.unusedSimpArgs false
namespace Go.Ab
variable {fu : Nat}
theorem o_part (b : Int) : Ok (m_lexer_part fu b) (fun _ => True) := by
 unfold m_lexer_part m_lexer_lower m_lexer_digit
 simp only [bd_of]
 (repeat' (first | with_reducible exact Ok.tt | with_reducible refine Ok.con (fun _ => ?_) (fun _ => ?_) | with_reducible refine Ok.cnt ?_ ?_ | with_reducible refine Ok.ixN ?_ (fun _ _ => ?_) | with_reducible refine Ok.ix ?_ ?_ (fun _ _ => ?_) | with_reducible refine Ok.sl ?_ ?_ ?_ ?_ | with_reducible refine Ok.ap ?_ ?_ | with_reducible refine Ok.strN ?_ (fun _ _ => ?_) | with_reducible refine Ok.bde rfl ?_))
theorem o_run (hf : 200000 ≤ fu) {s : BA} (h : s.size ≤ 80) : Ok (m_lexer_run_137 fu s) (fun _ => True) := by
 unfold m_lexer_run_137
 refine Ok.rg s.size (by omega) (fun n i hi rec => ?_) hf
 simp only [m_lexer_run_137_L1]
 refine Ok.con (fun q => ?_) fun _ => Ok.tt
 (try simp only [ln, nI, sz, lnd, yyR, yyA, yyB, yyC, yyD, yyE, yyF, yyG, yyH, yyI, yyJ, yyK, yyL, yyM, yyN, yyO, yyP, yyQ] at *)
 exact Ok.strN (by omega) fun b hb => Ok.bd (o_part b) fun c _ => Ok.con (fun _ => Ok.cnt (by omega) (rec _ (by omega) (by omega))) fun _ => Ok.tt
theorem cat_ok {R : Type} {Q : R → Prop} {a b : BA} {f : BA → Option R} (h : a.size + b.size ≤ 1000000) (k : Ok (f (a ++ b)) Q) : Ok (Go.Ab.bd (cat a b) f) Q := by
 refine Ok.bde ?_ k
 unfold cat
 rw [Nat.ble_eq_true_of_le h]
theorem cont_ok {R : Type} {Q : R → Prop} {s t : BA} {f : Bool → Option R} (h : s.size ≤ 1000000) (k : ∀ v, Ok (f v) Q) : Ok (Go.Ab.bd (m_strings_Contains fu s t) f) Q := by
 refine Ok.bde ?_ (k (Go.Lib.contains s.data.toList t.data.toList))
 unfold m_strings_Contains
 rw [decide_eq_true h]
theorem o_ident (hf : 200000 ≤ fu) {s : BA} (h : s.size ≤ 80) : Ok (m_lexer_IsIdentifier fu s) (fun _ => True) := by
 unfold m_lexer_IsIdentifier
 refine Ok.con (fun q => ?_) fun _ => Ok.tt
 have hs : 0 < s.size := by
  rcases Nat.eq_zero_or_pos s.size with h0 | h0
  ·exfalso
   have e0 : s = ⟨#[]⟩ := by
    cases s with | mk d => exact congrArg ByteArray.mk (Array.eq_empty_of_size_eq_zero h0)
   rw [decide_eq_true e0] at q
   cases q
  ·exact h0
 refine Ok.strN (i := 0) hs fun b hb => Ok.bde (m := m_lexer_lower fu b) rfl (Ok.con (fun _ => Ok.bd (o_run hf h) fun c _ => Ok.con (fun _ => ?_) fun _ => Ok.tt) fun _ => Ok.tt)
 have e1 : (⟨#[32]⟩ : BA).size = 1 := rfl
 refine cat_ok (by omega) (cat_ok ?_ ?_)
 ·rw [ByteArray.size_append]; omega
 ·exact cont_ok (by decide +kernel) fun _ => Ok.tt
theorem o_IndexS (hf : 200000 ≤ fu) {xs : List BA} (h : xs.length ≤ 100) (v : BA) : Ok (m_slices_Index_string fu xs v) (fun _ => True) := by
 unfold m_slices_Index_string
 refine Ok.rg xs.length (by omega) (fun n i hi rec => ?_) hf
 simp only [m_slices_Index_string_L1]
 refine Ok.con (fun q => ?_) fun _ => Ok.tt
 (try simp only [ln, nI, sz, lnd, yyR, yyA, yyB, yyC, yyD, yyE, yyF, yyG, yyH, yyI, yyJ, yyK, yyL, yyM, yyN, yyO, yyP, yyQ] at *)
 exact Ok.ixN (by omega) fun b hb => Ok.con (fun _ => Ok.tt) fun _ => Ok.cnt (by omega) (rec _ (by omega) (by omega))
theorem o_ContS (hf : 200000 ≤ fu) {xs : List BA} (h : xs.length ≤ 100) (v : BA) : Ok (m_slices_Contains_string fu xs v) (fun _ => True) := Ok.bd (o_IndexS hf h v) fun _ _ => Ok.tt
theorem bad1 {a b c d : Int} : Ok (bd (m_law_bad fu a b c d) fun c => some c) (fun _ => True) := Ok.bde rfl Ok.tt
theorem o_name (hf : 200000 ≤ fu) {s : BA} (h : s.size ≤ 80) {xs : List BA} (hx : xs.length ≤ 100) (a b : Int) : Ok (m_law_name fu s xs a b) (fun _ => True) :=
 Ok.bd (o_ident hf h) fun c _ => Ok.con (fun _ => bad1) fun _ => Ok.bd (o_ContS hf hx s) fun c _ => Ok.con (fun _ => bad1) fun _ => Ok.tt
theorem o_enum (hf : 200000 ≤ fu) {e : MEnum} (h : e.members.length ≤ 20) (hm : ∀ m ∈ e.members, m.size ≤ 80) (item : Int) : Ok (m_law_enum fu e item) (fun _ => True) := by
 unfold m_law_enum
 refine Ok.con (fun _ => bad1) fun _ => Ok.con (fun _ => bad1) fun _ => ?_
 refine Ok.rg e.members.length (by omega) (fun n i hi rec => ?_) hf
 simp only [m_law_enum_L1]
 refine Ok.con (fun q => ?_) fun _ => Ok.tt
 (try simp only [ln, nI, sz, lnd, yyR, yyA, yyB, yyC, yyD, yyE, yyF, yyG, yyH, yyI, yyJ, yyK, yyL, yyM, yyN, yyO, yyP, yyQ] at *)
 refine Ok.ixN (by omega) fun b hb => Ok.bd (o_ident hf (hm _ (mem_ix hb))) fun c _ => Ok.con (fun _ => bad1) fun _ => Ok.sl (by omega) (by omega) (by omega) (Ok.bd (o_ContS hf ?_ b) fun c _ => Ok.con (fun _ => bad1) fun _ => Ok.cnt (by omega) (rec _ (by omega) (by omega)))
 have := len_tk e.members (0 : Int).toNat ((i : Int).toNat - (0 : Int).toNat)
 omega
theorem o_VType (t : MTy) (en : List MEnum) : Ok (m_value_ValidType fu t en) (fun v => v = true → t.kind = 1 ∨ t.kind = 2 ∨ t.kind = 3 ∨ t.kind = 4 ∨ t.kind = 5 ∨ (t.kind = 6 ∧ 0 ≤ t.en ∧ t.en < en.length)) := by
 unfold m_value_ValidType
 refine Ok.con (fun q => Ok.ret fun _ => ?_) fun _ => Ok.con (fun q => Ok.ret fun _ => ?_) fun _ => Ok.con (fun q => Ok.ret fun _ => ?_) fun _ => Ok.con (fun q => Ok.ret fun _ => ?_) fun _ => Ok.con (fun q => Ok.ret fun _ => ?_) fun _ => Ok.con (fun q => Ok.ret fun q' => ?_) fun _ => Ok.ret fun h => tf h.symm
 all_goals (try simp only [ln, nI, sz, lnd, yyR, yyA, yyB, yyC, yyD, yyE, yyF, yyG, yyH, yyI, yyJ, yyK, yyL, yyM, yyN, yyO, yyP, yyQ] at *)
 all_goals omega
theorem o_Bounds (t : MTy) (en : List MEnum) : Ok (m_value_Bounds fu t en) (fun _ => True) := by
 unfold m_value_Bounds
 refine Ok.bd (o_VType t en) fun v hv => Ok.con (fun _ => Ok.tt) fun q => Ok.con (fun _ => Ok.tt) fun _ => Ok.con (fun _ => Ok.tt) fun _ => Ok.con (fun _ => Ok.tt) fun _ => Ok.con (fun _ => Ok.tt) fun _ => Ok.con (fun _ => Ok.tt) fun _ => ?_
 (try simp only [ln, nI, sz, lnd, yyR, yyA, yyB, yyC, yyD, yyE, yyF, yyG, yyH, yyI, yyJ, yyK, yyL, yyM, yyN, yyO, yyP, yyQ] at *)
 have := hv q
 exact Ok.ix (by omega) (by omega) fun _ _ => Ok.tt
theorem o_check (r : MRow) (t : MTable) (en : List MEnum) : Ok (m_table_check fu r t en) (fun _ => True) := by
 unfold m_table_check m_daterange_Valid
 refine Ok.bd (o_Bounds _ _) fun _ _ => Ok.bd (o_Bounds _ _) fun _ _ => ?_
 simp only [bd_of]
 (repeat' (first | with_reducible exact Ok.tt | with_reducible refine Ok.con (fun _ => ?_) (fun _ => ?_) | with_reducible refine Ok.cnt ?_ ?_ | with_reducible refine Ok.ixN ?_ (fun _ _ => ?_) | with_reducible refine Ok.ix ?_ ?_ (fun _ _ => ?_) | with_reducible refine Ok.sl ?_ ?_ ?_ ?_ | with_reducible refine Ok.ap ?_ ?_ | with_reducible refine Ok.strN ?_ (fun _ _ => ?_) | with_reducible refine Ok.bde rfl ?_))
theorem o_conflict (a b : MRow) : Ok (m_table_conflict fu a b) (fun _ => True) := by
 unfold m_table_conflict m_daterange_Intersect m_daterange_proper m_daterange_Valid
 simp only [bd_of]
 refine Ok.bd (P := fun _ => True) ?_ fun _ _ => Ok.tt
 (repeat' (first | with_reducible exact Ok.tt | with_reducible refine Ok.con (fun _ => ?_) (fun _ => ?_) | with_reducible refine Ok.cnt ?_ ?_ | with_reducible refine Ok.ixN ?_ (fun _ _ => ?_) | with_reducible refine Ok.ix ?_ ?_ (fun _ _ => ?_) | with_reducible refine Ok.sl ?_ ?_ ?_ ?_ | with_reducible refine Ok.ap ?_ ?_ | with_reducible refine Ok.strN ?_ (fun _ _ => ?_) | with_reducible refine Ok.bde rfl ?_))
theorem o_tabV (hf : 200000 ≤ fu) {t : MTable} (h : t.rows.length ≤ 150) (en : List MEnum) : Ok (m_table_Validate fu t en) (fun _ => True) := by
 unfold m_table_Validate
 refine Ok.con (fun _ => Ok.tt) fun _ => Ok.bd (o_VType _ _) fun _ _ => Ok.con (fun _ => Ok.tt) fun _ => Ok.bd (o_VType _ _) fun _ _ => Ok.con (fun _ => Ok.tt) fun _ => ?_
 refine Ok.rg t.rows.length (by omega) (fun n i hi rec => ?_) hf
 simp only [m_table_Validate_L1]
 refine Ok.con (fun q => ?_) fun _ => Ok.tt
 (try simp only [ln, nI, sz, lnd, yyR, yyA, yyB, yyC, yyD, yyE, yyF, yyG, yyH, yyI, yyJ, yyK, yyL, yyM, yyN, yyO, yyP, yyQ] at *)
 refine Ok.ixN (by omega) fun b hb => Ok.bd (o_check _ _ _) fun c _ => Ok.con (fun _ => Ok.tt) fun _ => Ok.sl (by omega) (by omega) (by omega) ?_
 have hl := len_tk t.rows (0 : Int).toNat ((i : Int).toNat - (0 : Int).toNat)
 generalize (t.rows.drop (0 : Int).toNat).take ((i : Int).toNat - (0 : Int).toNat) = ys at hl
 refine Ok.rg ys.length (by omega) (fun n j hj rec2 => ?_) hf
 simp only [m_table_Validate_L2]
 refine Ok.con (fun q => ?_) fun _ => Ok.cnt (by omega) (rec _ (by omega) (by omega))
 (try simp only [ln, nI, sz, lnd, yyR, yyA, yyB, yyC, yyD, yyE, yyF, yyG, yyH, yyI, yyJ, yyK, yyL, yyM, yyN, yyO, yyP, yyQ] at *)
 exact Ok.ixN (by omega) fun b hb => Ok.bd (o_conflict _ _) fun c _ => Ok.con (fun _ => Ok.tt) fun _ => Ok.cnt (by omega) (rec2 _ (by omega) (by omega))
theorem o_rows (hf : 200000 ≤ fu) {t : MTable} (h : t.rows.length ≤ 150) (item : Int) (en : List MEnum) : Ok (m_law_rows fu t item en) (fun _ => True) :=
 Ok.bd (o_tabV hf h en) fun _ _ => Ok.con (fun _ => Ok.tt) fun _ => Ok.con (fun _ => bad1) fun _ => bad1
theorem o_names (hf : 200000 ≤ fu) {xs : List MField} (h : xs.length ≤ 14) : Ok (m_law_names fu xs) (fun v => v.length ≤ 14) := by
 unfold m_law_names
 refine Ok.rgA (fun o i => o.length ≤ i) xs.length (by omega) (fun n o i ho hi rec => ?_) hf (Nat.le_refl 0)
 simp only [m_law_names_L1]
 refine Ok.con (fun q => ?_) fun _ => Ok.ret (by omega)
 (try simp only [ln, nI, sz, lnd, yyR, yyA, yyB, yyC, yyD, yyE, yyF, yyG, yyH, yyI, yyJ, yyK, yyL, yyM, yyN, yyO, yyP, yyQ] at *)
 exact Ok.ixN (by omega) fun b hb => Ok.ap (by simp; omega) (Ok.cnt (by omega) (rec _ _ (by simp; omega) (by omega) (by omega)))
theorem o_fields (hf : 200000 ≤ fu) {xs : List MField} (h : xs.length ≤ 14) (hx : ∀ f ∈ xs, f.name.size ≤ 80) {tk : List BA} (ht : tk.length ≤ 100) (en : List MEnum) (a b : Int) : Ok (m_law_fields fu xs tk en a b) (fun _ => True) := by
 unfold m_law_fields
 refine Ok.rg xs.length (by omega) (fun n i hi rec => ?_) hf
 simp only [m_law_fields_L1]
 refine Ok.con (fun q => ?_) fun _ => Ok.tt
 (try simp only [ln, nI, sz, lnd, yyR, yyA, yyB, yyC, yyD, yyE, yyF, yyG, yyH, yyI, yyJ, yyK, yyL, yyM, yyN, yyO, yyP, yyQ] at *)
 refine Ok.ixN (by omega) fun b hb => Ok.bd (o_ident hf (hx _ (mem_ix hb))) fun c _ => Ok.con (fun _ => bad1) fun _ => Ok.bd (o_ContS hf ht _) fun c _ => Ok.con (fun _ => bad1) fun _ => Ok.sl (by omega) (by omega) (by omega) (Ok.bd (o_names hf ?_) fun c hc => Ok.bd (o_ContS hf (by omega) _) fun c _ => Ok.con (fun _ => bad1) fun _ => Ok.bd (o_VType _ _) fun c _ => Ok.con (fun _ => bad1) fun _ => Ok.cnt (by omega) (rec _ (by omega) (by omega)))
 have := len_tk xs (0 : Int).toNat ((i : Int).toNat - (0 : Int).toNat)
 omega
theorem o_enums (hf : 200000 ≤ fu) {xs : List MEnum} (h : xs.length ≤ 9) (hx : ∀ e ∈ xs, e.members.length ≤ 20) : Ok (m_law_enums fu xs) (fun v => v = xs) := by
 unfold m_law_enums
 refine Ok.rgA (fun o i => o = xs.take i) xs.length (by omega) (fun n o i ho hi rec => ?_) hf (by simp)
 subst ho
 simp only [m_law_enums_L1]
 refine Ok.con (fun q => ?_) fun q => Ok.ret ?_
 ·(try simp only [ln, nI, sz, lnd, yyR, yyA, yyB, yyC, yyD, yyE, yyF, yyG, yyH, yyI, yyJ, yyK, yyL, yyM, yyN, yyO, yyP, yyQ] at *)
  refine Ok.ixN (by omega) fun b hb => ?_
  have := hx _ (mem_ix hb)
  unfold m_slices_Clone_182
  refine Ok.ap (by simp; omega) (Ok.ap (by simp; omega) (Ok.cnt (by omega) (rec _ _ ?_ (by omega) (by omega))))
  rw [List.take_add_one, hb]
  rfl
 ·(try simp only [ln, nI, sz, lnd, yyR, yyA, yyB, yyC, yyD, yyE, yyF, yyG, yyH, yyI, yyJ, yyK, yyL, yyM, yyN, yyO, yyP, yyQ] at *)
  exact List.take_of_length_le (by omega)
theorem o_tables (hf : 200000 ≤ fu) {xs : List MTable} (h : xs.length ≤ 9) (hx : ∀ e ∈ xs, e.rows.length ≤ 150) : Ok (m_law_tables fu xs) (fun v => v = xs) := by
 unfold m_law_tables
 refine Ok.rgA (fun o i => o = xs.take i) xs.length (by omega) (fun n o i ho hi rec => ?_) hf (by simp)
 subst ho
 simp only [m_law_tables_L1]
 refine Ok.con (fun q => ?_) fun q => Ok.ret ?_
 ·(try simp only [ln, nI, sz, lnd, yyR, yyA, yyB, yyC, yyD, yyE, yyF, yyG, yyH, yyI, yyJ, yyK, yyL, yyM, yyN, yyO, yyP, yyQ] at *)
  refine Ok.ixN (by omega) fun b hb => ?_
  have := hx _ (mem_ix hb)
  unfold m_slices_Clone_183
  refine Ok.ap (by simp; omega) (Ok.ap (by simp; omega) (Ok.cnt (by omega) (rec _ _ ?_ (by omega) (by omega))))
  rw [List.take_add_one, hb]
  rfl
 ·(try simp only [ln, nI, sz, lnd, yyR, yyA, yyB, yyC, yyD, yyE, yyF, yyG, yyH, yyI, yyJ, yyK, yyL, yyM, yyN, yyO, yyP, yyQ] at *)
  exact List.take_of_length_le (by omega)
theorem o_types (hf : 200000 ≤ fu) {xs : List MField} (h : xs.length ≤ 14) : Ok (m_law_types fu xs) (fun v => v = xs.map (·.ty)) := by
 unfold m_law_types
 refine Ok.rgA (fun o i => o = (xs.take i).map (·.ty)) xs.length (by omega) (fun n o i ho hi rec => ?_) hf (by simp)
 subst ho
 simp only [m_law_types_L1]
 refine Ok.con (fun q => ?_) fun q => Ok.ret ?_
 ·(try simp only [ln, nI, sz, lnd, yyR, yyA, yyB, yyC, yyD, yyE, yyF, yyG, yyH, yyI, yyJ, yyK, yyL, yyM, yyN, yyO, yyP, yyQ] at *)
  refine Ok.ixN (by omega) fun b hb => Ok.ap (by simp; omega) (Ok.cnt (by omega) (rec _ _ ?_ (by omega) (by omega)))
  rw [List.take_add_one, hb, List.map_append]
  rfl
 ·(try simp only [ln, nI, sz, lnd, yyR, yyA, yyB, yyC, yyD, yyE, yyF, yyG, yyH, yyI, yyJ, yyK, yyL, yyM, yyN, yyO, yyP, yyQ] at *)
  rw [List.take_of_length_le (by omega)]
theorem o_source (hf : 200000 ≤ fu) {s : BA} (h : s.size ≤ 80) : Ok (m_law_source fu s) (fun _ => True) := by
 unfold m_law_source
 refine Ok.rg s.size (by omega) (fun n i hi rec => ?_) hf
 simp only [m_law_source_L1]
 refine Ok.con (fun q => ?_) fun _ => Ok.tt
 (try simp only [ln, nI, sz, lnd, yyR, yyA, yyB, yyC, yyD, yyE, yyF, yyG, yyH, yyI, yyJ, yyK, yyL, yyM, yyN, yyO, yyP, yyQ] at *)
 exact Ok.strN (by omega) fun b hb => Ok.con (fun _ => Ok.tt) fun _ => Ok.strN (by omega) fun b hb => Ok.con (fun _ => Ok.tt) fun _ => Ok.strN (by omega) fun b hb => Ok.con (fun _ => Ok.tt) fun _ => Ok.cnt (by omega) (rec _ (by omega) (by omega))
def sig0 : MSignature := MSignature.mk [] [] [] [] [] false
def memS (l : MLaw) (s : MScope) : Option MScope := bif decide (s.ms < 0) then none else l.scopes[s.ms.toNat]?
def sigOf (l : MLaw) (s : MScope) : MSignature := match memS l s with
 | some m => MSignature.mk l.enums l.tables (s.inputs.map (·.ty)) (s.defs.map (·.ty)) (m.defs.map (·.ty)) true
 | none => MSignature.mk l.enums l.tables (s.inputs.map (·.ty)) (s.defs.map (·.ty)) [] false
theorem o_member {l : MLaw} {s : MScope} : Ok (m_law_member fu l s) (fun v => (v.2 = true → memS l s = some v.1 ∧ v.1 ∈ l.scopes) ∧ (v.2 = false → memS l s = none)) := by
 unfold m_law_member memS
 refine Ok.con (fun q => Ok.ret ⟨fun h => tf h.symm, fun _ => ?_⟩) fun q => ?_
 ·(try simp only [ln, nI, sz, lnd, yyR, yyA, yyB, yyC, yyD, yyE, yyF, yyG, yyH, yyI, yyJ, yyK, yyL, yyM, yyN, yyO, yyP, yyQ] at *)
  rcases q with q | q
  ·rw [decide_eq_true q]; rfl
  ·rcases Int.lt_or_le s.ms 0 with h | h
   ·rw [decide_eq_true h]; rfl
   ·rw [decide_eq_false (by omega)]; exact List.getElem?_eq_none (by omega)
 ·(try simp only [ln, nI, sz, lnd, yyR, yyA, yyB, yyC, yyD, yyE, yyF, yyG, yyH, yyI, yyJ, yyK, yyL, yyM, yyN, yyO, yyP, yyQ] at *)
  refine Ok.ix (by omega) (by omega) fun e he => Ok.ret ⟨fun _ => ⟨?_, mem_ix he⟩, fun h => tf h⟩
  rw [decide_eq_false (by omega)]; exact he
theorem o_Sig (hf : 200000 ≤ fu) {l : MLaw} (hl : SzLaw l) {i : Nat} {s : MScope} (hs : l.scopes[i]? = some s) : Ok (m_law_Signature fu l (nI i)) (fun v => v = sigOf l s) := by
 have hi := lt_ix hs
 have hz := hl.scs s (mem_ix hs)
 unfold m_law_Signature
 refine Ok.con (fun q => ?_) fun q => ?_
 ·exfalso; (try simp only [ln, nI, sz, lnd, yyR, yyA, yyB, yyC, yyD, yyE, yyF, yyG, yyH, yyI, yyJ, yyK, yyL, yyM, yyN, yyO, yyP, yyQ] at *); omega
 refine Ok.ixN hi fun s' hs' => ?_
 rw [hs] at hs'; cases hs'
 refine Ok.bd (o_enums hf hl.enums fun e he => (hl.ens e he).2.1) fun _ e1 => Ok.bd (o_tables hf hl.tables fun e he => (hl.tbs e he).2) fun _ e2 => Ok.bd (o_types hf hz.inputs) fun _ e3 => Ok.bd (o_types hf hz.defs) fun _ e4 => Ok.bd o_member fun m hm => ?_
 subst e1 e2 e3 e4
 refine Ok.con (fun q => ?_) fun q => Ok.ret ?_
 ·obtain ⟨h1, h2⟩ := hm.1 q
  refine Ok.bd (o_types hf (hl.scs _ h2).defs) fun _ e5 => Ok.ret ?_
  subst e5
  rw [sigOf, h1]
 ·rw [sigOf, hm.2 q]
end Go.Ab
set_option linter.unusedVariables false
set_option linter.unusedSimpArgs false
namespace Go.Ab
variable {fu : Nat}
def arB (op : Int) : Int :=
 bif ((decide (op < 1)) || (decide (39 < op))) then -1 else bif op == 26 then 3 else bif (op == 10) || ((op == 25) || ((op == 31) || ((op == 32) || ((op == 33) || (op == 34))))) then 1
 else bif decide (op ≤ 9) || decide (35 ≤ op) then 0 else 2
theorem s_Arity (op : Int) : m_expr_Arity fu op = some (arB op) := by
 unfold m_expr_Arity arB
 cases ((decide (op < 1)) || (decide (39 < op))) <;> cases op == 26 <;> cases op == 10 <;> cases op == 25 <;> cases op == 31 <;> cases op == 32 <;> cases op == 33 <;> cases op == 34 <;> cases decide (op ≤ 9) <;> cases decide (35 ≤ op) <;> rfl
theorem ar_le (op : Int) : -1 ≤ arB op ∧ arB op ≤ 3 := by
 unfold arB
 cases ((decide (op < 1)) || (decide (39 < op))) <;> cases op == 26 <;> cases (op == 10) || ((op == 25) || ((op == 31) || ((op == 32) || ((op == 33) || (op == 34))))) <;> cases decide (op ≤ 9) || decide (35 ≤ op) <;> decide
theorem ar_cases (op : Int) : (arB op = -1 ∧ (op < 1 ∨ 39 < op)) ∨ (arB op = 3 ∧ op = 26) ∨ (arB op = 1 ∧ (op = 10 ∨ op = 25 ∨ op = 31 ∨ op = 32 ∨ op = 33 ∨ op = 34)) ∨ (arB op = 0 ∧ (1 ≤ op ∧ op ≤ 9 ∨ 35 ≤ op ∧ op ≤ 39)) ∨ (arB op = 2 ∧ (11 ≤ op ∧ op ≤ 24 ∨ 27 ≤ op ∧ op ≤ 30)) := by
 unfold arB
 cases h1 : ((decide (op < 1)) || (decide (39 < op)))
 ·cases h2 : op == 26
  ·cases h3 : (op == 10) || ((op == 25) || ((op == 31) || ((op == 32) || ((op == 33) || (op == 34)))))
   ·cases h4 : decide (op ≤ 9) || decide (35 ≤ op) <;> (try simp only [ln, nI, sz, lnd, yyR, yyA, yyB, yyC, yyD, yyE, yyF, yyG, yyH, yyI, yyJ, yyK, yyL, yyM, yyN, yyO, yyP, yyQ] at *) <;> simp <;> omega
   ·(try simp only [ln, nI, sz, lnd, yyR, yyA, yyB, yyC, yyD, yyE, yyF, yyG, yyH, yyI, yyJ, yyK, yyL, yyM, yyN, yyO, yyP, yyQ] at *); simp; omega
  ·(try simp only [ln, nI, sz, lnd, yyR, yyA, yyB, yyC, yyD, yyE, yyF, yyG, yyH, yyI, yyJ, yyK, yyL, yyM, yyN, yyO, yyP, yyQ] at *); simp; omega
 ·(try simp only [ln, nI, sz, lnd, yyR, yyA, yyB, yyC, yyD, yyE, yyF, yyG, yyH, yyI, yyJ, yyK, yyL, yyM, yyN, yyO, yyP, yyQ] at *); simp; omega
def Ch (out : List Int) : Nat → List Int → Prop
 | i, [] => i = 0
 | i, s :: st => 0 < i ∧ 0 ≤ s ∧ s < i ∧ out[i - 1]? = some s ∧ Ch out s.toNat st
theorem Ch.mono {out : List Int} (y : List Int) : ∀ {st : List Int} {i : Nat}, Ch out i st → Ch (out ++ y) i st
 | [], _, h => h
 | s :: st, i, ⟨h0, h1, h2, h3, h4⟩ => ⟨h0, h1, h2, by rw [List.getElem?_append_left (lt_ix h3)]; exact h3, h4.mono y⟩
theorem Ch.drop {out : List Int} : ∀ (k : Nat) {st : List Int} {i : Nat} (s : Int), Ch out i st → st[k]? = some s → 0 ≤ s ∧ s < i ∧ Ch out s.toNat (st.drop (k + 1))
 | 0, t :: st, i, s, ⟨h0, h1, h2, h3, h4⟩, h => by
  simp at h; subst h; exact ⟨h1, h2, h4⟩
 | k + 1, t :: st, i, s, ⟨h0, h1, h2, h3, h4⟩, h => by
  have := Ch.drop k s h4 (by simpa using h)
  refine ⟨this.1, by omega, ?_⟩
  simpa using this.2.2
structure Sts (e : List MNode) (out : List Int) : Prop where
 len : out.length = e.length
 ops : ∀ i n, e[i]? = some n → 0 ≤ arB n.op ∧ ∃ st, Ch out i st ∧ arB n.op ≤ (st.length : Int)
theorem rev_ix {st : List Int} {k : Nat} (h : k < st.length) : st.reverse[k]? = st[st.length - 1 - k]? := List.getElem?_reverse h
theorem o_starts (hf : 200000 ≤ fu) {e : List MNode} : Ok (m_expr_starts fu e) (fun v => v.2.2 = 0 → Sts e v.1 ∧ 0 < e.length ∧ e.length ≤ 48) := by
 unfold m_expr_starts
 refine Ok.con (fun _ => Ok.ret fun h => by cases h) fun _ => Ok.con (fun _ => Ok.ret fun h => by cases h) fun _ => ?_
 (try simp only [ln, nI, sz, lnd, yyR, yyA, yyB, yyC, yyD, yyE, yyF, yyG, yyH, yyI, yyJ, yyK, yyL, yyM, yyN, yyO, yyP, yyQ] at *)
 refine Ok.loop (fun x : List Int × List Int × Nat => x.2.2 ≤ e.length ∧ x.1.length = x.2.2 ∧ x.2.1.length ≤ 12 ∧ Ch x.1 x.2.2 x.2.1.reverse ∧ ∀ i n, i < x.2.2 → e[i]? = some n → 0 ≤ arB n.op ∧ ∃ st, Ch x.1 i st ∧ arB n.op ≤ (st.length : Int)) (fun x => e.length - x.2.2) (fun n x hi rec => ?_) ⟨Nat.zero_le _, rfl, Nat.zero_le _, rfl, fun i n h => by simp at h⟩ (by simp only; omega)
 obtain ⟨out, stack, i⟩ := x
 obtain ⟨h1, h2, h3, h4, h5⟩ := hi
 simp only at h1 h2 h3 h4 h5
 simp only [m_expr_starts_L1, s_Arity, bd_of]
 refine Ok.con (fun _ => ?_) fun _ => ?_
 ·(try simp only [ln, nI, sz, lnd, yyR, yyA, yyB, yyC, yyD, yyE, yyF, yyG, yyH, yyI, yyJ, yyK, yyL, yyM, yyN, yyO, yyP, yyQ] at *)
  refine Ok.ixN (by omega) fun nd hn => ?_
  have ha := ar_le nd.op
  refine Ok.con (fun _ => Ok.ret fun h => by cases h) fun _ => Ok.con (fun _ => Ok.ret fun h => by cases h) fun _ => ?_
  (try simp only [ln, nI, sz, lnd, yyR, yyA, yyB, yyC, yyD, yyE, yyF, yyG, yyH, yyI, yyJ, yyK, yyL, yyM, yyN, yyO, yyP, yyQ] at *)
  have key : ∀ (s : Int) (st' : List Int), 0 ≤ s → s ≤ i → Ch out s.toNat st'.reverse → (st' ++ [s]).length ≤ 12 → Ok (m_expr_starts_L1 e fu (fun p_14 => (bif (decide (1 < (p_14.2.length : Int))) then some (([] : List Int), (e.length : Int), 4) else some (p_14.1, 0, 0))) n (out ++ [s], st' ++ [s], i + 1)) (fun v => v.2.2 = 0 → Sts e v.1 ∧ 0 < e.length ∧ e.length ≤ 48) := by
   intro s st' a0 a1 a2 a3
   refine rec (out ++ [s], st' ++ [s], i + 1) ⟨by simp only; omega, by simp [h2], a3, ?_, ?_⟩ (by simp only; omega)
   ·simp only [List.reverse_append, List.reverse_cons, List.reverse_nil, List.nil_append, List.singleton_append]
    exact ⟨by omega, a0, by omega, by simp [← h2], a2.mono _⟩
   ·intro j n' hj hn'
    by_cases q : j = i
    ·subst q
     rw [hn] at hn'; cases hn'
     exact ⟨by omega, _, h4.mono _, by rw [List.length_reverse]; omega⟩
    ·obtain ⟨b1, st, b2, b3⟩ := h5 j n' (by simp only at hj; omega) hn'
     exact ⟨b1, st, b2.mono _, b3⟩
  refine Ok.con (fun _ => ?_) fun _ => ?_
  ·(try simp only [ln, nI, sz, lnd, yyR, yyA, yyB, yyC, yyD, yyE, yyF, yyG, yyH, yyI, yyJ, yyK, yyL, yyM, yyN, yyO, yyP, yyQ] at *)
   rw [w64_id (by omega) (by omega)]
   have e2 : ((stack.drop (0 : Int).toNat).take (((stack.length : Int) - arB nd.op).toNat - (0 : Int).toNat)) = stack.take (stack.length - (arB nd.op).toNat) := by
    simp only [Int.toNat_zero, List.drop_zero, Nat.sub_zero]; congr 1; omega
   refine Ok.ix (by omega) (by omega) fun s hs => Ok.sl (by omega) (by omega) (by omega) ?_
   rw [e2]
   refine Ok.ap (by simp; omega) (Ok.con (fun _ => Ok.ret fun h => by cases h) fun _ => Ok.ap (by simp; omega) (Ok.cnt (by omega) ?_))
   (try simp only [ln, nI, sz, lnd, yyR, yyA, yyB, yyC, yyD, yyE, yyF, yyG, yyH, yyI, yyJ, yyK, yyL, yyM, yyN, yyO, yyP, yyQ] at *)
   have hk : stack.reverse[(arB nd.op).toNat - 1]? = some s := by
    rw [rev_ix (by omega), ← hs]; congr 1; omega
   obtain ⟨c1, c2, c3⟩ := Ch.drop _ s h4 hk
   have e1 : (arB nd.op).toNat - 1 + 1 = (arB nd.op).toNat := by omega
   refine key s _ c1 (by omega) ?_ (by omega)
   rw [List.reverse_take, show stack.length - (stack.length - (arB nd.op).toNat) = (arB nd.op).toNat by omega]
   rwa [e1] at c3
  ·(try simp only [ln, nI, sz, lnd, yyR, yyA, yyB, yyC, yyD, yyE, yyF, yyG, yyH, yyI, yyJ, yyK, yyL, yyM, yyN, yyO, yyP, yyQ] at *)
   have h0 : arB nd.op = 0 := by omega
   rw [h0, w64_id (by omega) (by omega)]
   have e2 : ((stack.drop (0 : Int).toNat).take (((stack.length : Int) - 0).toNat - (0 : Int).toNat)) = stack := by simp
   refine Ok.sl (by omega) (by omega) (by omega) ?_
   rw [e2]
   refine Ok.ap (by simp; omega) (Ok.con (fun _ => Ok.ret fun h => by cases h) fun _ => Ok.ap (by simp; omega) (Ok.cnt (by omega) ?_))
   (try simp only [ln, nI, sz, lnd, yyR, yyA, yyB, yyC, yyD, yyE, yyF, yyG, yyH, yyI, yyJ, yyK, yyL, yyM, yyN, yyO, yyP, yyQ] at *)
   exact key i stack (by omega) (by omega) (by simpa using h4) (by omega)
 ·refine Ok.con (fun _ => Ok.ret fun h => by cases h) fun _ => Ok.ret fun _ => ⟨⟨?_, fun j n' hn' => ?_⟩, ?_, ?_⟩ <;> (try simp only [ln, nI, sz, lnd, yyR, yyA, yyB, yyC, yyD, yyE, yyF, yyG, yyH, yyI, yyJ, yyK, yyL, yyM, yyN, yyO, yyP, yyQ] at *)
  ·omega
  ·exact h5 j n' (by have := lt_ix hn'; omega) hn'
  ·omega
  ·omega
theorem o_operands (hf : 200000 ≤ fu) {e : List MNode} {l : List Int} (hs : Sts e l) (he : e.length ≤ 48) {i : Nat} {nd : MNode} (hn : e[i]? = some nd) : Ok (m_expr_operands fu e l (nI i)) (fun v => (v.length : Int) = arB nd.op ∧ ∀ x ∈ v, 0 ≤ x ∧ x < i) := by
 obtain ⟨ha, st, hc, hk⟩ := hs.ops i nd hn
 have hi := lt_ix hn
 have h3 := (ar_le nd.op).2
 unfold m_expr_operands
 refine Ok.ixN hi fun nd' hn' => ?_
 rw [hn] at hn'; cases hn'
 simp only [s_Arity, bd_of]
 refine Ok.mk ha (by omega) ?_
 rw [w64_id (by simp only [nI]; omega) (by simp only [nI]; omega), w64_id (by omega) (by omega)]
 refine Ok.loop (fun x : Int × Int × List Int => -1 ≤ x.2.1 ∧ x.2.1 < arB nd.op ∧ (x.2.2.length : Int) = arB nd.op ∧ (∃ st j, Ch l j st ∧ x.1 = (j : Int) - 1 ∧ j ≤ i ∧ x.2.1 + 1 ≤ (st.length : Int)) ∧ ∀ k : Nat, x.2.1 < (k : Int) → ∀ y, x.2.2[k]? = some y → 0 ≤ y ∧ y < i) (fun x => (x.2.1 + 1).toNat) (fun n x hx rec => ?_) ⟨by simp only; omega, by simp only; omega, by simp; omega, ⟨st, i, hc, by simp [nI], Nat.le_refl _, by simp only; omega⟩, fun k hk' y hy => by have := lt_ix hy; simp at this hk'; omega⟩ (by simp only; omega)
 obtain ⟨last, k, rw'⟩ := x
 obtain ⟨a1, a2, a3, ⟨st', j, b1, b2, b3, b4⟩, a5⟩ := hx
 simp only at a1 a2 a3 b2 b4 a5
 simp only [m_expr_operands_L1]
 refine Ok.con (fun q => ?_) fun q => ?_
 ·(try simp only [ln, nI, sz, lnd, yyR, yyA, yyB, yyC, yyD, yyE, yyF, yyG, yyH, yyI, yyJ, yyK, yyL, yyM, yyN, yyO, yyP, yyQ] at *)
  refine Ok.ix (by omega) (by omega) fun _ _ => ?_
  cases st' with
  | nil => simp at b4; omega
  | cons s st' =>
   obtain ⟨c0, c1, c2, c3, c4⟩ := b1
   have hl := lt_ix c3
   refine Ok.ix (by omega) (by omega) fun s' hs' => ?_
   have hs2 : l[last.toNat]? = some s := by rw [← c3]; congr 1; omega
   rw [hs2] at hs'; cases hs'
   have := hs.len
   rw [w64_id (by omega) (by omega), w64_id (by omega) (by omega)]
   refine rec _ ⟨by simp only; omega, by simp only; omega, by simpa using a3, ⟨st', s.toNat, c4, by simp only; omega, by omega, by simp at b4; simp only; omega⟩, fun m hm y hy => ?_⟩ (by simp only; omega)
   simp only at hm hy
   by_cases q2 : m = k.toNat
   ·subst q2
    rw [List.getElem?_set_self (by omega)] at hy
    cases hy; omega
   ·rw [List.getElem?_set_ne (by omega)] at hy
    exact a5 m (by omega) y hy
 ·(try simp only [ln, nI, sz, lnd, yyR, yyA, yyB, yyC, yyD, yyE, yyF, yyG, yyH, yyI, yyJ, yyK, yyL, yyM, yyN, yyO, yyP, yyQ] at *)
  refine Ok.ret ⟨a3, fun x hx => ?_⟩
  obtain ⟨m, hm⟩ := List.getElem?_of_mem hx
  exact a5 m (by omega) x hm
theorem o_meaning (op : Int) : Ok (m_expr_meaning fu op) (fun _ => True) := by
 unfold m_expr_meaning m_expr_literal
 (repeat' (first | with_reducible exact Ok.tt | with_reducible refine Ok.con (fun _ => ?_) (fun _ => ?_) | with_reducible refine Ok.cnt ?_ ?_ | with_reducible refine Ok.ixN ?_ (fun _ _ => ?_) | with_reducible refine Ok.ix ?_ ?_ (fun _ _ => ?_) | with_reducible refine Ok.sl ?_ ?_ ?_ ?_ | with_reducible refine Ok.ap ?_ ?_ | with_reducible refine Ok.strN ?_ (fun _ _ => ?_) | with_reducible refine Ok.bde rfl ?_))
 exact Ok.bd (P := fun _ => True) (by (repeat' (first | with_reducible exact Ok.tt | with_reducible refine Ok.con (fun _ => ?_) (fun _ => ?_) | with_reducible refine Ok.cnt ?_ ?_ | with_reducible refine Ok.ixN ?_ (fun _ _ => ?_) | with_reducible refine Ok.ix ?_ ?_ (fun _ _ => ?_) | with_reducible refine Ok.sl ?_ ?_ ?_ ?_ | with_reducible refine Ok.ap ?_ ?_ | with_reducible refine Ok.strN ?_ (fun _ _ => ?_) | with_reducible refine Ok.bde rfl ?_))) fun _ _ => Ok.tt
theorem o_number (n : MNode) : Ok (m_expr_number fu n) (fun _ => True) := by
 have tl : ∀ (R : Option Int), R = (bif (n.op == 14) then (bif ((decide (n.n < 0)) || (decide (5 < n.n))) then some 3 else some 0) else (bif (n.op == 15) then (bif ((decide (n.n < 0)) || (decide (5 < n.n))) then some 3 else some 0) else (bif (n.op == 16) then (bif ((decide (n.n < 0)) || (decide (5 < n.n))) then some 3 else some 0) else (bif (n.op == 6) then (bif (decide (n.n < 0)) then some 3 else some 0) else (bif (n.op == 34) then (bif ((decide (n.n < 0)) || (decide (5 < (Int.tmod n.n 8)))) then some 3 else some 0) else some 0))))) → Ok R (fun _ => True) := by
  intro R h; subst h; (repeat' (first | with_reducible exact Ok.tt | with_reducible refine Ok.con (fun _ => ?_) (fun _ => ?_) | with_reducible refine Ok.cnt ?_ ?_ | with_reducible refine Ok.ixN ?_ (fun _ _ => ?_) | with_reducible refine Ok.ix ?_ ?_ (fun _ _ => ?_) | with_reducible refine Ok.sl ?_ ?_ ?_ ?_ | with_reducible refine Ok.ap ?_ ?_ | with_reducible refine Ok.strN ?_ (fun _ _ => ?_) | with_reducible refine Ok.bde rfl ?_))
 unfold m_expr_number
 refine Ok.con (fun _ => Ok.bd (o_meaning _) fun _ _ => Ok.con (fun _ => Ok.tt) fun _ => ?_) fun _ => ?_
 all_goals refine Ok.con (fun _ => Ok.bd (o_Bounds _ _) fun _ _ => Ok.con (fun _ => Ok.tt) fun _ => Ok.tt) fun _ => Ok.con (fun _ => Ok.bd (o_Bounds _ _) fun _ _ => Ok.con (fun _ => Ok.tt) fun _ => Ok.tt) fun _ => Ok.con (fun _ => Ok.bd (o_Bounds _ _) fun _ _ => Ok.con (fun _ => Ok.tt) fun _ => Ok.tt) fun _ => Ok.con (fun _ => Ok.bd (o_Bounds _ _) fun _ _ => Ok.con (fun _ => Ok.tt) fun _ => Ok.tt) fun _ => Ok.con (fun _ => Ok.bd (o_Bounds _ _) fun _ _ => Ok.con (fun _ => Ok.tt) fun _ => Ok.tt) fun _ => tl _ rfl
theorem o_atT (xs : List MTy) (i : Int) : Ok (m_expr_at_Type fu xs i) (fun v => v.2 = 0 → 0 ≤ i ∧ i < xs.length) := by
 unfold m_expr_at_Type
 refine Ok.con (fun _ => Ok.ret fun h => by cases h) fun _ => ?_
 (try simp only [ln, nI, sz, lnd, yyR, yyA, yyB, yyC, yyD, yyE, yyF, yyG, yyH, yyI, yyJ, yyK, yyL, yyM, yyN, yyO, yyP, yyQ] at *)
 exact Ok.ix (by omega) (by omega) fun _ _ => Ok.ret fun _ => by omega
theorem o_atE (xs : List MEnum) (i : Int) : Ok (m_expr_at_Enum fu xs i) (fun _ => True) := by
 unfold m_expr_at_Enum
 refine Ok.con (fun _ => Ok.tt) fun _ => ?_
 (try simp only [ln, nI, sz, lnd, yyR, yyA, yyB, yyC, yyD, yyE, yyF, yyG, yyH, yyI, yyJ, yyK, yyL, yyM, yyN, yyO, yyP, yyQ] at *)
 exact Ok.ix (by omega) (by omega) fun _ _ => Ok.tt
theorem o_atS (xs : List BA) (i : Int) : Ok (m_expr_at_string fu xs i) (fun _ => True) := by
 unfold m_expr_at_string
 refine Ok.con (fun _ => Ok.tt) fun _ => ?_
 (try simp only [ln, nI, sz, lnd, yyR, yyA, yyB, yyC, yyD, yyE, yyF, yyG, yyH, yyI, yyJ, yyK, yyL, yyM, yyN, yyO, yyP, yyQ] at *)
 exact Ok.ix (by omega) (by omega) fun _ _ => Ok.tt
theorem o_atTb (xs : List MTable) (i : Int) : Ok (m_expr_at_Table fu xs i) (fun _ => True) := by
 unfold m_expr_at_Table
 refine Ok.con (fun _ => Ok.tt) fun _ => ?_
 (try simp only [ln, nI, sz, lnd, yyR, yyA, yyB, yyC, yyD, yyE, yyF, yyG, yyH, yyI, yyJ, yyK, yyL, yyM, yyN, yyO, yyP, yyQ] at *)
 exact Ok.ix (by omega) (by omega) fun _ _ => Ok.tt
theorem o_table (n : MNode) (s : MSignature) : Ok (m_expr_table fu n s) (fun _ => True) :=
 Ok.con (fun _ => Ok.bd (o_atTb _ _) fun _ _ => Ok.tt) fun _ => Ok.bd (o_atTb _ _) fun _ _ => Ok.tt
theorem o_aggr (op k : Int) : Ok (m_expr_aggregate fu op k) (fun _ => True) := by
 unfold m_expr_aggregate m_expr_ordered m_expr_numeric
 simp only [bd_of]
 (repeat' (first | with_reducible exact Ok.tt | with_reducible refine Ok.con (fun _ => ?_) (fun _ => ?_) | with_reducible refine Ok.cnt ?_ ?_ | with_reducible refine Ok.ixN ?_ (fun _ _ => ?_) | with_reducible refine Ok.ix ?_ ?_ (fun _ _ => ?_) | with_reducible refine Ok.sl ?_ ?_ ?_ ?_ | with_reducible refine Ok.ap ?_ ?_ | with_reducible refine Ok.strN ?_ (fun _ _ => ?_) | with_reducible refine Ok.bde rfl ?_))
def MemOk (n : MNode) (s : MSignature) : Prop := 36 ≤ n.op → n.op ≤ 39 → 0 ≤ n.n ∧ n.n < s.memberDefs.length
theorem o_leaf (n : MNode) (s : MSignature) : Ok (m_expr_leaf fu n s) (fun v => v.2 = 0 → MemOk n s) := by
 have mt : ∀ (R : Option (MTy × Int)), R = (bif (!s.hasMembers) then some ((MTy.mk 0 0), 6) else (bif (n.op == 35) then some ((MTy.mk 2 0), 0) else bd (m_expr_at_Type fu s.memberDefs n.n) fun c_9 => (bif (c_9.2 != 0) then some ((MTy.mk 0 0), c_9.2) else bd (m_value_ValidType fu c_9.1 s.enums) fun c_10 => (bif (!c_10) then some ((MTy.mk 0 0), 8) else bd (m_expr_aggregate fu n.op c_9.1.kind) fun c_11 => (bif (!c_11) then some ((MTy.mk 0 0), 8) else some (c_9.1, 0)))))) → Ok R (fun v => v.2 = 0 → MemOk n s) := by
  intro R h; subst h
  refine Ok.con (fun _ => Ok.ret fun h => by cases h) fun _ => Ok.con (fun q => Ok.ret fun _ h => ?_) fun _ => Ok.bd (o_atT _ _) fun c hc => Ok.con (fun q => Ok.ret fun h => ?_) fun q => Ok.bd (o_VType _ _) fun _ _ => Ok.con (fun _ => Ok.ret fun h => by cases h) fun _ => Ok.bd (o_aggr _ _) fun _ _ => Ok.con (fun _ => Ok.ret fun h => by cases h) fun _ => Ok.ret fun _ _ _ => ?_
  ·(try simp only [ln, nI, sz, lnd, yyR, yyA, yyB, yyC, yyD, yyE, yyF, yyG, yyH, yyI, yyJ, yyK, yyL, yyM, yyN, yyO, yyP, yyQ] at *); omega
  ·(try simp only [ln, nI, sz, lnd, yyR, yyA, yyB, yyC, yyD, yyE, yyF, yyG, yyH, yyI, yyJ, yyK, yyL, yyM, yyN, yyO, yyP, yyQ] at *); exact absurd h q
  ·(try simp only [ln, nI, sz, lnd, yyR, yyA, yyB, yyC, yyD, yyE, yyF, yyG, yyH, yyI, yyJ, yyK, yyL, yyM, yyN, yyO, yyP, yyQ] at *); exact hc q
 have it : ∀ (xs : List MTy) (R : Option (MTy × Int)), ¬ 36 ≤ n.op → R = (bd (m_expr_at_Type fu xs n.n) fun c_3 => (bif (c_3.2 != 0) then some ((MTy.mk 0 0), c_3.2) else bd (m_value_ValidType fu c_3.1 s.enums) fun c_4 => (bif (!c_4) then some ((MTy.mk 0 0), 8) else bd (m_expr_aggregate fu n.op c_3.1.kind) fun c_5 => (bif (!c_5) then some ((MTy.mk 0 0), 8) else some (c_3.1, 0))))) → Ok R (fun v => v.2 = 0 → MemOk n s) := by
  intro xs R h0 h; subst h
  exact Ok.bd (o_atT _ _) fun c hc => Ok.con (fun q => Ok.ret fun _ h => absurd h h0) fun q => Ok.bd (o_VType _ _) fun _ _ => Ok.con (fun _ => Ok.ret fun h => by cases h) fun _ => Ok.bd (o_aggr _ _) fun _ _ => Ok.con (fun _ => Ok.ret fun h => by cases h) fun _ => Ok.ret fun _ h => absurd h h0
 unfold m_expr_leaf
 refine Ok.con (fun q => ?_) fun _ => Ok.con (fun q => ?_) fun _ => Ok.con (fun q => ?_) fun _ => Ok.con (fun q => Ok.ret fun _ h => ?_) fun _ => Ok.con (fun q => mt _ rfl) fun _ => Ok.con (fun q => mt _ rfl) fun _ => Ok.con (fun q => mt _ rfl) fun _ => Ok.con (fun q => mt _ rfl) fun _ => Ok.con (fun q => mt _ rfl) fun _ => Ok.ret fun _ h1 h2 => ?_
 ·have h0 : ¬ 36 ≤ n.op := by (try simp only [ln, nI, sz, lnd, yyR, yyA, yyB, yyC, yyD, yyE, yyF, yyG, yyH, yyI, yyJ, yyK, yyL, yyM, yyN, yyO, yyP, yyQ] at *); omega
  exact Ok.bd (o_atE _ _) fun _ _ => Ok.con (fun _ => Ok.bd (o_atS _ _) fun _ _ => Ok.con (fun _ => Ok.ret fun _ h => absurd h h0) fun _ => Ok.ret fun _ h => absurd h h0) fun _ => Ok.con (fun _ => Ok.ret fun _ h => absurd h h0) fun _ => Ok.ret fun _ h => absurd h h0
 ·exact it _ _ (by (try simp only [ln, nI, sz, lnd, yyR, yyA, yyB, yyC, yyD, yyE, yyF, yyG, yyH, yyI, yyJ, yyK, yyL, yyM, yyN, yyO, yyP, yyQ] at *); omega) rfl
 ·exact it _ _ (by (try simp only [ln, nI, sz, lnd, yyR, yyA, yyB, yyC, yyD, yyE, yyF, yyG, yyH, yyI, yyJ, yyK, yyL, yyM, yyN, yyO, yyP, yyQ] at *); omega) rfl
 ·(try simp only [ln, nI, sz, lnd, yyR, yyA, yyB, yyC, yyD, yyE, yyF, yyG, yyH, yyI, yyJ, yyK, yyL, yyM, yyN, yyO, yyP, yyQ] at *); omega
 ·(try simp only [ln, nI, sz, lnd, yyR, yyA, yyB, yyC, yyD, yyE, yyF, yyG, yyH, yyI, yyJ, yyK, yyL, yyM, yyN, yyO, yyP, yyQ] at *); omega
theorem o_arith (a b c : Int) : Ok (m_expr_arithmetic fu a b c) (fun _ => True) := by unfold m_expr_arithmetic; (repeat' (first | with_reducible exact Ok.tt | with_reducible refine Ok.con (fun _ => ?_) (fun _ => ?_) | with_reducible refine Ok.cnt ?_ ?_ | with_reducible refine Ok.ixN ?_ (fun _ _ => ?_) | with_reducible refine Ok.ix ?_ ?_ (fun _ _ => ?_) | with_reducible refine Ok.sl ?_ ?_ ?_ ?_ | with_reducible refine Ok.ap ?_ ?_ | with_reducible refine Ok.strN ?_ (fun _ _ => ?_) | with_reducible refine Ok.bde rfl ?_))
theorem o_res1 (a : Int) (b : Bool) : Ok (m_expr_result_1 fu a b) (fun _ => True) := by unfold m_expr_result_1; (repeat' (first | with_reducible exact Ok.tt | with_reducible refine Ok.con (fun _ => ?_) (fun _ => ?_) | with_reducible refine Ok.cnt ?_ ?_ | with_reducible refine Ok.ixN ?_ (fun _ _ => ?_) | with_reducible refine Ok.ix ?_ ?_ (fun _ _ => ?_) | with_reducible refine Ok.sl ?_ ?_ ?_ ?_ | with_reducible refine Ok.ap ?_ ?_ | with_reducible refine Ok.strN ?_ (fun _ _ => ?_) | with_reducible refine Ok.bde rfl ?_))
theorem o_result (op : Int) {l : List MTy} (h0 : 0 < l.length) (h2 : op = 26 → 3 ≤ l.length) : Ok (m_expr_result fu op l) (fun _ => True) := by
 unfold m_expr_result
 simp only [m_expr_ordered, m_expr_numeric, bd_of]
 refine Ok.ix (by omega) (by omega) fun e1 _ => Ok.con (fun q => ?_) fun _ => ?_
 ·(try simp only [ln, nI, sz, lnd, yyR, yyA, yyB, yyC, yyD, yyE, yyF, yyG, yyH, yyI, yyJ, yyK, yyL, yyM, yyN, yyO, yyP, yyQ] at *)
  refine Ok.ix (by omega) (by omega) fun e2 _ => ?_
  repeat' (first | (first | with_reducible exact Ok.tt | with_reducible refine Ok.con (fun _ => ?_) (fun _ => ?_) | with_reducible refine Ok.cnt ?_ ?_ | with_reducible refine Ok.ixN ?_ (fun _ _ => ?_) | with_reducible refine Ok.ix ?_ ?_ (fun _ _ => ?_) | with_reducible refine Ok.sl ?_ ?_ ?_ ?_ | with_reducible refine Ok.ap ?_ ?_ | with_reducible refine Ok.strN ?_ (fun _ _ => ?_) | with_reducible refine Ok.bde rfl ?_) | with_reducible refine Ok.bd (o_arith _ _ _) (fun _ _ => ?_) | with_reducible refine Ok.bd (o_res1 _ _) (fun _ _ => ?_))
  all_goals ((try simp only [ln, nI, sz, lnd, yyR, yyA, yyB, yyC, yyD, yyE, yyF, yyG, yyH, yyI, yyJ, yyK, yyL, yyM, yyN, yyO, yyP, yyQ] at *); omega)
 ·repeat' (first | (first | with_reducible exact Ok.tt | with_reducible refine Ok.con (fun _ => ?_) (fun _ => ?_) | with_reducible refine Ok.cnt ?_ ?_ | with_reducible refine Ok.ixN ?_ (fun _ _ => ?_) | with_reducible refine Ok.ix ?_ ?_ (fun _ _ => ?_) | with_reducible refine Ok.sl ?_ ?_ ?_ ?_ | with_reducible refine Ok.ap ?_ ?_ | with_reducible refine Ok.strN ?_ (fun _ _ => ?_) | with_reducible refine Ok.bde rfl ?_) | with_reducible refine Ok.bd (o_arith _ _ _) (fun _ _ => ?_) | with_reducible refine Ok.bd (o_res1 _ _) (fun _ _ => ?_))
  all_goals ((try simp only [ln, nI, sz, lnd, yyR, yyA, yyB, yyC, yyD, yyE, yyF, yyG, yyH, yyI, yyJ, yyK, yyL, yyM, yyN, yyO, yyP, yyQ] at *); omega)
theorem o_typeOf {n : MNode} {l : List MTy} (s : MSignature) (h : (l.length : Int) = arB n.op) : Ok (m_expr_typeOf fu n l s) (fun v => v.2 = 0 → MemOk n s) := by
 have hc := ar_cases n.op
 unfold m_expr_typeOf
 refine Ok.bd (o_number n) fun c _ => Ok.con (fun q => Ok.ret fun h => ?_) fun _ => Ok.con (fun q => Ok.bd (o_leaf n s) fun c hc => Ok.ret hc) fun q0 => ?_
 ·(try simp only [ln, nI, sz, lnd, yyR, yyA, yyB, yyC, yyD, yyE, yyF, yyG, yyH, yyI, yyJ, yyK, yyL, yyM, yyN, yyO, yyP, yyQ] at *); exact absurd h q
 have h0 : ¬ (36 ≤ n.op ∧ n.op ≤ 39) := by (try simp only [ln, nI, sz, lnd, yyR, yyA, yyB, yyC, yyD, yyE, yyF, yyG, yyH, yyI, yyJ, yyK, yyL, yyM, yyN, yyO, yyP, yyQ] at *); omega
 have hm : MemOk n s := fun h1 h2 => absurd ⟨h1, h2⟩ h0
 refine Ok.con (fun q => Ok.bd (o_table _ _) fun _ _ => Ok.con (fun _ => Ok.ret fun _ => hm) fun _ => Ok.bd (o_VType _ _) fun _ _ => Ok.con (fun _ => Ok.ret fun _ => hm) fun _ => Ok.bd (o_VType _ _) fun _ _ => Ok.con (fun _ => Ok.ret fun _ => hm) fun _ => Ok.ix (by omega) (by (try simp only [ln, nI, sz, lnd, yyR, yyA, yyB, yyC, yyD, yyE, yyF, yyG, yyH, yyI, yyJ, yyK, yyL, yyM, yyN, yyO, yyP, yyQ] at *); omega) fun _ _ => Ok.con (fun _ => Ok.ret fun _ => hm) fun _ => Ok.con (fun _ => Ok.ret fun _ => hm) fun _ => Ok.con (fun _ => Ok.ret fun _ => hm) fun _ => Ok.ret fun _ => hm) fun q => ?_
 exact Ok.bd (o_result n.op (by (try simp only [ln, nI, sz, lnd, yyR, yyA, yyB, yyC, yyD, yyE, yyF, yyG, yyH, yyI, yyJ, yyK, yyL, yyM, yyN, yyO, yyP, yyQ] at *); omega) (by (try simp only [ln, nI, sz, lnd, yyR, yyA, yyB, yyC, yyD, yyE, yyF, yyG, yyH, yyI, yyJ, yyK, yyL, yyM, yyN, yyO, yyP, yyQ] at *); omega)) fun _ _ => Ok.con (fun _ => Ok.ret fun _ => hm) fun _ => Ok.ret fun _ => hm
def TyOk (fu : Nat) (e : List MNode) (s : MSignature) (l : List Int) (ts : List MTy) (m : Nat) : Prop :=
 ∀ i n, i < m → e[i]? = some n → ∃ (ops : List Int) (args : List MTy) (t : MTy), m_expr_operands fu e l (nI i) = some ops ∧ ops.length = args.length ∧ (∀ (k : Nat) (x : Int), ops[k]? = some x → 0 ≤ x ∧ x < i ∧ ts[x.toNat]? = args[k]?) ∧ ts[i]? = some t ∧ m_expr_typeOf fu n args s = some (t, 0) ∧ MemOk n s
theorem o_TypeOf (hf : 200000 ≤ fu) (e : List MNode) (s : MSignature) : Ok (m_expr_TypeOf fu e s) (fun v => v.2.2 = 0 → ∃ l i0 ts, m_expr_starts fu e = some (l, i0, 0) ∧ Sts e l ∧ 0 < e.length ∧ e.length ≤ 48 ∧ ts.length = e.length ∧ TyOk fu e s l ts e.length ∧ ts[e.length - 1]? = some v.1) := by
 unfold m_expr_TypeOf
 obtain ⟨st, hst, hp⟩ := o_starts hf (e := e)
 rw [hst, bd_of]
 refine Ok.con (fun q => Ok.ret fun h => ?_) fun q0 => ?_
 ·(try simp only [ln, nI, sz, lnd, yyR, yyA, yyB, yyC, yyD, yyE, yyF, yyG, yyH, yyI, yyJ, yyK, yyL, yyM, yyN, yyO, yyP, yyQ] at *); exact absurd h q
 (try simp only [ln, nI, sz, lnd, yyR, yyA, yyB, yyC, yyD, yyE, yyF, yyG, yyH, yyI, yyJ, yyK, yyL, yyM, yyN, yyO, yyP, yyQ] at *)
 obtain ⟨hs, h0, h48⟩ := hp q0
 refine Ok.mk (by omega) (by omega) ?_
 have hst' : m_expr_starts fu e = some (st.1, st.2.1, 0) := by rw [hst, ← q0]
 refine Ok.loop (fun x : Nat × List MTy => x.1 ≤ e.length ∧ x.2.length = e.length ∧ TyOk fu e s st.1 x.2 x.1) (fun x => e.length - x.1) (fun n x hx rec => ?_) ⟨Nat.zero_le _, by simp, by intro i n hi; exact absurd hi (Nat.not_lt_zero _)⟩ (by simp only; omega)
 obtain ⟨i, ts⟩ := x
 obtain ⟨a1, a2, a3⟩ := hx
 simp only at a1 a2 a3
 simp only [m_expr_TypeOf_L1]
 refine Ok.con (fun q => ?_) fun q => ?_
 ·(try simp only [ln, nI, sz, lnd, yyR, yyA, yyB, yyC, yyD, yyE, yyF, yyG, yyH, yyI, yyJ, yyK, yyL, yyM, yyN, yyO, yyP, yyQ] at *)
  refine Ok.ixN (by omega) fun nd hn => ?_
  obtain ⟨ops, ho, hl, hb⟩ := o_operands hf hs h48 hn
  rw [ho, bd_of]
  have h3 := (ar_le nd.op).2
  refine Ok.loop (fun x : List MTy × Nat => x.2 ≤ ops.length ∧ x.1.length = x.2 ∧ ∀ k (y : Int), k < x.2 → ops[k]? = some y → ts[y.toNat]? = x.1[k]?) (fun x => ops.length - x.2) (fun n x hx rec2 => ?_) ⟨Nat.zero_le _, rfl, fun k y hk => by simp at hk⟩ (by simp only; omega)
  obtain ⟨args, j⟩ := x
  obtain ⟨b1, b2, b3⟩ := hx
  simp only at b1 b2 b3
  simp only [m_expr_TypeOf_L2]
  refine Ok.con (fun q => ?_) fun q => ?_
  ·(try simp only [ln, nI, sz, lnd, yyR, yyA, yyB, yyC, yyD, yyE, yyF, yyG, yyH, yyI, yyJ, yyK, yyL, yyM, yyN, yyO, yyP, yyQ] at *)
   refine Ok.ixN (by omega) fun y hy => ?_
   have hy' := hb y (mem_ix hy)
   refine Ok.ix (by omega) (by omega) fun t ht => Ok.ap (by simp; omega) (Ok.cnt (by omega) (rec2 _ ⟨by simp only; omega, by simp [b2], fun k z hk hz => ?_⟩ (by simp only; omega)))
   simp only at hk ⊢
   by_cases q2 : k = j
   ·subst q2
    rw [hy] at hz; cases hz
    rw [ht, ← b2]; simp
   ·rw [List.getElem?_append_left (by omega)]
    exact b3 k z (by omega) hz
  ·(try simp only [ln, nI, sz, lnd, yyR, yyA, yyB, yyC, yyD, yyE, yyF, yyG, yyH, yyI, yyJ, yyK, yyL, yyM, yyN, yyO, yyP, yyQ] at *)
   refine Ok.bde' (o_typeOf s (by omega)) fun c hc hm => ?_
   refine Ok.con (fun q => Ok.ret fun h => ?_) fun qc => ?_
   ·(try simp only [ln, nI, sz, lnd, yyR, yyA, yyB, yyC, yyD, yyE, yyF, yyG, yyH, yyI, yyJ, yyK, yyL, yyM, yyN, yyO, yyP, yyQ] at *); exact absurd h q
   (try simp only [ln, nI, sz, lnd, yyR, yyA, yyB, yyC, yyD, yyE, yyF, yyG, yyH, yyI, yyJ, yyK, yyL, yyM, yyN, yyO, yyP, yyQ] at *)
   refine Ok.ixN (by omega) fun _ _ => Ok.cnt (by omega) (rec _ ⟨by simp only; omega, by simp [a2], ?_⟩ (by simp only; omega))
   intro k nd' hk hn'
   simp only [nI, Int.toNat_natCast] at hk ⊢
   have up : ∀ m : Nat, m < i → (ts.set i c.1)[m]? = ts[m]? := fun m hm => List.getElem?_set_ne (by omega)
   by_cases q2 : k = i
   ·subst q2
    rw [hn] at hn'; cases hn'
    refine ⟨ops, args, c.1, ho, by omega, fun m y hy => ?_, List.getElem?_set_self (by omega), by rw [hc, ← qc], hm qc⟩
    have hy' := hb y (mem_ix hy)
    refine ⟨hy'.1, hy'.2, ?_⟩
    rw [up _ (by omega)]
    exact b3 m y (by have := lt_ix hy; omega) hy
   ·obtain ⟨o', g', t', c1, c2, c3, c4, c5, c6⟩ := a3 k nd' (by omega) hn'
    refine ⟨o', g', t', c1, c2, fun m y hy => ?_, by rw [up _ (by omega)]; exact c4, c5, c6⟩
    obtain ⟨d1, d2, d3⟩ := c3 m y hy
    exact ⟨d1, d2, by rw [up _ (by omega)]; exact d3⟩
 ·(try simp only [ln, nI, sz, lnd, yyR, yyA, yyB, yyC, yyD, yyE, yyF, yyG, yyH, yyI, yyJ, yyK, yyL, yyM, yyN, yyO, yyP, yyQ] at *)
  have : i = e.length := by omega
  subst this
  rw [w64_id (by omega) (by omega)]
  refine Ok.ix (by omega) (by omega) fun t ht => Ok.ret fun _ => ⟨st.1, st.2.1, ts, by rw [← q0], hs, h0, h48, a2, a3, ?_⟩
  rw [← ht]; congr 1; omega
theorem o_expr (hf : 200000 ≤ fu) (e : List MNode) (s : MSignature) (t : MTy) : Ok (m_law_expression fu e s t) (fun v => v = 0 → ∃ l i0 ts, m_expr_starts fu e = some (l, i0, 0) ∧ Sts e l ∧ 0 < e.length ∧ e.length ≤ 48 ∧ ts.length = e.length ∧ TyOk fu e s l ts e.length ∧ ts[e.length - 1]? = some t) := by
 refine Ok.bd (o_TypeOf hf e s) fun c hc => Ok.con (fun _ => Ok.ret fun h => by cases h) fun q => Ok.ret fun h => ?_
 (try simp only [ln, nI, sz, lnd, yyR, yyA, yyB, yyC, yyD, yyE, yyF, yyG, yyH, yyI, yyJ, yyK, yyL, yyM, yyN, yyO, yyP, yyQ] at *)
 obtain ⟨l, i0, ts, h1, h2, h3, h4, h5, h6, h7⟩ := hc h
 refine ⟨l, i0, ts, h1, h2, h3, h4, h5, h6, ?_⟩
 rw [h7]
 have : c.1 = t := by
  rcases q with q | q
  ·exact absurd h q
  ·cases hh : c.1; cases t; rw [hh] at q; simp at q; simp [q]
 rw [this]
end Go.Ab
set_option linter.unusedVariables false
set_option linter.unusedSimpArgs false
namespace Go.Ab
variable {fu : Nat}
theorem mem_comp {zs : List Int} {x : Int} : x ∈ Go.Lib.compact zs ↔ x ∈ zs := by
 unfold Go.Lib.compact Go.Lib.compactUpTo
 constructor
 ·intro h
  obtain ⟨i, hi, rfl⟩ := List.mem_map.1 h
  have hi' : i < zs.length := List.mem_range.1 (List.mem_filter.1 hi).1
  simp [getElem!_pos, hi']
 ·intro h
  obtain ⟨i, hi⟩ := List.getElem?_of_mem h
  have key : ∀ i : Nat, zs[i]? = some x → x ∈ ((List.range zs.length).filter (Go.Lib.keeps zs.toArray)).map (zs.toArray[·]!) := by
   intro i
   induction i using Nat.strongRecOn with
   | _ i ih =>
    intro hi
    have hl := lt_ix hi
    have hx : zs.toArray[i]! = x := by
     have := (List.getElem?_eq_some_iff.1 hi).2
     simp [getElem!_pos, hl, this]
    cases hk : Go.Lib.keeps zs.toArray i with
    | true => exact List.mem_map.2 ⟨i, List.mem_filter.2 ⟨List.mem_range.2 hl, hk⟩, hx⟩
    | false =>
     simp only [Go.Lib.keeps, decide_eq_false_iff_not, not_or, Decidable.not_not] at hk
     refine ih (i - 1) (by omega) ?_
     have hl' : i - 1 < zs.length := by omega
     rw [hx] at hk
     have := hk.2
     simp [getElem!_pos, hl'] at this
     rw [List.getElem?_eq_getElem hl', this]
  exact key i hi
theorem comp_len (zs : List Int) : (Go.Lib.compact zs).length ≤ zs.length := by
 unfold Go.Lib.compact Go.Lib.compactUpTo
 rw [List.length_map]
 exact Nat.le_trans (List.length_filter_le _ _) (by simp)
theorem o_Sort {xs : List Int} (h : xs.length ≤ 1000000) : Ok (m_slices_Sort_int fu xs) (fun v => v.length = xs.length ∧ ∀ x, x ∈ v ↔ x ∈ xs) := by
 unfold m_slices_Sort_int
 rw [decide_eq_true h]
 exact Ok.ret ⟨List.length_mergeSort _, fun x => List.mem_mergeSort⟩
theorem o_Comp {xs : List Int} (h : xs.length ≤ 1000000) : Ok (m_slices_Compact_int fu xs) (fun v => v.length ≤ xs.length ∧ ∀ x, x ∈ v ↔ x ∈ xs) := by
 unfold m_slices_Compact_int
 rw [decide_eq_true h]
 exact Ok.ret ⟨comp_len xs, fun x => mem_comp⟩
theorem o_uniq {xs : List Int} (h : xs.length ≤ 1000000) : Ok (bd (m_slices_Sort_int fu xs) fun c_1 => bd (m_slices_Compact_int fu c_1) fun c_2 => some c_2) (fun v => v.length ≤ xs.length ∧ ∀ x, x ∈ v ↔ x ∈ xs) :=
 Ok.bd (o_Sort h) fun c hc => Ok.bd (o_Comp (by omega)) fun d hd => Ok.ret ⟨by omega, fun x => by rw [hd.2, hc.2]⟩
theorem mem_ap {α : Type} {xs : List α} {y x : α} : x ∈ xs ++ [y] ↔ x ∈ xs ∨ x = y := by simp
theorem ex_succ {α : Type} {xs : List α} {i : Nat} {e : α} (h : xs[i]? = some e) {p : α → Prop} : (∃ k a, k < i + 1 ∧ xs[k]? = some a ∧ p a) ↔ (∃ k a, k < i ∧ xs[k]? = some a ∧ p a) ∨ p e := by
 constructor
 ·rintro ⟨k, a, hk, ha, hp⟩
  by_cases q : k = i
  ·subst q; rw [h] at ha; cases ha; exact .inr hp
  ·exact .inl ⟨k, a, by omega, ha, hp⟩
 ·rintro (⟨k, a, hk, ha, hp⟩ | hp)
  ·exact ⟨k, a, by omega, ha, hp⟩
  ·exact ⟨i, e, by omega, h, hp⟩
theorem ex_all {α : Type} {xs : List α} {i : Nat} (h : xs.length ≤ i) {p : α → Prop} : (∃ k a, k < i ∧ xs[k]? = some a ∧ p a) ↔ ∃ a ∈ xs, p a := by
 constructor
 ·rintro ⟨k, a, hk, ha, hp⟩; exact ⟨a, mem_ix ha, hp⟩
 ·rintro ⟨a, ha, hp⟩
  obtain ⟨k, hk⟩ := List.getElem?_of_mem ha
  exact ⟨k, a, by have := lt_ix hk; omega, hk, hp⟩
theorem o_Refs (hf : 200000 ≤ fu) {e : List MNode} (he : e.length ≤ 50) : Ok (m_expr_References fu e) (fun v => v.2.1.length ≤ 50 ∧ v.2.2.length ≤ 50 ∧ (∀ x, x ∈ v.2.1 ↔ ∃ n ∈ e, n.op = 8 ∧ n.n = x) ∧ (∀ x, x ∈ v.2.2 ↔ ∃ n ∈ e, (36 ≤ n.op ∧ n.op ≤ 39) ∧ n.n = x)) := by
 unfold m_expr_References
 refine Ok.loop (fun x => x.2.2.2 ≤ e.length ∧ x.1.length ≤ x.2.2.2 ∧ x.2.1.length ≤ x.2.2.2 ∧ x.2.2.1.length ≤ x.2.2.2 ∧ (∀ y, y ∈ x.2.1 ↔ ∃ k n, k < x.2.2.2 ∧ e[k]? = some n ∧ (n.op = 8 ∧ n.n = y)) ∧ (∀ y, y ∈ x.2.2.1 ↔ ∃ k n, k < x.2.2.2 ∧ e[k]? = some n ∧ ((36 ≤ n.op ∧ n.op ≤ 39) ∧ n.n = y))) (fun x => e.length - x.2.2.2) (fun m x hi rec => ?_) ⟨Nat.zero_le _, Nat.le_refl _, Nat.le_refl _, Nat.le_refl _, fun y => by simp, fun y => by simp⟩ (by simp only; omega)
 obtain ⟨ins, dfs, ms, i⟩ := x
 obtain ⟨h1, h2, h3, h4, h5, h6⟩ := hi
 simp only at h1 h2 h3 h4 h5 h6
 simp only [m_expr_References_L1]
 refine Ok.con (fun q => ?_) fun q => ?_
 ·(try simp only [ln, nI, sz, lnd, yyR, yyA, yyB, yyC, yyD, yyE, yyF, yyG, yyH, yyI, yyJ, yyK, yyL, yyM, yyN, yyO, yyP, yyQ] at *)
  refine Ok.ixN (by omega) fun n hn => ?_
  have key : ∀ (a b c : List Int), a.length ≤ i + 1 → b.length ≤ i + 1 → c.length ≤ i + 1 → (∀ y, y ∈ b ↔ y ∈ dfs ∨ (n.op = 8 ∧ n.n = y)) → (∀ y, y ∈ c ↔ y ∈ ms ∨ ((36 ≤ n.op ∧ n.op ≤ 39) ∧ n.n = y)) → Ok (cnt i (m_expr_References_L1 e (fun p_13 => bd (m_expr_References_1 fu p_13.1) fun c_14 => bd (m_expr_References_1 fu p_13.2.1) fun c_15 => bd (m_expr_References_1 fu p_13.2.2) fun c_16 => some (c_14, c_15, c_16)) m (a, b, c, i + 1))) (fun v => v.2.1.length ≤ 50 ∧ v.2.2.length ≤ 50 ∧ (∀ x, x ∈ v.2.1 ↔ ∃ n ∈ e, n.op = 8 ∧ n.n = x) ∧ (∀ x, x ∈ v.2.2 ↔ ∃ n ∈ e, (36 ≤ n.op ∧ n.op ≤ 39) ∧ n.n = x)) := by
   intro a b c la lb lc hb hc
   refine Ok.cnt (by omega) (rec _ ⟨by simp only; omega, la, lb, lc, fun y => ?_, fun y => ?_⟩ (by simp only; omega))
   ·rw [hb, h5, ex_succ hn]
   ·rw [hc, h6, ex_succ hn]
  have l1 : ∀ (xs : List Int) (y : Int), xs.length ≤ i → (xs ++ [y]).length ≤ i + 1 := fun xs y h => by simp; omega
  refine Ok.con (fun q => ?_) fun q7 => Ok.con (fun q => ?_) fun q8 => Ok.con (fun q => ?_) fun q36 => Ok.con (fun q => ?_) fun q37 => Ok.con (fun q => ?_) fun q38 => Ok.con (fun q => ?_) fun q39 => ?_
  ·(try simp only [ln, nI, sz, lnd, yyR, yyA, yyB, yyC, yyD, yyE, yyF, yyG, yyH, yyI, yyJ, yyK, yyL, yyM, yyN, yyO, yyP, yyQ] at *); exact Ok.ap (by simp; omega) (key _ _ _ (l1 _ _ h2) (by omega) (by omega) (fun y => ⟨.inl, fun h => h.elim id fun h => by omega⟩) (fun y => ⟨.inl, fun h => h.elim id fun h => by omega⟩))
  ·(try simp only [ln, nI, sz, lnd, yyR, yyA, yyB, yyC, yyD, yyE, yyF, yyG, yyH, yyI, yyJ, yyK, yyL, yyM, yyN, yyO, yyP, yyQ] at *); exact Ok.ap (by simp; omega) (key _ _ _ (by omega) (l1 _ _ h3) (by omega) (fun y => by rw [mem_ap]; exact ⟨fun h => h.imp id fun h => ⟨q, h.symm⟩, fun h => h.imp id fun h => h.2.symm⟩) (fun y => ⟨.inl, fun h => h.elim id fun h => by omega⟩))
  ·(try simp only [ln, nI, sz, lnd, yyR, yyA, yyB, yyC, yyD, yyE, yyF, yyG, yyH, yyI, yyJ, yyK, yyL, yyM, yyN, yyO, yyP, yyQ] at *); exact Ok.ap (by simp; omega) (key _ _ _ (by omega) (by omega) (l1 _ _ h4) (fun y => ⟨.inl, fun h => h.elim id fun h => by omega⟩) (fun y => by rw [mem_ap]; exact ⟨fun h => h.imp id fun h => ⟨by omega, h.symm⟩, fun h => h.imp id fun h => h.2.symm⟩))
  ·(try simp only [ln, nI, sz, lnd, yyR, yyA, yyB, yyC, yyD, yyE, yyF, yyG, yyH, yyI, yyJ, yyK, yyL, yyM, yyN, yyO, yyP, yyQ] at *); exact Ok.ap (by simp; omega) (key _ _ _ (by omega) (by omega) (l1 _ _ h4) (fun y => ⟨.inl, fun h => h.elim id fun h => by omega⟩) (fun y => by rw [mem_ap]; exact ⟨fun h => h.imp id fun h => ⟨by omega, h.symm⟩, fun h => h.imp id fun h => h.2.symm⟩))
  ·(try simp only [ln, nI, sz, lnd, yyR, yyA, yyB, yyC, yyD, yyE, yyF, yyG, yyH, yyI, yyJ, yyK, yyL, yyM, yyN, yyO, yyP, yyQ] at *); exact Ok.ap (by simp; omega) (key _ _ _ (by omega) (by omega) (l1 _ _ h4) (fun y => ⟨.inl, fun h => h.elim id fun h => by omega⟩) (fun y => by rw [mem_ap]; exact ⟨fun h => h.imp id fun h => ⟨by omega, h.symm⟩, fun h => h.imp id fun h => h.2.symm⟩))
  ·(try simp only [ln, nI, sz, lnd, yyR, yyA, yyB, yyC, yyD, yyE, yyF, yyG, yyH, yyI, yyJ, yyK, yyL, yyM, yyN, yyO, yyP, yyQ] at *); exact Ok.ap (by simp; omega) (key _ _ _ (by omega) (by omega) (l1 _ _ h4) (fun y => ⟨.inl, fun h => h.elim id fun h => by omega⟩) (fun y => by rw [mem_ap]; exact ⟨fun h => h.imp id fun h => ⟨by omega, h.symm⟩, fun h => h.imp id fun h => h.2.symm⟩))
  ·(try simp only [ln, nI, sz, lnd, yyR, yyA, yyB, yyC, yyD, yyE, yyF, yyG, yyH, yyI, yyJ, yyK, yyL, yyM, yyN, yyO, yyP, yyQ] at *); exact key _ _ _ (by omega) (by omega) (by omega) (fun y => ⟨.inl, fun h => h.elim id fun h => by omega⟩) (fun y => ⟨.inl, fun h => h.elim id fun h => by omega⟩)
 ·(try simp only [ln, nI, sz, lnd, yyR, yyA, yyB, yyC, yyD, yyE, yyF, yyG, yyH, yyI, yyJ, yyK, yyL, yyM, yyN, yyO, yyP, yyQ] at *)
  refine Ok.bd (o_uniq (xs := ins) (by omega)) fun _ _ => Ok.bd (o_uniq (xs := dfs) (by omega)) fun c hc => Ok.bd (o_uniq (xs := ms) (by omega)) fun d hd => Ok.ret ⟨by simp only; omega, by simp only; omega, fun x => ?_, fun x => ?_⟩
  ·simp only; rw [hc.2, h5, ex_all (by omega)]
  ·simp only; rw [hd.2, h6, ex_all (by omega)]
def Dir (s : MScope) (d x : Int) : Prop := (0 ≤ d ∧ d < s.defs.length) ∧ (0 ≤ x ∧ x < s.defs.length) ∧ ∃ r ∈ s.rules, r.df = d ∧ ∃ e, (e = r.guard ∨ e = r.value) ∧ ∃ n ∈ e, n.op = 8 ∧ n.n = x
theorem o_Direct (hf : 200000 ≤ fu) {s : MScope} (hs : SzScope s) (d : Int) : Ok (m_deps_Direct fu s d) (fun v => v.length ≤ 6000 ∧ ∀ x, x ∈ v ↔ Dir s d x) := by
 unfold m_deps_Direct m_deps_valid
 rw [bd_of]
 refine Ok.con (fun q => Ok.ret ⟨Nat.zero_le _, fun x => ?_⟩) fun q => ?_
 ·(try simp only [ln, nI, sz, lnd, yyR, yyA, yyB, yyC, yyD, yyE, yyF, yyG, yyH, yyI, yyJ, yyK, yyL, yyM, yyN, yyO, yyP, yyQ] at *)
  simp only [List.not_mem_nil, false_iff]
  rintro ⟨h, _⟩; omega
 (try simp only [ln, nI, sz, lnd, yyR, yyA, yyB, yyC, yyD, yyE, yyF, yyG, yyH, yyI, yyJ, yyK, yyL, yyM, yyN, yyO, yyP, yyQ] at *)
 have hr := hs.rules
 refine Ok.rgA (fun (o : List Int) i => o.length ≤ 100 * i ∧ ∀ x, x ∈ o ↔ (0 ≤ x ∧ x < s.defs.length) ∧ ∃ k r, k < i ∧ s.rules[k]? = some r ∧ (r.df = d ∧ ∃ e, (e = r.guard ∨ e = r.value) ∧ ∃ n ∈ e, n.op = 8 ∧ n.n = x)) s.rules.length (by omega) (fun m o i ho hi rec => ?_) hf (o := []) ⟨Nat.zero_le _, fun x => by simp⟩
 obtain ⟨a1, a2⟩ := ho
 simp only [m_deps_Direct_L1]
 refine Ok.con (fun q1 => ?_) fun q1 => ?_
 ·(try simp only [ln, nI, sz, lnd, yyR, yyA, yyB, yyC, yyD, yyE, yyF, yyG, yyH, yyI, yyJ, yyK, yyL, yyM, yyN, yyO, yyP, yyQ] at *)
  refine Ok.ixN (by omega) fun r hr' => Ok.con (fun q2 => ?_) fun q2 => ?_
  ·(try simp only [ln, nI, sz, lnd, yyR, yyA, yyB, yyC, yyD, yyE, yyF, yyG, yyH, yyI, yyJ, yyK, yyL, yyM, yyN, yyO, yyP, yyQ] at *)
   refine Ok.cnt (by omega) (rec _ _ ⟨by omega, fun x => ?_⟩ (by omega) (by omega))
   rw [a2, ex_succ hr']
   exact ⟨fun h => ⟨h.1, .inl h.2⟩, fun h => ⟨h.1, h.2.elim id fun h => absurd h.1 q2⟩⟩
  ·(try simp only [ln, nI, sz, lnd, yyR, yyA, yyB, yyC, yyD, yyE, yyF, yyG, yyH, yyI, yyJ, yyK, yyL, yyM, yyN, yyO, yyP, yyQ] at *)
   have hz := hs.rls r (mem_ix hr')
   refine Ok.rgA (fun (o2 : List Int) t => o2.length ≤ o.length + 50 * t ∧ ∀ x, x ∈ o2 ↔ x ∈ o ∨ (0 ≤ x ∧ x < s.defs.length) ∧ ∃ k e, k < t ∧ [r.guard, r.value][k]? = some e ∧ ∃ n ∈ e, n.op = 8 ∧ n.n = x) 2 (by omega) (fun m o2 t ho2 ht rec2 => ?_) hf (o := o) ⟨by omega, fun x => by simp⟩
   obtain ⟨b1, b2⟩ := ho2
   simp only [m_deps_Direct_L2]
   refine Ok.con (fun q3 => ?_) fun q3 => ?_
   ·have q3' : t < 2 := by simpa [nI] using q3
    refine Ok.ixN (by simpa using q3') fun e he => ?_
    have hel : e.length ≤ 50 := by
     have := mem_ix he
     simp at this
     rcases this with rfl | rfl
     ·exact hz.guard
     ·exact hz.value
    refine Ok.bd (o_Refs hf hel) fun c hc => ?_
    obtain ⟨c1, _, c2, _⟩ := hc
    refine Ok.rgA (fun (o3 : List Int) u => o3.length ≤ o2.length + u ∧ ∀ x, x ∈ o3 ↔ x ∈ o2 ∨ (0 ≤ x ∧ x < s.defs.length) ∧ ∃ k y, k < u ∧ c.2.1[k]? = some y ∧ y = x) c.2.1.length (by omega) (fun m o3 u ho3 hu rec3 => ?_) hf (o := o2) ⟨by omega, fun x => by simp⟩
    obtain ⟨d1, d2⟩ := ho3
    simp only [m_deps_Direct_L3, m_deps_valid, bd_of]
    refine Ok.con (fun q4 => ?_) fun q4 => ?_
    ·(try simp only [ln, nI, sz, lnd, yyR, yyA, yyB, yyC, yyD, yyE, yyF, yyG, yyH, yyI, yyJ, yyK, yyL, yyM, yyN, yyO, yyP, yyQ] at *)
     refine Ok.ixN (by omega) fun y hy => Ok.con (fun q5 => ?_) fun q5 => ?_
     ·(try simp only [ln, nI, sz, lnd, yyR, yyA, yyB, yyC, yyD, yyE, yyF, yyG, yyH, yyI, yyJ, yyK, yyL, yyM, yyN, yyO, yyP, yyQ] at *)
      refine Ok.ap (by simp; omega) (Ok.cnt (by omega) (rec3 _ _ ⟨by simp; omega, fun x => ?_⟩ (by omega) (by omega)))
      rw [mem_ap, d2, ex_succ hy]
      constructor
      ·rintro ((h | h) | rfl)
       ·exact .inl h
       ·exact .inr ⟨h.1, .inl h.2⟩
       ·exact .inr ⟨q5, .inr rfl⟩
      ·rintro (h | ⟨h, h' | rfl⟩)
       ·exact .inl (.inl h)
       ·exact .inl (.inr ⟨h, h'⟩)
       ·exact .inr rfl
     ·(try simp only [ln, nI, sz, lnd, yyR, yyA, yyB, yyC, yyD, yyE, yyF, yyG, yyH, yyI, yyJ, yyK, yyL, yyM, yyN, yyO, yyP, yyQ] at *)
      refine Ok.cnt (by omega) (rec3 _ _ ⟨by omega, fun x => ?_⟩ (by omega) (by omega))
      rw [d2, ex_succ hy]
      constructor
      ·rintro (h | h)
       ·exact .inl h
       ·exact .inr ⟨h.1, .inl h.2⟩
      ·rintro (h | ⟨h, h' | rfl⟩)
       ·exact .inl h
       ·exact .inr ⟨h, h'⟩
       ·omega
    ·(try simp only [ln, nI, sz, lnd, yyR, yyA, yyB, yyC, yyD, yyE, yyF, yyG, yyH, yyI, yyJ, yyK, yyL, yyM, yyN, yyO, yyP, yyQ] at *)
     refine Ok.cnt (by omega) (rec2 o3 (t + 1) ⟨by omega, fun x => ?_⟩ (by omega) (by omega))
     rw [d2, b2, ex_succ he, ex_all (xs := c.2.1) (i := u) (by omega)]
     have e1 : (∃ a ∈ c.2.1, a = x) ↔ ∃ n ∈ e, n.op = 8 ∧ n.n = x := by
      rw [← c2]; exact ⟨fun ⟨a, h, e⟩ => e ▸ h, fun h => ⟨x, h, rfl⟩⟩
     rw [e1]
     constructor
     ·rintro ((h | h) | h)
      ·exact .inl h
      ·exact .inr ⟨h.1, .inl h.2⟩
      ·exact .inr ⟨h.1, .inr h.2⟩
     ·rintro (h | ⟨h, h' | h'⟩)
      ·exact .inl (.inl h)
      ·exact .inl (.inr ⟨h, h'⟩)
      ·exact .inr ⟨h, h'⟩
   ·have q3' : 2 ≤ t := by simpa [nI] using q3
    refine Ok.cnt (by omega) (rec o2 (i + 1) ⟨by omega, fun x => ?_⟩ (by omega) (by omega))
    rw [b2, a2, ex_succ hr', ex_all (xs := [r.guard, r.value]) (i := t) q3']
    have e1 : (∃ a ∈ [r.guard, r.value], ∃ n ∈ a, n.op = 8 ∧ n.n = x) ↔ (r.df = d ∧ ∃ e, (e = r.guard ∨ e = r.value) ∧ ∃ n ∈ e, n.op = 8 ∧ n.n = x) := by
     simp [q2]
    rw [e1]
    constructor
    ·rintro (h | h)
     ·exact ⟨h.1, .inl h.2⟩
     ·exact ⟨h.1, .inr h.2⟩
    ·rintro ⟨h, h' | h'⟩
     ·exact .inl ⟨h, h'⟩
     ·exact .inr ⟨h, h'⟩
 ·(try simp only [ln, nI, sz, lnd, yyR, yyA, yyB, yyC, yyD, yyE, yyF, yyG, yyH, yyI, yyJ, yyK, yyL, yyM, yyN, yyO, yyP, yyQ] at *)
  refine (o_uniq (xs := o) (by omega)).mono fun v hv => ⟨by omega, fun x => ?_⟩
  rw [hv.2, a2, ex_all (xs := s.rules) (i := i) (by omega)]
  exact ⟨fun h => ⟨q, h⟩, fun h => h.2⟩
inductive Rch (s : MScope) : Int → Int → Prop
 | one {d x} : Dir s d x → Rch s d x
 | step {d x y} : Rch s d x → Dir s x y → Rch s d y
theorem Rch.val {s : MScope} {d x : Int} (h : Rch s d x) : 0 ≤ x ∧ x < s.defs.length := by
 cases h with
 | one h => exact h.2.1
 | step _ h => exact h.2.1
theorem cnt_set : ∀ (l : List Bool) (i : Nat), l[i]? = some false → (l.set i true).countP (!·) + 1 = l.countP (!·)
 | b :: l, 0, h => by simp at h; subst h; simp
 | b :: l, i + 1, h => by
  have := cnt_set l i (by simpa using h)
  rw [List.set_cons_succ, List.countP_cons, List.countP_cons]
  omega
theorem tail1 {y : Int} {xs : List Int} : (List.drop (1 : Int).toNat (y :: xs)).take (((y :: xs).length : Int).toNat - (1 : Int).toNat) = xs := by
 simp
theorem o_Trans (hf : 200000 ≤ fu) {s : MScope} (hs : SzScope s) (d : Int) : Ok (m_deps_Transitive fu s d) (fun v => v.length ≤ 14 ∧ ∀ x, x ∈ v ↔ Rch s d x) := by
 have hd := hs.defs
 unfold m_deps_Transitive m_deps_valid
 rw [bd_of]
 refine Ok.con (fun q => Ok.ret ⟨Nat.zero_le _, fun x => ?_⟩) fun q => ?_
 ·(try simp only [ln, nI, sz, lnd, yyR, yyA, yyB, yyC, yyD, yyE, yyF, yyG, yyH, yyI, yyJ, yyK, yyL, yyM, yyN, yyO, yyP, yyQ] at *)
  simp only [List.not_mem_nil, false_iff]
  intro h
  have : 0 ≤ d ∧ d < s.defs.length := by
   clear q
   induction h with
   | one h => exact h.1
   | step _ _ ih => exact ih
  omega
 (try simp only [ln, nI, sz, lnd, yyR, yyA, yyB, yyC, yyD, yyE, yyF, yyG, yyH, yyI, yyJ, yyK, yyL, yyM, yyN, yyO, yyP, yyQ] at *)
 refine Ok.mk (by omega) (by omega) (Ok.bd (o_Direct hf hs d) fun c hc => ?_)
 refine Ok.loop (fun x => x.2.length = s.defs.length ∧ x.1.length ≤ 6000 * 15 ∧ x.1.length + 6000 * x.2.countP (!·) ≤ 6000 * 15 ∧ (∀ y ∈ x.1, Rch s d y) ∧ (∀ k : Nat, x.2[k]? = some true → Rch s d k) ∧ (∀ y, Dir s d y → y ∈ x.1 ∨ x.2[y.toNat]? = some true) ∧ (∀ (k : Nat) y, x.2[k]? = some true → Dir s k y → y ∈ x.1 ∨ x.2[y.toNat]? = some true)) (fun x => x.1.length + 6001 * x.2.countP (!·)) (fun m x hi rec => ?_) ⟨by simp, by simp only; omega, ?_, fun y hy => .one ((hc.2 y).1 hy), fun k hk => ?_, fun y hy => .inl ((hc.2 y).2 hy), fun k y hk => ?_⟩ ?_
 ·obtain ⟨todo, seen⟩ := x
  obtain ⟨a1, a2, a3, a4, a5, a6, a7⟩ := hi
  simp only at a1 a2 a3 a4 a5 a6 a7
  simp only [m_deps_Transitive_L1]
  refine Ok.con (fun q1 => ?_) fun q1 => ?_
  ·(try simp only [ln, nI, sz, lnd, yyR, yyA, yyB, yyC, yyD, yyE, yyF, yyG, yyH, yyI, yyJ, yyK, yyL, yyM, yyN, yyO, yyP, yyQ] at *)
   cases todo with
   | nil => simp at q1
   | cons y todo =>
    have hy := a4 y (by simp)
    have hv := hy.val
    refine Ok.ix (by omega) (by simp) fun y1 h1 => ?_
    simp at h1; subst h1
    refine Ok.ix (by omega) (by omega) fun b hb => Ok.con (fun q2 => ?_) fun q2 => ?_
    ·have hb' : seen[y.toNat]? = some false := by rw [hb]; simpa using q2
     refine Ok.ix (by omega) (by simp) fun y1 h1 => ?_
     simp at h1; subst h1
     refine Ok.ix (by omega) (by omega) fun b2 hb2 => Ok.ix (by omega) (by simp) fun y1 h1 => ?_
     simp at h1; subst h1
     refine Ok.bd (o_Direct hf hs y) fun c2 hc2 => ?_
     have hcn := cnt_set seen y.toNat hb'
     simp only [List.length_cons] at a2 a3
     refine Ok.ap (by simp only [List.length_cons]; omega) (Ok.sl (by omega) (by simp only [nI, lnd, List.cons_append, List.length_cons, List.length_append]; omega) (by simp) ?_)
     rw [List.cons_append, tail1]
     have hy' : ((y.toNat : Nat) : Int) = y := by omega
     refine rec _ ⟨by simpa using a1, by simp only [List.length_append]; omega, by simp only [List.length_append]; omega, fun z hz => ?_, fun k hk => ?_, fun z hz => ?_, fun k z hk hz => ?_⟩ (by simp only [List.length_append, List.length_cons]; omega)
     ·simp only [List.mem_append] at hz
      rcases hz with hz | hz
      ·exact a4 z (by simp [hz])
      ·exact .step hy ((hc2.2 z).1 hz)
     ·simp only at hk
      by_cases q3 : k = y.toNat
      ·rw [q3, hy']; exact hy
      ·rw [List.getElem?_set_ne (by omega)] at hk; exact a5 k hk
     ·simp only [List.mem_append]
      by_cases q3 : z = y
      ·right; rw [q3, List.getElem?_set_self (by omega)]
      ·rcases a6 z hz with h | h
       ·simp [q3] at h; exact .inl (.inl h)
       ·right
        have := hz.2.1
        rw [List.getElem?_set_ne (by omega)]; exact h
     ·simp only [List.mem_append] at hk ⊢
      have hzv := hz.2.1
      by_cases q3 : k = y.toNat
      ·rw [q3, hy'] at hz
       exact .inl (.inr ((hc2.2 z).2 hz))
      ·rw [List.getElem?_set_ne (by omega)] at hk
       by_cases q4 : z = y
       ·right; rw [q4, List.getElem?_set_self (by omega)]
       ·rcases a7 k z hk hz with h | h
        ·simp [q4] at h; exact .inl (.inl h)
        ·right; rw [List.getElem?_set_ne (by omega)]; exact h
    ·have hb' : seen[y.toNat]? = some true := by rw [hb]; simpa using q2
     simp only [List.length_cons] at a2 a3
     refine Ok.sl (by omega) (by simp only [nI, lnd, List.length_cons]; omega) (by simp) ?_
     rw [tail1]
     refine rec _ ⟨a1, by simp only; omega, by simp only; omega, fun z hz => a4 z (by simp at hz; simp [hz]), a5, fun z hz => ?_, fun k z hk hz => ?_⟩ (by simp only [List.length_cons]; omega)
     ·rcases a6 z hz with h | h
      ·simp at h
       rcases h with rfl | h
       ·exact .inr hb'
       ·exact .inl h
      ·exact .inr h
     ·rcases a7 k z hk hz with h | h
      ·simp at h
       rcases h with rfl | h
       ·exact .inr hb'
       ·exact .inl h
      ·exact .inr h
  ·(try simp only [ln, nI, sz, lnd, yyR, yyA, yyB, yyC, yyD, yyE, yyF, yyG, yyH, yyI, yyJ, yyK, yyL, yyM, yyN, yyO, yyP, yyQ] at *)
   have ht : todo = [] := by cases todo with | nil => rfl | cons _ _ => simp at q1
   subst ht
   have full : ∀ y, Rch s d y → seen[y.toNat]? = some true := by
    intro y h
    induction h with
    | one h => rcases a6 _ h with h | h; cases h; exact h
    | step h1 h2 ih =>
     have hv := h1.val
     rcases a7 _ _ ih (by rw [Int.toNat_of_nonneg hv.1]; exact h2) with h | h
     ·cases h
     ·exact h
   refine Ok.rgA (fun (o : List Int) i => o.length ≤ i ∧ ∀ x, x ∈ o ↔ ∃ k b, k < i ∧ seen[k]? = some b ∧ (b = true ∧ (k : Int) = x)) seen.length (by omega) (fun m o i ho hi rec => ?_) hf (o := []) ⟨Nat.le_refl _, fun x => by simp⟩
   obtain ⟨b1, b2⟩ := ho
   simp only [m_deps_Transitive_L2]
   have stp : ∀ b x, seen[i]? = some b → ((∃ k b, k < i + 1 ∧ seen[k]? = some b ∧ (b = true ∧ (k : Int) = x)) ↔ (∃ k b, k < i ∧ seen[k]? = some b ∧ (b = true ∧ (k : Int) = x)) ∨ (b = true ∧ (i : Int) = x)) := by
    intro b x hb
    constructor
    ·rintro ⟨k, b', hk, h1, h2⟩
     by_cases q : k = i
     ·subst q; rw [hb] at h1; cases h1; exact .inr h2
     ·exact .inl ⟨k, b', by omega, h1, h2⟩
    ·rintro (⟨k, b', hk, h1, h2⟩ | h)
     ·exact ⟨k, b', by omega, h1, h2⟩
     ·exact ⟨i, b, by omega, hb, h⟩
   refine Ok.con (fun q2 => ?_) fun q2 => ?_
   ·(try simp only [ln, nI, sz, lnd, yyR, yyA, yyB, yyC, yyD, yyE, yyF, yyG, yyH, yyI, yyJ, yyK, yyL, yyM, yyN, yyO, yyP, yyQ] at *)
    refine Ok.ixN (by omega) fun b hb => Ok.con (fun q3 => ?_) fun q3 => ?_
    ·refine Ok.ap (by simp; omega) (Ok.cnt (by omega) (rec _ _ ⟨by simp; omega, fun x => ?_⟩ (by omega) (by omega)))
     rw [mem_ap, b2, stp b x hb]
     exact or_congr Iff.rfl ⟨fun h => ⟨q3, h.symm⟩, fun h => h.2.symm⟩
    ·refine Ok.cnt (by omega) (rec _ _ ⟨by omega, fun x => ?_⟩ (by omega) (by omega))
     rw [b2, stp b x hb]
     exact ⟨.inl, fun h => h.elim id fun h => by rw [q3] at h; exact Bool.noConfusion h.1⟩
   ·(try simp only [ln, nI, sz, lnd, yyR, yyA, yyB, yyC, yyD, yyE, yyF, yyG, yyH, yyI, yyJ, yyK, yyL, yyM, yyN, yyO, yyP, yyQ] at *)
    refine Ok.ret ⟨by omega, fun x => ?_⟩
    rw [b2]
    constructor
    ·rintro ⟨k, b, hk, h1, rfl, rfl⟩; exact a5 k h1
    ·intro h
     have hv := h.val
     have := full x h
     exact ⟨x.toNat, true, by have := lt_ix this; omega, this, rfl, by omega⟩
 ·have : (List.replicate ((s.defs.length : Int)).toNat false).countP (!·) ≤ 14 := by
   refine Nat.le_trans List.countP_le_length ?_
   simp; omega
  simp only [nI, lnd] at *
  have := hc.1
  omega
 ·rw [List.getElem?_replicate] at hk
  split at hk <;> cases hk
 ·rw [List.getElem?_replicate] at hk
  split at hk <;> cases hk
 ·have : (List.replicate ((s.defs.length : Int)).toNat false).countP (!·) ≤ 14 := by
   refine Nat.le_trans List.countP_le_length ?_
   simp; omega
  have := hc.1
  simp only [nI, lnd] at *
  omega
end Go.Ab
set_option linter.unusedVariables false
set_option linter.unusedSimpArgs false
namespace Go.Ab
variable {fu : Nat}
def Typed (fu : Nat) (e : List MNode) (s : MSignature) (t : MTy) : Prop :=
 ∃ l i0 ts, m_expr_starts fu e = some (l, i0, 0) ∧ Sts e l ∧ 0 < e.length ∧ e.length ≤ 48 ∧ ts.length = e.length ∧ TyOk fu e s l ts e.length ∧ ts[e.length - 1]? = some t
structure RuleOk (fu : Nat) (s : MScope) (sg : MSignature) (i : Nat) (r : MRule) : Prop where
 name : ∀ (j : Nat) (x : MRule), j < i → s.rules[j]? = some x → x.name ≠ r.name
 df : 0 ≤ r.df ∧ r.df < s.defs.length
 parent : -1 ≤ r.parent ∧ r.parent < i
 guard : 0 < r.guard.length → Typed fu r.guard sg (MTy.mk 1 0)
 value : ∃ f, s.defs[r.df.toNat]? = some f ∧ Typed fu r.value sg f.ty
structure ScopeOk (fu : Nat) (l : MLaw) (i : Nat) (s : MScope) : Prop where
 ms : s.ms = -1 ∨ 0 ≤ s.ms ∧ s.ms < i ∧ ∃ m, l.scopes[s.ms.toNat]? = some m ∧ m.ms = -1
 inputs : s.inputs.length ≤ 12
 defs : s.defs.length ≤ 12
 rules : ∀ (j : Nat) (r : MRule), s.rules[j]? = some r → RuleOk fu s (sigOf l s) j r
 acyc : ∀ d : Nat, d < s.defs.length → ¬ Rch s d d
structure LawOk (fu : Nat) (l : MLaw) : Prop where
 scopes : ∀ (i : Nat) (s : MScope), l.scopes[i]? = some s → ScopeOk fu l i s
 names : ∀ (i j : Nat) (s t : MScope), l.scopes[i]? = some s → l.scopes[j]? = some t → s.name = t.name → i = j
theorem o_named (hf : 200000 ≤ fu) {s : MScope} (hs : SzScope s) {i : Nat} {r : MRule} (hr : s.rules[i]? = some r) : Ok (m_law_named fu s (nI i)) (fun v => v = 0 → (∀ (j : Nat) (x : MRule), j < i → s.rules[j]? = some x → x.name ≠ r.name) ∧ (0 ≤ r.df ∧ r.df < s.defs.length) ∧ (-1 ≤ r.parent ∧ r.parent < i)) := by
 have hi := lt_ix hr
 have h60 := hs.rules
 unfold m_law_named
 refine Ok.ixN hi fun r' hr' => ?_
 rw [hr] at hr'; cases hr'
 refine Ok.bd (o_ident hf (hs.rls r (mem_ix hr)).name) fun _ _ => Ok.con (fun _ => Ok.ret fun h => by cases h) fun _ => Ok.sl (by omega) (by simp only [nI]; omega) (by simp only [nI]; omega) ?_
 have e1 : (List.drop (0 : Int).toNat s.rules).take ((nI i).toNat - (0 : Int).toNat) = s.rules.take i := by simp [nI]
 rw [e1]
 have tk : ∀ j, j < i → (s.rules.take i)[j]? = s.rules[j]? := fun j hj => List.getElem?_take_of_lt hj
 have hl : (s.rules.take i).length = i := by simp; omega
 refine Ok.loop (fun j => j ≤ i ∧ ∀ (k : Nat) (x : MRule), k < j → s.rules[k]? = some x → x.name ≠ r.name) (fun j => i - j) (fun n j hj rec => ?_) ⟨Nat.zero_le _, fun k x hk => by omega⟩ (by omega)
 obtain ⟨hj, ha⟩ := hj
 simp only [m_law_named_L1]
 refine Ok.con (fun q => ?_) fun q => ?_
 ·(try simp only [ln, nI, sz, lnd, yyR, yyA, yyB, yyC, yyD, yyE, yyF, yyG, yyH, yyI, yyJ, yyK, yyL, yyM, yyN, yyO, yyP, yyQ] at *)
  refine Ok.ixN (by omega) fun x hx => Ok.con (fun _ => Ok.ret fun h => by cases h) fun q2 => Ok.cnt (by omega) (rec _ ⟨by omega, fun k y hk hy => ?_⟩ (by omega))
  (try simp only [ln, nI, sz, lnd, yyR, yyA, yyB, yyC, yyD, yyE, yyF, yyG, yyH, yyI, yyJ, yyK, yyL, yyM, yyN, yyO, yyP, yyQ] at *)
  by_cases q3 : k = j
  ·subst q3
   rw [tk k (by omega), hy] at hx; cases hx; exact q2
  ·exact ha k y (by omega) hy
 ·(try simp only [ln, nI, sz, lnd, yyR, yyA, yyB, yyC, yyD, yyE, yyF, yyG, yyH, yyI, yyJ, yyK, yyL, yyM, yyN, yyO, yyP, yyQ] at *)
  have hj' : j = i := by omega
  subst hj'
  refine Ok.con (fun _ => Ok.ret fun h => by cases h) fun q1 => Ok.con (fun _ => Ok.ret fun h => by cases h) fun q2 => ?_
  (try simp only [ln, nI, sz, lnd, yyR, yyA, yyB, yyC, yyD, yyE, yyF, yyG, yyH, yyI, yyJ, yyK, yyL, yyM, yyN, yyO, yyP, yyQ] at *)
  refine Ok.con (fun q3 => ?_) fun q3 => Ok.ret fun _ => ⟨ha, by omega, by omega⟩
  (try simp only [ln, nI, sz, lnd, yyR, yyA, yyB, yyC, yyD, yyE, yyF, yyG, yyH, yyI, yyJ, yyK, yyL, yyM, yyN, yyO, yyP, yyQ] at *)
  exact Ok.ix (by omega) (by omega) fun _ _ => Ok.con (fun _ => Ok.ret fun h => by cases h) fun _ => Ok.ret fun _ => ⟨ha, by omega, by omega⟩
theorem o_rule (hf : 200000 ≤ fu) {s : MScope} (hs : SzScope s) {i : Nat} {r : MRule} (hr : s.rules[i]? = some r) (sg : MSignature) : Ok (m_law_rule fu s (nI i) sg) (fun v => v = 0 → RuleOk fu s sg i r) := by
 have hi := lt_ix hr
 have h60 := hs.rules
 unfold m_law_rule
 refine Ok.bd (o_named hf hs hr) fun c hc => Ok.con (fun q => Ok.ret fun h => ?_) fun q => ?_
 ·(try simp only [ln, nI, sz, lnd, yyR, yyA, yyB, yyC, yyD, yyE, yyF, yyG, yyH, yyI, yyJ, yyK, yyL, yyM, yyN, yyO, yyP, yyQ] at *); exact absurd h q
 (try simp only [ln, nI, sz, lnd, yyR, yyA, yyB, yyC, yyD, yyE, yyF, yyG, yyH, yyI, yyJ, yyK, yyL, yyM, yyN, yyO, yyP, yyQ] at *)
 obtain ⟨h1, h2, h3⟩ := hc q
 refine Ok.ixN hi fun r' hr' => ?_
 rw [hr] at hr'; cases hr'
 refine Ok.sl (by omega) (by omega) (by omega) ?_
 have hl := len_tk s.rules (0 : Int).toNat ((nI i).toNat - (0 : Int).toNat)
 generalize (s.rules.drop (0 : Int).toNat).take ((nI i).toNat - (0 : Int).toNat) = ys at hl
 refine Ok.loop (fun x : Int × Nat => x.2 ≤ ys.length) (fun x => ys.length - x.2) (fun n x hx rec => ?_) (Nat.zero_le _) (by simp only; omega)
 obtain ⟨sm, j⟩ := x
 simp only at hx
 simp only [m_law_rule_L1]
 refine Ok.con (fun q2 => ?_) fun q2 => ?_
 ·(try simp only [ln, nI, sz, lnd, yyR, yyA, yyB, yyC, yyD, yyE, yyF, yyG, yyH, yyI, yyJ, yyK, yyL, yyM, yyN, yyO, yyP, yyQ] at *)
  exact Ok.ixN (by omega) fun x hx => Ok.con (fun _ => Ok.cnt (by omega) (rec _ (by simp only; omega) (by simp only; omega))) fun _ => Ok.cnt (by omega) (rec _ (by simp only; omega) (by simp only; omega))
 ·have vl : 0 ≤ r.df ∧ r.df < s.defs.length := h2
  refine Ok.con (fun _ => Ok.ret fun h => by cases h) fun _ => Ok.con (fun _ => Ok.ret fun h => by cases h) fun _ => Ok.bd (o_source hf (hs.rls r (mem_ix hr)).source) fun _ _ => Ok.con (fun _ => Ok.ret fun h => by cases h) fun _ => Ok.con (fun q3 => ?_) fun q3 => ?_
  ·refine Ok.bd (o_expr hf _ _ _) fun g hg => Ok.con (fun q4 => Ok.ret fun h => ?_) fun q4 => Ok.ix (by omega) (by omega) fun f hf' => Ok.bd (o_expr hf _ _ _) fun w hw => Ok.ret fun h => ?_
   ·(try simp only [ln, nI, sz, lnd, yyR, yyA, yyB, yyC, yyD, yyE, yyF, yyG, yyH, yyI, yyJ, yyK, yyL, yyM, yyN, yyO, yyP, yyQ] at *); exact absurd h q4
   ·(try simp only [ln, nI, sz, lnd, yyR, yyA, yyB, yyC, yyD, yyE, yyF, yyG, yyH, yyI, yyJ, yyK, yyL, yyM, yyN, yyO, yyP, yyQ] at *); exact ⟨h1, h2, h3, fun _ => hg q4, f, hf', hw h⟩
  ·refine Ok.ix (by omega) (by omega) fun f hf' => Ok.bd (o_expr hf _ _ _) fun w hw => Ok.ret fun h => ?_
   (try simp only [ln, nI, sz, lnd, yyR, yyA, yyB, yyC, yyD, yyE, yyF, yyG, yyH, yyI, yyJ, yyK, yyL, yyM, yyN, yyO, yyP, yyQ] at *)
   exact ⟨h1, h2, h3, fun h => by omega, f, hf', hw h⟩
theorem o_IndexI (hf : 200000 ≤ fu) {xs : List Int} (h : xs.length ≤ 900) (v : Int) : Ok (m_slices_Index_int fu xs v) (fun w => (w = -1 ∧ v ∉ xs) ∨ (0 ≤ w ∧ w < xs.length ∧ xs[w.toNat]? = some v)) := by
 unfold m_slices_Index_int
 refine Ok.loop (fun i => i ≤ xs.length ∧ ∀ k, k < i → xs[k]? ≠ some v) (fun i => xs.length - i) (fun n i hi rec => ?_) ⟨Nat.zero_le _, fun k hk => by omega⟩ (by omega)
 obtain ⟨hi, ha⟩ := hi
 simp only [m_slices_Index_int_L1]
 refine Ok.con (fun q => ?_) fun q => Ok.ret (.inl ⟨rfl, fun hm => ?_⟩)
 ·(try simp only [ln, nI, sz, lnd, yyR, yyA, yyB, yyC, yyD, yyE, yyF, yyG, yyH, yyI, yyJ, yyK, yyL, yyM, yyN, yyO, yyP, yyQ] at *)
  refine Ok.ixN (by omega) fun b hb => Ok.con (fun q2 => Ok.ret (.inr ⟨by omega, by omega, by (try simp only [ln, nI, sz, lnd, yyR, yyA, yyB, yyC, yyD, yyE, yyF, yyG, yyH, yyI, yyJ, yyK, yyL, yyM, yyN, yyO, yyP, yyQ] at *); simp only [Int.toNat_natCast]; rw [hb, q2]⟩)) fun q2 => Ok.cnt (by omega) (rec _ ⟨by omega, fun k hk => ?_⟩ (by omega))
  (try simp only [ln, nI, sz, lnd, yyR, yyA, yyB, yyC, yyD, yyE, yyF, yyG, yyH, yyI, yyJ, yyK, yyL, yyM, yyN, yyO, yyP, yyQ] at *)
  by_cases q3 : k = i
  ·subst q3; rw [hb]; intro h; cases h; exact q2 rfl
  ·exact ha k (by omega)
 ·(try simp only [ln, nI, sz, lnd, yyR, yyA, yyB, yyC, yyD, yyE, yyF, yyG, yyH, yyI, yyJ, yyK, yyL, yyM, yyN, yyO, yyP, yyQ] at *)
  obtain ⟨k, hk⟩ := List.getElem?_of_mem hm
  exact ha k (by have := lt_ix hk; omega) hk
theorem o_ContI (hf : 200000 ≤ fu) {xs : List Int} (h : xs.length ≤ 900) (v : Int) : Ok (m_slices_Contains_int fu xs v) (fun w => w = true ↔ v ∈ xs) := by
 refine Ok.bd (o_IndexI hf h v) fun w hw => Ok.ret ?_
 rw [decide_eq_true_eq]
 rcases hw with ⟨rfl, hw⟩ | ⟨h1, h2, h3⟩
 ·exact ⟨fun h => by omega, fun h => absurd h hw⟩
 ·exact ⟨fun _ => mem_ix h3, fun _ => h1⟩
theorem o_scope (hf : 200000 ≤ fu) {l : MLaw} (hl : SzLaw l) {i : Nat} {s : MScope} (hs : l.scopes[i]? = some s) : Ok (m_law_scope fu l (nI i)) (fun v => v.code = 0 → ScopeOk fu l i s) := by
 have hi := lt_ix hs
 have hz := hl.scs s (mem_ix hs)
 have h60 := hz.rules
 have h14 := hz.defs
 have h5 := hl.scopes
 unfold m_law_scope
 refine Ok.ixN hi fun s' hs' => ?_
 rw [hs] at hs'; cases hs'
 simp only [m_law_bad, bd_of]
 have lst : ∀ (L : Nat → Nat → Option MLawError), (∀ n j, L (n + 1) j = (bif (decide ((nI j) < (ln cField s.defs))) then bd (m_deps_Transitive fu s (nI j)) fun c_18 => bd (m_slices_Contains_int fu c_18 (nI j)) fun c_19 => (bif c_19 then some (MLawError.mk 9 3 (nI i) (w64 (200 + (nI j)))) else cnt j (L n (j + 1))) else some (MLawError.mk 0 0 0 0))) → Ok (L fu 0) (fun v => v.code = 0 → ∀ d : Nat, d < s.defs.length → ¬ Rch s d d) := by
  intro L hL
  refine Ok.loop (fun j => j ≤ s.defs.length ∧ ∀ d : Nat, d < j → ¬ Rch s d d) (fun j => s.defs.length - j) (fun n j hj rec => ?_) ⟨Nat.zero_le _, fun d hd => by omega⟩ (by omega)
  obtain ⟨hj, ha⟩ := hj
  rw [hL]
  refine Ok.con (fun q => ?_) fun q => Ok.ret fun _ d hd => ha d (by (try simp only [ln, nI, sz, lnd, yyR, yyA, yyB, yyC, yyD, yyE, yyF, yyG, yyH, yyI, yyJ, yyK, yyL, yyM, yyN, yyO, yyP, yyQ] at *); omega)
  (try simp only [ln, nI, sz, lnd, yyR, yyA, yyB, yyC, yyD, yyE, yyF, yyG, yyH, yyI, yyJ, yyK, yyL, yyM, yyN, yyO, yyP, yyQ] at *)
  refine Ok.bd (o_Trans hf hz _) fun c hc => Ok.bd (o_ContI hf (by omega) _) fun w hw => Ok.con (fun _ => Ok.ret fun h => by cases h) fun q2 => Ok.cnt (by omega) (rec _ ⟨by omega, fun d hd => ?_⟩ (by omega))
  by_cases q3 : d = j
  ·subst q3
   intro h
   have := hw.2 ((hc.2 _).2 h)
   rw [q2] at this; cases this
  ·exact ha d (by omega)
 have mid : ∀ (L : Nat → Nat → Option MLawError) (K : Option MLawError), Ok K (fun v => v.code = 0 → ∀ d : Nat, d < s.defs.length → ¬ Rch s d d) → (∀ n j, L (n + 1) j = (bif (decide ((nI j) < (ln cRule s.rules))) then bd (m_law_rule fu s (nI j) (sigOf l s)) fun c_13 => (bif (c_13 != 0) then some (MLawError.mk c_13 3 (nI i) (w64 (300 + (nI j)))) else cnt j (L n (j + 1))) else K)) → Ok (L fu 0) (fun v => v.code = 0 → (∀ (j : Nat) (r : MRule), s.rules[j]? = some r → RuleOk fu s (sigOf l s) j r) ∧ ∀ d : Nat, d < s.defs.length → ¬ Rch s d d) := by
  intro L K hK hL
  refine Ok.loop (fun j => j ≤ s.rules.length ∧ ∀ (k : Nat) (r : MRule), k < j → s.rules[k]? = some r → RuleOk fu s (sigOf l s) k r) (fun j => s.rules.length - j) (fun n j hj rec => ?_) ⟨Nat.zero_le _, fun k r hk => by omega⟩ (by omega)
  obtain ⟨hj, ha⟩ := hj
  rw [hL]
  refine Ok.con (fun q => ?_) fun q => hK.mono fun v hv h => ⟨fun k r hr => ha k r (by (try simp only [ln, nI, sz, lnd, yyR, yyA, yyB, yyC, yyD, yyE, yyF, yyG, yyH, yyI, yyJ, yyK, yyL, yyM, yyN, yyO, yyP, yyQ] at *); have := lt_ix hr; omega) hr, hv h⟩
  (try simp only [ln, nI, sz, lnd, yyR, yyA, yyB, yyC, yyD, yyE, yyF, yyG, yyH, yyI, yyJ, yyK, yyL, yyM, yyN, yyO, yyP, yyQ] at *)
  have hjr : s.rules[j]? = some s.rules[j] := List.getElem?_eq_getElem (by omega)
  refine Ok.bd (o_rule hf hz hjr _) fun c hc => Ok.con (fun q2 => Ok.ret fun h => ?_) fun q2 => Ok.cnt (by omega) (rec _ ⟨by omega, fun k r hk hr => ?_⟩ (by omega))
  ·(try simp only [ln, nI, sz, lnd, yyR, yyA, yyB, yyC, yyD, yyE, yyF, yyG, yyH, yyI, yyJ, yyK, yyL, yyM, yyN, yyO, yyP, yyQ] at *); exact absurd h q2
  ·(try simp only [ln, nI, sz, lnd, yyR, yyA, yyB, yyC, yyD, yyE, yyF, yyG, yyH, yyI, yyJ, yyK, yyL, yyM, yyN, yyO, yyP, yyQ] at *)
   by_cases q3 : k = j
   ·subst q3
    rw [hjr] at hr; cases hr; exact hc q2
   ·exact ha k r (by omega) hr
 refine Ok.con (fun q => Ok.con (fun _ => Ok.ret fun h => by cases h) fun q1 => ?_) fun q => ?_
 ·(try simp only [ln, nI, sz, lnd, yyR, yyA, yyB, yyC, yyD, yyE, yyF, yyG, yyH, yyI, yyJ, yyK, yyL, yyM, yyN, yyO, yyP, yyQ] at *)
  refine Ok.ix (by omega) (by omega) fun m hm => Ok.con (fun _ => Ok.ret fun h => by cases h) fun q2 => Ok.con (fun _ => Ok.ret fun h => by cases h) fun q3 => Ok.con (fun _ => Ok.ret fun h => by cases h) fun q4 => ?_
  (try simp only [ln, nI, sz, lnd, yyR, yyA, yyB, yyC, yyD, yyE, yyF, yyG, yyH, yyI, yyJ, yyK, yyL, yyM, yyN, yyO, yyP, yyQ] at *)
  refine Ok.bd (o_fields hf hz.inputs hz.inp (by simp) _ _ _) fun c _ => Ok.con (fun q => Ok.ret fun h => by (try simp only [ln, nI, sz, lnd, yyR, yyA, yyB, yyC, yyD, yyE, yyF, yyG, yyH, yyI, yyJ, yyK, yyL, yyM, yyN, yyO, yyP, yyQ] at *); exact absurd h q) fun _ => Ok.bd (o_names hf hz.inputs) fun nm hnm => Ok.bd (o_fields hf hz.defs hz.dfs (by omega) _ _ _) fun c _ => Ok.con (fun q => Ok.ret fun h => by (try simp only [ln, nI, sz, lnd, yyR, yyA, yyB, yyC, yyD, yyE, yyF, yyG, yyH, yyI, yyJ, yyK, yyL, yyM, yyN, yyO, yyP, yyQ] at *); exact absurd h q) fun _ => Ok.bd (o_Sig hf hl hs) fun sg e => ?_
  subst e
  exact (mid (m_law_scope_L1 s fu (sigOf l s) (i : Int) (fun _ => m_law_scope_L2 s fu (i : Int) (fun _ => some (MLawError.mk 0 0 0 0)) fu 0)) _ (lst (m_law_scope_L2 s fu (i : Int) (fun _ => some (MLawError.mk 0 0 0 0))) fun n j => by simp only [m_law_scope_L2, m_law_bad, bd_of, ln, nI, lnd, List.length_map]) fun n j => by simp only [m_law_scope_L1, m_law_bad, bd_of, ln, nI, lnd, List.length_map]).mono fun v hv h => ⟨.inr ⟨by omega, by omega, m, hm, q2⟩, by omega, by omega, (hv h).1, (hv h).2⟩
 ·(try simp only [ln, nI, sz, lnd, yyR, yyA, yyB, yyC, yyD, yyE, yyF, yyG, yyH, yyI, yyJ, yyK, yyL, yyM, yyN, yyO, yyP, yyQ] at *)
  refine Ok.con (fun _ => Ok.ret fun h => by cases h) fun q3 => Ok.con (fun _ => Ok.ret fun h => by cases h) fun q4 => ?_
  (try simp only [ln, nI, sz, lnd, yyR, yyA, yyB, yyC, yyD, yyE, yyF, yyG, yyH, yyI, yyJ, yyK, yyL, yyM, yyN, yyO, yyP, yyQ] at *)
  refine Ok.bd (o_fields hf hz.inputs hz.inp (by simp) _ _ _) fun c _ => Ok.con (fun q => Ok.ret fun h => by (try simp only [ln, nI, sz, lnd, yyR, yyA, yyB, yyC, yyD, yyE, yyF, yyG, yyH, yyI, yyJ, yyK, yyL, yyM, yyN, yyO, yyP, yyQ] at *); exact absurd h q) fun _ => Ok.bd (o_names hf hz.inputs) fun nm hnm => Ok.bd (o_fields hf hz.defs hz.dfs (by omega) _ _ _) fun c _ => Ok.con (fun q => Ok.ret fun h => by (try simp only [ln, nI, sz, lnd, yyR, yyA, yyB, yyC, yyD, yyE, yyF, yyG, yyH, yyI, yyJ, yyK, yyL, yyM, yyN, yyO, yyP, yyQ] at *); exact absurd h q) fun _ => Ok.bd (o_Sig hf hl hs) fun sg e => ?_
  subst e
  exact (mid (m_law_scope_L3 s fu (sigOf l s) (i : Int) (fun _ => m_law_scope_L4 s fu (i : Int) (fun _ => some (MLawError.mk 0 0 0 0)) fu 0)) _ (lst (m_law_scope_L4 s fu (i : Int) (fun _ => some (MLawError.mk 0 0 0 0))) fun n j => by simp only [m_law_scope_L4, m_law_bad, bd_of, ln, nI, lnd, List.length_map]) fun n j => by simp only [m_law_scope_L3, m_law_bad, bd_of, ln, nI, lnd, List.length_map]).mono fun v hv h => ⟨.inl q, by omega, by omega, (hv h).1, (hv h).2⟩
theorem badN {c a b d : Int} {P : Prop} (h : c ≠ 0) : Ok (bd (m_law_bad fu c a b d) fun c => some c) (fun v => v.code = 0 → P) := Ok.bde rfl (Ok.ret fun h' => absurd h' h)
theorem o_nameX (hf : 200000 ≤ fu) {s : BA} (h : s.size ≤ 80) {xs : List BA} (hx : xs.length ≤ 100) (a b : Int) : Ok (m_law_name fu s xs a b) (fun v => v.code = 0 → s ∉ xs) := by
 refine Ok.bd (o_ident hf h) fun c _ => Ok.con (fun _ => badN (by decide)) fun _ => Ok.bd (P := fun w => w = true ↔ s ∈ xs) ?_ fun c hc => Ok.con (fun _ => badN (by decide)) fun q => Ok.ret fun _ hm => by rw [hc.2 hm] at q; cases q
 refine Ok.bd (P := fun w => (w = -1 ∧ s ∉ xs) ∨ (0 ≤ w ∧ s ∈ xs)) ?_ fun w hw => Ok.ret ?_
 ·unfold m_slices_Index_string
  refine Ok.loop (fun i => i ≤ xs.length ∧ ∀ k, k < i → xs[k]? ≠ some s) (fun i => xs.length - i) (fun n i hi rec => ?_) ⟨Nat.zero_le _, fun k hk => by omega⟩ (by omega)
  obtain ⟨hi, ha⟩ := hi
  simp only [m_slices_Index_string_L1]
  refine Ok.con (fun q => ?_) fun q => Ok.ret (.inl ⟨rfl, fun hm => ?_⟩)
  ·(try simp only [ln, nI, sz, lnd, yyR, yyA, yyB, yyC, yyD, yyE, yyF, yyG, yyH, yyI, yyJ, yyK, yyL, yyM, yyN, yyO, yyP, yyQ] at *)
   refine Ok.ixN (by omega) fun b hb => Ok.con (fun q2 => Ok.ret (.inr ⟨by omega, by (try simp only [ln, nI, sz, lnd, yyR, yyA, yyB, yyC, yyD, yyE, yyF, yyG, yyH, yyI, yyJ, yyK, yyL, yyM, yyN, yyO, yyP, yyQ] at *); rw [q2]; exact mem_ix hb⟩)) fun q2 => Ok.cnt (by omega) (rec _ ⟨by omega, fun k hk => ?_⟩ (by omega))
   (try simp only [ln, nI, sz, lnd, yyR, yyA, yyB, yyC, yyD, yyE, yyF, yyG, yyH, yyI, yyJ, yyK, yyL, yyM, yyN, yyO, yyP, yyQ] at *)
   by_cases q3 : k = i
   ·subst q3; rw [hb]; intro h; cases h; exact q2 rfl
   ·exact ha k (by omega)
  ·(try simp only [ln, nI, sz, lnd, yyR, yyA, yyB, yyC, yyD, yyE, yyF, yyG, yyH, yyI, yyJ, yyK, yyL, yyM, yyN, yyO, yyP, yyQ] at *)
   obtain ⟨k, hk⟩ := List.getElem?_of_mem hm
   exact ha k (by have := lt_ix hk; omega) hk
 ·rw [decide_eq_true_eq]
  rcases hw with ⟨rfl, hw⟩ | ⟨h1, h2⟩
  ·exact ⟨fun h => by omega, fun h => absurd h hw⟩
  ·exact ⟨fun _ => h2, fun _ => h1⟩
theorem o_Validate (hf : 200000 ≤ fu) {l : MLaw} (hl : SzLaw l) : Ok (m_law_Validate fu l) (fun v => v.code = 0 → LawOk fu l) := by
 have h9 := hl.enums
 have h9' := hl.tables
 have h5 := hl.scopes
 unfold m_law_Validate
 simp only [m_law_bad, bd_of]
 refine Ok.con (fun _ => Ok.ret fun h => by cases h) fun _ => ?_
 refine Ok.rgA (fun o i => o.length ≤ i) l.enums.length (by omega) (fun n o i ho hi rec1 => ?_) hf (Nat.le_refl 0)
 simp only [m_law_Validate_L1]
 refine Ok.con (fun q => ?_) fun q => ?_
 ·(try simp only [ln, nI, sz, lnd, yyR, yyA, yyB, yyC, yyD, yyE, yyF, yyG, yyH, yyI, yyJ, yyK, yyL, yyM, yyN, yyO, yyP, yyQ] at *)
  refine Ok.ixN (by omega) fun e he => ?_
  obtain ⟨b1, b2, b3⟩ := hl.ens e (mem_ix he)
  exact Ok.bd (o_name hf b1 (by omega) _ _) fun c _ => Ok.con (fun q => Ok.ret fun h => by (try simp only [ln, nI, sz, lnd, yyR, yyA, yyB, yyC, yyD, yyE, yyF, yyG, yyH, yyI, yyJ, yyK, yyL, yyM, yyN, yyO, yyP, yyQ] at *); exact absurd h q) fun _ => Ok.ap (by simp; omega) (Ok.bd (o_enum hf b2 b3 _) fun c _ => Ok.con (fun q => Ok.ret fun h => by (try simp only [ln, nI, sz, lnd, yyR, yyA, yyB, yyC, yyD, yyE, yyF, yyG, yyH, yyI, yyJ, yyK, yyL, yyM, yyN, yyO, yyP, yyQ] at *); exact absurd h q) fun _ => Ok.cnt (by omega) (rec1 _ _ (by simp; omega) (by omega) (by omega)))
 refine Ok.con (fun _ => Ok.ret fun h => by cases h) fun _ => ?_
 have ho9 : o.length ≤ 9 := by omega
 refine Ok.rgA (fun o i => o.length ≤ 9 + i) l.tables.length (by omega) (fun n o i ho hi rec2 => ?_) hf ho9
 simp only [m_law_Validate_L2]
 refine Ok.con (fun q => ?_) fun q => ?_
 ·(try simp only [ln, nI, sz, lnd, yyR, yyA, yyB, yyC, yyD, yyE, yyF, yyG, yyH, yyI, yyJ, yyK, yyL, yyM, yyN, yyO, yyP, yyQ] at *)
  refine Ok.ixN (by omega) fun e he => ?_
  obtain ⟨b1, b2⟩ := hl.tbs e (mem_ix he)
  exact Ok.bd (o_name hf b1 (by omega) _ _) fun c _ => Ok.con (fun q => Ok.ret fun h => by (try simp only [ln, nI, sz, lnd, yyR, yyA, yyB, yyC, yyD, yyE, yyF, yyG, yyH, yyI, yyJ, yyK, yyL, yyM, yyN, yyO, yyP, yyQ] at *); exact absurd h q) fun _ => Ok.ap (by simp; omega) (Ok.bd (o_rows hf b2 _ _) fun c _ => Ok.con (fun q => Ok.ret fun h => by (try simp only [ln, nI, sz, lnd, yyR, yyA, yyB, yyC, yyD, yyE, yyF, yyG, yyH, yyI, yyJ, yyK, yyL, yyM, yyN, yyO, yyP, yyQ] at *); exact absurd h q) fun _ => Ok.cnt (by omega) (rec2 _ _ (by simp; omega) (by omega) (by omega)))
 refine Ok.con (fun _ => Ok.ret fun h => by cases h) fun _ => ?_
 have ho18 : o.length ≤ 18 := by omega
 refine Ok.rgA (fun o i => o.length ≤ 18 + i ∧ (∀ (k : Nat) (s : MScope), k < i → l.scopes[k]? = some s → s.name ∈ o) ∧ (∀ (j k : Nat) (s t : MScope), j < k → k < i → l.scopes[j]? = some s → l.scopes[k]? = some t → s.name ≠ t.name) ∧ ∀ (k : Nat) (s : MScope), k < i → l.scopes[k]? = some s → ScopeOk fu l k s) l.scopes.length (by omega) (fun n o i ho hi rec3 => ?_) hf ⟨ho18, fun k s hk => by omega, fun j k s t _ hk => by omega, fun k s hk => by omega⟩
 obtain ⟨a1, a2, a3, a4⟩ := ho
 simp only [m_law_Validate_L3]
 refine Ok.con (fun q => ?_) fun q => Ok.ret fun _ => ⟨fun k s hs => a4 k s (by (try simp only [ln, nI, sz, lnd, yyR, yyA, yyB, yyC, yyD, yyE, yyF, yyG, yyH, yyI, yyJ, yyK, yyL, yyM, yyN, yyO, yyP, yyQ] at *); have := lt_ix hs; omega) hs, fun j k s t hs ht e => ?_⟩
 ·(try simp only [ln, nI, sz, lnd, yyR, yyA, yyB, yyC, yyD, yyE, yyF, yyG, yyH, yyI, yyJ, yyK, yyL, yyM, yyN, yyO, yyP, yyQ] at *)
  refine Ok.ixN (by omega) fun s hs => ?_
  have hz := hl.scs s (mem_ix hs)
  refine Ok.bd (o_nameX hf hz.name (by omega) _ _) fun c hc => Ok.con (fun q => Ok.ret fun h => by (try simp only [ln, nI, sz, lnd, yyR, yyA, yyB, yyC, yyD, yyE, yyF, yyG, yyH, yyI, yyJ, yyK, yyL, yyM, yyN, yyO, yyP, yyQ] at *); exact absurd h q) fun q1 => Ok.ap (by simp; omega) (Ok.bd (o_scope hf hl hs) fun c2 hc2 => Ok.con (fun q => Ok.ret fun h => by (try simp only [ln, nI, sz, lnd, yyR, yyA, yyB, yyC, yyD, yyE, yyF, yyG, yyH, yyI, yyJ, yyK, yyL, yyM, yyN, yyO, yyP, yyQ] at *); exact absurd h q) fun q2 => Ok.cnt (by omega) (rec3 _ _ ⟨by simp; omega, fun k t hk ht => ?_, fun j k t u hjk hk ht hu => ?_, fun k t hk ht => ?_⟩ (by omega) (by omega)))
  all_goals (try simp only [ln, nI, sz, lnd, yyR, yyA, yyB, yyC, yyD, yyE, yyF, yyG, yyH, yyI, yyJ, yyK, yyL, yyM, yyN, yyO, yyP, yyQ] at *)
  ·by_cases q3 : k = i
   ·subst q3; rw [hs] at ht; cases ht; simp
   ·have := a2 k t (by omega) ht; simp [this]
  ·by_cases q3 : k = i
   ·subst q3; rw [hs] at hu; cases hu
    intro e
    exact hc q1 (e ▸ a2 j t hjk ht)
   ·exact a3 j k t u hjk (by omega) ht hu
  ·by_cases q3 : k = i
   ·subst q3; rw [hs] at ht; cases ht; exact hc2 q2
   ·exact a4 k t (by omega) ht
 ·(try simp only [ln, nI, sz, lnd, yyR, yyA, yyB, yyC, yyD, yyE, yyF, yyG, yyH, yyI, yyJ, yyK, yyL, yyM, yyN, yyO, yyP, yyQ] at *)
  have := lt_ix hs
  have := lt_ix ht
  rcases Nat.lt_trichotomy j k with h | h | h
  ·exact absurd e (a3 j k s t h (by omega) hs ht)
  ·exact h
  ·exact absurd e.symm (a3 k j t s h (by omega) ht hs)
end Go.Ab
set_option linter.unusedVariables false
set_option linter.unusedSimpArgs false
namespace Go.Ab
variable {fu : Nat}
theorem o_MulDiv (hf : 200000 ≤ fu) {c n d : Int} (m : Int) (hc : i64 c) (hn : i64 n) (hd : i64 d) : Ok (m_money_MulDiv fu c n d m) (fun _ => True) := ⟨_, s_MulDiv (by omega) m hc hn hd, trivial⟩
theorem o_DivR {n d : Int} (m : Int) (hn : i64 n) (hd : i64 d) : Ok (m_money_DivRound fu n d m) (fun _ => True) := ⟨_, s_DivRound fu m hn hd, trivial⟩
theorem o_RoundTo {n d : Int} (m : Int) (hn : i64 n) (hd : i64 d) : Ok (m_money_RoundTo fu n d m) (fun _ => True) := ⟨_, s_RoundTo fu m hn hd, trivial⟩
theorem i64_w (n : Int) : i64 (w64 n) := by
 have e : w64 n = (n + 9223372036854775808) % 18446744073709551616 - 9223372036854775808 := by
  show IntKind.i64.wrap n = _
  simp [IntKind.wrap, IntKind.bits, IntKind.signed]
  split <;> omega
 unfold i64
 omega
theorem i64_1m : i64 1000000 := ⟨by decide, by decide⟩
theorem o_rMul {a b : Int} (m : Int) : Ok (m_rate_Mul fu a b m) (fun _ => True) := by
 unfold m_rate_Mul m_rate_validMode m_rate_beyond
 simp only [bd_of]
 exact Ok.con (fun _ => Ok.tt) fun _ => Ok.con (fun _ => Ok.tt) fun _ => Ok.con (fun _ => Ok.tt) fun _ => Ok.bd (o_DivR m (i64_w _) i64_1m) fun _ _ => Ok.con (fun _ => Ok.tt) fun _ => Ok.con (fun _ => Ok.tt) fun _ => Ok.tt
theorem o_up (q r d : Int) (n : Bool) (m : Int) : Ok (m_rate_roundUp fu q r d n m) (fun _ => True) := by unfold m_rate_roundUp; (repeat' (first | with_reducible exact Ok.tt | with_reducible refine Ok.con (fun _ => ?_) (fun _ => ?_) | with_reducible refine Ok.cnt ?_ ?_ | with_reducible refine Ok.ixN ?_ (fun _ _ => ?_) | with_reducible refine Ok.ix ?_ ?_ (fun _ _ => ?_) | with_reducible refine Ok.sl ?_ ?_ ?_ ?_ | with_reducible refine Ok.ap ?_ ?_ | with_reducible refine Ok.strN ?_ (fun _ _ => ?_) | with_reducible refine Ok.bde rfl ?_))
theorem o_Ratio (hf : 200000 ≤ fu) {a b : Int} (m : Int) : Ok (m_rate_FromRatio fu a b m) (fun _ => True) := by
 unfold m_rate_FromRatio m_rate_validMode m_rate_beyond
 simp only [bd_of]
 refine Ok.con (fun _ => Ok.tt) fun _ => Ok.con (fun _ => Ok.tt) fun q0 => Ok.con (fun _ => Ok.tt) fun q1 => Ok.con (fun _ => Ok.tt) fun q2 => ?_
 have e0 : w64 (0 - 1000000000000000) = -1000000000000000 := by decide
 rw [e0] at q1 q2
 (try simp only [ln, nI, sz, lnd, yyR, yyA, yyB, yyC, yyD, yyE, yyF, yyG, yyH, yyI, yyJ, yyK, yyL, yyM, yyN, yyO, yyP, yyQ] at *)
 have ab : ∀ {n : Int}, -1000000000000000 ≤ n → n ≤ 1000000000000000 → m_rate_abs fu n = some (absI n) := by
  intro n h0 h1
  unfold m_rate_abs absI
  cases q : decide (n < 0) with
  | true =>
   have := of_decide_eq_true q
   show some _ = _
   rw [w64_id (by omega) (by omega), u64w (by omega) (by omega)]
   congr 1; omega
  | false =>
   have := of_decide_eq_false q
   show some _ = _
   rw [u64w (by omega) (by omega)]
   congr 1; omega
 rw [ab (by omega) (by omega), ab (by omega) (by omega), bd_of]
 have a0 : 0 ≤ absI a := absI_nn a
 have a1 : absI a ≤ 1000000000000000 := by unfold absI; omega
 have b0 : 0 < absI b := absI_pos q0
 have b1 : absI b ≤ 1000000000000000 := by unfold absI; omega
 rw [s_Mul64 fu a0 (by omega) (by decide) (by decide), bd_of, bd_of]
 refine Ok.con (fun _ => Ok.tt) fun q => ?_
 (try simp only [ln, nI, sz, lnd, yyR, yyA, yyB, yyC, yyD, yyE, yyF, yyG, yyH, yyI, yyJ, yyK, yyL, yyM, yyN, yyO, yyP, yyQ] at *)
 have m0 : 0 ≤ absI a * 1000000 := by omega
 refine Ok.bd (P := fun _ => True) ⟨_, (mul_div (by omega) a0 (by omega) (by decide) (by decide) b0 (by omega)).2 (by omega), trivial⟩ fun c _ => Ok.con (fun _ => Ok.tt) fun _ => Ok.bd (o_up _ _ _ _ _) fun _ _ => ?_
 (repeat' (first | with_reducible exact Ok.tt | with_reducible refine Ok.con (fun _ => ?_) (fun _ => ?_) | with_reducible refine Ok.cnt ?_ ?_ | with_reducible refine Ok.ixN ?_ (fun _ _ => ?_) | with_reducible refine Ok.ix ?_ ?_ (fun _ _ => ?_) | with_reducible refine Ok.sl ?_ ?_ ?_ ?_ | with_reducible refine Ok.ap ?_ ?_ | with_reducible refine Ok.strN ?_ (fun _ _ => ?_) | with_reducible refine Ok.bde rfl ?_))
theorem o_Look (hf : 200000 ≤ fu) {t : MTable} (h : t.rows.length ≤ 150) (d k : Int) : Ok (m_table_Lookup fu t d k) (fun v => v.2 = true → 0 ≤ v.1 ∧ v.1 < t.rows.length) := by
 unfold m_table_Lookup
 refine Ok.rg t.rows.length (by omega) (fun n i hi rec => ?_) hf
 simp only [m_table_Lookup_L1, m_daterange_Contains, m_daterange_Valid, bd_of]
 refine Ok.con (fun q => ?_) fun _ => Ok.ret fun h => tf h.symm
 (try simp only [ln, nI, sz, lnd, yyR, yyA, yyB, yyC, yyD, yyE, yyF, yyG, yyH, yyI, yyJ, yyK, yyL, yyM, yyN, yyO, yyP, yyQ] at *)
 exact Ok.ixN (by omega) fun r hr => Ok.con (fun _ => Ok.ret fun _ => ⟨by simp only [nI]; omega, by simp only [nI]; omega⟩) fun _ => Ok.cnt (by omega) (rec _ (by omega) (by omega))
theorem o_contr (hf : 200000 ≤ fu) (r : MRow) (c : Int) : Ok (m_table_contribution fu r c) (fun _ => True) := by
 have w : ∀ n : Int, 0 ≤ IntKind.u64.wrap n ∧ IntKind.u64.wrap n < 18446744073709551616 := fun n => by
  have e : IntKind.u64.wrap n = n % 18446744073709551616 := by simp [IntKind.wrap, IntKind.bits, IntKind.signed]
  omega
 have md : ∀ a b : Int, 0 ≤ a → a < 18446744073709551616 → 0 ≤ b → b < 18446744073709551616 → Ok (bd (m_bits_Mul64 fu a b) fun c_1 => (bif (decide (1000000 ≤ c_1.1)) then some ((0, 0, false) : Int × Int × Bool) else bd (m_math_bits_Div64 fu c_1.1 c_1.2 1000000) fun c_2 => (bif (decide (1000000000000000 < c_2.1)) then some (0, 0, false) else (bif (decide (r.n < 0)) then some ((w64 (0 - (w64 c_2.1))), (w64 (0 - (w64 c_2.2))), true) else some ((w64 c_2.1), (w64 c_2.2), true))))) (fun _ => True) := by
  intro a b a0 a1 b0 b1
  rw [s_Mul64 fu a0 a1 b0 b1, bd_of]
  have ab := Int.mul_nonneg a0 b0
  have ab' : a * b ≤ 18446744073709551615 * 18446744073709551615 := Int.mul_le_mul (by omega) (by omega) b0 (by decide)
  refine Ok.con (fun _ => Ok.tt) fun q => ?_
  (try simp only [ln, nI, sz, lnd, yyR, yyA, yyB, yyC, yyD, yyE, yyF, yyG, yyH, yyI, yyJ, yyK, yyL, yyM, yyN, yyO, yyP, yyQ] at *)
  exact Ok.bd (P := fun _ => True) ⟨_, (mul_div (by omega) a0 a1 b0 b1 (by decide) (by decide)).2 (by omega), trivial⟩ fun c _ => Ok.con (fun _ => Ok.tt) fun _ => Ok.con (fun _ => Ok.tt) fun _ => Ok.tt
 unfold m_table_contribution
 exact Ok.con (fun _ => Ok.tt) fun _ => Ok.con (fun _ => md _ _ (w _).1 (w _).2 (w _).1 (w _).2) fun _ => md _ _ (w _).1 (w _).2 (w _).1 (w _).2
theorem o_rnding (a b m : Int) : Ok (m_table_rounding fu a b m) (fun _ => True) := Ok.bd (o_DivR m (i64_w _) i64_1m) fun _ _ => Ok.tt
theorem o_Brk (hf : 200000 ≤ fu) {t : MTable} (h : t.rows.length ≤ 150) (d c m : Int) : Ok (m_table_Brackets fu t d c m) (fun _ => True) := by
 unfold m_table_Brackets
 refine Ok.con (fun _ => Ok.tt) fun _ => Ok.con (fun _ => Ok.tt) fun _ => Ok.con (fun _ => Ok.tt) fun _ => ?_
 refine Ok.loop (fun x : Int × Int × Nat => x.2.2 ≤ t.rows.length) (fun x => t.rows.length - x.2.2) (fun n x hx rec => ?_) (Nat.zero_le _) (by simp only; omega)
 obtain ⟨a, b, i⟩ := x
 simp only at hx
 simp only [m_table_Brackets_L1, m_daterange_Contains, m_daterange_Valid, bd_of]
 refine Ok.con (fun q => ?_) fun q => ?_
 ·(try simp only [ln, nI, sz, lnd, yyR, yyA, yyB, yyC, yyD, yyE, yyF, yyG, yyH, yyI, yyJ, yyK, yyL, yyM, yyN, yyO, yyP, yyQ] at *)
  exact Ok.ixN (by omega) fun r hr => Ok.con (fun _ => Ok.cnt (by omega) (rec _ (by simp only; omega) (by simp only; omega))) fun _ => Ok.bd (o_contr hf _ _) fun _ _ => Ok.con (fun _ => Ok.tt) fun _ => Ok.cnt (by omega) (rec _ (by simp only; omega) (by simp only; omega))
 ·exact Ok.con (fun _ => Ok.bd (o_rnding _ _ _) fun _ _ => Ok.con (fun _ => Ok.tt) fun _ => Ok.tt) fun _ => Ok.con (fun _ => Ok.bd (o_rnding _ _ _) fun _ _ => Ok.con (fun _ => Ok.tt) fun _ => Ok.tt) fun _ => Ok.bd (o_rnding _ _ _) fun _ _ => Ok.con (fun _ => Ok.tt) fun _ => Ok.tt
def remD (b : Bool) : Nat → Int
 | 0 => 400 | 1 => bif b then 366 else 365 | 2 => bif b then 335 else 334 | 3 => 306 | 4 => 275 | 5 => 245 | 6 => 214 | 7 => 184 | 8 => 153 | 9 => 122 | 10 => 92 | 11 => 61 | 12 => 31 | _ => 0
def leapB (y : Int) : Bool := ((Int.tmod y 4) == 0) && (((Int.tmod y 100) != 0) || ((Int.tmod y 400) == 0))
def dimB (y m : Int) : Int := bif decide (m < 1) || decide (12 < m) then 0 else bif decide (m = 2) then (bif leapB y then 29 else 28) else bif decide (m = 4) || (decide (m = 6) || (decide (m = 9) || decide (m = 11))) then 30 else 31
theorem s_DIM (y m : Int) : m_date_DaysInMonth fu y m = some (dimB y m) := by
 unfold m_date_DaysInMonth dimB leapB
 have : ∀ a : Int, (a == 0) = decide (a = 0) := fun a => rfl
 simp only [this, bne]
theorem dim_rem (y : Int) (m : Nat) (h1 : 1 ≤ m) (h2 : m ≤ 12) : dimB y m = remD (leapB y) m - remD (leapB y) (m + 1) ∧ 0 < dimB y m := by
 unfold dimB
 generalize leapB y = b
 match m, h1, h2 with
 | 1, _, _ | 2, _, _ | 3, _, _ | 4, _, _ | 5, _, _ | 6, _, _ | 7, _, _ | 8, _, _ | 9, _, _ | 10, _, _ | 11, _, _ | 12, _, _ => cases b <;> decide
def diyB (y : Int) : Int := bif leapB y then 366 else 365
theorem s_DIY (y : Int) : m_date_daysInYear fu y = some (diyB y) := by
 unfold m_date_daysInYear m_date_IsLeap diyB leapB
 rw [bd_of]
 cases ((Int.tmod y 4) == 0) && (((Int.tmod y 100) != 0) || ((Int.tmod y 400) == 0)) <;> rfl
theorem diy_ge (y : Int) : 365 ≤ diyB y ∧ diyB y ≤ 366 ∧ diyB y = remD (leapB y) 1 := by unfold diyB remD; cases leapB y <;> decide
theorem o_YMD (hf : 200000 ≤ fu) (d : Int) : Ok (m_date_ToYMD fu d) (fun _ => True) := by
 unfold m_date_ToYMD m_date_valid
 rw [bd_of]
 refine Ok.con (fun _ => Ok.tt) fun q => ?_
 (try simp only [ln, nI, sz, lnd, yyR, yyA, yyB, yyC, yyD, yyE, yyF, yyG, yyH, yyI, yyJ, yyK, yyL, yyM, yyN, yyO, yyP, yyQ] at *)
 refine Ok.loop (fun x : Int × Nat => 0 ≤ x.1 ∧ x.1 ≤ 109572 ∧ x.2 ≤ 1900 + 109572 - x.1.toNat) (fun x => x.1.toNat) (fun n x hx rec => ?_) ⟨by simp only; omega, by simp only; omega, by simp only; omega⟩ (by simp only; omega)
 obtain ⟨a, y⟩ := x
 obtain ⟨h0, h1, h2⟩ := hx
 simp only at h0 h1 h2
 simp only [m_date_ToYMD_L1, s_DIY, bd_of]
 have hy := diy_ge (y : Int)
 refine Ok.con (fun q => ?_) fun q => ?_
 ·(try simp only [ln, nI, sz, lnd, yyR, yyA, yyB, yyC, yyD, yyE, yyF, yyG, yyH, yyI, yyJ, yyK, yyL, yyM, yyN, yyO, yyP, yyQ] at *)
  rw [w64_id (by omega) (by omega)]
  exact Ok.cnt (by omega) (rec _ ⟨by simp only; omega, by simp only; omega, by simp only; omega⟩ (by simp only; omega))
 ·(try simp only [ln, nI, sz, lnd, yyR, yyA, yyB, yyC, yyD, yyE, yyF, yyG, yyH, yyI, yyJ, yyK, yyL, yyM, yyN, yyO, yyP, yyQ] at *)
  refine Ok.loop (fun x : Int × Nat => 0 ≤ x.1 ∧ 1 ≤ x.2 ∧ x.1 < remD (leapB (y : Int)) x.2 ∧ x.2 ≤ 12) (fun x => 13 - x.2) (fun n x hx rec2 => ?_) ⟨h0, Nat.le_refl _, by rw [← hy.2.2]; exact Int.not_le.1 q, by simp only; omega⟩ (by simp only; omega)
  obtain ⟨b, m⟩ := x
  obtain ⟨g0, g1, g2, g3⟩ := hx
  simp only at g0 g1 g2 g3
  simp only [m_date_ToYMD_L2, s_DIM, bd_of, nI]
  have hd := dim_rem (y : Int) m g1 g3
  have h400 : ∀ k, remD (leapB (y : Int)) k ≤ 400 := fun k => by
   unfold remD
   split <;> (try cases leapB (y : Int)) <;> decide
  have h4 := h400 m
  refine Ok.con (fun q => ?_) fun q => Ok.tt
  have q' : dimB (y : Int) (m : Int) ≤ b := by simpa using q
  rw [w64_id (by omega) (by omega)]
  have hlt : b - dimB (y : Int) m < remD (leapB (y : Int)) (m + 1) := by omega
  have h12 : m + 1 ≤ 12 := by
   rcases Nat.lt_or_ge m 12 with h | h
   ·exact h
   ·have : m = 12 := by omega
    have e13 : remD (leapB (y : Int)) (m + 1) = 0 := by rw [this]; rfl
    omega
  exact Ok.cnt (by omega) (rec2 _ ⟨by simp only; omega, by simp only; omega, hlt, h12⟩ (by simp only; omega))
theorem o_FYMD (hf : 200000 ≤ fu) (y m d : Int) : Ok (m_date_FromYMD fu y m d) (fun _ => True) := by
 unfold m_date_FromYMD
 refine Ok.con (fun _ => Ok.tt) fun q => ?_
 rw [s_DIM, bd_of]
 refine Ok.con (fun _ => Ok.tt) fun q2 => ?_
 (try simp only [ln, nI, sz, lnd, yyR, yyA, yyB, yyC, yyD, yyE, yyF, yyG, yyH, yyI, yyJ, yyK, yyL, yyM, yyN, yyO, yyP, yyQ] at *)
 have hm : 1 ≤ m ∧ m ≤ 12 := by
  unfold dimB at q2
  cases h : decide (m < 1) || decide (12 < m) with
  | true => rw [h] at q2; simp at q2; omega
  | false => (try simp only [ln, nI, sz, lnd, yyR, yyA, yyB, yyC, yyD, yyE, yyF, yyG, yyH, yyI, yyJ, yyK, yyL, yyM, yyN, yyO, yyP, yyQ] at *); omega
 refine Ok.loop (fun x : Int × Nat => x.2 ≤ 300) (fun x => 300 - x.2) (fun n x hx rec => ?_) (by simp only; omega) (by simp only; omega)
 obtain ⟨a, i⟩ := x
 simp only at hx
 simp only [m_date_FromYMD_L1, s_DIY, bd_of]
 refine Ok.con (fun q => ?_) fun q => ?_
 ·rw [w64_id (by omega) (by omega)] at q
  (try simp only [ln, nI, sz, lnd, yyR, yyA, yyB, yyC, yyD, yyE, yyF, yyG, yyH, yyI, yyJ, yyK, yyL, yyM, yyN, yyO, yyP, yyQ] at *)
  exact Ok.cnt (by omega) (rec _ (by simp only; omega) (by simp only; omega))
 ·refine Ok.loop (fun x : Int × Nat => x.2 ≤ 12) (fun x => 12 - x.2) (fun n x hx rec2 => ?_) (by simp only; omega) (by simp only; omega)
  obtain ⟨a, j⟩ := x
  simp only at hx
  simp only [m_date_FromYMD_L2, s_DIM, bd_of]
  refine Ok.con (fun q => ?_) fun q => Ok.tt
  rw [w64_id (by omega) (by omega)] at q
  (try simp only [ln, nI, sz, lnd, yyR, yyA, yyB, yyC, yyD, yyE, yyF, yyG, yyH, yyI, yyJ, yyK, yyL, yyM, yyN, yyO, yyP, yyQ] at *)
  exact Ok.cnt (by omega) (rec2 _ (by simp only; omega) (by simp only; omega))
theorem o_AddM (hf : 200000 ≤ fu) (d n : Int) : Ok (m_date_AddMonths fu d n) (fun _ => True) := by
 unfold m_date_AddMonths m_date_valid
 rw [bd_of]
 refine Ok.con (fun _ => Ok.tt) fun q => Ok.bd (o_YMD hf _) fun _ _ => ?_
 rw [s_DIM, bd_of]
 exact Ok.bd (o_FYMD hf _ _ _) fun _ _ => Ok.tt
theorem o_Years (hf : 200000 ≤ fu) (a b : Int) : Ok (m_date_YearsBetween fu a b) (fun _ => True) := by
 unfold m_date_YearsBetween m_date_valid
 simp only [bd_of]
 exact Ok.con (fun _ => Ok.tt) fun q => Ok.con (fun _ => Ok.tt) fun q => Ok.bd (o_YMD hf _) fun _ _ => Ok.bd (o_YMD hf _) fun _ _ => Ok.bd (o_AddM hf _ _) fun _ _ => Ok.con (fun _ => Ok.tt) fun _ => Ok.tt
end Go.Ab
set_option linter.unusedVariables false
set_option linter.unusedSimpArgs false
namespace Go.Ab
variable {fu : Nat}
def PlB (v : MValue) : Prop := 1 ≤ v.kind ∧ v.kind ≤ 6 ∧ -1000000000000000 ≤ v.nF ∧ v.nF ≤ 1000000000000000
theorem o_plaus (v : MValue) : Ok (m_eval_plausible fu v) (fun b => b = true → PlB v) := by
 unfold m_eval_plausible m_eval_limits PlB
 refine Ok.bd (P := fun c => (v.kind = 1 ∨ v.kind = 2 ∨ v.kind = 3 ∨ v.kind = 4 ∨ v.kind = 5 ∨ v.kind = 6 ∨ c = (0, -1)) ∧ -1000000000000000 ≤ c.1 ∧ c.2 ≤ 1000000000000000) ?_ fun c hc => Ok.con (fun q => Ok.ret fun h => ?_) fun q => Ok.ret fun h => ?_
 ·refine Ok.con (fun q => Ok.ret ?_) fun _ => Ok.con (fun q => Ok.ret ?_) fun _ => Ok.con (fun q => Ok.ret ?_) fun _ => Ok.con (fun q => Ok.ret ?_) fun _ => Ok.con (fun q => Ok.ret ?_) fun _ => Ok.con (fun q => Ok.ret ?_) fun _ => Ok.ret ?_
  all_goals ((try simp only [ln, nI, sz, lnd, yyR, yyA, yyB, yyC, yyD, yyE, yyF, yyG, yyH, yyI, yyJ, yyK, yyL, yyM, yyN, yyO, yyP, yyQ] at *); simp [*])
 all_goals
  (try simp only [ln, nI, sz, lnd, yyR, yyA, yyB, yyC, yyD, yyE, yyF, yyG, yyH, yyI, yyJ, yyK, yyL, yyM, yyN, yyO, yyP, yyQ] at *)
  obtain ⟨h1, h2, h3⟩ := hc
  rcases h1 with h1 | h1 | h1 | h1 | h1 | h1 | h1
  all_goals (try (rw [h1] at h; simp at h)) <;> omega
theorem o_wellF (n : MNode) (k : Int) : Ok (m_eval_wellFormed fu n k) (fun b => b = true → arB n.op = k ∧ 0 ≤ k) := by
 unfold m_eval_wellFormed m_eval_meaning
 rw [s_Arity, bd_of]
 refine Ok.con (fun _ => Ok.ret fun h => tf h.symm) fun q => ?_
 have hk : arB n.op = k ∧ 0 ≤ k := by (try simp only [ln, nI, sz, lnd, yyR, yyA, yyB, yyC, yyD, yyE, yyF, yyG, yyH, yyI, yyJ, yyK, yyL, yyM, yyN, yyO, yyP, yyQ] at *); omega
 refine Ok.mono (P := fun _ => True) ?_ fun _ _ _ => hk
 refine Ok.con (fun _ => Ok.bd (P := fun _ => True) (by (repeat' (first | with_reducible exact Ok.tt | with_reducible refine Ok.con (fun _ => ?_) (fun _ => ?_) | with_reducible refine Ok.cnt ?_ ?_ | with_reducible refine Ok.ixN ?_ (fun _ _ => ?_) | with_reducible refine Ok.ix ?_ ?_ (fun _ _ => ?_) | with_reducible refine Ok.sl ?_ ?_ ?_ ?_ | with_reducible refine Ok.ap ?_ ?_ | with_reducible refine Ok.strN ?_ (fun _ _ => ?_) | with_reducible refine Ok.bde rfl ?_))) fun _ _ => ?_) fun _ => ?_ <;> (repeat' (first | with_reducible exact Ok.tt | with_reducible refine Ok.con (fun _ => ?_) (fun _ => ?_) | with_reducible refine Ok.cnt ?_ ?_ | with_reducible refine Ok.ixN ?_ (fun _ _ => ?_) | with_reducible refine Ok.ix ?_ ?_ (fun _ _ => ?_) | with_reducible refine Ok.sl ?_ ?_ ?_ ?_ | with_reducible refine Ok.ap ?_ ?_ | with_reducible refine Ok.strN ?_ (fun _ _ => ?_) | with_reducible refine Ok.bde rfl ?_))
structure ExOk (n : MNode) (env : MEnv) : Prop where
 i : n.op = 7 → 0 ≤ n.n ∧ n.n < env.inputs.length
 d : n.op = 8 → 0 ≤ n.n ∧ n.n < env.defs.length
 t : n.op = 33 → 0 ≤ n.n ∧ n.n < env.tables.length
 b : n.op = 34 → 0 ≤ w64 (Int.tdiv n.n 8) ∧ w64 (Int.tdiv n.n 8) < env.tables.length
 m : 36 ≤ n.op ∧ n.op ≤ 39 → 0 ≤ n.n ∧ n.n < env.memberTypes.length
theorem o_exists (n : MNode) (env : MEnv) (ha : 0 ≤ arB n.op) : Ok (m_eval_exists fu n env) (fun b => b = true → ExOk n env) := by
 have hc := ar_cases n.op
 unfold m_eval_exists m_eval_inside
 simp only [bd_of]
 refine Ok.con (fun q => Ok.ret fun h => ?_) fun _ => Ok.con (fun q => Ok.con (fun q2 => ?_) fun _ => Ok.ret fun h => tf h.symm) fun _ => Ok.con (fun q => Ok.ret fun h => ?_) fun _ => Ok.con (fun q => Ok.ret fun h => ?_) fun _ => Ok.con (fun q => Ok.ret fun h => ?_) fun _ => Ok.con (fun q => Ok.ret fun h => ?_) fun _ => Ok.con (fun q => Ok.ret fun h => ?_) fun _ => Ok.con (fun q => Ok.ret fun h => ?_) fun _ => Ok.ret fun h => ?_
 case refine_2 =>
  (try simp only [ln, nI, sz, lnd, yyR, yyA, yyB, yyC, yyD, yyE, yyF, yyG, yyH, yyI, yyJ, yyK, yyL, yyM, yyN, yyO, yyP, yyQ] at *)
  refine Ok.ix (by omega) (by omega) fun _ _ => Ok.ret fun _ => ⟨fun h => ?_, fun h => ?_, fun h => ?_, fun h => ?_, fun h => ?_⟩ <;> omega
 all_goals
  (try simp only [ln, nI, sz, lnd, yyR, yyA, yyB, yyC, yyD, yyE, yyF, yyG, yyH, yyI, yyJ, yyK, yyL, yyM, yyN, yyO, yyP, yyQ] at *)
  refine ⟨fun h => ?_, fun h => ?_, fun h => ?_, fun h => ?_, fun h => ?_⟩ <;> omega
theorem o_num (k : Int) : Ok (m_eval_numeric fu k) (fun _ => True) := Ok.tt
theorem o_ord (k : Int) : Ok (m_eval_ordered fu k) (fun _ => True) := Ok.bd (o_num k) fun _ _ => Ok.tt
theorem o_all1 (k : Int) (a b : MValue) : Ok (m_eval_allowed_1 fu k a b) (fun _ => True) := Ok.tt
theorem o_eagg (op : Int) (t : MTy) : Ok (m_eval_aggregate fu op t) (fun _ => True) := by
 unfold m_eval_aggregate
 exact Ok.con (fun _ => Ok.tt) fun _ => Ok.con (fun _ => Ok.tt) fun _ => Ok.con (fun _ => Ok.bd (o_ord _) fun _ _ => Ok.tt) fun _ => Ok.tt
theorem o_has (v : MValue) (t : MTy) : Ok (m_eval_has fu v t) (fun _ => True) := Ok.bd (o_plaus v) fun _ _ => Ok.tt
theorem o_bool (b : Bool) : Ok (m_eval_boolean fu b) (fun _ => True) := by unfold m_eval_boolean; (repeat' (first | with_reducible exact Ok.tt | with_reducible refine Ok.con (fun _ => ?_) (fun _ => ?_) | with_reducible refine Ok.cnt ?_ ?_ | with_reducible refine Ok.ixN ?_ (fun _ _ => ?_) | with_reducible refine Ok.ix ?_ ?_ (fun _ _ => ?_) | with_reducible refine Ok.sl ?_ ?_ ?_ ?_ | with_reducible refine Ok.ap ?_ ?_ | with_reducible refine Ok.strN ?_ (fun _ _ => ?_) | with_reducible refine Ok.bde rfl ?_))
theorem o_allowed {n : MNode} {l : List MValue} {env : MEnv} (hl : (l.length : Int) = arB n.op) (hx : ExOk n env) : Ok (m_eval_allowed fu n l env) (fun _ => True) := by
 have hc := ar_cases n.op
 obtain ⟨xi, xd, xt, xb, xm⟩ := hx
 unfold m_eval_allowed
 refine Ok.con (fun q => Ok.ix (by omega) (by (try simp only [ln, nI, sz, lnd, yyR, yyA, yyB, yyC, yyD, yyE, yyF, yyG, yyH, yyI, yyJ, yyK, yyL, yyM, yyN, yyO, yyP, yyQ] at *); omega) fun _ _ => Ok.con (fun q2 => Ok.ix (by omega) (by (try simp only [ln, nI, sz, lnd, yyR, yyA, yyB, yyC, yyD, yyE, yyF, yyG, yyH, yyI, yyJ, yyK, yyL, yyM, yyN, yyO, yyP, yyQ] at *); omega) fun _ _ => ?_) fun _ => ?_) fun _ => ?_
 all_goals
  repeat' (first | (first | with_reducible exact Ok.tt | with_reducible refine Ok.con (fun _ => ?_) (fun _ => ?_) | with_reducible refine Ok.cnt ?_ ?_ | with_reducible refine Ok.ixN ?_ (fun _ _ => ?_) | with_reducible refine Ok.ix ?_ ?_ (fun _ _ => ?_) | with_reducible refine Ok.sl ?_ ?_ ?_ ?_ | with_reducible refine Ok.ap ?_ ?_ | with_reducible refine Ok.strN ?_ (fun _ _ => ?_) | with_reducible refine Ok.bde rfl ?_) | with_reducible refine Ok.bd (o_num _) (fun _ _ => ?_) | with_reducible refine Ok.bd (o_ord _) (fun _ _ => ?_) | with_reducible refine Ok.bd (o_all1 _ _ _) (fun _ _ => ?_) | with_reducible refine Ok.bd (o_eagg _ _) (fun _ _ => ?_) | with_reducible refine Ok.bd (o_has _ _) (fun _ _ => ?_) | with_reducible refine Ok.bd (o_plaus _) (fun _ _ => ?_))
 all_goals ((try simp only [ln, nI, sz, lnd, yyR, yyA, yyB, yyC, yyD, yyE, yyF, yyG, yyH, yyI, yyJ, yyK, yyL, yyM, yyN, yyO, yyP, yyQ] at *); omega)
theorem o_product {a b : Int} (l : Int) (ha : -1000000000000000 ≤ a) (ha' : a ≤ 1000000000000000) : Ok (m_eval_product fu a b l) (fun _ => True) := by
 unfold m_eval_product m_eval_abs
 simp only [bd_of]
 refine Ok.con (fun _ => Ok.tt) fun q => ?_
 (try simp only [ln, nI, sz, lnd, yyR, yyA, yyB, yyC, yyD, yyE, yyF, yyG, yyH, yyI, yyJ, yyK, yyL, yyM, yyN, yyO, yyP, yyQ] at *)
 have hz : maxI a (w64 (0 - a)) ≠ 0 := by
  rw [w64_id (by omega) (by omega)]
  unfold maxI
  rcases Int.lt_or_le a (0 - a) with h | h
  ·rw [decide_eq_true h]; show 0 - a ≠ 0; omega
  ·rw [decide_eq_false (by omega)]; exact q.1
 have nzz : nz (maxI a (w64 (0 - a))) = some () := by
  unfold nz
  rw [decide_eq_false hz]
 rw [nzz, bd_of, bd_of]
 (repeat' (first | with_reducible exact Ok.tt | with_reducible refine Ok.con (fun _ => ?_) (fun _ => ?_) | with_reducible refine Ok.cnt ?_ ?_ | with_reducible refine Ok.ixN ?_ (fun _ _ => ?_) | with_reducible refine Ok.ix ?_ ?_ (fun _ _ => ?_) | with_reducible refine Ok.sl ?_ ?_ ?_ ?_ | with_reducible refine Ok.ap ?_ ?_ | with_reducible refine Ok.strN ?_ (fun _ _ => ?_) | with_reducible refine Ok.bde rfl ?_))
theorem o_limits (k : Int) : Ok (m_eval_limits fu k) (fun _ => True) := by unfold m_eval_limits; (repeat' (first | with_reducible exact Ok.tt | with_reducible refine Ok.con (fun _ => ?_) (fun _ => ?_) | with_reducible refine Ok.cnt ?_ ?_ | with_reducible refine Ok.ixN ?_ (fun _ _ => ?_) | with_reducible refine Ok.ix ?_ ?_ (fun _ _ => ?_) | with_reducible refine Ok.sl ?_ ?_ ?_ ?_ | with_reducible refine Ok.ap ?_ ?_ | with_reducible refine Ok.strN ?_ (fun _ _ => ?_) | with_reducible refine Ok.bde rfl ?_))
theorem pl_i64 {v : MValue} (h : PlB v) : i64 v.nF := ⟨by have := h.2.2.1; omega, by have := h.2.2.2; omega⟩
theorem o_rApply (hf : 200000 ≤ fu) {a b : Int} (m : Int) (ha : i64 a) (hb : i64 b) : Ok (m_rate_Apply fu a b m) (fun _ => True) := Ok.bd (o_MulDiv hf m ha hb i64_1m) fun _ _ => Ok.tt
theorem o_arithm (hf : 200000 ≤ fu) {n : MNode} {l : List MValue} (hl : 0 < l.length) (hp : ∀ v ∈ l, PlB v) : Ok (m_eval_arithmetic fu n l) (fun _ => True) := by
 have z : i64 0 := ⟨by decide, by decide⟩
 unfold m_eval_arithmetic
 refine Ok.ix (by omega) (by omega) fun a ha => Ok.con (fun q => Ok.ix (by omega) (by (try simp only [ln, nI, sz, lnd, yyR, yyA, yyB, yyC, yyD, yyE, yyF, yyG, yyH, yyI, yyJ, yyK, yyL, yyM, yyN, yyO, yyP, yyQ] at *); omega) fun b hb => ?_) fun q => ?_
 ·have pa := hp a (mem_ix ha)
  have pb := hp b (mem_ix hb)
  have ia := pl_i64 pa
  have ib := pl_i64 pb
  have p1 : -1000000000000000 ≤ a.nF := pa.2.2.1
  have p2 : a.nF ≤ 1000000000000000 := pa.2.2.2
  repeat' (first | (first | with_reducible exact Ok.tt | with_reducible refine Ok.con (fun _ => ?_) (fun _ => ?_) | with_reducible refine Ok.cnt ?_ ?_ | with_reducible refine Ok.ixN ?_ (fun _ _ => ?_) | with_reducible refine Ok.ix ?_ ?_ (fun _ _ => ?_) | with_reducible refine Ok.sl ?_ ?_ ?_ ?_ | with_reducible refine Ok.ap ?_ ?_ | with_reducible refine Ok.strN ?_ (fun _ _ => ?_) | with_reducible refine Ok.bde rfl ?_) | with_reducible refine Ok.bd (o_limits _) (fun _ _ => ?_) | with_reducible refine Ok.bd (o_product _ p1 p2) (fun _ _ => ?_) | with_reducible refine Ok.bd (o_rApply hf _ ia ib) (fun _ _ => ?_) | with_reducible refine Ok.bd (o_rMul _) (fun _ _ => ?_) | with_reducible refine Ok.bd (o_Ratio hf _) (fun _ _ => ?_) | with_reducible refine Ok.bd (o_DivR _ ia ib) (fun _ _ => ?_) | with_reducible refine Ok.bd (o_RoundTo _ ia ib) (fun _ _ => ?_))
 ·have pa := hp a (mem_ix ha)
  have ia := pl_i64 pa
  have p1 : -1000000000000000 ≤ a.nF := pa.2.2.1
  have p2 : a.nF ≤ 1000000000000000 := pa.2.2.2
  repeat' (first | (first | with_reducible exact Ok.tt | with_reducible refine Ok.con (fun _ => ?_) (fun _ => ?_) | with_reducible refine Ok.cnt ?_ ?_ | with_reducible refine Ok.ixN ?_ (fun _ _ => ?_) | with_reducible refine Ok.ix ?_ ?_ (fun _ _ => ?_) | with_reducible refine Ok.sl ?_ ?_ ?_ ?_ | with_reducible refine Ok.ap ?_ ?_ | with_reducible refine Ok.strN ?_ (fun _ _ => ?_) | with_reducible refine Ok.bde rfl ?_) | with_reducible refine Ok.bd (o_limits _) (fun _ _ => ?_) | with_reducible refine Ok.bd (o_product _ p1 p2) (fun _ _ => ?_) | with_reducible refine Ok.bd (o_rApply hf _ ia z) (fun _ _ => ?_) | with_reducible refine Ok.bd (o_rMul _) (fun _ _ => ?_) | with_reducible refine Ok.bd (o_Ratio hf _) (fun _ _ => ?_) | with_reducible refine Ok.bd (o_DivR _ ia z) (fun _ _ => ?_) | with_reducible refine Ok.bd (o_RoundTo _ ia z) (fun _ _ => ?_))
theorem o_dates (hf : 200000 ≤ fu) {n : MNode} {l : List MValue} (hl : 0 < l.length) (h2 : 27 ≤ n.op ∧ n.op ≤ 30 → 2 ≤ l.length) : Ok (m_eval_dates fu n l) (fun _ => True) := by
 unfold m_eval_dates
 refine Ok.ix (by omega) (by omega) fun a ha => Ok.bd (o_YMD hf _) fun _ _ => ?_
 repeat' (first | (first | with_reducible exact Ok.tt | with_reducible refine Ok.con (fun _ => ?_) (fun _ => ?_) | with_reducible refine Ok.cnt ?_ ?_ | with_reducible refine Ok.ixN ?_ (fun _ _ => ?_) | with_reducible refine Ok.ix ?_ ?_ (fun _ _ => ?_) | with_reducible refine Ok.sl ?_ ?_ ?_ ?_ | with_reducible refine Ok.ap ?_ ?_ | with_reducible refine Ok.strN ?_ (fun _ _ => ?_) | with_reducible refine Ok.bde rfl ?_) | with_reducible refine Ok.bd (o_AddM hf _ _) (fun _ _ => ?_) | with_reducible refine Ok.bd (o_Years hf _ _) (fun _ _ => ?_))
 all_goals ((try simp only [ln, nI, sz, lnd, yyR, yyA, yyB, yyC, yyD, yyE, yyF, yyG, yyH, yyI, yyJ, yyK, yyL, yyM, yyN, yyO, yyP, yyQ] at *); omega)
theorem o_members (hf : 200000 ≤ fu) {n : MNode} {env : MEnv} (hm : 0 ≤ n.n ∧ n.n < env.memberTypes.length) (hl : env.members.length ≤ 10) : Ok (m_eval_members fu n env) (fun _ => True) := by
 unfold m_eval_members
 refine Ok.ix (by omega) (by omega) fun t ht => Ok.con (fun _ => ?_) fun _ => ?_
 all_goals
  refine Ok.loop (fun x : Nat × Int => x.1 ≤ env.members.length) (fun x => env.members.length - x.1) (fun m x hx rec => ?_) (Nat.zero_le _) (by simp only; omega)
  obtain ⟨i, a⟩ := x
  simp only at hx
  simp only [m_eval_members_L1, m_eval_members_L2, m_eval_inside, bd_of]
  refine Ok.con (fun q => ?_) fun q => Ok.con (fun _ => Ok.tt) fun _ => Ok.tt
  have q' : i < env.members.length := by simpa [nI] using q
  refine Ok.ixN q' fun vs hvs => Ok.con (fun _ => Ok.tt) fun q2 => ?_
  have q2' : n.n < vs.length := by (try simp only [ln, nI, sz, lnd, yyR, yyA, yyB, yyC, yyD, yyE, yyF, yyG, yyH, yyI, yyJ, yyK, yyL, yyM, yyN, yyO, yyP, yyQ] at *); omega
  refine Ok.ix (by omega) q2' fun v hv => Ok.con (fun _ => Ok.tt) fun _ => Ok.ix (by omega) q2' fun v hv => Ok.bd (o_has _ _) fun _ _ => Ok.con (fun _ => Ok.tt) fun _ => ?_
  refine Ok.con (fun _ => Ok.bd (o_plaus _) fun _ _ => Ok.con (fun _ => Ok.tt) fun _ => ?_) fun _ => Ok.con (fun _ => ?_) fun _ => Ok.con (fun _ => ?_) fun _ => Ok.con (fun _ => Ok.con (fun _ => ?_) fun _ => ?_) fun _ => ?_
  all_goals exact Ok.cnt (by omega) (rec _ (by simp only; omega) (by simp only; omega))
structure EnvOk (env : MEnv) : Prop where
 members : env.members.length ≤ 10
 tables : ∀ t ∈ env.tables, t.rows.length ≤ 150
theorem o_operate (hf : 200000 ≤ fu) {n : MNode} {l : List MValue} {env : MEnv} (hl : (l.length : Int) = arB n.op) (hx : ExOk n env) (he : EnvOk env) (hp : ∀ v ∈ l, PlB v) : Ok (m_eval_operate fu n l env) (fun _ => True) := by
 have hc := ar_cases n.op
 obtain ⟨xi, xd, xt, xb, xm⟩ := hx
 unfold m_eval_operate
 refine Ok.con (fun _ => Ok.tt) fun _ => Ok.con (fun _ => Ok.tt) fun _ => Ok.con (fun q => Ok.bd (o_arithm hf (by (try simp only [ln, nI, sz, lnd, yyR, yyA, yyB, yyC, yyD, yyE, yyF, yyG, yyH, yyI, yyJ, yyK, yyL, yyM, yyN, yyO, yyP, yyQ] at *); omega) hp) fun _ _ => Ok.tt) fun _ => Ok.con (fun q => Ok.bd (o_dates hf (by (try simp only [ln, nI, sz, lnd, yyR, yyA, yyB, yyC, yyD, yyE, yyF, yyG, yyH, yyI, yyJ, yyK, yyL, yyM, yyN, yyO, yyP, yyQ] at *); omega) (by (try simp only [ln, nI, sz, lnd, yyR, yyA, yyB, yyC, yyD, yyE, yyF, yyG, yyH, yyI, yyJ, yyK, yyL, yyM, yyN, yyO, yyP, yyQ] at *); omega)) fun _ _ => Ok.tt) fun _ => Ok.con (fun q => Ok.bd (o_members hf (by (try simp only [ln, nI, sz, lnd, yyR, yyA, yyB, yyC, yyD, yyE, yyF, yyG, yyH, yyI, yyJ, yyK, yyL, yyM, yyN, yyO, yyP, yyQ] at *); omega) he.members) fun _ _ => Ok.tt) fun _ => ?_
 refine Ok.con (fun q => Ok.ix (by (try simp only [ln, nI, sz, lnd, yyR, yyA, yyB, yyC, yyD, yyE, yyF, yyG, yyH, yyI, yyJ, yyK, yyL, yyM, yyN, yyO, yyP, yyQ] at *); omega) (by (try simp only [ln, nI, sz, lnd, yyR, yyA, yyB, yyC, yyD, yyE, yyF, yyG, yyH, yyI, yyJ, yyK, yyL, yyM, yyN, yyO, yyP, yyQ] at *); omega) fun _ _ => Ok.tt) fun _ => Ok.con (fun q => Ok.ix (by (try simp only [ln, nI, sz, lnd, yyR, yyA, yyB, yyC, yyD, yyE, yyF, yyG, yyH, yyI, yyJ, yyK, yyL, yyM, yyN, yyO, yyP, yyQ] at *); omega) (by (try simp only [ln, nI, sz, lnd, yyR, yyA, yyB, yyC, yyD, yyE, yyF, yyG, yyH, yyI, yyJ, yyK, yyL, yyM, yyN, yyO, yyP, yyQ] at *); omega) fun _ _ => Ok.tt) fun _ => Ok.con (fun _ => Ok.tt) fun _ => ?_
 refine Ok.con (fun q => ?_) fun _ => Ok.con (fun q => ?_) fun _ => Ok.con (fun q => ?_) fun _ => Ok.con (fun q => ?_) fun _ => Ok.con (fun q => ?_) fun _ => Ok.con (fun q => ?_) fun _ => Ok.con (fun q => ?_) fun _ => Ok.con (fun q => ?_) fun _ => Ok.con (fun q => ?_) fun _ => Ok.con (fun q => ?_) fun _ => Ok.tt
 case refine_9 =>
  refine Ok.ix (by (try simp only [ln, nI, sz, lnd, yyR, yyA, yyB, yyC, yyD, yyE, yyF, yyG, yyH, yyI, yyJ, yyK, yyL, yyM, yyN, yyO, yyP, yyQ] at *); omega) (by (try simp only [ln, nI, sz, lnd, yyR, yyA, yyB, yyC, yyD, yyE, yyF, yyG, yyH, yyI, yyJ, yyK, yyL, yyM, yyN, yyO, yyP, yyQ] at *); omega) fun t ht => Ok.ix (by omega) (by (try simp only [ln, nI, sz, lnd, yyR, yyA, yyB, yyC, yyD, yyE, yyF, yyG, yyH, yyI, yyJ, yyK, yyL, yyM, yyN, yyO, yyP, yyQ] at *); omega) fun a ha => Ok.bd (o_Look hf (he.tables t (mem_ix ht)) _ _) fun c hc => Ok.con (fun _ => Ok.tt) fun q3 => ?_
  have := hc (by simpa using q3)
  exact Ok.ix this.1 this.2 fun _ _ => Ok.tt
 case refine_10 =>
  exact Ok.ix (by (try simp only [ln, nI, sz, lnd, yyR, yyA, yyB, yyC, yyD, yyE, yyF, yyG, yyH, yyI, yyJ, yyK, yyL, yyM, yyN, yyO, yyP, yyQ] at *); omega) (by (try simp only [ln, nI, sz, lnd, yyR, yyA, yyB, yyC, yyD, yyE, yyF, yyG, yyH, yyI, yyJ, yyK, yyL, yyM, yyN, yyO, yyP, yyQ] at *); omega) fun t ht => Ok.ix (by omega) (by (try simp only [ln, nI, sz, lnd, yyR, yyA, yyB, yyC, yyD, yyE, yyF, yyG, yyH, yyI, yyJ, yyK, yyL, yyM, yyN, yyO, yyP, yyQ] at *); omega) fun a ha => Ok.bd (o_Brk hf (he.tables t (mem_ix ht)) _ _ _) fun _ _ => Ok.tt
 all_goals
  repeat' (first | (first | with_reducible exact Ok.tt | with_reducible refine Ok.con (fun _ => ?_) (fun _ => ?_) | with_reducible refine Ok.cnt ?_ ?_ | with_reducible refine Ok.ixN ?_ (fun _ _ => ?_) | with_reducible refine Ok.ix ?_ ?_ (fun _ _ => ?_) | with_reducible refine Ok.sl ?_ ?_ ?_ ?_ | with_reducible refine Ok.ap ?_ ?_ | with_reducible refine Ok.strN ?_ (fun _ _ => ?_) | with_reducible refine Ok.bde rfl ?_) | with_reducible refine Ok.bd (o_bool _) (fun _ _ => ?_))
 all_goals ((try simp only [ln, nI, sz, lnd, yyR, yyA, yyB, yyC, yyD, yyE, yyF, yyG, yyH, yyI, yyJ, yyK, yyL, yyM, yyN, yyO, yyP, yyQ] at *); omega)
theorem o_Apply (hf : 200000 ≤ fu) {n : MNode} {l : List MValue} {env : MEnv} (hl : l.length ≤ 3) (he : EnvOk env) : Ok (m_eval_Apply fu n l env) (fun v => v.2 = 0 → PlB v.1) := by
 unfold m_eval_Apply
 refine Ok.bd (o_wellF _ _) fun c hc => Ok.con (fun _ => Ok.ret fun h => by cases h) fun q => ?_
 obtain ⟨h1, h2⟩ := hc (by simpa using q)
 refine Ok.bd (o_exists n env (by omega)) fun c hx => Ok.con (fun _ => Ok.ret fun h => by cases h) fun q2 => ?_
 replace hx := hx (by simpa using q2)
 refine Ok.loop (fun i : Nat => i ≤ l.length ∧ ∀ k v, k < i → l[k]? = some v → PlB v) (fun i => l.length - i) (fun m i hi rec => ?_) ⟨Nat.zero_le _, fun k v hk => by omega⟩ (by omega)
 obtain ⟨hi, ha⟩ := hi
 simp only [m_eval_Apply_L1]
 refine Ok.con (fun q => ?_) fun q => ?_
 ·have q' : i < l.length := by simpa [nI] using q
  refine Ok.ixN q' fun v hv => Ok.bd (o_plaus _) fun c hc => Ok.con (fun _ => Ok.ret fun h => by cases h) fun q3 => Ok.cnt (by omega) (rec _ ⟨by omega, fun k w hk hw => ?_⟩ (by omega))
  by_cases q4 : k = i
  ·subst q4; rw [hv] at hw; cases hw; exact hc (by simpa using q3)
  ·exact ha k w (by omega) hw
 ·have q' : l.length ≤ i := by simpa [nI] using q
  have hp : ∀ v ∈ l, PlB v := fun v hv => by
   obtain ⟨k, hk⟩ := List.getElem?_of_mem hv
   exact ha k v (by have := lt_ix hk; omega) hk
  have hl' : (l.length : Int) = arB n.op := by rw [h1]; exact (ln_len cValue l).symm
  refine Ok.bd (o_allowed hl' hx) fun c _ => Ok.con (fun _ => Ok.ret fun h => by cases h) fun _ => Ok.bd (o_operate hf hl' hx he hp) fun c _ => Ok.con (fun q => Ok.ret fun h => ?_) fun _ => Ok.bd (o_plaus _) fun b hb => Ok.con (fun _ => Ok.ret fun h => by cases h) fun q3 => Ok.ret fun _ => hb (by simpa using q3)
  (try simp only [ln, nI, sz, lnd, yyR, yyA, yyB, yyC, yyD, yyE, yyF, yyG, yyH, yyI, yyJ, yyK, yyL, yyM, yyN, yyO, yyP, yyQ] at *); exact absurd h q
theorem o_Opnds (hf : 200000 ≤ fu) {e : List MNode} {l : List Int} {i0 : Int} (hst : m_expr_starts fu e = some (l, i0, 0)) (hs : Sts e l) (he : e.length ≤ 48) {i : Nat} {nd : MNode} (hn : e[i]? = some nd) : Ok (m_expr_Operands fu e (i : Int)) (fun v => (v.length : Int) = arB nd.op ∧ ∀ x ∈ v, 0 ≤ x ∧ x < i) := by
 have hi := lt_ix hn
 unfold m_expr_Operands m_expr_Starts
 rw [hst, bd_of, bd_of]
 refine Ok.con (fun q => ?_) fun _ => Ok.bd (o_operands hf hs he hn) fun v hv => Ok.ret hv
 exfalso
 simp at q
 omega
theorem o_node {e : List MNode} {env : MEnv} (he : EnvOk env) (hst : ∀ fu, 200000 ≤ fu → ∃ l i0, m_expr_starts fu e = some (l, i0, 0) ∧ Sts e l) (h48 : e.length ≤ 48) : ∀ (k : Nat) {fu : Nat}, 200000 + 2 * k ≤ fu →
  (∀ i : Nat, i < e.length → 2 * i + 1 ≤ k → Ok (m_eval_evaluator_node fu (MEvalEvaluator.mk e env) i) (fun v => v.2 = 0 → PlB v.1)) ∧ (∀ i : Nat, i < e.length → 2 * i + 2 ≤ k → Ok (m_eval_evaluator_truth fu (MEvalEvaluator.mk e env) i) (fun _ => True)) := by
 intro k
 induction k with
 | zero => intro fu hf; exact ⟨fun i _ h => by omega, fun i _ h => by omega⟩
 | succ k ih =>
  intro fu hf
  obtain ⟨fu, rfl⟩ : ∃ m, fu = m + 1 := ⟨fu - 1, by omega⟩
  obtain ⟨ihn, iht⟩ := ih (fu := fu) (by omega)
  have hf' : 200000 ≤ fu := by omega
  refine ⟨fun i hi hk => ?_, fun i hi hk => ?_⟩
  ·have hn : e[i]? = some e[i] := List.getElem?_eq_getElem hi
   obtain ⟨l, i0, h1, h2⟩ := hst fu hf'
   show Ok (o_eval_evaluator_node fu (m_eval_evaluator_node fu) (m_eval_evaluator_truth fu) (MEvalEvaluator.mk e env) i) _
   unfold o_eval_evaluator_node
   refine Ok.bde (ix_nat e i ▸ hn) (Ok.bd (o_Opnds hf' h1 h2 h48 hn) fun ops hops => ?_)
   obtain ⟨p1, p2⟩ := hops
   generalize hnd : e[i] = nd at *
   have hc := ar_cases nd.op
   have vt : ∀ (j : Nat) (x : Int), ops[j]? = some x → Ok (m_eval_evaluator_truth fu (MEvalEvaluator.mk e env) x) (fun _ => True) := fun j x hx => by
    obtain ⟨a, b⟩ := p2 x (mem_ix hx)
    have := iht x.toNat (by omega) (by omega)
    rwa [Int.toNat_of_nonneg a] at this
   have vn : ∀ (j : Nat) (x : Int), ops[j]? = some x → Ok (m_eval_evaluator_node fu (MEvalEvaluator.mk e env) x) (fun v => v.2 = 0 → PlB v.1) := fun j x hx => by
    obtain ⟨a, b⟩ := p2 x (mem_ix hx)
    have := ihn x.toNat (by omega) (by omega)
    rwa [Int.toNat_of_nonneg a] at this
   have bl : ∀ b : Bool, Ok (bd (m_eval_boolean fu b) fun c => some ((c, 0) : MValue × Int)) (fun v => v.2 = 0 → PlB v.1) := fun b => by
    unfold m_eval_boolean
    cases b with
    | true =>
     rw [cond_true, bd_of]
     exact Ok.ret fun _ => by unfold PlB; decide
    | false =>
     rw [cond_false, bd_of]
     exact Ok.ret fun _ => by unfold PlB; decide
   have z : ∀ (c : Int), (c != 0) = true → Ok (some ((MValue.mk 0 0 0), c)) (fun v : MValue × Int => v.2 = 0 → PlB v.1) := fun c hc => Ok.ret fun h => by
    simp at hc; exact absurd h hc
   refine Ok.con (fun q => Ok.con (fun _ => Ok.ret fun h => by cases h) fun _ => ?_) fun _ => Ok.con (fun q => Ok.con (fun _ => Ok.ret fun h => by cases h) fun _ => ?_) fun _ => Ok.con (fun q => Ok.con (fun _ => Ok.ret fun h => by cases h) fun _ => ?_) fun _ => ?_
   ·have q : nd.op = 23 := by simpa using q
    exact Ok.ix (by omega) (by omega) fun x hx => Ok.bd (vt _ _ hx) fun c _ => Ok.con (z _) fun _ => Ok.con (fun _ => bl _) fun _ => Ok.ix (by omega) (by omega) fun x hx => Ok.bd (vt _ _ hx) fun c _ => Ok.con (z _) fun _ => bl _
   ·have q : nd.op = 24 := by simpa using q
    exact Ok.ix (by omega) (by omega) fun x hx => Ok.bd (vt _ _ hx) fun c _ => Ok.con (z _) fun _ => Ok.con (fun _ => bl _) fun _ => Ok.ix (by omega) (by omega) fun x hx => Ok.bd (vt _ _ hx) fun c _ => Ok.con (z _) fun _ => bl _
   ·have q : nd.op = 26 := by simpa using q
    exact Ok.ix (by omega) (by omega) fun x hx => Ok.bd (vt _ _ hx) fun c _ => Ok.con (z _) fun _ => Ok.con (fun _ => Ok.ix (by omega) (by omega) fun x hx => Ok.bd (vn _ _ hx) fun c hc => Ok.ret hc) fun _ => Ok.ix (by omega) (by omega) fun x hx => Ok.bd (vn _ _ hx) fun c hc => Ok.ret hc
   ·refine Ok.loop (fun x : List MValue × Nat => x.2 ≤ ops.length ∧ x.1.length = x.2) (fun x => ops.length - x.2) (fun m x hx rec => ?_) ⟨Nat.zero_le _, rfl⟩ (by simp only; omega)
    obtain ⟨args, j⟩ := x
    obtain ⟨a1, a2⟩ := hx
    simp only at a1 a2
    simp only [m_eval_evaluator_node_L1]
    refine Ok.con (fun q => ?_) fun q => Ok.bd (o_Apply hf' (by omega) he) fun c hc => Ok.ret hc
    have q' : j < ops.length := by simpa [nI] using q
    exact Ok.ixN q' fun x hx => Ok.bd (vn _ _ hx) fun c _ => Ok.con (z _) fun _ => Ok.ap (by simp; omega) (Ok.cnt (by omega) (rec _ ⟨by simp only; omega, by simp [a2]⟩ (by simp only; omega)))
  ·show Ok (o_eval_evaluator_truth fu (m_eval_evaluator_node fu) (m_eval_evaluator_truth fu) (MEvalEvaluator.mk e env) i) _
   unfold o_eval_evaluator_truth
   exact Ok.bd (ihn i hi (by omega)) fun c _ => Ok.con (fun _ => Ok.tt) fun _ => Ok.con (fun _ => Ok.tt) fun _ => Ok.bd (o_plaus _) fun _ _ => Ok.con (fun _ => Ok.tt) fun _ => Ok.tt
theorem starts_fu (e : List MNode) {a b : Nat} (ha : 200000 ≤ a) (hb : 200000 ≤ b) : m_expr_starts a e = m_expr_starts b e := by
 have key : ∀ (k : (List Int × List Int) → Option (List Int × Int × Int)) (d n n' : Nat) (x : List Int × List Int × Nat), e.length - x.2.2 ≤ d → d < n → d < n' → m_expr_starts_L1 e a k n x = m_expr_starts_L1 e b k n' x := by
  intro k d
  induction d with
  | zero =>
   intro n n' x h1 h2 h3
   obtain ⟨n, rfl⟩ : ∃ m, n = m + 1 := ⟨n - 1, by omega⟩
   obtain ⟨n', rfl⟩ : ∃ m, n' = m + 1 := ⟨n' - 1, by omega⟩
   obtain ⟨o, st, i⟩ := x
   simp only at h1
   simp only [m_expr_starts_L1, ge_ln (f := cNode) (show e.length ≤ i by omega), cond_false]
  | succ d ih =>
   intro n n' x h1 h2 h3
   obtain ⟨n, rfl⟩ : ∃ m, n = m + 1 := ⟨n - 1, by omega⟩
   obtain ⟨n', rfl⟩ : ∃ m, n' = m + 1 := ⟨n' - 1, by omega⟩
   obtain ⟨o, st, i⟩ := x
   simp only at h1
   have e1 : ∀ o st, m_expr_starts_L1 e a k n (o, st, i + 1) = m_expr_starts_L1 e b k n' (o, st, i + 1) := fun o st => ih n n' (o, st, i + 1) (by simp only; omega) (by omega) (by omega)
   simp only [m_expr_starts_L1, s_Arity, bd_of, e1]
 unfold m_expr_starts
 cases q : decide (48 < ln cNode e) with
 | true => rfl
 | false =>
  have q' := of_decide_eq_false q
  rw [ln_len] at q'
  rw [key _ 48 a b _ (by simp only; omega) (by omega) (by omega)]
theorem o_Eval (hf : 201000 ≤ fu) (e : List MNode) {env : MEnv} (he : EnvOk env) : Ok (m_eval_Eval fu e env) (fun v => v.2 = 0 → PlB v.1) := by
 unfold m_eval_Eval m_expr_Starts
 obtain ⟨st, h1, h2⟩ := o_starts (by omega : 200000 ≤ fu) (e := e)
 rw [h1, bd_of, bd_of]
 refine Ok.con (fun q => Ok.ret fun h => ?_) fun q => ?_
 ·(try simp only [ln, nI, sz, lnd, yyR, yyA, yyB, yyC, yyD, yyE, yyF, yyG, yyH, yyI, yyJ, yyK, yyL, yyM, yyN, yyO, yyP, yyQ] at *); exact absurd h q
 have q' : st.2.2 = 0 := by simpa using q
 obtain ⟨hs, h0, h48⟩ := h2 q'
 rw [w64_id (by simp only [lnd]; omega) (by simp only [lnd]; omega)]
 have e1 : ln cNode e - 1 = ((e.length - 1 : Nat) : Int) := by simp only [ln, lnd]; omega
 rw [e1]
 have key := (o_node he (fun fu' hf' => ⟨st.1, st.2.1, by rw [starts_fu e hf' (by omega : 200000 ≤ fu), h1, ← q'], hs⟩) h48 100 (fu := fu) (by omega)).1 (e.length - 1) (by omega) (by omega)
 exact Ok.bd key fun c hc => Ok.ret hc
end Go.Ab
