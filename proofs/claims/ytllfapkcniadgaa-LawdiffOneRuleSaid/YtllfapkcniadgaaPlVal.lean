/- Plain laws: identifiers, names, enumerations, tables, fields of the reference for valid laws. -/
import Derived.Test.YtllfapkcniadgaaPlOk
import Derived.Test.YtllfapkcniadgaaVbM
set_option linter.unusedVariables false
set_option linter.unusedSimpArgs false
namespace Go.Ab

def lowB (c : Int) : Bool := decide (97 ≤ c) && decide (c ≤ 122)
def digB (c : Int) : Bool := decide (48 ≤ c) && decide (c ≤ 57)
def wordB (c : Int) : Bool := lowB c || (digB c || c == 95)
@[simp] theorem s_lower (fu c) : m_ref08_lower fu c = some (lowB c) := rfl
@[simp] theorem s_digit (fu c) : m_ref08_digit fu c = some (digB c) := rfl
@[simp] theorem s_word (fu c) : m_ref08_word fu c = some (wordB c) := by
  simp [m_ref08_word, wordB]; cases lowB c <;> simp

def reserved : List BA := (m_ref08_Reserved 0).getD []
@[simp] theorem s_Reserved (fu) : m_ref08_Reserved fu = some reserved := rfl
theorem reserved_len : reserved.length ≤ 100 := by decide

def identB (s : BA) : Bool := !(s.size == 0) && (decide (s.size ≤ 16) && ((match (bytes s)[0]? with | some c => lowB c | none => false) && (!((bytes s).any fun c => !wordB c) && !(reserved.any fun e => decide (e = s)))))

theorem s_IsIdentifier (fu : Nat) (s : BA) (hf : 200 ≤ fu) : m_ref08_IsIdentifier fu s = some (identB s) := by
  have hb : (bytes s).length = s.size := bytes_len s
  have e2 : ∀ (k : Unit → Option Bool), m_ref08_IsIdentifier_L2 reserved s k fu 0 = bif reserved.any (fun e => decide (e = s)) then some false else k () := by
    intro k
    have hr := reserved_len
    rw [to_lrun (S := Unit) (m_ref08_IsIdentifier_L2 reserved s k) (fun _ i => i) reserved (fun i e _ c => bif decide (e = s) then some false else c ()) k (by omega)
      (fun n s' i e h => by simp only [m_ref08_IsIdentifier_L2, lt_ln h, cond_true, ix_nI, h, bd_of]) (fun n s' i h => by simp only [m_ref08_IsIdentifier_L2, ge_ln h, cond_false]) fu () 0 (Nat.zero_le _) (by omega)]
    exact lrun_any (fun i x c => rfl) _ _
  unfold m_ref08_IsIdentifier identB
  by_cases h0 : s.size = 0
  · have c0 : ((sz s == 0) || decide (16 < sz s)) = true := by simp [sz, h0]
    rw [c0, h0]; rfl
  by_cases h1 : 16 < s.size
  · have c0 : ((sz s == 0) || decide (16 < sz s)) = true := by simp [sz]; omega
    rw [c0, decide_eq_false (show ¬ s.size ≤ 16 by omega)]; simp
  have c0 : ((sz s == 0) || decide (16 < sz s)) = false := by
    have a1 : (sz s == 0) = false := by simp only [sz, beq_eq_false_iff_ne]; omega
    have a2 : decide (16 < sz s) = false := by simp only [sz, decide_eq_false_iff_not]; omega
    rw [a1, a2]; rfl
  obtain ⟨c, hc⟩ : ∃ c, (bytes s)[0]? = some c := ⟨_, List.getElem?_eq_getElem (by omega)⟩
  have e1 : ∀ (k : Unit → Option Bool), m_ref08_IsIdentifier_L1 s fu k fu 0 = bif (bytes s).any (fun c => !wordB c) then some false else k () := by
    intro k
    rw [to_lrun (S := Unit) (m_ref08_IsIdentifier_L1 s fu k) (fun _ i => i) (bytes s) (fun i e _ c => bif !wordB e then some false else c ()) k (by omega)
      (fun n s' i e h => by
        have hi := (List.getElem?_eq_some_iff.1 h).1
        simp only [m_ref08_IsIdentifier_L1, lt_sz (show i < s.size by omega), strAt_bytes, h, bd_of, s_word, cond_true]) (fun n s' i h => by
        simp only [m_ref08_IsIdentifier_L1, ge_sz (show s.size ≤ i by omega), cond_false]) fu () 0 (Nat.zero_le _) (by omega)]
    exact lrun_any (fun i x c => rfl) _ _
  rw [c0, strAt_zero, hc, show (s.size == 0) = false by simpa using h0, decide_eq_true (show s.size ≤ 16 by omega)]
  simp only [cond_false, bd_of, s_lower, e1, s_Reserved, e2]
  cases lowB c <;> cases (bytes s).any (fun c => !wordB c) <;> cases reserved.any (fun e => decide (e = s)) <;> rfl

@[simp] theorem s_Valid (fu r) : m_ref05_Valid fu r = some (((decide (0 ≤ r.fr)) && (decide (r.fr ≤ r.to))) && (decide (r.to ≤ 109573))) := rfl

theorem o_nameTaken {fu : Nat} {l : MLaw} {sec item : Int} {name : BA} (hf : 200 ≤ fu) (h1 : l.enums.length ≤ 100) (h2 : l.tables.length ≤ 100) (h3 : l.scopes.length ≤ 100) :
    Ok (m_ref17_nameTaken fu l sec item name) (fun v => v = false → sec = 3 → ∀ (j : Nat) (e : MScope), (j : Int) < item → l.scopes[j]? = some e → e.name ≠ name) := by
  unfold m_ref17_nameTaken
  refine Ok.loop (fun i => i ≤ l.enums.length) (fun i => l.enums.length - i) (fun n i hi rec => ?_) (Nat.zero_le _) (by omega)
  simp only [m_ref17_nameTaken_L1]
  (repeat' (first | with_reducible exact Ok.tt | with_reducible refine Ok.con (fun _ => ?_) (fun _ => ?_) | with_reducible refine Ok.cnt ?_ ?_ | with_reducible refine Ok.ixN ?_ (fun _ _ => ?_) | with_reducible refine Ok.ix ?_ ?_ (fun _ _ => ?_) | with_reducible refine Ok.sl ?_ ?_ ?_ ?_ | with_reducible refine Ok.ap ?_ ?_ | with_reducible refine Ok.strN ?_ (fun _ _ => ?_) | with_reducible refine Ok.bde rfl ?_)) <;> (try simp only [ln, nI, sz, lnd, List.length_map, Bool.and_eq_true, Bool.or_eq_true, Bool.and_eq_false_iff, Bool.or_eq_false_iff, Bool.not_eq_true', Bool.not_eq_false', decide_eq_true_eq, decide_eq_false_iff_not, beq_iff_eq, bne_iff_ne, beq_eq_false_iff_ne, bne_eq_false_iff_eq, not_true_eq_false, not_false_eq_true, Bool.not_true, Bool.not_false, ne_eq] at *)
  all_goals try first | omega | exact Ok.ret (fun h => tf h) | (refine rec _ ?_ ?_ <;> omega)
  refine Ok.loop (fun i => i ≤ l.tables.length) (fun i => l.tables.length - i) (fun n i hi rec => ?_) (Nat.zero_le _) (by omega)
  simp only [m_ref17_nameTaken_L2]
  (repeat' (first | with_reducible exact Ok.tt | with_reducible refine Ok.con (fun _ => ?_) (fun _ => ?_) | with_reducible refine Ok.cnt ?_ ?_ | with_reducible refine Ok.ixN ?_ (fun _ _ => ?_) | with_reducible refine Ok.ix ?_ ?_ (fun _ _ => ?_) | with_reducible refine Ok.sl ?_ ?_ ?_ ?_ | with_reducible refine Ok.ap ?_ ?_ | with_reducible refine Ok.strN ?_ (fun _ _ => ?_) | with_reducible refine Ok.bde rfl ?_)) <;> (try simp only [ln, nI, sz, lnd, List.length_map, Bool.and_eq_true, Bool.or_eq_true, Bool.and_eq_false_iff, Bool.or_eq_false_iff, Bool.not_eq_true', Bool.not_eq_false', decide_eq_true_eq, decide_eq_false_iff_not, beq_iff_eq, bne_iff_ne, beq_eq_false_iff_ne, bne_eq_false_iff_eq, not_true_eq_false, not_false_eq_true, Bool.not_true, Bool.not_false, ne_eq] at *)
  all_goals try first | omega | exact Ok.ret (fun h => tf h) | (refine rec _ ?_ ?_ <;> omega)
  refine Ok.loop (fun i => i ≤ l.scopes.length ∧ (sec = 3 → ∀ (j : Nat) (e : MScope), (j : Int) < item → j < i → l.scopes[j]? = some e → e.name ≠ name)) (fun i => l.scopes.length - i) (fun n i hi rec => ?_) ⟨Nat.zero_le _, fun _ j e _ h => by omega⟩ (by omega)
  obtain ⟨hi, ha⟩ := hi
  simp only [m_ref17_nameTaken_L3]
  (repeat' (first | with_reducible exact Ok.tt | with_reducible refine Ok.con (fun _ => ?_) (fun _ => ?_) | with_reducible refine Ok.cnt ?_ ?_ | with_reducible refine Ok.ixN ?_ (fun _ _ => ?_) | with_reducible refine Ok.ix ?_ ?_ (fun _ _ => ?_) | with_reducible refine Ok.sl ?_ ?_ ?_ ?_ | with_reducible refine Ok.ap ?_ ?_ | with_reducible refine Ok.strN ?_ (fun _ _ => ?_) | with_reducible refine Ok.bde rfl ?_)) <;> (try simp only [ln, nI, sz, lnd, List.length_map, Bool.and_eq_true, Bool.or_eq_true, Bool.and_eq_false_iff, Bool.or_eq_false_iff, Bool.not_eq_true', Bool.not_eq_false', decide_eq_true_eq, decide_eq_false_iff_not, beq_iff_eq, bne_iff_ne, beq_eq_false_iff_ne, bne_eq_false_iff_eq, not_true_eq_false, not_false_eq_true, Bool.not_true, Bool.not_false, ne_eq] at *)
  all_goals try first | omega | exact Ok.ret (fun h => tf h)
  · rename_i e he _ _ hne
    refine rec _ ⟨by omega, fun s j e' hj hji he' => ?_⟩ (by omega)
    by_cases q : j = i
    · subst q; rw [he] at he'; cases he'; exact hne
    · exact ha s j e' hj (by omega) he'
  · rename_i hne
    refine rec _ ⟨by omega, fun s j e' hj hji he' => ?_⟩ (by omega)
    by_cases q : j = i
    · subst q; rcases hne with hne | hne; exact absurd s hne; exact absurd hj hne
    · exact ha s j e' hj (by omega) he'
  · rename_i hc
    refine Ok.ret fun _ s j e hj he => ha s j e hj ?_ he
    have := (List.getElem?_eq_some_iff.1 he).1
    omega
end Go.Ab

/- Plain laws: enumerations, tables, fields and texts of the reference for valid laws always get an answer. -/
set_option linter.unusedVariables false
set_option linter.unusedSimpArgs false
namespace Go.Ab

def vtyB (t : MTy) (n : Nat) : Bool := bif t.kind == 6 then decide (0 ≤ t.en) && decide (t.en < (n : Int)) else (decide (1 ≤ t.kind) && decide (t.kind ≤ 5)) && (t.en == 0)
@[simp] theorem s_ValidType (fu t) (enums : List MEnum) : m_ref09_ValidType fu t enums = some (vtyB t enums.length) := by
  unfold m_ref09_ValidType vtyB; rw [ln_len]
  cases t.kind == 6 <;> rfl

theorem o_Bounds {fu t} {enums : List MEnum} : Ok (m_ref09_Bounds fu t enums) (fun _ => True) := by
  unfold m_ref09_Bounds
  simp only [s_ValidType, bd_of]
  (repeat' (first | with_reducible exact Ok.tt | with_reducible refine Ok.con (fun _ => ?_) (fun _ => ?_) | with_reducible refine Ok.cnt ?_ ?_ | with_reducible refine Ok.ixN ?_ (fun _ _ => ?_) | with_reducible refine Ok.ix ?_ ?_ (fun _ _ => ?_) | with_reducible refine Ok.sl ?_ ?_ ?_ ?_ | with_reducible refine Ok.ap ?_ ?_ | with_reducible refine Ok.strN ?_ (fun _ _ => ?_) | with_reducible refine Ok.bde rfl ?_)) <;> (try simp only [ln, nI, sz, lnd, List.length_map, Bool.and_eq_true, Bool.or_eq_true, Bool.and_eq_false_iff, Bool.or_eq_false_iff, Bool.not_eq_true', Bool.not_eq_false', decide_eq_true_eq, decide_eq_false_iff_not, beq_iff_eq, bne_iff_ne, beq_eq_false_iff_ne, bne_eq_false_iff_eq, not_true_eq_false, not_false_eq_true, Bool.not_true, Bool.not_false, ne_eq] at *)
  · unfold vtyB at *
    rename_i h _ _ _ _ _
    by_cases q : t.kind = 6
    · simp [q] at h; omega
    · simp [q] at h; omega
  · unfold vtyB at *
    rename_i h _ _ _ _ _
    by_cases q : t.kind = 6
    · simp [q] at h; omega
    · simp [q] at h; omega
theorem o_In {fu n t} {enums : List MEnum} : Ok (m_ref09_In fu n t enums) (fun _ => True) := Ok.bd o_Bounds fun _ _ => Ok.tt
theorem o_wrong {fu x t} {enums : List MEnum} : Ok (m_ref12_wrong fu x t enums) (fun _ => True) := by
  unfold m_ref12_wrong
  simp only [s_Valid, bd_of]
  refine Ok.con (fun _ => Ok.tt) fun _ => Ok.bd o_In fun _ _ => Ok.con (fun _ => Ok.tt) fun _ => Ok.bd o_In fun _ _ => Ok.con (fun _ => Ok.tt) fun _ => Ok.bd o_In fun _ _ => Ok.tt
theorem o_Intersect {fu a b} : Ok (m_ref05_Intersect fu a b) (fun _ => True) := by
  unfold m_ref05_Intersect
  simp only [s_Valid, bd_of]
  (repeat' (first | with_reducible exact Ok.tt | with_reducible refine Ok.con (fun _ => ?_) (fun _ => ?_) | with_reducible refine Ok.cnt ?_ ?_ | with_reducible refine Ok.ixN ?_ (fun _ _ => ?_) | with_reducible refine Ok.ix ?_ ?_ (fun _ _ => ?_) | with_reducible refine Ok.sl ?_ ?_ ?_ ?_ | with_reducible refine Ok.ap ?_ ?_ | with_reducible refine Ok.strN ?_ (fun _ _ => ?_) | with_reducible refine Ok.bde rfl ?_))
theorem o_conflict {fu a b} : Ok (m_ref12_conflict fu a b) (fun _ => True) := Ok.bd o_Intersect fun _ _ => Ok.tt

theorem o_tabValidate {fu : Nat} {t : MTable} {enums : List MEnum} (hf : 200 ≤ fu) : Ok (m_ref12_Validate fu t enums) (fun _ => True) := by
  unfold m_ref12_Validate
  simp only [s_ValidType, bd_of]
  (repeat' (first | with_reducible exact Ok.tt | with_reducible refine Ok.con (fun _ => ?_) (fun _ => ?_) | with_reducible refine Ok.cnt ?_ ?_ | with_reducible refine Ok.ixN ?_ (fun _ _ => ?_) | with_reducible refine Ok.ix ?_ ?_ (fun _ _ => ?_) | with_reducible refine Ok.sl ?_ ?_ ?_ ?_ | with_reducible refine Ok.ap ?_ ?_ | with_reducible refine Ok.strN ?_ (fun _ _ => ?_) | with_reducible refine Ok.bde rfl ?_))
  (try simp only [ln, nI, sz, lnd, List.length_map, Bool.and_eq_true, Bool.or_eq_true, Bool.and_eq_false_iff, Bool.or_eq_false_iff, Bool.not_eq_true', Bool.not_eq_false', decide_eq_true_eq, decide_eq_false_iff_not, beq_iff_eq, bne_iff_ne, beq_eq_false_iff_ne, bne_eq_false_iff_eq, not_true_eq_false, not_false_eq_true, Bool.not_true, Bool.not_false, ne_eq] at *)
  refine Ok.loop (fun i => i ≤ t.rows.length) (fun i => t.rows.length - i) (fun n i hi rec => ?_) (Nat.zero_le _) (by omega)
  simp only [m_ref12_Validate_L1]
  (repeat' (first | with_reducible exact Ok.tt | with_reducible refine Ok.con (fun _ => ?_) (fun _ => ?_) | with_reducible refine Ok.cnt ?_ ?_ | with_reducible refine Ok.ixN ?_ (fun _ _ => ?_) | with_reducible refine Ok.ix ?_ ?_ (fun _ _ => ?_) | with_reducible refine Ok.sl ?_ ?_ ?_ ?_ | with_reducible refine Ok.ap ?_ ?_ | with_reducible refine Ok.strN ?_ (fun _ _ => ?_) | with_reducible refine Ok.bde rfl ?_)) <;> (try simp only [ln, nI, sz, lnd, List.length_map, Bool.and_eq_true, Bool.or_eq_true, Bool.and_eq_false_iff, Bool.or_eq_false_iff, Bool.not_eq_true', Bool.not_eq_false', decide_eq_true_eq, decide_eq_false_iff_not, beq_iff_eq, bne_iff_ne, beq_eq_false_iff_ne, bne_eq_false_iff_eq, not_true_eq_false, not_false_eq_true, Bool.not_true, Bool.not_false, ne_eq] at *)
  · omega
  refine Ok.bd o_wrong fun w _ => ?_
  (repeat' (first | with_reducible exact Ok.tt | with_reducible refine Ok.con (fun _ => ?_) (fun _ => ?_) | with_reducible refine Ok.cnt ?_ ?_ | with_reducible refine Ok.ixN ?_ (fun _ _ => ?_) | with_reducible refine Ok.ix ?_ ?_ (fun _ _ => ?_) | with_reducible refine Ok.sl ?_ ?_ ?_ ?_ | with_reducible refine Ok.ap ?_ ?_ | with_reducible refine Ok.strN ?_ (fun _ _ => ?_) | with_reducible refine Ok.bde rfl ?_))
  refine Ok.loop (fun k => k ≤ i) (fun k => i - k) (fun m k hk rec2 => ?_) (Nat.zero_le _) (by omega)
  simp only [m_ref12_Validate_L2]
  (repeat' (first | with_reducible exact Ok.tt | with_reducible refine Ok.con (fun _ => ?_) (fun _ => ?_) | with_reducible refine Ok.cnt ?_ ?_ | with_reducible refine Ok.ixN ?_ (fun _ _ => ?_) | with_reducible refine Ok.ix ?_ ?_ (fun _ _ => ?_) | with_reducible refine Ok.sl ?_ ?_ ?_ ?_ | with_reducible refine Ok.ap ?_ ?_ | with_reducible refine Ok.strN ?_ (fun _ _ => ?_) | with_reducible refine Ok.bde rfl ?_)) <;> (try simp only [ln, nI, sz, lnd, List.length_map, Bool.and_eq_true, Bool.or_eq_true, Bool.and_eq_false_iff, Bool.or_eq_false_iff, Bool.not_eq_true', Bool.not_eq_false', decide_eq_true_eq, decide_eq_false_iff_not, beq_iff_eq, bne_iff_ne, beq_eq_false_iff_ne, bne_eq_false_iff_eq, not_true_eq_false, not_false_eq_true, Bool.not_true, Bool.not_false, ne_eq] at *)
  · omega
  · omega
  · refine Ok.bd o_conflict fun w _ => ?_
    (repeat' (first | with_reducible exact Ok.tt | with_reducible refine Ok.con (fun _ => ?_) (fun _ => ?_) | with_reducible refine Ok.cnt ?_ ?_ | with_reducible refine Ok.ixN ?_ (fun _ _ => ?_) | with_reducible refine Ok.ix ?_ ?_ (fun _ _ => ?_) | with_reducible refine Ok.sl ?_ ?_ ?_ ?_ | with_reducible refine Ok.ap ?_ ?_ | with_reducible refine Ok.strN ?_ (fun _ _ => ?_) | with_reducible refine Ok.bde rfl ?_))
    · omega
    · exact rec2 _ (by omega) (by omega)
  · omega
  · exact rec _ (by omega) (by omega)

theorem o_hasField {fu : Nat} {l : List MField} {n : Int} {name : BA} (hf : 200 ≤ fu) (hl : l.length ≤ 100) : Ok (m_ref17_hasField fu l n name) (fun v => v = false → ∀ (j : Nat) (e : MField), (j : Int) < n → l[j]? = some e → e.name ≠ name) := by
  unfold m_ref17_hasField
  refine Ok.loop (fun i => i ≤ l.length ∧ ∀ (j : Nat) (e : MField), j < i → l[j]? = some e → e.name ≠ name) (fun i => l.length - i) (fun m i hi rec => ?_) ⟨Nat.zero_le _, fun j e h => absurd h (Nat.not_lt_zero _)⟩ (by omega)
  obtain ⟨i1, i3⟩ := hi
  simp only [m_ref17_hasField_L1]
  refine Ok.con (fun q => ?_) fun q => Ok.ret fun _ j e hj he => i3 j e ?_ he
  · (try simp only [ln, nI, sz, lnd, List.length_map, Bool.and_eq_true, Bool.or_eq_true, Bool.and_eq_false_iff, Bool.or_eq_false_iff, Bool.not_eq_true', Bool.not_eq_false', decide_eq_true_eq, decide_eq_false_iff_not, beq_iff_eq, bne_iff_ne, beq_eq_false_iff_ne, bne_eq_false_iff_eq, not_true_eq_false, not_false_eq_true, Bool.not_true, Bool.not_false, ne_eq] at *)
    refine Ok.ixN (by omega) fun e he => Ok.con (fun _ => Ok.ret fun h => tf h) fun qn => Ok.cnt (by omega) (rec _ ⟨by omega, fun j e' hj he' => ?_⟩ (by omega))
    by_cases hh : j = i
    · subst hh; rw [he] at he'; cases he'; exact of_decide_eq_false qn
    · exact i3 j e' (by omega) he'
  · have := (List.getElem?_eq_some_iff.1 he).1
    simp only [ln, nI, lnd, Bool.and_eq_false_iff, decide_eq_false_iff_not] at q
    omega

theorem o_plainText {fu : Nat} {s : BA} (hf : 200 ≤ fu) (hl : s.size ≤ 100) : Ok (m_ref17_plainText fu s) (fun _ => True) := by
  unfold m_ref17_plainText
  refine Ok.loop (fun i => i ≤ s.size) (fun i => s.size - i) (fun n i hi rec => ?_) (Nat.zero_le _) (by omega)
  simp only [m_ref17_plainText_L1]
  (repeat' (first | with_reducible exact Ok.tt | with_reducible refine Ok.con (fun _ => ?_) (fun _ => ?_) | with_reducible refine Ok.cnt ?_ ?_ | with_reducible refine Ok.ixN ?_ (fun _ _ => ?_) | with_reducible refine Ok.ix ?_ ?_ (fun _ _ => ?_) | with_reducible refine Ok.sl ?_ ?_ ?_ ?_ | with_reducible refine Ok.ap ?_ ?_ | with_reducible refine Ok.strN ?_ (fun _ _ => ?_) | with_reducible refine Ok.bde rfl ?_)) <;> (try simp only [ln, nI, sz, lnd, List.length_map, Bool.and_eq_true, Bool.or_eq_true, Bool.and_eq_false_iff, Bool.or_eq_false_iff, Bool.not_eq_true', Bool.not_eq_false', decide_eq_true_eq, decide_eq_false_iff_not, beq_iff_eq, bne_iff_ne, beq_eq_false_iff_ne, bne_eq_false_iff_eq, not_true_eq_false, not_false_eq_true, Bool.not_true, Bool.not_false, ne_eq] at *)
  all_goals first | omega | exact rec _ (by omega) (by omega)

theorem o_enumError {fu : Nat} {l : MLaw} {i : Nat} (hf : 200 ≤ fu) (hl : SmallLaw l) (hi : i < l.enums.length) : Ok (m_ref17_enumError fu l (nI i)) (fun _ => True) := by
  obtain ⟨h1, h2, h3, h4, h5, h6, h7, h8⟩ := hl
  unfold m_ref17_enumError
  refine Ok.ixN hi fun e he => ?_
  simp only [s_IsIdentifier fu _ hf, bd_of]
  refine Ok.con (fun _ => Ok.tt) fun _ => ?_
  refine Ok.bd (o_nameTaken hf (by omega) (by omega) (by omega)) fun v hv => ?_
  (repeat' (first | with_reducible exact Ok.tt | with_reducible refine Ok.con (fun _ => ?_) (fun _ => ?_) | with_reducible refine Ok.cnt ?_ ?_ | with_reducible refine Ok.ixN ?_ (fun _ _ => ?_) | with_reducible refine Ok.ix ?_ ?_ (fun _ _ => ?_) | with_reducible refine Ok.sl ?_ ?_ ?_ ?_ | with_reducible refine Ok.ap ?_ ?_ | with_reducible refine Ok.strN ?_ (fun _ _ => ?_) | with_reducible refine Ok.bde rfl ?_))
  (try simp only [ln, nI, sz, lnd, List.length_map, Bool.and_eq_true, Bool.or_eq_true, Bool.and_eq_false_iff, Bool.or_eq_false_iff, Bool.not_eq_true', Bool.not_eq_false', decide_eq_true_eq, decide_eq_false_iff_not, beq_iff_eq, bne_iff_ne, beq_eq_false_iff_ne, bne_eq_false_iff_eq, not_true_eq_false, not_false_eq_true, Bool.not_true, Bool.not_false, ne_eq] at *)
  refine Ok.loop (fun x => x.1 ≤ e.members.length) (fun x => e.members.length - x.1) (fun n x hi rec => ?_) (Nat.zero_le _) (by simp only; omega)
  obtain ⟨j, ob⟩ := x
  simp only at hi
  simp only [m_ref17_enumError_L1, s_IsIdentifier fu _ hf, bd_of]
  refine Ok.con (fun _ => ?_) fun _ => Ok.tt
  (try simp only [ln, nI, sz, lnd, List.length_map, Bool.and_eq_true, Bool.or_eq_true, Bool.and_eq_false_iff, Bool.or_eq_false_iff, Bool.not_eq_true', Bool.not_eq_false', decide_eq_true_eq, decide_eq_false_iff_not, beq_iff_eq, bne_iff_ne, beq_eq_false_iff_ne, bne_eq_false_iff_eq, not_true_eq_false, not_false_eq_true, Bool.not_true, Bool.not_false, ne_eq] at *)
  refine Ok.ixN (by omega) fun m hm => ?_
  refine Ok.con (fun _ => Ok.tt) fun _ => ?_
  refine Ok.loop (fun k => k ≤ j) (fun k => j - k) (fun m k hk rec2 => ?_) (Nat.zero_le _) (by omega)
  simp only [m_ref17_enumError_L2]
  (repeat' (first | with_reducible exact Ok.tt | with_reducible refine Ok.con (fun _ => ?_) (fun _ => ?_) | with_reducible refine Ok.cnt ?_ ?_ | with_reducible refine Ok.ixN ?_ (fun _ _ => ?_) | with_reducible refine Ok.ix ?_ ?_ (fun _ _ => ?_) | with_reducible refine Ok.sl ?_ ?_ ?_ ?_ | with_reducible refine Ok.ap ?_ ?_ | with_reducible refine Ok.strN ?_ (fun _ _ => ?_) | with_reducible refine Ok.bde rfl ?_)) <;> (try simp only [ln, nI, sz, lnd, List.length_map, Bool.and_eq_true, Bool.or_eq_true, Bool.and_eq_false_iff, Bool.or_eq_false_iff, Bool.not_eq_true', Bool.not_eq_false', decide_eq_true_eq, decide_eq_false_iff_not, beq_iff_eq, bne_iff_ne, beq_eq_false_iff_ne, bne_eq_false_iff_eq, not_true_eq_false, not_false_eq_true, Bool.not_true, Bool.not_false, ne_eq] at *)
  · omega
  · omega
  · omega
  · exact rec2 _ (by omega) (by omega)
  · omega
  · exact rec _ (by simp only; omega) (by simp only; omega)

theorem o_tableError {fu : Nat} {l : MLaw} {i : Nat} (hf : 200 ≤ fu) (hl : SmallLaw l) (hi : i < l.tables.length) : Ok (m_ref17_tableError fu l (nI i)) (fun _ => True) := by
  obtain ⟨h1, h2, h3, h4, h5, h6, h7, h8⟩ := hl
  unfold m_ref17_tableError
  refine Ok.ixN hi fun e he => ?_
  simp only [s_IsIdentifier fu _ hf, bd_of]
  refine Ok.con (fun _ => Ok.tt) fun _ => ?_
  refine Ok.bd (o_nameTaken hf (by omega) (by omega) (by omega)) fun v hv => ?_
  refine Ok.con (fun _ => Ok.tt) fun _ => ?_
  refine Ok.bd (o_tabValidate hf) fun v hv => ?_
  (repeat' (first | with_reducible exact Ok.tt | with_reducible refine Ok.con (fun _ => ?_) (fun _ => ?_) | with_reducible refine Ok.cnt ?_ ?_ | with_reducible refine Ok.ixN ?_ (fun _ _ => ?_) | with_reducible refine Ok.ix ?_ ?_ (fun _ _ => ?_) | with_reducible refine Ok.sl ?_ ?_ ?_ ?_ | with_reducible refine Ok.ap ?_ ?_ | with_reducible refine Ok.strN ?_ (fun _ _ => ?_) | with_reducible refine Ok.bde rfl ?_))

theorem o_fieldError {fu : Nat} {l : MLaw} {i : Nat} {s : MScope} (hf : 200 ≤ fu) (hl : SmallLaw l) (hs : l.scopes[i]? = some s) :
    Ok (m_ref17_fieldError fu l (nI i)) (fun v => v.code = 0 → ∀ (j k : Nat) (e r : MField), j < k → s.defs[j]? = some e → s.defs[k]? = some r → e.name ≠ r.name) := by
  obtain ⟨h1, h2, h3, h4, h5, h6, h7, h8⟩ := hl
  have hi := (List.getElem?_eq_some_iff.1 hs).1
  unfold m_ref17_fieldError
  refine Ok.ixN hi fun e he => ?_
  rw [hs] at he; cases he
  obtain ⟨_, k1, k2, k3, _, _, k4⟩ := h8 s (List.mem_of_getElem? hs)
  refine Ok.loop (fun i => i ≤ s.inputs.length) (fun i => s.inputs.length - i) (fun n j hi rec1 => ?_) (Nat.zero_le _) (by omega)
  simp only [m_ref17_fieldError_L1, s_IsIdentifier fu _ hf, s_ValidType, bd_of]
  refine Ok.con (fun _ => ?_) fun _ => ?_
  · (try simp only [ln, nI, sz, lnd, List.length_map, Bool.and_eq_true, Bool.or_eq_true, Bool.and_eq_false_iff, Bool.or_eq_false_iff, Bool.not_eq_true', Bool.not_eq_false', decide_eq_true_eq, decide_eq_false_iff_not, beq_iff_eq, bne_iff_ne, beq_eq_false_iff_ne, bne_eq_false_iff_eq, not_true_eq_false, not_false_eq_true, Bool.not_true, Bool.not_false, ne_eq] at *)
    refine Ok.ixN (by omega) fun _ _ => Ok.con (fun _ => Ok.ret fun h => by cases h) fun _ => Ok.ixN (by omega) fun _ _ => Ok.bd (o_hasField hf (by omega)) fun _ _ => Ok.con (fun _ => Ok.ret fun h => by cases h) fun _ => Ok.ixN (by omega) fun _ _ => Ok.con (fun _ => Ok.ret fun h => by cases h) fun _ => Ok.cnt (by omega) (rec1 _ (by omega) (by omega))
  refine Ok.loop (fun i => i ≤ s.defs.length ∧ ∀ (j k : Nat) (e r : MField), j < k → k < i → s.defs[j]? = some e → s.defs[k]? = some r → e.name ≠ r.name) (fun i => s.defs.length - i) (fun n j hi rec2 => ?_) ⟨Nat.zero_le _, fun j k e r _ h => absurd h (Nat.not_lt_zero _)⟩ (by omega)
  obtain ⟨i1, i3⟩ := hi
  simp only [m_ref17_fieldError_L2, s_IsIdentifier fu _ hf, s_ValidType, bd_of]
  refine Ok.con (fun _ => ?_) fun _ => Ok.ret fun _ j' k e r hj he hr => ?_
  · (try simp only [ln, nI, sz, lnd, List.length_map, Bool.and_eq_true, Bool.or_eq_true, Bool.and_eq_false_iff, Bool.or_eq_false_iff, Bool.not_eq_true', Bool.not_eq_false', decide_eq_true_eq, decide_eq_false_iff_not, beq_iff_eq, bne_iff_ne, beq_eq_false_iff_ne, bne_eq_false_iff_eq, not_true_eq_false, not_false_eq_true, Bool.not_true, Bool.not_false, ne_eq] at *)
    refine Ok.ixN (by omega) fun _ _ => Ok.con (fun _ => Ok.ret fun h => by cases h) fun _ => Ok.ixN (by omega) fun _ _ => Ok.bd (o_hasField hf (by omega)) fun _ _ => Ok.con (fun _ => Ok.ret fun h => by cases h) fun _ => Ok.ixN (by omega) fun e3 he3 => Ok.bd (o_hasField hf (by omega)) fun v hv => Ok.con (fun _ => Ok.ret fun h => by cases h) fun qv => Ok.ixN (by omega) fun _ _ => Ok.con (fun _ => Ok.ret fun h => by cases h) fun _ => Ok.cnt (by omega) (rec2 _ ⟨by omega, fun j' k e r hj hk he hr => ?_⟩ (by omega))
    by_cases hh : k = j
    · subst hh; rw [he3] at hr; cases hr
      exact hv qv j' e (Int.ofNat_lt.2 hj) he
    · exact i3 j' k e r hj (by omega) he hr
  · (try simp only [ln, nI, sz, lnd, List.length_map, Bool.and_eq_true, Bool.or_eq_true, Bool.and_eq_false_iff, Bool.or_eq_false_iff, Bool.not_eq_true', Bool.not_eq_false', decide_eq_true_eq, decide_eq_false_iff_not, beq_iff_eq, bne_iff_ne, beq_eq_false_iff_ne, bne_eq_false_iff_eq, not_true_eq_false, not_false_eq_true, Bool.not_true, Bool.not_false, ne_eq] at *)
    have := (List.getElem?_eq_some_iff.1 hr).1
    exact i3 j' k e r hj (by omega) he hr

theorem s_fieldTypes {fu : Nat} {l : List MField} (hf : 200 ≤ fu) (hl : l.length ≤ 100) : m_ref17_fieldTypes fu l = some (l.map (·.ty)) := by
  apply Ok.eq
  unfold m_ref17_fieldTypes
  refine Ok.loop (fun x => x.2 ≤ l.length ∧ x.1 = (l.take x.2).map (·.ty)) (fun x => l.length - x.2) (fun n x hi rec => ?_) ⟨Nat.zero_le _, rfl⟩ (by simp only; omega)
  obtain ⟨out, i⟩ := x
  obtain ⟨h1, h2⟩ := hi
  simp only at h1 h2
  subst h2
  simp only [m_ref17_fieldTypes_L1]
  refine Ok.con (fun _ => ?_) fun _ => Ok.ret ?_
  · (try simp only [ln, nI, sz, lnd, List.length_map, Bool.and_eq_true, Bool.or_eq_true, Bool.and_eq_false_iff, Bool.or_eq_false_iff, Bool.not_eq_true', Bool.not_eq_false', decide_eq_true_eq, decide_eq_false_iff_not, beq_iff_eq, bne_iff_ne, beq_eq_false_iff_ne, bne_eq_false_iff_eq, not_true_eq_false, not_false_eq_true, Bool.not_true, Bool.not_false, ne_eq] at *)
    refine Ok.ixN (by omega) fun e he => Ok.ap (by simp; omega) (Ok.cnt (by omega) (rec _ ⟨by simp only; omega, ?_⟩ (by simp only; omega)))
    simp only
    rw [List.take_add_one, he, List.map_append]; rfl
  · (try simp only [ln, nI, sz, lnd, List.length_map, Bool.and_eq_true, Bool.or_eq_true, Bool.and_eq_false_iff, Bool.or_eq_false_iff, Bool.not_eq_true', Bool.not_eq_false', decide_eq_true_eq, decide_eq_false_iff_not, beq_iff_eq, bne_iff_ne, beq_eq_false_iff_ne, bne_eq_false_iff_eq, not_true_eq_false, not_false_eq_true, Bool.not_true, Bool.not_false, ne_eq] at *)
    rw [List.take_of_length_le (by omega)]

def sigOf (l : MLaw) (s : MScope) : MSignature :=
  bif decide (0 ≤ s.ms) && decide (s.ms < (l.scopes.length : Int)) then MSignature.mk l.enums l.tables (s.inputs.map (·.ty)) (s.defs.map (·.ty)) (((l.scopes[s.ms.toNat]?).getD s).defs.map (·.ty)) true
  else MSignature.mk l.enums l.tables (s.inputs.map (·.ty)) (s.defs.map (·.ty)) [] false
theorem s_Signature {fu : Nat} {l : MLaw} {i : Nat} {s : MScope} (hf : 200 ≤ fu) (hl : SmallLaw l) (hi : l.scopes[i]? = some s) : m_ref17_Signature fu l (nI i) = some (sigOf l s) := by
  obtain ⟨h1, h2, h3, h4, h5, h6, h7, h8⟩ := hl
  have hlt := (List.getElem?_eq_some_iff.1 hi).1
  obtain ⟨_, k1, k2, k3, _, _, k4⟩ := h8 s (List.mem_of_getElem? hi)
  apply Ok.eq
  unfold m_ref17_Signature
  refine Ok.con (fun h => ?_) fun _ => ?_
  · (try simp only [ln, nI, sz, lnd, List.length_map, Bool.and_eq_true, Bool.or_eq_true, Bool.and_eq_false_iff, Bool.or_eq_false_iff, Bool.not_eq_true', Bool.not_eq_false', decide_eq_true_eq, decide_eq_false_iff_not, beq_iff_eq, bne_iff_ne, beq_eq_false_iff_ne, bne_eq_false_iff_eq, not_true_eq_false, not_false_eq_true, Bool.not_true, Bool.not_false, ne_eq] at *); omega
  refine Ok.ixN (by omega) fun s' hs' => ?_
  rw [hi] at hs'; cases hs'
  rw [s_fieldTypes hf (by omega), bd_of, s_fieldTypes hf (by omega), bd_of]
  unfold sigOf
  rw [ln_len]
  refine Ok.con (fun h => ?_) fun h => ?_
  · rw [h]
    (try simp only [ln, nI, sz, lnd, List.length_map, Bool.and_eq_true, Bool.or_eq_true, Bool.and_eq_false_iff, Bool.or_eq_false_iff, Bool.not_eq_true', Bool.not_eq_false', decide_eq_true_eq, decide_eq_false_iff_not, beq_iff_eq, bne_iff_ne, beq_eq_false_iff_ne, bne_eq_false_iff_eq, not_true_eq_false, not_false_eq_true, Bool.not_true, Bool.not_false, ne_eq] at *)
    refine Ok.ix (by omega) (by omega) fun m hm => ?_
    obtain ⟨_, m1, m2, m3, _, _, m4⟩ := h8 m (List.mem_of_getElem? hm)
    rw [s_fieldTypes hf (by omega), bd_of]
    refine Ok.ret ?_
    rw [hm]; rfl
  · rw [h]
    exact Ok.ret rfl
end Go.Ab

/- Plain laws: the type of an expression always gets an answer. -/
set_option linter.unusedVariables false
set_option linter.unusedSimpArgs false
namespace Go.Ab

def arB (op : Int) : Int :=
  bif ((decide (1 ≤ op) && decide (op ≤ 9)) || (decide (35 ≤ op) && decide (op ≤ 39))) then 0
  else bif (op == 10) || ((op == 25) || ((op == 31) || ((op == 32) || ((op == 33) || (op == 34))))) then 1 else bif op == 26 then 3
  else bif decide (11 ≤ op) && decide (op ≤ 30) then 2 else -1
theorem s_Arity (fu op) : m_ref10_Arity fu op = some (arB op) := by
  unfold m_ref10_Arity arB
  cases ((decide (1 ≤ op) && decide (op ≤ 9)) || (decide (35 ≤ op) && decide (op ≤ 39))) <;> cases op == 10 <;> cases op == 25 <;> cases op == 31 <;> cases op == 32 <;> cases op == 33 <;> cases op == 34 <;> cases op == 26 <;> cases decide (11 ≤ op) && decide (op ≤ 30) <;> rfl
theorem ar_le (op : Int) : -1 ≤ arB op ∧ arB op ≤ 3 := by
  unfold arB
  cases ((decide (1 ≤ op) && decide (op ≤ 9)) || (decide (35 ≤ op) && decide (op ≤ 39))) <;> cases (op == 10) || ((op == 25) || ((op == 31) || ((op == 32) || ((op == 33) || (op == 34))))) <;> cases op == 26 <;> cases decide (11 ≤ op) && decide (op ≤ 30) <;> decide
theorem ar_zero {op : Int} (h : arB op = 0) : (1 ≤ op ∧ op ≤ 9) ∨ (35 ≤ op ∧ op ≤ 39) := by
  unfold arB at h
  cases q : ((decide (1 ≤ op) && decide (op ≤ 9)) || (decide (35 ≤ op) && decide (op ≤ 39))) with
  | true => simpa using q
  | false =>
    rw [q] at h; revert h
    cases (op == 10) || ((op == 25) || ((op == 31) || ((op == 32) || ((op == 33) || (op == 34))))) <;> cases op == 26 <;> cases decide (11 ≤ op) && decide (op ≤ 30) <;> exact fun h => absurd h (by decide)
theorem ar_one {op : Int} (h : arB op = 1) : op = 10 ∨ op = 25 ∨ op = 31 ∨ op = 32 ∨ op = 33 ∨ op = 34 := by
  unfold arB at h
  cases q : (op == 10) || ((op == 25) || ((op == 31) || ((op == 32) || ((op == 33) || (op == 34))))) with
  | true => simpa using q
  | false =>
    rw [q] at h; revert h
    cases ((decide (1 ≤ op) && decide (op ≤ 9)) || (decide (35 ≤ op) && decide (op ≤ 39))) <;> cases op == 26 <;> cases decide (11 ≤ op) && decide (op ≤ 30) <;> exact fun h => absurd h (by decide)

/-- The number of operands that lie on the stack behind an expression. -/
def runS : List MNode → Nat → Option Nat
  | [], d => some d
  | n :: ns, d => bif decide (0 ≤ arB n.op) && decide (arB n.op ≤ (d : Int)) then runS ns (d - (arB n.op).toNat + 1) else none
theorem runS_step {n : MNode} {ns : List MNode} {d : Nat} (h0 : 0 ≤ arB n.op) (h1 : arB n.op ≤ (d : Int)) : runS (n :: ns) d = runS ns (d - (arB n.op).toNat + 1) := by
  rw [runS, decide_eq_true h0, decide_eq_true h1]; rfl
theorem runS_inv {n : MNode} {ns : List MNode} {d k : Nat} (h : runS (n :: ns) d = some k) : 0 ≤ arB n.op ∧ arB n.op ≤ (d : Int) ∧ runS ns (d - (arB n.op).toNat + 1) = some k := by
  rw [runS] at h
  cases q : decide (0 ≤ arB n.op) && decide (arB n.op ≤ (d : Int)) with
  | true => rw [q] at h; simp at q; exact ⟨q.1, q.2, h⟩
  | false => rw [q] at h; cases h

theorem drop_get {α : Type} {l : List α} {i : Nat} {x : α} (h : l[i]? = some x) : l.drop i = x :: l.drop (i + 1) := by
  obtain ⟨h1, rfl⟩ := List.getElem?_eq_some_iff.1 h
  exact List.drop_eq_getElem_cons h1

theorem o_structure {fu : Nat} {e : List MNode} (hf : 200 ≤ fu) : Ok (m_ref10_structure fu e) (fun v => v.2.2 = 0 → runS e 0 = some 1) := by
  unfold m_ref10_structure
  refine Ok.con (fun _ => Ok.ret fun h => by cases h) fun _ => Ok.con (fun _ => Ok.ret fun h => by cases h) fun _ => ?_
  (try simp only [ln, nI, sz, lnd, List.length_map, Bool.and_eq_true, Bool.or_eq_true, Bool.and_eq_false_iff, Bool.or_eq_false_iff, Bool.not_eq_true', Bool.not_eq_false', decide_eq_true_eq, decide_eq_false_iff_not, beq_iff_eq, bne_iff_ne, beq_eq_false_iff_ne, bne_eq_false_iff_eq, not_true_eq_false, not_false_eq_true, Bool.not_true, Bool.not_false, ne_eq] at *)
  refine Ok.loop (fun x => x.2.2 ≤ e.length ∧ x.1.length = x.2.2 ∧ x.2.1.length ≤ 12 ∧ (0 < x.2.2 → 0 < x.2.1.length) ∧ runS e 0 = runS (e.drop x.2.2) x.2.1.length) (fun x => e.length - x.2.2) (fun n x hi rec => ?_) ⟨Nat.zero_le _, rfl, Nat.zero_le _, fun h => absurd h (Nat.lt_irrefl _), rfl⟩ (by simp only; omega)
  obtain ⟨starts, stack, i⟩ := x
  obtain ⟨h1, h2, h3, h4, h5⟩ := hi
  simp only at h1 h2 h3 h4 h5
  simp only [m_ref10_structure_L1, s_Arity, bd_of]
  refine Ok.con (fun _ => ?_) fun _ => ?_
  · (try simp only [ln, nI, sz, lnd, List.length_map, Bool.and_eq_true, Bool.or_eq_true, Bool.and_eq_false_iff, Bool.or_eq_false_iff, Bool.not_eq_true', Bool.not_eq_false', decide_eq_true_eq, decide_eq_false_iff_not, beq_iff_eq, bne_iff_ne, beq_eq_false_iff_ne, bne_eq_false_iff_eq, not_true_eq_false, not_false_eq_true, Bool.not_true, Bool.not_false, ne_eq] at *)
    refine Ok.ixN (by omega) fun nd hn => ?_
    have ha := ar_le nd.op
    refine Ok.con (fun _ => Ok.ret fun h => by cases h) fun _ => Ok.con (fun _ => Ok.ret fun h => by cases h) fun _ => ?_
    (try simp only [ln, nI, sz, lnd, List.length_map, Bool.and_eq_true, Bool.or_eq_true, Bool.and_eq_false_iff, Bool.or_eq_false_iff, Bool.not_eq_true', Bool.not_eq_false', decide_eq_true_eq, decide_eq_false_iff_not, beq_iff_eq, bne_iff_ne, beq_eq_false_iff_ne, bne_eq_false_iff_eq, not_true_eq_false, not_false_eq_true, Bool.not_true, Bool.not_false, ne_eq] at *)
    have hs := runS_step (n := nd) (ns := e.drop (i + 1)) (d := stack.length) (by omega) (by omega)
    rw [drop_get hn, hs] at h5
    refine Ok.con (fun _ => ?_) fun _ => ?_
    · (try simp only [ln, nI, sz, lnd, List.length_map, Bool.and_eq_true, Bool.or_eq_true, Bool.and_eq_false_iff, Bool.or_eq_false_iff, Bool.not_eq_true', Bool.not_eq_false', decide_eq_true_eq, decide_eq_false_iff_not, beq_iff_eq, bne_iff_ne, beq_eq_false_iff_ne, bne_eq_false_iff_eq, not_true_eq_false, not_false_eq_true, Bool.not_true, Bool.not_false, ne_eq] at *)
      rw [w64_id (by omega) (by omega)]
      refine Ok.ix (by omega) (by omega) fun t ht => Ok.sl (by omega) (by omega) (by omega) (Ok.ap (by simp; omega) (Ok.ap (by simp; omega) (Ok.con (fun _ => Ok.ret fun h => by cases h) fun _ => ?_)))
      (try simp only [ln, nI, sz, lnd, List.length_map, Bool.and_eq_true, Bool.or_eq_true, Bool.and_eq_false_iff, Bool.or_eq_false_iff, Bool.not_eq_true', Bool.not_eq_false', decide_eq_true_eq, decide_eq_false_iff_not, beq_iff_eq, bne_iff_ne, beq_eq_false_iff_ne, bne_eq_false_iff_eq, not_true_eq_false, not_false_eq_true, Bool.not_true, Bool.not_false, ne_eq] at *)
      have hlen : (stack.take ((stack.length : Int) - arB nd.op).toNat ++ [t]).length = stack.length - (arB nd.op).toNat + 1 := by
        simp; omega
      refine Ok.cnt (by omega) (rec _ ⟨by simp only; omega, by simp [h2], ?_, ?_, ?_⟩ (by simp only; omega))
      · simp at *; omega
      · simp at *
      · simp only [Int.toNat_zero, List.drop_zero, Nat.sub_zero]
        rw [hlen]; exact h5
    · (try simp only [ln, nI, sz, lnd, List.length_map, Bool.and_eq_true, Bool.or_eq_true, Bool.and_eq_false_iff, Bool.or_eq_false_iff, Bool.not_eq_true', Bool.not_eq_false', decide_eq_true_eq, decide_eq_false_iff_not, beq_iff_eq, bne_iff_ne, beq_eq_false_iff_ne, bne_eq_false_iff_eq, not_true_eq_false, not_false_eq_true, Bool.not_true, Bool.not_false, ne_eq] at *)
      have h0 : (arB nd.op).toNat = 0 := by omega
      rw [h0] at h5
      refine Ok.ap (by simp; omega) (Ok.ap (by simp; omega) (Ok.con (fun _ => Ok.ret fun h => by cases h) fun _ => ?_))
      (try simp only [ln, nI, sz, lnd, List.length_map, Bool.and_eq_true, Bool.or_eq_true, Bool.and_eq_false_iff, Bool.or_eq_false_iff, Bool.not_eq_true', Bool.not_eq_false', decide_eq_true_eq, decide_eq_false_iff_not, beq_iff_eq, bne_iff_ne, beq_eq_false_iff_ne, bne_eq_false_iff_eq, not_true_eq_false, not_false_eq_true, Bool.not_true, Bool.not_false, ne_eq] at *)
      refine Ok.cnt (by omega) (rec _ ⟨by simp only; omega, by simp [h2], ?_, ?_, ?_⟩ (by simp only; omega))
      · simp at *; omega
      · simp at *
      · simp only [List.length_append, List.length_cons, List.length_nil]; exact h5
  · refine Ok.con (fun _ => Ok.ret fun h => by cases h) fun _ => Ok.ret fun _ => ?_
    (try simp only [ln, nI, sz, lnd, List.length_map, Bool.and_eq_true, Bool.or_eq_true, Bool.and_eq_false_iff, Bool.or_eq_false_iff, Bool.not_eq_true', Bool.not_eq_false', decide_eq_true_eq, decide_eq_false_iff_not, beq_iff_eq, bne_iff_ne, beq_eq_false_iff_ne, bne_eq_false_iff_eq, not_true_eq_false, not_false_eq_true, Bool.not_true, Bool.not_false, ne_eq] at *)
    have := h4 (by omega)
    rw [h5, List.drop_eq_nil_of_le (by omega), runS]
    congr 1; omega

theorem o_meaning {fu op} : Ok (m_ref10_meaning fu op) (fun _ => True) := by unfold m_ref10_meaning; (repeat' (first | with_reducible exact Ok.tt | with_reducible refine Ok.con (fun _ => ?_) (fun _ => ?_) | with_reducible refine Ok.cnt ?_ ?_ | with_reducible refine Ok.ixN ?_ (fun _ _ => ?_) | with_reducible refine Ok.ix ?_ ?_ (fun _ _ => ?_) | with_reducible refine Ok.sl ?_ ?_ ?_ ?_ | with_reducible refine Ok.ap ?_ ?_ | with_reducible refine Ok.strN ?_ (fun _ _ => ?_) | with_reducible refine Ok.bde rfl ?_))
theorem o_kind {fu k} : m_ref10_kind fu k = some (MTy.mk k 0) := rfl
theorem o_number {fu k} : Ok (m_ref10_number fu k) (fun _ => True) := Ok.tt
theorem o_ordered {fu k} : Ok (m_ref10_ordered fu k) (fun _ => True) := Ok.bd o_number fun _ _ => Ok.tt
theorem o_ranged {fu n s} : Ok (m_ref10_ranged fu n s) (fun v => v = true → n.op = 6 ∨ n.op = 34 → 0 ≤ n.n) := by
  unfold m_ref10_ranged
  simp only [o_kind, bd_of]
  refine Ok.con (fun q => Ok.bd o_Bounds fun _ _ => Ok.ret fun _ h => ?_) fun q1 => Ok.con (fun q => Ok.bd o_Bounds fun _ _ => Ok.ret fun _ h => ?_) fun q1 => Ok.con (fun q => Ok.bd o_Bounds fun _ _ => Ok.ret fun _ h => ?_) fun q1 => Ok.con (fun q => Ok.bd o_Bounds fun _ _ => Ok.ret fun _ h => ?_) fun q1 => Ok.con (fun q => Ok.bd o_Bounds fun _ _ => Ok.ret fun _ h => ?_) fun q1 => ?_
  all_goals try ((try simp only [ln, nI, sz, lnd, List.length_map, Bool.and_eq_true, Bool.or_eq_true, Bool.and_eq_false_iff, Bool.or_eq_false_iff, Bool.not_eq_true', Bool.not_eq_false', decide_eq_true_eq, decide_eq_false_iff_not, beq_iff_eq, bne_iff_ne, beq_eq_false_iff_ne, bne_eq_false_iff_eq, not_true_eq_false, not_false_eq_true, Bool.not_true, Bool.not_false, ne_eq] at *); omega)
  refine Ok.con (fun q => Ok.ret fun _ h => ?_) fun q1 => Ok.con (fun q => Ok.ret fun _ h => ?_) fun q1 => Ok.con (fun q => Ok.ret fun _ h => ?_) fun q1 => Ok.con (fun q => Ok.ret fun _ h => ?_) fun q1 => Ok.con (fun q => Ok.ret fun _ h => ?_) fun q1 => Ok.ret fun _ h => ?_
  all_goals ((try simp only [ln, nI, sz, lnd, List.length_map, Bool.and_eq_true, Bool.or_eq_true, Bool.and_eq_false_iff, Bool.or_eq_false_iff, Bool.not_eq_true', Bool.not_eq_false', decide_eq_true_eq, decide_eq_false_iff_not, beq_iff_eq, bne_iff_ne, beq_eq_false_iff_ne, bne_eq_false_iff_eq, not_true_eq_false, not_false_eq_true, Bool.not_true, Bool.not_false, ne_eq] at *); omega)
def in64 (n : Int) : Prop := -9223372036854775808 ≤ n ∧ n ≤ 9223372036854775807
theorem w_tdiv {n : Int} (k : Int) (hk : 0 < k) (h : in64 n) (h0 : 0 ≤ n) : w64 (Int.tdiv n k) = n / k ∧ 0 ≤ n / k := by
  have e : Int.tdiv n k = n / k := Int.tdiv_eq_ediv_of_nonneg h0
  have a1 : 0 ≤ n / k := Int.ediv_nonneg h0 (by omega)
  have a2 : n / k ≤ n := Int.ediv_le_self _ h0
  obtain ⟨_, _⟩ := h
  rw [e, w64_id (by omega) (by omega)]
  exact ⟨rfl, a1⟩
theorem o_found {fu n s} (h : n.op = 6 ∨ n.op = 34 → 0 ≤ n.n) (hn : in64 n.n) : Ok (m_ref10_found fu n s) (fun v => v = true → (n.op = 7 → 0 ≤ n.n ∧ n.n < s.inputs.length) ∧ (n.op = 8 → 0 ≤ n.n ∧ n.n < s.defs.length) ∧ (n.op = 33 → 0 ≤ n.n ∧ n.n < s.tables.length) ∧ (n.op = 34 → 0 ≤ n.n ∧ n.n / 8 < (s.tables.length : Int)) ∧ (36 ≤ n.op ∧ n.op ≤ 39 → 0 ≤ n.n ∧ n.n < s.memberDefs.length)) := by
  unfold m_ref10_found
  refine Ok.con (fun q => ?_) fun q6 => Ok.con (fun q => Ok.ret fun h => ?_) fun q7 => Ok.con (fun q => Ok.ret fun h => ?_) fun q8 => Ok.con (fun q => Ok.ret fun h => ?_) fun q33 => Ok.con (fun q => Ok.ret fun h' => ?_) fun q34 => Ok.con (fun q => Ok.ret fun h => ?_) fun q35 => Ok.con (fun q => Ok.ret fun h => ?_) fun q36 => Ok.con (fun q => Ok.ret fun h => ?_) fun q37 => Ok.con (fun q => Ok.ret fun h => ?_) fun q38 => Ok.con (fun q => Ok.ret fun h => ?_) fun q39 => Ok.ret fun h => ?_
  · (try simp only [ln, nI, sz, lnd, List.length_map, Bool.and_eq_true, Bool.or_eq_true, Bool.and_eq_false_iff, Bool.or_eq_false_iff, Bool.not_eq_true', Bool.not_eq_false', decide_eq_true_eq, decide_eq_false_iff_not, beq_iff_eq, bne_iff_ne, beq_eq_false_iff_ne, bne_eq_false_iff_eq, not_true_eq_false, not_false_eq_true, Bool.not_true, Bool.not_false, ne_eq] at *)
    obtain ⟨e1, e2⟩ := w_tdiv 16 (by decide) hn (h (.inl q))
    refine Ok.con (fun q2 => ?_) fun _ => Ok.ret fun h => by cases h
    (try simp only [ln, nI, sz, lnd, List.length_map, Bool.and_eq_true, Bool.or_eq_true, Bool.and_eq_false_iff, Bool.or_eq_false_iff, Bool.not_eq_true', Bool.not_eq_false', decide_eq_true_eq, decide_eq_false_iff_not, beq_iff_eq, bne_iff_ne, beq_eq_false_iff_ne, bne_eq_false_iff_eq, not_true_eq_false, not_false_eq_true, Bool.not_true, Bool.not_false, ne_eq] at *)
    refine Ok.ix (by rw [e1]; exact e2) q2 fun e he => Ok.ret fun _ => ?_
    omega
  all_goals (try simp only [ln, nI, sz, lnd, List.length_map, Bool.and_eq_true, Bool.or_eq_true, Bool.and_eq_false_iff, Bool.or_eq_false_iff, Bool.not_eq_true', Bool.not_eq_false', decide_eq_true_eq, decide_eq_false_iff_not, beq_iff_eq, bne_iff_ne, beq_eq_false_iff_ne, bne_eq_false_iff_eq, not_true_eq_false, not_false_eq_true, Bool.not_true, Bool.not_false, ne_eq] at *)
  · omega
  · omega
  · omega
  · have e := (w_tdiv 8 (by decide) hn (h (.inr q))).1
    have e2 := h (.inr q)
    rw [e] at h'
    omega
  all_goals omega

theorem o_leaf {fu n s} (h7 : n.op = 7 → 0 ≤ n.n ∧ n.n < s.inputs.length) (h8 : n.op = 8 → 0 ≤ n.n ∧ n.n < s.defs.length) (h36 : 36 ≤ n.op ∧ n.op ≤ 39 → 0 ≤ n.n ∧ n.n < s.memberDefs.length) : Ok (m_ref10_leaf fu n s) (fun _ => True) := by
  unfold m_ref10_leaf
  simp only [s_ValidType, o_kind, bd_of]
  repeat' first
    | (first | with_reducible exact Ok.tt | with_reducible refine Ok.con (fun _ => ?_) (fun _ => ?_) | with_reducible refine Ok.cnt ?_ ?_ | with_reducible refine Ok.ixN ?_ (fun _ _ => ?_) | with_reducible refine Ok.ix ?_ ?_ (fun _ _ => ?_) | with_reducible refine Ok.sl ?_ ?_ ?_ ?_ | with_reducible refine Ok.ap ?_ ?_ | with_reducible refine Ok.strN ?_ (fun _ _ => ?_) | with_reducible refine Ok.bde rfl ?_)
    | (refine Ok.bd o_ordered fun _ _ => ?_)
  all_goals ((try simp only [ln, nI, sz, lnd, List.length_map, Bool.and_eq_true, Bool.or_eq_true, Bool.and_eq_false_iff, Bool.or_eq_false_iff, Bool.not_eq_true', Bool.not_eq_false', decide_eq_true_eq, decide_eq_false_iff_not, beq_iff_eq, bne_iff_ne, beq_eq_false_iff_ne, bne_eq_false_iff_eq, not_true_eq_false, not_false_eq_true, Bool.not_true, Bool.not_false, ne_eq] at *); omega)

theorem o_single {fu n a s} (har : arB n.op = 1) (h33 : n.op = 33 → 0 ≤ n.n ∧ n.n < s.tables.length) (h34 : n.op = 34 → 0 ≤ n.n ∧ n.n / 8 < (s.tables.length : Int)) (hn : in64 n.n) : Ok (m_ref10_single fu n a s) (fun _ => True) := by
  have h1 := ar_one har
  unfold m_ref10_single
  simp only [s_ValidType, o_kind, bd_of]
  refine Ok.con (fun q => Ok.bd o_number fun _ _ => Ok.tt) fun q10 => Ok.con (fun q => Ok.tt) fun q25 => Ok.con (fun q => Ok.tt) fun q31 => Ok.con (fun q => Ok.tt) fun q32 => Ok.con (fun q => ?_) fun q33 => ?_
  · (try simp only [ln, nI, sz, lnd, List.length_map, Bool.and_eq_true, Bool.or_eq_true, Bool.and_eq_false_iff, Bool.or_eq_false_iff, Bool.not_eq_true', Bool.not_eq_false', decide_eq_true_eq, decide_eq_false_iff_not, beq_iff_eq, bne_iff_ne, beq_eq_false_iff_ne, bne_eq_false_iff_eq, not_true_eq_false, not_false_eq_true, Bool.not_true, Bool.not_false, ne_eq] at *)
    refine Ok.ix (h33 q).1 (h33 q).2 fun e he => ?_
    (repeat' (first | with_reducible exact Ok.tt | with_reducible refine Ok.con (fun _ => ?_) (fun _ => ?_) | with_reducible refine Ok.cnt ?_ ?_ | with_reducible refine Ok.ixN ?_ (fun _ _ => ?_) | with_reducible refine Ok.ix ?_ ?_ (fun _ _ => ?_) | with_reducible refine Ok.sl ?_ ?_ ?_ ?_ | with_reducible refine Ok.ap ?_ ?_ | with_reducible refine Ok.strN ?_ (fun _ _ => ?_) | with_reducible refine Ok.bde rfl ?_))
  · (try simp only [ln, nI, sz, lnd, List.length_map, Bool.and_eq_true, Bool.or_eq_true, Bool.and_eq_false_iff, Bool.or_eq_false_iff, Bool.not_eq_true', Bool.not_eq_false', decide_eq_true_eq, decide_eq_false_iff_not, beq_iff_eq, bne_iff_ne, beq_eq_false_iff_ne, bne_eq_false_iff_eq, not_true_eq_false, not_false_eq_true, Bool.not_true, Bool.not_false, ne_eq] at *)
    have q : n.op = 34 := by omega
    obtain ⟨e1, e2⟩ := w_tdiv 8 (by decide) hn (h34 q).1
    rw [e1]
    refine Ok.ix e2 (h34 q).2 fun e he => ?_
    (repeat' (first | with_reducible exact Ok.tt | with_reducible refine Ok.con (fun _ => ?_) (fun _ => ?_) | with_reducible refine Ok.cnt ?_ ?_ | with_reducible refine Ok.ixN ?_ (fun _ _ => ?_) | with_reducible refine Ok.ix ?_ ?_ (fun _ _ => ?_) | with_reducible refine Ok.sl ?_ ?_ ?_ ?_ | with_reducible refine Ok.ap ?_ ?_ | with_reducible refine Ok.strN ?_ (fun _ _ => ?_) | with_reducible refine Ok.bde rfl ?_))
theorem o_scaled {fu op a b} : Ok (m_ref10_scaled fu op a b) (fun _ => True) := by
  unfold m_ref10_scaled; simp only [o_kind, bd_of]; (repeat' (first | with_reducible exact Ok.tt | with_reducible refine Ok.con (fun _ => ?_) (fun _ => ?_) | with_reducible refine Ok.cnt ?_ ?_ | with_reducible refine Ok.ixN ?_ (fun _ _ => ?_) | with_reducible refine Ok.ix ?_ ?_ (fun _ _ => ?_) | with_reducible refine Ok.sl ?_ ?_ ?_ ?_ | with_reducible refine Ok.ap ?_ ?_ | with_reducible refine Ok.strN ?_ (fun _ _ => ?_) | with_reducible refine Ok.bde rfl ?_))
theorem o_double {fu op a b} : Ok (m_ref10_double fu op a b) (fun _ => True) := by
  unfold m_ref10_double
  simp only [o_kind, bd_of]
  repeat' first
    | (first | with_reducible exact Ok.tt | with_reducible refine Ok.con (fun _ => ?_) (fun _ => ?_) | with_reducible refine Ok.cnt ?_ ?_ | with_reducible refine Ok.ixN ?_ (fun _ _ => ?_) | with_reducible refine Ok.ix ?_ ?_ (fun _ _ => ?_) | with_reducible refine Ok.sl ?_ ?_ ?_ ?_ | with_reducible refine Ok.ap ?_ ?_ | with_reducible refine Ok.strN ?_ (fun _ _ => ?_) | with_reducible refine Ok.bde rfl ?_)
    | (refine Ok.bd o_ordered fun _ _ => ?_)
    | (refine Ok.bd o_scaled fun _ _ => ?_)

theorem o_Result {fu} {n : MNode} {l : List MTy} {s} (hl : (l.length : Int) = arB n.op) (hn : in64 n.n) : Ok (m_ref10_Result fu n l s) (fun _ => True) := by
  have ha := ar_le n.op
  unfold m_ref10_Result
  refine Ok.con (fun _ => Ok.bd o_meaning fun _ _ => Ok.con (fun _ => Ok.tt) fun _ => ?_) fun _ => ?_
  all_goals
    refine Ok.bd o_ranged fun r hr => Ok.con (fun _ => Ok.tt) fun qr => ?_
    have qr : r = true := by simpa using qr
    refine Ok.bd (o_found (hr qr) hn) fun f hf => Ok.con (fun _ => Ok.tt) fun qf => ?_
    have qf : f = true := by simpa using qf
    obtain ⟨k7, k8, k33, k34, k36⟩ := hf qf
    refine Ok.con (fun _ => Ok.bd (o_leaf k7 k8 k36) fun _ _ => by (repeat' (first | with_reducible exact Ok.tt | with_reducible refine Ok.con (fun _ => ?_) (fun _ => ?_) | with_reducible refine Ok.cnt ?_ ?_ | with_reducible refine Ok.ixN ?_ (fun _ _ => ?_) | with_reducible refine Ok.ix ?_ ?_ (fun _ _ => ?_) | with_reducible refine Ok.sl ?_ ?_ ?_ ?_ | with_reducible refine Ok.ap ?_ ?_ | with_reducible refine Ok.strN ?_ (fun _ _ => ?_) | with_reducible refine Ok.bde rfl ?_))) fun q0 => Ok.con (fun q1 => ?_) fun q1 => Ok.con (fun q2 => ?_) fun q2 => ?_
    · (try simp only [ln, nI, sz, lnd, List.length_map, Bool.and_eq_true, Bool.or_eq_true, Bool.and_eq_false_iff, Bool.or_eq_false_iff, Bool.not_eq_true', Bool.not_eq_false', decide_eq_true_eq, decide_eq_false_iff_not, beq_iff_eq, bne_iff_ne, beq_eq_false_iff_ne, bne_eq_false_iff_eq, not_true_eq_false, not_false_eq_true, Bool.not_true, Bool.not_false, ne_eq] at *)
      exact Ok.ix (by omega) (by omega) fun _ _ => Ok.bd (o_single (by omega) k33 k34 hn) fun _ _ => by (repeat' (first | with_reducible exact Ok.tt | with_reducible refine Ok.con (fun _ => ?_) (fun _ => ?_) | with_reducible refine Ok.cnt ?_ ?_ | with_reducible refine Ok.ixN ?_ (fun _ _ => ?_) | with_reducible refine Ok.ix ?_ ?_ (fun _ _ => ?_) | with_reducible refine Ok.sl ?_ ?_ ?_ ?_ | with_reducible refine Ok.ap ?_ ?_ | with_reducible refine Ok.strN ?_ (fun _ _ => ?_) | with_reducible refine Ok.bde rfl ?_))
    · (try simp only [ln, nI, sz, lnd, List.length_map, Bool.and_eq_true, Bool.or_eq_true, Bool.and_eq_false_iff, Bool.or_eq_false_iff, Bool.not_eq_true', Bool.not_eq_false', decide_eq_true_eq, decide_eq_false_iff_not, beq_iff_eq, bne_iff_ne, beq_eq_false_iff_ne, bne_eq_false_iff_eq, not_true_eq_false, not_false_eq_true, Bool.not_true, Bool.not_false, ne_eq] at *)
      exact Ok.ix (by omega) (by omega) fun _ _ => Ok.ix (by omega) (by omega) fun _ _ => Ok.bd o_double fun _ _ => by (repeat' (first | with_reducible exact Ok.tt | with_reducible refine Ok.con (fun _ => ?_) (fun _ => ?_) | with_reducible refine Ok.cnt ?_ ?_ | with_reducible refine Ok.ixN ?_ (fun _ _ => ?_) | with_reducible refine Ok.ix ?_ ?_ (fun _ _ => ?_) | with_reducible refine Ok.sl ?_ ?_ ?_ ?_ | with_reducible refine Ok.ap ?_ ?_ | with_reducible refine Ok.strN ?_ (fun _ _ => ?_) | with_reducible refine Ok.bde rfl ?_))
    · (try simp only [ln, nI, sz, lnd, List.length_map, Bool.and_eq_true, Bool.or_eq_true, Bool.and_eq_false_iff, Bool.or_eq_false_iff, Bool.not_eq_true', Bool.not_eq_false', decide_eq_true_eq, decide_eq_false_iff_not, beq_iff_eq, bne_iff_ne, beq_eq_false_iff_ne, bne_eq_false_iff_eq, not_true_eq_false, not_false_eq_true, Bool.not_true, Bool.not_false, ne_eq] at *)
      (repeat' (first | with_reducible exact Ok.tt | with_reducible refine Ok.con (fun _ => ?_) (fun _ => ?_) | with_reducible refine Ok.cnt ?_ ?_ | with_reducible refine Ok.ixN ?_ (fun _ _ => ?_) | with_reducible refine Ok.ix ?_ ?_ (fun _ _ => ?_) | with_reducible refine Ok.sl ?_ ?_ ?_ ?_ | with_reducible refine Ok.ap ?_ ?_ | with_reducible refine Ok.strN ?_ (fun _ _ => ?_) | with_reducible refine Ok.bde rfl ?_)) <;> omega

theorem o_TypeOf {fu : Nat} {e : List MNode} {s} (hf : 200 ≤ fu) (hl : e.length ≤ 100) (hn : ∀ n ∈ e, in64 n.n) : Ok (m_ref10_TypeOf fu e s) (fun _ => True) := by
  unfold m_ref10_TypeOf
  refine Ok.bd (o_structure hf) fun v hv => Ok.con (fun _ => Ok.tt) fun q => ?_
  (try simp only [ln, nI, sz, lnd, List.length_map, Bool.and_eq_true, Bool.or_eq_true, Bool.and_eq_false_iff, Bool.or_eq_false_iff, Bool.not_eq_true', Bool.not_eq_false', decide_eq_true_eq, decide_eq_false_iff_not, beq_iff_eq, bne_iff_ne, beq_eq_false_iff_ne, bne_eq_false_iff_eq, not_true_eq_false, not_false_eq_true, Bool.not_true, Bool.not_false, ne_eq] at *)
  have hr := hv q
  refine Ok.loop (fun x : List MTy × Nat => x.2 ≤ e.length ∧ x.1.length ≤ x.2 ∧ runS (e.drop x.2) x.1.length = some 1) (fun x => e.length - x.2) (fun n x hi rec => ?_) (x := (([] : List MTy), 0)) ⟨Nat.zero_le _, Nat.zero_le _, hr⟩ (by simp only; omega)
  obtain ⟨stack, i⟩ := x
  obtain ⟨h1, h2, h3⟩ := hi
  simp only at h1 h2 h3
  simp only [m_ref10_TypeOf_L1, s_Arity, bd_of]
  refine Ok.con (fun _ => ?_) fun _ => ?_
  · (try simp only [ln, nI, sz, lnd, List.length_map, Bool.and_eq_true, Bool.or_eq_true, Bool.and_eq_false_iff, Bool.or_eq_false_iff, Bool.not_eq_true', Bool.not_eq_false', decide_eq_true_eq, decide_eq_false_iff_not, beq_iff_eq, bne_iff_ne, beq_eq_false_iff_ne, bne_eq_false_iff_eq, not_true_eq_false, not_false_eq_true, Bool.not_true, Bool.not_false, ne_eq] at *)
    refine Ok.ixN (by omega) fun nd hd => ?_
    have ha := ar_le nd.op
    rw [drop_get hd] at h3
    obtain ⟨g1, g2, g3⟩ := runS_inv h3
    refine Ok.ixN (by omega) fun nd' hd' => ?_
    rw [hd] at hd'; cases hd'
    rw [w64_id (by omega) (by omega)]
    refine Ok.sl (by omega) (by omega) (by omega) (Ok.bd (o_Result (by simp; omega) (hn _ (List.mem_of_getElem? hd))) fun r _ => Ok.con (fun _ => Ok.tt) fun _ => Ok.sl (by omega) (by omega) (by omega) (Ok.ap (by simp; omega) (Ok.cnt (by omega) (rec _ ⟨by simp only; omega, by simp; omega, ?_⟩ (by simp only; omega)))))
    have hlen : (List.take (((stack.length : Int) - arB nd.op).toNat - (0 : Int).toNat) (stack.drop (0 : Int).toNat) ++ [r.1]).length = stack.length - (arB nd.op).toNat + 1 := by
      simp; omega
    rw [hlen]; exact g3
  · (try simp only [ln, nI, sz, lnd, List.length_map, Bool.and_eq_true, Bool.or_eq_true, Bool.and_eq_false_iff, Bool.or_eq_false_iff, Bool.not_eq_true', Bool.not_eq_false', decide_eq_true_eq, decide_eq_false_iff_not, beq_iff_eq, bne_iff_ne, beq_eq_false_iff_ne, bne_eq_false_iff_eq, not_true_eq_false, not_false_eq_true, Bool.not_true, Bool.not_false, ne_eq] at *)
    rw [List.drop_eq_nil_of_le (by omega), runS] at h3
    have h3 := Option.some.inj h3
    exact Ok.ix (by omega) (by omega) fun _ _ => Ok.tt

theorem o_exprError {fu : Nat} {e : List MNode} {s t} (hf : 200 ≤ fu) (hl : e.length ≤ 100) (hn : ∀ n ∈ e, in64 n.n) : Ok (m_ref17_exprError fu e s t) (fun _ => True) := by
  unfold m_ref17_exprError
  refine Ok.bd (o_TypeOf hf hl hn) fun v _ => ?_
  (repeat' (first | with_reducible exact Ok.tt | with_reducible refine Ok.con (fun _ => ?_) (fun _ => ?_) | with_reducible refine Ok.cnt ?_ ?_ | with_reducible refine Ok.ixN ?_ (fun _ _ => ?_) | with_reducible refine Ok.ix ?_ ?_ (fun _ _ => ?_) | with_reducible refine Ok.sl ?_ ?_ ?_ ?_ | with_reducible refine Ok.ap ?_ ?_ | with_reducible refine Ok.strN ?_ (fun _ _ => ?_) | with_reducible refine Ok.bde rfl ?_))
end Go.Ab

/- Plain laws: references, dependencies, rules, scopes and whole laws: the reference for valid laws answers, and what a valid law is like. -/
set_option linter.unusedVariables false
set_option linter.unusedSimpArgs false
namespace Go.Ab

/-! ### Increasing lists -/
def insL : List Int → Int → List Int
  | [], n => [n]
  | x :: xs, n => bif decide (n ≤ x) then (bif decide (n < x) then n :: x :: xs else x :: xs) else x :: insL xs n
theorem insL_len : ∀ (l : List Int) (n : Int), (insL l n).length ≤ l.length + 1
  | [], n => by simp [insL]
  | x :: xs, n => by
    have := insL_len xs n
    rw [insL]
    cases decide (n ≤ x) <;> cases decide (n < x) <;> simp [this]
theorem insL_mem : ∀ (l : List Int) (n y : Int), y ∈ insL l n ↔ y = n ∨ y ∈ l
  | [], n, y => by simp [insL]
  | x :: xs, n, y => by
    have := insL_mem xs n y
    rw [insL]
    by_cases h1 : n ≤ x
    · by_cases h2 : n < x
      · simp [h1, h2]
      · have : n = x := by omega
        subst this
        simp
    · simp [h1, this]
      constructor
      · rintro (h | h | h) <;> simp [h]
      · rintro (h | h | h) <;> simp [h]
theorem insL_sorted : ∀ (l : List Int) (n : Int), l.Pairwise (· < ·) → (insL l n).Pairwise (· < ·)
  | [], n, _ => by simp [insL]
  | x :: xs, n, h => by
    obtain ⟨h1, h2⟩ := List.pairwise_cons.1 h
    rw [insL]
    by_cases h3 : n ≤ x
    · by_cases h4 : n < x
      · simp only [decide_eq_true h3, decide_eq_true h4, cond_true]
        refine List.pairwise_cons.2 ⟨fun y hy => ?_, h⟩
        rcases List.mem_cons.1 hy with rfl | hy
        · exact h4
        · have := h1 y hy; omega
      · simp only [decide_eq_true h3, decide_eq_false h4, cond_true, cond_false]
        exact h
    · simp only [decide_eq_false h3, cond_false]
      refine List.pairwise_cons.2 ⟨fun y hy => ?_, insL_sorted xs n h2⟩
      rcases (insL_mem xs n y).1 hy with rfl | hy
      · omega
      · exact h1 y hy
/-- An increasing list of numbers from 0 and below n. -/
def Srt (n : Nat) (l : List Int) : Prop := l.Pairwise (· < ·) ∧ ∀ x ∈ l, 0 ≤ x ∧ x < (n : Int)
theorem srt_len' : ∀ (l : List Int) (a b : Int), l.Pairwise (· < ·) → (∀ x ∈ l, a ≤ x ∧ x < b) → (l.length : Int) ≤ b - a ∨ l = []
  | [], a, b, _, _ => .inr rfl
  | x :: xs, a, b, h, hb => by
    obtain ⟨h1, h2⟩ := List.pairwise_cons.1 h
    have hx := hb x (by simp)
    left
    rcases srt_len' xs (x + 1) b h2 (fun y hy => ⟨by have := h1 y hy; omega, (hb y (by simp [hy])).2⟩) with h3 | h3
    · simp only [List.length_cons]; omega
    · subst h3; simp only [List.length_cons, List.length_nil]; omega
theorem Srt.len {n : Nat} {l : List Int} (h : Srt n l) : l.length ≤ n := by
  rcases srt_len' l 0 n h.1 h.2 with k | k
  · omega
  · subst k; exact Nat.zero_le _
theorem Srt.ins {n : Nat} {l : List Int} (h : Srt n l) {x : Int} (h0 : 0 ≤ x) (h1 : x < (n : Int)) : Srt n (insL l x) :=
  ⟨insL_sorted l x h.1, fun y hy => by
    rcases (insL_mem l x y).1 hy with rfl | hy
    · exact ⟨h0, h1⟩
    · exact h.2 y hy⟩
theorem Srt.nil (n : Nat) : Srt n [] := ⟨List.Pairwise.nil, fun x h => by cases h⟩

theorem s_insert {fu : Nat} {l : List Int} {n : Int} (hf : 200 ≤ fu) (hl : l.length ≤ 100) : m_ref10_insert fu l n = some (insL l n) := by
  apply Ok.eq
  unfold m_ref10_insert
  refine Ok.loop (fun x : List Int × Bool × Nat => x.2.2 ≤ l.length ∧ x.1 ++ (bif x.2.1 then l.drop x.2.2 else insL (l.drop x.2.2) n) = insL l n) (fun x => l.length - x.2.2) (fun m x hi rec => ?_) ⟨Nat.zero_le _, rfl⟩ (by simp only; omega)
  obtain ⟨out, don, i⟩ := x
  obtain ⟨h1, h3⟩ := hi
  simp only at h1 h3
  have h2 : out.length ≤ 101 := by
    have a := congrArg List.length h3
    have b := insL_len l n
    rw [List.length_append] at a
    omega
  simp only [m_ref10_insert_L1]
  refine Ok.con (fun q => ?_) fun q => ?_
  · (try simp only [ln, nI, sz, lnd, List.length_map, Bool.and_eq_true, Bool.or_eq_true, Bool.and_eq_false_iff, Bool.or_eq_false_iff, Bool.not_eq_true', Bool.not_eq_false', decide_eq_true_eq, decide_eq_false_iff_not, beq_iff_eq, bne_iff_ne, beq_eq_false_iff_ne, bne_eq_false_iff_eq, not_true_eq_false, not_false_eq_true, Bool.not_true, Bool.not_false, ne_eq] at *)
    cases don with
    | true =>
      refine Ok.ixN (by omega) fun e he => Ok.ap (by simp; omega) (Ok.cnt (by omega) (rec _ ⟨by simp only; omega, ?_⟩ (by simp only; omega)))
      simp only [cond_true] at h3 ⊢
      rw [drop_get he] at h3
      rw [← h3]; simp
    | false =>
      simp only [Bool.not_false, cond_true, cond_false] at h3 ⊢
      refine Ok.ixN (by omega) fun e he => ?_
      rw [drop_get he, insL] at h3
      refine Ok.con (fun q1 => Ok.ixN (by omega) fun e' he' => ?_) fun q1 => Ok.ixN (by omega) fun e' he' => ?_
      all_goals (rw [he] at he'; cases he'; rw [q1] at h3)
      · refine Ok.con (fun q2 => ?_) fun q2 => ?_
        · refine Ok.ap (by simp; omega) (Ok.ixN (by omega) fun e' he' => ?_)
          rw [he] at he'; cases he'; rw [q2] at h3
          refine Ok.ap (by simp; omega) (Ok.cnt (by omega) (rec _ ⟨by simp only; omega, ?_⟩ (by simp only; omega)))
          simp only [cond_true] at h3 ⊢
          rw [← h3]; simp
        · refine Ok.ixN (by omega) fun e' he' => ?_
          rw [he] at he'; cases he'; rw [q2] at h3
          refine Ok.ap (by simp; omega) (Ok.cnt (by omega) (rec _ ⟨by simp only; omega, ?_⟩ (by simp only; omega)))
          simp only [cond_true, cond_false] at h3 ⊢
          rw [← h3]; simp
      · refine Ok.ap (by simp; omega) (Ok.cnt (by omega) (rec _ ⟨by simp only; omega, ?_⟩ (by simp only; omega)))
        simp only [cond_false] at h3 ⊢
        rw [← h3]; simp
  · (try simp only [ln, nI, sz, lnd, List.length_map, Bool.and_eq_true, Bool.or_eq_true, Bool.and_eq_false_iff, Bool.or_eq_false_iff, Bool.not_eq_true', Bool.not_eq_false', decide_eq_true_eq, decide_eq_false_iff_not, beq_iff_eq, bne_iff_ne, beq_eq_false_iff_ne, bne_eq_false_iff_eq, not_true_eq_false, not_false_eq_true, Bool.not_true, Bool.not_false, ne_eq] at *)
    rw [List.drop_eq_nil_of_le (by omega)] at h3
    cases don with
    | true =>
      simp only [Bool.not_true, cond_false]
      exact Ok.ret (by simpa using h3)
    | false =>
      simp only [Bool.not_false, cond_true]
      exact Ok.ap (by simp; omega) (Ok.ret (by simpa [insL] using h3))
theorem s_insert16 {fu : Nat} {l : List Int} {n : Int} (hf : 200 ≤ fu) (hl : l.length ≤ 100) : m_ref16_insert fu l n = some (insL l n) := by
  apply Ok.eq
  unfold m_ref16_insert
  refine Ok.loop (fun x : List Int × Bool × Nat => x.2.2 ≤ l.length ∧ x.1 ++ (bif x.2.1 then l.drop x.2.2 else insL (l.drop x.2.2) n) = insL l n) (fun x => l.length - x.2.2) (fun m x hi rec => ?_) ⟨Nat.zero_le _, rfl⟩ (by simp only; omega)
  obtain ⟨out, don, i⟩ := x
  obtain ⟨h1, h3⟩ := hi
  simp only at h1 h3
  have h2 : out.length ≤ 101 := by
    have a := congrArg List.length h3
    have b := insL_len l n
    rw [List.length_append] at a
    omega
  simp only [m_ref16_insert_L1]
  refine Ok.con (fun q => ?_) fun q => ?_
  · (try simp only [ln, nI, sz, lnd, List.length_map, Bool.and_eq_true, Bool.or_eq_true, Bool.and_eq_false_iff, Bool.or_eq_false_iff, Bool.not_eq_true', Bool.not_eq_false', decide_eq_true_eq, decide_eq_false_iff_not, beq_iff_eq, bne_iff_ne, beq_eq_false_iff_ne, bne_eq_false_iff_eq, not_true_eq_false, not_false_eq_true, Bool.not_true, Bool.not_false, ne_eq] at *)
    cases don with
    | true =>
      refine Ok.ixN (by omega) fun e he => Ok.ap (by simp; omega) (Ok.cnt (by omega) (rec _ ⟨by simp only; omega, ?_⟩ (by simp only; omega)))
      simp only [cond_true] at h3 ⊢
      rw [drop_get he] at h3
      rw [← h3]; simp
    | false =>
      simp only [Bool.not_false, cond_true, cond_false] at h3 ⊢
      refine Ok.ixN (by omega) fun e he => ?_
      rw [drop_get he, insL] at h3
      refine Ok.con (fun q1 => Ok.ixN (by omega) fun e' he' => ?_) fun q1 => Ok.ixN (by omega) fun e' he' => ?_
      all_goals (rw [he] at he'; cases he'; rw [q1] at h3)
      · refine Ok.con (fun q2 => ?_) fun q2 => ?_
        · refine Ok.ap (by simp; omega) (Ok.ixN (by omega) fun e' he' => ?_)
          rw [he] at he'; cases he'; rw [q2] at h3
          refine Ok.ap (by simp; omega) (Ok.cnt (by omega) (rec _ ⟨by simp only; omega, ?_⟩ (by simp only; omega)))
          simp only [cond_true] at h3 ⊢
          rw [← h3]; simp
        · refine Ok.ixN (by omega) fun e' he' => ?_
          rw [he] at he'; cases he'; rw [q2] at h3
          refine Ok.ap (by simp; omega) (Ok.cnt (by omega) (rec _ ⟨by simp only; omega, ?_⟩ (by simp only; omega)))
          simp only [cond_true, cond_false] at h3 ⊢
          rw [← h3]; simp
      · refine Ok.ap (by simp; omega) (Ok.cnt (by omega) (rec _ ⟨by simp only; omega, ?_⟩ (by simp only; omega)))
        simp only [cond_false] at h3 ⊢
        rw [← h3]; simp
  · (try simp only [ln, nI, sz, lnd, List.length_map, Bool.and_eq_true, Bool.or_eq_true, Bool.and_eq_false_iff, Bool.or_eq_false_iff, Bool.not_eq_true', Bool.not_eq_false', decide_eq_true_eq, decide_eq_false_iff_not, beq_iff_eq, bne_iff_ne, beq_eq_false_iff_ne, bne_eq_false_iff_eq, not_true_eq_false, not_false_eq_true, Bool.not_true, Bool.not_false, ne_eq] at *)
    rw [List.drop_eq_nil_of_le (by omega)] at h3
    cases don with
    | true =>
      simp only [Bool.not_true, cond_false]
      exact Ok.ret (by simpa using h3)
    | false =>
      simp only [Bool.not_false, cond_true]
      exact Ok.ap (by simp; omega) (Ok.ret (by simpa [insL] using h3))


theorem foldl_take {α β : Type} (f : β → α → β) (b : β) {l : List α} {i : Nat} {x : α} (h : l[i]? = some x) : (l.take (i + 1)).foldl f b = f ((l.take i).foldl f b) x := by
  rw [List.take_add_one, h, List.foldl_append]; rfl

def refStep (t : List Int × List Int × List Int) (n : MNode) : List Int × List Int × List Int :=
  (bif n.op == 7 then insL t.1 n.n else t.1, bif n.op == 8 then insL t.2.1 n.n else t.2.1, bif decide (36 ≤ n.op) && decide (n.op ≤ 39) then insL t.2.2 n.n else t.2.2)
def refsL (e : List MNode) : List Int × List Int × List Int := e.foldl refStep ([], [], [])
theorem refStep_len (t : List Int × List Int × List Int) (n : MNode) : (refStep t n).1.length ≤ t.1.length + 1 ∧ (refStep t n).2.1.length ≤ t.2.1.length + 1 ∧ (refStep t n).2.2.length ≤ t.2.2.length + 1 := by
  have h1 := insL_len t.1 n.n
  have h2 := insL_len t.2.1 n.n
  have h3 := insL_len t.2.2 n.n
  unfold refStep
  cases n.op == 7 <;> cases n.op == 8 <;> cases decide (36 ≤ n.op) && decide (n.op ≤ 39) <;> simp <;> omega
theorem refs_len : ∀ (e : List MNode) (t : List Int × List Int × List Int), (e.foldl refStep t).1.length ≤ t.1.length + e.length ∧ (e.foldl refStep t).2.1.length ≤ t.2.1.length + e.length ∧ (e.foldl refStep t).2.2.length ≤ t.2.2.length + e.length
  | [], t => by simp
  | n :: e, t => by
    have := refs_len e (refStep t n)
    have := refStep_len t n
    simp only [List.foldl_cons, List.length_cons]
    omega
theorem s_References {fu : Nat} {e : List MNode} (hf : 200 ≤ fu) (hl : e.length ≤ 60) : m_ref10_References fu e = some (refsL e) := by
  apply Ok.eq
  unfold m_ref10_References
  refine Ok.loop (fun x : List Int × List Int × List Int × Nat => x.2.2.2 ≤ e.length ∧ (x.1, x.2.1, x.2.2.1) = (e.take x.2.2.2).foldl refStep ([], [], [])) (fun x => e.length - x.2.2.2) (fun m x hi rec => ?_) ⟨Nat.zero_le _, rfl⟩ (by simp only; omega)
  obtain ⟨a, b, c, i⟩ := x
  obtain ⟨h1, h3⟩ := hi
  simp only at h1 h3
  obtain ⟨l1, l2, l3⟩ := refs_len (e.take i) ([], [], [])
  rw [← h3] at l1 l2 l3
  simp only [List.length_nil, List.length_take] at l1 l2 l3
  simp only [m_ref10_References_L1]
  refine Ok.con (fun q => ?_) fun q => ?_
  · (try simp only [ln, nI, sz, lnd, List.length_map, Bool.and_eq_true, Bool.or_eq_true, Bool.and_eq_false_iff, Bool.or_eq_false_iff, Bool.not_eq_true', Bool.not_eq_false', decide_eq_true_eq, decide_eq_false_iff_not, beq_iff_eq, bne_iff_ne, beq_eq_false_iff_ne, bne_eq_false_iff_eq, not_true_eq_false, not_false_eq_true, Bool.not_true, Bool.not_false, ne_eq] at *)
    refine Ok.ixN (by omega) fun nd hd => ?_
    have hs := foldl_take refStep ([], [], []) hd
    rw [← h3] at hs
    have hx : ∀ {k : MNode → Option (List Int × List Int × List Int)}, bd (ix e (nI i)) k = k nd := fun {k} => by rw [ix_nI, hd, bd_of]
    simp only [hx]
    rw [s_insert hf (by omega), bd_of]
    have key : ∀ x : List Int × List Int × List Int, x = refStep (a, b, c) nd → Ok (m_ref10_References_L1 e fu (fun p_21 => some (p_21.1, p_21.2.1, p_21.2.2)) m (x.1, x.2.1, x.2.2, i + 1)) (fun r => r = refsL e) := fun x hx => rec _ ⟨by simp only; omega, by simp only; rw [hs, hx]⟩ (by simp only; omega)
    unfold refStep at key
    refine Ok.con (fun q1 => ?_) fun q1 => ?_
    all_goals
      rw [s_insert hf (by omega), bd_of]
      refine Ok.con (fun q2 => ?_) fun q2 => ?_
      all_goals
        rw [s_insert hf (by omega), bd_of]
        refine Ok.con (fun q3 => ?_) fun q3 => ?_
        all_goals
          refine Ok.cnt (by omega) (key (_, _, _) ?_)
          rw [q1, q2, q3]; rfl
  · (try simp only [ln, nI, sz, lnd, List.length_map, Bool.and_eq_true, Bool.or_eq_true, Bool.and_eq_false_iff, Bool.or_eq_false_iff, Bool.not_eq_true', Bool.not_eq_false', decide_eq_true_eq, decide_eq_false_iff_not, beq_iff_eq, bne_iff_ne, beq_eq_false_iff_ne, bne_eq_false_iff_eq, not_true_eq_false, not_false_eq_true, Bool.not_true, Bool.not_false, ne_eq] at *)
    rw [List.take_of_length_le (by omega)] at h3
    exact Ok.ret h3

/-! ### Dependencies -/
def isDefB (s : MScope) (x : Int) : Bool := decide (0 ≤ x) && decide (x < (s.defs.length : Int))
theorem s_is (fu s x) : m_ref16_is fu s x = some (isDefB s x) := by
  unfold m_ref16_is isDefB; rw [ln_len]
def addDefs (s : MScope) (out l : List Int) : List Int := l.foldl (fun o x => bif isDefB s x then insL o x else o) out
def dirStep (s : MScope) (d : Int) (out : List Int) (r : MRule) : List Int :=
  bif r.df != d then out else addDefs s (addDefs s out (refsL r.guard).2.1) (refsL r.value).2.1
def dirL (s : MScope) (d : Int) : List Int := bif isDefB s d then s.rules.foldl (dirStep s d) [] else []
theorem Srt.add {s : MScope} : ∀ (l : List Int) {out : List Int}, Srt s.defs.length out → Srt s.defs.length (addDefs s out l)
  | [], out, h => h
  | x :: l, out, h => by
    unfold addDefs
    rw [List.foldl_cons]
    apply Srt.add l
    cases q : isDefB s x with
    | false => exact h
    | true =>
      simp only [isDefB, Bool.and_eq_true, decide_eq_true_eq] at q
      exact h.ins q.1 q.2
theorem Srt.dirStep {s : MScope} {d : Int} {out : List Int} (h : Srt s.defs.length out) (r : MRule) : Srt s.defs.length (dirStep s d out r) := by
  unfold Go.Ab.dirStep
  cases r.df != d with
  | true => exact h
  | false => exact (h.add _).add _
theorem Srt.fold {s : MScope} {d : Int} : ∀ (l : List MRule) {out : List Int}, Srt s.defs.length out → Srt s.defs.length (l.foldl (Go.Ab.dirStep s d) out)
  | [], out, h => h
  | x :: l, out, h => by rw [List.foldl_cons]; exact Srt.fold l (h.dirStep x)
theorem Srt.dir (s : MScope) (d : Int) : Srt s.defs.length (dirL s d) := by
  unfold dirL
  cases isDefB s d with
  | true => exact Srt.fold _ (Srt.nil _)
  | false => exact Srt.nil _

theorem s_Direct {fu : Nat} {s : MScope} {d : Int} (hf : 200 ≤ fu) (hs : SmallScope s) : m_ref16_Direct fu s d = some (dirL s d) := by
  obtain ⟨_, k1, k2, k3, _, _, k4⟩ := hs
  apply Ok.eq
  unfold m_ref16_Direct dirL
  rw [s_is, bd_of]
  cases isDefB s d with
  | false => exact Ok.ret rfl
  | true =>
  simp only [Bool.not_true, cond_false, cond_true]
  refine Ok.loop (fun x : List Int × Nat => x.2 ≤ s.rules.length ∧ x.1 = (s.rules.take x.2).foldl (dirStep s d) []) (fun x => s.rules.length - x.2) (fun m x hi rec => ?_) ⟨Nat.zero_le _, rfl⟩ (by simp only; omega)
  obtain ⟨out, i⟩ := x
  obtain ⟨h1, h3⟩ := hi
  simp only at h1 h3
  have hsrt : Srt s.defs.length out := by rw [h3]; exact Srt.fold _ (Srt.nil _)
  simp only [m_ref16_Direct_L1]
  refine Ok.con (fun q => ?_) fun q => ?_
  · (try simp only [ln, nI, sz, lnd, List.length_map, Bool.and_eq_true, Bool.or_eq_true, Bool.and_eq_false_iff, Bool.or_eq_false_iff, Bool.not_eq_true', Bool.not_eq_false', decide_eq_true_eq, decide_eq_false_iff_not, beq_iff_eq, bne_iff_ne, beq_eq_false_iff_ne, bne_eq_false_iff_eq, not_true_eq_false, not_false_eq_true, Bool.not_true, Bool.not_false, ne_eq] at *)
    refine Ok.ixN (by omega) fun r hr => ?_
    have hst := foldl_take (dirStep s d) [] hr
    rw [← h3] at hst
    have hx : ∀ {k : MRule → Option (List Int)}, bd (ix s.rules (nI i)) k = k r := fun {k} => by rw [ix_nI, hr, bd_of]
    simp only [hx]
    obtain ⟨_, _, g1, g2⟩ := k4 r (List.mem_of_getElem? hr)
    refine Ok.con (fun q1 => ?_) fun q1 => ?_
    · refine Ok.cnt (by omega) (rec _ ⟨by simp only; omega, ?_⟩ (by simp only; omega))
      simp only
      rw [hst, dirStep, q1]; rfl
    · rw [s_References hf (by omega), bd_of, s_References hf (by omega), bd_of]
      have m1 := (refs_len r.guard ([], [], [])).2.1
      have m2 := (refs_len r.value ([], [], [])).2.1
      simp only [List.length_nil] at m1 m2
      have e1 : r.guard.foldl refStep ([], [], []) = refsL r.guard := rfl
      have e2 : r.value.foldl refStep ([], [], []) = refsL r.value := rfl
      rw [e1] at m1
      rw [e2] at m2
      refine Ok.loop (fun x : List Int × Nat => x.2 ≤ (refsL r.guard).2.1.length ∧ x.1 = addDefs s out ((refsL r.guard).2.1.take x.2)) (fun x => (refsL r.guard).2.1.length - x.2) (fun m' x hi rec2 => ?_) ⟨Nat.zero_le _, rfl⟩ (by simp only; omega)
      obtain ⟨o1, j⟩ := x
      obtain ⟨j1, j3⟩ := hi
      simp only at j1 j3
      have hs1 : Srt s.defs.length o1 := by rw [j3]; exact hsrt.add _
      have hl1 := hs1.len
      simp only [m_ref16_Direct_L2, s_is, bd_of]
      refine Ok.con (fun q => ?_) fun q => ?_
      · (try simp only [ln, nI, sz, lnd, List.length_map, Bool.and_eq_true, Bool.or_eq_true, Bool.and_eq_false_iff, Bool.or_eq_false_iff, Bool.not_eq_true', Bool.not_eq_false', decide_eq_true_eq, decide_eq_false_iff_not, beq_iff_eq, bne_iff_ne, beq_eq_false_iff_ne, bne_eq_false_iff_eq, not_true_eq_false, not_false_eq_true, Bool.not_true, Bool.not_false, ne_eq] at *)
        refine Ok.ixN (by omega) fun y hy => ?_
        have hyt := foldl_take (fun o x => bif isDefB s x then insL o x else o) out hy
        refine Ok.con (fun q2 => Ok.ixN (by omega) fun y' hy' => ?_) fun q2 => ?_
        · rw [hy] at hy'; cases hy'
          rw [s_insert16 hf (by omega), bd_of]
          refine Ok.cnt (by omega) (rec2 _ ⟨by simp only; omega, ?_⟩ (by simp only; omega))
          simp only [addDefs] at j3 ⊢
          rw [hyt, ← j3, q2]; rfl
        · refine Ok.cnt (by omega) (rec2 _ ⟨by simp only; omega, ?_⟩ (by simp only; omega))
          simp only [addDefs] at j3 ⊢
          rw [hyt, ← j3, q2]; rfl
      · (try simp only [ln, nI, sz, lnd, List.length_map, Bool.and_eq_true, Bool.or_eq_true, Bool.and_eq_false_iff, Bool.or_eq_false_iff, Bool.not_eq_true', Bool.not_eq_false', decide_eq_true_eq, decide_eq_false_iff_not, beq_iff_eq, bne_iff_ne, beq_eq_false_iff_ne, bne_eq_false_iff_eq, not_true_eq_false, not_false_eq_true, Bool.not_true, Bool.not_false, ne_eq] at *)
        rw [List.take_of_length_le (by omega)] at j3
        refine Ok.loop (fun x : List Int × Nat => x.2 ≤ (refsL r.value).2.1.length ∧ x.1 = addDefs s o1 ((refsL r.value).2.1.take x.2)) (fun x => (refsL r.value).2.1.length - x.2) (fun m' x hi rec3 => ?_) ⟨Nat.zero_le _, rfl⟩ (by simp only; omega)
        obtain ⟨o2, k⟩ := x
        obtain ⟨i1, i3⟩ := hi
        simp only at i1 i3
        have hs2 : Srt s.defs.length o2 := by rw [i3]; exact hs1.add _
        have hl2 := hs2.len
        simp only [m_ref16_Direct_L3, s_is, bd_of]
        refine Ok.con (fun q => ?_) fun q => ?_
        · (try simp only [ln, nI, sz, lnd, List.length_map, Bool.and_eq_true, Bool.or_eq_true, Bool.and_eq_false_iff, Bool.or_eq_false_iff, Bool.not_eq_true', Bool.not_eq_false', decide_eq_true_eq, decide_eq_false_iff_not, beq_iff_eq, bne_iff_ne, beq_eq_false_iff_ne, bne_eq_false_iff_eq, not_true_eq_false, not_false_eq_true, Bool.not_true, Bool.not_false, ne_eq] at *)
          refine Ok.ixN (by omega) fun y hy => ?_
          have hyt := foldl_take (fun o x => bif isDefB s x then insL o x else o) o1 hy
          refine Ok.con (fun q2 => Ok.ixN (by omega) fun y' hy' => ?_) fun q2 => ?_
          · rw [hy] at hy'; cases hy'
            rw [s_insert16 hf (by omega), bd_of]
            refine Ok.cnt (by omega) (rec3 _ ⟨by simp only; omega, ?_⟩ (by simp only; omega))
            simp only [addDefs] at i3 ⊢
            rw [hyt, ← i3, q2]; rfl
          · refine Ok.cnt (by omega) (rec3 _ ⟨by simp only; omega, ?_⟩ (by simp only; omega))
            simp only [addDefs] at i3 ⊢
            rw [hyt, ← i3, q2]; rfl
        · (try simp only [ln, nI, sz, lnd, List.length_map, Bool.and_eq_true, Bool.or_eq_true, Bool.and_eq_false_iff, Bool.or_eq_false_iff, Bool.not_eq_true', Bool.not_eq_false', decide_eq_true_eq, decide_eq_false_iff_not, beq_iff_eq, bne_iff_ne, beq_eq_false_iff_ne, bne_eq_false_iff_eq, not_true_eq_false, not_false_eq_true, Bool.not_true, Bool.not_false, ne_eq] at *)
          rw [List.take_of_length_le (by omega)] at i3
          refine Ok.cnt (by omega) (rec _ ⟨by simp only; omega, ?_⟩ (by simp only; omega))
          simp only
          rw [hst, dirStep, show (r.df != d) = false from bne_eq_false_iff_eq.2 q1, i3, j3]; rfl
  · (try simp only [ln, nI, sz, lnd, List.length_map, Bool.and_eq_true, Bool.or_eq_true, Bool.and_eq_false_iff, Bool.or_eq_false_iff, Bool.not_eq_true', Bool.not_eq_false', decide_eq_true_eq, decide_eq_false_iff_not, beq_iff_eq, bne_iff_ne, beq_eq_false_iff_ne, bne_eq_false_iff_eq, not_true_eq_false, not_false_eq_true, Bool.not_true, Bool.not_false, ne_eq] at *)
    rw [List.take_of_length_le (by omega)] at h3
    exact Ok.ret h3

def trRound (s : MScope) (l : List Int) : List Int := l.foldl (fun o d => (dirL s d).foldl insL o) l
def iter {α : Type} (f : α → α) : Nat → α → α
  | 0, x => x
  | n + 1, x => f (iter f n x)
def transL (s : MScope) (d : Int) : List Int := iter (trRound s) s.defs.length (dirL s d)
theorem Srt.insAll {n : Nat} : ∀ (l : List Int) {o : List Int}, Srt n o → Srt n l → Srt n (l.foldl insL o)
  | [], o, h, _ => h
  | x :: l, o, h, hl => by
    rw [List.foldl_cons]
    have hx := hl.2 x (by simp)
    exact Srt.insAll l (h.ins hx.1 hx.2) ⟨(List.pairwise_cons.1 hl.1).2, fun y hy => hl.2 y (by simp [hy])⟩
theorem Srt.trs {s : MScope} : ∀ (l : List Int) {o : List Int}, Srt s.defs.length o → Srt s.defs.length (l.foldl (fun o d => (dirL s d).foldl insL o) o)
  | [], o, h => h
  | x :: l, o, h => by rw [List.foldl_cons]; exact Srt.trs l (h.insAll _ (Srt.dir s x))
theorem Srt.iter {s : MScope} {l : List Int} (h : Srt s.defs.length l) : ∀ n, Srt s.defs.length (Go.Ab.iter (trRound s) n l)
  | 0 => h
  | n + 1 => Srt.trs _ (Srt.iter h n)
theorem Srt.trans (s : MScope) (d : Int) : Srt s.defs.length (transL s d) := (Srt.dir s d).iter _

theorem s_Transitive {fu : Nat} {s : MScope} {d : Int} (hf : 200 ≤ fu) (hs : SmallScope s) : m_ref16_Transitive fu s d = some (transL s d) := by
  have k2 := hs.2.2.1
  apply Ok.eq
  unfold m_ref16_Transitive transL
  rw [s_Direct hf hs, bd_of]
  refine Ok.loop (fun x : List Int × Nat => x.2 ≤ s.defs.length ∧ x.1 = iter (trRound s) x.2 (dirL s d)) (fun x => s.defs.length - x.2) (fun m x hi rec => ?_) ⟨Nat.zero_le _, rfl⟩ (by simp only; omega)
  obtain ⟨out, i⟩ := x
  obtain ⟨h1, h3⟩ := hi
  simp only at h1 h3
  have hsrt : Srt s.defs.length out := by rw [h3]; exact (Srt.dir s d).iter _
  have hlen := hsrt.len
  simp only [m_ref16_Transitive_L1]
  refine Ok.con (fun q => ?_) fun q => ?_
  · (try simp only [ln, nI, sz, lnd, List.length_map, Bool.and_eq_true, Bool.or_eq_true, Bool.and_eq_false_iff, Bool.or_eq_false_iff, Bool.not_eq_true', Bool.not_eq_false', decide_eq_true_eq, decide_eq_false_iff_not, beq_iff_eq, bne_iff_ne, beq_eq_false_iff_ne, bne_eq_false_iff_eq, not_true_eq_false, not_false_eq_true, Bool.not_true, Bool.not_false, ne_eq] at *)
    refine Ok.loop (fun x : List Int × Nat => x.2 ≤ out.length ∧ x.1 = (out.take x.2).foldl (fun o d => (dirL s d).foldl insL o) out) (fun x => out.length - x.2) (fun m' x hi rec2 => ?_) ⟨Nat.zero_le _, rfl⟩ (by simp only; omega)
    obtain ⟨o1, j⟩ := x
    obtain ⟨j1, j3⟩ := hi
    simp only at j1 j3
    have hs1 : Srt s.defs.length o1 := by rw [j3]; exact hsrt.trs _
    simp only [m_ref16_Transitive_L2, s_Direct hf hs, bd_of]
    refine Ok.con (fun q => ?_) fun q => ?_
    · (try simp only [ln, nI, sz, lnd, List.length_map, Bool.and_eq_true, Bool.or_eq_true, Bool.and_eq_false_iff, Bool.or_eq_false_iff, Bool.not_eq_true', Bool.not_eq_false', decide_eq_true_eq, decide_eq_false_iff_not, beq_iff_eq, bne_iff_ne, beq_eq_false_iff_ne, bne_eq_false_iff_eq, not_true_eq_false, not_false_eq_true, Bool.not_true, Bool.not_false, ne_eq] at *)
      refine Ok.ixN (by omega) fun y hy => ?_
      have hyt := foldl_take (fun o d => (dirL s d).foldl insL o) out hy
      have hd := Srt.dir s y
      have hdl := hd.len
      refine Ok.loop (fun x : List Int × Nat => x.2 ≤ (dirL s y).length ∧ x.1 = ((dirL s y).take x.2).foldl insL o1) (fun x => (dirL s y).length - x.2) (fun m' x hi rec3 => ?_) ⟨Nat.zero_le _, rfl⟩ (by simp only; omega)
      obtain ⟨o2, k⟩ := x
      obtain ⟨i1, i3⟩ := hi
      simp only at i1 i3
      have hs2 : Srt s.defs.length o2 := by
        rw [i3]
        exact hs1.insAll _ ⟨hd.1.sublist (List.take_sublist _ _), fun x hx => hd.2 x (List.mem_of_mem_take hx)⟩
      have hl2 := hs2.len
      simp only [m_ref16_Transitive_L3]
      refine Ok.con (fun q => ?_) fun q => ?_
      · (try simp only [ln, nI, sz, lnd, List.length_map, Bool.and_eq_true, Bool.or_eq_true, Bool.and_eq_false_iff, Bool.or_eq_false_iff, Bool.not_eq_true', Bool.not_eq_false', decide_eq_true_eq, decide_eq_false_iff_not, beq_iff_eq, bne_iff_ne, beq_eq_false_iff_ne, bne_eq_false_iff_eq, not_true_eq_false, not_false_eq_true, Bool.not_true, Bool.not_false, ne_eq] at *)
        refine Ok.ixN (by omega) fun z hz => ?_
        have hzt := foldl_take insL o1 hz
        rw [s_insert16 hf (by omega), bd_of]
        refine Ok.cnt (by omega) (rec3 _ ⟨by simp only; omega, ?_⟩ (by simp only; omega))
        simp only at i3 ⊢
        rw [hzt, ← i3]
      · (try simp only [ln, nI, sz, lnd, List.length_map, Bool.and_eq_true, Bool.or_eq_true, Bool.and_eq_false_iff, Bool.or_eq_false_iff, Bool.not_eq_true', Bool.not_eq_false', decide_eq_true_eq, decide_eq_false_iff_not, beq_iff_eq, bne_iff_ne, beq_eq_false_iff_ne, bne_eq_false_iff_eq, not_true_eq_false, not_false_eq_true, Bool.not_true, Bool.not_false, ne_eq] at *)
        rw [List.take_of_length_le (by omega)] at i3
        refine Ok.cnt (by omega) (rec2 _ ⟨by simp only; omega, ?_⟩ (by simp only; omega))
        simp only at j3 ⊢
        rw [hyt, ← j3, i3]
    · (try simp only [ln, nI, sz, lnd, List.length_map, Bool.and_eq_true, Bool.or_eq_true, Bool.and_eq_false_iff, Bool.or_eq_false_iff, Bool.not_eq_true', Bool.not_eq_false', decide_eq_true_eq, decide_eq_false_iff_not, beq_iff_eq, bne_iff_ne, beq_eq_false_iff_ne, bne_eq_false_iff_eq, not_true_eq_false, not_false_eq_true, Bool.not_true, Bool.not_false, ne_eq] at *)
      rw [List.take_of_length_le (by omega)] at j3
      refine Ok.cnt (by omega) (rec _ ⟨by simp only; omega, ?_⟩ (by simp only; omega))
      simp only
      rw [j3, iter, ← h3]; rfl
  · (try simp only [ln, nI, sz, lnd, List.length_map, Bool.and_eq_true, Bool.or_eq_true, Bool.and_eq_false_iff, Bool.or_eq_false_iff, Bool.not_eq_true', Bool.not_eq_false', decide_eq_true_eq, decide_eq_false_iff_not, beq_iff_eq, bne_iff_ne, beq_eq_false_iff_ne, bne_eq_false_iff_eq, not_true_eq_false, not_false_eq_true, Bool.not_true, Bool.not_false, ne_eq] at *)
    have e : i = s.defs.length := by omega
    subst e
    exact Ok.ret h3
end Go.Ab

/- Plain laws: rules, scopes and whole laws: the reference for valid laws answers, and what a valid law is like. -/
set_option linter.unusedVariables false
set_option linter.unusedSimpArgs false
namespace Go.Ab

/-- The nodes of a law hold numbers of 64 bits. -/
def NodesIn (l : MLaw) : Prop := ∀ s ∈ l.scopes, ∀ r ∈ s.rules, (∀ n ∈ r.guard, in64 n.n) ∧ ∀ n ∈ r.value, in64 n.n

theorem o_ruleError {fu : Nat} {l : MLaw} {i k : Nat} {s : MScope} {r : MRule} (hf : 200 ≤ fu) (hl : SmallLaw l) (hn : NodesIn l) (hi : l.scopes[i]? = some s) (hk : s.rules[k]? = some r) :
    Ok (m_ref17_ruleError fu l (nI i) (nI k)) (fun v => v = 0 → (∀ (j : Nat) (e : MRule), j < k → s.rules[j]? = some e → e.name ≠ r.name) ∧ 0 ≤ r.df ∧ r.df < (s.defs.length : Int)) := by
  have hl' := hl
  obtain ⟨h1, h2, h3, h4, h5, h6, h7, h8⟩ := hl
  have hlt := (List.getElem?_eq_some_iff.1 hi).1
  have hkt := (List.getElem?_eq_some_iff.1 hk).1
  obtain ⟨_, k1, k2, k3, _, _, k4⟩ := h8 s (List.mem_of_getElem? hi)
  obtain ⟨_, g0, g1, g2⟩ := k4 r (List.mem_of_getElem? hk)
  obtain ⟨n1, n2⟩ := hn s (List.mem_of_getElem? hi) r (List.mem_of_getElem? hk)
  unfold m_ref17_ruleError
  refine Ok.ixN hlt fun s' hs' => ?_
  rw [hi] at hs'; cases hs'
  refine Ok.ixN hkt fun r' hr' => ?_
  rw [hk] at hr'; cases hr'
  simp only [s_IsIdentifier fu _ hf, bd_of]
  refine Ok.con (fun _ => Ok.ret fun h => by cases h) fun _ => ?_
  refine Ok.loop (fun x : Int × Nat => x.2 ≤ k ∧ ∀ (j : Nat) (e : MRule), j < x.2 → s.rules[j]? = some e → e.name ≠ r.name) (fun x => k - x.2) (fun m x hi rec => ?_) ⟨Nat.zero_le _, fun j e h => absurd h (Nat.not_lt_zero _)⟩ (by simp only; omega)
  obtain ⟨sib, j⟩ := x
  obtain ⟨j1, j3⟩ := hi
  simp only at j1 j3
  simp only [m_ref17_ruleError_L1]
  refine Ok.con (fun q => ?_) fun q => ?_
  · (try simp only [ln, nI, sz, lnd, List.length_map, Bool.and_eq_true, Bool.or_eq_true, Bool.and_eq_false_iff, Bool.or_eq_false_iff, Bool.not_eq_true', Bool.not_eq_false', decide_eq_true_eq, decide_eq_false_iff_not, beq_iff_eq, bne_iff_ne, beq_eq_false_iff_ne, bne_eq_false_iff_eq, not_true_eq_false, not_false_eq_true, Bool.not_true, Bool.not_false, ne_eq] at *)
    refine Ok.ixN (by omega) fun e he => Ok.con (fun _ => Ok.ret fun h => by cases h) fun qn => Ok.ixN (by omega) fun e' he' => ?_
    have hne : ∀ (j' : Nat) (e' : MRule), j' < j + 1 → s.rules[j']? = some e' → e'.name ≠ r.name := by
      intro j' e2 hj he2
      by_cases hh : j' = j
      · subst hh; rw [he] at he2; cases he2; exact of_decide_eq_false qn
      · exact j3 j' e2 (by omega) he2
    refine Ok.con (fun _ => ?_) fun _ => ?_
    all_goals exact Ok.cnt (by omega) (rec _ ⟨by simp only; omega, hne⟩ (by simp only; omega))
  · (try simp only [ln, nI, sz, lnd, List.length_map, Bool.and_eq_true, Bool.or_eq_true, Bool.and_eq_false_iff, Bool.or_eq_false_iff, Bool.not_eq_true', Bool.not_eq_false', decide_eq_true_eq, decide_eq_false_iff_not, beq_iff_eq, bne_iff_ne, beq_eq_false_iff_ne, bne_eq_false_iff_eq, not_true_eq_false, not_false_eq_true, Bool.not_true, Bool.not_false, ne_eq] at *)
    have hj : j = k := by omega
    subst hj
    refine Ok.con (fun _ => Ok.ret fun h => by cases h) fun qd => ?_
    (try simp only [ln, nI, sz, lnd, List.length_map, Bool.and_eq_true, Bool.or_eq_true, Bool.and_eq_false_iff, Bool.or_eq_false_iff, Bool.not_eq_true', Bool.not_eq_false', decide_eq_true_eq, decide_eq_false_iff_not, beq_iff_eq, bne_iff_ne, beq_eq_false_iff_ne, bne_eq_false_iff_eq, not_true_eq_false, not_false_eq_true, Bool.not_true, Bool.not_false, ne_eq] at *)
    have qd2 : 0 ≤ r.df ∧ r.df < (s.defs.length : Int) := by omega
    have fin : ∀ {m : Option Int}, Ok m (fun _ => True) → Ok m (fun v => v = 0 → (∀ (j' : Nat) (e : MRule), j' < j → s.rules[j']? = some e → e.name ≠ r.name) ∧ 0 ≤ r.df ∧ r.df < (s.defs.length : Int)) := fun h => h.mono fun _ _ _ => ⟨j3, qd2⟩
    apply fin
    simp only [s_Valid, s_Signature hf hl' hi, bd_of]
    repeat' first
      | (first | with_reducible exact Ok.tt | with_reducible refine Ok.con (fun _ => ?_) (fun _ => ?_) | with_reducible refine Ok.cnt ?_ ?_ | with_reducible refine Ok.ixN ?_ (fun _ _ => ?_) | with_reducible refine Ok.ix ?_ ?_ (fun _ _ => ?_) | with_reducible refine Ok.sl ?_ ?_ ?_ ?_ | with_reducible refine Ok.ap ?_ ?_ | with_reducible refine Ok.strN ?_ (fun _ _ => ?_) | with_reducible refine Ok.bde rfl ?_)
      | with_reducible refine Ok.bd (o_plainText hf (by omega)) fun _ _ => ?_
      | with_reducible refine Ok.bd (o_exprError hf (by omega) n1) fun _ _ => ?_
      | with_reducible refine Ok.bd (o_exprError hf (by omega) n2) fun _ _ => ?_
    all_goals ((try simp only [ln, nI, sz, lnd, List.length_map, Bool.and_eq_true, Bool.or_eq_true, Bool.and_eq_false_iff, Bool.or_eq_false_iff, Bool.not_eq_true', Bool.not_eq_false', decide_eq_true_eq, decide_eq_false_iff_not, beq_iff_eq, bne_iff_ne, beq_eq_false_iff_ne, bne_eq_false_iff_eq, not_true_eq_false, not_false_eq_true, Bool.not_true, Bool.not_false, ne_eq] at *); omega)

/-- The names of a scope's rules and definitions tell them apart, and each rule is of a definition. -/
structure ApartS (s : MScope) : Prop where
  rules : ∀ (j k : Nat) (e r : MRule), j < k → s.rules[j]? = some e → s.rules[k]? = some r → e.name ≠ r.name
  defs : ∀ (j k : Nat) (e r : MField), j < k → s.defs[j]? = some e → s.defs[k]? = some r → e.name ≠ r.name
  df : ∀ (k : Nat) (r : MRule), s.rules[k]? = some r → 0 ≤ r.df ∧ r.df < (s.defs.length : Int)

theorem o_scopeError {fu : Nat} {l : MLaw} {i : Nat} {s : MScope} (hf : 200 ≤ fu) (hl : SmallLaw l) (hn : NodesIn l) (hi : l.scopes[i]? = some s) :
    Ok (m_ref17_scopeError fu l (nI i)) (fun v => v.code = 0 → (∀ (j : Nat) (e : MScope), j < i → l.scopes[j]? = some e → e.name ≠ s.name) ∧ ApartS s) := by
  have hl' := hl
  obtain ⟨h1, h2, h3, h4, h5, h6, h7, h8⟩ := hl
  have hlt := (List.getElem?_eq_some_iff.1 hi).1
  have hsm := h8 s (List.mem_of_getElem? hi)
  obtain ⟨_, k1, k2, k3, _, _, k4⟩ := h8 s (List.mem_of_getElem? hi)
  unfold m_ref17_scopeError
  refine Ok.ixN hlt fun s' hs' => ?_
  rw [hi] at hs'; cases hs'
  simp only [s_IsIdentifier fu _ hf, bd_of]
  refine Ok.con (fun _ => Ok.ret fun h => by cases h) fun _ => Ok.bd (o_nameTaken hf (by omega) (by omega) (by omega)) fun t ht => Ok.con (fun _ => Ok.ret fun h => by cases h) fun qt => ?_
  have hnames : ∀ (j : Nat) (e : MScope), j < i → l.scopes[j]? = some e → e.name ≠ s.name := fun j e hj he => ht qt rfl j e (by simp only [nI]; omega) he
  have rest : ∀ {L1 : (Unit → Option MLawError) → Nat → Nat → Option MLawError} {L2 : (Unit → Option MLawError) → Nat → Nat → Option MLawError} {L3 : List Int → Nat → (Unit → Option MLawError) → Nat → Nat → Option MLawError}
      (_ : ∀ k n j, L1 k (n + 1) j = bif decide (nI j < ln cRule s.rules) then bd (m_ref17_ruleError fu l (nI i) (nI j)) fun c => (bif (c != 0) then some (MLawError.mk c 3 (nI i) (w64 (300 + nI j))) else cnt j (L1 k n (j + 1))) else k ())
      (_ : ∀ k n d, L2 k (n + 1) d = bif decide (nI d < ln cField s.defs) then bd (m_ref16_Transitive fu s (nI d)) fun c => L3 c d (fun _ => cnt d (L2 k n (d + 1))) fu 0 else k ())
      (_ : ∀ c d k n i', L3 c d k (n + 1) i' = bif decide (nI i' < ln cInt c) then bd (ix c (nI i')) fun e => (bif (e == nI d) then some (MLawError.mk 9 3 (nI i) (w64 (200 + nI d))) else cnt i' (L3 c d k n (i' + 1))) else k ()),
      (∀ (j k : Nat) (e r : MField), j < k → s.defs[j]? = some e → s.defs[k]? = some r → e.name ≠ r.name) → Ok (L1 (fun _ => L2 (fun _ => some (MLawError.mk 0 0 0 0)) fu 0) fu 0) (fun v => v.code = 0 → (∀ (j : Nat) (e : MScope), j < i → l.scopes[j]? = some e → e.name ≠ s.name) ∧ ApartS s) := by
    intro L1 L2 L3 e1 e2 e3 hdefs
    refine Ok.loop (fun k => k ≤ s.rules.length ∧ (∀ (j k' : Nat) (e r : MRule), j < k' → k' < k → s.rules[j]? = some e → s.rules[k']? = some r → e.name ≠ r.name) ∧ ∀ (k' : Nat) (r : MRule), k' < k → s.rules[k']? = some r → 0 ≤ r.df ∧ r.df < (s.defs.length : Int)) (fun k => s.rules.length - k) (fun m k hi' rec => ?_) ⟨Nat.zero_le _, fun j k' e r _ h => absurd h (Nat.not_lt_zero _), fun k' r h => absurd h (Nat.not_lt_zero _)⟩ (by omega)
    obtain ⟨j1, j3, j4⟩ := hi'
    rw [e1]
    refine Ok.con (fun q => ?_) fun q => ?_
    · (try simp only [ln, nI, sz, lnd, List.length_map, Bool.and_eq_true, Bool.or_eq_true, Bool.and_eq_false_iff, Bool.or_eq_false_iff, Bool.not_eq_true', Bool.not_eq_false', decide_eq_true_eq, decide_eq_false_iff_not, beq_iff_eq, bne_iff_ne, beq_eq_false_iff_ne, bne_eq_false_iff_eq, not_true_eq_false, not_false_eq_true, Bool.not_true, Bool.not_false, ne_eq] at *)
      obtain ⟨r, hr⟩ : ∃ r, s.rules[k]? = some r := ⟨_, List.getElem?_eq_getElem (by omega)⟩
      refine Ok.bd (o_ruleError hf hl' hn hi hr) fun c hc => Ok.con (fun qc => Ok.ret fun h => ?_) fun qc => Ok.cnt (by omega) (rec _ ⟨by omega, fun j k' e r' hj hk he hr' => ?_, fun k' r' hk hr' => ?_⟩ (by omega))
      · simp only at h; rw [h] at qc; cases qc
      · by_cases hh : k' = k
        · subst hh; rw [hr] at hr'; cases hr'
          exact (hc (by simpa using qc)).1 j e hj he
        · exact j3 j k' e r' hj (by omega) he hr'
      · by_cases hh : k' = k
        · subst hh; rw [hr] at hr'; cases hr'
          exact (hc (by simpa using qc)).2
        · exact j4 k' r' (by omega) hr'
    · (try simp only [ln, nI, sz, lnd, List.length_map, Bool.and_eq_true, Bool.or_eq_true, Bool.and_eq_false_iff, Bool.or_eq_false_iff, Bool.not_eq_true', Bool.not_eq_false', decide_eq_true_eq, decide_eq_false_iff_not, beq_iff_eq, bne_iff_ne, beq_eq_false_iff_ne, bne_eq_false_iff_eq, not_true_eq_false, not_false_eq_true, Bool.not_true, Bool.not_false, ne_eq] at *)
      have hrules : ApartS s := ⟨fun j k' e r hj he hr => j3 j k' e r hj (by have := (List.getElem?_eq_some_iff.1 hr).1; omega) he hr, hdefs, fun k' r hr => j4 k' r (by have := (List.getElem?_eq_some_iff.1 hr).1; omega) hr⟩
      refine Ok.loop (fun d => d ≤ s.defs.length) (fun d => s.defs.length - d) (fun m d hd rec2 => ?_) (Nat.zero_le _) (by omega)
      rw [e2, s_Transitive hf hsm, bd_of]
      have htl := (Srt.trans s (nI d)).len
      refine Ok.con (fun q => ?_) fun q => Ok.ret fun _ => ⟨hnames, hrules⟩
      (try simp only [ln, nI, sz, lnd, List.length_map, Bool.and_eq_true, Bool.or_eq_true, Bool.and_eq_false_iff, Bool.or_eq_false_iff, Bool.not_eq_true', Bool.not_eq_false', decide_eq_true_eq, decide_eq_false_iff_not, beq_iff_eq, bne_iff_ne, beq_eq_false_iff_ne, bne_eq_false_iff_eq, not_true_eq_false, not_false_eq_true, Bool.not_true, Bool.not_false, ne_eq] at *)
      refine Ok.loop (fun j => j ≤ (transL s (d : Int)).length) (fun j => (transL s (d : Int)).length - j) (fun m j hj rec3 => ?_) (Nat.zero_le _) (by omega)
      rw [e3]
      refine Ok.con (fun q => ?_) fun q => Ok.cnt (by omega) (rec2 _ (by omega) (by omega))
      (try simp only [ln, nI, sz, lnd, List.length_map, Bool.and_eq_true, Bool.or_eq_true, Bool.and_eq_false_iff, Bool.or_eq_false_iff, Bool.not_eq_true', Bool.not_eq_false', decide_eq_true_eq, decide_eq_false_iff_not, beq_iff_eq, bne_iff_ne, beq_eq_false_iff_ne, bne_eq_false_iff_eq, not_true_eq_false, not_false_eq_true, Bool.not_true, Bool.not_false, ne_eq] at *)
      exact Ok.ixN (by omega) fun _ _ => Ok.con (fun _ => Ok.ret fun h => by cases h) fun _ => Ok.cnt (by omega) (rec3 _ (by omega) (by omega))
  refine Ok.con (fun qm => Ok.con (fun _ => Ok.ret fun h => by cases h) fun qb => ?_) fun qm => ?_
  · have qb2 : 0 ≤ s.ms ∧ s.ms < (i : Int) := by simp only [nI, Bool.or_eq_false_iff, decide_eq_false_iff_not] at qb; omega
    refine Ok.ix (by omega) (by omega) fun m hm => Ok.con (fun _ => Ok.ret fun h => by cases h) fun _ => Ok.con (fun _ => Ok.ret fun h => by cases h) fun _ => Ok.con (fun _ => Ok.ret fun h => by cases h) fun _ => Ok.bd (o_fieldError hf hl' hi) fun c hcf => Ok.con (fun qc => Ok.ret fun h => ?_) fun qc => ?_
    · rw [h] at qc; cases qc
    · exact rest (L1 := m_ref17_scopeError_L1 s fu l (nI i)) (L2 := m_ref17_scopeError_L2 s fu (nI i)) (L3 := fun c d => m_ref17_scopeError_L3 c d (nI i)) (fun _ _ _ => rfl) (fun _ _ _ => rfl) (fun _ _ _ _ _ => rfl) (hcf (by simpa using qc))
  · refine Ok.con (fun _ => Ok.ret fun h => by cases h) fun _ => Ok.con (fun _ => Ok.ret fun h => by cases h) fun _ => Ok.bd (o_fieldError hf hl' hi) fun c hcf => Ok.con (fun qc => Ok.ret fun h => ?_) fun qc => ?_
    · rw [h] at qc; cases qc
    · exact rest (L1 := m_ref17_scopeError_L4 s fu l (nI i)) (L2 := m_ref17_scopeError_L5 s fu (nI i)) (L3 := fun c d => m_ref17_scopeError_L6 c d (nI i)) (fun _ _ _ => rfl) (fun _ _ _ => rfl) (fun _ _ _ _ _ => rfl) (hcf (by simpa using qc))

/-- The names of a law tell its scopes and rules apart. -/
def Apart (l : MLaw) : Prop := ∀ (i : Nat) (s : MScope), l.scopes[i]? = some s → (∀ (j : Nat) (e : MScope), j < i → l.scopes[j]? = some e → e.name ≠ s.name) ∧ ApartS s

theorem o_Validate {fu : Nat} {l : MLaw} (hf : 200 ≤ fu) (hl : SmallLaw l) (hn : NodesIn l) : Ok (m_ref17_Validate fu l) (fun v => v.code = 0 → Apart l) := by
  have hl' := hl
  obtain ⟨h1, h2, h3, h4, h5, h6, h7, h8⟩ := hl
  unfold m_ref17_Validate
  refine Ok.con (fun _ => Ok.ret fun h => by cases h) fun _ => ?_
  refine Ok.loop (fun i => i ≤ l.enums.length) (fun i => l.enums.length - i) (fun n i hi rec1 => ?_) (Nat.zero_le _) (by omega)
  simp only [m_ref17_Validate_L1]
  refine Ok.con (fun _ => ?_) fun _ => ?_
  · (try simp only [ln, nI, sz, lnd, List.length_map, Bool.and_eq_true, Bool.or_eq_true, Bool.and_eq_false_iff, Bool.or_eq_false_iff, Bool.not_eq_true', Bool.not_eq_false', decide_eq_true_eq, decide_eq_false_iff_not, beq_iff_eq, bne_iff_ne, beq_eq_false_iff_ne, bne_eq_false_iff_eq, not_true_eq_false, not_false_eq_true, Bool.not_true, Bool.not_false, ne_eq] at *)
    refine Ok.bd (o_enumError hf hl' (by omega)) fun c _ => Ok.con (fun qc => Ok.ret fun h => ?_) fun qc => Ok.cnt (by omega) (rec1 _ (by omega) (by omega))
    rw [h] at qc; cases qc
  refine Ok.con (fun _ => Ok.ret fun h => by cases h) fun _ => ?_
  refine Ok.loop (fun i => i ≤ l.tables.length) (fun i => l.tables.length - i) (fun n i hi rec2 => ?_) (Nat.zero_le _) (by omega)
  simp only [m_ref17_Validate_L2]
  refine Ok.con (fun _ => ?_) fun _ => ?_
  · (try simp only [ln, nI, sz, lnd, List.length_map, Bool.and_eq_true, Bool.or_eq_true, Bool.and_eq_false_iff, Bool.or_eq_false_iff, Bool.not_eq_true', Bool.not_eq_false', decide_eq_true_eq, decide_eq_false_iff_not, beq_iff_eq, bne_iff_ne, beq_eq_false_iff_ne, bne_eq_false_iff_eq, not_true_eq_false, not_false_eq_true, Bool.not_true, Bool.not_false, ne_eq] at *)
    refine Ok.bd (o_tableError hf hl' (by omega)) fun c _ => Ok.con (fun qc => Ok.ret fun h => ?_) fun qc => Ok.cnt (by omega) (rec2 _ (by omega) (by omega))
    rw [h] at qc; cases qc
  refine Ok.con (fun _ => Ok.ret fun h => by cases h) fun _ => ?_
  refine Ok.loop (fun i => i ≤ l.scopes.length ∧ ∀ (j : Nat) (s : MScope), j < i → l.scopes[j]? = some s → (∀ (j' : Nat) (e : MScope), j' < j → l.scopes[j']? = some e → e.name ≠ s.name) ∧ ApartS s) (fun i => l.scopes.length - i) (fun n i hi rec => ?_) ⟨Nat.zero_le _, fun j s h => absurd h (Nat.not_lt_zero _)⟩ (by omega)
  obtain ⟨i1, i3⟩ := hi
  simp only [m_ref17_Validate_L3]
  refine Ok.con (fun _ => ?_) fun _ => Ok.ret fun _ => ?_
  · (try simp only [ln, nI, sz, lnd, List.length_map, Bool.and_eq_true, Bool.or_eq_true, Bool.and_eq_false_iff, Bool.or_eq_false_iff, Bool.not_eq_true', Bool.not_eq_false', decide_eq_true_eq, decide_eq_false_iff_not, beq_iff_eq, bne_iff_ne, beq_eq_false_iff_ne, bne_eq_false_iff_eq, not_true_eq_false, not_false_eq_true, Bool.not_true, Bool.not_false, ne_eq] at *)
    obtain ⟨s, hs⟩ : ∃ s, l.scopes[i]? = some s := ⟨_, List.getElem?_eq_getElem (by omega)⟩
    refine Ok.bd (o_scopeError hf hl' hn hs) fun c hc => Ok.con (fun qc => Ok.ret fun h => ?_) fun qc => Ok.cnt (by omega) (rec _ ⟨by omega, fun j s' hj hs' => ?_⟩ (by omega))
    · rw [h] at qc; cases qc
    · by_cases hh : j = i
      · subst hh; rw [hs] at hs'; cases hs'
        exact hc (by simpa using qc)
      · exact i3 j s' (by omega) hs'
  · (try simp only [ln, nI, sz, lnd, List.length_map, Bool.and_eq_true, Bool.or_eq_true, Bool.and_eq_false_iff, Bool.or_eq_false_iff, Bool.not_eq_true', Bool.not_eq_false', decide_eq_true_eq, decide_eq_false_iff_not, beq_iff_eq, bne_iff_ne, beq_eq_false_iff_ne, bne_eq_false_iff_eq, not_true_eq_false, not_false_eq_true, Bool.not_true, Bool.not_false, ne_eq] at *)
    exact fun j s hs => i3 j s (by have := (List.getElem?_eq_some_iff.1 hs).1; omega) hs

theorem o_IsValid {fu : Nat} {l : MLaw} (hf : 200 ≤ fu) (hl : SmallLaw l) (hn : NodesIn l) : Ok (m_ref17_IsValid fu l) (fun v => v = true → Apart l) :=
  Ok.bd (o_Validate hf hl hn) fun c hc => Ok.ret fun h => hc (by simpa using h)
end Go.Ab
