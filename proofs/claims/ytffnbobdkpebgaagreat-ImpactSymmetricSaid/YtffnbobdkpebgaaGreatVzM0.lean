/- Mirrored models of the functions, by my generator. -/
import Derived.Test.YtffnbobdkpebgaaGreatLibM
set_option linter.unusedVariables false
set_option linter.unusedSimpArgs false
namespace Go.Ab

structure MValue where
  kind : Int
  enum : Int
  nF : Int
deriving DecidableEq
def cValue (x : MValue) : List D := [(iD x.kind), (iD x.enum), (iD x.nF)]
structure MImpact where
  old : MValue
  new : MValue
  oldCode : Int
  newCode : Int
  rules : (List MChange)
deriving DecidableEq
def cImpact (x : MImpact) : List D := [(iD x.old.kind), (iD x.old.enum), (iD x.old.nF), (iD x.new.kind), (iD x.new.enum), (iD x.new.nF), (iD x.oldCode), (iD x.newCode), (.slice 3 (List.map cChange x.rules))]
structure MLawError where
  code : Int
  sectionF : Int
  item : Int
  element : Int
deriving DecidableEq
def cLawError (x : MLawError) : List D := [(iD x.code), (iD x.sectionF), (iD x.item), (iD x.element)]
structure MSignature where
  enums : (List MEnum)
  tables : (List MTable)
  inputs : (List MTy)
  defs : (List MTy)
  memberDefs : (List MTy)
  hasMembers : Bool
deriving DecidableEq
def cSignature (x : MSignature) : List D := [(.slice 2 (List.map cEnum x.enums)), (.slice 6 (List.map cTable x.tables)), (.slice 2 (List.map cTy x.inputs)), (.slice 2 (List.map cTy x.defs)), (.slice 2 (List.map cTy x.memberDefs)), (.bool x.hasMembers)]
structure MEvalError where
  code : Int
  member : Int
  defF : Int
  ruleF : Int
deriving DecidableEq
def cEvalError (x : MEvalError) : List D := [(iD x.code), (iD x.member), (iD x.defF), (iD x.ruleF)]
structure MCase where
  date : Int
  inputs : (List MValue)
  members : (List (List MValue))
deriving DecidableEq
def cCase (x : MCase) : List D := [(iD x.date), (.slice 3 (List.map cValue x.inputs)), (.slice 1 (List.map (cSlc 3 cValue) x.members))]
structure MEnv where
  date : Int
  inputs : (List MValue)
  defs : (List MValue)
  members : (List (List MValue))
  memberTypes : (List MTy)
  tables : (List MTable)
deriving DecidableEq
def cEnv (x : MEnv) : List D := [(iD x.date), (.slice 3 (List.map cValue x.inputs)), (.slice 3 (List.map cValue x.defs)), (.slice 1 (List.map (cSlc 3 cValue) x.members)), (.slice 2 (List.map cTy x.memberTypes)), (.slice 6 (List.map cTable x.tables))]
structure MInterpUnit where
  scope : MScope
  env : MEnv
  member : Int
  rules : (List Int)
deriving DecidableEq
def cInterpUnit (x : MInterpUnit) : List D := [(.str x.scope.name), (iD x.scope.ms), (.slice 3 (List.map cField x.scope.inputs)), (.slice 3 (List.map cField x.scope.defs)), (.slice 9 (List.map cRule x.scope.rules)), (iD x.env.date), (.slice 3 (List.map cValue x.env.inputs)), (.slice 3 (List.map cValue x.env.defs)), (.slice 1 (List.map (cSlc 3 cValue) x.env.members)), (.slice 2 (List.map cTy x.env.memberTypes)), (.slice 6 (List.map cTable x.env.tables)), (iD x.member), (.slice 1 (List.map cInt x.rules))]
structure MInterpMachine where
  law : MLaw
  scope : MScope
  members : MScope
  cF : MCase
  want : (List Bool)
  inner : (List Bool)
  units : (List MInterpUnit)
  top : MInterpUnit
deriving DecidableEq
def cInterpMachine (x : MInterpMachine) : List D := [(.slice 2 (List.map cEnum x.law.enums)), (.slice 6 (List.map cTable x.law.tables)), (.slice 5 (List.map cScope x.law.scopes)), (.str x.scope.name), (iD x.scope.ms), (.slice 3 (List.map cField x.scope.inputs)), (.slice 3 (List.map cField x.scope.defs)), (.slice 9 (List.map cRule x.scope.rules)), (.str x.members.name), (iD x.members.ms), (.slice 3 (List.map cField x.members.inputs)), (.slice 3 (List.map cField x.members.defs)), (.slice 9 (List.map cRule x.members.rules)), (iD x.cF.date), (.slice 3 (List.map cValue x.cF.inputs)), (.slice 1 (List.map (cSlc 3 cValue) x.cF.members)), (.slice 1 (List.map cBool x.want)), (.slice 1 (List.map cBool x.inner)), (.slice 1 (List.map (cPtr cInterpUnit) x.units)), (.ptr (cInterpUnit x.top) 0)]
structure MEvalEvaluator where
  e : (List MNode)
  env : MEnv
deriving DecidableEq
def cEvalEvaluator (x : MEvalEvaluator) : List D := [(.slice 2 (List.map cNode x.e)), (iD x.env.date), (.slice 3 (List.map cValue x.env.inputs)), (.slice 3 (List.map cValue x.env.defs)), (.slice 1 (List.map (cSlc 3 cValue) x.env.members)), (.slice 2 (List.map cTy x.env.memberTypes)), (.slice 6 (List.map cTable x.env.tables))]
structure MRuletreeTree where
  parent : (List Int)
  priority : (List Int)
  applies : (List Bool)
deriving DecidableEq
def cRuletreeTree (x : MRuletreeTree) : List D := [(.slice 1 (List.map cInt x.parent)), (.slice 1 (List.map cInt x.priority)), (.slice 1 (List.map cBool x.applies))]
structure MLawdiffProperties where
  defF : BA
  parent : BA
  source : BA
  priority : Int
  valid : MRange
deriving DecidableEq
def cLawdiffProperties (x : MLawdiffProperties) : List D := [(.str x.defF), (.str x.parent), (.str x.source), (iD x.priority), (iD x.valid.fr), (iD x.valid.to)]
structure MGuerdonlaw52Pair where
  a : MLaw
  b : MLaw
deriving DecidableEq
def cGuerdonlaw52Pair (x : MGuerdonlaw52Pair) : List D := [(.slice 2 (List.map cEnum x.a.enums)), (.slice 6 (List.map cTable x.a.tables)), (.slice 5 (List.map cScope x.a.scopes)), (.slice 2 (List.map cEnum x.b.enums)), (.slice 6 (List.map cTable x.b.tables)), (.slice 5 (List.map cScope x.b.scopes))]
structure MKeyRange where
  lo : Int
  hi : Int
deriving DecidableEq
def cKeyRange (x : MKeyRange) : List D := [(iD x.lo), (iD x.hi)]
structure MMarginalQuery where
  law : MLaw
  scope : Int
  defF : Int
  input : Int
  cF : MCase
deriving DecidableEq
def cMarginalQuery (x : MMarginalQuery) : List D := [(.slice 2 (List.map cEnum x.law.enums)), (.slice 6 (List.map cTable x.law.tables)), (.slice 5 (List.map cScope x.law.scopes)), (iD x.scope), (iD x.defF), (iD x.input), (iD x.cF.date), (.slice 3 (List.map cValue x.cF.inputs)), (.slice 1 (List.map (cSlc 3 cValue) x.cF.members))]
structure MCliff where
  atF : Int
  before : Int
  after : Int
deriving DecidableEq
def cCliff (x : MCliff) : List D := [(iD x.atF), (iD x.before), (iD x.after)]
structure MGuerdonlaw60Query where
  scope : Int
  defF : Int
  input : Int
  nF : Int
deriving DecidableEq
def cGuerdonlaw60Query (x : MGuerdonlaw60Query) : List D := [(iD x.scope), (iD x.defF), (iD x.input), (iD x.nF)]
structure MMemberResult where
  values : (List MValue)
  rules : (List Int)
deriving DecidableEq
def cMemberResult (x : MMemberResult) : List D := [(.slice 3 (List.map cValue x.values)), (.slice 1 (List.map cInt x.rules))]
structure MResult where
  values : (List MValue)
  rules : (List Int)
  members : (List MMemberResult)
deriving DecidableEq
def cResult (x : MResult) : List D := [(.slice 3 (List.map cValue x.values)), (.slice 1 (List.map cInt x.rules)), (.slice 2 (List.map cMemberResult x.members))]

def m_impact_IsChanged (fu : Nat) (i : MImpact) : Option Bool :=
  (bif (!((i.oldCode == 0) == (i.newCode == 0))) then some true else some ((i.oldCode == 0) && (!((i.old.kind == i.new.kind) && ((i.old.enum == i.new.enum) && (i.old.nF == i.new.nF))))))

def m_ref52_IsChanged (fu : Nat) (i : MImpact) : Option Bool :=
  (bif (!((i.oldCode == 0) == (i.newCode == 0))) then some true else some ((i.oldCode == 0) && (!((i.old.kind == i.new.kind) && ((i.old.enum == i.new.enum) && (i.old.nF == i.new.nF))))))

def m_same_TinyLaw (fu : Nat) (value : (List MNode)) : Option ((List MEnum) × (List MTable) × (List MScope)) :=
  some (([] : List MEnum), ([] : List MTable), [(MScope.mk (⟨#[104, 111, 117, 115, 101]⟩) (-1) [(MField.mk (⟨#[97]⟩) (MTy.mk 3 0))] [(MField.mk (⟨#[100]⟩) (MTy.mk 3 0))] [(MRule.mk (⟨#[98, 97, 115, 101]⟩) 0 (-1) 0 (MRange.mk 0 109573) ([] : List MNode) value ByteArray.empty)])])

def m_law_bad (fu : Nat) (code : Int) (sectionV : Int) (item : Int) (element : Int) : Option MLawError :=
  some (MLawError.mk code sectionV item element)

def m_lexer_lower (fu : Nat) (b : Int) : Option Bool :=
  some ((decide (97 ≤ b)) && (decide (b ≤ 122)))

def m_lexer_digit (fu : Nat) (b : Int) : Option Bool :=
  some ((decide (48 ≤ b)) && (decide (b ≤ 57)))

def m_lexer_part (fu : Nat) (b : Int) : Option Bool :=
  bd (m_lexer_lower fu b) fun c_1 => (bif c_1 then some true else bd (m_lexer_digit fu b) fun c_2 => some (c_2 || (b == 95)))

def m_lexer_run_137_L1 (s : BA) (fu : Nat) (k_1 : (Int → Option Int)) : Nat → (Nat) → Option Int
  | 0, _ => none
  | fl_2 + 1, n_1 => (bif (decide ((nI n_1) < (sz s))) then bd (strAt s (nI n_1)) fun b_3 => bd (m_lexer_part fu b_3) fun c_4 => (bif c_4 then cnt n_1 (m_lexer_run_137_L1 s fu k_1 fl_2 (n_1 + 1)) else k_1 (nI n_1)) else k_1 (nI n_1))

def m_lexer_run_137 (fu : Nat) (s : BA) : Option Int :=
  m_lexer_run_137_L1 s fu (fun p_5 => some p_5) fu 0

def m_lexer_IsIdentifier (fu : Nat) (s : BA) : Option Bool :=
  (bif ((!decide (s = ⟨#[]⟩)) && (decide ((sz s) ≤ 16))) then bd (strAt s 0) fun b_1 => bd (m_lexer_lower fu b_1) fun c_2 => (bif c_2 then bd (m_lexer_run_137 fu s) fun c_3 => (bif (c_3 == (sz s)) then bd (cat (⟨#[32]⟩) s) fun s_4 => bd (cat s_4 (⟨#[32]⟩)) fun s_5 => bd (m_strings_Contains fu (⟨#[32, 105, 102, 32, 116, 104, 101, 110, 32, 101, 108, 115, 101, 32, 111, 114, 32, 97, 110, 100, 32, 110, 111, 116, 32, 116, 114, 117, 101, 32, 102, 97, 108, 115, 101, 32, 116, 111, 100, 97, 121, 32, 115, 104, 97, 114, 101, 32, 100, 105, 118, 32, 114, 111, 117, 110, 100, 32, 109, 105, 110, 32, 109, 97, 120, 32, 112, 108, 117, 115, 32, 109, 111, 110, 116, 104, 115, 32, 100, 97, 121, 115, 32, 121, 101, 97, 114, 115, 32, 121, 101, 97, 114, 32, 109, 111, 110, 116, 104, 32, 116, 97, 98, 32, 98, 97, 110, 100, 32, 99, 111, 117, 110, 116, 32, 115, 117, 109, 32, 97, 108, 108, 32, 97, 110, 121, 32, 109, 111, 115, 116, 32, 101, 110, 117, 109, 32, 116, 97, 98, 108, 101, 32, 114, 111, 119, 32, 115, 99, 111, 112, 101, 32, 109, 101, 109, 98, 101, 114, 115, 32, 105, 110, 112, 117, 116, 32, 100, 101, 102, 32, 114, 117, 108, 101, 32, 111, 102, 32, 111, 118, 101, 114, 32, 112, 114, 105, 111, 32, 102, 114, 111, 109, 32, 116, 111, 32, 101, 110, 100, 32, 119, 104, 101, 110, 32, 105, 115, 32, 115, 114, 99, 32, 98, 111, 111, 108, 32, 105, 110, 116, 32, 109, 111, 110, 101, 121, 32, 114, 97, 116, 101, 32, 100, 97, 116, 101, 32, 100, 111, 119, 110, 32, 117, 112, 32, 122, 101, 114, 111, 32, 97, 119, 97, 121, 32, 104, 97, 108, 102, 32, 101, 118, 101, 110, 32]⟩) s_5) fun c_6 => some (!c_6) else some false) else some false) else some false)

def m_slices_Index_string_L1 (s : (List BA)) (v : BA) (k_1 : (Unit → Option Int)) : Nat → (Nat) → Option Int
  | 0, _ => none
  | fl_2 + 1, t8_1 => (bif (decide ((nI t8_1) < (ln cStr s))) then bd (ix s (nI t8_1)) fun e_3 => (bif (decide (v = e_3)) then some (nI t8_1) else cnt t8_1 (m_slices_Index_string_L1 s v k_1 fl_2 (t8_1 + 1))) else k_1 ())

def m_slices_Index_string (fu : Nat) (s : (List BA)) (v : BA) : Option Int :=
  m_slices_Index_string_L1 s v (fun p_4 => some (-1)) fu 0

def m_slices_Contains_string (fu : Nat) (s : (List BA)) (v : BA) : Option Bool :=
  bd (m_slices_Index_string fu s v) fun c_1 => some (decide (0 ≤ c_1))

def m_law_name (fu : Nat) (s : BA) (taken : (List BA)) (sectionV : Int) (item : Int) : Option MLawError :=
  bd (m_lexer_IsIdentifier fu s) fun c_1 => (bif (!c_1) then bd (m_law_bad fu 2 sectionV item 0) fun c_2 => some c_2 else bd (m_slices_Contains_string fu taken s) fun c_3 => (bif c_3 then bd (m_law_bad fu 7 sectionV item 0) fun c_4 => some c_4 else some (MLawError.mk 0 0 0 0)))

def m_law_enum_L1 (e : MEnum) (fu : Nat) (item : Int) (k_1 : (Unit → Option MLawError)) : Nat → (Nat) → Option MLawError
  | 0, _ => none
  | fl_4 + 1, t22_3 => (bif (decide ((nI t22_3) < (ln cStr e.members))) then bd (ix e.members (nI t22_3)) fun e_5 => bd (m_lexer_IsIdentifier fu e_5) fun c_6 => (bif (!c_6) then bd (m_law_bad fu 2 1 item (w64 (100 + (nI t22_3)))) fun c_7 => some c_7 else bd (sl e.members 0 (nI t22_3)) fun ys_8 => bd (m_slices_Contains_string fu ys_8 e_5) fun c_9 => (bif c_9 then bd (m_law_bad fu 7 1 item (w64 (100 + (nI t22_3)))) fun c_10 => some c_10 else cnt t22_3 (m_law_enum_L1 e fu item k_1 fl_4 (t22_3 + 1)))) else k_1 ())

def m_law_enum (fu : Nat) (e : MEnum) (item : Int) : Option MLawError :=
  (bif ((ln cStr e.members) == 0) then bd (m_law_bad fu 5 1 item 0) fun c_1 => some c_1 else (bif (decide (16 < (ln cStr e.members))) then bd (m_law_bad fu 4 1 item 116) fun c_2 => some c_2 else m_law_enum_L1 e fu item (fun p_11 => some (MLawError.mk 0 0 0 0)) fu 0))

def m_value_ValidType (fu : Nat) (t : MTy) (enums : (List MEnum)) : Option Bool :=
  (bif (t.kind == 1) then some (t.en == 0) else (bif (t.kind == 2) then some (t.en == 0) else (bif (t.kind == 3) then some (t.en == 0) else (bif (t.kind == 4) then some (t.en == 0) else (bif (t.kind == 5) then some (t.en == 0) else (bif (t.kind == 6) then some ((decide (0 ≤ t.en)) && (decide (t.en < (ln cEnum enums)))) else some false))))))

def m_value_Bounds (fu : Nat) (t : MTy) (enums : (List MEnum)) : Option (Int × Int) :=
  bd (m_value_ValidType fu t enums) fun c_1 => (bif (!c_1) then some (0, (-1)) else (bif (t.kind == 1) then some (0, 1) else (bif (t.kind == 2) then some ((-1000000000000), 1000000000000) else (bif (t.kind == 3) then some ((-1000000000000000), 1000000000000000) else (bif (t.kind == 4) then some ((-1000000000), 1000000000) else (bif (t.kind == 5) then some (0, 109572) else bd (ix enums t.en) fun e_2 => some (0, (w64 ((ln cStr e_2.members) - 1)))))))))

def m_daterange_Valid (fu : Nat) (rV : MRange) : Option Bool :=
  some (((decide (0 ≤ rV.fr)) && (decide (rV.fr ≤ rV.to))) && (decide (rV.to ≤ 109573)))

def m_table_check (fu : Nat) (rV : MRow) (t : MTable) (enums : (List MEnum)) : Option Int :=
  bd (m_value_Bounds fu t.key enums) fun c_1 => bd (m_value_Bounds fu t.val enums) fun c_2 => bd (m_daterange_Valid fu rV.valid) fun c_3 => (bif ((!c_3) || (rV.valid.fr == rV.valid.to)) then some 3 else (bif (((((decide (rV.hi ≤ rV.lo)) || (decide (rV.lo < c_1.1))) || (decide (c_1.2 < rV.lo))) || (decide ((w64 (rV.hi - 1)) < c_1.1))) || (decide (c_1.2 < (w64 (rV.hi - 1))))) then some 3 else (bif ((decide (rV.n < c_2.1)) || (decide (c_2.2 < rV.n))) then some 3 else some 0)))

def m_daterange_proper (fu : Nat) (rV : MRange) : Option Bool :=
  bd (m_daterange_Valid fu rV) fun c_1 => some (c_1 && (decide (rV.fr < rV.to)))

def m_daterange_Intersect (fu : Nat) (a : MRange) (b : MRange) : Option (MRange × Bool) :=
  bd (m_daterange_proper fu a) fun c_1 => (bif (!c_1) then some ((MRange.mk 0 0), false) else bd (m_daterange_proper fu b) fun c_2 => (bif ((!c_2) || (decide ((minI a.to b.to) ≤ (maxI a.fr b.fr)))) then some ((MRange.mk 0 0), false) else some ((MRange.mk (maxI a.fr b.fr) (minI a.to b.to)), true)))

def m_table_conflict (fu : Nat) (a : MRow) (b : MRow) : Option Bool :=
  bd (m_daterange_Intersect fu a.valid b.valid) fun c_1 => some (c_1.2 && (decide ((maxI a.lo b.lo) < (minI a.hi b.hi))))

def m_table_Validate_L2 (ys_7 : (List MRow)) (fu : Nat) (e_5 : MRow) (t30_3 : Nat) (k_2 : (Unit → Option (Int × Int))) : Nat → (Nat) → Option (Int × Int)
  | 0, _ => none
  | fl_9 + 1, t48_8 => (bif (decide ((nI t48_8) < (ln cRow ys_7))) then bd (ix ys_7 (nI t48_8)) fun e_10 => bd (m_table_conflict fu e_10 e_5) fun c_11 => (bif c_11 then some ((nI t30_3), 11) else cnt t48_8 (m_table_Validate_L2 ys_7 fu e_5 t30_3 k_2 fl_9 (t48_8 + 1))) else k_2 ())

def m_table_Validate_L1 (t : MTable) (fu : Nat) (enums : (List MEnum)) (k_1 : (Unit → Option (Int × Int))) : Nat → (Nat) → Option (Int × Int)
  | 0, _ => none
  | fl_4 + 1, t30_3 => (bif (decide ((nI t30_3) < (ln cRow t.rows))) then bd (ix t.rows (nI t30_3)) fun e_5 => bd (m_table_check fu e_5 t enums) fun c_6 => (bif (c_6 != 0) then some ((nI t30_3), c_6) else bd (sl t.rows 0 (nI t30_3)) fun ys_7 => m_table_Validate_L2 ys_7 fu e_5 t30_3 (fun p_12 => cnt t30_3 (m_table_Validate_L1 t fu enums k_1 fl_4 (t30_3 + 1))) fu 0) else k_1 ())

def m_table_Validate (fu : Nat) (t : MTable) (enums : (List MEnum)) : Option (Int × Int) :=
  (bif (decide (64 < (ln cRow t.rows))) then some (64, 4) else bd (m_value_ValidType fu t.key enums) fun c_1 => (bif (!c_1) then some ((-1), 8) else bd (m_value_ValidType fu t.val enums) fun c_2 => (bif (!c_2) then some ((-1), 8) else m_table_Validate_L1 t fu enums (fun p_13 => some (0, 0)) fu 0)))

def m_law_rows (fu : Nat) (t : MTable) (item : Int) (enums : (List MEnum)) : Option MLawError :=
  bd (m_table_Validate fu t enums) fun c_1 => (bif (c_1.2 == 0) then some (MLawError.mk 0 0 0 0) else (bif (decide (c_1.1 < 0)) then bd (m_law_bad fu c_1.2 2 item 0) fun c_2 => some c_2 else bd (m_law_bad fu c_1.2 2 item (w64 (100 + c_1.1))) fun c_3 => some c_3))

def m_law_names_L1 (l : (List MField)) (k_1 : ((List BA) → Option (List BA))) : Nat → ((List BA) × Nat) → Option (List BA)
  | 0, _ => none
  | fl_3 + 1, (out_1, t8_2) => (bif (decide ((nI t8_2) < (ln cField l))) then bd (ix l (nI t8_2)) fun e_4 => bd (ap out_1 [e_4.name]) fun z_5 => cnt t8_2 (m_law_names_L1 l k_1 fl_3 (z_5, t8_2 + 1)) else k_1 out_1)

def m_law_names (fu : Nat) (l : (List MField)) : Option (List BA) :=
  m_law_names_L1 l (fun p_6 => some p_6) fu (([] : List BA), 0)

def m_law_fields_L1 (l : (List MField)) (fu : Nat) (item : Int) (base : Int) (taken : (List BA)) (enums : (List MEnum)) (k_1 : (Unit → Option MLawError)) : Nat → (Nat) → Option MLawError
  | 0, _ => none
  | fl_2 + 1, t15_1 => (bif (decide ((nI t15_1) < (ln cField l))) then bd (ix l (nI t15_1)) fun e_3 => bd (m_lexer_IsIdentifier fu e_3.name) fun c_4 => (bif (!c_4) then bd (m_law_bad fu 2 3 item (w64 (base + (nI t15_1)))) fun c_5 => some c_5 else bd (m_slices_Contains_string fu taken e_3.name) fun c_6 => (bif c_6 then bd (m_law_bad fu 7 3 item (w64 (base + (nI t15_1)))) fun c_7 => some c_7 else bd (sl l 0 (nI t15_1)) fun ys_8 => bd (m_law_names fu ys_8) fun c_9 => bd (m_slices_Contains_string fu c_9 e_3.name) fun c_10 => (bif c_10 then bd (m_law_bad fu 7 3 item (w64 (base + (nI t15_1)))) fun c_11 => some c_11 else bd (m_value_ValidType fu e_3.ty enums) fun c_12 => (bif (!c_12) then bd (m_law_bad fu 8 3 item (w64 (base + (nI t15_1)))) fun c_13 => some c_13 else cnt t15_1 (m_law_fields_L1 l fu item base taken enums k_1 fl_2 (t15_1 + 1)))))) else k_1 ())

def m_law_fields (fu : Nat) (l : (List MField)) (taken : (List BA)) (enums : (List MEnum)) (item : Int) (base : Int) : Option MLawError :=
  m_law_fields_L1 l fu item base taken enums (fun p_14 => some (MLawError.mk 0 0 0 0)) fu 0

def m_slices_Clone_182 (fu : Nat) (xs : List BA) : Option (List BA) := ap [] xs

def m_law_enums_L1 (l : (List MEnum)) (fu : Nat) (k_1 : ((List MEnum) → Option (List MEnum))) : Nat → ((List MEnum) × Nat) → Option (List MEnum)
  | 0, _ => none
  | fl_3 + 1, (out_1, t8_2) => (bif (decide ((nI t8_2) < (ln cEnum l))) then bd (ix l (nI t8_2)) fun e_4 => bd (m_slices_Clone_182 fu e_4.members) fun c_5 => bd (ap out_1 [(MEnum.mk e_4.name c_5)]) fun z_6 => cnt t8_2 (m_law_enums_L1 l fu k_1 fl_3 (z_6, t8_2 + 1)) else k_1 out_1)

def m_law_enums (fu : Nat) (l : (List MEnum)) : Option (List MEnum) :=
  m_law_enums_L1 l fu (fun p_7 => some p_7) fu (([] : List MEnum), 0)

def m_slices_Clone_183 (fu : Nat) (xs : List MRow) : Option (List MRow) := ap [] xs

def m_law_tables_L1 (l : (List MTable)) (fu : Nat) (k_1 : ((List MTable) → Option (List MTable))) : Nat → ((List MTable) × Nat) → Option (List MTable)
  | 0, _ => none
  | fl_3 + 1, (out_1, t8_2) => (bif (decide ((nI t8_2) < (ln cTable l))) then bd (ix l (nI t8_2)) fun e_4 => bd (m_slices_Clone_183 fu e_4.rows) fun c_5 => bd (ap out_1 [(MTable.mk e_4.name e_4.key e_4.val c_5)]) fun z_6 => cnt t8_2 (m_law_tables_L1 l fu k_1 fl_3 (z_6, t8_2 + 1)) else k_1 out_1)

def m_law_tables (fu : Nat) (l : (List MTable)) : Option (List MTable) :=
  m_law_tables_L1 l fu (fun p_7 => some p_7) fu (([] : List MTable), 0)

def m_law_types_L1 (l : (List MField)) (k_1 : ((List MTy) → Option (List MTy))) : Nat → ((List MTy) × Nat) → Option (List MTy)
  | 0, _ => none
  | fl_3 + 1, (out_1, t8_2) => (bif (decide ((nI t8_2) < (ln cField l))) then bd (ix l (nI t8_2)) fun e_4 => bd (ap out_1 [e_4.ty]) fun z_5 => cnt t8_2 (m_law_types_L1 l k_1 fl_3 (z_5, t8_2 + 1)) else k_1 out_1)

def m_law_types (fu : Nat) (l : (List MField)) : Option (List MTy) :=
  m_law_types_L1 l (fun p_6 => some p_6) fu (([] : List MTy), 0)

def m_law_member (fu : Nat) (l : MLaw) (s : MScope) : Option (MScope × Bool) :=
  (bif ((decide (s.ms < 0)) || (decide ((ln cScope l.scopes) ≤ s.ms))) then some ((MScope.mk ByteArray.empty 0 ([] : List MField) ([] : List MField) ([] : List MRule)), false) else bd (ix l.scopes s.ms) fun e_1 => some (e_1, true))

def m_law_Signature (fu : Nat) (l : MLaw) (scope : Int) : Option MSignature :=
  (bif ((decide (scope < 0)) || (decide ((ln cScope l.scopes) ≤ scope))) then some (MSignature.mk ([] : List MEnum) ([] : List MTable) ([] : List MTy) ([] : List MTy) ([] : List MTy) false) else bd (ix l.scopes scope) fun e_1 => bd (m_law_enums fu l.enums) fun c_2 => bd (m_law_tables fu l.tables) fun c_3 => bd (m_law_types fu e_1.inputs) fun c_4 => bd (m_law_types fu e_1.defs) fun c_5 => bd (m_law_member fu l e_1) fun c_6 => (bif c_6.2 then bd (m_law_types fu c_6.1.defs) fun c_7 => some (MSignature.mk c_2 c_3 c_4 c_5 c_7 true) else some (MSignature.mk c_2 c_3 c_4 c_5 ([] : List MTy) false)))

def m_law_named_L1 (ys_3 : (List MRule)) (e_1 : MRule) (k_1 : (Unit → Option Int)) : Nat → (Nat) → Option Int
  | 0, _ => none
  | fl_5 + 1, t22_4 => (bif (decide ((nI t22_4) < (ln cRule ys_3))) then bd (ix ys_3 (nI t22_4)) fun e_6 => (bif (decide (e_6.name = e_1.name)) then some 7 else cnt t22_4 (m_law_named_L1 ys_3 e_1 k_1 fl_5 (t22_4 + 1))) else k_1 ())

def m_law_named (fu : Nat) (s : MScope) (i : Int) : Option Int :=
  bd (ix s.rules i) fun e_1 => bd (m_lexer_IsIdentifier fu e_1.name) fun c_2 => (bif (!c_2) then some 2 else bd (sl s.rules 0 i) fun ys_3 => m_law_named_L1 ys_3 e_1 (fun p_7 => (bif ((decide (e_1.df < 0)) || (decide ((ln cField s.defs) ≤ e_1.df))) then some 6 else (bif ((decide (e_1.parent < (-1))) || (decide (i ≤ e_1.parent))) then some 9 else (bif (decide (0 ≤ e_1.parent)) then bd (ix s.rules e_1.parent) fun e_8 => (bif (e_8.df != e_1.df) then some 9 else some 0) else some 0)))) fu 0)

def m_law_source_L1 (s : BA) (k_1 : (Unit → Option Bool)) : Nat → (Nat) → Option Bool
  | 0, _ => none
  | fl_2 + 1, t6_1 => (bif (decide ((nI t6_1) < (sz s))) then bd (strAt s (nI t6_1)) fun b_3 => (bif (decide (b_3 < 32)) then some false else bd (strAt s (nI t6_1)) fun b_4 => (bif (decide (126 < b_4)) then some false else bd (strAt s (nI t6_1)) fun b_5 => (bif (b_5 == 34) then some false else cnt t6_1 (m_law_source_L1 s k_1 fl_2 (t6_1 + 1))))) else k_1 ())

def m_law_source (fu : Nat) (s : BA) : Option Bool :=
  m_law_source_L1 s (fun p_6 => some (decide ((sz s) ≤ 64))) fu 0

def m_expr_Arity (fu : Nat) (op : Int) : Option Int :=
  (bif ((decide (op < 1)) || (decide (39 < op))) then some (-1) else (bif (op == 26) then some 3 else (bif (op == 10) then some 1 else (bif (op == 25) then some 1 else (bif (op == 31) then some 1 else (bif (op == 32) then some 1 else (bif (op == 33) then some 1 else (bif (op == 34) then some 1 else (bif (decide (op ≤ 9)) then some 0 else (bif (decide (35 ≤ op)) then some 0 else some 2))))))))))

def m_expr_starts_L1 (e : (List MNode)) (fu : Nat) (k_1 : (((List Int) × (List Int)) → Option ((List Int) × Int × Int))) : Nat → ((List Int) × (List Int) × Nat) → Option ((List Int) × Int × Int)
  | 0, _ => none
  | fl_4 + 1, (out_1, stack_2, t19_3) => (bif (decide ((nI t19_3) < (ln cNode e))) then bd (ix e (nI t19_3)) fun e_5 => bd (m_expr_Arity fu e_5.op) fun c_6 => (bif (decide (c_6 < 0)) then some (([] : List Int), (nI t19_3), 2) else (bif (decide ((ln cInt stack_2) < c_6)) then some (([] : List Int), (nI t19_3), 5) else (bif (decide (0 < c_6)) then bd (ix stack_2 (w64 ((ln cInt stack_2) - c_6))) fun e_7 => bd (sl stack_2 0 (w64 ((ln cInt stack_2) - c_6))) fun ys_8 => bd (ap ys_8 [e_7]) fun z_9 => (bif (decide (12 < (ln cInt z_9))) then some (([] : List Int), (nI t19_3), 16) else bd (ap out_1 [e_7]) fun z_10 => cnt t19_3 (m_expr_starts_L1 e fu k_1 fl_4 (z_10, z_9, t19_3 + 1))) else bd (sl stack_2 0 (w64 ((ln cInt stack_2) - c_6))) fun ys_11 => bd (ap ys_11 [(nI t19_3)]) fun z_12 => (bif (decide (12 < (ln cInt z_12))) then some (([] : List Int), (nI t19_3), 16) else bd (ap out_1 [(nI t19_3)]) fun z_13 => cnt t19_3 (m_expr_starts_L1 e fu k_1 fl_4 (z_13, z_12, t19_3 + 1)))))) else k_1 (out_1, stack_2))

def m_expr_starts (fu : Nat) (e : (List MNode)) : Option ((List Int) × Int × Int) :=
  (bif (decide (48 < (ln cNode e))) then some (([] : List Int), 0, 4) else (bif ((ln cNode e) == 0) then some (([] : List Int), 0, 5) else m_expr_starts_L1 e fu (fun p_14 => (bif (decide (1 < (ln cInt p_14.2))) then some (([] : List Int), (ln cNode e), 4) else some (p_14.1, 0, 0))) fu (([] : List Int), ([] : List Int), 0)))

def m_expr_operands_L1 (l : (List Int)) (k_1 : ((List Int) → Option (List Int))) : Nat → (Int × Int × (List Int)) → Option (List Int)
  | 0, _ => none
  | fl_7 + 1, (last_4, i_5, rw_6) => (bif (decide (0 ≤ i_5)) then bd (ix rw_6 i_5) fun e_8 => bd (ix l last_4) fun e_9 => m_expr_operands_L1 l k_1 fl_7 ((w64 (e_9 - 1)), (w64 (i_5 - 1)), (List.set rw_6 (Int.toNat i_5) last_4)) else k_1 rw_6)

def m_expr_operands (fu : Nat) (e : (List MNode)) (l : (List Int)) (atV : Int) : Option (List Int) :=
  bd (ix e atV) fun e_1 => bd (m_expr_Arity fu e_1.op) fun c_2 => bd (mkS c_2 0) fun mk_3 => m_expr_operands_L1 l (fun p_10 => some p_10) fu ((w64 (atV - 1)), (w64 (c_2 - 1)), mk_3)

def m_expr_literal (fu : Nat) (op : Int) : Option Int :=
  (bif ((decide (1 ≤ op)) && (decide (op ≤ 6))) then some op else some 0)

def m_expr_meaning (fu : Nat) (op : Int) : Option Bool :=
  (bif (op == 7) then some true else (bif (op == 8) then some true else (bif (op == 14) then some true else (bif (op == 15) then some true else (bif (op == 16) then some true else (bif (op == 33) then some true else (bif (op == 34) then some true else (bif (op == 36) then some true else (bif (op == 37) then some true else (bif (op == 38) then some true else (bif (op == 39) then some true else bd (m_expr_literal fu op) fun c_1 => some (decide (0 < c_1)))))))))))))

def m_expr_number (fu : Nat) (nV : MNode) : Option Int :=
  (bif (nV.n != 0) then bd (m_expr_meaning fu nV.op) fun c_1 => (bif (!c_1) then some 2 else (bif (nV.op == 1) then bd (m_value_Bounds fu (MTy.mk nV.op 0) ([] : List MEnum)) fun c_2 => (bif ((decide (nV.n < c_2.1)) || (decide (c_2.2 < nV.n))) then some 3 else some 0) else (bif (nV.op == 2) then bd (m_value_Bounds fu (MTy.mk nV.op 0) ([] : List MEnum)) fun c_3 => (bif ((decide (nV.n < c_3.1)) || (decide (c_3.2 < nV.n))) then some 3 else some 0) else (bif (nV.op == 3) then bd (m_value_Bounds fu (MTy.mk nV.op 0) ([] : List MEnum)) fun c_4 => (bif ((decide (nV.n < c_4.1)) || (decide (c_4.2 < nV.n))) then some 3 else some 0) else (bif (nV.op == 4) then bd (m_value_Bounds fu (MTy.mk nV.op 0) ([] : List MEnum)) fun c_5 => (bif ((decide (nV.n < c_5.1)) || (decide (c_5.2 < nV.n))) then some 3 else some 0) else (bif (nV.op == 5) then bd (m_value_Bounds fu (MTy.mk nV.op 0) ([] : List MEnum)) fun c_6 => (bif ((decide (nV.n < c_6.1)) || (decide (c_6.2 < nV.n))) then some 3 else some 0) else (bif (nV.op == 14) then (bif ((decide (nV.n < 0)) || (decide (5 < nV.n))) then some 3 else some 0) else (bif (nV.op == 15) then (bif ((decide (nV.n < 0)) || (decide (5 < nV.n))) then some 3 else some 0) else (bif (nV.op == 16) then (bif ((decide (nV.n < 0)) || (decide (5 < nV.n))) then some 3 else some 0) else (bif (nV.op == 6) then (bif (decide (nV.n < 0)) then some 3 else some 0) else (bif (nV.op == 34) then (bif ((decide (nV.n < 0)) || (decide (5 < (Int.tmod nV.n 8)))) then some 3 else some 0) else some 0))))))))))) else (bif (nV.op == 1) then bd (m_value_Bounds fu (MTy.mk nV.op 0) ([] : List MEnum)) fun c_7 => (bif ((decide (nV.n < c_7.1)) || (decide (c_7.2 < nV.n))) then some 3 else some 0) else (bif (nV.op == 2) then bd (m_value_Bounds fu (MTy.mk nV.op 0) ([] : List MEnum)) fun c_8 => (bif ((decide (nV.n < c_8.1)) || (decide (c_8.2 < nV.n))) then some 3 else some 0) else (bif (nV.op == 3) then bd (m_value_Bounds fu (MTy.mk nV.op 0) ([] : List MEnum)) fun c_9 => (bif ((decide (nV.n < c_9.1)) || (decide (c_9.2 < nV.n))) then some 3 else some 0) else (bif (nV.op == 4) then bd (m_value_Bounds fu (MTy.mk nV.op 0) ([] : List MEnum)) fun c_10 => (bif ((decide (nV.n < c_10.1)) || (decide (c_10.2 < nV.n))) then some 3 else some 0) else (bif (nV.op == 5) then bd (m_value_Bounds fu (MTy.mk nV.op 0) ([] : List MEnum)) fun c_11 => (bif ((decide (nV.n < c_11.1)) || (decide (c_11.2 < nV.n))) then some 3 else some 0) else (bif (nV.op == 14) then (bif ((decide (nV.n < 0)) || (decide (5 < nV.n))) then some 3 else some 0) else (bif (nV.op == 15) then (bif ((decide (nV.n < 0)) || (decide (5 < nV.n))) then some 3 else some 0) else (bif (nV.op == 16) then (bif ((decide (nV.n < 0)) || (decide (5 < nV.n))) then some 3 else some 0) else (bif (nV.op == 6) then (bif (decide (nV.n < 0)) then some 3 else some 0) else (bif (nV.op == 34) then (bif ((decide (nV.n < 0)) || (decide (5 < (Int.tmod nV.n 8)))) then some 3 else some 0) else some 0)))))))))))

def m_expr_at_Enum (fu : Nat) (l : (List MEnum)) (i : Int) : Option (MEnum × Int) :=
  (bif ((decide (i < 0)) || (decide ((ln cEnum l) ≤ i))) then some ((MEnum.mk ByteArray.empty ([] : List BA)), 6) else bd (ix l i) fun e_1 => some (e_1, 0))

def m_expr_at_string (fu : Nat) (l : (List BA)) (i : Int) : Option (BA × Int) :=
  (bif ((decide (i < 0)) || (decide ((ln cStr l) ≤ i))) then some (⟨#[]⟩, 6) else bd (ix l i) fun e_1 => some (e_1, 0))

def m_expr_at_Type (fu : Nat) (l : (List MTy)) (i : Int) : Option (MTy × Int) :=
  (bif ((decide (i < 0)) || (decide ((ln cTy l) ≤ i))) then some ((MTy.mk 0 0), 6) else bd (ix l i) fun e_1 => some (e_1, 0))

def m_expr_numeric (fu : Nat) (kind : Int) : Option Bool :=
  some (((kind == 2) || (kind == 3)) || (kind == 4))

def m_expr_ordered (fu : Nat) (kind : Int) : Option Bool :=
  bd (m_expr_numeric fu kind) fun c_1 => some (c_1 || (kind == 5))

def m_expr_aggregate (fu : Nat) (op : Int) (kind : Int) : Option Bool :=
  (bif (op == 36) then some ((kind == 2) || (kind == 3)) else (bif (op == 37) then some (kind == 1) else (bif (op == 38) then some (kind == 1) else (bif (op == 39) then bd (m_expr_ordered fu kind) fun c_1 => some c_1 else some true))))

def m_expr_leaf (fu : Nat) (nV : MNode) (s : MSignature) : Option (MTy × Int) :=
  (bif (nV.op == 6) then bd (m_expr_at_Enum fu s.enums (w64 (Int.tdiv nV.n 16))) fun c_1 => (bif (c_1.2 == 0) then bd (m_expr_at_string fu c_1.1.members (Int.tmod nV.n 16)) fun c_2 => (bif (c_2.2 != 0) then some ((MTy.mk 0 0), c_2.2) else some ((MTy.mk 6 (w64 (Int.tdiv nV.n 16))), 0)) else (bif (c_1.2 != 0) then some ((MTy.mk 0 0), c_1.2) else some ((MTy.mk 6 (w64 (Int.tdiv nV.n 16))), 0))) else (bif (nV.op == 7) then bd (m_expr_at_Type fu s.inputs nV.n) fun c_3 => (bif (c_3.2 != 0) then some ((MTy.mk 0 0), c_3.2) else bd (m_value_ValidType fu c_3.1 s.enums) fun c_4 => (bif (!c_4) then some ((MTy.mk 0 0), 8) else bd (m_expr_aggregate fu nV.op c_3.1.kind) fun c_5 => (bif (!c_5) then some ((MTy.mk 0 0), 8) else some (c_3.1, 0)))) else (bif (nV.op == 8) then bd (m_expr_at_Type fu s.defs nV.n) fun c_6 => (bif (c_6.2 != 0) then some ((MTy.mk 0 0), c_6.2) else bd (m_value_ValidType fu c_6.1 s.enums) fun c_7 => (bif (!c_7) then some ((MTy.mk 0 0), 8) else bd (m_expr_aggregate fu nV.op c_6.1.kind) fun c_8 => (bif (!c_8) then some ((MTy.mk 0 0), 8) else some (c_6.1, 0)))) else (bif (nV.op == 9) then some ((MTy.mk 5 0), 0) else (bif (nV.op == 35) then (bif (!s.hasMembers) then some ((MTy.mk 0 0), 6) else (bif (nV.op == 35) then some ((MTy.mk 2 0), 0) else bd (m_expr_at_Type fu s.memberDefs nV.n) fun c_9 => (bif (c_9.2 != 0) then some ((MTy.mk 0 0), c_9.2) else bd (m_value_ValidType fu c_9.1 s.enums) fun c_10 => (bif (!c_10) then some ((MTy.mk 0 0), 8) else bd (m_expr_aggregate fu nV.op c_9.1.kind) fun c_11 => (bif (!c_11) then some ((MTy.mk 0 0), 8) else some (c_9.1, 0)))))) else (bif (nV.op == 36) then (bif (!s.hasMembers) then some ((MTy.mk 0 0), 6) else (bif (nV.op == 35) then some ((MTy.mk 2 0), 0) else bd (m_expr_at_Type fu s.memberDefs nV.n) fun c_12 => (bif (c_12.2 != 0) then some ((MTy.mk 0 0), c_12.2) else bd (m_value_ValidType fu c_12.1 s.enums) fun c_13 => (bif (!c_13) then some ((MTy.mk 0 0), 8) else bd (m_expr_aggregate fu nV.op c_12.1.kind) fun c_14 => (bif (!c_14) then some ((MTy.mk 0 0), 8) else some (c_12.1, 0)))))) else (bif (nV.op == 37) then (bif (!s.hasMembers) then some ((MTy.mk 0 0), 6) else (bif (nV.op == 35) then some ((MTy.mk 2 0), 0) else bd (m_expr_at_Type fu s.memberDefs nV.n) fun c_15 => (bif (c_15.2 != 0) then some ((MTy.mk 0 0), c_15.2) else bd (m_value_ValidType fu c_15.1 s.enums) fun c_16 => (bif (!c_16) then some ((MTy.mk 0 0), 8) else bd (m_expr_aggregate fu nV.op c_15.1.kind) fun c_17 => (bif (!c_17) then some ((MTy.mk 0 0), 8) else some (c_15.1, 0)))))) else (bif (nV.op == 38) then (bif (!s.hasMembers) then some ((MTy.mk 0 0), 6) else (bif (nV.op == 35) then some ((MTy.mk 2 0), 0) else bd (m_expr_at_Type fu s.memberDefs nV.n) fun c_18 => (bif (c_18.2 != 0) then some ((MTy.mk 0 0), c_18.2) else bd (m_value_ValidType fu c_18.1 s.enums) fun c_19 => (bif (!c_19) then some ((MTy.mk 0 0), 8) else bd (m_expr_aggregate fu nV.op c_18.1.kind) fun c_20 => (bif (!c_20) then some ((MTy.mk 0 0), 8) else some (c_18.1, 0)))))) else (bif (nV.op == 39) then (bif (!s.hasMembers) then some ((MTy.mk 0 0), 6) else (bif (nV.op == 35) then some ((MTy.mk 2 0), 0) else bd (m_expr_at_Type fu s.memberDefs nV.n) fun c_21 => (bif (c_21.2 != 0) then some ((MTy.mk 0 0), c_21.2) else bd (m_value_ValidType fu c_21.1 s.enums) fun c_22 => (bif (!c_22) then some ((MTy.mk 0 0), 8) else bd (m_expr_aggregate fu nV.op c_21.1.kind) fun c_23 => (bif (!c_23) then some ((MTy.mk 0 0), 8) else some (c_21.1, 0)))))) else some ((MTy.mk nV.op 0), 0))))))))))

def m_expr_at_Table (fu : Nat) (l : (List MTable)) (i : Int) : Option (MTable × Int) :=
  (bif ((decide (i < 0)) || (decide ((ln cTable l) ≤ i))) then some ((MTable.mk ByteArray.empty (MTy.mk 0 0) (MTy.mk 0 0) ([] : List MRow)), 6) else bd (ix l i) fun e_1 => some (e_1, 0))

def m_expr_table (fu : Nat) (nV : MNode) (s : MSignature) : Option (MTable × Int) :=
  (bif (nV.op == 34) then bd (m_expr_at_Table fu s.tables (w64 (Int.tdiv nV.n 8))) fun c_1 => some (c_1.1, c_1.2) else bd (m_expr_at_Table fu s.tables nV.n) fun c_2 => some (c_2.1, c_2.2))

def m_expr_result_1 (fu : Nat) (k : Int) (ok : Bool) : Option MTy :=
  (bif (!ok) then some (MTy.mk 0 0) else some (MTy.mk k 0))

def m_expr_arithmetic (fu : Nat) (op : Int) (a : Int) (b : Int) : Option Int :=
  (bif (((op == 13) && (b == 2)) && ((a == 2) || (a == 3))) then some a else (bif (((op == 14) && (b == 4)) && ((a == 3) || (a == 4))) then some a else (bif (((op == 15) && (b == 2)) && ((a == 2) || (a == 3))) then some a else (bif (((op == 15) && (a == 3)) && (b == 3)) then some 4 else (bif (((op == 16) && (a == 3)) && (b == 3)) then some 3 else some 0)))))

def m_expr_result (fu : Nat) (op : Int) (l : (List MTy)) : Option MTy :=
  bd (ix l 0) fun e_1 => (bif (decide (1 < (ln cTy l))) then bd (ix l 1) fun e_2 => (bif (op == 10) then bd (m_expr_numeric fu e_1.kind) fun c_3 => bd (m_expr_result_1 fu e_1.kind c_3) fun c_4 => some c_4 else (bif (op == 11) then (bif ((e_1.kind == e_2.kind) && (e_1.en == e_2.en)) then bd (m_expr_numeric fu e_1.kind) fun c_5 => bd (m_expr_result_1 fu e_1.kind c_5) fun c_6 => some c_6 else bd (m_expr_result_1 fu e_1.kind false) fun c_7 => some c_7) else (bif (op == 12) then (bif ((e_1.kind == e_2.kind) && (e_1.en == e_2.en)) then bd (m_expr_numeric fu e_1.kind) fun c_8 => bd (m_expr_result_1 fu e_1.kind c_8) fun c_9 => some c_9 else bd (m_expr_result_1 fu e_1.kind false) fun c_10 => some c_10) else (bif (op == 13) then bd (m_expr_arithmetic fu op e_1.kind e_2.kind) fun c_11 => bd (m_expr_result_1 fu c_11 true) fun c_12 => some c_12 else (bif (op == 14) then bd (m_expr_arithmetic fu op e_1.kind e_2.kind) fun c_13 => bd (m_expr_result_1 fu c_13 true) fun c_14 => some c_14 else (bif (op == 15) then bd (m_expr_arithmetic fu op e_1.kind e_2.kind) fun c_15 => bd (m_expr_result_1 fu c_15 true) fun c_16 => some c_16 else (bif (op == 16) then bd (m_expr_arithmetic fu op e_1.kind e_2.kind) fun c_17 => bd (m_expr_result_1 fu c_17 true) fun c_18 => some c_18 else (bif (op == 17) then (bif ((e_1.kind == e_2.kind) && (e_1.en == e_2.en)) then bd (m_expr_ordered fu e_1.kind) fun c_19 => bd (m_expr_result_1 fu e_1.kind c_19) fun c_20 => some c_20 else bd (m_expr_result_1 fu e_1.kind false) fun c_21 => some c_21) else (bif (op == 18) then (bif ((e_1.kind == e_2.kind) && (e_1.en == e_2.en)) then bd (m_expr_ordered fu e_1.kind) fun c_22 => bd (m_expr_result_1 fu e_1.kind c_22) fun c_23 => some c_23 else bd (m_expr_result_1 fu e_1.kind false) fun c_24 => some c_24) else (bif (op == 19) then bd (m_expr_result_1 fu 1 ((e_1.kind == e_2.kind) && (e_1.en == e_2.en))) fun c_25 => some c_25 else (bif (op == 20) then bd (m_expr_result_1 fu 1 ((e_1.kind == e_2.kind) && (e_1.en == e_2.en))) fun c_26 => some c_26 else (bif (op == 21) then (bif ((e_1.kind == e_2.kind) && (e_1.en == e_2.en)) then bd (m_expr_ordered fu e_1.kind) fun c_27 => bd (m_expr_result_1 fu 1 c_27) fun c_28 => some c_28 else bd (m_expr_result_1 fu 1 false) fun c_29 => some c_29) else (bif (op == 22) then (bif ((e_1.kind == e_2.kind) && (e_1.en == e_2.en)) then bd (m_expr_ordered fu e_1.kind) fun c_30 => bd (m_expr_result_1 fu 1 c_30) fun c_31 => some c_31 else bd (m_expr_result_1 fu 1 false) fun c_32 => some c_32) else (bif (op == 23) then bd (m_expr_result_1 fu 1 ((e_1.kind == 1) && (e_2.kind == 1))) fun c_33 => some c_33 else (bif (op == 24) then bd (m_expr_result_1 fu 1 ((e_1.kind == 1) && (e_2.kind == 1))) fun c_34 => some c_34 else (bif (op == 25) then bd (m_expr_result_1 fu 1 (e_1.kind == 1)) fun c_35 => some c_35 else (bif (op == 26) then (bif (e_1.kind == 1) then bd (ix l 2) fun e_36 => (bif ((e_2.kind == e_36.kind) && (e_2.en == e_36.en)) then some e_2 else some (MTy.mk 0 0)) else some (MTy.mk 0 0)) else (bif (op == 27) then bd (m_expr_result_1 fu 5 ((e_1.kind == 5) && (e_2.kind == 2))) fun c_37 => some c_37 else (bif (op == 28) then bd (m_expr_result_1 fu 5 ((e_1.kind == 5) && (e_2.kind == 2))) fun c_38 => some c_38 else (bif (op == 29) then bd (m_expr_result_1 fu 2 ((e_1.kind == 5) && (e_2.kind == 5))) fun c_39 => some c_39 else (bif (op == 30) then bd (m_expr_result_1 fu 2 ((e_1.kind == 5) && (e_2.kind == 5))) fun c_40 => some c_40 else bd (m_expr_result_1 fu 2 (e_1.kind == 5)) fun c_41 => some c_41))))))))))))))))))))) else (bif (op == 10) then bd (m_expr_numeric fu e_1.kind) fun c_42 => bd (m_expr_result_1 fu e_1.kind c_42) fun c_43 => some c_43 else (bif (op == 11) then (bif ((e_1.kind == 0) && (e_1.en == 0)) then bd (m_expr_numeric fu e_1.kind) fun c_44 => bd (m_expr_result_1 fu e_1.kind c_44) fun c_45 => some c_45 else bd (m_expr_result_1 fu e_1.kind false) fun c_46 => some c_46) else (bif (op == 12) then (bif ((e_1.kind == 0) && (e_1.en == 0)) then bd (m_expr_numeric fu e_1.kind) fun c_47 => bd (m_expr_result_1 fu e_1.kind c_47) fun c_48 => some c_48 else bd (m_expr_result_1 fu e_1.kind false) fun c_49 => some c_49) else (bif (op == 13) then bd (m_expr_arithmetic fu op e_1.kind 0) fun c_50 => bd (m_expr_result_1 fu c_50 true) fun c_51 => some c_51 else (bif (op == 14) then bd (m_expr_arithmetic fu op e_1.kind 0) fun c_52 => bd (m_expr_result_1 fu c_52 true) fun c_53 => some c_53 else (bif (op == 15) then bd (m_expr_arithmetic fu op e_1.kind 0) fun c_54 => bd (m_expr_result_1 fu c_54 true) fun c_55 => some c_55 else (bif (op == 16) then bd (m_expr_arithmetic fu op e_1.kind 0) fun c_56 => bd (m_expr_result_1 fu c_56 true) fun c_57 => some c_57 else (bif (op == 17) then (bif ((e_1.kind == 0) && (e_1.en == 0)) then bd (m_expr_ordered fu e_1.kind) fun c_58 => bd (m_expr_result_1 fu e_1.kind c_58) fun c_59 => some c_59 else bd (m_expr_result_1 fu e_1.kind false) fun c_60 => some c_60) else (bif (op == 18) then (bif ((e_1.kind == 0) && (e_1.en == 0)) then bd (m_expr_ordered fu e_1.kind) fun c_61 => bd (m_expr_result_1 fu e_1.kind c_61) fun c_62 => some c_62 else bd (m_expr_result_1 fu e_1.kind false) fun c_63 => some c_63) else (bif (op == 19) then bd (m_expr_result_1 fu 1 ((e_1.kind == 0) && (e_1.en == 0))) fun c_64 => some c_64 else (bif (op == 20) then bd (m_expr_result_1 fu 1 ((e_1.kind == 0) && (e_1.en == 0))) fun c_65 => some c_65 else (bif (op == 21) then (bif ((e_1.kind == 0) && (e_1.en == 0)) then bd (m_expr_ordered fu e_1.kind) fun c_66 => bd (m_expr_result_1 fu 1 c_66) fun c_67 => some c_67 else bd (m_expr_result_1 fu 1 false) fun c_68 => some c_68) else (bif (op == 22) then (bif ((e_1.kind == 0) && (e_1.en == 0)) then bd (m_expr_ordered fu e_1.kind) fun c_69 => bd (m_expr_result_1 fu 1 c_69) fun c_70 => some c_70 else bd (m_expr_result_1 fu 1 false) fun c_71 => some c_71) else (bif (op == 23) then bd (m_expr_result_1 fu 1 false) fun c_72 => some c_72 else (bif (op == 24) then bd (m_expr_result_1 fu 1 false) fun c_73 => some c_73 else (bif (op == 25) then bd (m_expr_result_1 fu 1 (e_1.kind == 1)) fun c_74 => some c_74 else (bif (op == 26) then (bif (e_1.kind == 1) then bd (ix l 2) fun e_75 => (bif ((0 == e_75.kind) && (0 == e_75.en)) then some (MTy.mk 0 0) else some (MTy.mk 0 0)) else some (MTy.mk 0 0)) else (bif (op == 27) then bd (m_expr_result_1 fu 5 false) fun c_76 => some c_76 else (bif (op == 28) then bd (m_expr_result_1 fu 5 false) fun c_77 => some c_77 else (bif (op == 29) then bd (m_expr_result_1 fu 2 false) fun c_78 => some c_78 else (bif (op == 30) then bd (m_expr_result_1 fu 2 false) fun c_79 => some c_79 else bd (m_expr_result_1 fu 2 (e_1.kind == 5)) fun c_80 => some c_80))))))))))))))))))))))

def m_expr_typeOf (fu : Nat) (nV : MNode) (l : (List MTy)) (s : MSignature) : Option (MTy × Int) :=
  bd (m_expr_number fu nV) fun c_1 => (bif (c_1 != 0) then some ((MTy.mk 0 0), c_1) else (bif ((ln cTy l) == 0) then bd (m_expr_leaf fu nV s) fun c_2 => some (c_2.1, c_2.2) else (bif ((nV.op == 33) || (nV.op == 34)) then bd (m_expr_table fu nV s) fun c_3 => (bif (c_3.2 != 0) then some ((MTy.mk 0 0), c_3.2) else bd (m_value_ValidType fu c_3.1.key s.enums) fun c_4 => (bif (!c_4) then some ((MTy.mk 0 0), 8) else bd (m_value_ValidType fu c_3.1.val s.enums) fun c_5 => (bif (!c_5) then some ((MTy.mk 0 0), 8) else bd (ix l 0) fun e_6 => (bif (!((e_6.kind == c_3.1.key.kind) && (e_6.en == c_3.1.key.en))) then some ((MTy.mk 0 0), 8) else (bif (nV.op == 33) then some (c_3.1.val, 0) else (bif ((c_3.1.key.kind != 3) || (c_3.1.val.kind != 4)) then some ((MTy.mk 0 0), 8) else some ((MTy.mk 3 0), 0))))))) else bd (m_expr_result fu nV.op l) fun c_7 => (bif (c_7.kind == 0) then some (c_7, 8) else some (c_7, 0)))))

def m_expr_TypeOf_L2 (c_7 : (List Int)) (rw_4 : (List MTy)) (k_2 : ((List MTy) → Option (MTy × Int × Int))) : Nat → ((List MTy) × Nat) → Option (MTy × Int × Int)
  | 0, _ => none
  | fl_10 + 1, (args_8, t44_9) => (bif (decide ((nI t44_9) < (ln cInt c_7))) then bd (ix c_7 (nI t44_9)) fun e_11 => bd (ix rw_4 e_11) fun e_12 => bd (ap args_8 [e_12]) fun z_13 => cnt t44_9 (m_expr_TypeOf_L2 c_7 rw_4 k_2 fl_10 (z_13, t44_9 + 1)) else k_2 args_8)

def m_expr_TypeOf_L1 (e : (List MNode)) (fu : Nat) (c_1 : ((List Int) × Int × Int)) (s : MSignature) (k_1 : ((List MTy) → Option (MTy × Int × Int))) : Nat → (Nat × (List MTy)) → Option (MTy × Int × Int)
  | 0, _ => none
  | fl_5 + 1, (t34_3, rw_4) => (bif (decide ((nI t34_3) < (ln cNode e))) then bd (ix e (nI t34_3)) fun e_6 => bd (m_expr_operands fu e c_1.1 (nI t34_3)) fun c_7 => m_expr_TypeOf_L2 c_7 rw_4 (fun p_14 => bd (m_expr_typeOf fu e_6 p_14 s) fun c_15 => (bif (c_15.2 != 0) then some ((MTy.mk 0 0), (nI t34_3), c_15.2) else bd (ix rw_4 (nI t34_3)) fun e_16 => cnt t34_3 (m_expr_TypeOf_L1 e fu c_1 s k_1 fl_5 (t34_3 + 1, (List.set rw_4 (Int.toNat (nI t34_3)) c_15.1))))) fu (([] : List MTy), 0) else k_1 rw_4)

def m_expr_TypeOf (fu : Nat) (e : (List MNode)) (s : MSignature) : Option (MTy × Int × Int) :=
  bd (m_expr_starts fu e) fun c_1 => (bif (c_1.2.2 != 0) then some ((MTy.mk 0 0), c_1.2.1, c_1.2.2) else bd (mkS (ln cNode e) (MTy.mk 0 0)) fun mk_2 => m_expr_TypeOf_L1 e fu c_1 s (fun p_17 => bd (ix p_17 (w64 ((ln cNode e) - 1))) fun e_18 => some (e_18, 0, 0)) fu (0, mk_2))

def m_law_expression (fu : Nat) (e : (List MNode)) (sig : MSignature) (want : MTy) : Option Int :=
  bd (m_expr_TypeOf fu e sig) fun c_1 => (bif ((c_1.2.2 == 0) && (!((c_1.1.kind == want.kind) && (c_1.1.en == want.en)))) then some 8 else some c_1.2.2)

def m_law_rule_L1 (ys_3 : (List MRule)) (e_2 : MRule) (k_1 : (Int → Option Int)) : Nat → (Int × Nat) → Option Int
  | 0, _ => none
  | fl_6 + 1, (same_4, t29_5) => (bif (decide ((nI t29_5) < (ln cRule ys_3))) then bd (ix ys_3 (nI t29_5)) fun e_7 => (bif (e_7.df == e_2.df) then cnt t29_5 (m_law_rule_L1 ys_3 e_2 k_1 fl_6 ((w64 (same_4 + 1)), t29_5 + 1)) else cnt t29_5 (m_law_rule_L1 ys_3 e_2 k_1 fl_6 (same_4, t29_5 + 1))) else k_1 same_4)

def m_law_rule (fu : Nat) (s : MScope) (i : Int) (sig : MSignature) : Option Int :=
  bd (m_law_named fu s i) fun c_1 => (bif (c_1 != 0) then some c_1 else bd (ix s.rules i) fun e_2 => bd (sl s.rules 0 i) fun ys_3 => m_law_rule_L1 ys_3 e_2 (fun p_8 => (bif (((((decide (e_2.prio < 0)) || (decide (9 < e_2.prio))) || (decide (e_2.valid.fr < 0))) || (decide (e_2.valid.to ≤ e_2.valid.fr))) || (decide (109573 < e_2.valid.to))) then some 3 else (bif (decide (8 ≤ p_8)) then some 4 else bd (m_law_source fu e_2.source) fun c_9 => (bif (!c_9) then some 2 else (bif (decide (0 < (ln cNode e_2.guard))) then bd (m_law_expression fu e_2.guard sig (MTy.mk 1 0)) fun c_10 => (bif (c_10 != 0) then some c_10 else bd (ix s.defs e_2.df) fun e_11 => bd (m_law_expression fu e_2.value sig e_11.ty) fun c_12 => some c_12) else bd (ix s.defs e_2.df) fun e_13 => bd (m_law_expression fu e_2.value sig e_13.ty) fun c_14 => some c_14))))) fu (0, 0))

def m_deps_valid (fu : Nat) (s : MScope) (defV : Int) : Option Bool :=
  some ((decide (0 ≤ defV)) && (decide (defV < (ln cField s.defs))))

def m_expr_References_1 (fu : Nat) (l : (List Int)) : Option (List Int) :=
  bd (m_slices_Sort_int fu l) fun c_1 => bd (m_slices_Compact_int fu c_1) fun c_2 => some c_2

def m_expr_References_L1 (e : (List MNode)) (k_1 : (((List Int) × (List Int) × (List Int)) → Option ((List Int) × (List Int) × (List Int)))) : Nat → ((List Int) × (List Int) × (List Int) × Nat) → Option ((List Int) × (List Int) × (List Int))
  | 0, _ => none
  | fl_5 + 1, (inputs_1, defs_2, members_3, t13_4) => (bif (decide ((nI t13_4) < (ln cNode e))) then bd (ix e (nI t13_4)) fun e_6 => (bif (e_6.op == 7) then bd (ap inputs_1 [e_6.n]) fun z_7 => cnt t13_4 (m_expr_References_L1 e k_1 fl_5 (z_7, defs_2, members_3, t13_4 + 1)) else (bif (e_6.op == 8) then bd (ap defs_2 [e_6.n]) fun z_8 => cnt t13_4 (m_expr_References_L1 e k_1 fl_5 (inputs_1, z_8, members_3, t13_4 + 1)) else (bif (e_6.op == 36) then bd (ap members_3 [e_6.n]) fun z_9 => cnt t13_4 (m_expr_References_L1 e k_1 fl_5 (inputs_1, defs_2, z_9, t13_4 + 1)) else (bif (e_6.op == 37) then bd (ap members_3 [e_6.n]) fun z_10 => cnt t13_4 (m_expr_References_L1 e k_1 fl_5 (inputs_1, defs_2, z_10, t13_4 + 1)) else (bif (e_6.op == 38) then bd (ap members_3 [e_6.n]) fun z_11 => cnt t13_4 (m_expr_References_L1 e k_1 fl_5 (inputs_1, defs_2, z_11, t13_4 + 1)) else (bif (e_6.op == 39) then bd (ap members_3 [e_6.n]) fun z_12 => cnt t13_4 (m_expr_References_L1 e k_1 fl_5 (inputs_1, defs_2, z_12, t13_4 + 1)) else cnt t13_4 (m_expr_References_L1 e k_1 fl_5 (inputs_1, defs_2, members_3, t13_4 + 1)))))))) else k_1 (inputs_1, defs_2, members_3))

def m_expr_References (fu : Nat) (e : (List MNode)) : Option ((List Int) × (List Int) × (List Int)) :=
  m_expr_References_L1 e (fun p_13 => bd (m_expr_References_1 fu p_13.1) fun c_14 => bd (m_expr_References_1 fu p_13.2.1) fun c_15 => bd (m_expr_References_1 fu p_13.2.2) fun c_16 => some (c_14, c_15, c_16)) fu (([] : List Int), ([] : List Int), ([] : List Int), 0)

def m_deps_Direct_L3 (c_10 : ((List Int) × (List Int) × (List Int))) (fu : Nat) (s : MScope) (k_3 : ((List Int) → Option (List Int))) : Nat → ((List Int) × Nat) → Option (List Int)
  | 0, _ => none
  | fl_13 + 1, (out_11, t48_12) => (bif (decide ((nI t48_12) < (ln cInt c_10.2.1))) then bd (ix c_10.2.1 (nI t48_12)) fun e_14 => bd (m_deps_valid fu s e_14) fun c_15 => (bif c_15 then bd (ap out_11 [e_14]) fun z_16 => cnt t48_12 (m_deps_Direct_L3 c_10 fu s k_3 fl_13 (z_16, t48_12 + 1)) else cnt t48_12 (m_deps_Direct_L3 c_10 fu s k_3 fl_13 (out_11, t48_12 + 1))) else k_3 out_11)

def m_deps_Direct_L2 (e_5 : MRule) (fu : Nat) (s : MScope) (k_2 : ((List Int) → Option (List Int))) : Nat → ((List Int) × Nat) → Option (List Int)
  | 0, _ => none
  | fl_8 + 1, (out_6, t36_7) => (bif (decide ((nI t36_7) < (ln (cSlc 2 cNode) [e_5.guard, e_5.value]))) then bd (ix [e_5.guard, e_5.value] (nI t36_7)) fun e_9 => bd (m_expr_References fu e_9) fun c_10 => m_deps_Direct_L3 c_10 fu s (fun p_17 => cnt t36_7 (m_deps_Direct_L2 e_5 fu s k_2 fl_8 (p_17, t36_7 + 1))) fu (out_6, 0) else k_2 out_6)

def m_deps_Direct_L1 (s : MScope) (defV : Int) (fu : Nat) (k_1 : ((List Int) → Option (List Int))) : Nat → ((List Int) × Nat) → Option (List Int)
  | 0, _ => none
  | fl_4 + 1, (out_2, t22_3) => (bif (decide ((nI t22_3) < (ln cRule s.rules))) then bd (ix s.rules (nI t22_3)) fun e_5 => (bif (e_5.df != defV) then cnt t22_3 (m_deps_Direct_L1 s defV fu k_1 fl_4 (out_2, t22_3 + 1)) else m_deps_Direct_L2 e_5 fu s (fun p_18 => cnt t22_3 (m_deps_Direct_L1 s defV fu k_1 fl_4 (p_18, t22_3 + 1))) fu (out_2, 0)) else k_1 out_2)

def m_deps_Direct (fu : Nat) (s : MScope) (defV : Int) : Option (List Int) :=
  bd (m_deps_valid fu s defV) fun c_1 => (bif (!c_1) then some ([] : List Int) else m_deps_Direct_L1 s defV fu (fun p_19 => bd (m_slices_Sort_int fu p_19) fun c_20 => bd (m_slices_Compact_int fu c_20) fun c_21 => some c_21) fu (([] : List Int), 0))

def m_deps_Transitive_L2 (p_16 : (List Bool)) (k_2 : ((List Int) → Option (List Int))) : Nat → ((List Int) × Nat) → Option (List Int)
  | 0, _ => none
  | fl_19 + 1, (out_17, t47_18) => (bif (decide ((nI t47_18) < (ln cBool p_16))) then bd (ix p_16 (nI t47_18)) fun e_20 => (bif e_20 then bd (ap out_17 [(nI t47_18)]) fun z_21 => cnt t47_18 (m_deps_Transitive_L2 p_16 k_2 fl_19 (z_21, t47_18 + 1)) else cnt t47_18 (m_deps_Transitive_L2 p_16 k_2 fl_19 (out_17, t47_18 + 1))) else k_2 out_17)

def m_deps_Transitive_L1 (fu : Nat) (s : MScope) (k_1 : ((List Bool) → Option (List Int))) : Nat → ((List Int) × (List Bool)) → Option (List Int)
  | 0, _ => none
  | fl_6 + 1, (todo_4, rw_5) => (bif (decide (0 < (ln cInt todo_4))) then bd (ix todo_4 0) fun e_7 => bd (ix rw_5 e_7) fun e_8 => (bif (!e_8) then bd (ix todo_4 0) fun e_9 => bd (ix rw_5 e_9) fun e_10 => bd (ix todo_4 0) fun e_11 => bd (m_deps_Direct fu s e_11) fun c_12 => bd (ap todo_4 c_12) fun z_13 => bd (sl z_13 1 (ln cInt z_13)) fun ys_14 => m_deps_Transitive_L1 fu s k_1 fl_6 (ys_14, (List.set rw_5 (Int.toNat e_9) true)) else bd (sl todo_4 1 (ln cInt todo_4)) fun ys_15 => m_deps_Transitive_L1 fu s k_1 fl_6 (ys_15, rw_5)) else k_1 rw_5)

def m_deps_Transitive (fu : Nat) (s : MScope) (defV : Int) : Option (List Int) :=
  bd (m_deps_valid fu s defV) fun c_1 => (bif (!c_1) then some ([] : List Int) else bd (mkS (ln cField s.defs) false) fun mk_2 => bd (m_deps_Direct fu s defV) fun c_3 => m_deps_Transitive_L1 fu s (fun p_16 => m_deps_Transitive_L2 p_16 (fun p_22 => some p_22) fu (([] : List Int), 0)) fu (c_3, mk_2))

def m_slices_Index_int_L1 (s : (List Int)) (v : Int) (k_1 : (Unit → Option Int)) : Nat → (Nat) → Option Int
  | 0, _ => none
  | fl_2 + 1, t8_1 => (bif (decide ((nI t8_1) < (ln cInt s))) then bd (ix s (nI t8_1)) fun e_3 => (bif (v == e_3) then some (nI t8_1) else cnt t8_1 (m_slices_Index_int_L1 s v k_1 fl_2 (t8_1 + 1))) else k_1 ())

def m_slices_Index_int (fu : Nat) (s : (List Int)) (v : Int) : Option Int :=
  m_slices_Index_int_L1 s v (fun p_4 => some (-1)) fu 0

def m_slices_Contains_int (fu : Nat) (s : (List Int)) (v : Int) : Option Bool :=
  bd (m_slices_Index_int fu s v) fun c_1 => some (decide (0 ≤ c_1))

def m_law_scope_L2 (e_1 : MScope) (fu : Nat) (item : Int) (k_2 : (Unit → Option MLawError)) : Nat → (Nat) → Option MLawError
  | 0, _ => none
  | fl_17 + 1, t101_16 => (bif (decide ((nI t101_16) < (ln cField e_1.defs))) then bd (m_deps_Transitive fu e_1 (nI t101_16)) fun c_18 => bd (m_slices_Contains_int fu c_18 (nI t101_16)) fun c_19 => (bif c_19 then bd (m_law_bad fu 9 3 item (w64 (200 + (nI t101_16)))) fun c_20 => some c_20 else cnt t101_16 (m_law_scope_L2 e_1 fu item k_2 fl_17 (t101_16 + 1))) else k_2 ())

def m_law_scope_L1 (e_1 : MScope) (fu : Nat) (c_10 : MSignature) (item : Int) (k_1 : (Unit → Option MLawError)) : Nat → (Nat) → Option MLawError
  | 0, _ => none
  | fl_12 + 1, t83_11 => (bif (decide ((nI t83_11) < (ln cRule e_1.rules))) then bd (m_law_rule fu e_1 (nI t83_11) c_10) fun c_13 => (bif (c_13 != 0) then bd (m_law_bad fu c_13 3 item (w64 (300 + (nI t83_11)))) fun c_14 => some c_14 else cnt t83_11 (m_law_scope_L1 e_1 fu c_10 item k_1 fl_12 (t83_11 + 1))) else k_1 ())

def m_law_scope_L4 (e_1 : MScope) (fu : Nat) (item : Int) (k_4 : (Unit → Option MLawError)) : Nat → (Nat) → Option MLawError
  | 0, _ => none
  | fl_34 + 1, t101_33 => (bif (decide ((nI t101_33) < (ln cField e_1.defs))) then bd (m_deps_Transitive fu e_1 (nI t101_33)) fun c_35 => bd (m_slices_Contains_int fu c_35 (nI t101_33)) fun c_36 => (bif c_36 then bd (m_law_bad fu 9 3 item (w64 (200 + (nI t101_33)))) fun c_37 => some c_37 else cnt t101_33 (m_law_scope_L4 e_1 fu item k_4 fl_34 (t101_33 + 1))) else k_4 ())

def m_law_scope_L3 (e_1 : MScope) (fu : Nat) (c_27 : MSignature) (item : Int) (k_3 : (Unit → Option MLawError)) : Nat → (Nat) → Option MLawError
  | 0, _ => none
  | fl_29 + 1, t83_28 => (bif (decide ((nI t83_28) < (ln cRule e_1.rules))) then bd (m_law_rule fu e_1 (nI t83_28) c_27) fun c_30 => (bif (c_30 != 0) then bd (m_law_bad fu c_30 3 item (w64 (300 + (nI t83_28)))) fun c_31 => some c_31 else cnt t83_28 (m_law_scope_L3 e_1 fu c_27 item k_3 fl_29 (t83_28 + 1))) else k_3 ())

def m_law_scope (fu : Nat) (l : MLaw) (item : Int) : Option MLawError :=
  bd (ix l.scopes item) fun e_1 => (bif (e_1.ms != (-1)) then (bif ((decide (e_1.ms < 0)) || (decide (item ≤ e_1.ms))) then bd (m_law_bad fu 6 3 item 0) fun c_2 => some c_2 else bd (ix l.scopes e_1.ms) fun e_3 => (bif (e_3.ms != (-1)) then bd (m_law_bad fu 6 3 item 0) fun c_4 => some c_4 else (bif (decide (12 < (ln cField e_1.inputs))) then bd (m_law_bad fu 4 3 item 112) fun c_5 => some c_5 else (bif (decide (12 < (ln cField e_1.defs))) then bd (m_law_bad fu 4 3 item 212) fun c_6 => some c_6 else bd (m_law_fields fu e_1.inputs ([] : List BA) l.enums item 100) fun c_7 => (bif (c_7.code != 0) then some c_7 else bd (m_law_names fu e_1.inputs) fun c_8 => bd (m_law_fields fu e_1.defs c_8 l.enums item 200) fun c_9 => (bif (c_9.code != 0) then some c_9 else bd (m_law_Signature fu l item) fun c_10 => m_law_scope_L1 e_1 fu c_10 item (fun p_15 => m_law_scope_L2 e_1 fu item (fun p_21 => some (MLawError.mk 0 0 0 0)) fu 0) fu 0)))))) else (bif (decide (12 < (ln cField e_1.inputs))) then bd (m_law_bad fu 4 3 item 112) fun c_22 => some c_22 else (bif (decide (12 < (ln cField e_1.defs))) then bd (m_law_bad fu 4 3 item 212) fun c_23 => some c_23 else bd (m_law_fields fu e_1.inputs ([] : List BA) l.enums item 100) fun c_24 => (bif (c_24.code != 0) then some c_24 else bd (m_law_names fu e_1.inputs) fun c_25 => bd (m_law_fields fu e_1.defs c_25 l.enums item 200) fun c_26 => (bif (c_26.code != 0) then some c_26 else bd (m_law_Signature fu l item) fun c_27 => m_law_scope_L3 e_1 fu c_27 item (fun p_32 => m_law_scope_L4 e_1 fu item (fun p_38 => some (MLawError.mk 0 0 0 0)) fu 0) fu 0)))))

def m_law_Validate_L3 (l : MLaw) (fu : Nat) (k_3 : (Unit → Option MLawError)) : Nat → ((List BA) × Nat) → Option MLawError
  | 0, _ => none
  | fl_22 + 1, (taken_20, t96_21) => (bif (decide ((nI t96_21) < (ln cScope l.scopes))) then bd (ix l.scopes (nI t96_21)) fun e_23 => bd (m_law_name fu e_23.name taken_20 3 (nI t96_21)) fun c_24 => (bif (c_24.code != 0) then some c_24 else bd (ap taken_20 [e_23.name]) fun z_25 => bd (m_law_scope fu l (nI t96_21)) fun c_26 => (bif (c_26.code != 0) then some c_26 else cnt t96_21 (m_law_Validate_L3 l fu k_3 fl_22 (z_25, t96_21 + 1)))) else k_3 ())

def m_law_Validate_L2 (l : MLaw) (fu : Nat) (k_2 : ((List BA) → Option MLawError)) : Nat → ((List BA) × Nat) → Option MLawError
  | 0, _ => none
  | fl_13 + 1, (taken_11, t59_12) => (bif (decide ((nI t59_12) < (ln cTable l.tables))) then bd (ix l.tables (nI t59_12)) fun e_14 => bd (m_law_name fu e_14.name taken_11 2 (nI t59_12)) fun c_15 => (bif (c_15.code != 0) then some c_15 else bd (ap taken_11 [e_14.name]) fun z_16 => bd (m_law_rows fu e_14 (nI t59_12) l.enums) fun c_17 => (bif (c_17.code != 0) then some c_17 else cnt t59_12 (m_law_Validate_L2 l fu k_2 fl_13 (z_16, t59_12 + 1)))) else k_2 taken_11)

def m_law_Validate_L1 (l : MLaw) (fu : Nat) (k_1 : ((List BA) → Option MLawError)) : Nat → ((List BA) × Nat) → Option MLawError
  | 0, _ => none
  | fl_4 + 1, (taken_2, t24_3) => (bif (decide ((nI t24_3) < (ln cEnum l.enums))) then bd (ix l.enums (nI t24_3)) fun e_5 => bd (m_law_name fu e_5.name taken_2 1 (nI t24_3)) fun c_6 => (bif (c_6.code != 0) then some c_6 else bd (ap taken_2 [e_5.name]) fun z_7 => bd (m_law_enum fu e_5 (nI t24_3)) fun c_8 => (bif (c_8.code != 0) then some c_8 else cnt t24_3 (m_law_Validate_L1 l fu k_1 fl_4 (z_7, t24_3 + 1)))) else k_1 taken_2)

def m_law_Validate (fu : Nat) (l : MLaw) : Option MLawError :=
  (bif (decide (8 < (ln cEnum l.enums))) then bd (m_law_bad fu 4 1 8 0) fun c_1 => some c_1 else m_law_Validate_L1 l fu (fun p_9 => (bif (decide (8 < (ln cTable l.tables))) then bd (m_law_bad fu 4 2 8 0) fun c_10 => some c_10 else m_law_Validate_L2 l fu (fun p_18 => (bif (decide (4 < (ln cScope l.scopes))) then bd (m_law_bad fu 4 3 4 0) fun c_19 => some c_19 else m_law_Validate_L3 l fu (fun p_27 => some (MLawError.mk 0 0 0 0)) fu (p_18, 0))) fu (p_9, 0))) fu (([] : List BA), 0))

def m_slices_Clone_155 (fu : Nat) (xs : List MField) : Option (List MField) := ap [] xs

def m_slices_Clone_156 (fu : Nat) (xs : List MNode) : Option (List MNode) := ap [] xs

def m_law_Clone_L2 (e_6 : MScope) (fu : Nat) (k_2 : ((List MRule) → Option ((List MEnum) × (List MTable) × (List MScope)))) : Nat → ((List MRule) × Nat) → Option ((List MEnum) × (List MTable) × (List MScope))
  | 0, _ => none
  | fl_11 + 1, (rules_9, t34_10) => (bif (decide ((nI t34_10) < (ln cRule e_6.rules))) then bd (ix e_6.rules (nI t34_10)) fun e_12 => bd (m_slices_Clone_156 fu e_12.guard) fun c_13 => bd (m_slices_Clone_156 fu e_12.value) fun c_14 => bd (ap rules_9 [(MRule.mk e_12.name e_12.df e_12.parent e_12.prio e_12.valid c_13 c_14 e_12.source)]) fun z_15 => cnt t34_10 (m_law_Clone_L2 e_6 fu k_2 fl_11 (z_15, t34_10 + 1)) else k_2 rules_9)

def m_law_Clone_L1 (l : MLaw) (fu : Nat) (k_1 : ((List MScope) → Option ((List MEnum) × (List MTable) × (List MScope)))) : Nat → (Nat × (List MScope)) → Option ((List MEnum) × (List MTable) × (List MScope))
  | 0, _ => none
  | fl_5 + 1, (t19_3, lf_4) => (bif (decide ((nI t19_3) < (ln cScope l.scopes))) then bd (ix l.scopes (nI t19_3)) fun e_6 => bd (m_slices_Clone_155 fu e_6.inputs) fun c_7 => bd (m_slices_Clone_155 fu e_6.defs) fun c_8 => m_law_Clone_L2 e_6 fu (fun p_16 => bd (ap lf_4 [(MScope.mk e_6.name e_6.ms c_7 c_8 p_16)]) fun z_17 => cnt t19_3 (m_law_Clone_L1 l fu k_1 fl_5 (t19_3 + 1, z_17))) fu (([] : List MRule), 0) else k_1 lf_4)

def m_law_Clone (fu : Nat) (l : MLaw) : Option ((List MEnum) × (List MTable) × (List MScope)) :=
  bd (m_law_enums fu l.enums) fun c_1 => bd (m_law_tables fu l.tables) fun c_2 => m_law_Clone_L1 l fu (fun p_18 => some (c_1, c_2, p_18)) fu (0, ([] : List MScope))

def m_lawdiff_interfaceOf_L1 (c_1 : ((List MEnum) × (List MTable) × (List MScope))) (k_1 : ((List MScope) → Option MLaw)) : Nat → (Nat × (List MScope)) → Option MLaw
  | 0, _ => none
  | fl_4 + 1, (t10_2, rw_3) => (bif (decide ((nI t10_2) < (ln cScope c_1.2.2))) then bd (ix rw_3 (nI t10_2)) fun e_5 => cnt t10_2 (m_lawdiff_interfaceOf_L1 c_1 k_1 fl_4 (t10_2 + 1, (List.set rw_3 (Int.toNat (nI t10_2)) (MScope.mk e_5.name e_5.ms e_5.inputs e_5.defs ([] : List MRule))))) else k_1 rw_3)

def m_lawdiff_interfaceOf (fu : Nat) (l : MLaw) : Option MLaw :=
  bd (m_law_Clone fu l) fun c_1 => m_lawdiff_interfaceOf_L1 c_1 (fun p_6 => some (MLaw.mk c_1.1 c_1.2.1 p_6)) fu (0, c_1.2.2)

def m_slices_Equal_string_L1 (s1 : (List BA)) (s2 : (List BA)) (k_1 : (Unit → Option Bool)) : Nat → (Nat) → Option Bool
  | 0, _ => none
  | fl_2 + 1, t13_1 => (bif (decide ((nI t13_1) < (ln cStr s1))) then bd (ix s1 (nI t13_1)) fun e_3 => bd (ix s2 (nI t13_1)) fun e_4 => (bif (!decide (e_3 = e_4)) then some false else cnt t13_1 (m_slices_Equal_string_L1 s1 s2 k_1 fl_2 (t13_1 + 1))) else k_1 ())

def m_slices_Equal_string (fu : Nat) (s1 : (List BA)) (s2 : (List BA)) : Option Bool :=
  (bif ((ln cStr s1) != (ln cStr s2)) then some false else m_slices_Equal_string_L1 s1 s2 (fun p_5 => some true) fu 0)

def m_law_sameEnum (fu : Nat) (a : MEnum) (b : MEnum) : Option Bool :=
  (bif (decide (a.name = b.name)) then bd (m_slices_Equal_string fu a.members b.members) fun c_1 => some c_1 else some false)

def m_slices_Equal_Row_L1 (s1 : (List MRow)) (s2 : (List MRow)) (k_1 : (Unit → Option Bool)) : Nat → (Nat) → Option Bool
  | 0, _ => none
  | fl_2 + 1, t13_1 => (bif (decide ((nI t13_1) < (ln cRow s1))) then bd (ix s1 (nI t13_1)) fun e_3 => bd (ix s2 (nI t13_1)) fun e_4 => (bif (!((e_3.valid.fr == e_4.valid.fr) && ((e_3.valid.to == e_4.valid.to) && ((e_3.lo == e_4.lo) && ((e_3.hi == e_4.hi) && (e_3.n == e_4.n)))))) then some false else cnt t13_1 (m_slices_Equal_Row_L1 s1 s2 k_1 fl_2 (t13_1 + 1))) else k_1 ())

def m_slices_Equal_Row (fu : Nat) (s1 : (List MRow)) (s2 : (List MRow)) : Option Bool :=
  (bif ((ln cRow s1) != (ln cRow s2)) then some false else m_slices_Equal_Row_L1 s1 s2 (fun p_5 => some true) fu 0)

def m_law_sameTable (fu : Nat) (a : MTable) (b : MTable) : Option Bool :=
  (bif (((decide (a.name = b.name)) && ((a.key.kind == b.key.kind) && (a.key.en == b.key.en))) && ((a.val.kind == b.val.kind) && (a.val.en == b.val.en))) then bd (m_slices_Equal_Row fu a.rows b.rows) fun c_1 => some c_1 else some false)

def m_slices_Equal_Field_L1 (s1 : (List MField)) (s2 : (List MField)) (k_1 : (Unit → Option Bool)) : Nat → (Nat) → Option Bool
  | 0, _ => none
  | fl_2 + 1, t13_1 => (bif (decide ((nI t13_1) < (ln cField s1))) then bd (ix s1 (nI t13_1)) fun e_3 => bd (ix s2 (nI t13_1)) fun e_4 => (bif (!((decide (e_3.name = e_4.name)) && ((e_3.ty.kind == e_4.ty.kind) && (e_3.ty.en == e_4.ty.en)))) then some false else cnt t13_1 (m_slices_Equal_Field_L1 s1 s2 k_1 fl_2 (t13_1 + 1))) else k_1 ())

def m_slices_Equal_Field (fu : Nat) (s1 : (List MField)) (s2 : (List MField)) : Option Bool :=
  (bif ((ln cField s1) != (ln cField s2)) then some false else m_slices_Equal_Field_L1 s1 s2 (fun p_5 => some true) fu 0)

def m_slices_Equal_Node_L1 (s1 : (List MNode)) (s2 : (List MNode)) (k_1 : (Unit → Option Bool)) : Nat → (Nat) → Option Bool
  | 0, _ => none
  | fl_2 + 1, t13_1 => (bif (decide ((nI t13_1) < (ln cNode s1))) then bd (ix s1 (nI t13_1)) fun e_3 => bd (ix s2 (nI t13_1)) fun e_4 => (bif (!((e_3.op == e_4.op) && (e_3.n == e_4.n))) then some false else cnt t13_1 (m_slices_Equal_Node_L1 s1 s2 k_1 fl_2 (t13_1 + 1))) else k_1 ())

def m_slices_Equal_Node (fu : Nat) (s1 : (List MNode)) (s2 : (List MNode)) : Option Bool :=
  (bif ((ln cNode s1) != (ln cNode s2)) then some false else m_slices_Equal_Node_L1 s1 s2 (fun p_5 => some true) fu 0)

def m_law_sameRule (fu : Nat) (a : MRule) (b : MRule) : Option Bool :=
  (bif (((((decide (a.name = b.name)) && (a.df == b.df)) && (a.parent == b.parent)) && (a.prio == b.prio)) && ((a.valid.fr == b.valid.fr) && (a.valid.to == b.valid.to))) then bd (m_slices_Equal_Node fu a.guard b.guard) fun c_1 => (bif c_1 then bd (m_slices_Equal_Node fu a.value b.value) fun c_2 => some (c_2 && (decide (a.source = b.source))) else some false) else some false)

def m_slices_EqualFunc_Rule_154_L1 (s1 : (List MRule)) (s2 : (List MRule)) (fu : Nat) (k_1 : (Unit → Option Bool)) : Nat → (Nat) → Option Bool
  | 0, _ => none
  | fl_2 + 1, t17_1 => (bif (decide ((nI t17_1) < (ln cRule s1))) then bd (ix s1 (nI t17_1)) fun e_3 => bd (ix s2 (nI t17_1)) fun e_4 => bd (m_law_sameRule fu e_3 e_4) fun c_5 => (bif (!c_5) then some false else cnt t17_1 (m_slices_EqualFunc_Rule_154_L1 s1 s2 fu k_1 fl_2 (t17_1 + 1))) else k_1 ())

def m_slices_EqualFunc_Rule_154 (fu : Nat) (s1 : (List MRule)) (s2 : (List MRule)) : Option Bool :=
  (bif ((ln cRule s1) != (ln cRule s2)) then some false else m_slices_EqualFunc_Rule_154_L1 s1 s2 fu (fun p_6 => some true) fu 0)

def m_law_sameScope (fu : Nat) (a : MScope) (b : MScope) : Option Bool :=
  (bif ((decide (a.name = b.name)) && (a.ms == b.ms)) then bd (m_slices_Equal_Field fu a.inputs b.inputs) fun c_1 => (bif c_1 then bd (m_slices_Equal_Field fu a.defs b.defs) fun c_2 => (bif c_2 then bd (m_slices_EqualFunc_Rule_154 fu a.rules b.rules) fun c_3 => some c_3 else some false) else some false) else some false)

def m_slices_EqualFunc_Enum_99_L1 (s1 : (List MEnum)) (s2 : (List MEnum)) (fu : Nat) (k_1 : (Unit → Option Bool)) : Nat → (Nat) → Option Bool
  | 0, _ => none
  | fl_2 + 1, t17_1 => (bif (decide ((nI t17_1) < (ln cEnum s1))) then bd (ix s1 (nI t17_1)) fun e_3 => bd (ix s2 (nI t17_1)) fun e_4 => bd (m_law_sameEnum fu e_3 e_4) fun c_5 => (bif (!c_5) then some false else cnt t17_1 (m_slices_EqualFunc_Enum_99_L1 s1 s2 fu k_1 fl_2 (t17_1 + 1))) else k_1 ())

def m_slices_EqualFunc_Enum_99 (fu : Nat) (s1 : (List MEnum)) (s2 : (List MEnum)) : Option Bool :=
  (bif ((ln cEnum s1) != (ln cEnum s2)) then some false else m_slices_EqualFunc_Enum_99_L1 s1 s2 fu (fun p_6 => some true) fu 0)

def m_slices_EqualFunc_Table_101_L1 (s1 : (List MTable)) (s2 : (List MTable)) (fu : Nat) (k_1 : (Unit → Option Bool)) : Nat → (Nat) → Option Bool
  | 0, _ => none
  | fl_2 + 1, t17_1 => (bif (decide ((nI t17_1) < (ln cTable s1))) then bd (ix s1 (nI t17_1)) fun e_3 => bd (ix s2 (nI t17_1)) fun e_4 => bd (m_law_sameTable fu e_3 e_4) fun c_5 => (bif (!c_5) then some false else cnt t17_1 (m_slices_EqualFunc_Table_101_L1 s1 s2 fu k_1 fl_2 (t17_1 + 1))) else k_1 ())

def m_slices_EqualFunc_Table_101 (fu : Nat) (s1 : (List MTable)) (s2 : (List MTable)) : Option Bool :=
  (bif ((ln cTable s1) != (ln cTable s2)) then some false else m_slices_EqualFunc_Table_101_L1 s1 s2 fu (fun p_6 => some true) fu 0)

def m_slices_EqualFunc_Scope_103_L1 (s1 : (List MScope)) (s2 : (List MScope)) (fu : Nat) (k_1 : (Unit → Option Bool)) : Nat → (Nat) → Option Bool
  | 0, _ => none
  | fl_2 + 1, t17_1 => (bif (decide ((nI t17_1) < (ln cScope s1))) then bd (ix s1 (nI t17_1)) fun e_3 => bd (ix s2 (nI t17_1)) fun e_4 => bd (m_law_sameScope fu e_3 e_4) fun c_5 => (bif (!c_5) then some false else cnt t17_1 (m_slices_EqualFunc_Scope_103_L1 s1 s2 fu k_1 fl_2 (t17_1 + 1))) else k_1 ())

def m_slices_EqualFunc_Scope_103 (fu : Nat) (s1 : (List MScope)) (s2 : (List MScope)) : Option Bool :=
  (bif ((ln cScope s1) != (ln cScope s2)) then some false else m_slices_EqualFunc_Scope_103_L1 s1 s2 fu (fun p_6 => some true) fu 0)

def m_law_Equal (fu : Nat) (a : MLaw) (b : MLaw) : Option Bool :=
  bd (m_slices_EqualFunc_Enum_99 fu a.enums b.enums) fun c_1 => (bif c_1 then bd (m_slices_EqualFunc_Table_101 fu a.tables b.tables) fun c_2 => (bif c_2 then bd (m_slices_EqualFunc_Scope_103 fu a.scopes b.scopes) fun c_3 => some c_3 else some false) else some false)

def m_lawdiff_SameInterface (fu : Nat) (a : MLaw) (b : MLaw) : Option Bool :=
  bd (m_lawdiff_interfaceOf fu a) fun c_1 => bd (m_lawdiff_interfaceOf fu b) fun c_2 => bd (m_law_Equal fu c_1 c_2) fun c_3 => some c_3

def m_interp_invalid (fu : Nat) (code : Int) (member : Int) : Option MEvalError :=
  some (MEvalError.mk code member (-1) (-1))

def m_casedata_match_L1 (l : (List MValue)) (inputs : (List MField)) (fu : Nat) (enums : (List MEnum)) (k_1 : (Unit → Option (Int × Int))) : Nat → (Nat) → Option (Int × Int)
  | 0, _ => none
  | fl_2 + 1, t29_1 => (bif (decide ((nI t29_1) < (ln cValue l))) then bd (ix l (nI t29_1)) fun e_3 => bd (ix inputs (nI t29_1)) fun e_4 => bd (m_value_Bounds fu e_4.ty enums) fun c_5 => (bif ((e_3.kind != e_4.ty.kind) || (e_3.enum != e_4.ty.en)) then some ((nI t29_1), 8) else (bif ((decide (e_3.nF < c_5.1)) || (decide (c_5.2 < e_3.nF))) then some ((nI t29_1), 3) else cnt t29_1 (m_casedata_match_L1 l inputs fu enums k_1 fl_2 (t29_1 + 1)))) else k_1 ())

def m_casedata_match (fu : Nat) (l : (List MValue)) (inputs : (List MField)) (enums : (List MEnum)) : Option (Int × Int) :=
  (bif (decide ((ln cValue l) < (ln cField inputs))) then some ((ln cValue l), 5) else (bif (decide ((ln cField inputs) < (ln cValue l))) then some ((ln cField inputs), 4) else m_casedata_match_L1 l inputs fu enums (fun p_6 => some (0, 0)) fu 0))

def m_casedata_memberScope (fu : Nat) (l : MLaw) (scope : Int) : Option (MScope × Bool) :=
  bd (ix l.scopes scope) fun e_1 => (bif ((decide (e_1.ms < 0)) || (decide ((ln cScope l.scopes) ≤ e_1.ms))) then some ((MScope.mk ByteArray.empty 0 ([] : List MField) ([] : List MField) ([] : List MRule)), false) else bd (ix l.scopes e_1.ms) fun e_2 => some (e_2, true))

def m_casedata_limit (fu : Nat) (l : MLaw) (scope : Int) : Option Int :=
  bd (m_casedata_memberScope fu l scope) fun c_1 => (bif c_1.2 then some 8 else some 0)

def m_casedata_Validate_L1 (cV : MCase) (fu : Nat) (c_4 : (MScope × Bool)) (l : MLaw) (k_1 : (Unit → Option (Int × Int × Int))) : Nat → (Nat) → Option (Int × Int × Int)
  | 0, _ => none
  | fl_6 + 1, t73_5 => (bif (decide ((nI t73_5) < (ln (cSlc 3 cValue) cV.members))) then bd (ix cV.members (nI t73_5)) fun e_7 => bd (m_casedata_match fu e_7 c_4.1.inputs l.enums) fun c_8 => (bif (c_8.2 != 0) then some ((nI t73_5), c_8.1, c_8.2) else cnt t73_5 (m_casedata_Validate_L1 cV fu c_4 l k_1 fl_6 (t73_5 + 1))) else k_1 ())

def m_casedata_Validate (fu : Nat) (l : MLaw) (scope : Int) (cV : MCase) : Option (Int × Int × Int) :=
  (bif ((decide (scope < 0)) || (decide ((ln cScope l.scopes) ≤ scope))) then some ((-1), (-1), 6) else (bif ((decide (cV.date < 0)) || (decide (109572 < cV.date))) then some ((-1), (-1), 3) else bd (ix l.scopes scope) fun e_1 => bd (m_casedata_match fu cV.inputs e_1.inputs l.enums) fun c_2 => (bif (c_2.2 != 0) then some ((-1), c_2.1, c_2.2) else bd (m_casedata_limit fu l scope) fun c_3 => (bif (decide (c_3 < (ln (cSlc 3 cValue) cV.members))) then some (c_3, (-1), 4) else bd (m_casedata_memberScope fu l scope) fun c_4 => m_casedata_Validate_L1 cV fu c_4 l (fun p_9 => some (0, 0, 0)) fu 0))))

def m_interp_check (fu : Nat) (l : MLaw) (scope : Int) (cV : MCase) (defV : Int) (single : Bool) : Option MEvalError :=
  bd (m_law_Validate fu l) fun c_1 => (bif (c_1.code != 0) then bd (m_interp_invalid fu 1 (-1)) fun c_2 => some c_2 else (bif ((decide (scope < 0)) || (decide ((ln cScope l.scopes) ≤ scope))) then bd (m_interp_invalid fu 6 (-1)) fun c_3 => some c_3 else (bif single then (bif (decide (defV < 0)) then bd (m_interp_invalid fu 6 (-1)) fun c_4 => some c_4 else bd (ix l.scopes scope) fun e_5 => (bif (decide ((ln cField e_5.defs) ≤ defV)) then bd (m_interp_invalid fu 6 (-1)) fun c_6 => some c_6 else bd (m_casedata_Validate fu l scope cV) fun c_7 => (bif (c_7.2.2 != 0) then bd (m_interp_invalid fu c_7.2.2 c_7.1) fun c_8 => some c_8 else some (MEvalError.mk 0 0 0 0)))) else bd (m_casedata_Validate fu l scope cV) fun c_9 => (bif (c_9.2.2 != 0) then bd (m_interp_invalid fu c_9.2.2 c_9.1) fun c_10 => some c_10 else some (MEvalError.mk 0 0 0 0)))))

def m_interp_newMachine (fu : Nat) (l : MLaw) (scope : Int) (cV : MCase) : Option (MLaw × MScope × MScope × MCase × (List Bool) × (List Bool)) :=
  bd (ix l.scopes scope) fun e_1 => (bif (decide (0 ≤ e_1.ms)) then bd (ix l.scopes e_1.ms) fun e_2 => bd (mkS (ln cField e_1.defs) false) fun mk_3 => bd (mkS (ln cField e_2.defs) false) fun mk_4 => some (l, e_1, e_2, cV, mk_3, mk_4) else bd (mkS (ln cField e_1.defs) false) fun mk_5 => bd (mkS (ln cField ([] : List MField)) false) fun mk_6 => some (l, e_1, (MScope.mk ByteArray.empty 0 ([] : List MField) ([] : List MField) ([] : List MRule)), cV, mk_5, mk_6))

def m_deps_MemberDefs_L2 (e_7 : MRule) (fu : Nat) (k_2 : ((List Int) → Option (List Int))) : Nat → ((List Int) × Nat) → Option (List Int)
  | 0, _ => none
  | fl_11 + 1, (out_9, t42_10) => (bif (decide ((nI t42_10) < (ln (cSlc 2 cNode) [e_7.guard, e_7.value]))) then bd (ix [e_7.guard, e_7.value] (nI t42_10)) fun e_12 => bd (m_expr_References fu e_12) fun c_13 => bd (ap out_9 c_13.2.2) fun z_14 => cnt t42_10 (m_deps_MemberDefs_L2 e_7 fu k_2 fl_11 (z_14, t42_10 + 1)) else k_2 out_9)

def m_deps_MemberDefs_L1 (s : MScope) (fu : Nat) (z_3 : (List Int)) (k_1 : ((List Int) → Option (List Int))) : Nat → ((List Int) × Nat) → Option (List Int)
  | 0, _ => none
  | fl_6 + 1, (out_4, t27_5) => (bif (decide ((nI t27_5) < (ln cRule s.rules))) then bd (ix s.rules (nI t27_5)) fun e_7 => bd (m_slices_Contains_int fu z_3 e_7.df) fun c_8 => (bif (!c_8) then cnt t27_5 (m_deps_MemberDefs_L1 s fu z_3 k_1 fl_6 (out_4, t27_5 + 1)) else m_deps_MemberDefs_L2 e_7 fu (fun p_15 => cnt t27_5 (m_deps_MemberDefs_L1 s fu z_3 k_1 fl_6 (p_15, t27_5 + 1))) fu (out_4, 0)) else k_1 out_4)

def m_deps_MemberDefs (fu : Nat) (s : MScope) (defV : Int) : Option (List Int) :=
  bd (m_deps_valid fu s defV) fun c_1 => (bif (!c_1) then some ([] : List Int) else bd (m_deps_Transitive fu s defV) fun c_2 => bd (ap c_2 [defV]) fun z_3 => m_deps_MemberDefs_L1 s fu z_3 (fun p_16 => bd (m_slices_Sort_int fu p_16) fun c_17 => bd (m_slices_Compact_int fu c_17) fun c_18 => some c_18) fu (([] : List Int), 0))

def m_interp_machine_memberDef_L1 (c_2 : (List Int)) (k_1 : ((List Bool) → Option (List Bool))) : Nat → (Nat × (List Bool)) → Option (List Bool)
  | 0, _ => none
  | fl_5 + 1, (t19_3, rw_4) => (bif (decide ((nI t19_3) < (ln cInt c_2))) then bd (ix c_2 (nI t19_3)) fun e_6 => bd (ix rw_4 e_6) fun e_7 => cnt t19_3 (m_interp_machine_memberDef_L1 c_2 k_1 fl_5 (t19_3 + 1, (List.set rw_4 (Int.toNat e_6) true))) else k_1 rw_4)

def n_interp_machine_memberDef (fu : Nat) (law : MLaw) (scope : MScope) (members : MScope) (cV : MCase) (want : (List Bool)) (inner : (List Bool)) (dV : Int) : Option (List Bool) :=
  bd (ix inner dV) fun e_1 => bd (m_deps_Transitive fu members dV) fun c_2 => m_interp_machine_memberDef_L1 c_2 (fun p_8 => some p_8) fu (0, (List.set inner (Int.toNat dV) true))

def m_interp_machine_memberDef (fu : Nat) (law : MLaw) (scope : MScope) (members : MScope) (cV : MCase) (want : (List Bool)) (inner : (List Bool)) (dV : Int) : Option (List Bool) := lk (n_interp_machine_memberDef fu law scope members cV want inner dV) fun r_ => decide (List.length r_ = List.length inner)

def m_interp_machine_require_L2 (c_9 : (List Int)) (fu : Nat) (law : MLaw) (scope : MScope) (members : MScope) (cV : MCase) (p_8 : (List Bool)) (k_2 : ((List Bool) → Option ((List Bool) × (List Bool)))) : Nat → (Nat × (List Bool)) → Option ((List Bool) × (List Bool))
  | 0, _ => none
  | fl_12 + 1, (t39_10, rw_11) => (bif (decide ((nI t39_10) < (ln cInt c_9))) then bd (ix c_9 (nI t39_10)) fun e_13 => bd (m_interp_machine_memberDef fu law scope members cV p_8 rw_11 e_13) fun c_14 => cnt t39_10 (m_interp_machine_require_L2 c_9 fu law scope members cV p_8 k_2 fl_12 (t39_10 + 1, c_14)) else k_2 rw_11)

def m_interp_machine_require_L1 (c_2 : (List Int)) (k_1 : ((List Bool) → Option ((List Bool) × (List Bool)))) : Nat → (Nat × (List Bool)) → Option ((List Bool) × (List Bool))
  | 0, _ => none
  | fl_5 + 1, (t21_3, rw_4) => (bif (decide ((nI t21_3) < (ln cInt c_2))) then bd (ix c_2 (nI t21_3)) fun e_6 => bd (ix rw_4 e_6) fun e_7 => cnt t21_3 (m_interp_machine_require_L1 c_2 k_1 fl_5 (t21_3 + 1, (List.set rw_4 (Int.toNat e_6) true))) else k_1 rw_4)

def n_interp_machine_require (fu : Nat) (law : MLaw) (scope : MScope) (members : MScope) (cV : MCase) (want : (List Bool)) (inner : (List Bool)) (defV : Int) : Option ((List Bool) × (List Bool)) :=
  bd (ix want defV) fun e_1 => bd (m_deps_Transitive fu scope defV) fun c_2 => m_interp_machine_require_L1 c_2 (fun p_8 => bd (m_deps_MemberDefs fu scope defV) fun c_9 => m_interp_machine_require_L2 c_9 fu law scope members cV p_8 (fun p_15 => some (p_8, p_15)) fu (0, inner)) fu (0, (List.set want (Int.toNat defV) true))

def m_interp_machine_require (fu : Nat) (law : MLaw) (scope : MScope) (members : MScope) (cV : MCase) (want : (List Bool)) (inner : (List Bool)) (defV : Int) : Option ((List Bool) × (List Bool)) := lk (n_interp_machine_require fu law scope members cV want inner defV) fun r_ => decide (List.length r_.1 = List.length want) && decide (List.length r_.2 = List.length inner)

def m_interp_newUnit (fu : Nat) (s : MScope) (env : MEnv) (member : Int) : Option (MScope × Int × (List MValue) × (List MValue) × (List (List MValue)) × (List MTy) × (List MTable) × Int × (List Int)) :=
  bd (mkS (ln cField s.defs) (MValue.mk 0 0 0)) fun mk_1 => bd (mkS (ln cField s.defs) 0) fun mk_2 => some (s, env.date, env.inputs, mk_1, env.members, env.memberTypes, env.tables, member, mk_2)

def m_deps_EvaluationOrder_1 (fu : Nat) (xV : Int) (cap : (List Bool)) : Option Bool :=
  bd (ix cap xV) fun e_1 => some (!e_1)

def m_slices_IndexFunc_int_158_L1 (s : (List Int)) (fu : Nat) (cap : (List Bool)) (k_1 : (Unit → Option Int)) : Nat → (Nat) → Option Int
  | 0, _ => none
  | fl_2 + 1, t8_1 => (bif (decide ((nI t8_1) < (ln cInt s))) then bd (ix s (nI t8_1)) fun e_3 => bd (m_deps_EvaluationOrder_1 fu e_3 cap) fun c_4 => (bif c_4 then some (nI t8_1) else cnt t8_1 (m_slices_IndexFunc_int_158_L1 s fu cap k_1 fl_2 (t8_1 + 1))) else k_1 ())

def m_slices_IndexFunc_int_158 (fu : Nat) (s : (List Int)) (cap : (List Bool)) : Option Int :=
  m_slices_IndexFunc_int_158_L1 s fu cap (fun p_5 => some (-1)) fu 0

def m_slices_ContainsFunc_int_158 (fu : Nat) (s : (List Int)) (cap : (List Bool)) : Option Bool :=
  bd (m_slices_IndexFunc_int_158 fu s cap) fun c_1 => some (decide (0 ≤ c_1))

def m_deps_EvaluationOrder_L3 (s : MScope) (rw_10 : (List Bool)) (p_7 : (List (List Int))) (fu : Nat) (k_3 : (Int → Option ((List Int) × Int))) : Nat → (Int × Nat) → Option ((List Int) × Int)
  | 0, _ => none
  | fl_14 + 1, (next_12, t40_13) => (bif (decide ((nI t40_13) < (ln cField s.defs))) then (bif (decide (next_12 < 0)) then bd (ix rw_10 (nI t40_13)) fun e_15 => (bif (!e_15) then bd (ix p_7 (nI t40_13)) fun e_16 => bd (m_slices_ContainsFunc_int_158 fu e_16 rw_10) fun c_17 => (bif (!c_17) then cnt t40_13 (m_deps_EvaluationOrder_L3 s rw_10 p_7 fu k_3 fl_14 ((nI t40_13), t40_13 + 1)) else cnt t40_13 (m_deps_EvaluationOrder_L3 s rw_10 p_7 fu k_3 fl_14 (next_12, t40_13 + 1))) else cnt t40_13 (m_deps_EvaluationOrder_L3 s rw_10 p_7 fu k_3 fl_14 (next_12, t40_13 + 1))) else cnt t40_13 (m_deps_EvaluationOrder_L3 s rw_10 p_7 fu k_3 fl_14 (next_12, t40_13 + 1))) else k_3 next_12)

def m_deps_EvaluationOrder_L2 (s : MScope) (p_7 : (List (List Int))) (fu : Nat) (k_2 : (((List Int) × (List Bool)) → Option ((List Int) × Int))) : Nat → ((List Int) × (List Bool)) → Option ((List Int) × Int)
  | 0, _ => none
  | fl_11 + 1, (out_9, rw_10) => (bif (decide ((ln cInt out_9) < (ln cField s.defs))) then m_deps_EvaluationOrder_L3 s rw_10 p_7 fu (fun p_18 => (bif (decide (p_18 < 0)) then some (([] : List Int), 9) else bd (ix rw_10 p_18) fun e_19 => bd (ap out_9 [p_18]) fun z_20 => m_deps_EvaluationOrder_L2 s p_7 fu k_2 fl_11 (z_20, (List.set rw_10 (Int.toNat p_18) true)))) fu ((-1), 0) else k_2 (out_9, rw_10))

def m_deps_EvaluationOrder_L1 (s : MScope) (fu : Nat) (k_1 : ((List (List Int)) → Option ((List Int) × Int))) : Nat → (Nat × (List (List Int))) → Option ((List Int) × Int)
  | 0, _ => none
  | fl_4 + 1, (t17_2, rw_3) => (bif (decide ((nI t17_2) < (ln cField s.defs))) then bd (m_deps_Direct fu s (nI t17_2)) fun c_5 => bd (ix rw_3 (nI t17_2)) fun e_6 => cnt t17_2 (m_deps_EvaluationOrder_L1 s fu k_1 fl_4 (t17_2 + 1, (List.set rw_3 (Int.toNat (nI t17_2)) c_5))) else k_1 rw_3)

def m_deps_EvaluationOrder (fu : Nat) (s : MScope) : Option ((List Int) × Int) :=
  bd (mkS (ln cField s.defs) ([] : List Int)) fun mk_1 => m_deps_EvaluationOrder_L1 s fu (fun p_7 => bd (mkS (ln cField s.defs) false) fun mk_8 => m_deps_EvaluationOrder_L2 s p_7 fu (fun p_21 => some (p_21.1, 0)) fu (([] : List Int), mk_8)) fu (0, mk_1)

def m_daterange_Contains (fu : Nat) (rV : MRange) (date : Int) : Option Bool :=
  bd (m_daterange_Valid fu rV) fun c_1 => some ((c_1 && (decide (rV.fr ≤ date))) && (decide (date < rV.to)))

def m_effective_RulesOn_L1 (s : MScope) (defV : Int) (fu : Nat) (date : Int) (k_1 : ((List Int) → Option (List Int))) : Nat → ((List Int) × Nat) → Option (List Int)
  | 0, _ => none
  | fl_3 + 1, (out_1, t13_2) => (bif (decide ((nI t13_2) < (ln cRule s.rules))) then bd (ix s.rules (nI t13_2)) fun e_4 => (bif (e_4.df == defV) then bd (m_daterange_Contains fu e_4.valid date) fun c_5 => (bif c_5 then bd (ap out_1 [(nI t13_2)]) fun z_6 => cnt t13_2 (m_effective_RulesOn_L1 s defV fu date k_1 fl_3 (z_6, t13_2 + 1)) else cnt t13_2 (m_effective_RulesOn_L1 s defV fu date k_1 fl_3 (out_1, t13_2 + 1))) else cnt t13_2 (m_effective_RulesOn_L1 s defV fu date k_1 fl_3 (out_1, t13_2 + 1))) else k_1 out_1)

def m_effective_RulesOn (fu : Nat) (s : MScope) (defV : Int) (date : Int) : Option (List Int) :=
  m_effective_RulesOn_L1 s defV fu date (fun p_7 => some p_7) fu (([] : List Int), 0)

def m_effective_ancestor_L1 (s : MScope) (fu : Nat) (kept : (List Int)) : Nat → (Int) → Option Int
  | 0, _ => none
  | fl_2 + 1, i_1 => bd (ix s.rules i_1) fun e_3 => (bif ((decide (e_3.parent < 0)) || (decide (i_1 ≤ e_3.parent))) then some (-1) else bd (m_slices_Index_int fu kept e_3.parent) fun c_4 => (bif (decide (0 ≤ c_4)) then some c_4 else m_effective_ancestor_L1 s fu kept fl_2 e_3.parent))

def m_effective_ancestor (fu : Nat) (s : MScope) (i : Int) (kept : (List Int)) : Option Int :=
  m_effective_ancestor_L1 s fu kept fu i

def m_effective_TreeOn_L1 (c_1 : (List Int)) (fu : Nat) (s : MScope) (k_1 : (((List Int) × (List Int)) → Option ((List Int) × (List Int) × (List Int)))) : Nat → ((List Int) × (List Int) × Nat) → Option ((List Int) × (List Int) × (List Int))
  | 0, _ => none
  | fl_5 + 1, (parents_2, priorities_3, t20_4) => (bif (decide ((nI t20_4) < (ln cInt c_1))) then bd (ix c_1 (nI t20_4)) fun e_6 => bd (m_effective_ancestor fu s e_6 c_1) fun c_7 => bd (ap parents_2 [c_7]) fun z_8 => bd (ix s.rules e_6) fun e_9 => bd (ap priorities_3 [e_9.prio]) fun z_10 => cnt t20_4 (m_effective_TreeOn_L1 c_1 fu s k_1 fl_5 (z_8, z_10, t20_4 + 1)) else k_1 (parents_2, priorities_3))

def m_effective_TreeOn (fu : Nat) (s : MScope) (defV : Int) (date : Int) : Option ((List Int) × (List Int) × (List Int)) :=
  bd (m_effective_RulesOn fu s defV date) fun c_1 => m_effective_TreeOn_L1 c_1 fu s (fun p_11 => some (c_1, p_11.1, p_11.2)) fu (([] : List Int), ([] : List Int), 0)

def m_expr_Starts (fu : Nat) (e : (List MNode)) : Option ((List Int) × Int) :=
  bd (m_expr_starts fu e) fun c_1 => some (c_1.1, c_1.2.2)

def m_expr_Operands (fu : Nat) (e : (List MNode)) (atV : Int) : Option (List Int) :=
  bd (m_expr_Starts fu e) fun c_1 => (bif (((c_1.2 != 0) || (decide (atV < 0))) || (decide ((ln cNode e) ≤ atV))) then some ([] : List Int) else bd (m_expr_operands fu e c_1.1 atV) fun c_2 => some c_2)

def m_eval_boolean (fu : Nat) (isV : Bool) : Option MValue :=
  (bif isV then some (MValue.mk 1 0 1) else some (MValue.mk 1 0 0))

def m_eval_meaning (fu : Nat) (op : Int) : Option Bool :=
  (bif (op == 7) then some true else (bif (op == 8) then some true else (bif (op == 14) then some true else (bif (op == 15) then some true else (bif (op == 16) then some true else (bif (op == 33) then some true else (bif (op == 34) then some true else (bif (op == 36) then some true else (bif (op == 37) then some true else (bif (op == 38) then some true else (bif (op == 39) then some true else some ((decide (1 ≤ op)) && (decide (op ≤ 6))))))))))))))

def m_eval_wellFormed (fu : Nat) (nV : MNode) (k : Int) : Option Bool :=
  bd (m_expr_Arity fu nV.op) fun c_1 => (bif ((decide (c_1 < 0)) || (c_1 != k)) then some false else (bif (nV.n != 0) then bd (m_eval_meaning fu nV.op) fun c_2 => (bif (!c_2) then some false else (bif (nV.op == 14) then some ((decide (0 ≤ nV.n)) && (decide (nV.n ≤ 5))) else (bif (nV.op == 15) then some ((decide (0 ≤ nV.n)) && (decide (nV.n ≤ 5))) else (bif (nV.op == 16) then some ((decide (0 ≤ nV.n)) && (decide (nV.n ≤ 5))) else (bif (nV.op == 34) then some ((decide (0 ≤ nV.n)) && (decide ((Int.tmod nV.n 8) ≤ 5))) else (bif (nV.op == 6) then some (decide (0 ≤ nV.n)) else some true)))))) else (bif (nV.op == 14) then some ((decide (0 ≤ nV.n)) && (decide (nV.n ≤ 5))) else (bif (nV.op == 15) then some ((decide (0 ≤ nV.n)) && (decide (nV.n ≤ 5))) else (bif (nV.op == 16) then some ((decide (0 ≤ nV.n)) && (decide (nV.n ≤ 5))) else (bif (nV.op == 34) then some ((decide (0 ≤ nV.n)) && (decide ((Int.tmod nV.n 8) ≤ 5))) else (bif (nV.op == 6) then some (decide (0 ≤ nV.n)) else some true)))))))

def m_eval_inside (fu : Nat) (i : Int) (nV : Int) : Option Bool :=
  some ((decide (0 ≤ i)) && (decide (i < nV)))

def m_eval_exists (fu : Nat) (nV : MNode) (env : MEnv) : Option Bool :=
  (bif (nV.op == 7) then bd (m_eval_inside fu nV.n (ln cValue env.inputs)) fun c_1 => some c_1 else (bif (nV.op == 8) then bd (m_eval_inside fu nV.n (ln cValue env.defs)) fun c_2 => (bif c_2 then bd (ix env.defs nV.n) fun e_3 => some (e_3.kind != 0) else some false) else (bif (nV.op == 33) then bd (m_eval_inside fu nV.n (ln cTable env.tables)) fun c_4 => some c_4 else (bif (nV.op == 34) then bd (m_eval_inside fu (w64 (Int.tdiv nV.n 8)) (ln cTable env.tables)) fun c_5 => some c_5 else (bif (nV.op == 36) then bd (m_eval_inside fu nV.n (ln cTy env.memberTypes)) fun c_6 => some c_6 else (bif (nV.op == 37) then bd (m_eval_inside fu nV.n (ln cTy env.memberTypes)) fun c_7 => some c_7 else (bif (nV.op == 38) then bd (m_eval_inside fu nV.n (ln cTy env.memberTypes)) fun c_8 => some c_8 else (bif (nV.op == 39) then bd (m_eval_inside fu nV.n (ln cTy env.memberTypes)) fun c_9 => some c_9 else some true))))))))

def m_eval_limits (fu : Nat) (kind : Int) : Option (Int × Int) :=
  (bif (kind == 1) then some (0, 1) else (bif (kind == 2) then some ((-1000000000000), 1000000000000) else (bif (kind == 3) then some ((-1000000000000000), 1000000000000000) else (bif (kind == 4) then some ((-1000000000), 1000000000) else (bif (kind == 5) then some (0, 109572) else (bif (kind == 6) then some (0, 15) else some (0, (-1))))))))

def m_eval_plausible (fu : Nat) (v : MValue) : Option Bool :=
  bd (m_eval_limits fu v.kind) fun c_1 => (bif (v.kind == 6) then some ((((decide (c_1.1 ≤ v.nF)) && (decide (v.nF ≤ c_1.2))) && (decide (0 ≤ v.enum))) && (decide (v.enum ≤ 7))) else some ((((decide (c_1.1 ≤ v.nF)) && (decide (v.nF ≤ c_1.2))) && (decide (0 ≤ v.enum))) && (decide (v.enum ≤ 0))))

def m_eval_numeric (fu : Nat) (k : Int) : Option Bool :=
  some (((k == 2) || (k == 3)) || (k == 4))

def m_eval_ordered (fu : Nat) (k : Int) : Option Bool :=
  bd (m_eval_numeric fu k) fun c_1 => some (c_1 || (k == 5))

def m_eval_has (fu : Nat) (v : MValue) (t : MTy) : Option Bool :=
  bd (m_eval_plausible fu v) fun c_1 => some ((c_1 && (v.kind == t.kind)) && (v.enum == t.en))

def m_eval_aggregate (fu : Nat) (op : Int) (t : MTy) : Option Bool :=
  (bif (t.en != 0) then some false else (bif (op == 36) then some ((t.kind == 2) || (t.kind == 3)) else (bif (op == 39) then bd (m_eval_ordered fu t.kind) fun c_1 => some c_1 else some (t.kind == 1))))

def m_eval_allowed_1 (fu : Nat) (k : Int) (cap : MValue) (cap2 : MValue) : Option Bool :=
  some ((cap.kind == k) && (cap2.kind == k))

def m_eval_allowed (fu : Nat) (nV : MNode) (l : (List MValue)) (env : MEnv) : Option Bool :=
  (bif (decide (0 < (ln cValue l))) then bd (ix l 0) fun e_1 => (bif (decide (1 < (ln cValue l))) then bd (ix l 1) fun e_2 => (bif (nV.op == 10) then bd (m_eval_numeric fu e_1.kind) fun c_3 => some c_3 else (bif (nV.op == 11) then (bif ((e_1.kind == e_2.kind) && (e_1.enum == e_2.enum)) then bd (m_eval_numeric fu e_1.kind) fun c_4 => some c_4 else some false) else (bif (nV.op == 12) then (bif ((e_1.kind == e_2.kind) && (e_1.enum == e_2.enum)) then bd (m_eval_numeric fu e_1.kind) fun c_5 => some c_5 else some false) else (bif (nV.op == 13) then some ((e_2.kind == 2) && ((e_1.kind == 2) || (e_1.kind == 3))) else (bif (nV.op == 14) then some ((e_2.kind == 4) && ((e_1.kind == 3) || (e_1.kind == 4))) else (bif (nV.op == 15) then (bif ((e_2.kind == 2) && ((e_1.kind == 2) || (e_1.kind == 3))) then some true else bd (m_eval_allowed_1 fu 3 e_1 e_2) fun c_6 => some c_6) else (bif (nV.op == 16) then bd (m_eval_allowed_1 fu 3 e_1 e_2) fun c_7 => some c_7 else (bif (nV.op == 17) then (bif ((e_1.kind == e_2.kind) && (e_1.enum == e_2.enum)) then bd (m_eval_ordered fu e_1.kind) fun c_8 => some c_8 else some false) else (bif (nV.op == 18) then (bif ((e_1.kind == e_2.kind) && (e_1.enum == e_2.enum)) then bd (m_eval_ordered fu e_1.kind) fun c_9 => some c_9 else some false) else (bif (nV.op == 21) then (bif ((e_1.kind == e_2.kind) && (e_1.enum == e_2.enum)) then bd (m_eval_ordered fu e_1.kind) fun c_10 => some c_10 else some false) else (bif (nV.op == 22) then (bif ((e_1.kind == e_2.kind) && (e_1.enum == e_2.enum)) then bd (m_eval_ordered fu e_1.kind) fun c_11 => some c_11 else some false) else (bif (nV.op == 19) then some ((e_1.kind == e_2.kind) && (e_1.enum == e_2.enum)) else (bif (nV.op == 20) then some ((e_1.kind == e_2.kind) && (e_1.enum == e_2.enum)) else (bif (nV.op == 23) then bd (m_eval_allowed_1 fu 1 e_1 e_2) fun c_12 => some c_12 else (bif (nV.op == 24) then bd (m_eval_allowed_1 fu 1 e_1 e_2) fun c_13 => some c_13 else (bif (nV.op == 25) then some (e_1.kind == 1) else (bif (nV.op == 26) then (bif (e_1.kind == 1) then bd (ix l 2) fun e_14 => (bif (e_2.kind == e_14.kind) then bd (ix l 2) fun e_15 => some (e_2.enum == e_15.enum) else some false) else some false) else (bif (nV.op == 27) then some ((e_1.kind == 5) && (e_2.kind == 2)) else (bif (nV.op == 28) then some ((e_1.kind == 5) && (e_2.kind == 2)) else (bif (nV.op == 29) then bd (m_eval_allowed_1 fu 5 e_1 e_2) fun c_16 => some c_16 else (bif (nV.op == 30) then bd (m_eval_allowed_1 fu 5 e_1 e_2) fun c_17 => some c_17 else (bif (nV.op == 31) then some (e_1.kind == 5) else (bif (nV.op == 32) then some (e_1.kind == 5) else (bif (nV.op == 33) then bd (ix env.tables nV.n) fun e_18 => bd (m_eval_has fu e_1 e_18.key) fun c_19 => some ((c_19 && (decide (1 ≤ e_18.val.kind))) && (decide (e_18.val.kind ≤ 6))) else (bif (nV.op == 34) then bd (ix env.tables (w64 (Int.tdiv nV.n 8))) fun e_20 => some (((e_1.kind == 3) && ((e_20.key.kind == 3) && (e_20.key.en == 0))) && ((e_20.val.kind == 4) && (e_20.val.en == 0))) else (bif (nV.op == 7) then bd (ix env.inputs nV.n) fun e_21 => bd (m_eval_plausible fu e_21) fun c_22 => some c_22 else (bif (nV.op == 8) then bd (ix env.defs nV.n) fun e_23 => bd (m_eval_plausible fu e_23) fun c_24 => some c_24 else (bif (nV.op == 36) then bd (ix env.memberTypes nV.n) fun e_25 => bd (m_eval_aggregate fu nV.op e_25) fun c_26 => some c_26 else (bif (nV.op == 37) then bd (ix env.memberTypes nV.n) fun e_27 => bd (m_eval_aggregate fu nV.op e_27) fun c_28 => some c_28 else (bif (nV.op == 38) then bd (ix env.memberTypes nV.n) fun e_29 => bd (m_eval_aggregate fu nV.op e_29) fun c_30 => some c_30 else (bif (nV.op == 39) then bd (ix env.memberTypes nV.n) fun e_31 => bd (m_eval_aggregate fu nV.op e_31) fun c_32 => some c_32 else some true))))))))))))))))))))))))))))))) else (bif (nV.op == 10) then bd (m_eval_numeric fu e_1.kind) fun c_33 => some c_33 else (bif (nV.op == 11) then (bif ((e_1.kind == 0) && (e_1.enum == 0)) then bd (m_eval_numeric fu e_1.kind) fun c_34 => some c_34 else some false) else (bif (nV.op == 12) then (bif ((e_1.kind == 0) && (e_1.enum == 0)) then bd (m_eval_numeric fu e_1.kind) fun c_35 => some c_35 else some false) else (bif (nV.op == 13) then some (((MValue.mk 0 0 0).kind == 2) && ((e_1.kind == 2) || (e_1.kind == 3))) else (bif (nV.op == 14) then some (((MValue.mk 0 0 0).kind == 4) && ((e_1.kind == 3) || (e_1.kind == 4))) else (bif (nV.op == 15) then (bif (((MValue.mk 0 0 0).kind == 2) && ((e_1.kind == 2) || (e_1.kind == 3))) then some true else bd (m_eval_allowed_1 fu 3 e_1 (MValue.mk 0 0 0)) fun c_36 => some c_36) else (bif (nV.op == 16) then bd (m_eval_allowed_1 fu 3 e_1 (MValue.mk 0 0 0)) fun c_37 => some c_37 else (bif (nV.op == 17) then (bif ((e_1.kind == 0) && (e_1.enum == 0)) then bd (m_eval_ordered fu e_1.kind) fun c_38 => some c_38 else some false) else (bif (nV.op == 18) then (bif ((e_1.kind == 0) && (e_1.enum == 0)) then bd (m_eval_ordered fu e_1.kind) fun c_39 => some c_39 else some false) else (bif (nV.op == 21) then (bif ((e_1.kind == 0) && (e_1.enum == 0)) then bd (m_eval_ordered fu e_1.kind) fun c_40 => some c_40 else some false) else (bif (nV.op == 22) then (bif ((e_1.kind == 0) && (e_1.enum == 0)) then bd (m_eval_ordered fu e_1.kind) fun c_41 => some c_41 else some false) else (bif (nV.op == 19) then some ((e_1.kind == 0) && (e_1.enum == 0)) else (bif (nV.op == 20) then some ((e_1.kind == 0) && (e_1.enum == 0)) else (bif (nV.op == 23) then bd (m_eval_allowed_1 fu 1 e_1 (MValue.mk 0 0 0)) fun c_42 => some c_42 else (bif (nV.op == 24) then bd (m_eval_allowed_1 fu 1 e_1 (MValue.mk 0 0 0)) fun c_43 => some c_43 else (bif (nV.op == 25) then some (e_1.kind == 1) else (bif (nV.op == 26) then (bif (e_1.kind == 1) then bd (ix l 2) fun e_44 => (bif ((MValue.mk 0 0 0).kind == e_44.kind) then bd (ix l 2) fun e_45 => some ((MValue.mk 0 0 0).enum == e_45.enum) else some false) else some false) else (bif (nV.op == 27) then some ((e_1.kind == 5) && ((MValue.mk 0 0 0).kind == 2)) else (bif (nV.op == 28) then some ((e_1.kind == 5) && ((MValue.mk 0 0 0).kind == 2)) else (bif (nV.op == 29) then bd (m_eval_allowed_1 fu 5 e_1 (MValue.mk 0 0 0)) fun c_46 => some c_46 else (bif (nV.op == 30) then bd (m_eval_allowed_1 fu 5 e_1 (MValue.mk 0 0 0)) fun c_47 => some c_47 else (bif (nV.op == 31) then some (e_1.kind == 5) else (bif (nV.op == 32) then some (e_1.kind == 5) else (bif (nV.op == 33) then bd (ix env.tables nV.n) fun e_48 => bd (m_eval_has fu e_1 e_48.key) fun c_49 => some ((c_49 && (decide (1 ≤ e_48.val.kind))) && (decide (e_48.val.kind ≤ 6))) else (bif (nV.op == 34) then bd (ix env.tables (w64 (Int.tdiv nV.n 8))) fun e_50 => some (((e_1.kind == 3) && ((e_50.key.kind == 3) && (e_50.key.en == 0))) && ((e_50.val.kind == 4) && (e_50.val.en == 0))) else (bif (nV.op == 7) then bd (ix env.inputs nV.n) fun e_51 => bd (m_eval_plausible fu e_51) fun c_52 => some c_52 else (bif (nV.op == 8) then bd (ix env.defs nV.n) fun e_53 => bd (m_eval_plausible fu e_53) fun c_54 => some c_54 else (bif (nV.op == 36) then bd (ix env.memberTypes nV.n) fun e_55 => bd (m_eval_aggregate fu nV.op e_55) fun c_56 => some c_56 else (bif (nV.op == 37) then bd (ix env.memberTypes nV.n) fun e_57 => bd (m_eval_aggregate fu nV.op e_57) fun c_58 => some c_58 else (bif (nV.op == 38) then bd (ix env.memberTypes nV.n) fun e_59 => bd (m_eval_aggregate fu nV.op e_59) fun c_60 => some c_60 else (bif (nV.op == 39) then bd (ix env.memberTypes nV.n) fun e_61 => bd (m_eval_aggregate fu nV.op e_61) fun c_62 => some c_62 else some true)))))))))))))))))))))))))))))))) else (bif (decide (1 < (ln cValue l))) then bd (ix l 1) fun e_63 => (bif (nV.op == 10) then bd (m_eval_numeric fu ((MValue.mk 0 0 0).kind)) fun c_64 => some c_64 else (bif (nV.op == 11) then (bif ((0 == e_63.kind) && (0 == e_63.enum)) then bd (m_eval_numeric fu ((MValue.mk 0 0 0).kind)) fun c_65 => some c_65 else some false) else (bif (nV.op == 12) then (bif ((0 == e_63.kind) && (0 == e_63.enum)) then bd (m_eval_numeric fu ((MValue.mk 0 0 0).kind)) fun c_66 => some c_66 else some false) else (bif (nV.op == 13) then some ((e_63.kind == 2) && (((MValue.mk 0 0 0).kind == 2) || ((MValue.mk 0 0 0).kind == 3))) else (bif (nV.op == 14) then some ((e_63.kind == 4) && (((MValue.mk 0 0 0).kind == 3) || ((MValue.mk 0 0 0).kind == 4))) else (bif (nV.op == 15) then (bif ((e_63.kind == 2) && (((MValue.mk 0 0 0).kind == 2) || ((MValue.mk 0 0 0).kind == 3))) then some true else bd (m_eval_allowed_1 fu 3 (MValue.mk 0 0 0) e_63) fun c_67 => some c_67) else (bif (nV.op == 16) then bd (m_eval_allowed_1 fu 3 (MValue.mk 0 0 0) e_63) fun c_68 => some c_68 else (bif (nV.op == 17) then (bif ((0 == e_63.kind) && (0 == e_63.enum)) then bd (m_eval_ordered fu ((MValue.mk 0 0 0).kind)) fun c_69 => some c_69 else some false) else (bif (nV.op == 18) then (bif ((0 == e_63.kind) && (0 == e_63.enum)) then bd (m_eval_ordered fu ((MValue.mk 0 0 0).kind)) fun c_70 => some c_70 else some false) else (bif (nV.op == 21) then (bif ((0 == e_63.kind) && (0 == e_63.enum)) then bd (m_eval_ordered fu ((MValue.mk 0 0 0).kind)) fun c_71 => some c_71 else some false) else (bif (nV.op == 22) then (bif ((0 == e_63.kind) && (0 == e_63.enum)) then bd (m_eval_ordered fu ((MValue.mk 0 0 0).kind)) fun c_72 => some c_72 else some false) else (bif (nV.op == 19) then some ((0 == e_63.kind) && (0 == e_63.enum)) else (bif (nV.op == 20) then some ((0 == e_63.kind) && (0 == e_63.enum)) else (bif (nV.op == 23) then bd (m_eval_allowed_1 fu 1 (MValue.mk 0 0 0) e_63) fun c_73 => some c_73 else (bif (nV.op == 24) then bd (m_eval_allowed_1 fu 1 (MValue.mk 0 0 0) e_63) fun c_74 => some c_74 else (bif (nV.op == 25) then some ((MValue.mk 0 0 0).kind == 1) else (bif (nV.op == 26) then (bif ((MValue.mk 0 0 0).kind == 1) then bd (ix l 2) fun e_75 => (bif (e_63.kind == e_75.kind) then bd (ix l 2) fun e_76 => some (e_63.enum == e_76.enum) else some false) else some false) else (bif (nV.op == 27) then some (((MValue.mk 0 0 0).kind == 5) && (e_63.kind == 2)) else (bif (nV.op == 28) then some (((MValue.mk 0 0 0).kind == 5) && (e_63.kind == 2)) else (bif (nV.op == 29) then bd (m_eval_allowed_1 fu 5 (MValue.mk 0 0 0) e_63) fun c_77 => some c_77 else (bif (nV.op == 30) then bd (m_eval_allowed_1 fu 5 (MValue.mk 0 0 0) e_63) fun c_78 => some c_78 else (bif (nV.op == 31) then some ((MValue.mk 0 0 0).kind == 5) else (bif (nV.op == 32) then some ((MValue.mk 0 0 0).kind == 5) else (bif (nV.op == 33) then bd (ix env.tables nV.n) fun e_79 => bd (m_eval_has fu (MValue.mk 0 0 0) e_79.key) fun c_80 => some ((c_80 && (decide (1 ≤ e_79.val.kind))) && (decide (e_79.val.kind ≤ 6))) else (bif (nV.op == 34) then bd (ix env.tables (w64 (Int.tdiv nV.n 8))) fun e_81 => some ((((MValue.mk 0 0 0).kind == 3) && ((e_81.key.kind == 3) && (e_81.key.en == 0))) && ((e_81.val.kind == 4) && (e_81.val.en == 0))) else (bif (nV.op == 7) then bd (ix env.inputs nV.n) fun e_82 => bd (m_eval_plausible fu e_82) fun c_83 => some c_83 else (bif (nV.op == 8) then bd (ix env.defs nV.n) fun e_84 => bd (m_eval_plausible fu e_84) fun c_85 => some c_85 else (bif (nV.op == 36) then bd (ix env.memberTypes nV.n) fun e_86 => bd (m_eval_aggregate fu nV.op e_86) fun c_87 => some c_87 else (bif (nV.op == 37) then bd (ix env.memberTypes nV.n) fun e_88 => bd (m_eval_aggregate fu nV.op e_88) fun c_89 => some c_89 else (bif (nV.op == 38) then bd (ix env.memberTypes nV.n) fun e_90 => bd (m_eval_aggregate fu nV.op e_90) fun c_91 => some c_91 else (bif (nV.op == 39) then bd (ix env.memberTypes nV.n) fun e_92 => bd (m_eval_aggregate fu nV.op e_92) fun c_93 => some c_93 else some true))))))))))))))))))))))))))))))) else (bif (nV.op == 10) then bd (m_eval_numeric fu ((MValue.mk 0 0 0).kind)) fun c_94 => some c_94 else (bif (nV.op == 11) then bd (m_eval_numeric fu ((MValue.mk 0 0 0).kind)) fun c_95 => some c_95 else (bif (nV.op == 12) then bd (m_eval_numeric fu ((MValue.mk 0 0 0).kind)) fun c_96 => some c_96 else (bif (nV.op == 13) then some (((MValue.mk 0 0 0).kind == 2) && (((MValue.mk 0 0 0).kind == 2) || ((MValue.mk 0 0 0).kind == 3))) else (bif (nV.op == 14) then some (((MValue.mk 0 0 0).kind == 4) && (((MValue.mk 0 0 0).kind == 3) || ((MValue.mk 0 0 0).kind == 4))) else (bif (nV.op == 15) then (bif (((MValue.mk 0 0 0).kind == 2) && (((MValue.mk 0 0 0).kind == 2) || ((MValue.mk 0 0 0).kind == 3))) then some true else bd (m_eval_allowed_1 fu 3 (MValue.mk 0 0 0) (MValue.mk 0 0 0)) fun c_97 => some c_97) else (bif (nV.op == 16) then bd (m_eval_allowed_1 fu 3 (MValue.mk 0 0 0) (MValue.mk 0 0 0)) fun c_98 => some c_98 else (bif (nV.op == 17) then bd (m_eval_ordered fu ((MValue.mk 0 0 0).kind)) fun c_99 => some c_99 else (bif (nV.op == 18) then bd (m_eval_ordered fu ((MValue.mk 0 0 0).kind)) fun c_100 => some c_100 else (bif (nV.op == 21) then bd (m_eval_ordered fu ((MValue.mk 0 0 0).kind)) fun c_101 => some c_101 else (bif (nV.op == 22) then bd (m_eval_ordered fu ((MValue.mk 0 0 0).kind)) fun c_102 => some c_102 else (bif (nV.op == 19) then some true else (bif (nV.op == 20) then some true else (bif (nV.op == 23) then bd (m_eval_allowed_1 fu 1 (MValue.mk 0 0 0) (MValue.mk 0 0 0)) fun c_103 => some c_103 else (bif (nV.op == 24) then bd (m_eval_allowed_1 fu 1 (MValue.mk 0 0 0) (MValue.mk 0 0 0)) fun c_104 => some c_104 else (bif (nV.op == 25) then some ((MValue.mk 0 0 0).kind == 1) else (bif (nV.op == 26) then (bif ((MValue.mk 0 0 0).kind == 1) then bd (ix l 2) fun e_105 => (bif ((MValue.mk 0 0 0).kind == e_105.kind) then bd (ix l 2) fun e_106 => some ((MValue.mk 0 0 0).enum == e_106.enum) else some false) else some false) else (bif (nV.op == 27) then some (((MValue.mk 0 0 0).kind == 5) && ((MValue.mk 0 0 0).kind == 2)) else (bif (nV.op == 28) then some (((MValue.mk 0 0 0).kind == 5) && ((MValue.mk 0 0 0).kind == 2)) else (bif (nV.op == 29) then bd (m_eval_allowed_1 fu 5 (MValue.mk 0 0 0) (MValue.mk 0 0 0)) fun c_107 => some c_107 else (bif (nV.op == 30) then bd (m_eval_allowed_1 fu 5 (MValue.mk 0 0 0) (MValue.mk 0 0 0)) fun c_108 => some c_108 else (bif (nV.op == 31) then some ((MValue.mk 0 0 0).kind == 5) else (bif (nV.op == 32) then some ((MValue.mk 0 0 0).kind == 5) else (bif (nV.op == 33) then bd (ix env.tables nV.n) fun e_109 => bd (m_eval_has fu (MValue.mk 0 0 0) e_109.key) fun c_110 => some ((c_110 && (decide (1 ≤ e_109.val.kind))) && (decide (e_109.val.kind ≤ 6))) else (bif (nV.op == 34) then bd (ix env.tables (w64 (Int.tdiv nV.n 8))) fun e_111 => some ((((MValue.mk 0 0 0).kind == 3) && ((e_111.key.kind == 3) && (e_111.key.en == 0))) && ((e_111.val.kind == 4) && (e_111.val.en == 0))) else (bif (nV.op == 7) then bd (ix env.inputs nV.n) fun e_112 => bd (m_eval_plausible fu e_112) fun c_113 => some c_113 else (bif (nV.op == 8) then bd (ix env.defs nV.n) fun e_114 => bd (m_eval_plausible fu e_114) fun c_115 => some c_115 else (bif (nV.op == 36) then bd (ix env.memberTypes nV.n) fun e_116 => bd (m_eval_aggregate fu nV.op e_116) fun c_117 => some c_117 else (bif (nV.op == 37) then bd (ix env.memberTypes nV.n) fun e_118 => bd (m_eval_aggregate fu nV.op e_118) fun c_119 => some c_119 else (bif (nV.op == 38) then bd (ix env.memberTypes nV.n) fun e_120 => bd (m_eval_aggregate fu nV.op e_120) fun c_121 => some c_121 else (bif (nV.op == 39) then bd (ix env.memberTypes nV.n) fun e_122 => bd (m_eval_aggregate fu nV.op e_122) fun c_123 => some c_123 else some true)))))))))))))))))))))))))))))))))

def m_eval_abs (fu : Nat) (nV : Int) : Option Int :=
  some (maxI nV (w64 (0 - nV)))

def m_eval_product (fu : Nat) (a : Int) (b : Int) (limit : Int) : Option (Int × Bool) :=
  (bif ((a == 0) || (b == 0)) then some (0, true) else bd (m_eval_abs fu a) fun c_1 => bd (nz c_1) fun u_2 => (bif (decide ((w64 (Int.tdiv limit c_1)) < b)) then some (0, false) else bd (m_eval_abs fu a) fun c_3 => bd (nz c_3) fun u_4 => (bif (decide (b < (w64 (0 - (w64 (Int.tdiv limit c_3)))))) then some (0, false) else some ((w64 (a * b)), true))))

def m_money_mode (fu : Nat) (m : Int) : Option Bool :=
  some ((decide (0 ≤ m)) && (decide (m ≤ 5)))

def m_money_abs (fu : Nat) (nV : Int) : Option Int :=
  (bif (decide (nV < 0)) then some (IntKind.u64.wrap (0 - (IntKind.u64.wrap nV))) else some (IntKind.u64.wrap nV))

def m_math_bits_Div64_L2 (lo : Int) (c_3 : Int) (y : Int) (k_2 : (Int → Option (Int × Int))) : Nat → (Int × Int) → Option (Int × Int)
  | 0, _ => none
  | fl_16 + 1, (rhat_14, q0_15) => (bif ((decide (4294967296 ≤ q0_15)) || (decide ((IntKind.u64.wrap ((IntKind.u64.wrap (4294967296 * rhat_14)) + (bits .and .u64 (shlI .u64 lo (IntKind.u64.wrap c_3)) 4294967295))) < (IntKind.u64.wrap (q0_15 * (bits .and .u64 (shlI .u64 y (IntKind.u64.wrap c_3)) 4294967295)))))) then (bif (decide (4294967296 ≤ (IntKind.u64.wrap (rhat_14 + (shrI .u64 (shlI .u64 y (IntKind.u64.wrap c_3)) 32))))) then k_2 (IntKind.u64.wrap (q0_15 - 1)) else m_math_bits_Div64_L2 lo c_3 y k_2 fl_16 ((IntKind.u64.wrap (rhat_14 + (shrI .u64 (shlI .u64 y (IntKind.u64.wrap c_3)) 32))), (IntKind.u64.wrap (q0_15 - 1)))) else k_2 q0_15)

def m_math_bits_Div64_L1 (lo : Int) (c_3 : Int) (y : Int) (k_1 : (Int → Option (Int × Int))) : Nat → (Int × Int) → Option (Int × Int)
  | 0, _ => none
  | fl_11 + 1, (q1_9, rhat_10) => (bif ((decide (4294967296 ≤ q1_9)) || (decide ((IntKind.u64.wrap ((IntKind.u64.wrap (4294967296 * rhat_10)) + (shrI .u64 (shlI .u64 lo (IntKind.u64.wrap c_3)) 32))) < (IntKind.u64.wrap (q1_9 * (bits .and .u64 (shlI .u64 y (IntKind.u64.wrap c_3)) 4294967295)))))) then (bif (decide (4294967296 ≤ (IntKind.u64.wrap (rhat_10 + (shrI .u64 (shlI .u64 y (IntKind.u64.wrap c_3)) 32))))) then k_1 (IntKind.u64.wrap (q1_9 - 1)) else m_math_bits_Div64_L1 lo c_3 y k_1 fl_11 ((IntKind.u64.wrap (q1_9 - 1)), (IntKind.u64.wrap (rhat_10 + (shrI .u64 (shlI .u64 y (IntKind.u64.wrap c_3)) 32))))) else k_1 q1_9)

def m_math_bits_Div64 (fu : Nat) (hi : Int) (lo : Int) (y : Int) : Option (Int × Int) :=
  (bif (y == 0) then none else (bif (decide (y ≤ hi)) then none else (bif (hi == 0) then bd (nz y) fun u_1 => bd (nz y) fun u_2 => some ((IntKind.u64.wrap (Int.tdiv lo y)), (Int.tmod lo y)) else bd (m_bits_LeadingZeros64 fu y) fun c_3 => bd (gz (IntKind.u64.wrap c_3)) fun u_4 => bd (gz (IntKind.u64.wrap c_3)) fun u_5 => bd (gz (IntKind.u64.wrap (64 - (IntKind.u64.wrap c_3)))) fun u_6 => bd (gz (IntKind.u64.wrap c_3)) fun u_7 => bd (nz (shrI .u64 (shlI .u64 y (IntKind.u64.wrap c_3)) 32)) fun u_8 => m_math_bits_Div64_L1 lo c_3 y (fun p_12 => bd (nz (shrI .u64 (shlI .u64 y (IntKind.u64.wrap c_3)) 32)) fun u_13 => m_math_bits_Div64_L2 lo c_3 y (fun p_17 => bd (gz (IntKind.u64.wrap c_3)) fun u_18 => some ((IntKind.u64.wrap ((IntKind.u64.wrap (p_12 * 4294967296)) + p_17)), (shrI .u64 (IntKind.u64.wrap ((IntKind.u64.wrap ((IntKind.u64.wrap ((IntKind.u64.wrap ((IntKind.u64.wrap ((IntKind.u64.wrap ((bits .or .u64 (shlI .u64 hi (IntKind.u64.wrap c_3)) (shrI .u64 lo (IntKind.u64.wrap (64 - (IntKind.u64.wrap c_3))))) * 4294967296)) + (shrI .u64 (shlI .u64 lo (IntKind.u64.wrap c_3)) 32))) - (IntKind.u64.wrap (p_12 * (shlI .u64 y (IntKind.u64.wrap c_3)))))) * 4294967296)) + (bits .and .u64 (shlI .u64 lo (IntKind.u64.wrap c_3)) 4294967295))) - (IntKind.u64.wrap (p_17 * (shlI .u64 y (IntKind.u64.wrap c_3)))))) (IntKind.u64.wrap c_3)))) fu ((IntKind.u64.wrap ((IntKind.u64.wrap ((IntKind.u64.wrap ((IntKind.u64.wrap ((bits .or .u64 (shlI .u64 hi (IntKind.u64.wrap c_3)) (shrI .u64 lo (IntKind.u64.wrap (64 - (IntKind.u64.wrap c_3))))) * 4294967296)) + (shrI .u64 (shlI .u64 lo (IntKind.u64.wrap c_3)) 32))) - (IntKind.u64.wrap (p_12 * (shlI .u64 y (IntKind.u64.wrap c_3)))))) - (IntKind.u64.wrap ((IntKind.u64.wrap (Int.tdiv (IntKind.u64.wrap ((IntKind.u64.wrap ((IntKind.u64.wrap ((bits .or .u64 (shlI .u64 hi (IntKind.u64.wrap c_3)) (shrI .u64 lo (IntKind.u64.wrap (64 - (IntKind.u64.wrap c_3))))) * 4294967296)) + (shrI .u64 (shlI .u64 lo (IntKind.u64.wrap c_3)) 32))) - (IntKind.u64.wrap (p_12 * (shlI .u64 y (IntKind.u64.wrap c_3)))))) (shrI .u64 (shlI .u64 y (IntKind.u64.wrap c_3)) 32))) * (shrI .u64 (shlI .u64 y (IntKind.u64.wrap c_3)) 32))))), (IntKind.u64.wrap (Int.tdiv (IntKind.u64.wrap ((IntKind.u64.wrap ((IntKind.u64.wrap ((bits .or .u64 (shlI .u64 hi (IntKind.u64.wrap c_3)) (shrI .u64 lo (IntKind.u64.wrap (64 - (IntKind.u64.wrap c_3))))) * 4294967296)) + (shrI .u64 (shlI .u64 lo (IntKind.u64.wrap c_3)) 32))) - (IntKind.u64.wrap (p_12 * (shlI .u64 y (IntKind.u64.wrap c_3)))))) (shrI .u64 (shlI .u64 y (IntKind.u64.wrap c_3)) 32))))) fu ((IntKind.u64.wrap (Int.tdiv (bits .or .u64 (shlI .u64 hi (IntKind.u64.wrap c_3)) (shrI .u64 lo (IntKind.u64.wrap (64 - (IntKind.u64.wrap c_3))))) (shrI .u64 (shlI .u64 y (IntKind.u64.wrap c_3)) 32))), (IntKind.u64.wrap ((bits .or .u64 (shlI .u64 hi (IntKind.u64.wrap c_3)) (shrI .u64 lo (IntKind.u64.wrap (64 - (IntKind.u64.wrap c_3))))) - (IntKind.u64.wrap ((IntKind.u64.wrap (Int.tdiv (bits .or .u64 (shlI .u64 hi (IntKind.u64.wrap c_3)) (shrI .u64 lo (IntKind.u64.wrap (64 - (IntKind.u64.wrap c_3))))) (shrI .u64 (shlI .u64 y (IntKind.u64.wrap c_3)) 32))) * (shrI .u64 (shlI .u64 y (IntKind.u64.wrap c_3)) 32)))))))))

def m_money_round (fu : Nat) (q : Int) (rV : Int) (dV : Int) (neg : Bool) (mode : Int) : Option Int :=
  (bif (mode == 0) then (bif (neg && (decide (0 < rV))) then some (IntKind.u64.wrap (q + 1)) else some q) else (bif (mode == 1) then (bif ((!neg) && (decide (0 < rV))) then some (IntKind.u64.wrap (q + 1)) else some q) else (bif (mode == 3) then (bif (decide (0 < rV)) then some (IntKind.u64.wrap (q + 1)) else some q) else (bif (mode == 4) then (bif (decide ((IntKind.u64.wrap (dV - rV)) ≤ rV)) then some (IntKind.u64.wrap (q + 1)) else some q) else (bif (mode == 5) then (bif ((decide ((IntKind.u64.wrap (dV - rV)) < rV)) || ((rV == (IntKind.u64.wrap (dV - rV))) && ((Int.tmod q 2) == 1))) then some (IntKind.u64.wrap (q + 1)) else some q) else some q)))))

def m_money_signed (fu : Nat) (nV : Int) (neg : Bool) : Option Int :=
  (bif neg then some (w64 (0 - (w64 nV))) else some (w64 nV))

def m_money_MulDiv (fu : Nat) (cV : Int) (num : Int) (den : Int) (m : Int) : Option (Int × Int) :=
  bd (m_money_mode fu m) fun c_1 => (bif (!c_1) then some (0, 1) else (bif (den == 0) then some (0, 12) else bd (m_money_abs fu cV) fun c_2 => (bif (decide (1000000000000000 < c_2)) then some (0, 3) else bd (m_money_abs fu num) fun c_3 => (bif (decide (1000000000 < c_3)) then some (0, 3) else bd (m_money_abs fu den) fun c_4 => (bif (decide (1000000000 < c_4)) then some (0, 3) else bd (m_money_abs fu cV) fun c_5 => bd (m_money_abs fu num) fun c_6 => bd (m_bits_Mul64 fu c_5 c_6) fun c_7 => bd (m_money_abs fu den) fun c_8 => (bif (decide (c_8 ≤ c_7.1)) then some (0, 3) else bd (m_math_bits_Div64 fu c_7.1 c_7.2 c_8) fun c_9 => (bif (decide (1000000000000000 < c_9.1)) then some (0, 3) else bd (m_money_round fu c_9.1 c_9.2 c_8 (!((!((decide (cV < 0)) == (decide (num < 0)))) == (decide (den < 0)))) m) fun c_10 => (bif (decide (1000000000000000 < c_10)) then some (0, 3) else bd (m_money_signed fu c_10 (!((!((decide (cV < 0)) == (decide (num < 0)))) == (decide (den < 0))))) fun c_11 => some (c_11, 0)))))))))

def m_rate_Apply (fu : Nat) (cV : Int) (rV : Int) (mode : Int) : Option (Int × Int) :=
  bd (m_money_MulDiv fu cV rV 1000000 mode) fun c_1 => some (c_1.1, c_1.2)

def m_rate_validMode (fu : Nat) (mode : Int) : Option Bool :=
  some ((decide (0 ≤ mode)) && (decide (mode ≤ 5)))

def m_rate_beyond (fu : Nat) (nV : Int) (limit : Int) : Option Bool :=
  some ((decide (limit < nV)) || (decide (nV < (w64 (0 - limit)))))

def m_money_DivRound (fu : Nat) (nV : Int) (dV : Int) (m : Int) : Option (Int × Int) :=
  bd (m_money_mode fu m) fun c_1 => (bif (!c_1) then some (0, 1) else (bif (dV == 0) then some (0, 12) else bd (m_money_abs fu nV) fun c_2 => (bif (decide (4611686018427387904 < c_2)) then some (0, 3) else bd (m_money_abs fu dV) fun c_3 => (bif (decide (4611686018427387904 < c_3)) then some (0, 3) else bd (m_money_abs fu nV) fun c_4 => bd (m_money_abs fu dV) fun c_5 => bd (nz c_5) fun u_6 => bd (nz c_5) fun u_7 => bd (m_money_round fu (IntKind.u64.wrap (Int.tdiv c_4 c_5)) (Int.tmod c_4 c_5) c_5 (!((decide (nV < 0)) == (decide (dV < 0)))) m) fun c_8 => bd (m_money_signed fu c_8 (!((decide (nV < 0)) == (decide (dV < 0))))) fun c_9 => some (c_9, 0)))))

def m_rate_Mul (fu : Nat) (a : Int) (b : Int) (mode : Int) : Option (Int × Int) :=
  bd (m_rate_validMode fu mode) fun c_1 => (bif (!c_1) then some (0, 1) else bd (m_rate_beyond fu a 1000000000) fun c_2 => (bif c_2 then some (0, 3) else bd (m_rate_beyond fu b 1000000000) fun c_3 => (bif c_3 then some (0, 3) else bd (m_money_DivRound fu (w64 (a * b)) 1000000 mode) fun c_4 => (bif (c_4.2 != 0) then some (0, c_4.2) else bd (m_rate_beyond fu c_4.1 1000000000) fun c_5 => (bif c_5 then some (0, 3) else some (c_4.1, 0))))))

def m_rate_abs (fu : Nat) (nV : Int) : Option Int :=
  (bif (decide (nV < 0)) then some (IntKind.u64.wrap (w64 (0 - nV))) else some (IntKind.u64.wrap nV))

def m_rate_roundUp (fu : Nat) (q : Int) (rV : Int) (den : Int) (negative : Bool) (mode : Int) : Option Bool :=
  (bif (rV == 0) then some false else (bif (mode == 0) then some negative else (bif (mode == 1) then some (!negative) else (bif (mode == 3) then some true else (bif (mode == 4) then some (decide ((IntKind.u64.wrap (den - rV)) ≤ rV)) else (bif (mode == 5) then some ((decide ((IntKind.u64.wrap (den - rV)) < rV)) || ((rV == (IntKind.u64.wrap (den - rV))) && ((Int.tmod q 2) == 1))) else some false))))))

def m_rate_FromRatio (fu : Nat) (num : Int) (den : Int) (mode : Int) : Option (Int × Int) :=
  bd (m_rate_validMode fu mode) fun c_1 => (bif (!c_1) then some (0, 1) else (bif (den == 0) then some (0, 12) else bd (m_rate_beyond fu num 1000000000000000) fun c_2 => (bif c_2 then some (0, 3) else bd (m_rate_beyond fu den 1000000000000000) fun c_3 => (bif c_3 then some (0, 3) else bd (m_rate_abs fu num) fun c_4 => bd (m_bits_Mul64 fu c_4 1000000) fun c_5 => bd (m_rate_abs fu den) fun c_6 => (bif (decide (c_6 ≤ c_5.1)) then some (0, 3) else bd (m_math_bits_Div64 fu c_5.1 c_5.2 c_6) fun c_7 => (bif (decide (1000000000 < c_7.1)) then some (0, 3) else bd (m_rate_roundUp fu c_7.1 c_7.2 c_6 (!((decide (num < 0)) == (decide (den < 0)))) mode) fun c_8 => (bif c_8 then (bif (decide (1000000000 < (IntKind.u64.wrap (c_7.1 + 1)))) then some (0, 3) else (bif (!((decide (num < 0)) == (decide (den < 0)))) then some ((w64 (0 - (w64 (IntKind.u64.wrap (c_7.1 + 1))))), 0) else some ((w64 (IntKind.u64.wrap (c_7.1 + 1))), 0))) else (bif (decide (1000000000 < c_7.1)) then some (0, 3) else (bif (!((decide (num < 0)) == (decide (den < 0)))) then some ((w64 (0 - (w64 c_7.1))), 0) else some ((w64 c_7.1), 0))))))))))

def m_money_RoundTo (fu : Nat) (cV : Int) (unit : Int) (m : Int) : Option (Int × Int) :=
  bd (m_money_mode fu m) fun c_1 => (bif (!c_1) then some (0, 1) else (bif (decide (unit < 1)) then some (0, 12) else bd (m_money_abs fu cV) fun c_2 => (bif ((decide (1000000000000000 < c_2)) || (decide (1000000000000000 < unit))) then some (0, 3) else bd (m_money_DivRound fu cV unit m) fun c_3 => (bif (c_3.2 != 0) then some (0, c_3.2) else bd (m_money_abs fu (w64 (c_3.1 * unit))) fun c_4 => (bif (decide (1000000000000000 < c_4)) then some (0, 3) else some ((w64 (c_3.1 * unit)), 0))))))

def m_eval_arithmetic (fu : Nat) (nV : MNode) (l : (List MValue)) : Option (MValue × Int) :=
  bd (ix l 0) fun e_1 => (bif (decide (1 < (ln cValue l))) then bd (ix l 1) fun e_2 => (bif (nV.op == 10) then some ((MValue.mk e_1.kind e_1.enum (w64 (0 - e_1.nF))), 0) else (bif (nV.op == 11) then some ((MValue.mk e_1.kind e_1.enum (w64 (e_1.nF + e_2.nF))), 0) else (bif (nV.op == 12) then some ((MValue.mk e_1.kind e_1.enum (w64 (e_1.nF - e_2.nF))), 0) else (bif (nV.op == 13) then bd (m_eval_limits fu e_1.kind) fun c_3 => bd (m_eval_product fu e_1.nF e_2.nF c_3.2) fun c_4 => (bif (!c_4.2) then some ((MValue.mk e_1.kind e_1.enum c_4.1), 3) else some ((MValue.mk e_1.kind e_1.enum c_4.1), 0)) else (bif (nV.op == 14) then (bif (e_1.kind == 3) then bd (m_rate_Apply fu e_1.nF e_2.nF nV.n) fun c_5 => some ((MValue.mk e_1.kind e_1.enum c_5.1), c_5.2) else bd (m_rate_Mul fu e_1.nF e_2.nF nV.n) fun c_6 => some ((MValue.mk e_1.kind e_1.enum c_6.1), c_6.2)) else (bif (nV.op == 15) then (bif (e_2.kind == 3) then bd (m_rate_FromRatio fu e_1.nF e_2.nF nV.n) fun c_7 => some ((MValue.mk 4 e_1.enum c_7.1), c_7.2) else bd (m_money_DivRound fu e_1.nF e_2.nF nV.n) fun c_8 => some ((MValue.mk e_1.kind e_1.enum c_8.1), c_8.2)) else (bif (nV.op == 16) then bd (m_money_RoundTo fu e_1.nF e_2.nF nV.n) fun c_9 => some ((MValue.mk e_1.kind e_1.enum c_9.1), c_9.2) else (bif (nV.op == 17) then some ((MValue.mk e_1.kind e_1.enum (minI e_1.nF e_2.nF)), 0) else (bif (nV.op == 18) then some ((MValue.mk e_1.kind e_1.enum (maxI e_1.nF e_2.nF)), 0) else some ((MValue.mk e_1.kind e_1.enum 0), 0)))))))))) else (bif (nV.op == 10) then some ((MValue.mk e_1.kind e_1.enum (w64 (0 - e_1.nF))), 0) else (bif (nV.op == 11) then some ((MValue.mk e_1.kind e_1.enum (w64 (e_1.nF + 0))), 0) else (bif (nV.op == 12) then some ((MValue.mk e_1.kind e_1.enum (w64 (e_1.nF - 0))), 0) else (bif (nV.op == 13) then bd (m_eval_limits fu e_1.kind) fun c_10 => bd (m_eval_product fu e_1.nF 0 c_10.2) fun c_11 => (bif (!c_11.2) then some ((MValue.mk e_1.kind e_1.enum c_11.1), 3) else some ((MValue.mk e_1.kind e_1.enum c_11.1), 0)) else (bif (nV.op == 14) then (bif (e_1.kind == 3) then bd (m_rate_Apply fu e_1.nF 0 nV.n) fun c_12 => some ((MValue.mk e_1.kind e_1.enum c_12.1), c_12.2) else bd (m_rate_Mul fu e_1.nF 0 nV.n) fun c_13 => some ((MValue.mk e_1.kind e_1.enum c_13.1), c_13.2)) else (bif (nV.op == 15) then bd (m_money_DivRound fu e_1.nF 0 nV.n) fun c_14 => some ((MValue.mk e_1.kind e_1.enum c_14.1), c_14.2) else (bif (nV.op == 16) then bd (m_money_RoundTo fu e_1.nF 0 nV.n) fun c_15 => some ((MValue.mk e_1.kind e_1.enum c_15.1), c_15.2) else (bif (nV.op == 17) then some ((MValue.mk e_1.kind e_1.enum (minI e_1.nF 0)), 0) else (bif (nV.op == 18) then some ((MValue.mk e_1.kind e_1.enum (maxI e_1.nF 0)), 0) else some ((MValue.mk e_1.kind e_1.enum 0), 0)))))))))))

def m_date_valid (fu : Nat) (date : Int) : Option Bool :=
  some ((decide (0 ≤ date)) && (decide (date ≤ 109572)))

def m_date_IsLeap (fu : Nat) (y : Int) : Option Bool :=
  some (((Int.tmod y 4) == 0) && (((Int.tmod y 100) != 0) || ((Int.tmod y 400) == 0)))

def m_date_daysInYear (fu : Nat) (y : Int) : Option Int :=
  bd (m_date_IsLeap fu y) fun c_1 => (bif c_1 then some 366 else some 365)

def m_date_ToYMD_L2 (fu : Nat) (p_7 : (Int × Int)) (k_2 : ((Int × Int) → Option (Int × Int × Int))) : Nat → (Int × Nat) → Option (Int × Int × Int)
  | 0, _ => none
  | fl_10 + 1, (date_8, m_9) => bd (m_date_DaysInMonth fu p_7.2 (nI m_9)) fun c_11 => (bif (decide (c_11 ≤ date_8)) then bd (m_date_DaysInMonth fu p_7.2 (nI m_9)) fun c_12 => cnt m_9 (m_date_ToYMD_L2 fu p_7 k_2 fl_10 ((w64 (date_8 - c_12)), m_9 + 1)) else k_2 (date_8, (nI m_9)))

def m_date_ToYMD_L1 (fu : Nat) (k_1 : ((Int × Int) → Option (Int × Int × Int))) : Nat → (Int × Nat) → Option (Int × Int × Int)
  | 0, _ => none
  | fl_4 + 1, (date_2, y_3) => bd (m_date_daysInYear fu (nI y_3)) fun c_5 => (bif (decide (c_5 ≤ date_2)) then bd (m_date_daysInYear fu (nI y_3)) fun c_6 => cnt y_3 (m_date_ToYMD_L1 fu k_1 fl_4 ((w64 (date_2 - c_6)), y_3 + 1)) else k_1 (date_2, (nI y_3)))

def m_date_ToYMD (fu : Nat) (date : Int) : Option (Int × Int × Int) :=
  bd (m_date_valid fu date) fun c_1 => (bif (!c_1) then some (0, 0, 0) else m_date_ToYMD_L1 fu (fun p_7 => m_date_ToYMD_L2 fu p_7 (fun p_13 => some (p_7.2, p_13.2, (w64 (p_13.1 + 1)))) fu (p_7.1, 1)) fu (date, 1900))

def m_date_FromYMD_L2 (m : Int) (fu : Nat) (y : Int) (k_2 : (Int → Option (Int × Int))) : Nat → (Int × Nat) → Option (Int × Int)
  | 0, _ => none
  | fl_9 + 1, (n_7, t43_8) => (bif (decide ((nI t43_8) < (w64 (m - 1)))) then bd (m_date_DaysInMonth fu y (w64 ((nI t43_8) + 1))) fun c_10 => cnt t43_8 (m_date_FromYMD_L2 m fu y k_2 fl_9 ((w64 (n_7 + c_10)), t43_8 + 1)) else k_2 n_7)

def m_date_FromYMD_L1 (y : Int) (fu : Nat) (k_1 : (Int → Option (Int × Int))) : Nat → (Int × Nat) → Option (Int × Int)
  | 0, _ => none
  | fl_4 + 1, (n_2, t32_3) => (bif (decide ((nI t32_3) < (w64 (y - 1900)))) then bd (m_date_daysInYear fu (w64 (1900 + (nI t32_3)))) fun c_5 => cnt t32_3 (m_date_FromYMD_L1 y fu k_1 fl_4 ((w64 (n_2 + c_5)), t32_3 + 1)) else k_1 n_2)

def m_date_FromYMD (fu : Nat) (y : Int) (m : Int) (dV : Int) : Option (Int × Int) :=
  (bif (((decide (y < 1900)) || (decide (2199 < y))) || (decide (dV < 1))) then some (0, 3) else bd (m_date_DaysInMonth fu y m) fun c_1 => (bif (decide (c_1 < dV)) then some (0, 3) else m_date_FromYMD_L1 y fu (fun p_6 => m_date_FromYMD_L2 m fu y (fun p_11 => some (p_11, 0)) fu (p_6, 0)) fu ((w64 (dV - 1)), 0)))

def m_date_AddMonths (fu : Nat) (date : Int) (nV : Int) : Option (Int × Int) :=
  bd (m_date_valid fu date) fun c_1 => (bif (((!c_1) || (decide (nV < (-3600)))) || (decide (3600 < nV))) then some (0, 3) else bd (m_date_ToYMD fu date) fun c_2 => bd (m_date_DaysInMonth fu (w64 (Int.tdiv (w64 ((w64 ((w64 ((w64 (12 * c_2.1)) + c_2.2.1)) - 1)) + nV)) 12)) (w64 ((Int.tmod (w64 ((w64 ((w64 ((w64 (12 * c_2.1)) + c_2.2.1)) - 1)) + nV)) 12) + 1))) fun c_3 => bd (m_date_FromYMD fu (w64 (Int.tdiv (w64 ((w64 ((w64 ((w64 (12 * c_2.1)) + c_2.2.1)) - 1)) + nV)) 12)) (w64 ((Int.tmod (w64 ((w64 ((w64 ((w64 (12 * c_2.1)) + c_2.2.1)) - 1)) + nV)) 12) + 1)) (minI c_2.2.2 c_3)) fun c_4 => some (c_4.1, c_4.2))

def m_date_YearsBetween (fu : Nat) (a : Int) (b : Int) : Option Int :=
  bd (m_date_valid fu a) fun c_1 => (bif (!c_1) then some 0 else bd (m_date_valid fu b) fun c_2 => (bif ((!c_2) || (decide (b < a))) then some 0 else bd (m_date_ToYMD fu a) fun c_3 => bd (m_date_ToYMD fu b) fun c_4 => bd (m_date_AddMonths fu a (w64 (12 * (w64 (c_4.1 - c_3.1))))) fun c_5 => (bif ((c_5.2 != 0) || (decide (b < c_5.1))) then some (w64 ((w64 (c_4.1 - c_3.1)) - 1)) else some (w64 (c_4.1 - c_3.1)))))

def m_eval_dates (fu : Nat) (nV : MNode) (l : (List MValue)) : Option (MValue × Int) :=
  bd (ix l 0) fun e_1 => bd (m_date_ToYMD fu e_1.nF) fun c_2 => (bif (nV.op == 27) then bd (ix l 0) fun e_3 => bd (ix l 1) fun e_4 => some ((MValue.mk 5 0 (w64 (e_3.nF + e_4.nF))), 0) else (bif (nV.op == 28) then bd (ix l 0) fun e_5 => bd (ix l 1) fun e_6 => bd (m_date_AddMonths fu e_5.nF e_6.nF) fun c_7 => some ((MValue.mk 5 0 c_7.1), c_7.2) else (bif (nV.op == 29) then bd (ix l 1) fun e_8 => bd (ix l 0) fun e_9 => some ((MValue.mk 2 0 (w64 (e_8.nF - e_9.nF))), 0) else (bif (nV.op == 30) then bd (ix l 0) fun e_10 => bd (ix l 1) fun e_11 => bd (m_date_YearsBetween fu e_10.nF e_11.nF) fun c_12 => some ((MValue.mk 2 0 c_12), 0) else (bif (nV.op == 31) then some ((MValue.mk 2 0 c_2.1), 0) else (bif (nV.op == 32) then some ((MValue.mk 2 0 c_2.2.1), 0) else some ((MValue.mk 2 0 0), 0)))))))

def m_eval_members_L1 (env : MEnv) (fu : Nat) (nV : MNode) (e_1 : MTy) (k_1 : (Int → Option (MValue × Int))) : Nat → (Nat × Int) → Option (MValue × Int)
  | 0, _ => none
  | fl_4 + 1, (t27_2, lf_3) => (bif (decide ((nI t27_2) < (ln (cSlc 3 cValue) env.members))) then bd (ix env.members (nI t27_2)) fun e_5 => bd (m_eval_inside fu nV.n (ln cValue e_5)) fun c_6 => (bif (!c_6) then some ((MValue.mk 0 0 0), 6) else bd (ix e_5 nV.n) fun e_7 => (bif (e_7.kind == 0) then some ((MValue.mk 0 0 0), 6) else bd (ix e_5 nV.n) fun e_8 => bd (m_eval_has fu e_8 e_1) fun c_9 => (bif (!c_9) then some ((MValue.mk 0 0 0), 8) else (bif (nV.op == 36) then bd (m_eval_plausible fu (MValue.mk e_1.kind 0 (w64 (lf_3 + e_8.nF)))) fun c_10 => (bif (!c_10) then some ((MValue.mk 0 0 0), 3) else cnt t27_2 (m_eval_members_L1 env fu nV e_1 k_1 fl_4 (t27_2 + 1, (w64 (lf_3 + e_8.nF))))) else (bif (nV.op == 37) then cnt t27_2 (m_eval_members_L1 env fu nV e_1 k_1 fl_4 (t27_2 + 1, (bits .and .i64 lf_3 e_8.nF))) else (bif (nV.op == 38) then cnt t27_2 (m_eval_members_L1 env fu nV e_1 k_1 fl_4 (t27_2 + 1, (bits .or .i64 lf_3 e_8.nF))) else (bif (nV.op == 39) then (bif (((nI t27_2) == 0) || (decide (lf_3 < e_8.nF))) then cnt t27_2 (m_eval_members_L1 env fu nV e_1 k_1 fl_4 (t27_2 + 1, e_8.nF)) else cnt t27_2 (m_eval_members_L1 env fu nV e_1 k_1 fl_4 (t27_2 + 1, lf_3))) else cnt t27_2 (m_eval_members_L1 env fu nV e_1 k_1 fl_4 (t27_2 + 1, lf_3))))))))) else k_1 lf_3)

def m_eval_members_L2 (env : MEnv) (fu : Nat) (nV : MNode) (e_1 : MTy) (k_2 : (Int → Option (MValue × Int))) : Nat → (Nat × Int) → Option (MValue × Int)
  | 0, _ => none
  | fl_14 + 1, (t27_12, lf_13) => (bif (decide ((nI t27_12) < (ln (cSlc 3 cValue) env.members))) then bd (ix env.members (nI t27_12)) fun e_15 => bd (m_eval_inside fu nV.n (ln cValue e_15)) fun c_16 => (bif (!c_16) then some ((MValue.mk 0 0 0), 6) else bd (ix e_15 nV.n) fun e_17 => (bif (e_17.kind == 0) then some ((MValue.mk 0 0 0), 6) else bd (ix e_15 nV.n) fun e_18 => bd (m_eval_has fu e_18 e_1) fun c_19 => (bif (!c_19) then some ((MValue.mk 0 0 0), 8) else (bif (nV.op == 36) then bd (m_eval_plausible fu (MValue.mk e_1.kind 0 (w64 (lf_13 + e_18.nF)))) fun c_20 => (bif (!c_20) then some ((MValue.mk 0 0 0), 3) else cnt t27_12 (m_eval_members_L2 env fu nV e_1 k_2 fl_14 (t27_12 + 1, (w64 (lf_13 + e_18.nF))))) else (bif (nV.op == 37) then cnt t27_12 (m_eval_members_L2 env fu nV e_1 k_2 fl_14 (t27_12 + 1, (bits .and .i64 lf_13 e_18.nF))) else (bif (nV.op == 38) then cnt t27_12 (m_eval_members_L2 env fu nV e_1 k_2 fl_14 (t27_12 + 1, (bits .or .i64 lf_13 e_18.nF))) else (bif (nV.op == 39) then (bif (((nI t27_12) == 0) || (decide (lf_13 < e_18.nF))) then cnt t27_12 (m_eval_members_L2 env fu nV e_1 k_2 fl_14 (t27_12 + 1, e_18.nF)) else cnt t27_12 (m_eval_members_L2 env fu nV e_1 k_2 fl_14 (t27_12 + 1, lf_13))) else cnt t27_12 (m_eval_members_L2 env fu nV e_1 k_2 fl_14 (t27_12 + 1, lf_13))))))))) else k_2 lf_13)

def m_eval_members (fu : Nat) (nV : MNode) (env : MEnv) : Option (MValue × Int) :=
  bd (ix env.memberTypes nV.n) fun e_1 => (bif (nV.op == 37) then m_eval_members_L1 env fu nV e_1 (fun p_11 => (bif ((nV.op == 39) && ((ln (cSlc 3 cValue) env.members) == 0)) then some ((MValue.mk 0 0 0), 6) else some ((MValue.mk e_1.kind 0 p_11), 0))) fu (0, 1) else m_eval_members_L2 env fu nV e_1 (fun p_21 => (bif ((nV.op == 39) && ((ln (cSlc 3 cValue) env.members) == 0)) then some ((MValue.mk 0 0 0), 6) else some ((MValue.mk e_1.kind 0 p_21), 0))) fu (0, 0))

def m_table_Lookup_L1 (t : MTable) (fu : Nat) (date : Int) (key : Int) (k_1 : (Unit → Option (Int × Bool))) : Nat → (Nat) → Option (Int × Bool)
  | 0, _ => none
  | fl_2 + 1, t13_1 => (bif (decide ((nI t13_1) < (ln cRow t.rows))) then bd (ix t.rows (nI t13_1)) fun e_3 => bd (m_daterange_Contains fu e_3.valid date) fun c_4 => (bif ((c_4 && (decide (e_3.lo ≤ key))) && (decide (key < e_3.hi))) then some ((nI t13_1), true) else cnt t13_1 (m_table_Lookup_L1 t fu date key k_1 fl_2 (t13_1 + 1))) else k_1 ())

def m_table_Lookup (fu : Nat) (t : MTable) (date : Int) (key : Int) : Option (Int × Bool) :=
  m_table_Lookup_L1 t fu date key (fun p_5 => some (0, false)) fu 0

def m_table_contribution (fu : Nat) (rV : MRow) (cV : Int) : Option (Int × Int × Bool) :=
  (bif (decide ((minI rV.hi cV) ≤ (maxI rV.lo 0))) then some (0, 0, true) else (bif (decide (rV.n < 0)) then bd (m_bits_Mul64 fu (IntKind.u64.wrap (w64 ((minI rV.hi cV) - (maxI rV.lo 0)))) (IntKind.u64.wrap (0 - (IntKind.u64.wrap rV.n)))) fun c_1 => (bif (decide (1000000 ≤ c_1.1)) then some (0, 0, false) else bd (m_math_bits_Div64 fu c_1.1 c_1.2 1000000) fun c_2 => (bif (decide (1000000000000000 < c_2.1)) then some (0, 0, false) else (bif (decide (rV.n < 0)) then some ((w64 (0 - (w64 c_2.1))), (w64 (0 - (w64 c_2.2))), true) else some ((w64 c_2.1), (w64 c_2.2), true)))) else bd (m_bits_Mul64 fu (IntKind.u64.wrap (w64 ((minI rV.hi cV) - (maxI rV.lo 0)))) (IntKind.u64.wrap rV.n)) fun c_3 => (bif (decide (1000000 ≤ c_3.1)) then some (0, 0, false) else bd (m_math_bits_Div64 fu c_3.1 c_3.2 1000000) fun c_4 => (bif (decide (1000000000000000 < c_4.1)) then some (0, 0, false) else (bif (decide (rV.n < 0)) then some ((w64 (0 - (w64 c_4.1))), (w64 (0 - (w64 c_4.2))), true) else some ((w64 c_4.1), (w64 c_4.2), true))))))

end Go.Ab
