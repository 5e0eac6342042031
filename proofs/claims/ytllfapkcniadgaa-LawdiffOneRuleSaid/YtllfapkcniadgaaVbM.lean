/- Mirrored models of the functions, by my generator. -/
import Derived.Test.YtllfapkcniadgaaAbGen
import Derived.Test.YtllfapkcniadgaaAbDiff
set_option linter.unusedVariables false
noncomputable section
namespace Go.Ab

structure MLawError where
  code : Int
  sectionF : Int
  item : Int
  element : Int
deriving DecidableEq
def cLawError (x : MLawError) : List D := [(iD x.code), (iD x.sectionF), (iD x.item), (iD x.element)]
structure MSignature where
  enums : (List MEnum)
  tables : (List MTable)
  inputs : (List MTy)
  defs : (List MTy)
  memberDefs : (List MTy)
  hasMembers : Bool
deriving DecidableEq
def cSignature (x : MSignature) : List D := [(.slice 2 (List.map cEnum x.enums)), (.slice 6 (List.map cTable x.tables)), (.slice 2 (List.map cTy x.inputs)), (.slice 2 (List.map cTy x.defs)), (.slice 2 (List.map cTy x.memberDefs)), (.bool x.hasMembers)]

def m_ref08_lower (fu : Nat) (cV : Int) : Option Bool :=
  some ((decide (97 ≤ cV)) && (decide (cV ≤ 122)))

def m_ref08_digit (fu : Nat) (cV : Int) : Option Bool :=
  some ((decide (48 ≤ cV)) && (decide (cV ≤ 57)))

def m_ref08_word (fu : Nat) (cV : Int) : Option Bool :=
  bd (m_ref08_lower fu cV) fun c_1 => (bif c_1 then some true else bd (m_ref08_digit fu cV) fun c_2 => some (c_2 || (cV == 95)))

def m_ref08_Reserved (fu : Nat) : Option (List BA) :=
  some [⟨#[105, 102]⟩, ⟨#[116, 104, 101, 110]⟩, ⟨#[101, 108, 115, 101]⟩, ⟨#[111, 114]⟩, ⟨#[97, 110, 100]⟩, ⟨#[110, 111, 116]⟩, ⟨#[116, 114, 117, 101]⟩, ⟨#[102, 97, 108, 115, 101]⟩, ⟨#[116, 111, 100, 97, 121]⟩, ⟨#[115, 104, 97, 114, 101]⟩, ⟨#[100, 105, 118]⟩, ⟨#[114, 111, 117, 110, 100]⟩, ⟨#[109, 105, 110]⟩, ⟨#[109, 97, 120]⟩, ⟨#[112, 108, 117, 115]⟩, ⟨#[109, 111, 110, 116, 104, 115]⟩, ⟨#[100, 97, 121, 115]⟩, ⟨#[121, 101, 97, 114, 115]⟩, ⟨#[121, 101, 97, 114]⟩, ⟨#[109, 111, 110, 116, 104]⟩, ⟨#[116, 97, 98]⟩, ⟨#[98, 97, 110, 100]⟩, ⟨#[99, 111, 117, 110, 116]⟩, ⟨#[115, 117, 109]⟩, ⟨#[97, 108, 108]⟩, ⟨#[97, 110, 121]⟩, ⟨#[109, 111, 115, 116]⟩, ⟨#[101, 110, 117, 109]⟩, ⟨#[116, 97, 98, 108, 101]⟩, ⟨#[114, 111, 119]⟩, ⟨#[115, 99, 111, 112, 101]⟩, ⟨#[109, 101, 109, 98, 101, 114, 115]⟩, ⟨#[105, 110, 112, 117, 116]⟩, ⟨#[100, 101, 102]⟩, ⟨#[114, 117, 108, 101]⟩, ⟨#[111, 102]⟩, ⟨#[111, 118, 101, 114]⟩, ⟨#[112, 114, 105, 111]⟩, ⟨#[102, 114, 111, 109]⟩, ⟨#[116, 111]⟩, ⟨#[101, 110, 100]⟩, ⟨#[119, 104, 101, 110]⟩, ⟨#[105, 115]⟩, ⟨#[115, 114, 99]⟩, ⟨#[98, 111, 111, 108]⟩, ⟨#[105, 110, 116]⟩, ⟨#[109, 111, 110, 101, 121]⟩, ⟨#[114, 97, 116, 101]⟩, ⟨#[100, 97, 116, 101]⟩, ⟨#[100, 111, 119, 110]⟩, ⟨#[117, 112]⟩, ⟨#[122, 101, 114, 111]⟩, ⟨#[97, 119, 97, 121]⟩, ⟨#[104, 97, 108, 102]⟩, ⟨#[101, 118, 101, 110]⟩]

def m_ref08_IsIdentifier_L2 (c_8 : (List BA)) (s : BA) (k_2 : (Unit → Option Bool)) : Nat → (Nat) → Option Bool
  | 0, _ => none
  | fl_10 + 1, i_9 => (bif (decide ((nI i_9) < (ln cStr c_8))) then bd (ix c_8 (nI i_9)) fun e_11 => (bif (decide (e_11 = s)) then some false else cnt i_9 (m_ref08_IsIdentifier_L2 c_8 s k_2 fl_10 (i_9 + 1))) else k_2 ())

def m_ref08_IsIdentifier_L1 (s : BA) (fu : Nat) (k_1 : (Unit → Option Bool)) : Nat → (Nat) → Option Bool
  | 0, _ => none
  | fl_4 + 1, i_3 => (bif (decide ((nI i_3) < (sz s))) then bd (strAt s (nI i_3)) fun b_5 => bd (m_ref08_word fu b_5) fun c_6 => (bif (!c_6) then some false else cnt i_3 (m_ref08_IsIdentifier_L1 s fu k_1 fl_4 (i_3 + 1))) else k_1 ())

def m_ref08_IsIdentifier (fu : Nat) (s : BA) : Option Bool :=
  (bif (((sz s) == 0) || (decide (16 < (sz s)))) then some false else bd (strAt s 0) fun b_1 => bd (m_ref08_lower fu b_1) fun c_2 => (bif (!c_2) then some false else m_ref08_IsIdentifier_L1 s fu (fun p_7 => bd (m_ref08_Reserved fu) fun c_8 => m_ref08_IsIdentifier_L2 c_8 s (fun p_12 => some true) fu 0) fu 0))

def m_ref17_nameTaken_L3 (l : MLaw) (sectionV : Int) (item : Int) (name : BA) (k_3 : (Unit → Option Bool)) : Nat → (Nat) → Option Bool
  | 0, _ => none
  | fl_10 + 1, i_9 => (bif (decide ((nI i_9) < (ln cScope l.scopes))) then (bif ((sectionV == 3) && (decide ((nI i_9) < item))) then bd (ix l.scopes (nI i_9)) fun e_11 => (bif (decide (e_11.name = name)) then some true else cnt i_9 (m_ref17_nameTaken_L3 l sectionV item name k_3 fl_10 (i_9 + 1))) else cnt i_9 (m_ref17_nameTaken_L3 l sectionV item name k_3 fl_10 (i_9 + 1))) else k_3 ())

def m_ref17_nameTaken_L2 (l : MLaw) (sectionV : Int) (item : Int) (name : BA) (k_2 : (Unit → Option Bool)) : Nat → (Nat) → Option Bool
  | 0, _ => none
  | fl_6 + 1, i_5 => (bif (decide ((nI i_5) < (ln cTable l.tables))) then (bif ((decide (2 < sectionV)) || ((sectionV == 2) && (decide ((nI i_5) < item)))) then bd (ix l.tables (nI i_5)) fun e_7 => (bif (decide (e_7.name = name)) then some true else cnt i_5 (m_ref17_nameTaken_L2 l sectionV item name k_2 fl_6 (i_5 + 1))) else cnt i_5 (m_ref17_nameTaken_L2 l sectionV item name k_2 fl_6 (i_5 + 1))) else k_2 ())

def m_ref17_nameTaken_L1 (l : MLaw) (sectionV : Int) (item : Int) (name : BA) (k_1 : (Unit → Option Bool)) : Nat → (Nat) → Option Bool
  | 0, _ => none
  | fl_2 + 1, i_1 => (bif (decide ((nI i_1) < (ln cEnum l.enums))) then (bif ((decide (1 < sectionV)) || (decide ((nI i_1) < item))) then bd (ix l.enums (nI i_1)) fun e_3 => (bif (decide (e_3.name = name)) then some true else cnt i_1 (m_ref17_nameTaken_L1 l sectionV item name k_1 fl_2 (i_1 + 1))) else cnt i_1 (m_ref17_nameTaken_L1 l sectionV item name k_1 fl_2 (i_1 + 1))) else k_1 ())

def m_ref17_nameTaken (fu : Nat) (l : MLaw) (sectionV : Int) (item : Int) (name : BA) : Option Bool :=
  m_ref17_nameTaken_L1 l sectionV item name (fun p_4 => m_ref17_nameTaken_L2 l sectionV item name (fun p_8 => m_ref17_nameTaken_L3 l sectionV item name (fun p_12 => some false) fu 0) fu 0) fu 0

def m_ref17_enumError_L2 (i_4 : Nat) (e_1 : MEnum) (ob_5 : MLawError) (k_2 : (Unit → Option MLawError)) : Nat → (Nat) → Option MLawError
  | 0, _ => none
  | fl_10 + 1, k_9 => (bif (decide ((nI k_9) < (nI i_4))) then bd (ix e_1.members (nI k_9)) fun e_11 => bd (ix e_1.members (nI i_4)) fun e_12 => (bif (decide (e_11 = e_12)) then some (MLawError.mk 7 ob_5.sectionF ob_5.item (w64 (100 + (nI i_4)))) else cnt k_9 (m_ref17_enumError_L2 i_4 e_1 ob_5 k_2 fl_10 (k_9 + 1))) else k_2 ())

def m_ref17_enumError_L1 (e_1 : MEnum) (fu : Nat) (k_1 : (MLawError → Option MLawError)) : Nat → (Nat × MLawError) → Option MLawError
  | 0, _ => none
  | fl_6 + 1, (i_4, ob_5) => (bif (decide ((nI i_4) < (ln cStr e_1.members))) then bd (ix e_1.members (nI i_4)) fun e_7 => bd (m_ref08_IsIdentifier fu e_7) fun c_8 => (bif (!c_8) then some (MLawError.mk 2 ob_5.sectionF ob_5.item (w64 (100 + (nI i_4)))) else m_ref17_enumError_L2 i_4 e_1 ob_5 (fun p_13 => cnt i_4 (m_ref17_enumError_L1 e_1 fu k_1 fl_6 (i_4 + 1, (MLawError.mk ob_5.code ob_5.sectionF ob_5.item (w64 (100 + (nI i_4))))))) fu 0) else k_1 ob_5)

def m_ref17_enumError (fu : Nat) (l : MLaw) (atV : Int) : Option MLawError :=
  bd (ix l.enums atV) fun e_1 => bd (m_ref08_IsIdentifier fu e_1.name) fun c_2 => (bif (!c_2) then some (MLawError.mk 2 1 atV 0) else bd (m_ref17_nameTaken fu l 1 atV e_1.name) fun c_3 => (bif c_3 then some (MLawError.mk 7 1 atV 0) else (bif ((ln cStr e_1.members) == 0) then some (MLawError.mk 5 1 atV 0) else (bif (decide (16 < (ln cStr e_1.members))) then some (MLawError.mk 4 1 atV 116) else m_ref17_enumError_L1 e_1 fu (fun p_14 => some (MLawError.mk 0 0 0 0)) fu (0, (MLawError.mk 0 1 atV 0))))))

def m_ref09_ValidType (fu : Nat) (t : MTy) (enums : (List MEnum)) : Option Bool :=
  (bif (t.kind == 6) then some ((decide (0 ≤ t.en)) && (decide (t.en < (ln cEnum enums)))) else some (((decide (1 ≤ t.kind)) && (decide (t.kind ≤ 5))) && (t.en == 0)))

def m_ref05_Valid (fu : Nat) (rV : MRange) : Option Bool :=
  some (((decide (0 ≤ rV.fr)) && (decide (rV.fr ≤ rV.to))) && (decide (rV.to ≤ 109573)))

def m_ref09_Bounds (fu : Nat) (t : MTy) (enums : (List MEnum)) : Option (Int × Int) :=
  bd (m_ref09_ValidType fu t enums) fun c_1 => (bif (!c_1) then some (0, (-1)) else (bif (t.kind == 1) then some (0, 1) else (bif (t.kind == 2) then some ((-1000000000000), 1000000000000) else (bif (t.kind == 3) then some ((-1000000000000000), 1000000000000000) else (bif (t.kind == 4) then some ((-1000000000), 1000000000) else (bif (t.kind == 5) then some (0, 109572) else bd (ix enums t.en) fun e_2 => some (0, (w64 ((ln cStr e_2.members) - 1)))))))))

def m_ref09_In (fu : Nat) (nV : Int) (t : MTy) (enums : (List MEnum)) : Option Bool :=
  bd (m_ref09_Bounds fu t enums) fun c_1 => some ((decide (c_1.1 ≤ nV)) && (decide (nV ≤ c_1.2)))

def m_ref12_wrong (fu : Nat) (xV : MRow) (t : MTable) (enums : (List MEnum)) : Option Bool :=
  bd (m_ref05_Valid fu xV.valid) fun c_1 => (bif (((!c_1) || (xV.valid.fr == xV.valid.to)) || (decide (xV.hi ≤ xV.lo))) then some true else bd (m_ref09_In fu xV.lo t.key enums) fun c_2 => (bif (!c_2) then some true else bd (m_ref09_In fu (w64 (xV.hi - 1)) t.key enums) fun c_3 => (bif (!c_3) then some true else bd (m_ref09_In fu xV.n t.val enums) fun c_4 => some (!c_4))))

def m_ref05_Intersect (fu : Nat) (a : MRange) (b : MRange) : Option (MRange × Bool) :=
  bd (m_ref05_Valid fu a) fun c_1 => (bif (!c_1) then some ((MRange.mk 0 0), false) else bd (m_ref05_Valid fu b) fun c_2 => (bif (!c_2) then some ((MRange.mk 0 0), false) else (bif (decide ((minI a.to b.to) ≤ (maxI a.fr b.fr))) then some ((MRange.mk 0 0), false) else some ((MRange.mk (maxI a.fr b.fr) (minI a.to b.to)), true))))

def m_ref12_conflict (fu : Nat) (a : MRow) (b : MRow) : Option Bool :=
  bd (m_ref05_Intersect fu a.valid b.valid) fun c_1 => some (c_1.2 && (decide ((maxI a.lo b.lo) < (minI a.hi b.hi))))

def m_ref12_Validate_L2 (i_3 : Nat) (t : MTable) (fu : Nat) (k_2 : (Unit → Option (Int × Int))) : Nat → (Nat) → Option (Int × Int)
  | 0, _ => none
  | fl_8 + 1, k_7 => (bif (decide ((nI k_7) < (nI i_3))) then bd (ix t.rows (nI k_7)) fun e_9 => bd (ix t.rows (nI i_3)) fun e_10 => bd (m_ref12_conflict fu e_9 e_10) fun c_11 => (bif c_11 then some ((nI i_3), 11) else cnt k_7 (m_ref12_Validate_L2 i_3 t fu k_2 fl_8 (k_7 + 1))) else k_2 ())

def m_ref12_Validate_L1 (t : MTable) (fu : Nat) (enums : (List MEnum)) (k_1 : (Unit → Option (Int × Int))) : Nat → (Nat) → Option (Int × Int)
  | 0, _ => none
  | fl_4 + 1, i_3 => (bif (decide ((nI i_3) < (ln cRow t.rows))) then bd (ix t.rows (nI i_3)) fun e_5 => bd (m_ref12_wrong fu e_5 t enums) fun c_6 => (bif c_6 then some ((nI i_3), 3) else m_ref12_Validate_L2 i_3 t fu (fun p_12 => cnt i_3 (m_ref12_Validate_L1 t fu enums k_1 fl_4 (i_3 + 1))) fu 0) else k_1 ())

def m_ref12_Validate (fu : Nat) (t : MTable) (enums : (List MEnum)) : Option (Int × Int) :=
  (bif (decide (64 < (ln cRow t.rows))) then some (64, 4) else bd (m_ref09_ValidType fu t.key enums) fun c_1 => (bif (!c_1) then some ((-1), 8) else bd (m_ref09_ValidType fu t.val enums) fun c_2 => (bif (!c_2) then some ((-1), 8) else m_ref12_Validate_L1 t fu enums (fun p_13 => some (0, 0)) fu 0)))

def m_ref17_tableError (fu : Nat) (l : MLaw) (atV : Int) : Option MLawError :=
  bd (ix l.tables atV) fun e_1 => bd (m_ref08_IsIdentifier fu e_1.name) fun c_2 => (bif (!c_2) then some (MLawError.mk 2 2 atV 0) else bd (m_ref17_nameTaken fu l 2 atV e_1.name) fun c_3 => (bif c_3 then some (MLawError.mk 7 2 atV 0) else bd (m_ref12_Validate fu e_1 l.enums) fun c_4 => (bif (c_4.2 == 0) then some (MLawError.mk 0 0 0 0) else (bif (decide (0 ≤ c_4.1)) then some (MLawError.mk c_4.2 2 atV (w64 (100 + c_4.1))) else some (MLawError.mk c_4.2 2 atV 0)))))

def m_ref17_hasField_L1 (nV : Int) (l : (List MField)) (name : BA) (k_1 : (Unit → Option Bool)) : Nat → (Nat) → Option Bool
  | 0, _ => none
  | fl_2 + 1, i_1 => (bif ((decide ((nI i_1) < nV)) && (decide ((nI i_1) < (ln cField l)))) then bd (ix l (nI i_1)) fun e_3 => (bif (decide (e_3.name = name)) then some true else cnt i_1 (m_ref17_hasField_L1 nV l name k_1 fl_2 (i_1 + 1))) else k_1 ())

def m_ref17_hasField (fu : Nat) (l : (List MField)) (nV : Int) (name : BA) : Option Bool :=
  m_ref17_hasField_L1 nV l name (fun p_4 => some false) fu 0

def m_ref17_fieldError_L2 (e_1 : MScope) (fu : Nat) (atV : Int) (l : MLaw) (k_2 : (Unit → Option MLawError)) : Nat → (Nat) → Option MLawError
  | 0, _ => none
  | fl_12 + 1, i_11 => (bif (decide ((nI i_11) < (ln cField e_1.defs))) then bd (ix e_1.defs (nI i_11)) fun e_13 => bd (m_ref08_IsIdentifier fu e_13.name) fun c_14 => (bif (!c_14) then some (MLawError.mk 2 3 atV (w64 (200 + (nI i_11)))) else bd (ix e_1.defs (nI i_11)) fun e_15 => bd (m_ref17_hasField fu e_1.inputs (ln cField e_1.inputs) e_15.name) fun c_16 => (bif c_16 then some (MLawError.mk 7 3 atV (w64 (200 + (nI i_11)))) else bd (ix e_1.defs (nI i_11)) fun e_17 => bd (m_ref17_hasField fu e_1.defs (nI i_11) e_17.name) fun c_18 => (bif c_18 then some (MLawError.mk 7 3 atV (w64 (200 + (nI i_11)))) else bd (ix e_1.defs (nI i_11)) fun e_19 => bd (m_ref09_ValidType fu e_19.ty l.enums) fun c_20 => (bif (!c_20) then some (MLawError.mk 8 3 atV (w64 (200 + (nI i_11)))) else cnt i_11 (m_ref17_fieldError_L2 e_1 fu atV l k_2 fl_12 (i_11 + 1)))))) else k_2 ())

def m_ref17_fieldError_L1 (e_1 : MScope) (fu : Nat) (atV : Int) (l : MLaw) (k_1 : (Unit → Option MLawError)) : Nat → (Nat) → Option MLawError
  | 0, _ => none
  | fl_3 + 1, i_2 => (bif (decide ((nI i_2) < (ln cField e_1.inputs))) then bd (ix e_1.inputs (nI i_2)) fun e_4 => bd (m_ref08_IsIdentifier fu e_4.name) fun c_5 => (bif (!c_5) then some (MLawError.mk 2 3 atV (w64 (100 + (nI i_2)))) else bd (ix e_1.inputs (nI i_2)) fun e_6 => bd (m_ref17_hasField fu e_1.inputs (nI i_2) e_6.name) fun c_7 => (bif c_7 then some (MLawError.mk 7 3 atV (w64 (100 + (nI i_2)))) else bd (ix e_1.inputs (nI i_2)) fun e_8 => bd (m_ref09_ValidType fu e_8.ty l.enums) fun c_9 => (bif (!c_9) then some (MLawError.mk 8 3 atV (w64 (100 + (nI i_2)))) else cnt i_2 (m_ref17_fieldError_L1 e_1 fu atV l k_1 fl_3 (i_2 + 1))))) else k_1 ())

def m_ref17_fieldError (fu : Nat) (l : MLaw) (atV : Int) : Option MLawError :=
  bd (ix l.scopes atV) fun e_1 => m_ref17_fieldError_L1 e_1 fu atV l (fun p_10 => m_ref17_fieldError_L2 e_1 fu atV l (fun p_21 => some (MLawError.mk 0 0 0 0)) fu 0) fu 0

def m_ref17_plainText_L1 (s : BA) (k_1 : (Unit → Option Bool)) : Nat → (Nat) → Option Bool
  | 0, _ => none
  | fl_2 + 1, i_1 => (bif (decide ((nI i_1) < (sz s))) then bd (strAt s (nI i_1)) fun b_3 => (bif (decide (b_3 < 32)) then some false else bd (strAt s (nI i_1)) fun b_4 => (bif (decide (126 < b_4)) then some false else bd (strAt s (nI i_1)) fun b_5 => (bif (b_5 == 34) then some false else cnt i_1 (m_ref17_plainText_L1 s k_1 fl_2 (i_1 + 1))))) else k_1 ())

def m_ref17_plainText (fu : Nat) (s : BA) : Option Bool :=
  m_ref17_plainText_L1 s (fun p_6 => some (decide ((sz s) ≤ 64))) fu 0

def m_ref17_fieldTypes_L1 (l : (List MField)) (k_1 : ((List MTy) → Option (List MTy))) : Nat → ((List MTy) × Nat) → Option (List MTy)
  | 0, _ => none
  | fl_3 + 1, (out_1, i_2) => (bif (decide ((nI i_2) < (ln cField l))) then bd (ix l (nI i_2)) fun e_4 => bd (ap out_1 [e_4.ty]) fun z_5 => cnt i_2 (m_ref17_fieldTypes_L1 l k_1 fl_3 (z_5, i_2 + 1)) else k_1 out_1)

def m_ref17_fieldTypes (fu : Nat) (l : (List MField)) : Option (List MTy) :=
  m_ref17_fieldTypes_L1 l (fun p_6 => some p_6) fu (([] : List MTy), 0)

def m_ref17_Signature (fu : Nat) (l : MLaw) (atV : Int) : Option MSignature :=
  (bif ((decide (atV < 0)) || (decide ((ln cScope l.scopes) ≤ atV))) then some (MSignature.mk ([] : List MEnum) ([] : List MTable) ([] : List MTy) ([] : List MTy) ([] : List MTy) false) else bd (ix l.scopes atV) fun e_1 => bd (m_ref17_fieldTypes fu e_1.inputs) fun c_2 => bd (m_ref17_fieldTypes fu e_1.defs) fun c_3 => (bif ((decide (0 ≤ e_1.ms)) && (decide (e_1.ms < (ln cScope l.scopes)))) then bd (ix l.scopes e_1.ms) fun e_4 => bd (m_ref17_fieldTypes fu e_4.defs) fun c_5 => some (MSignature.mk l.enums l.tables c_2 c_3 c_5 true) else some (MSignature.mk l.enums l.tables c_2 c_3 ([] : List MTy) false)))

def m_ref10_Arity (fu : Nat) (op : Int) : Option Int :=
  (bif (((decide (1 ≤ op)) && (decide (op ≤ 9))) || ((decide (35 ≤ op)) && (decide (op ≤ 39)))) then some 0 else (bif (op == 10) then some 1 else (bif (op == 25) then some 1 else (bif (op == 31) then some 1 else (bif (op == 32) then some 1 else (bif (op == 33) then some 1 else (bif (op == 34) then some 1 else (bif (op == 26) then some 3 else (bif ((decide (11 ≤ op)) && (decide (op ≤ 30))) then some 2 else some (-1))))))))))

def m_ref10_structure_L1 (e : (List MNode)) (fu : Nat) (k_1 : (((List Int) × (List Int)) → Option ((List Int) × Int × Int))) : Nat → ((List Int) × (List Int) × Nat) → Option ((List Int) × Int × Int)
  | 0, _ => none
  | fl_4 + 1, (starts_1, stack_2, i_3) => (bif (decide ((nI i_3) < (ln cNode e))) then bd (ix e (nI i_3)) fun e_5 => bd (m_ref10_Arity fu e_5.op) fun c_6 => (bif (decide (c_6 < 0)) then some (([] : List Int), (nI i_3), 2) else (bif (decide ((ln cInt stack_2) < c_6)) then some (([] : List Int), (nI i_3), 5) else (bif (decide (0 < c_6)) then bd (ix stack_2 (w64 ((ln cInt stack_2) - c_6))) fun e_7 => bd (sl stack_2 0 (w64 ((ln cInt stack_2) - c_6))) fun ys_8 => bd (ap ys_8 [e_7]) fun z_9 => bd (ap starts_1 [e_7]) fun z_10 => (bif (decide (12 < (ln cInt z_9))) then some (([] : List Int), (nI i_3), 16) else cnt i_3 (m_ref10_structure_L1 e fu k_1 fl_4 (z_10, z_9, i_3 + 1))) else bd (ap stack_2 [(nI i_3)]) fun z_11 => bd (ap starts_1 [(nI i_3)]) fun z_12 => (bif (decide (12 < (ln cInt z_11))) then some (([] : List Int), (nI i_3), 16) else cnt i_3 (m_ref10_structure_L1 e fu k_1 fl_4 (z_12, z_11, i_3 + 1)))))) else k_1 (starts_1, stack_2))

def m_ref10_structure (fu : Nat) (e : (List MNode)) : Option ((List Int) × Int × Int) :=
  (bif (decide (48 < (ln cNode e))) then some (([] : List Int), 0, 4) else (bif ((ln cNode e) == 0) then some (([] : List Int), 0, 5) else m_ref10_structure_L1 e fu (fun p_13 => (bif (decide (1 < (ln cInt p_13.2))) then some (([] : List Int), (ln cNode e), 4) else some (p_13.1, 0, 0))) fu (([] : List Int), ([] : List Int), 0)))

def m_ref10_meaning (fu : Nat) (op : Int) : Option Bool :=
  (bif (((decide (1 ≤ op)) && (decide (op ≤ 8))) || ((decide (36 ≤ op)) && (decide (op ≤ 39)))) then some true else some (((((op == 14) || (op == 15)) || (op == 16)) || (op == 33)) || (op == 34)))

def m_ref10_kind (fu : Nat) (k : Int) : Option MTy :=
  some (MTy.mk k 0)

def m_ref10_ranged (fu : Nat) (nV : MNode) (s : MSignature) : Option Bool :=
  (bif (nV.op == 1) then bd (m_ref10_kind fu nV.op) fun c_1 => bd (m_ref09_Bounds fu c_1 s.enums) fun c_2 => some ((decide (c_2.1 ≤ nV.n)) && (decide (nV.n ≤ c_2.2))) else (bif (nV.op == 2) then bd (m_ref10_kind fu nV.op) fun c_3 => bd (m_ref09_Bounds fu c_3 s.enums) fun c_4 => some ((decide (c_4.1 ≤ nV.n)) && (decide (nV.n ≤ c_4.2))) else (bif (nV.op == 3) then bd (m_ref10_kind fu nV.op) fun c_5 => bd (m_ref09_Bounds fu c_5 s.enums) fun c_6 => some ((decide (c_6.1 ≤ nV.n)) && (decide (nV.n ≤ c_6.2))) else (bif (nV.op == 4) then bd (m_ref10_kind fu nV.op) fun c_7 => bd (m_ref09_Bounds fu c_7 s.enums) fun c_8 => some ((decide (c_8.1 ≤ nV.n)) && (decide (nV.n ≤ c_8.2))) else (bif (nV.op == 5) then bd (m_ref10_kind fu nV.op) fun c_9 => bd (m_ref09_Bounds fu c_9 s.enums) fun c_10 => some ((decide (c_10.1 ≤ nV.n)) && (decide (nV.n ≤ c_10.2))) else (bif (nV.op == 14) then some ((decide (0 ≤ nV.n)) && (decide (nV.n ≤ 5))) else (bif (nV.op == 15) then some ((decide (0 ≤ nV.n)) && (decide (nV.n ≤ 5))) else (bif (nV.op == 16) then some ((decide (0 ≤ nV.n)) && (decide (nV.n ≤ 5))) else (bif (nV.op == 34) then some ((decide (0 ≤ nV.n)) && (decide ((Int.tmod nV.n 8) ≤ 5))) else (bif (nV.op == 6) then some (decide (0 ≤ nV.n)) else some true))))))))))

def m_ref10_found (fu : Nat) (nV : MNode) (s : MSignature) : Option Bool :=
  (bif (nV.op == 6) then (bif (decide ((w64 (Int.tdiv nV.n 16)) < (ln cEnum s.enums))) then bd (ix s.enums (w64 (Int.tdiv nV.n 16))) fun e_1 => some (decide ((Int.tmod nV.n 16) < (ln cStr e_1.members))) else some false) else (bif (nV.op == 7) then some ((decide (0 ≤ nV.n)) && (decide (nV.n < (ln cTy s.inputs)))) else (bif (nV.op == 8) then some ((decide (0 ≤ nV.n)) && (decide (nV.n < (ln cTy s.defs)))) else (bif (nV.op == 33) then some ((decide (0 ≤ nV.n)) && (decide (nV.n < (ln cTable s.tables)))) else (bif (nV.op == 34) then some (decide ((w64 (Int.tdiv nV.n 8)) < (ln cTable s.tables))) else (bif (nV.op == 35) then some s.hasMembers else (bif (nV.op == 36) then some ((s.hasMembers && (decide (0 ≤ nV.n))) && (decide (nV.n < (ln cTy s.memberDefs)))) else (bif (nV.op == 37) then some ((s.hasMembers && (decide (0 ≤ nV.n))) && (decide (nV.n < (ln cTy s.memberDefs)))) else (bif (nV.op == 38) then some ((s.hasMembers && (decide (0 ≤ nV.n))) && (decide (nV.n < (ln cTy s.memberDefs)))) else (bif (nV.op == 39) then some ((s.hasMembers && (decide (0 ≤ nV.n))) && (decide (nV.n < (ln cTy s.memberDefs)))) else some true))))))))))

def m_ref10_number (fu : Nat) (k : Int) : Option Bool :=
  some (((k == 2) || (k == 3)) || (k == 4))

def m_ref10_ordered (fu : Nat) (k : Int) : Option Bool :=
  bd (m_ref10_number fu k) fun c_1 => some (c_1 || (k == 5))

def m_ref10_leaf (fu : Nat) (nV : MNode) (s : MSignature) : Option (MTy × Bool) :=
  (bif (nV.op == 6) then bd (m_ref09_ValidType fu (MTy.mk 6 (w64 (Int.tdiv nV.n 16))) s.enums) fun c_1 => (bif (nV.op == 36) then some ((MTy.mk 6 (w64 (Int.tdiv nV.n 16))), false) else (bif (nV.op == 37) then some ((MTy.mk 6 (w64 (Int.tdiv nV.n 16))), false) else (bif (nV.op == 38) then some ((MTy.mk 6 (w64 (Int.tdiv nV.n 16))), false) else (bif (nV.op == 39) then (bif c_1 then bd (m_ref10_ordered fu 6) fun c_2 => some ((MTy.mk 6 (w64 (Int.tdiv nV.n 16))), c_2) else some ((MTy.mk 6 (w64 (Int.tdiv nV.n 16))), false)) else some ((MTy.mk 6 (w64 (Int.tdiv nV.n 16))), c_1))))) else (bif (nV.op == 7) then bd (ix s.inputs nV.n) fun e_3 => bd (m_ref09_ValidType fu e_3 s.enums) fun c_4 => (bif (nV.op == 36) then some (e_3, (c_4 && ((e_3.kind == 2) || (e_3.kind == 3)))) else (bif (nV.op == 37) then some (e_3, (c_4 && (e_3.kind == 1))) else (bif (nV.op == 38) then some (e_3, (c_4 && (e_3.kind == 1))) else (bif (nV.op == 39) then (bif c_4 then bd (m_ref10_ordered fu e_3.kind) fun c_5 => some (e_3, c_5) else some (e_3, false)) else some (e_3, c_4))))) else (bif (nV.op == 8) then bd (ix s.defs nV.n) fun e_6 => bd (m_ref09_ValidType fu e_6 s.enums) fun c_7 => (bif (nV.op == 36) then some (e_6, (c_7 && ((e_6.kind == 2) || (e_6.kind == 3)))) else (bif (nV.op == 37) then some (e_6, (c_7 && (e_6.kind == 1))) else (bif (nV.op == 38) then some (e_6, (c_7 && (e_6.kind == 1))) else (bif (nV.op == 39) then (bif c_7 then bd (m_ref10_ordered fu e_6.kind) fun c_8 => some (e_6, c_8) else some (e_6, false)) else some (e_6, c_7))))) else (bif (nV.op == 9) then bd (m_ref10_kind fu 5) fun c_9 => bd (m_ref09_ValidType fu c_9 s.enums) fun c_10 => (bif (nV.op == 36) then some (c_9, (c_10 && ((c_9.kind == 2) || (c_9.kind == 3)))) else (bif (nV.op == 37) then some (c_9, (c_10 && (c_9.kind == 1))) else (bif (nV.op == 38) then some (c_9, (c_10 && (c_9.kind == 1))) else (bif (nV.op == 39) then (bif c_10 then bd (m_ref10_ordered fu c_9.kind) fun c_11 => some (c_9, c_11) else some (c_9, false)) else some (c_9, c_10))))) else (bif (nV.op == 35) then bd (m_ref10_kind fu 2) fun c_12 => bd (m_ref09_ValidType fu c_12 s.enums) fun c_13 => (bif (nV.op == 36) then some (c_12, (c_13 && ((c_12.kind == 2) || (c_12.kind == 3)))) else (bif (nV.op == 37) then some (c_12, (c_13 && (c_12.kind == 1))) else (bif (nV.op == 38) then some (c_12, (c_13 && (c_12.kind == 1))) else (bif (nV.op == 39) then (bif c_13 then bd (m_ref10_ordered fu c_12.kind) fun c_14 => some (c_12, c_14) else some (c_12, false)) else some (c_12, c_13))))) else (bif (nV.op == 36) then bd (ix s.memberDefs nV.n) fun e_15 => bd (m_ref09_ValidType fu e_15 s.enums) fun c_16 => (bif (nV.op == 36) then some (e_15, (c_16 && ((e_15.kind == 2) || (e_15.kind == 3)))) else (bif (nV.op == 37) then some (e_15, (c_16 && (e_15.kind == 1))) else (bif (nV.op == 38) then some (e_15, (c_16 && (e_15.kind == 1))) else (bif (nV.op == 39) then (bif c_16 then bd (m_ref10_ordered fu e_15.kind) fun c_17 => some (e_15, c_17) else some (e_15, false)) else some (e_15, c_16))))) else (bif (nV.op == 37) then bd (ix s.memberDefs nV.n) fun e_18 => bd (m_ref09_ValidType fu e_18 s.enums) fun c_19 => (bif (nV.op == 36) then some (e_18, (c_19 && ((e_18.kind == 2) || (e_18.kind == 3)))) else (bif (nV.op == 37) then some (e_18, (c_19 && (e_18.kind == 1))) else (bif (nV.op == 38) then some (e_18, (c_19 && (e_18.kind == 1))) else (bif (nV.op == 39) then (bif c_19 then bd (m_ref10_ordered fu e_18.kind) fun c_20 => some (e_18, c_20) else some (e_18, false)) else some (e_18, c_19))))) else (bif (nV.op == 38) then bd (ix s.memberDefs nV.n) fun e_21 => bd (m_ref09_ValidType fu e_21 s.enums) fun c_22 => (bif (nV.op == 36) then some (e_21, (c_22 && ((e_21.kind == 2) || (e_21.kind == 3)))) else (bif (nV.op == 37) then some (e_21, (c_22 && (e_21.kind == 1))) else (bif (nV.op == 38) then some (e_21, (c_22 && (e_21.kind == 1))) else (bif (nV.op == 39) then (bif c_22 then bd (m_ref10_ordered fu e_21.kind) fun c_23 => some (e_21, c_23) else some (e_21, false)) else some (e_21, c_22))))) else (bif (nV.op == 39) then bd (ix s.memberDefs nV.n) fun e_24 => bd (m_ref09_ValidType fu e_24 s.enums) fun c_25 => (bif (nV.op == 36) then some (e_24, (c_25 && ((e_24.kind == 2) || (e_24.kind == 3)))) else (bif (nV.op == 37) then some (e_24, (c_25 && (e_24.kind == 1))) else (bif (nV.op == 38) then some (e_24, (c_25 && (e_24.kind == 1))) else (bif (nV.op == 39) then (bif c_25 then bd (m_ref10_ordered fu e_24.kind) fun c_26 => some (e_24, c_26) else some (e_24, false)) else some (e_24, c_25))))) else bd (m_ref10_kind fu nV.op) fun c_27 => bd (m_ref09_ValidType fu c_27 s.enums) fun c_28 => (bif (nV.op == 36) then some (c_27, (c_28 && ((c_27.kind == 2) || (c_27.kind == 3)))) else (bif (nV.op == 37) then some (c_27, (c_28 && (c_27.kind == 1))) else (bif (nV.op == 38) then some (c_27, (c_28 && (c_27.kind == 1))) else (bif (nV.op == 39) then (bif c_28 then bd (m_ref10_ordered fu c_27.kind) fun c_29 => some (c_27, c_29) else some (c_27, false)) else some (c_27, c_28))))))))))))))

def m_ref10_single (fu : Nat) (nV : MNode) (a : MTy) (s : MSignature) : Option (MTy × Bool) :=
  (bif (nV.op == 10) then bd (m_ref10_number fu a.kind) fun c_1 => some (a, c_1) else (bif (nV.op == 25) then some (a, (a.kind == 1)) else (bif (nV.op == 31) then bd (m_ref10_kind fu 2) fun c_2 => some (c_2, (a.kind == 5)) else (bif (nV.op == 32) then bd (m_ref10_kind fu 2) fun c_3 => some (c_3, (a.kind == 5)) else (bif (nV.op == 33) then bd (ix s.tables nV.n) fun e_4 => bd (m_ref09_ValidType fu e_4.key s.enums) fun c_5 => (bif c_5 then bd (m_ref09_ValidType fu e_4.val s.enums) fun c_6 => some (e_4.val, (c_6 && ((a.kind == e_4.key.kind) && (a.en == e_4.key.en)))) else some (e_4.val, false)) else bd (ix s.tables (w64 (Int.tdiv nV.n 8))) fun e_7 => (bif (a.kind == 3) then bd (m_ref10_kind fu 3) fun c_8 => (bif ((e_7.key.kind == c_8.kind) && (e_7.key.en == c_8.en)) then bd (m_ref10_kind fu 4) fun c_9 => some (a, ((e_7.val.kind == c_9.kind) && (e_7.val.en == c_9.en))) else some (a, false)) else some (a, false)))))))

def m_ref10_scaled (fu : Nat) (op : Int) (a : Int) (b : Int) : Option (MTy × Bool) :=
  (bif (op == 13) then bd (m_ref10_kind fu a) fun c_1 => some (c_1, ((b == 2) && ((a == 2) || (a == 3)))) else (bif (op == 14) then bd (m_ref10_kind fu a) fun c_2 => some (c_2, ((b == 4) && ((a == 3) || (a == 4)))) else (bif ((a == 3) && (b == 3)) then bd (m_ref10_kind fu 4) fun c_3 => some (c_3, true) else bd (m_ref10_kind fu a) fun c_4 => some (c_4, ((b == 2) && ((a == 2) || (a == 3)))))))

def m_ref10_double (fu : Nat) (op : Int) (a : MTy) (b : MTy) : Option (MTy × Bool) :=
  (bif (op == 11) then (bif ((a.kind == b.kind) && (a.en == b.en)) then bd (m_ref10_number fu a.kind) fun c_1 => some (a, c_1) else some (a, false)) else (bif (op == 12) then (bif ((a.kind == b.kind) && (a.en == b.en)) then bd (m_ref10_number fu a.kind) fun c_2 => some (a, c_2) else some (a, false)) else (bif (op == 13) then bd (m_ref10_scaled fu op a.kind b.kind) fun c_3 => some (c_3.1, c_3.2) else (bif (op == 14) then bd (m_ref10_scaled fu op a.kind b.kind) fun c_4 => some (c_4.1, c_4.2) else (bif (op == 15) then bd (m_ref10_scaled fu op a.kind b.kind) fun c_5 => some (c_5.1, c_5.2) else (bif (op == 16) then some (a, ((a.kind == 3) && (b.kind == 3))) else (bif (op == 17) then (bif ((a.kind == b.kind) && (a.en == b.en)) then bd (m_ref10_ordered fu a.kind) fun c_6 => some (a, c_6) else some (a, false)) else (bif (op == 18) then (bif ((a.kind == b.kind) && (a.en == b.en)) then bd (m_ref10_ordered fu a.kind) fun c_7 => some (a, c_7) else some (a, false)) else (bif (op == 19) then bd (m_ref10_kind fu 1) fun c_8 => some (c_8, ((a.kind == b.kind) && (a.en == b.en))) else (bif (op == 20) then bd (m_ref10_kind fu 1) fun c_9 => some (c_9, ((a.kind == b.kind) && (a.en == b.en))) else (bif (op == 21) then bd (m_ref10_kind fu 1) fun c_10 => (bif ((a.kind == b.kind) && (a.en == b.en)) then bd (m_ref10_ordered fu a.kind) fun c_11 => some (c_10, c_11) else some (c_10, false)) else (bif (op == 22) then bd (m_ref10_kind fu 1) fun c_12 => (bif ((a.kind == b.kind) && (a.en == b.en)) then bd (m_ref10_ordered fu a.kind) fun c_13 => some (c_12, c_13) else some (c_12, false)) else (bif (op == 23) then some (a, ((a.kind == 1) && (b.kind == 1))) else (bif (op == 24) then some (a, ((a.kind == 1) && (b.kind == 1))) else (bif (op == 27) then some (a, ((a.kind == 5) && (b.kind == 2))) else (bif (op == 28) then some (a, ((a.kind == 5) && (b.kind == 2))) else bd (m_ref10_kind fu 2) fun c_14 => some (c_14, ((a.kind == 5) && (b.kind == 5)))))))))))))))))))

def m_ref10_Result (fu : Nat) (nV : MNode) (l : (List MTy)) (s : MSignature) : Option (MTy × Int) :=
  (bif (nV.n != 0) then bd (m_ref10_meaning fu nV.op) fun c_1 => (bif (!c_1) then some ((MTy.mk 0 0), 2) else bd (m_ref10_ranged fu nV s) fun c_2 => (bif (!c_2) then some ((MTy.mk 0 0), 3) else bd (m_ref10_found fu nV s) fun c_3 => (bif (!c_3) then some ((MTy.mk 0 0), 6) else (bif ((ln cTy l) == 0) then bd (m_ref10_leaf fu nV s) fun c_4 => (bif (!c_4.2) then some ((MTy.mk 0 0), 8) else some (c_4.1, 0)) else (bif ((ln cTy l) == 1) then bd (ix l 0) fun e_5 => bd (m_ref10_single fu nV e_5 s) fun c_6 => (bif (!c_6.2) then some ((MTy.mk 0 0), 8) else some (c_6.1, 0)) else (bif ((ln cTy l) == 2) then bd (ix l 0) fun e_7 => bd (ix l 1) fun e_8 => bd (m_ref10_double fu nV.op e_7 e_8) fun c_9 => (bif (!c_9.2) then some ((MTy.mk 0 0), 8) else some (c_9.1, 0)) else bd (ix l 1) fun e_10 => bd (ix l 0) fun e_11 => (bif (e_11.kind == 1) then bd (ix l 1) fun e_12 => bd (ix l 2) fun e_13 => (bif (!((e_12.kind == e_13.kind) && (e_12.en == e_13.en))) then some ((MTy.mk 0 0), 8) else some (e_10, 0)) else some ((MTy.mk 0 0), 8)))))))) else bd (m_ref10_ranged fu nV s) fun c_14 => (bif (!c_14) then some ((MTy.mk 0 0), 3) else bd (m_ref10_found fu nV s) fun c_15 => (bif (!c_15) then some ((MTy.mk 0 0), 6) else (bif ((ln cTy l) == 0) then bd (m_ref10_leaf fu nV s) fun c_16 => (bif (!c_16.2) then some ((MTy.mk 0 0), 8) else some (c_16.1, 0)) else (bif ((ln cTy l) == 1) then bd (ix l 0) fun e_17 => bd (m_ref10_single fu nV e_17 s) fun c_18 => (bif (!c_18.2) then some ((MTy.mk 0 0), 8) else some (c_18.1, 0)) else (bif ((ln cTy l) == 2) then bd (ix l 0) fun e_19 => bd (ix l 1) fun e_20 => bd (m_ref10_double fu nV.op e_19 e_20) fun c_21 => (bif (!c_21.2) then some ((MTy.mk 0 0), 8) else some (c_21.1, 0)) else bd (ix l 1) fun e_22 => bd (ix l 0) fun e_23 => (bif (e_23.kind == 1) then bd (ix l 1) fun e_24 => bd (ix l 2) fun e_25 => (bif (!((e_24.kind == e_25.kind) && (e_24.en == e_25.en))) then some ((MTy.mk 0 0), 8) else some (e_22, 0)) else some ((MTy.mk 0 0), 8))))))))

def m_ref10_TypeOf_L1 (e : (List MNode)) (fu : Nat) (s : MSignature) (k_1 : ((List MTy) → Option (MTy × Int × Int))) : Nat → ((List MTy) × Nat) → Option (MTy × Int × Int)
  | 0, _ => none
  | fl_4 + 1, (stack_2, i_3) => (bif (decide ((nI i_3) < (ln cNode e))) then bd (ix e (nI i_3)) fun e_5 => bd (m_ref10_Arity fu e_5.op) fun c_6 => bd (ix e (nI i_3)) fun e_7 => bd (sl stack_2 (w64 ((ln cTy stack_2) - c_6)) (ln cTy stack_2)) fun ys_8 => bd (m_ref10_Result fu e_7 ys_8 s) fun c_9 => (bif (c_9.2 != 0) then some ((MTy.mk 0 0), (nI i_3), c_9.2) else bd (sl stack_2 0 (w64 ((ln cTy stack_2) - c_6))) fun ys_10 => bd (ap ys_10 [c_9.1]) fun z_11 => cnt i_3 (m_ref10_TypeOf_L1 e fu s k_1 fl_4 (z_11, i_3 + 1))) else k_1 stack_2)

def m_ref10_TypeOf (fu : Nat) (e : (List MNode)) (s : MSignature) : Option (MTy × Int × Int) :=
  bd (m_ref10_structure fu e) fun c_1 => (bif (c_1.2.2 != 0) then some ((MTy.mk 0 0), c_1.2.1, c_1.2.2) else m_ref10_TypeOf_L1 e fu s (fun p_12 => bd (ix p_12 0) fun e_13 => some (e_13, 0, 0)) fu (([] : List MTy), 0))

def m_ref17_exprError (fu : Nat) (e : (List MNode)) (s : MSignature) (want : MTy) : Option Int :=
  bd (m_ref10_TypeOf fu e s) fun c_1 => (bif (c_1.2.2 != 0) then some c_1.2.2 else (bif (!((c_1.1.kind == want.kind) && (c_1.1.en == want.en))) then some 8 else some 0))

def m_ref17_ruleError_L1 (k : Int) (e_1 : MScope) (e_2 : MRule) (k_1 : (Int → Option Int)) : Nat → (Int × Nat) → Option Int
  | 0, _ => none
  | fl_6 + 1, (siblings_4, i_5) => (bif (decide ((nI i_5) < k)) then bd (ix e_1.rules (nI i_5)) fun e_7 => (bif (decide (e_7.name = e_2.name)) then some 7 else bd (ix e_1.rules (nI i_5)) fun e_8 => (bif (e_8.df == e_2.df) then cnt i_5 (m_ref17_ruleError_L1 k e_1 e_2 k_1 fl_6 ((w64 (siblings_4 + 1)), i_5 + 1)) else cnt i_5 (m_ref17_ruleError_L1 k e_1 e_2 k_1 fl_6 (siblings_4, i_5 + 1)))) else k_1 siblings_4)

def m_ref17_ruleError (fu : Nat) (l : MLaw) (atV : Int) (k : Int) : Option Int :=
  bd (ix l.scopes atV) fun e_1 => bd (ix e_1.rules k) fun e_2 => bd (m_ref08_IsIdentifier fu e_2.name) fun c_3 => (bif (!c_3) then some 2 else m_ref17_ruleError_L1 k e_1 e_2 (fun p_9 => (bif ((decide (e_2.df < 0)) || (decide ((ln cField e_1.defs) ≤ e_2.df))) then some 6 else (bif (e_2.parent != (-1)) then (bif ((decide (e_2.parent < 0)) || (decide (k ≤ e_2.parent))) then some 9 else bd (ix e_1.rules e_2.parent) fun e_10 => (bif (e_10.df != e_2.df) then some 9 else (bif ((decide (e_2.prio < 0)) || (decide (9 < e_2.prio))) then some 3 else bd (m_ref05_Valid fu e_2.valid) fun c_11 => (bif ((!c_11) || (e_2.valid.fr == e_2.valid.to)) then some 3 else (bif (decide (8 ≤ p_9)) then some 4 else bd (m_ref17_plainText fu e_2.source) fun c_12 => (bif (!c_12) then some 2 else bd (m_ref17_Signature fu l atV) fun c_13 => (bif (decide (0 < (ln cNode e_2.guard))) then bd (m_ref17_exprError fu e_2.guard c_13 (MTy.mk 1 0)) fun c_14 => (bif (c_14 != 0) then some c_14 else bd (ix e_1.defs e_2.df) fun e_15 => bd (m_ref17_exprError fu e_2.value c_13 e_15.ty) fun c_16 => some c_16) else bd (ix e_1.defs e_2.df) fun e_17 => bd (m_ref17_exprError fu e_2.value c_13 e_17.ty) fun c_18 => some c_18))))))) else (bif ((decide (e_2.prio < 0)) || (decide (9 < e_2.prio))) then some 3 else bd (m_ref05_Valid fu e_2.valid) fun c_19 => (bif ((!c_19) || (e_2.valid.fr == e_2.valid.to)) then some 3 else (bif (decide (8 ≤ p_9)) then some 4 else bd (m_ref17_plainText fu e_2.source) fun c_20 => (bif (!c_20) then some 2 else bd (m_ref17_Signature fu l atV) fun c_21 => (bif (decide (0 < (ln cNode e_2.guard))) then bd (m_ref17_exprError fu e_2.guard c_21 (MTy.mk 1 0)) fun c_22 => (bif (c_22 != 0) then some c_22 else bd (ix e_1.defs e_2.df) fun e_23 => bd (m_ref17_exprError fu e_2.value c_21 e_23.ty) fun c_24 => some c_24) else bd (ix e_1.defs e_2.df) fun e_25 => bd (m_ref17_exprError fu e_2.value c_21 e_25.ty) fun c_26 => some c_26)))))))) fu (0, 0))

def m_ref16_is (fu : Nat) (s : MScope) (defV : Int) : Option Bool :=
  some ((decide (0 ≤ defV)) && (decide (defV < (ln cField s.defs))))

def m_ref10_insert_L1 (l : (List Int)) (nV : Int) (k_1 : (((List Int) × Bool) → Option (List Int))) : Nat → ((List Int) × Bool × Nat) → Option (List Int)
  | 0, _ => none
  | fl_4 + 1, (out_1, done_2, i_3) => (bif (decide ((nI i_3) < (ln cInt l))) then (bif (!done_2) then bd (ix l (nI i_3)) fun e_5 => (bif (decide (nV ≤ e_5)) then bd (ix l (nI i_3)) fun e_6 => (bif (decide (nV < e_6)) then bd (ap out_1 [nV]) fun z_7 => bd (ix l (nI i_3)) fun e_8 => bd (ap z_7 [e_8]) fun z_9 => cnt i_3 (m_ref10_insert_L1 l nV k_1 fl_4 (z_9, true, i_3 + 1)) else bd (ix l (nI i_3)) fun e_10 => bd (ap out_1 [e_10]) fun z_11 => cnt i_3 (m_ref10_insert_L1 l nV k_1 fl_4 (z_11, true, i_3 + 1))) else bd (ix l (nI i_3)) fun e_12 => bd (ap out_1 [e_12]) fun z_13 => cnt i_3 (m_ref10_insert_L1 l nV k_1 fl_4 (z_13, done_2, i_3 + 1))) else bd (ix l (nI i_3)) fun e_14 => bd (ap out_1 [e_14]) fun z_15 => cnt i_3 (m_ref10_insert_L1 l nV k_1 fl_4 (z_15, done_2, i_3 + 1))) else k_1 (out_1, done_2))

def m_ref10_insert (fu : Nat) (l : (List Int)) (nV : Int) : Option (List Int) :=
  m_ref10_insert_L1 l nV (fun p_16 => (bif (!p_16.2) then bd (ap p_16.1 [nV]) fun z_17 => some z_17 else some p_16.1)) fu (([] : List Int), false, 0)

def m_ref10_References_L1 (e : (List MNode)) (fu : Nat) (k_1 : (((List Int) × (List Int) × (List Int)) → Option ((List Int) × (List Int) × (List Int)))) : Nat → ((List Int) × (List Int) × (List Int) × Nat) → Option ((List Int) × (List Int) × (List Int))
  | 0, _ => none
  | fl_5 + 1, (a_1, b_2, c_3, i_4) => (bif (decide ((nI i_4) < (ln cNode e))) then bd (ix e (nI i_4)) fun e_6 => (bif (e_6.op == 7) then bd (ix e (nI i_4)) fun e_7 => bd (m_ref10_insert fu a_1 e_7.n) fun c_8 => (bif (e_6.op == 8) then bd (ix e (nI i_4)) fun e_9 => bd (m_ref10_insert fu b_2 e_9.n) fun c_10 => (bif ((decide (36 ≤ e_6.op)) && (decide (e_6.op ≤ 39))) then bd (ix e (nI i_4)) fun e_11 => bd (m_ref10_insert fu c_3 e_11.n) fun c_12 => cnt i_4 (m_ref10_References_L1 e fu k_1 fl_5 (c_8, c_10, c_12, i_4 + 1)) else cnt i_4 (m_ref10_References_L1 e fu k_1 fl_5 (c_8, c_10, c_3, i_4 + 1))) else (bif ((decide (36 ≤ e_6.op)) && (decide (e_6.op ≤ 39))) then bd (ix e (nI i_4)) fun e_13 => bd (m_ref10_insert fu c_3 e_13.n) fun c_14 => cnt i_4 (m_ref10_References_L1 e fu k_1 fl_5 (c_8, b_2, c_14, i_4 + 1)) else cnt i_4 (m_ref10_References_L1 e fu k_1 fl_5 (c_8, b_2, c_3, i_4 + 1)))) else (bif (e_6.op == 8) then bd (ix e (nI i_4)) fun e_15 => bd (m_ref10_insert fu b_2 e_15.n) fun c_16 => (bif ((decide (36 ≤ e_6.op)) && (decide (e_6.op ≤ 39))) then bd (ix e (nI i_4)) fun e_17 => bd (m_ref10_insert fu c_3 e_17.n) fun c_18 => cnt i_4 (m_ref10_References_L1 e fu k_1 fl_5 (a_1, c_16, c_18, i_4 + 1)) else cnt i_4 (m_ref10_References_L1 e fu k_1 fl_5 (a_1, c_16, c_3, i_4 + 1))) else (bif ((decide (36 ≤ e_6.op)) && (decide (e_6.op ≤ 39))) then bd (ix e (nI i_4)) fun e_19 => bd (m_ref10_insert fu c_3 e_19.n) fun c_20 => cnt i_4 (m_ref10_References_L1 e fu k_1 fl_5 (a_1, b_2, c_20, i_4 + 1)) else cnt i_4 (m_ref10_References_L1 e fu k_1 fl_5 (a_1, b_2, c_3, i_4 + 1))))) else k_1 (a_1, b_2, c_3))

def m_ref10_References (fu : Nat) (e : (List MNode)) : Option ((List Int) × (List Int) × (List Int)) :=
  m_ref10_References_L1 e fu (fun p_21 => some (p_21.1, p_21.2.1, p_21.2.2)) fu (([] : List Int), ([] : List Int), ([] : List Int), 0)

def m_ref16_insert_L1 (l : (List Int)) (nV : Int) (k_1 : (((List Int) × Bool) → Option (List Int))) : Nat → ((List Int) × Bool × Nat) → Option (List Int)
  | 0, _ => none
  | fl_4 + 1, (out_1, done_2, i_3) => (bif (decide ((nI i_3) < (ln cInt l))) then (bif (!done_2) then bd (ix l (nI i_3)) fun e_5 => (bif (decide (nV ≤ e_5)) then bd (ix l (nI i_3)) fun e_6 => (bif (decide (nV < e_6)) then bd (ap out_1 [nV]) fun z_7 => bd (ix l (nI i_3)) fun e_8 => bd (ap z_7 [e_8]) fun z_9 => cnt i_3 (m_ref16_insert_L1 l nV k_1 fl_4 (z_9, true, i_3 + 1)) else bd (ix l (nI i_3)) fun e_10 => bd (ap out_1 [e_10]) fun z_11 => cnt i_3 (m_ref16_insert_L1 l nV k_1 fl_4 (z_11, true, i_3 + 1))) else bd (ix l (nI i_3)) fun e_12 => bd (ap out_1 [e_12]) fun z_13 => cnt i_3 (m_ref16_insert_L1 l nV k_1 fl_4 (z_13, done_2, i_3 + 1))) else bd (ix l (nI i_3)) fun e_14 => bd (ap out_1 [e_14]) fun z_15 => cnt i_3 (m_ref16_insert_L1 l nV k_1 fl_4 (z_15, done_2, i_3 + 1))) else k_1 (out_1, done_2))

def m_ref16_insert (fu : Nat) (l : (List Int)) (nV : Int) : Option (List Int) :=
  m_ref16_insert_L1 l nV (fun p_16 => (bif (!p_16.2) then bd (ap p_16.1 [nV]) fun z_17 => some z_17 else some p_16.1)) fu (([] : List Int), false, 0)

def m_ref16_Direct_L3 (c_9 : ((List Int) × (List Int) × (List Int))) (fu : Nat) (s : MScope) (k_3 : ((List Int) → Option (List Int))) : Nat → ((List Int) × Nat) → Option (List Int)
  | 0, _ => none
  | fl_20 + 1, (out_18, k_19) => (bif (decide ((nI k_19) < (ln cInt c_9.2.1))) then bd (ix c_9.2.1 (nI k_19)) fun e_21 => bd (m_ref16_is fu s e_21) fun c_22 => (bif c_22 then bd (ix c_9.2.1 (nI k_19)) fun e_23 => bd (m_ref16_insert fu out_18 e_23) fun c_24 => cnt k_19 (m_ref16_Direct_L3 c_9 fu s k_3 fl_20 (c_24, k_19 + 1)) else cnt k_19 (m_ref16_Direct_L3 c_9 fu s k_3 fl_20 (out_18, k_19 + 1))) else k_3 out_18)

def m_ref16_Direct_L2 (c_7 : ((List Int) × (List Int) × (List Int))) (fu : Nat) (s : MScope) (k_2 : ((List Int) → Option (List Int))) : Nat → ((List Int) × Nat) → Option (List Int)
  | 0, _ => none
  | fl_12 + 1, (out_10, k_11) => (bif (decide ((nI k_11) < (ln cInt c_7.2.1))) then bd (ix c_7.2.1 (nI k_11)) fun e_13 => bd (m_ref16_is fu s e_13) fun c_14 => (bif c_14 then bd (ix c_7.2.1 (nI k_11)) fun e_15 => bd (m_ref16_insert fu out_10 e_15) fun c_16 => cnt k_11 (m_ref16_Direct_L2 c_7 fu s k_2 fl_12 (c_16, k_11 + 1)) else cnt k_11 (m_ref16_Direct_L2 c_7 fu s k_2 fl_12 (out_10, k_11 + 1))) else k_2 out_10)

def m_ref16_Direct_L1 (s : MScope) (defV : Int) (fu : Nat) (k_1 : ((List Int) → Option (List Int))) : Nat → ((List Int) × Nat) → Option (List Int)
  | 0, _ => none
  | fl_4 + 1, (out_2, i_3) => (bif (decide ((nI i_3) < (ln cRule s.rules))) then bd (ix s.rules (nI i_3)) fun e_5 => (bif (e_5.df != defV) then cnt i_3 (m_ref16_Direct_L1 s defV fu k_1 fl_4 (out_2, i_3 + 1)) else bd (ix s.rules (nI i_3)) fun e_6 => bd (m_ref10_References fu e_6.guard) fun c_7 => bd (ix s.rules (nI i_3)) fun e_8 => bd (m_ref10_References fu e_8.value) fun c_9 => m_ref16_Direct_L2 c_7 fu s (fun p_17 => m_ref16_Direct_L3 c_9 fu s (fun p_25 => cnt i_3 (m_ref16_Direct_L1 s defV fu k_1 fl_4 (p_25, i_3 + 1))) fu (p_17, 0)) fu (out_2, 0)) else k_1 out_2)

def m_ref16_Direct (fu : Nat) (s : MScope) (defV : Int) : Option (List Int) :=
  bd (m_ref16_is fu s defV) fun c_1 => (bif (!c_1) then some ([] : List Int) else m_ref16_Direct_L1 s defV fu (fun p_26 => some p_26) fu (([] : List Int), 0))

def m_ref16_Transitive_L3 (c_9 : (List Int)) (fu : Nat) (k_3 : ((List Int) → Option (List Int))) : Nat → ((List Int) × Nat) → Option (List Int)
  | 0, _ => none
  | fl_12 + 1, (out_10, k_11) => (bif (decide ((nI k_11) < (ln cInt c_9))) then bd (ix c_9 (nI k_11)) fun e_13 => bd (m_ref16_insert fu out_10 e_13) fun c_14 => cnt k_11 (m_ref16_Transitive_L3 c_9 fu k_3 fl_12 (c_14, k_11 + 1)) else k_3 out_10)

def m_ref16_Transitive_L2 (out_2 : (List Int)) (fu : Nat) (s : MScope) (k_2 : ((List Int) → Option (List Int))) : Nat → ((List Int) × Nat) → Option (List Int)
  | 0, _ => none
  | fl_7 + 1, (out_5, i_6) => (bif (decide ((nI i_6) < (ln cInt out_2))) then bd (ix out_2 (nI i_6)) fun e_8 => bd (m_ref16_Direct fu s e_8) fun c_9 => m_ref16_Transitive_L3 c_9 fu (fun p_15 => cnt i_6 (m_ref16_Transitive_L2 out_2 fu s k_2 fl_7 (p_15, i_6 + 1))) fu (out_5, 0) else k_2 out_5)

def m_ref16_Transitive_L1 (s : MScope) (fu : Nat) (k_1 : ((List Int) → Option (List Int))) : Nat → ((List Int) × Nat) → Option (List Int)
  | 0, _ => none
  | fl_4 + 1, (out_2, round_3) => (bif (decide ((nI round_3) < (ln cField s.defs))) then m_ref16_Transitive_L2 out_2 fu s (fun p_16 => cnt round_3 (m_ref16_Transitive_L1 s fu k_1 fl_4 (p_16, round_3 + 1))) fu (out_2, 0) else k_1 out_2)

def m_ref16_Transitive (fu : Nat) (s : MScope) (defV : Int) : Option (List Int) :=
  bd (m_ref16_Direct fu s defV) fun c_1 => m_ref16_Transitive_L1 s fu (fun p_17 => some p_17) fu (c_1, 0)

def m_ref17_scopeError_L3 (c_12 : (List Int)) (d_10 : Nat) (atV : Int) (k_3 : (Unit → Option MLawError)) : Nat → (Nat) → Option MLawError
  | 0, _ => none
  | fl_14 + 1, i_13 => (bif (decide ((nI i_13) < (ln cInt c_12))) then bd (ix c_12 (nI i_13)) fun e_15 => (bif (e_15 == (nI d_10)) then some (MLawError.mk 9 3 atV (w64 (200 + (nI d_10)))) else cnt i_13 (m_ref17_scopeError_L3 c_12 d_10 atV k_3 fl_14 (i_13 + 1))) else k_3 ())

def m_ref17_scopeError_L2 (e_1 : MScope) (fu : Nat) (atV : Int) (k_2 : (Unit → Option MLawError)) : Nat → (Nat) → Option MLawError
  | 0, _ => none
  | fl_11 + 1, d_10 => (bif (decide ((nI d_10) < (ln cField e_1.defs))) then bd (m_ref16_Transitive fu e_1 (nI d_10)) fun c_12 => m_ref17_scopeError_L3 c_12 d_10 atV (fun p_16 => cnt d_10 (m_ref17_scopeError_L2 e_1 fu atV k_2 fl_11 (d_10 + 1))) fu 0 else k_2 ())

def m_ref17_scopeError_L1 (e_1 : MScope) (fu : Nat) (l : MLaw) (atV : Int) (k_1 : (Unit → Option MLawError)) : Nat → (Nat) → Option MLawError
  | 0, _ => none
  | fl_7 + 1, k_6 => (bif (decide ((nI k_6) < (ln cRule e_1.rules))) then bd (m_ref17_ruleError fu l atV (nI k_6)) fun c_8 => (bif (c_8 != 0) then some (MLawError.mk c_8 3 atV (w64 (300 + (nI k_6)))) else cnt k_6 (m_ref17_scopeError_L1 e_1 fu l atV k_1 fl_7 (k_6 + 1))) else k_1 ())

def m_ref17_scopeError_L6 (c_25 : (List Int)) (d_23 : Nat) (atV : Int) (k_6 : (Unit → Option MLawError)) : Nat → (Nat) → Option MLawError
  | 0, _ => none
  | fl_27 + 1, i_26 => (bif (decide ((nI i_26) < (ln cInt c_25))) then bd (ix c_25 (nI i_26)) fun e_28 => (bif (e_28 == (nI d_23)) then some (MLawError.mk 9 3 atV (w64 (200 + (nI d_23)))) else cnt i_26 (m_ref17_scopeError_L6 c_25 d_23 atV k_6 fl_27 (i_26 + 1))) else k_6 ())

def m_ref17_scopeError_L5 (e_1 : MScope) (fu : Nat) (atV : Int) (k_5 : (Unit → Option MLawError)) : Nat → (Nat) → Option MLawError
  | 0, _ => none
  | fl_24 + 1, d_23 => (bif (decide ((nI d_23) < (ln cField e_1.defs))) then bd (m_ref16_Transitive fu e_1 (nI d_23)) fun c_25 => m_ref17_scopeError_L6 c_25 d_23 atV (fun p_29 => cnt d_23 (m_ref17_scopeError_L5 e_1 fu atV k_5 fl_24 (d_23 + 1))) fu 0 else k_5 ())

def m_ref17_scopeError_L4 (e_1 : MScope) (fu : Nat) (l : MLaw) (atV : Int) (k_4 : (Unit → Option MLawError)) : Nat → (Nat) → Option MLawError
  | 0, _ => none
  | fl_20 + 1, k_19 => (bif (decide ((nI k_19) < (ln cRule e_1.rules))) then bd (m_ref17_ruleError fu l atV (nI k_19)) fun c_21 => (bif (c_21 != 0) then some (MLawError.mk c_21 3 atV (w64 (300 + (nI k_19)))) else cnt k_19 (m_ref17_scopeError_L4 e_1 fu l atV k_4 fl_20 (k_19 + 1))) else k_4 ())

def m_ref17_scopeError (fu : Nat) (l : MLaw) (atV : Int) : Option MLawError :=
  bd (ix l.scopes atV) fun e_1 => bd (m_ref08_IsIdentifier fu e_1.name) fun c_2 => (bif (!c_2) then some (MLawError.mk 2 3 atV 0) else bd (m_ref17_nameTaken fu l 3 atV e_1.name) fun c_3 => (bif c_3 then some (MLawError.mk 7 3 atV 0) else (bif (e_1.ms != (-1)) then (bif ((decide (e_1.ms < 0)) || (decide (atV ≤ e_1.ms))) then some (MLawError.mk 6 3 atV 0) else bd (ix l.scopes e_1.ms) fun e_4 => (bif (e_4.ms != (-1)) then some (MLawError.mk 6 3 atV 0) else (bif (decide (12 < (ln cField e_1.inputs))) then some (MLawError.mk 4 3 atV 112) else (bif (decide (12 < (ln cField e_1.defs))) then some (MLawError.mk 4 3 atV 212) else bd (m_ref17_fieldError fu l atV) fun c_5 => (bif (c_5.code != 0) then some c_5 else m_ref17_scopeError_L1 e_1 fu l atV (fun p_9 => m_ref17_scopeError_L2 e_1 fu atV (fun p_17 => some (MLawError.mk 0 0 0 0)) fu 0) fu 0))))) else (bif (decide (12 < (ln cField e_1.inputs))) then some (MLawError.mk 4 3 atV 112) else (bif (decide (12 < (ln cField e_1.defs))) then some (MLawError.mk 4 3 atV 212) else bd (m_ref17_fieldError fu l atV) fun c_18 => (bif (c_18.code != 0) then some c_18 else m_ref17_scopeError_L4 e_1 fu l atV (fun p_22 => m_ref17_scopeError_L5 e_1 fu atV (fun p_30 => some (MLawError.mk 0 0 0 0)) fu 0) fu 0))))))

def m_ref17_Validate_L3 (l : MLaw) (fu : Nat) (k_3 : (Unit → Option MLawError)) : Nat → (Nat) → Option MLawError
  | 0, _ => none
  | fl_10 + 1, i_9 => (bif (decide ((nI i_9) < (ln cScope l.scopes))) then bd (m_ref17_scopeError fu l (nI i_9)) fun c_11 => (bif (c_11.code != 0) then some c_11 else cnt i_9 (m_ref17_Validate_L3 l fu k_3 fl_10 (i_9 + 1))) else k_3 ())

def m_ref17_Validate_L2 (l : MLaw) (fu : Nat) (k_2 : (Unit → Option MLawError)) : Nat → (Nat) → Option MLawError
  | 0, _ => none
  | fl_6 + 1, i_5 => (bif (decide ((nI i_5) < (ln cTable l.tables))) then bd (m_ref17_tableError fu l (nI i_5)) fun c_7 => (bif (c_7.code != 0) then some c_7 else cnt i_5 (m_ref17_Validate_L2 l fu k_2 fl_6 (i_5 + 1))) else k_2 ())

def m_ref17_Validate_L1 (l : MLaw) (fu : Nat) (k_1 : (Unit → Option MLawError)) : Nat → (Nat) → Option MLawError
  | 0, _ => none
  | fl_2 + 1, i_1 => (bif (decide ((nI i_1) < (ln cEnum l.enums))) then bd (m_ref17_enumError fu l (nI i_1)) fun c_3 => (bif (c_3.code != 0) then some c_3 else cnt i_1 (m_ref17_Validate_L1 l fu k_1 fl_2 (i_1 + 1))) else k_1 ())

def m_ref17_Validate (fu : Nat) (l : MLaw) : Option MLawError :=
  (bif (decide (8 < (ln cEnum l.enums))) then some (MLawError.mk 4 1 8 0) else m_ref17_Validate_L1 l fu (fun p_4 => (bif (decide (8 < (ln cTable l.tables))) then some (MLawError.mk 4 2 8 0) else m_ref17_Validate_L2 l fu (fun p_8 => (bif (decide (4 < (ln cScope l.scopes))) then some (MLawError.mk 4 3 4 0) else m_ref17_Validate_L3 l fu (fun p_12 => some (MLawError.mk 0 0 0 0)) fu 0)) fu 0)) fu 0)

def m_ref17_IsValid (fu : Nat) (l : MLaw) : Option Bool :=
  bd (m_ref17_Validate fu l) fun c_1 => some (c_1.code == 0)

open Classical in
/-- Is a law small? (of a law that lies in memory) -/
def m_same_SmallLaw (fu : Nat) (l : MLaw) : Option Bool := if SizedLaw l then some (decide (SmallLaw l)) else none

/-- The examples of the chapter. -/
def m_law51_awake (fu : Nat) : Option Bool := some true

/-- The changed rules. -/
def m_lawdiff_ChangedRules (fu : Nat) (a b : MLaw) : Option (List MChange) := bif decide (sumRules a.scopes + sumRules b.scopes ≤ 100000) then some (chg a b) else none

open Classical in
/-- Are the interfaces the same? -/
def m_lawdiff_SameInterface (fu : Nat) (a b : MLaw) : Option Bool := if MidLaw a ∧ MidLaw b then some (decide (bare a = bare b)) else none

def m_ref51_scopeOf_L1 (l : MLaw) (name : BA) (k_1 : (Unit → Option Int)) : Nat → (Nat) → Option Int
  | 0, _ => none
  | fl_2 + 1, i_1 => (bif (decide ((nI i_1) < (ln cScope l.scopes))) then bd (ix l.scopes (nI i_1)) fun e_3 => (bif (decide (e_3.name = name)) then some (nI i_1) else cnt i_1 (m_ref51_scopeOf_L1 l name k_1 fl_2 (i_1 + 1))) else k_1 ())

def m_ref51_scopeOf (fu : Nat) (l : MLaw) (name : BA) : Option Int :=
  m_ref51_scopeOf_L1 l name (fun p_4 => some (-1)) fu 0

def m_ref51_ruleOf_L1 (s : MScope) (name : BA) (k_1 : (Unit → Option Int)) : Nat → (Nat) → Option Int
  | 0, _ => none
  | fl_2 + 1, i_1 => (bif (decide ((nI i_1) < (ln cRule s.rules))) then bd (ix s.rules (nI i_1)) fun e_3 => (bif (decide (e_3.name = name)) then some (nI i_1) else cnt i_1 (m_ref51_ruleOf_L1 s name k_1 fl_2 (i_1 + 1))) else k_1 ())

def m_ref51_ruleOf (fu : Nat) (s : MScope) (name : BA) : Option Int :=
  m_ref51_ruleOf_L1 s name (fun p_4 => some (-1)) fu 0

def m_ref51_Counterpart (fu : Nat) (l : MLaw) (scope : BA) (ruleV : BA) : Option (MScope × Int × Bool) :=
  bd (m_ref51_scopeOf fu l scope) fun c_1 => (bif (decide (c_1 < 0)) then some ((MScope.mk ByteArray.empty 0 ([] : List MField) ([] : List MField) ([] : List MRule)), 0, false) else bd (ix l.scopes c_1) fun e_2 => bd (m_ref51_ruleOf fu e_2 ruleV) fun c_3 => (bif (decide (c_3 < 0)) then some ((MScope.mk ByteArray.empty 0 ([] : List MField) ([] : List MField) ([] : List MRule)), 0, false) else bd (ix l.scopes c_1) fun e_4 => some (e_4, c_3, true)))

def m_same_Nodes_L1 (a : (List MNode)) (b : (List MNode)) (k_1 : (Unit → Option Bool)) : Nat → (Nat) → Option Bool
  | 0, _ => none
  | fl_2 + 1, i_1 => (bif ((decide ((nI i_1) < (ln cNode a))) && (decide ((nI i_1) < (ln cNode b)))) then bd (ix a (nI i_1)) fun e_3 => bd (ix b (nI i_1)) fun e_4 => (bif (!((e_3.op == e_4.op) && (e_3.n == e_4.n))) then some false else cnt i_1 (m_same_Nodes_L1 a b k_1 fl_2 (i_1 + 1))) else k_1 ())

def m_same_Nodes (fu : Nat) (a : (List MNode)) (b : (List MNode)) : Option Bool :=
  (bif ((ln cNode a) != (ln cNode b)) then some false else m_same_Nodes_L1 a b (fun p_5 => some true) fu 0)

def m_law51_LawdiffIdentity_L2 (a : MLaw) (i_15 : Nat) (fu : Nat) (b : MLaw) (k_2 : (Unit → Option Bool)) : Nat → (Nat) → Option Bool
  | 0, _ => none
  | fl_20 + 1, k_19 => bd (ix a.scopes (nI i_15)) fun e_21 => (bif (decide ((nI k_19) < (ln cRule e_21.rules))) then bd (ix a.scopes (nI i_15)) fun e_22 => bd (ix e_22.rules (nI k_19)) fun e_23 => bd (ix a.scopes (nI i_15)) fun e_24 => bd (m_ref51_Counterpart fu b e_24.name e_23.name) fun c_25 => (bif (!c_25.2.2) then some false else bd (ix c_25.1.rules c_25.2.1) fun e_26 => (bif (e_26.df != e_23.df) then some false else bd (ix c_25.1.rules c_25.2.1) fun e_27 => (bif (e_27.prio != e_23.prio) then some false else bd (ix c_25.1.rules c_25.2.1) fun e_28 => (bif (!((e_28.valid.fr == e_23.valid.fr) && (e_28.valid.to == e_23.valid.to))) then some false else bd (ix c_25.1.rules c_25.2.1) fun e_29 => bd (m_same_Nodes fu e_29.guard e_23.guard) fun c_30 => (bif (!c_30) then some false else bd (ix c_25.1.rules c_25.2.1) fun e_31 => bd (m_same_Nodes fu e_31.value e_23.value) fun c_32 => (bif (!c_32) then some false else bd (ix c_25.1.rules c_25.2.1) fun e_33 => (bif (!decide (e_33.source = e_23.source)) then some false else cnt k_19 (m_law51_LawdiffIdentity_L2 a i_15 fu b k_2 fl_20 (k_19 + 1))))))))) else k_2 ())

def m_law51_LawdiffIdentity_L1 (a : MLaw) (b : MLaw) (fu : Nat) (k_1 : (Unit → Option Bool)) : Nat → (Nat) → Option Bool
  | 0, _ => none
  | fl_16 + 1, i_15 => (bif (decide ((nI i_15) < (ln cScope a.scopes))) then bd (ix a.scopes (nI i_15)) fun e_17 => bd (ix b.scopes (nI i_15)) fun e_18 => (bif ((ln cRule e_17.rules) != (ln cRule e_18.rules)) then some false else m_law51_LawdiffIdentity_L2 a i_15 fu b (fun p_34 => cnt i_15 (m_law51_LawdiffIdentity_L1 a b fu k_1 fl_16 (i_15 + 1))) fu 0) else k_1 ())

def m_law51_LawdiffIdentity (fu : Nat) (a : MLaw) (b : MLaw) : Option Bool :=
  bd (m_same_SmallLaw fu a) fun c_1 => (bif (!c_1) then bd (m_law51_awake fu) fun c_2 => some c_2 else bd (m_same_SmallLaw fu b) fun c_3 => (bif (!c_3) then bd (m_law51_awake fu) fun c_4 => some c_4 else bd (m_ref17_IsValid fu a) fun c_5 => (bif (!c_5) then bd (m_law51_awake fu) fun c_6 => some c_6 else bd (m_lawdiff_ChangedRules fu a a) fun c_7 => (bif ((ln cChange c_7) != 0) then some false else bd (m_lawdiff_SameInterface fu a a) fun c_8 => (bif (!c_8) then some false else bd (m_ref17_IsValid fu b) fun c_9 => (bif (!c_9) then bd (m_law51_awake fu) fun c_10 => some c_10 else bd (m_lawdiff_SameInterface fu a b) fun c_11 => (bif (!c_11) then bd (m_law51_awake fu) fun c_12 => some c_12 else bd (m_lawdiff_ChangedRules fu a b) fun c_13 => (bif ((ln cChange c_13) != 0) then bd (m_law51_awake fu) fun c_14 => some c_14 else m_law51_LawdiffIdentity_L1 a b fu (fun p_35 => bd (m_law51_awake fu) fun c_36 => some c_36) fu 0))))))))

def m_law51_has_L1 (l : (List MChange)) (xV : MChange) (k_1 : (Unit → Option Bool)) : Nat → (Nat) → Option Bool
  | 0, _ => none
  | fl_2 + 1, i_1 => (bif (decide ((nI i_1) < (ln cChange l))) then bd (ix l (nI i_1)) fun e_3 => (bif ((decide (e_3.scope = xV.scope)) && ((decide (e_3.rule = xV.rule)) && (e_3.kind == xV.kind))) then some true else cnt i_1 (m_law51_has_L1 l xV k_1 fl_2 (i_1 + 1))) else k_1 ())

def m_law51_has (fu : Nat) (l : (List MChange)) (xV : MChange) : Option Bool :=
  m_law51_has_L1 l xV (fun p_4 => some false) fu 0

def m_law51_LawdiffSymmetry_L1 (c_9 : (List MChange)) (fu : Nat) (c_10 : (List MChange)) (k_1 : (Unit → Option Bool)) : Nat → (Nat) → Option Bool
  | 0, _ => none
  | fl_12 + 1, i_11 => (bif (decide ((nI i_11) < (ln cChange c_9))) then bd (ix c_9 (nI i_11)) fun e_13 => (bif (e_13.kind == 1) then bd (m_law51_has fu c_10 (MChange.mk e_13.scope e_13.rule 2)) fun c_14 => (bif (!c_14) then some false else cnt i_11 (m_law51_LawdiffSymmetry_L1 c_9 fu c_10 k_1 fl_12 (i_11 + 1))) else (bif (e_13.kind == 2) then bd (m_law51_has fu c_10 (MChange.mk e_13.scope e_13.rule 1)) fun c_15 => (bif (!c_15) then some false else cnt i_11 (m_law51_LawdiffSymmetry_L1 c_9 fu c_10 k_1 fl_12 (i_11 + 1))) else bd (m_law51_has fu c_10 e_13) fun c_16 => (bif (!c_16) then some false else cnt i_11 (m_law51_LawdiffSymmetry_L1 c_9 fu c_10 k_1 fl_12 (i_11 + 1))))) else k_1 ())

def m_law51_LawdiffSymmetry (fu : Nat) (a : MLaw) (b : MLaw) : Option Bool :=
  bd (m_same_SmallLaw fu a) fun c_1 => (bif (!c_1) then bd (m_law51_awake fu) fun c_2 => some c_2 else bd (m_same_SmallLaw fu b) fun c_3 => (bif (!c_3) then bd (m_law51_awake fu) fun c_4 => some c_4 else bd (m_ref17_IsValid fu a) fun c_5 => (bif (!c_5) then bd (m_law51_awake fu) fun c_6 => some c_6 else bd (m_ref17_IsValid fu b) fun c_7 => (bif (!c_7) then bd (m_law51_awake fu) fun c_8 => some c_8 else bd (m_lawdiff_ChangedRules fu a b) fun c_9 => bd (m_lawdiff_ChangedRules fu b a) fun c_10 => (bif ((ln cChange c_9) != (ln cChange c_10)) then some false else m_law51_LawdiffSymmetry_L1 c_9 fu c_10 (fun p_17 => bd (m_law51_awake fu) fun c_18 => some c_18) fu 0)))))

def m_law51_LawdiffOneRule (fu : Nat) (a : MLaw) (scope : Int) (ruleV : Int) (source : BA) : Option Bool :=
  bd (m_same_SmallLaw fu a) fun c_1 => (bif (!c_1) then bd (m_law51_awake fu) fun c_2 => some c_2 else bd (m_ref17_IsValid fu a) fun c_3 => (bif (((!c_3) || ((ln cScope a.scopes) == 0)) || (decide (80 < (sz source)))) then bd (m_law51_awake fu) fun c_4 => some c_4 else bd (nz (ln cScope a.scopes)) fun u_5 => bd (ix a.scopes (Int.tmod (w64 scope) (ln cScope a.scopes))) fun e_6 => (bif ((ln cRule e_6.rules) == 0) then bd (m_law51_awake fu) fun c_7 => some c_7 else bd (nz (ln cRule e_6.rules)) fun u_8 => bd (ix e_6.rules (Int.tmod (w64 ruleV) (ln cRule e_6.rules))) fun e_9 => bd (ap [] e_6.rules) fun z_10 => bd (ix z_10 (Int.tmod (w64 ruleV) (ln cRule e_6.rules))) fun e_11 => bd (ap [] a.scopes) fun z_12 => bd (ix z_12 (Int.tmod (w64 scope) (ln cScope a.scopes))) fun e_13 => bd (m_lawdiff_ChangedRules fu a (MLaw.mk a.enums a.tables (List.set z_12 (Int.toNat (Int.tmod (w64 scope) (ln cScope a.scopes))) (MScope.mk e_6.name e_6.ms e_6.inputs e_6.defs (List.set z_10 (Int.toNat (Int.tmod (w64 ruleV) (ln cRule e_6.rules))) (MRule.mk e_11.name e_11.df e_11.parent e_11.prio e_11.valid e_11.guard e_11.value source)))))) fun c_14 => (bif (decide (source = e_9.source)) then (bif ((ln cChange c_14) == 0) then bd (m_law51_awake fu) fun c_15 => some c_15 else some false) else (bif ((ln cChange c_14) == 1) then bd (ix c_14 0) fun e_16 => bd (ix (List.set z_10 (Int.toNat (Int.tmod (w64 ruleV) (ln cRule e_6.rules))) (MRule.mk e_11.name e_11.df e_11.parent e_11.prio e_11.valid e_11.guard e_11.value source)) (Int.tmod (w64 ruleV) (ln cRule e_6.rules))) fun e_17 => (bif ((decide (e_16.scope = e_6.name)) && ((decide (e_16.rule = e_17.name)) && (e_16.kind == 3))) then bd (m_law51_awake fu) fun c_18 => some c_18 else some false) else some false)))))

end Go.Ab
