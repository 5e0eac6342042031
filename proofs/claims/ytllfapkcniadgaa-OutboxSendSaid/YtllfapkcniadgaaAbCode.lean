/- The abstract machine: code with branches and loops. -/
import Derived.Test.YtllfapkcniadgaaAbWp2
set_option linter.unusedVariables false
namespace Go.Ab
open Go.RowKit

def StEq (τ σ : St) : Prop := τ.n = σ.n ∧ τ.h = σ.h ∧ ∀ t, τ.get t = σ.get t

theorem StEq.le {τ σ : St} (h : StEq τ σ) : Le σ τ := Le.same h.1 h.2.1 fun t => .inl (h.2.2 t)

theorem StepOK.eq {P : Program} {o : Oper} {τ σ : St} {v : AV} {news : Heap} (he : StEq τ σ) (h : StepOK P o τ v news) : StepOK P o σ v news := by
  intro S ρ F H a w next Q ok hs hn ht hh hf hk
  exact h S ρ F H a w next Q ok (by rw [he.2.1]; exact hs) hn (fun t htm => by rw [he.2.2]; exact ht t htm) hh hf hk

theorem StEq.put {τ σ : St} (h : StEq τ σ) (d : Option Nat) (v : AV) : StEq (τ.put d v) (σ.put d v) := by
  obtain ⟨h1, h2, h3⟩ := h
  refine ⟨by rw [put_n, put_n]; exact h1, by rw [put_h, put_h]; exact h2, fun t => ?_⟩
  cases d with
  | none => exact h3 t
  | some d =>
    by_cases e : d = t
    · subst e; rw [get_put_same, get_put_same]
    · rw [get_put_other _ _ e, get_put_other _ _ e]; exact h3 t

theorem StEq.add {τ σ : St} (h : StEq τ σ) (news : Heap) : StEq (τ.add news) (σ.add news) := ⟨h.1, by simp only [St.add]; rw [h.2.1], h.2.2⟩

theorem StEq.after {τ σ : St} (h : StEq τ σ) (o : Oper) : ∀ q, StEq (after1 τ o q) (after1 σ o q)
  | none => h.put _ _
  | some (v, news) => (h.put _ _).add _

theorem pre_elim {P : Program} {tab : Tab} (htab : tabCheck P tab = true) {ops : Array Oper} {K : St → Prop} : ∀ (l : List Oper) (τ σ : St), StEq τ σ → awpPre P tab ops l K τ →
    ∃ (S : Nat → St) (p : Nat → Option (AV × Heap)), S 0 = σ ∧ (∀ i o, l[i]? = some o → PickOK P ops o (S i) (p i) ∧ S (i + 1) = after1 (S i) o (p i)) ∧ ∃ τ', K τ' ∧ StEq τ' (S l.length)
  | [], τ, σ, he, h => ⟨fun _ => σ, fun _ => none, rfl, by simp, τ, h, he⟩
  | o :: rest, τ, σ, he, h => by
    obtain ⟨σ1, _, heq, hcase⟩ := guardK_elim (show guardK ops o _ _ τ from h)
    have he1 : StEq σ1 σ := ⟨heq.1.trans he.1, heq.2.1.trans he.2.1, fun t => (heq.2.2 t).trans (he.2.2 t)⟩
    have build : ∀ q, PickOK P ops o σ q → (∃ τ1, awpPre P tab ops rest K τ1 ∧ StEq τ1 (after1 σ o q)) →
        ∃ (S : Nat → St) (p : Nat → Option (AV × Heap)), S 0 = σ ∧ (∀ i o', (o :: rest)[i]? = some o' → PickOK P ops o' (S i) (p i) ∧ S (i + 1) = after1 (S i) o' (p i)) ∧ ∃ τ', K τ' ∧ StEq τ' (S (o :: rest).length) := by
      rintro q hq ⟨τ1, h1, he2⟩
      obtain ⟨S, p, hS0, hSp, τ', hK, hE⟩ := pre_elim htab rest τ1 _ he2 h1
      refine ⟨fun i => match i with | 0 => σ | i + 1 => S i, fun i => match i with | 0 => q | i + 1 => p i, rfl, fun i o' ho' => ?_, τ', hK, hE⟩
      cases i with
      | zero => simp at ho'; subst ho'; exact ⟨hq, hS0⟩
      | succ i => exact hSp i o' (by simpa using ho')
    rcases hcase with ⟨hrun, hg⟩ | ⟨hskip, j, want, d, hg, hd, hb⟩
    · obtain ⟨v, news, hs, hk⟩ := aop_sound htab hrun
      split at hk
      · rename_i h1 h2
        rw [putK_eq, addK_eq] at hk
        refine build (some (v, news)) ⟨fun j want e => ?_, hs.eq he1, ?_, ?_⟩ ⟨_, hk, he1.after o (some (v, news))⟩
        · obtain ⟨d, hd, hb⟩ := hg j want e
          exact ⟨d, hd, by rw [← he.2.2]; exact hb⟩
        · cases hod : o.dst with
          | none => rfl
          | some d => rw [hod] at h1; simp only [dstOk] at h1 ⊢; rw [← he1.1]; exact h1
        · rw [← he1.2.1]; exact freshB_spec h2
      · exact hk.elim
    · split at hskip
      · rename_i hdst
        rw [putK_eq] at hskip
        refine build none ⟨j, want, d, hg, hd, by rw [← he.2.2]; exact hb, ?_⟩ ⟨_, hskip, he1.after o none⟩
        cases hod : o.dst with
        | none => rfl
        | some d' => rw [hod] at hdst; simp only [dstOk] at hdst ⊢; rw [← he1.1]; exact hdst
      · exact hskip.elim

/-- How many operations stand ahead of the first that writes. -/
def preLen : List Oper → Nat
  | [] => 0
  | o :: r => match isMut o with
    | true => 0
    | false => preLen r + 1

theorem preLen_le : ∀ (l : List Oper), preLen l ≤ l.length
  | [] => Nat.le_refl _
  | o :: r => by
    simp only [preLen]
    split
    · simp
    · have := preLen_le r; simp; omega

def makes (o : Oper) : Bool := match o.op with
  | .alloc _ | .box .. | .buildSlice .. | .call _ => true
  | _ => false

def prepAll : List Oper → St → St
  | [], σ => σ
  | o :: r, σ => match makes o with
    | true => prepAll r (prep o.dst σ)
    | false => prepAll r σ

theorem Le.prepAll : ∀ (l : List Oper) (σ : St), Le σ (prepAll l σ)
  | [], σ => Le.refl _
  | o :: r, σ => by
    simp only [Ab.prepAll]
    split
    · exact (Le.prep _ _).trans (Le.prepAll r _)
    · exact Le.prepAll r σ

def prepAllK : List Oper → St → (St → Prop) → Prop
  | [], σ, K => K σ
  | o :: r, σ, K => match makes o with
    | true => prepK o.dst σ fun σ' => prepAllK r σ' K
    | false => prepAllK r σ K

theorem prepAllK_eq : ∀ (l : List Oper) (σ : St) (K : St → Prop), prepAllK l σ K = K (prepAll l σ)
  | [], σ, K => rfl
  | o :: r, σ, K => by
    simp only [prepAllK, Ab.prepAll, prepK_eq]
    cases makes o with
    | true => simp only; rw [prepAllK_eq r]
    | false => simp only; rw [prepAllK_eq r]

theorem left_le (n : Nat) (listed : Array Bool) : left n listed ≤ n := by
  unfold left
  have := List.length_filter_le (fun i => !listed.getD i false) (List.range n)
  simpa using this

/-- **A region that draws its order.** -/
theorem region_draw {P : Program} {tab : Tab} (htab : tabCheck P tab = true) (hm : P.follows .mixedOrders = true) {id : Nat} {ops : Array Oper} (hok : drawOk ops (preLen ops.toList) = true) {V F0 : Nat → Prop} {w0 : World} {K : St → Prop} {Q : Exit → Act → World → Prop}
    (hQ : ∀ σ a w, K σ → Holds' V F0 w0 σ a w → Q .normal a w) {σ : St} {a : Act} {w : World}
    (h : awpPre P tab ops (ops.toList.take (preLen ops.toList)) (fun σ => awpOps P tab ops (ops.toList.drop (preLen ops.toList)) K σ) (prepAll ops.toList σ)) (hh : Holds' V F0 w0 σ a w) :
    (Code.region id ops true).wp P Q a w := by
  refine wp_mono (Q := fun e a w => e = .normal ∧ Q .normal a w) ?_ (fun e a w hq => by obtain ⟨rfl, h⟩ := hq; exact h)
  replace hQ : ∀ σ a w, K σ → Holds' V F0 w0 σ a w → (fun (e : Exit) a w => e = .normal ∧ Q .normal a w) .normal a w := fun σ a w hk hh => ⟨rfl, hQ σ a w hk hh⟩
  have hle := preLen_le ops.toList
  generalize preLen ops.toList = m at *
  refine wp_region_any hm ?_
  obtain ⟨S, p, hS0, hSp, τ', hK, hE⟩ := pre_elim htab _ _ (prepAll ops.toList σ) ⟨rfl, rfl, fun _ => rfl⟩ h
  have hmsz : m ≤ ops.size := by simpa using hle
  have hlen : (ops.toList.take m).length = m := by simp; omega
  have hget : ∀ i o, i < m → ops[i]? = some o → (ops.toList.take m)[i]? = some o := fun i o hi ho => by
    rw [List.getElem?_take, if_pos hi]; simpa using ho
  have T : Text P ops m S p := ⟨hmsz, fun i o hi ho => (hSp i o (hget i o hi ho)).1, fun i o hi ho => (hSp i o (hget i o hi ho)).2⟩
  have D := drawOk_spec hok
  rw [hlen] at hE
  have hh' := Le.prepAll ops.toList σ V F0 w0 a w hh
  rw [← hS0] at hh'
  refine any_prefix T D (fun c a w h => by cases h.1) (fun a' w' hm' => ?_) _ _ _ _ (left_le _ _) (V := V) (F0 := F0) (w0 := w0) ?_
  · have h1 := hE.le V F0 w0 a' w' hm'
    have := awpOps_sound htab (Q := fun e a w => e = .normal ∧ Q .normal a w) hQ (ops.toList.drop m) m (fun j => by rw [List.getElem?_drop]; simp) (by simp; omega) τ' a' w' hK h1
    rw [List.length_drop, Array.length_toList] at this
    exact this
  · obtain ⟨⟨ρ, F, hs, h1, h2⟩, hk⟩ := hh'
    have hno : ∀ i, ¬ (Array.replicate ops.size false).getD i false = true := fun i => by
      by_cases hi : i < ops.size <;> simp [hi]
    refine ⟨by simp, fun i o hi => absurd hi (hno i), fun i hi => absurd hi (hno i), ρ, F, hs.ok.drew, hs.size, hs.defers, fun t => .inr ⟨fun i o hi => absurd hi (hno i), ?_⟩, fun id b N hid ob hl => ?_, fun id x hid => .inl (hs.dom id x hid), h1, h2, hk.trans ⟨rfl, rfl, rfl, Nat.le_refl _, fun _ _ => rfl⟩⟩
    · exact ARel.mono (w := w) (w' := { w with drawn := w.drawn + 1 }) (fun _ _ h => h) (fun _ h => h) (fun _ _ => rfl) (T.sub m (Nat.zero_le _) (Nat.le_refl _)) (hs.tmp t)
    · obtain ⟨ob', hob'⟩ := hs.dom id _ hid
      have := T.sub m (Nat.zero_le _) (Nat.le_refl _) id ob' hob'
      rw [hl] at this; cases this
      exact ORel.mono (w := w) (w' := { w with drawn := w.drawn + 1 }) (fun _ _ h => h) (fun _ h => h) (fun _ _ => rfl) (T.sub m (Nat.zero_le _) (Nat.le_refl _)) rfl (hs.obj id b N hid ob hob')

/-! ### Code -/
/-- A loop: a family of states that one round hands on, with a measure that goes down. -/
def LoopP (body : (Exit → St → Prop) → St → Prop) (K : Exit → St → Prop) (σ : St) : Prop :=
  ∃ (X : Type) (inv : X → Prop) (st : X → St) (μ : X → Nat), (∃ x, inv x ∧ Le σ (st x)) ∧ ∀ x, inv x → fSt (st x) (body (fun e σ' => match e with
    | .normal => ∃ x', inv x' ∧ Le σ' (st x') ∧ μ x' < μ x
    | e => K e σ'))

theorem LoopP_intro {body : (Exit → St → Prop) → St → Prop} {K : Exit → St → Prop} {σ : St} {X : Type} (inv : X → Prop) (st : X → St) (μ : X → Nat) (x : X) (hi : inv x) (hx : Le σ (st x)) (h : ∀ x, inv x → fSt (st x) (body (fun e σ' => match e with
    | .normal => ∃ x', inv x' ∧ Le σ' (st x') ∧ μ x' < μ x
    | e => K e σ'))) : LoopP body K σ := ⟨X, inv, st, μ, ⟨x, hi, hx⟩, h⟩

theorem LoopP_elim {body : (Exit → St → Prop) → St → Prop} {K : Exit → St → Prop} {σ : St} (h : LoopP body K σ) : ∃ (X : Type) (inv : X → Prop) (st : X → St) (μ : X → Nat), (∃ x, inv x ∧ Le σ (st x)) ∧ ∀ x, inv x → body (fun e σ' => match e with
    | .normal => ∃ x', inv x' ∧ Le σ' (st x') ∧ μ x' < μ x
    | e => K e σ') (st x) := by
  obtain ⟨X, inv, st, μ, hx, h⟩ := h
  exact ⟨X, inv, st, μ, hx, fun x hi => by have := h x hi; rwa [fSt_eq] at this⟩
attribute [irreducible] LoopP

def litTo (c : Operand) (b : Bool) (σ : St) : St := match c with
  | .tmp t => σ.put (some t) (litB b)
  | _ => σ

def litK (c : Operand) (b : Bool) (σ : St) (K : St → Prop) : Prop := match c with
  | .tmp t => putK σ (some t) (litB b) K
  | _ => K σ

theorem litK_eq (c : Operand) (b : Bool) (σ : St) (K : St → Prop) : litK c b σ K = K (litTo c b σ) := by
  cases c <;> simp only [litK, litTo, putK_eq]

def awp (P : Program) (tab : Tab) : Code → (Exit → St → Prop) → St → Prop
  | .skip, K, σ => K .normal σ
  | .region _ ops draw, K, σ => match draw with
    | false => awpOps P tab ops ops.toList (K .normal) σ
    | true => prepAllK ops.toList σ (awpPre P tab ops (ops.toList.take (preLen ops.toList)) (fun σ => awpOps P tab ops (ops.toList.drop (preLen ops.toList)) (K .normal) σ))
  | .seq x y, K, σ => awp P tab x (fun e σ => match e with
    | .normal => awp P tab y K σ
    | e => K e σ) σ
  | .cond c x y, K, σ => match opnd tab σ 0 c with
    | .s (.c (.d (.bool b))) => condP b (litK c true σ (awp P tab x K)) (litK c false σ (awp P tab y K))
    | _ => False
  | .block id c, K, σ => awp P tab c (fun e σ => match e with
    | .exit i => match Nat.beq i id with
      | true => K .normal σ
      | false => K (.exit i) σ
    | e => K e σ) σ
  | .loop c, K, σ => LoopP (awp P tab c) K σ
  | .exit id, K, σ => K (.exit id) σ
  | .scope c, K, σ => awp P tab c (fun e σ => match e with
    | .goto _ => False
    | e => K e σ) σ
  | .label _, K, σ => K .normal σ
  | .ret, K, σ => K .ret σ
  | _, _, _ => False

def codeOk : Code → Bool
  | .region _ ops draw => match draw with
    | true => drawOk ops (preLen ops.toList)
    | false => true
  | .seq x y => codeOk x && codeOk y
  | .cond _ x y => codeOk x && codeOk y
  | .block _ c => codeOk c
  | .loop c => codeOk c
  | .scope c => codeOk c
  | _ => true

theorem litTo_le {tab : Tab} {c : Operand} {b : Bool} {σ : St} (h : opnd tab σ 0 c = .s (.c (.d (.bool b)))) : Le σ (litTo c b σ) := by
  cases c with
  | tmp t => exact lit_le h
  | const v => exact Le.refl _
  | global g => exact Le.refl _
  | func f => exact Le.refl _

theorem awp_sound {P : Program} {tab : Tab} (htab : tabCheck P tab = true) (hm : P.follows .mixedOrders = true) {V F0 : Nat → Prop} {w0 : World} : ∀ (c : Code) (K : Exit → St → Prop) (Q : Exit → Act → World → Prop) (σ : St) (a : Act) (w : World),
    codeOk c = true → awp P tab c K σ → Holds' V F0 w0 σ a w → (∀ e σ a w, K e σ → Holds' V F0 w0 σ a w → Q e a w) → c.wp P Q a w := by
  intro c
  induction c with
  | skip => intro K Q σ a w _ h hh hQ; exact wp_skip (hQ _ _ _ _ h hh)
  | region id ops draw =>
    intro K Q σ a w hok h hh hQ
    cases draw with
    | false =>
      have h' : awpOps P tab ops ops.toList (K .normal) σ := h
      have := awpOps_sound htab (Q := Q) (V := V) (F0 := F0) (w0 := w0) (fun σ a w hk hh => hQ _ _ _ _ hk hh) ops.toList 0 (by simp) (by simp) σ a w h' hh
      refine wp_region ?_
      rw [List.range_eq_range']
      simpa using this
    | true =>
      have h' : prepAllK ops.toList σ (awpPre P tab ops (ops.toList.take (preLen ops.toList)) (fun σ => awpOps P tab ops (ops.toList.drop (preLen ops.toList)) (K .normal) σ)) := h
      rw [prepAllK_eq] at h'
      exact region_draw htab hm hok (fun σ a w hk hh => hQ _ _ _ _ hk hh) h' hh
  | seq x y ihx ihy =>
    intro K Q σ a w hok h hh hQ
    simp only [codeOk, Bool.and_eq_true] at hok
    refine wp_seq (ihx _ _ σ a w hok.1 h hh fun e σ' a' w' hk hh' => ?_)
    cases e with
    | normal => exact ihy K Q σ' a' w' hok.2 hk hh' hQ
    | exit i => exact hQ _ _ _ _ hk hh'
    | goto l => exact hQ _ _ _ _ hk hh'
    | ret => exact hQ _ _ _ _ hk hh'
    | panic c => exact hQ _ _ _ _ hk hh'
    | outgrown => exact hQ _ _ _ _ hk hh'
  | cond c x y ihx ihy =>
    intro K Q σ a w hok h hh hQ
    simp only [codeOk, Bool.and_eq_true] at hok
    simp only [awp] at h
    split at h
    · rename_i b hb
      have hv : a.eval c = .bool b := by
        obtain ⟨⟨ρ, F, hs, _⟩, _⟩ := hh
        have := opnd_rel (a := a) (ρ := ρ) (F := F) (w := w) (H := σ.h) (σ := σ) tab 0 (x := c) (fun t e => by subst e; exact hs.tmp t)
        rw [hb] at this
        exact bool_of_rel this
      rw [litK_eq, litK_eq] at h
      rcases condP_elim h with ⟨rfl, h'⟩ | ⟨rfl, h'⟩
      · exact wp_cond hv (ihx K Q _ a w hok.1 h' (litTo_le hb V F0 w0 a w hh) hQ)
      · exact wp_cond hv (ihy K Q _ a w hok.2 h' (litTo_le hb V F0 w0 a w hh) hQ)
    · exact h.elim
  | block id c ih =>
    intro K Q σ a w hok h hh hQ
    refine wp_block (ih _ _ σ a w hok h hh fun e σ' a' w' hk hh' => ?_)
    cases e with
    | exit i =>
      simp only [Exit.inBlock]
      simp only at hk
      split at hk
      · rename_i hb; rw [if_pos (Nat.eq_of_beq_eq_true hb)]; exact hQ _ _ _ _ hk hh'
      · rename_i hb; rw [if_neg (Nat.ne_of_beq_eq_false hb)]; exact hQ _ _ _ _ hk hh'
    | normal => exact hQ _ _ _ _ hk hh'
    | goto l => exact hQ _ _ _ _ hk hh'
    | ret => exact hQ _ _ _ _ hk hh'
    | panic c => exact hQ _ _ _ _ hk hh'
    | outgrown => exact hQ _ _ _ _ hk hh'
  | loop c ih =>
    intro K Q σ a w hok h hh hQ
    obtain ⟨X, inv, st, μ, ⟨x0, hi0, hle⟩, hr⟩ := LoopP_elim (body := awp P tab c) (K := K) (σ := σ) h
    intro b k cs
    have key : ∀ n x a w, inv x → μ x = n → Holds' V F0 w0 (st x) a w → ∃ e a' w', Q e a' w' ∧ Arrives P (lone (b.at a (.code c :: .inLoop c :: k)) cs w) b k cs e a' w' := by
      intro n
      induction n using Nat.strongRecOn with
      | _ n ihn =>
        intro x a w hix hn hh
        have hbody := ih _ (fun e a' w' => match e with | .normal => ∃ x', inv x' ∧ Holds' V F0 w0 (st x') a' w' ∧ μ x' < μ x | e => Q e a' w') (st x) a w hok (hr x hix) hh (fun e σ' a' w' hk hh' => by
          cases e with
          | normal =>
            obtain ⟨x', hi', hle', hlt⟩ := hk
            exact ⟨x', hi', hle' V F0 w0 a' w' hh', hlt⟩
          | exit i => exact hQ _ _ _ _ hk hh'
          | goto l => exact hQ _ _ _ _ hk hh'
          | ret => exact hQ _ _ _ _ hk hh'
          | panic c => exact hQ _ _ _ _ hk hh'
          | outgrown => exact hQ _ _ _ _ hk hh')
        obtain ⟨e, a₁, w₁, hq, harr⟩ := hbody b (.inLoop c :: k) cs
        cases e with
        | normal =>
          obtain ⟨x', hi', hh', hlt⟩ := hq
          obtain ⟨e₂, a₂, w₂, hq₂, harr₂⟩ := ihn (μ x') (by omega) x' a₁ w₁ hi' rfl hh'
          exact ⟨e₂, a₂, w₂, hq₂, .of_steps (Steps.trans harr (.one step_inLoop)) harr₂⟩
        | exit id => exact ⟨_, a₁, w₁, hq, .pass (x := .inLoop c) rfl (fun _ _ => .inl (by simp)) harr⟩
        | goto l => exact ⟨_, a₁, w₁, hq, .pass (x := .inLoop c) rfl (fun _ _ => .inl (by simp)) harr⟩
        | ret => exact ⟨_, a₁, w₁, hq, .pass (x := .inLoop c) rfl (fun _ _ => .inl (by simp)) harr⟩
        | panic ch => exact ⟨_, a₁, w₁, hq, .pass (x := .inLoop c) rfl (fun _ _ => .inl (by simp)) harr⟩
        | outgrown => exact ⟨_, a₁, w₁, hq, .pass (x := .inLoop c) rfl (fun _ _ => .inl (by simp)) harr⟩
    obtain ⟨e, a', w', hq, harr⟩ := key _ x0 a w hi0 rfl (hle V F0 w0 a w hh)
    exact ⟨e, a', w', hq, .of_steps (.one step_loop) harr⟩
  | rangeFunc f ps as b _ _ => intro K Q σ a w _ h; exact h.elim
  | exit id => intro K Q σ a w _ h hh hQ; exact wp_exit (hQ _ _ _ _ h hh)
  | scope c ih =>
    intro K Q σ a w hok h hh hQ
    refine wp_scope_straight (ih _ _ σ a w hok h hh fun e σ' a' w' hk hh' => ?_)
    cases e with
    | goto l => exact hk.elim
    | exit i => exact hQ _ _ _ _ hk hh'
    | normal => exact hQ _ _ _ _ hk hh'
    | ret => exact hQ _ _ _ _ hk hh'
    | panic c => exact hQ _ _ _ _ hk hh'
    | outgrown => exact hQ _ _ _ _ hk hh'
  | label l => intro K Q σ a w _ h hh hQ; exact wp_label (hQ _ _ _ _ h hh)
  | goto l => intro K Q σ a w _ h; exact h.elim
  | ret => intro K Q σ a w _ h hh hQ; exact wp_ret (hQ _ _ _ _ h hh)
  | refuse why => intro K Q σ a w _ h; exact h.elim

end Go.Ab
