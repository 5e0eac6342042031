/- The abstract machine: a call that turns the caller's objects. -/
import Derived.Test.YtffnbobdkpebgaaGreatAbDlv
set_option linter.unusedVariables false
namespace Go.Ab
open Go.RowKit
def C.ren (f : Nat → Nat) : C → C
 | .own id s => .own (f id) s
 | .sub id s st n => .sub (f id) s st n
 | .ref id i s off => .ref (f id) i s off
 | .vrow id s n => .vrow (f id) s n
 | c => c
def SV.ren (f : Nat → Nat) : SV → SV
 | .c x => .c (x.ren f)
 | .agg cs => .agg (cs.map (C.ren f))
 | .fn g cs => .fn g (cs.map (C.ren f))
def AV.ren (f : Nat → Nat) : AV → AV
 | .s v => .s (v.ren f)
 | .tup vs => .tup (vs.map (SV.ren f))
def Ob.ren (f : Nat → Nat) : Ob → Ob
 | .var cs => .var (cs.map (C.ren f))
 | .row T s es => .row T s es
section ren
variable {ρ ρ' : Map} {F : Nat → Prop} {w : World} {H H' : Heap} {f : Nat → Nat}
theorem CRel.ren (hρ : ∀ k p, ρ k = some p → ρ' (f k) = some p) (hH : ∀ k o, look H k = some o → look H' (f k) = some (o.ren f)) {v : Value} {c : C} (h : CRel ρ F w H v c) : CRel ρ' F w H' v (c.ren f) := by
 cases c with
 | d x => exact h
 | nil s => exact h
 | own id s =>
  obtain ⟨T, es, he, h⟩ := h
  refine ⟨T, es, hH _ _ he, ?_⟩
  rcases h with h | ⟨b', N, cap, hb, r⟩
  ·exact .inl h
  ·exact .inr ⟨b', N, cap, hρ _ _ hb, r⟩
 | sub id s st n =>
  obtain ⟨T, es, he, hle, h⟩ := h
  refine ⟨T, es, hH _ _ he, hle, ?_⟩
  rcases h with h | h | ⟨b', N, cap, hb, r⟩
  ·exact .inl h
  ·exact .inr (.inl h)
  ·exact .inr (.inr ⟨b', N, cap, hρ _ _ hb, r⟩)
 | ref id i s off => obtain ⟨b', N, hb, r⟩ := h; exact ⟨b', N, hρ _ _ hb, r⟩
 | vrow id s n => obtain ⟨b', N, hb, r⟩ := h; exact ⟨b', N, hρ _ _ hb, r⟩
 | junk => trivial
theorem SVRel.ren (hρ : ∀ k p, ρ k = some p → ρ' (f k) = some p) (hH : ∀ k o, look H k = some o → look H' (f k) = some (o.ren f)) {v : Value} {x : SV} (h : SVRel ρ F w H v x) : SVRel ρ' F w H' v (x.ren f) := by
 cases x with
 | c x => exact CRel.ren hρ hH h
 | agg cs => obtain ⟨vs, hv, h⟩ := h; exact ⟨vs, hv, all2_map (C.ren f) (fun _ _ h => CRel.ren hρ hH h) h⟩
 | fn g cs => obtain ⟨vs, hv, h⟩ := h; exact ⟨vs, hv, all2_map (C.ren f) (fun _ _ h => CRel.ren hρ hH h) h⟩
theorem ARel.ren (hρ : ∀ k p, ρ k = some p → ρ' (f k) = some p) (hH : ∀ k o, look H k = some o → look H' (f k) = some (o.ren f)) {v : Value} {x : AV} (h : ARel ρ F w H v x) : ARel ρ' F w H' v (x.ren f) := by
 cases x with
 | s x => exact SVRel.ren hρ hH h
 | tup xs => obtain ⟨vs, hv, h⟩ := h; exact ⟨vs, hv, all2_map (SV.ren f) (fun _ _ h => SVRel.ren hρ hH h) h⟩
theorem ORel.ren (hρ : ∀ k p, ρ k = some p → ρ' (f k) = some p) (hH : ∀ k o, look H k = some o → look H' (f k) = some (o.ren f)) {b N : Nat} {o : Ob} (h : ORel ρ F w H b N o) : ORel ρ' F w H' b N (o.ren f) := by
 cases o with
 | var cs => obtain ⟨c, T, hc, hn, h⟩ := h; exact ⟨c, T, hc, hn, all2_map (C.ren f) (fun _ _ h => CRel.ren hρ hH h) h⟩
 | row T s es => exact h
end ren
def renId (ps : List (Nat × Nat)) (b j : Nat) : Nat := match look ps j with
 | some id => id
 | none => b + j
def lostP (post : Heap) : List (Nat × Nat) → Nat → Bool
 | [], _ => false
 | (j, i) :: r, id => (Nat.beq i id && (match look post j with | some _ => false | none => true)) || lostP post r id
def updAll (f : Nat → Nat) (post : Heap) : List (Nat × Nat) → Heap → Heap
 | [], h => h
 | (j, id) :: r, h => match look post j with
  | some o => updAll f post r (upd h id (o.ren f))
  | none => updAll f post r h
def newsOf (f : Nat → Nat) (ps : List (Nat × Nat)) (b : Nat) : Heap → Heap
 | [] => []
 | (k, o) :: r => match hasJ ps k with
  | true => newsOf f ps b r
  | false => (b + k, o.ren f) :: newsOf f ps b r
def geAll : List (Nat × Nat) → Bool
 | [] => true
 | (j, _) :: r => Nat.ble 7000000 j && geAll r
theorem lostP_iff {post : Heap} : ∀ {ps : List (Nat × Nat)} {id : Nat}, lostP post ps id = true ↔ ∃ j, (j, id) ∈ ps ∧ look post j = none
 | [], id => by simp [lostP]
 | (a, b) :: r, id => by
  simp only [lostP, Bool.or_eq_true, Bool.and_eq_true, List.mem_cons, Prod.mk.injEq]
  rw [lostP_iff]
  constructor
  ·rintro (⟨h1, h2⟩ | ⟨j, h1, h2⟩)
   ·refine ⟨a, .inl ⟨rfl, (Nat.eq_of_beq_eq_true h1).symm⟩, ?_⟩
    cases hl : look post a with
    | none => rfl
    | some o => rw [hl] at h2; cases h2
   ·exact ⟨j, .inr h1, h2⟩
  ·rintro ⟨j, ⟨rfl, rfl⟩ | h1, h2⟩
   ·refine .inl ⟨Nat.beq_refl _, ?_⟩
    rw [h2]
   ·exact .inr ⟨j, h1, h2⟩
theorem look_updAll_other {f : Nat → Nat} {post : Heap} : ∀ {ps : List (Nat × Nat)} {h : Heap} {id : Nat}, (∀ j, (j, id) ∉ ps) → look (updAll f post ps h) id = look h id
 | [], h, id, _ => rfl
 | (j, i) :: r, h, id, hn => by
  have hne : i ≠ id := fun e => hn j (by rw [e]; exact .head _)
  have ih : ∀ h, look (updAll f post r h) id = look h id := fun h => look_updAll_other fun j hj => hn j (.tail _ hj)
  simp only [updAll]
  split
  ·rw [ih, look_upd_other hne]
  ·exact ih h
theorem look_updAll_same {f : Nat → Nat} {post : Heap} : ∀ {ps : List (Nat × Nat)} {h : Heap} {j id : Nat} {o o' : Ob}, (ps.map (·.2)).Nodup → (j, id) ∈ ps → look post j = some o → look h id = some o' → look (updAll f post ps h) id = some (o.ren f)
 | (a, i) :: r, h, j, id, o, o', hn, hm, ho, hl => by
  simp only [List.map_cons, List.nodup_cons] at hn
  rcases List.mem_cons.1 hm with e | e
  ·cases e
   simp only [updAll, ho]
   rw [look_updAll_other fun k hk => hn.1 (List.mem_map.2 ⟨_, hk, rfl⟩)]
   exact look_upd_same hl
  ·have hne : i ≠ id := fun he => by subst he; exact hn.1 (List.mem_map.2 ⟨_, e, rfl⟩)
   simp only [updAll]
   split
   ·exact look_updAll_same hn.2 e ho (by rw [look_upd_other hne]; exact hl)
   ·exact look_updAll_same hn.2 e ho hl
theorem look_newsOf {f : Nat → Nat} {ps : List (Nat × Nat)} {b : Nat} : ∀ {post : Heap} {k : Nat} {o : Ob}, look post k = some o → hasJ ps k = false → look (newsOf f ps b post) (b + k) = some (o.ren f)
 | [], k, o, h, _ => by simp [look] at h
 | (a, x) :: r, k, o, h, hk => by
  simp only [look] at h
  simp only [newsOf]
  cases hb : Nat.beq a k with
  | true =>
   rw [hb] at h
   simp only [cond_true, Option.some.injEq] at h
   subst h
   have := Nat.eq_of_beq_eq_true hb
   subst this
   rw [hk]
   simp [look, Nat.beq_refl]
  | false =>
   rw [hb] at h
   simp only [cond_false] at h
   split
   ·exact look_newsOf h hk
   ·have : Nat.beq (b + a) (b + k) = false := beq_false fun e => by
     have : a = k := by omega
     subst this; rw [Nat.beq_refl] at hb; cases hb
    simp only [look, this, cond_false]
    exact look_newsOf h hk
theorem look_newsOf_inv {f : Nat → Nat} {ps : List (Nat × Nat)} {b : Nat} : ∀ {post : Heap} {id : Nat} {o : Ob}, look (newsOf f ps b post) id = some o → ∃ k, id = b + k ∧ hasJ ps k = false
 | [], id, o, h => by simp [newsOf, look] at h
 | (a, x) :: r, id, o, h => by
  simp only [newsOf] at h
  split at h
  ·exact look_newsOf_inv h
  ·rename_i ha
   simp only [look] at h
   cases hb : Nat.beq (b + a) id with
   | true => exact ⟨a, (Nat.eq_of_beq_eq_true hb).symm, ha⟩
   | false => rw [hb] at h; exact look_newsOf_inv h
def actsOf (tab : Tab) (σ : St) : List Operand → List Nat → Option (List SV)
 | [], _ => some []
 | x :: r, tys => match opnd tab σ (tys.headD 0) x, actsOf tab σ r tys.tail with
  | .s v, some vs => some (v :: vs)
  | _, _ => none
theorem actsOf_rel {tab : Tab} {σ : St} {a : Act} {ρ : Map} {F : Nat → Prop} {w : World} : ∀ {xs : List Operand} {tys : List Nat} {vs : List SV}, (∀ x ∈ xs, ∀ ty, ARel ρ F w σ.h (a.eval x) (opnd tab σ ty x)) → actsOf tab σ xs tys = some vs → All2 (SVRel ρ F w σ.h) (xs.map a.eval) vs
 | [], tys, vs, _, h => by simp [actsOf] at h; subst h; trivial
 | x :: r, tys, vs, hop, h => by
  simp only [actsOf] at h
  split at h
  ·rename_i v vs' h1 h2
   simp only [Option.some.injEq] at h
   subst h
   have := hop x (by simp) (tys.headD 0)
   rw [h1] at this
   exact ⟨this, actsOf_rel (fun x hx => hop x (by simp [hx])) h2⟩
  ·cases h
def St.afterH (σ : St) (ps : List (Nat × Nat)) (b : Nat) (post : Heap) : St :=
 { (σ.kill (lostP post ps)) with h := newsOf (renId ps b) ps b post ++ updAll (renId ps b) post ps (killH (lostP post ps) σ.h) }
theorem seq_callH {P : Program} {tab : Tab} {σ : St} {o : Oper} {c : Call} {f : Operand} {g : FuncId} {acts cargs : List SV} {pre post : Heap} {r : AV} (b : Nat) {ps : List (Nat × Nat)} (ho : o.op = .call c) (hcal : callOf c = some f)
  (hf : opnd tab σ 0 f = .s (.c (.d (.clos g [])))) (hacts : actsOf tab σ c.args.toList c.argTypes.toList = some acts) (hfn : FnH P g cargs pre r post) (hd : dstOk σ o.dst = true)
  (hn1 : (ps.map (·.1)).Nodup) (hn2 : (ps.map (·.2)).Nodup) (hge : geAll ps = true) (hob : obsP false σ.h pre ps ps) (hz : zSVs false σ.h pre ps acts cargs)
  (hfr : ∀ id ob, look (newsOf (renId ps b) ps b post) id = some ob → look σ.h id = none ∧ id < 7000000) : SeqOK P o σ ((σ.afterH ps b post).put o.dst (r.ren (renId ps b))) := by
 intro V F0 w0 a w next Q ⟨⟨ρ, F, hs, hp, h2⟩, hk⟩ hn
 have hcall : c.callee = .value f := by
  cases hcc : c.callee with
  | value f' => rw [callOf, hcc] at hcal; simp at hcal; rw [hcal]
  | invoke r m => rw [callOf, hcc] at hcal; cases hcal
  | builtin b => rw [callOf, hcc] at hcal; cases hcal
 have hop : ∀ ty x, x ∈ o.op.operands → ARel ρ F w σ.h (a.eval x) (opnd tab σ ty x) := fun ty x hx => opnd_rel tab ty (fun t e => by subst e; exact hs.tmp t)
 have hmemf : f ∈ o.op.operands := by rw [ho]; simp [Op.operands, Call.operands, hcall]
 have hmem : ∀ x ∈ c.args.toList, x ∈ o.op.operands := fun x hx => by rw [ho]; simp only [Op.operands, Call.operands, hcall]; simp at hx ⊢; exact .inr hx
 have h0 := hop 0 f hmemf
 rw [hf] at h0
 have h1 : DRel F w (a.eval f) (.clos g []) := h0
 have hrel := actsOf_rel (a := a) (fun x hx ty => hop ty x (hmem x hx)) hacts
 obtain ⟨ρc, Fc, c1, c2, c3, c4, c5, c6, c7, c8⟩ := carry hs.obj hs.ok hn1 hn2 hob
 have hFc : ∀ b, Fc b ↔ F b := fun b => ⟨fun h => (c2 b h).elim id (fun h => by cases h.1), c1 b⟩
 have hpair : ∀ {j id}, (j, id) ∈ ps → (∃ o, look σ.h id = some o) ∧ ∃ o, look pre j = some o := fun hm => by
  have ho := obsP_mem hob hm
  unfold obP at ho
  split at ho
  ·rename_i e1 e2; exact ⟨⟨_, e1⟩, _, e2⟩
  ·rename_i e1 e2; exact ⟨⟨_, e1⟩, _, e2⟩
  ·exact ho.elim
 have hge' : ∀ {j id}, (j, id) ∈ ps → 7000000 ≤ j := by
  have : ∀ {l : List (Nat × Nat)}, geAll l = true → ∀ {j id}, (j, id) ∈ l → 7000000 ≤ j := by
   intro l
   induction l with
   | nil => intro _ j id h; cases h
   | cons x l ih =>
    obtain ⟨x1, x2⟩ := x
    intro hg j id h
    simp only [geAll, Bool.and_eq_true] at hg
    rcases List.mem_cons.1 h with e | e
    ·cases e; exact Nat.le_of_ble_eq_true hg.1
    ·exact ih hg.2 e
  exact fun {j id} hm => this hge hm
 let S : Nat → Prop := fun b => b < w.heap.size ∧ ∀ j N, ρc j ≠ some (b, N)
 have hVS : ∀ b, V b → S b := fun b hb => ⟨hs.ok.keep b hb, fun j N hj => by
  obtain ⟨id, _, hr⟩ := c3 j _ hj
  exact (hs.ok.own id b N hr).2.1 hb⟩
 have hFS : ∀ b, F b → S b := fun b hb => ⟨hs.ok.comm b hb, fun j N hj => by
  obtain ⟨id, _, hr⟩ := c3 j _ hj
  exact (hs.ok.own id b N hr).2.2 hb⟩
 have hoS : ∀ id b N, ρ id = some (b, N) → (∀ j, (j, id) ∉ ps) → S b := fun id b N hr hno => ⟨(hs.ok.own id b N hr).1, fun j M hj => by
  obtain ⟨id', hm, hr'⟩ := c3 j _ hj
  have := hs.ok.inj id id' b N M hr hr'
  subst this
  exact hno j hm⟩
 have wok : WOk S ρc Fc w := ⟨hs.ok.glob.mono c1 (fun _ _ => rfl), fun b hb => hb.1, fun b hb => hs.ok.comm b ((hFc b).1 hb), fun j b N hj => by
  obtain ⟨id, _, hr⟩ := c3 j _ hj
  exact ⟨(hs.ok.own id b N hr).1, fun hS => hS.2 j N hj, c5 j b N hj⟩, c6⟩
 generalize hv : a.eval f = fv at h1
 cases h1 with
 | clos g caps cvs hlen hcv =>
  have hcvs : cvs = [] := List.eq_nil_of_length_eq_zero (by simpa using hlen)
  subst hcvs
  have hrun : (execOp a.eval o).run P w = .ok (.enter g ((c.args.toList.map a.eval).toArray)) w := by
   have := hfn.enters ((c.args.toList.map a.eval).toArray) w
   simp only [execOp, ho, resolve, hcall, hv, Deferred.ofValue, invoke, Sem.run_bind, Sem.run_pure, Result.andThen_ok]
   have e : (#[] ++ Array.map a.eval c.args ++ ([] : List Value).toArray) = (c.args.toList.map a.eval).toArray := by simp [← Array.toList_map]
   rw [e, this]
  unfold Oper.wp
  rw [hrun, Oper.upon_enter]
  refine (hfn.calls S Fc ρc w _ wok (fun j p hj => ?_) c8 (zSVs_rel c7 hz hrel)).mono ?_
  ·obtain ⟨id, hm, _⟩ := c3 j p hj
   exact ⟨hge' hm, (hpair hm).2⟩
  rintro e w' ⟨v, ρ', F', rfl, L⟩
  have hs1 := hs.kill (p := lostP post ps)
  have hlost : ∀ {id}, lostP post ps id = false → ∀ {j}, (j, id) ∈ ps → ∃ o, look post j = some o := fun {id} hl {j} hm => by
   cases ho : look post j with
   | some o => exact ⟨o, rfl⟩
   | none => rw [lostP_iff.2 ⟨j, hm, ho⟩] at hl; cases hl
  let ρn : Map := fun id => match look (ps.map fun p => (p.2, p.1)) id with
   | some j => ρ' j
   | none => match ρ id with
    | some p => some p
    | none => if b ≤ id then (match hasJ ps (id - b) with | true => none | false => ρ' (id - b)) else none
  have hinv : ∀ {j id}, (j, id) ∈ ps → look (ps.map fun p => (p.2, p.1)) id = some j := fun {j id} hm =>
   look_pairs (by rw [List.map_map]; exact hn2) (List.mem_map.2 ⟨_, hm, rfl⟩)
  have hinv0 : ∀ {id}, (∀ j, (j, id) ∉ ps) → look (ps.map fun p => (p.2, p.1)) id = none := fun {id} hno => by
   cases hl : look (ps.map fun p => (p.2, p.1)) id with
   | none => rfl
   | some j =>
    have := look_mem hl
    obtain ⟨⟨x, y⟩, hm, he⟩ := List.mem_map.1 this
    cases he
    exact absurd hm (hno _)
  have rA : ∀ {j id}, (j, id) ∈ ps → ρn id = ρ' j := fun hm => by simp only [ρn, hinv hm]
  have rB : ∀ {id p}, (∀ j, (j, id) ∉ ps) → ρ id = some p → ρn id = some p := fun hno hr => by simp only [ρn, hinv0 hno, hr]
  have hfree : ∀ {k o}, look post k = some o → hasJ ps k = false → look σ.h (b + k) = none ∧ b + k < 7000000 := fun hl hj => hfr _ _ (look_newsOf hl hj)
  have hunp : ∀ {id}, look σ.h id = none → ∀ j, (j, id) ∉ ps := fun hl j hm => by
   obtain ⟨o, ho⟩ := (hpair hm).1
   rw [hl] at ho; cases ho
  have hrn : ∀ {id}, look σ.h id = none → ρ id = none := fun {id} hl => by
   cases hr : ρ id with
   | none => rfl
   | some p => obtain ⟨ob, hob⟩ := hs.dom id p hr; rw [hl] at hob; cases hob
  have rC : ∀ {k o}, look post k = some o → hasJ ps k = false → ρn (b + k) = ρ' k := fun {k o} hl hj => by
   have h3 := (hfree hl hj).1
   simp only [ρn, hinv0 (hunp h3), hrn h3, Nat.le_add_right, if_true, Nat.add_sub_cancel_left, hj]
  have rD : ∀ {id p}, ρn id = some p → (∃ j, (j, id) ∈ ps ∧ ρ' j = some p) ∨ ((∀ j, (j, id) ∉ ps) ∧ ρ id = some p) ∨ ∃ k, id = b + k ∧ hasJ ps k = false ∧ ρ' k = some p := fun {id p} h => by
   simp only [ρn] at h
   split at h
   ·rename_i j hl
    obtain ⟨⟨x, y⟩, hm, he⟩ := List.mem_map.1 (look_mem hl)
    cases he
    exact .inl ⟨_, hm, h⟩
   ·rename_i hl
    have hno : ∀ j, (j, id) ∉ ps := fun j hm => by rw [hinv hm] at hl; cases hl
    split at h
    ·rename_i q hq; exact .inr (.inl ⟨hno, by rw [hq]; exact h⟩)
    ·split at h
     ·rename_i hle
      split at h
      ·cases h
      ·rename_i hj; exact .inr (.inr ⟨id - b, by omega, hj, h⟩)
     ·cases h
  have hpin : ∀ {j id p}, (j, id) ∈ ps → lostP post ps id = false → ρ id = some p → ρ' j = some p := fun {j id p} hm hl hr =>
   L.pin j p (by rw [c4 j id hm]; exact hr) (hlost hl hm)
  have hren : ∀ k p, ρ' k = some p → ρn (renId ps b k) = some p := fun k p h => by
   obtain ⟨ob, hob'⟩ := L.dom k p h
   unfold renId
   cases hl : look ps k with
   | some id => rw [rA (look_mem hl)]; exact h
   | none =>
    have hj : hasJ ps k = false := by
     cases hj : hasJ ps k with
     | false => rfl
     | true => obtain ⟨id, hm⟩ := hasJ_iff.1 hj; rw [look_pairs hn1 hm] at hl; cases hl
    simp only
    rw [rC hob' hj]; exact h
  generalize hHn : newsOf (renId ps b) ps b post ++ updAll (renId ps b) post ps (killH (lostP post ps) σ.h) = Hn
  have hold : ∀ {id}, (∃ o, look σ.h id = some o) → look Hn id = look (updAll (renId ps b) post ps (killH (lostP post ps) σ.h)) id := fun {id} ⟨o, ho⟩ => by
   rw [← hHn, look_append]
   cases hl : look (newsOf (renId ps b) ps b post) id with
   | none => rfl
   | some x => have := (hfr _ _ hl).1; rw [ho] at this; cases this
  have hHpair : ∀ {j id o}, (j, id) ∈ ps → look post j = some o → look Hn id = some (o.ren (renId ps b)) := fun {j id o} hm ho => by
   obtain ⟨o', ho'⟩ := (hpair hm).1
   rw [hold ⟨o', ho'⟩]
   have hl : lostP post ps id = false := by
    cases hl : lostP post ps id with
    | false => rfl
    | true =>
     obtain ⟨j', hm', hno⟩ := lostP_iff.1 hl
     have := snd_uniq hn2 hm hm'
     subst this
     rw [ho] at hno; cases hno
   exact look_updAll_same hn2 hm ho (by rw [look_killH hl, ho']; rfl)
  have hHun : ∀ {id o}, (∀ j, (j, id) ∉ ps) → look σ.h id = some o → look Hn id = some (o.kill (lostP post ps)) := fun {id o} hno ho => by
   rw [hold ⟨o, ho⟩, look_updAll_other hno]
   have hl : lostP post ps id = false := by
    cases hl : lostP post ps id with
    | false => rfl
    | true => obtain ⟨j', hm', _⟩ := lostP_iff.1 hl; exact absurd hm' (hno j')
   rw [look_killH hl, ho]; rfl
  have hHren : ∀ k o, look post k = some o → look Hn (renId ps b k) = some (o.ren (renId ps b)) := fun k o ho => by
   cases hl : look ps k with
   | some id =>
    have e : renId ps b k = id := by unfold renId; rw [hl]
    rw [e]; exact hHpair (look_mem hl) ho
   | none =>
    have hj : hasJ ps k = false := by
     cases hj : hasJ ps k with
     | false => rfl
     | true => obtain ⟨id, hm⟩ := hasJ_iff.1 hj; rw [look_pairs hn1 hm] at hl; cases hl
    have e : renId ps b k = b + k := by unfold renId; rw [hl]
    have h3 := look_newsOf (f := renId ps b) (b := b) ho hj
    rw [e, ← hHn, look_append, h3]
  have hK : Keep S w w' := L.keep
  have hFw : ∀ b, F b → w'.heap[b]? = w.heap[b]? := fun b hb => hK.block b (hFS b hb)
  have hρ1 : ∀ id p, cut (lostP post ps) ρ id = some p → ρn id = some p := fun id p h => by
   obtain ⟨hl, hr⟩ := cut_some h
   by_cases hm : ∃ j, (j, id) ∈ ps
   ·obtain ⟨j, hm⟩ := hm
    rw [rA hm]; exact hpin hm hl hr
   ·exact rB (fun j hj => hm ⟨j, hj⟩) hr
  have hsh : Shape (killH (lostP post ps) σ.h) Hn := by
   intro id T s es hl
   have hlf : lostP post ps id = false := by
    cases hlf : lostP post ps id with
    | false => rfl
    | true => rw [look_killH_none hlf] at hl; cases hl
   rw [look_killH hlf] at hl
   obtain ⟨o', ho', he⟩ := Option.map_eq_some_iff.1 hl
   cases o' with
   | var cs => simp [Ob.kill] at he
   | row T' s' es' =>
    simp only [Ob.kill] at he
    cases he
    by_cases hm : ∃ j, (j, id) ∈ ps
    ·obtain ⟨j, hm⟩ := hm
     obtain ⟨op, hop'⟩ := hlost hlf hm
     have hoo := obsP_mem hob hm
     simp only [obP, ho'] at hoo
     split at hoo
     ·rename_i e1 e2
      cases e1
      obtain ⟨⟨rfl, rfl⟩, rfl⟩ := hoo
      obtain ⟨es', rfl, hlen'⟩ := hfn.shape j _ _ _ op e2 hop'
      exact ⟨es', by rw [hHpair hm hop']; rfl, hlen'⟩
     ·rename_i e1 e2; cases e1
     ·exact hoo.elim
    ·exact ⟨es, by rw [hHun (fun j hj => hm ⟨j, hj⟩) ho']; rfl, rfl⟩
  have turnA : ∀ {v : Value} {x : AV}, ARel (cut (lostP post ps) ρ) F w (killH (lostP post ps) σ.h) v x → ARel ρn F' w' Hn v x := fun h =>
   ARel.shape (w := w') (fun _ _ => rfl) hsh (ARel.mono hρ1 (fun b hb => L.set b ((hFc b).2 hb)) hFw (Sub.refl _) h)
  refine hn _ _ ⟨⟨ρn, F', ?_, ⟨fun b hb => L.set b ((hFc b).2 (hp.1 b hb)), hp.2.1, fun id p hpi ⟨ob, hob'⟩ => ?_⟩, fun b hb => ?_⟩, hk.trans ⟨hK.os, hK.tape, hK.output, hK.size, fun b hb => hK.block b (hVS b hb)⟩⟩
  ·have hS1 : SRel V ρn F' (σ.afterH ps b post) a w' := by
    refine ⟨⟨L.ok.glob, fun b hb => Nat.lt_of_lt_of_le (hs.ok.keep b hb) hK.size, L.ok.comm, fun id bb N hid => ?_, fun i j bb N M hi hj => ?_⟩, hs.size, fun t => ?_, fun id bb N hid ob hl => ?_, fun id p hid => ?_, hs.defers⟩
    ·rcases rD hid with ⟨j, hm, hr⟩ | ⟨hno, hr⟩ | ⟨k, rfl, hj, hr⟩
     ·obtain ⟨k1, k2, k3⟩ := L.ok.own j bb N hr
      exact ⟨k1, fun hV => k2 (hVS bb hV), k3⟩
     ·obtain ⟨k1, k2, k3⟩ := hs.ok.own id bb N hr
      refine ⟨Nat.lt_of_lt_of_le k1 hK.size, k2, fun hF => ?_⟩
      rcases L.new bb hF with h | h
      ·exact k3 ((hFc bb).1 h)
      ·exact h (hoS id bb N hr hno)
     ·obtain ⟨k1, k2, k3⟩ := L.ok.own k bb N hr
      exact ⟨k1, fun hV => k2 (hVS bb hV), k3⟩
    ·have key : ∀ {id}, ρn id = some (bb, N) ∨ ρn id = some (bb, M) → ((∀ j, (j, id) ∉ ps) ∧ ∃ N, ρ id = some (bb, N)) ∨ ∃ k N, renId ps b k = id ∧ ρ' k = some (bb, N) := by
      have one : ∀ {id N}, ρn id = some (bb, N) → ((∀ j, (j, id) ∉ ps) ∧ ∃ N, ρ id = some (bb, N)) ∨ ∃ k N, renId ps b k = id ∧ ρ' k = some (bb, N) := fun {id N} h => by
       rcases rD h with ⟨j, hm, hr⟩ | ⟨hno, hr⟩ | ⟨k, rfl, hj, hr⟩
       ·exact .inr ⟨j, N, by simp only [renId, look_pairs hn1 hm], hr⟩
       ·exact .inl ⟨hno, N, hr⟩
       ·refine .inr ⟨k, N, ?_, hr⟩
        unfold renId
        cases hl : look ps k with
        | some x => rw [hasJ_iff.2 ⟨x, look_mem hl⟩] at hj; cases hj
        | none => rfl
      rintro id (h | h) <;> exact one h
     rcases key (.inl hi) with ⟨hno, N1, hr⟩ | ⟨k, N1, hk1, hr⟩ <;> rcases key (.inr hj) with ⟨hno', N2, hr'⟩ | ⟨k', N2, hk2, hr'⟩
     ·exact hs.ok.inj i j bb _ _ hr hr'
     ·exact absurd (hoS i bb _ hr hno) (L.ok.own k' bb _ hr').2.1
     ·exact absurd (hoS j bb _ hr' hno') (L.ok.own k bb _ hr).2.1
     ·have := L.ok.inj k k' bb _ _ hr hr'
      rw [← hk1, ← hk2, this]
    ·have := turnA (hs1.tmp t)
     simp only [St.afterH, hHn]
     exact this
    ·simp only [St.afterH, hHn] at hl ⊢
     rcases rD hid with ⟨j, hm, hr⟩ | ⟨hno, hr⟩ | ⟨k, rfl, hj, hr⟩
     ·obtain ⟨oj, hoj⟩ := L.dom j _ hr
      rw [hHpair hm hoj] at hl
      cases hl
      exact ORel.ren hren hHren (L.obj j bb N hr oj hoj)
     ·obtain ⟨o1, ho1⟩ := hs.dom id _ hr
      rw [hHun hno ho1] at hl
      cases hl
      have hlf : lostP post ps id = false := by
       cases hlf : lostP post ps id with
       | false => rfl
       | true => obtain ⟨j', hm', _⟩ := lostP_iff.1 hlf; exact absurd hm' (hno j')
      have h5 := hs1.obj id bb N (by simp only [cut, hlf, cond_false]; exact hr) (o1.kill (lostP post ps)) (by simp only [St.kill]; rw [look_killH hlf, ho1]; rfl)
      exact ORel.shape (w := w') (fun _ _ => rfl) hsh rfl (ORel.mono hρ1 (fun b hb => L.set b ((hFc b).2 hb)) hFw (Sub.refl _) (hK.block bb (hoS id bb N hr hno)) h5)
     ·obtain ⟨oj, hoj⟩ := L.dom k _ hr
      have := hHren k oj hoj
      have hl2 : look ps k = none := by
       cases hl : look ps k with
       | some x => rw [hasJ_iff.2 ⟨x, look_mem hl⟩] at hj; cases hj
       | none => rfl
      have he : renId ps b k = b + k := by unfold renId; rw [hl2]
      rw [he, hl] at this
      cases this
      exact ORel.ren hren hHren (L.obj k bb N hr oj hoj)
    ·simp only [St.afterH, hHn]
     rcases rD hid with ⟨j, hm, hr⟩ | ⟨hno, hr⟩ | ⟨k, rfl, hj, hr⟩
     ·obtain ⟨oj, hoj⟩ := L.dom j _ hr
      exact ⟨_, hHpair hm hoj⟩
     ·obtain ⟨o1, ho1⟩ := hs.dom id _ hr
      exact ⟨_, hHun hno ho1⟩
     ·obtain ⟨oj, hoj⟩ := L.dom k _ hr
      have := hHren k oj hoj
      have hl2 : look ps k = none := by
       cases hl : look ps k with
       | some x => rw [hasJ_iff.2 ⟨x, look_mem hl⟩] at hj; cases hj
       | none => rfl
      have he : renId ps b k = b + k := by unfold renId; rw [hl2]
      rw [he] at this
      exact ⟨_, this⟩
   have hval : ARel ρn F' w' (σ.afterH ps b post).h v (r.ren (renId ps b)) := by
    simp only [St.afterH, hHn]
    exact ARel.ren hren hHren L.val
   exact hS1.put (d := o.dst) (by cases hdst : o.dst <;> rw [hdst] at hd <;> exact hd) hval
  ·have hob2 : look Hn id = some ob := by
    rw [← hHn]
    cases hdst : o.dst <;> rw [hdst] at hob' <;> exact hob'
   have hnum := F0.num id p hpi
   have hin : ∃ o, look σ.h id = some o := by
    rw [← hHn, look_append] at hob2
    cases hl : look (newsOf (renId ps b) ps b post) id with
    | some x => have := (hfr _ _ hl).2; omega
    | none =>
     rw [hl] at hob2
     simp only at hob2
     by_cases hm : ∃ j, (j, id) ∈ ps
     ·obtain ⟨j, hm⟩ := hm; exact (hpair hm).1
     ·rw [look_updAll_other (fun j hj => hm ⟨j, hj⟩)] at hob2
      have hlf : lostP post ps id = false := by
       cases hlf : lostP post ps id with
       | false => rfl
       | true => rw [look_killH_none hlf] at hob2; cases hob2
      rw [look_killH hlf] at hob2
      obtain ⟨o', ho', _⟩ := Option.map_eq_some_iff.1 hob2
      exact ⟨o', ho'⟩
   have hr := hp.2.2 id p hpi hin
   refine hρ1 id p ?_
   have hlf : lostP post ps id = false := by
    cases hlf : lostP post ps id with
    | false => rfl
    | true =>
     obtain ⟨j, hm, hno⟩ := lostP_iff.1 hlf
     rw [hold hin] at hob2
     have hk0 : look (killH (lostP post ps) σ.h) id = none := look_killH_none hlf
     have : ∀ {l : List (Nat × Nat)} {h : Heap}, look h id = none → (∀ j, (j, id) ∈ l → look post j = none) → look (updAll (renId ps b) post l h) id = none := by
      intro l
      induction l with
      | nil => intro h hh _; exact hh
      | cons x l ih =>
       obtain ⟨x1, x2⟩ := x
       intro h hh hl
       simp only [updAll]
       split
       ·rename_i ox hox
        refine ih ?_ (fun j hj => hl j (.tail _ hj))
        have hne : x2 ≠ id := fun e => by subst e; have := hl x1 (.head _); rw [hox] at this; cases this
        rw [look_upd_other hne]; exact hh
       ·exact ih hh (fun j hj => hl j (.tail _ hj))
     have := this (l := ps) hk0 (fun j' hm' => by have := snd_uniq hn2 hm hm'; subst this; exact hno)
     rw [this] at hob2; cases hob2
   simp only [cut, hlf, cond_false]; exact hr
  ·rcases L.new b hb with h | h
   ·exact h2 b ((hFc b).1 h)
   ·exact .inr fun ho => h (hVS b (hp.2.1 b ho))
end Go.Ab
