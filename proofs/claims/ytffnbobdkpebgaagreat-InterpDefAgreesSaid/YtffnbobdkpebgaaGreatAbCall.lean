/- The abstract machine: a call by its contract. -/
import Derived.Test.YtffnbobdkpebgaaGreatAbOps5
set_option linter.unusedVariables false
namespace Go.Ab
open Go.RowKit
theorem look_ups {b : Nat} : ∀ {l : Heap} {k : Nat}, look (ups b l) (b + k) = (look l k).map (Ob.up b)
 | [], k => rfl
 | (j, o) :: r, k => by
  simp only [ups, look]
  have e : Nat.beq (b + j) (b + k) = Nat.beq j k := by
   cases h : Nat.beq j k with
   | true => rw [Nat.eq_of_beq_eq_true h]; exact Nat.beq_refl _
   | false =>
    have hne := Nat.ne_of_beq_eq_false h
    cases h' : Nat.beq (b + j) (b + k) with
    | false => rfl
    | true => have := Nat.eq_of_beq_eq_true h'; omega
  rw [e]
  cases Nat.beq j k with
  | true => rfl
  | false => exact look_ups
theorem look_ups_inv {b : Nat} : ∀ {l : Heap} {id : Nat} {ob : Ob}, look (ups b l) id = some ob → ∃ k ob', id = b + k ∧ look l k = some ob' ∧ ob = ob'.up b
 | [], id, ob, h => by simp [ups, look] at h
 | (j, o) :: r, id, ob, h => by
  simp only [ups, look] at h
  cases hb : Nat.beq (b + j) id with
  | true =>
   rw [hb] at h
   simp at h
   have := Nat.eq_of_beq_eq_true hb
   exact ⟨j, o, this.symm, by simp [look], h.symm⟩
  | false =>
   rw [hb] at h
   obtain ⟨k, ob', rfl, h1, h2⟩ := look_ups_inv (show look (ups b r) id = some ob from h)
   refine ⟨k, ob', rfl, ?_, h2⟩
   have : Nat.beq j k = false := by
    cases hjk : Nat.beq j k with
    | false => rfl
    | true => have := Nat.eq_of_beq_eq_true hjk; subst this; rw [Nat.beq_refl] at hb; cases hb
   simp [look, this, h1]
section up
variable {ρ ρ' : Map} {F : Nat → Prop} {w : World} {H H' : Heap} {b : Nat}
theorem CRel.up (hρ : ∀ k p, ρ k = some p → ρ' (b + k) = some p) (hH : Sub (ups b H) H') {v : Value} {c : C} (h : CRel ρ F w H v c) : CRel ρ' F w H' v (c.up b) := by
 have hl : ∀ {id T s es}, look H id = some (.row T s es) → look H' (b + id) = some (.row T s es) := fun hl => hH _ _ (by rw [look_ups, hl]; rfl)
 cases c with
 | d x => exact h
 | nil s => exact h
 | own id s =>
  obtain ⟨T, es, he, h⟩ := h
  refine ⟨T, es, hl he, ?_⟩
  rcases h with h | ⟨b', N, cap, hb, r⟩
  ·exact .inl h
  ·exact .inr ⟨b', N, cap, hρ _ _ hb, r⟩
 | sub id s st n =>
  obtain ⟨T, es, he, hle, h⟩ := h
  refine ⟨T, es, hl he, hle, ?_⟩
  rcases h with h | h | ⟨b', N, cap, hb, r⟩
  ·exact .inl h
  ·exact .inr (.inl h)
  ·exact .inr (.inr ⟨b', N, cap, hρ _ _ hb, r⟩)
 | ref id i s off => obtain ⟨b', N, hb, r⟩ := h; exact ⟨b', N, hρ _ _ hb, r⟩
 | vrow id s n => obtain ⟨b', N, hb, r⟩ := h; exact ⟨b', N, hρ _ _ hb, r⟩
 | junk => trivial
theorem all2_map {α β γ : Type} {R : α → β → Prop} {R' : α → γ → Prop} (f : β → γ) (h : ∀ a b, R a b → R' a (f b)) : ∀ {as : List α} {bs : List β}, All2 R as bs → All2 R' as (bs.map f)
 | [], [], _ => trivial
 | _ :: _, _ :: _, ⟨h1, h2⟩ => ⟨h _ _ h1, all2_map f h h2⟩
theorem SVRel.up (hρ : ∀ k p, ρ k = some p → ρ' (b + k) = some p) (hH : Sub (ups b H) H') {v : Value} {x : SV} (h : SVRel ρ F w H v x) : SVRel ρ' F w H' v (x.up b) := by
 cases x with
 | c x => exact CRel.up hρ hH h
 | agg cs => obtain ⟨vs, hv, h⟩ := h; exact ⟨vs, hv, all2_map (C.up b) (fun _ _ h => CRel.up hρ hH h) h⟩
 | fn f cs => obtain ⟨vs, hv, h⟩ := h; exact ⟨vs, hv, all2_map (C.up b) (fun _ _ h => CRel.up hρ hH h) h⟩
theorem ARel.up (hρ : ∀ k p, ρ k = some p → ρ' (b + k) = some p) (hH : Sub (ups b H) H') {v : Value} {x : AV} (h : ARel ρ F w H v x) : ARel ρ' F w H' v (x.up b) := by
 cases x with
 | s x => exact SVRel.up hρ hH h
 | tup xs => obtain ⟨vs, hv, h⟩ := h; exact ⟨vs, hv, all2_map (SV.up b) (fun _ _ h => SVRel.up hρ hH h) h⟩
theorem ORel.up (hρ : ∀ k p, ρ k = some p → ρ' (b + k) = some p) (hH : Sub (ups b H) H') {bl N : Nat} {o : Ob} (h : ORel ρ F w H bl N o) : ORel ρ' F w H' bl N (o.up b) := by
 cases o with
 | var cs => obtain ⟨c, T, hc, hn, h⟩ := h; exact ⟨c, T, hc, hn, all2_map (C.up b) (fun _ _ h => CRel.up hρ hH h) h⟩
 | row T s es => exact h
end up
theorem flat_D {F F' : Nat → Prop} {w w' : World} {v : Value} {x : D} (hf : x.flat = true) (h : DRel F w v x) : DRel F' w' v x := by
 cases h <;> simp [D.flat] at hf
 ·exact .int _ _
 ·exact .bool _
 ·exact .str _
 ·exact .nilptr
theorem flat_C {ρ ρ' : Map} {F F' : Nat → Prop} {w w' : World} {H H' : Heap} {v : Value} {c : C} (hf : c.flat = true) (h : CRel ρ F w H v c) (b : Nat) : CRel ρ' F' w' H' v (c.up b) := by
 cases c <;> simp [C.flat] at hf
 exact flat_D hf h
theorem flat_all {ρ ρ' : Map} {F F' : Nat → Prop} {w w' : World} {H H' : Heap} (b : Nat) : ∀ {vs : List Value} {cs : List C}, cs.all C.flat = true → All2 (CRel ρ F w H) vs cs → All2 (CRel ρ' F' w' H') vs (cs.map (C.up b))
 | [], [], _, _ => trivial
 | v :: vs, c :: cs, hf, ⟨h1, h2⟩ => by
  simp only [List.all_cons, Bool.and_eq_true] at hf
  exact ⟨flat_C hf.1 h1 b, flat_all b hf.2 h2⟩
theorem flat_SV {ρ ρ' : Map} {F F' : Nat → Prop} {w w' : World} {H H' : Heap} {v : Value} {x : SV} (hf : x.flat = true) (h : SVRel ρ F w H v x) (b : Nat) : SVRel ρ' F' w' H' v (x.up b) := by
 cases x with
 | c x => exact flat_C hf h b
 | agg cs => obtain ⟨vs, hv, h⟩ := h; exact ⟨vs, hv, flat_all b hf h⟩
 | fn f cs => cases hf
theorem flat_alls {ρ ρ' : Map} {F F' : Nat → Prop} {w w' : World} {H H' : Heap} (b : Nat) : ∀ {vs : List Value} {xs : List SV}, xs.all SV.flat = true → All2 (SVRel ρ F w H) vs xs → All2 (SVRel ρ' F' w' H') vs (xs.map (SV.up b))
 | [], [], _, _ => trivial
 | v :: vs, c :: cs, hf, ⟨h1, h2⟩ => by
  simp only [List.all_cons, Bool.and_eq_true] at hf
  exact ⟨flat_SV hf.1 h1 b, flat_alls b hf.2 h2⟩
theorem flat_AV {ρ ρ' : Map} {F F' : Nat → Prop} {w w' : World} {H H' : Heap} {v : Value} {x : AV} (hf : x.flat = true) (h : ARel ρ F w H v x) (b : Nat) : ARel ρ' F' w' H' v (x.up b) := by
 cases x with
 | s x => exact flat_SV hf h b
 | tup xs => obtain ⟨vs, hv, h⟩ := h; exact ⟨vs, hv, flat_alls b hf h⟩
def callOf (c : Call) : Option Operand := match c.callee with
 | .value f => some f
 | _ => none
theorem ok_call {P : Program} {tab : Tab} {σ : St} {o : Oper} {c : Call} {f : Operand} {g : FuncId} {caps : List D} {ds : List DV} {r : AV} {news : Heap} (b : Nat) (ho : o.op = .call c) (hcal : callOf c = some f)
  (hf : opnd tab σ 0 f = .s (.c (.d (.clos g caps)))) (hds : lendArgs tab σ c.args.toList c.argTypes.toList = some ds) (hfn : Fn P g (ds ++ caps.map .c) r news)
  (hd : argsD tab σ c.args.toList c.argTypes.toList = true ∨ (r.flat = true ∧ news = [])) : StepOK P o σ (r.up b) (ups b news) := by
 intro S ρ F H a w next Q ok hs hn ht hh hfr hk
 have hcall : c.callee = .value f := by
  cases hcc : c.callee with
  | value f' => rw [callOf, hcc] at hcal; simp at hcal; rw [hcal]
  | invoke r m => rw [callOf, hcc] at hcal; cases hcal
  | builtin b => rw [callOf, hcc] at hcal; cases hcal
 have hop : ∀ (tab : Tab) ty x, x ∈ o.op.operands → ARel ρ F w H (a.eval x) (opnd tab σ ty x) := fun tab ty x hx => opnd_rel tab ty (fun t e => by subst e; exact ht t hx)
 have hmemf : f ∈ o.op.operands := by rw [ho]; simp [Op.operands, Call.operands, hcall]
 have hmem : ∀ x ∈ c.args.toList, x ∈ o.op.operands := fun x hx => by rw [ho]; simp only [Op.operands, Call.operands, hcall]; simp at hx ⊢; exact .inr hx
 have h0 := hop tab 0 f hmemf
 rw [hf] at h0
 have h1 : DRel F w (a.eval f) (.clos g caps) := h0
 obtain ⟨hl1, hl2⟩ := lendArgs_rel (a := a) hs hh (fun x hx ty => hop tab ty x (hmem x hx)) hds
 generalize hv : a.eval f = fv at h1
 cases h1 with
 | clos g caps cvs hlen hcv =>
  have hrun : (execOp a.eval o).run P w = .ok (.enter g (((c.args.toList.map a.eval) ++ cvs).toArray)) w := by
   have := hfn.enters (((c.args.toList.map a.eval) ++ cvs).toArray) w
   simp only [execOp, ho, resolve, hcall, hv, Deferred.ofValue, invoke, Sem.run_bind, Sem.run_pure, Result.andThen_ok]
   have e : (#[] ++ Array.map a.eval c.args ++ cvs.toArray) = ((c.args.toList.map a.eval) ++ cvs).toArray := by simp
   rw [e, this]
  have hcaps : ∀ (Fc : Nat → Prop), (∀ b, F b → Fc b) → All2 (DVRel Fc w) cvs (caps.map .c) := fun Fc hFc => All2.of_get (by simp [hlen]) fun i v y hi hy => by
   simp only [List.getElem?_map, Option.map_eq_some_iff] at hy
   obtain ⟨x, hx, rfl⟩ := hy
   exact DRel.mono hFc (fun _ _ => rfl) (hcv i x v hx hi)
  unfold Oper.wp
  rw [hrun, Oper.upon_enter]
  have hfree : ∀ k ob, look news k = some ob → ρ (b + k) = none := fun k ob hk' => hfr (b + k) (ob.up b) (by rw [look_ups, hk']; rfl)
  rcases hd with hd | ⟨hfl, rfl⟩
  ·refine (hfn.calls F w _ ok.glob ok.comm (All2.append (hl2 hd) (hcaps F (fun _ h => h)))).mono ?_
   rintro e w' ⟨v, ρ', F', rfl, L⟩
   let ρ'' : Map := fun id => match ρ id with | some p => some p | none => if b ≤ id then ρ' (id - b) else none
   have hup : ∀ k p, ρ' k = some p → ρ'' (b + k) = some p := fun k p hkp => by
    obtain ⟨ob, hob⟩ := L.dom k p hkp
    simp only [ρ'', hfree k ob hob, Nat.le_add_right, if_true, Nat.add_sub_cancel_left, hkp]
   have hcase : ∀ id p, ρ'' id = some p → ρ id = some p ∨ (b ≤ id ∧ ρ' (id - b) = some p) := fun id p h => by
    simp only [ρ''] at h
    split at h
    ·rename_i q hq; left; rw [hq]; exact h
    ·split at h
     ·right; exact ⟨by assumption, h⟩
     ·cases h
   have hsub : Sub (ups b news) H := hn
   have hG : Grow S ρ F w ρ'' F' w' (fun id => ∃ ob, look (ups b news) id = some ob) := by
    refine ⟨L.below, ⟨L.glob, fun x hx => Nat.lt_of_lt_of_le (ok.keep x hx) L.below.size, L.comm, fun id x N hid => ?_, fun i j x N M hi hj => ?_⟩, fun id p hid => by simp only [ρ'', hid], fun id p hid => ?_, L.set, L.new⟩
    ·rcases hcase id _ hid with h | ⟨hle, h⟩
     ·obtain ⟨h1, h2, h3⟩ := ok.own id x N h
      refine ⟨Nat.lt_of_lt_of_le h1 L.below.size, h2, fun hF => ?_⟩
      rcases L.new x hF with h4 | h4
      ·exact h3 h4
      ·omega
     ·obtain ⟨h1, h2, h3⟩ := L.own _ x N h
      exact ⟨h2, fun hS => by have := ok.keep x hS; omega, h3⟩
    ·rcases hcase i _ hi with h | ⟨hle, h⟩ <;> rcases hcase j _ hj with h' | ⟨hle', h'⟩
     ·exact ok.inj i j x N M h h'
     ·have := (ok.own i x N h).1; have := (L.own _ x M h').1; omega
     ·have := (ok.own j x M h').1; have := (L.own _ x N h).1; omega
     ·have := L.inj _ _ x N M h h'; omega
    ·rcases hcase id _ hid with h | ⟨hle, h⟩
     ·exact .inl h
     ·obtain ⟨ob, hob⟩ := L.dom _ _ h
      right
      refine ⟨ob.up b, ?_⟩
      have := look_ups (b := b) (l := news) (k := id - b)
      rw [show b + (id - b) = id by omega, hob] at this
      exact this
   refine hk v ρ'' F' w' hG (ARel.up hup hsub L.val) fun id ob x N hid hx => ?_
   obtain ⟨k, ob', rfl, hk1, rfl⟩ := look_ups_inv hid
   have hx' : ρ' k = some (x, N) := by
    have : ρ'' (b + k) = ρ' k := by simp only [ρ'', hfree k ob' hk1, Nat.le_add_right, if_true, Nat.add_sub_cancel_left]
    rw [← this]; exact hx
   exact ORel.up hup hsub (L.obj k x N hx' ob' hk1)
  ·refine (hfn.calls (fun b => F b ∨ ∃ id N, ρ id = some (b, N)) w _ (ok.glob.mono (fun _ h => .inl h) (fun _ _ => rfl)) (fun x hx => hx.elim (ok.comm x) (fun ⟨id, N, h⟩ => (ok.own id x N h).1)) (All2.append hl1 (hcaps _ (fun _ h => .inl h)))).mono ?_
   rintro e w' ⟨v, ρ', F', rfl, L⟩
   have hG : Grow S ρ F w ρ F w' (fun id => ∃ ob, look (ups b ([] : Heap)) id = some ob) :=
    ⟨L.below, ⟨ok.glob.mono (fun _ h => h) (fun b hb => L.below.block b (ok.comm b hb)), fun x hx => Nat.lt_of_lt_of_le (ok.keep x hx) L.below.size, fun x hx => Nat.lt_of_lt_of_le (ok.comm x hx) L.below.size,
     fun id x N h => ⟨Nat.lt_of_lt_of_le (ok.own id x N h).1 L.below.size, (ok.own id x N h).2⟩, ok.inj⟩, fun _ _ h => h, fun _ _ h => .inl h, fun _ h => h, fun _ h => .inl h⟩
   exact hk v ρ F w' hG (flat_AV hfl L.val b) (by simp [ups, look])
end Go.Ab
