/- The abstract machine: the operations that write: store, append. -/
import Derived.Test.YtffnbobdkpebgaaGreatAbSeq
set_option linter.unusedVariables false
namespace Go.Ab
open Go.RowKit
def upd : Heap → Nat → Ob → Heap
 | [], _, _ => []
 | (k, o) :: r, id, ob => bif Nat.beq k id then (k, ob) :: r else (k, o) :: upd r id ob
theorem look_upd_same : ∀ {h : Heap} {id : Nat} {o ob : Ob}, look h id = some o → look (upd h id ob) id = some ob
 | [], id, o, ob, h => by simp [look] at h
 | (k, x) :: r, id, o, ob, h => by
  simp only [upd, look] at h ⊢
  cases hb : Nat.beq k id with
  | true => simp [look, hb]
  | false =>
   rw [hb] at h
   simp only [cond_false, look, hb] at h ⊢
   exact look_upd_same h
theorem look_upd_other : ∀ {h : Heap} {id j : Nat} {ob : Ob}, id ≠ j → look (upd h id ob) j = look h j
 | [], id, j, ob, _ => rfl
 | (k, x) :: r, id, j, ob, hne => by
  simp only [upd]
  cases hb : Nat.beq k id with
  | true =>
   have := Nat.eq_of_beq_eq_true hb
   subst this
   have hkj : Nat.beq k j = false := by
    cases hb' : Nat.beq k j with
    | false => rfl
    | true => exact absurd (Nat.eq_of_beq_eq_true hb') hne
   simp [look, hkj]
  | false =>
   simp only [cond_false, look]
   cases Nat.beq k j with
   | true => rfl
   | false => exact look_upd_other hne
def Shape (H H' : Heap) : Prop := ∀ id T s es, look H id = some (.row T s es) → ∃ es', look H' id = some (.row T s es') ∧ es'.length = es.length
section shape
variable {ρ : Map} {F : Nat → Prop} {w w' : World} {H H' : Heap}
theorem look_upd_some {h : Heap} {id : Nat} {ob : Ob} (k : Nat) (o : Ob) (hk : look (upd h id ob) k = some o) : ∃ o', look h k = some o' := by
 by_cases e : id = k
 ·subst e
  cases hl : look h id with
  | some x => exact ⟨x, rfl⟩
  | none =>
   exfalso
   have : ∀ {h : Heap}, look h id = none → look (upd h id ob) id = none := by
    intro h
    induction h with
    | nil => intro _; rfl
    | cons p r ih =>
     obtain ⟨j, x⟩ := p
     intro hn
     simp only [look] at hn
     simp only [upd]
     cases hb : Nat.beq j id with
     | true => rw [hb] at hn; cases hn
     | false =>
      rw [hb] at hn
      simp only [cond_false, look, hb]
      exact ih hn
   rw [this hl] at hk; cases hk
 ·rw [look_upd_other e] at hk; exact ⟨o, hk⟩
theorem CRel.shape (hw : ∀ b, F b → w'.heap[b]? = w.heap[b]?) (hH : Shape H H') {v : Value} {c : C} (h : CRel ρ F w H v c) : CRel ρ F w' H' v c := by
 cases c with
 | d x => exact DRel.mono (fun _ h => h) hw h
 | nil s => exact h
 | own id s =>
  obtain ⟨T, es, he, h⟩ := h
  obtain ⟨es', he', hl⟩ := hH _ _ _ _ he
  refine ⟨T, es', he', ?_⟩
  rw [hl]
  rcases h with ⟨h1, h2⟩ | h
  ·left; refine ⟨h1, ?_⟩; subst h2; exact List.eq_nil_of_length_eq_zero hl
  ·exact .inr h
 | sub id s st n =>
  obtain ⟨T, es, he, hle, h⟩ := h
  obtain ⟨es', he', hl⟩ := hH _ _ _ _ he
  exact ⟨T, es', he', by rw [hl]; exact hle, h⟩
 | ref id i s off => exact h
 | vrow id s n => exact h
 | junk => trivial
theorem SVRel.shape (hw : ∀ b, F b → w'.heap[b]? = w.heap[b]?) (hH : Shape H H') {v : Value} {x : SV} (h : SVRel ρ F w H v x) : SVRel ρ F w' H' v x := by
 cases x with
 | c x => exact CRel.shape hw hH h
 | agg cs => obtain ⟨vs, hv, h⟩ := h; exact ⟨vs, hv, All2.mono (fun _ _ => CRel.shape hw hH) h⟩
 | fn f cs => obtain ⟨vs, hv, h⟩ := h; exact ⟨vs, hv, All2.mono (fun _ _ => CRel.shape hw hH) h⟩
theorem ARel.shape (hw : ∀ b, F b → w'.heap[b]? = w.heap[b]?) (hH : Shape H H') {v : Value} {x : AV} (h : ARel ρ F w H v x) : ARel ρ F w' H' v x := by
 cases x with
 | s x => exact SVRel.shape hw hH h
 | tup xs => obtain ⟨vs, hv, h⟩ := h; exact ⟨vs, hv, All2.mono (fun _ _ => SVRel.shape hw hH) h⟩
theorem ORel.shape (hw : ∀ b, F b → w'.heap[b]? = w.heap[b]?) (hH : Shape H H') {b N : Nat} {o : Ob} (hb : w'.heap[b]? = w.heap[b]?) (h : ORel ρ F w H b N o) : ORel ρ F w' H' b N o := by
 cases o with
 | var cs => obtain ⟨c, T, hc, hn, h⟩ := h; exact ⟨c, T, hb.trans hc, hn, All2.mono (fun _ _ => CRel.shape hw hH) h⟩
 | row T s es =>
  obtain ⟨c, hc, hn, hl, hs, h⟩ := h
  refine ⟨c, hb.trans hc, hn, hl, hs, fun i e j x he hx => ?_⟩
  obtain ⟨v, hv, hd⟩ := h i e j x he hx
  exact ⟨v, hv, DRel.mono (fun _ h => h) hw hd⟩
end shape
theorem SRel.write {S : Nat → Prop} {ρ : Map} {F : Nat → Prop} {σ : St} {a : Act} {w w' : World} (h : SRel S ρ F σ a w) {id b N : Nat} {ob ob' : Ob} (hid : ρ id = some (b, N)) (hl : look σ.h id = some ob)
  (hw : ∀ k, k ≠ b → w'.heap[k]? = w.heap[k]?) (hsz : w'.heap.size = w.heap.size) (hsh : Shape σ.h (upd σ.h id ob')) (ho : ORel ρ F w' (upd σ.h id ob') b N ob') :
  SRel S ρ F { σ with h := upd σ.h id ob' } a w' := by
 have hF : ∀ k, F k → w'.heap[k]? = w.heap[k]? := fun k hk => hw k (fun e => (h.ok.own id b N hid).2.2 (e ▸ hk))
 refine ⟨⟨h.ok.glob.mono (fun _ h => h) hF, fun k hk => by rw [hsz]; exact h.ok.keep k hk, fun k hk => by rw [hsz]; exact h.ok.comm k hk, fun i k M hi => by rw [hsz]; exact h.ok.own i k M hi, h.ok.inj⟩, h.size, fun t => ARel.shape hF hsh (h.tmp t), fun i k M hi o hlo => ?_, fun i p hi => ?_, h.defers⟩
 ·by_cases e : id = i
  ·subst e
   rw [hid] at hi; cases hi
   rw [look_upd_same hl] at hlo; cases hlo
   exact ho
  ·simp only at hlo
   rw [look_upd_other e] at hlo
   refine ORel.shape hF hsh (hw k fun ek => ?_) (h.obj i k M hi o hlo)
   subst ek
   exact e (h.ok.inj id i _ _ _ hid hi)
 ·obtain ⟨o, ho'⟩ := h.dom i p hi
  by_cases e : id = i
  ·subst e; exact ⟨ob', look_upd_same hl⟩
  ·exact ⟨o, by simp only; rw [look_upd_other e]; exact ho'⟩
theorem shape_var {H : Heap} {id : Nat} {cs cs' : List C} (hl : look H id = some (.var cs)) : Shape H (upd H id (.var cs')) := by
 intro i T s es hi
 by_cases e : id = i
 ·subst e; rw [hl] at hi; cases hi
 ·exact ⟨es, by rw [look_upd_other e]; exact hi, rfl⟩
theorem shape_row {H : Heap} {id T s : Nat} {es es' : List (List D)} (hl : look H id = some (.row T s es)) (hlen : es'.length = es.length) : Shape H (upd H id (.row T s es')) := by
 intro i T' s' es'' hi
 by_cases e : id = i
 ·subst e; rw [hl] at hi; cases hi; exact ⟨es', look_upd_same hl, hlen⟩
 ·exact ⟨es'', by rw [look_upd_other e]; exact hi, rfl⟩
def liveAll : List C → Bool
 | [] => true
 | c :: r => c.live && liveAll r
theorem one_all {ρ : Map} {F : Nat → Prop} {w : World} {H : Heap} : ∀ {vs : List Value} {cs : List C}, All2 (CRel ρ F w H) vs cs → liveAll cs = true → ∀ v ∈ vs, v.oneCell' = true
 | [], [], _, _, v, hv => by cases hv
 | u :: us, c :: cs, ⟨h1, h2⟩, hl, v, hv => by
  simp only [liveAll, Bool.and_eq_true] at hl
  simp only [List.mem_cons] at hv
  rcases hv with rfl | hv
  ·exact CRel.one h1 hl.1
  ·exact one_all h2 hl.2 v hv
theorem run_storeAt {P : Program} {t : Nat} {i : TI} (hi : TIOk P t i) {w : World} {b p : Nat} {u : Value} {c : List Value} {T : TypeId} (hb : w.heap[b]? = some (.cells c.toArray T (0, 0))) (hsz : u.cells.toList.length = i.size)
  (hfit : p + u.cells.toList.length ≤ c.length) (h1 : ∀ v ∈ u.cells.toList, v.oneCell' = true) :
  (Instr.storeAt t (.pointer (some ⟨b, p, none⟩)) u).run P w = .ok () (w.setRow b (splice c p u.cells.toList).toArray) := by
 have hst := run_storeCells_at P b p T u.cells.toList 0 c.toArray w hb (by simpa using hfit) h1
 simp only [Nat.add_zero] at hst
 have hsz' : u.cells.size = i.size := by simpa using hsz
 simp only [Instr.storeAt, Instr.sureAddr, Sem.run_bind, Sem.run_pure, Result.andThen_ok, storeVar, hi.sizeOf, hsz']
 simp only [ne_eq, not_true_eq_false, if_false]
 rw [hst]
 rfl
theorem seq_store_var {P : Program} {tab : Tab} {σ : St} {o : Oper} {t id s off : Nat} {x y : Operand} {i : TI} {cs ys : List C} (ho : o.op = .store t x y) (hdst : o.dst = none) (hi : TIOk P t i) (hx : opnd tab σ 0 x = .s (.c (.ref id 0 s off))) (hl : look σ.h id = some (.var cs))
  (hy : cellsOf (opnd tab σ t y) = some ys) (hsz : ys.length = i.size) (hfit : off + ys.length ≤ cs.length) (hlv : liveAll ys = true) : SeqOK P o σ { σ with h := upd σ.h id (.var (splice cs off ys)) } := by
 intro S F0 w0 a w next Q ⟨⟨ρ, F, hs, hF0, hF1⟩, hk⟩ hn
 have hx0 := opnd_rel (a := a) (ρ := ρ) (F := F) (w := w) (H := σ.h) (σ := σ) tab 0 (x := x) (fun t e => by subst e; exact hs.tmp t)
 have hy0 := opnd_rel (a := a) (ρ := ρ) (F := F) (w := w) (H := σ.h) (σ := σ) tab t (x := y) (fun t e => by subst e; exact hs.tmp t)
 rw [hx] at hx0
 obtain ⟨b, N, hb, hv⟩ := hx0
 have hyc := cellsOf_rel hy0 hy
 obtain ⟨c, T, hc, hcn, hcr⟩ := hs.obj id b N hb _ hl
 have hlc := All2.length hcr
 have hly := All2.length hyc
 have hrun := run_storeAt (P := P) (p := off) hi hc (by omega) (by omega) (one_all hyc hlv)
 rw [Nat.zero_mul, Nat.zero_add] at hv
 refine wp_skipped (w' := w.setRow b (splice c off (a.eval y).cells.toList).toArray) (by simp [execOp, ho, hv, hrun]) ?_
 rw [hdst]
 refine hn _ _ ⟨⟨ρ, F, ?_, pin_sub hF0 look_upd_some, hF1⟩, hk.trans ⟨rfl, rfl, rfl, by simp, fun k hk' => setRow_other w b k _ (fun e => (hs.ok.own id b N hb).2.1 (e ▸ hk'))⟩⟩
 have hFw : ∀ k, F k → (w.setRow b (splice c off (a.eval y).cells.toList).toArray).heap[k]? = w.heap[k]? := fun k hk' => setRow_other w b k _ (fun e => (hs.ok.own id b N hb).2.2 (e ▸ hk'))
 refine hs.write hb hl (fun k hk' => setRow_other w b k _ hk') (by simp) (shape_var hl) ⟨splice c off (a.eval y).cells.toList, T, setRow_heap w b _ _ T _ hc, ?_, ?_⟩
 ·rw [length_splice (by omega)]; exact hcn
 ·exact All2.mono (fun _ _ => CRel.shape hFw (shape_var hl)) (All2.splice off hcr hyc)
theorem set_get {α : Type} {l : List α} {i j : Nat} {x y : α} (h : (l.set i x)[j]? = some y) : (i = j ∧ x = y ∧ i < l.length) ∨ (i ≠ j ∧ l[j]? = some y) := by
 rw [List.getElem?_set] at h
 by_cases e : i = j
 ·rw [if_pos e] at h
  split at h
  ·simp at h; exact .inl ⟨e, h, by assumption⟩
  ·cases h
 ·rw [if_neg e] at h; exact .inr ⟨e, h⟩
theorem seq_store_row {P : Program} {tab : Tab} {σ : St} {o : Oper} {t id T ix s off : Nat} {x y : Operand} {i : TI} {es : List (List D)} {e ds : List D} {ys : List C} (ho : o.op = .store t x y) (hdst : o.dst = none) (hi : TIOk P t i) (hx : opnd tab σ 0 x = .s (.c (.ref id ix s off)))
  (hl : look σ.h id = some (.row T s es)) (he : es[ix]? = some e) (hy : cellsOf (opnd tab σ t y) = some ys) (hds : allD ys = some ds) (hsz : ds.length = i.size) (hfit : off + ds.length ≤ s) :
  SeqOK P o σ { σ with h := upd σ.h id (.row T s (es.set ix (splice e off ds))) } := by
 intro S F0 w0 a w next Q ⟨⟨ρ, F, hs, hF0, hF1⟩, hk⟩ hn
 have hx0 := opnd_rel (a := a) (ρ := ρ) (F := F) (w := w) (H := σ.h) (σ := σ) tab 0 (x := x) (fun t e => by subst e; exact hs.tmp t)
 have hy0 := opnd_rel (a := a) (ρ := ρ) (F := F) (w := w) (H := σ.h) (σ := σ) tab t (x := y) (fun t e => by subst e; exact hs.tmp t)
 rw [hx] at hx0
 obtain ⟨b, N, hb, hv⟩ := hx0
 have hyc := allD_rel (cellsOf_rel hy0 hy) hds
 obtain ⟨c, hc, hcn, hle, hse, hcr⟩ := hs.obj id b N hb _ hl
 have hly := All2.length hyc
 have hixlt : ix < es.length := (List.getElem?_eq_some_iff.1 he).1
 have hle2 : ix * s + s ≤ N := by
  have : (ix + 1) * s ≤ es.length * s := Nat.mul_le_mul_right _ (by omega)
  rw [Nat.add_mul, Nat.one_mul] at this; omega
 have hel : e.length = s := hse e (List.mem_of_getElem? he)
 have hone : ∀ v ∈ (a.eval y).cells.toList, v.oneCell' = true := by
  intro v hv'
  obtain ⟨j, hj⟩ := List.getElem?_of_mem hv'
  have hjl : j < ds.length := by have := (List.getElem?_eq_some_iff.1 hj).1; omega
  obtain ⟨u, hu1, hu2⟩ := All2.get hyc (List.getElem?_eq_getElem hjl)
  rw [hj] at hu1; cases hu1
  exact hu2.one
 have hrun := run_storeAt (P := P) (p := ix * s + off) hi hc (by omega) (by omega) hone
 refine wp_skipped (w' := w.setRow b (splice c (ix * s + off) (a.eval y).cells.toList).toArray) (by simp [execOp, ho, hv, hrun]) ?_
 rw [hdst]
 have hFw : ∀ k, F k → (w.setRow b (splice c (ix * s + off) (a.eval y).cells.toList).toArray).heap[k]? = w.heap[k]? := fun k hk' => setRow_other w b k _ (fun e => (hs.ok.own id b N hb).2.2 (e ▸ hk'))
 refine hn _ _ ⟨⟨ρ, F, ?_, pin_sub hF0 look_upd_some, hF1⟩, hk.trans ⟨rfl, rfl, rfl, by simp, fun k hk' => setRow_other w b k _ (fun e => (hs.ok.own id b N hb).2.1 (e ▸ hk'))⟩⟩
 have hlen : (splice c (ix * s + off) (a.eval y).cells.toList).length = c.length := length_splice (by omega)
 have hlene : (splice e off ds).length = e.length := length_splice (by omega)
 refine hs.write hb hl (fun k hk' => setRow_other w b k _ hk') (by simp) (shape_row hl (by simp)) ⟨splice c (ix * s + off) (a.eval y).cells.toList, setRow_heap w b _ _ T _ hc, by rw [hlen]; exact hcn, by simpa using hle, fun e' he' => ?_, fun p e' j z hp hj => ?_⟩
 ·rcases List.mem_or_eq_of_mem_set he' with h | h
  ·exact hse e' h
  ·rw [h, hlene]; exact hel
 ·rw [splice_get (by omega)]
  rcases set_get hp with ⟨rfl, rfl, _⟩ | ⟨hne, hp'⟩
  ·rw [splice_get (by omega)] at hj
   have hjs : j < s := by
    split at hj
    ·omega
    ·split at hj
     ·omega
     ·have := (List.getElem?_eq_some_iff.1 hj).1; omega
   by_cases h1 : j < off
   ·rw [if_pos h1] at hj
    obtain ⟨v, hv1, hv2⟩ := hcr ix e j z he hj
    exact ⟨v, by rw [if_pos (by omega)]; exact hv1, DRel.mono (fun _ h => h) hFw hv2⟩
   ·rw [if_neg h1] at hj
    by_cases h2 : j < off + ds.length
    ·rw [if_pos h2] at hj
     obtain ⟨v, hv1, hv2⟩ := All2.get hyc hj
     refine ⟨v, ?_, DRel.mono (fun _ h => h) hFw hv2⟩
     rw [if_neg (by omega), if_pos (by omega), ← hv1]
     congr 1; omega
    ·rw [if_neg h2] at hj
     obtain ⟨v, hv1, hv2⟩ := hcr ix e j z he hj
     exact ⟨v, by rw [if_neg (by omega), if_neg (by omega)]; exact hv1, DRel.mono (fun _ h => h) hFw hv2⟩
  ·obtain ⟨v, hv1, hv2⟩ := hcr p e' j z hp' hj
   have hjs : j < s := by have := (List.getElem?_eq_some_iff.1 hj).1; rw [hse e' (List.mem_of_getElem? hp')] at this; exact this
   refine ⟨v, ?_, DRel.mono (fun _ h => h) hFw hv2⟩
   have hsep : p * s + j < ix * s ∨ ix * s + s ≤ p * s + j := by
    rcases Nat.lt_or_gt_of_ne hne with h | h
    ·right
     have : (ix + 1) * s ≤ p * s := Nat.mul_le_mul_right _ h
     rw [Nat.add_mul, Nat.one_mul] at this; omega
    ·left
     have : (p + 1) * s ≤ ix * s := Nat.mul_le_mul_right _ h
     rw [Nat.add_mul, Nat.one_mul] at this; omega
   rcases hsep with h | h
   ·rw [if_pos (by omega)]; exact hv1
   ·rw [if_neg (by omega), if_neg (by omega)]; exact hv1
end Go.Ab
