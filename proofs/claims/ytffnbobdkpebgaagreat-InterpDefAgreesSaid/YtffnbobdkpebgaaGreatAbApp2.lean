/- The abstract machine: append, as a step of the sequence; a slice against nil. -/
import Derived.Test.YtffnbobdkpebgaaGreatAbApp
import Derived.WalkSpells
set_option linter.unusedVariables false
namespace Go.Ab
open Go.RowKit
def only (id : Nat) : Nat → Bool := fun k => Nat.beq k id
theorem only_self (id : Nat) : only id id = true := Nat.beq_refl id
theorem only_ne {id k : Nat} (h : k ≠ id) : only id k = false := by
 cases hb : Nat.beq k id with
 | false => exact hb
 | true => exact absurd (Nat.eq_of_beq_eq_true hb) h
theorem SRel.append {S : Nat → Prop} {ρ : Map} {F : Nat → Prop} {σ : St} {a : Act} {w w' : World} (h : SRel S ρ F σ a w) {id T s : Nat} {v v' : Value} {es : List (List D)} (hA : Appended w F T s v es v' w')
  (hown : ∀ g, v.ownBlock = some g → ∃ N, ρ id = some (g, N)) :
  ∃ ρ', SRel S ρ' F ((σ.kill (only id)).add [(id, .row T s es)]) a w' ∧ ARel ρ' F w' ((id, .row T s es) :: (σ.kill (only id)).h) v' (.s (.c (.own id s))) ∧ Keep S w w' ∧ ∀ k x, k ≠ id → ρ k = some x → ρ' k = some x := by
 have hk := h.kill (p := only id)
 have hnone : look (σ.kill (only id)).h id = none := look_killH_none (only_self id)
 have hself : look ((id, Ob.row T s es) :: (σ.kill (only id)).h) id = some (.row T s es) := by simp [look]
 have hother : ∀ k, k ≠ id → look ((id, Ob.row T s es) :: (σ.kill (only id)).h) k = look (σ.kill (only id)).h k := fun k hk => by
  have : Nat.beq id k = false := only_ne (Ne.symm hk)
  simp [look, this]
 have hsub : Sub (σ.kill (only id)).h ((id, .row T s es) :: (σ.kill (only id)).h) := fun k o hl => by
  by_cases e : k = id
  ·subst e; rw [hnone] at hl; cases hl
  ·rw [hother k e]; exact hl
 have hcut : ∀ k x, cut (only id) ρ k = some x → k ≠ id ∧ ρ k = some x := fun k x hx => by
  obtain ⟨h1, h2⟩ := cut_some hx
  exact ⟨fun e => (by subst e; rw [only_self] at h1; cases h1), h2⟩
 rcases hA.val with ⟨hv, hes, hw⟩ | ⟨g, cap, c, hv, hg, hcl, hle, hcm, hh, hwho, hrest⟩
 ·subst hw
  refine ⟨cut (only id) ρ, ⟨hk.ok, hk.size, fun t => ARel.mono (fun _ _ h => h) (fun _ h => h) (fun _ _ => rfl) hsub (hk.tmp t), fun k b N hkb o ho => ?_, fun k x hx => ?_, hk.defers⟩, ⟨T, es, hself, .inl ⟨hv, hes⟩⟩, Keep.refl _ _, fun k x hk hx => by
  have hp : only id k = false := only_ne hk
  simp only [cut, hp, cond_false, hx]⟩
  ·have hne := (hcut k _ hkb).1
   have ho' : look ((id, Ob.row T s es) :: (σ.kill (only id)).h) k = some o := ho
   rw [hother k hne] at ho'
   exact ORel.mono (fun _ _ h => h) (fun _ h => h) (fun _ _ => rfl) hsub rfl (hk.obj k b N hkb o ho')
  ·obtain ⟨o, ho⟩ := hk.dom k x hx
   exact ⟨o, hsub _ _ ho⟩
 ·have hgS : ¬ S g := by
   rcases hwho with rfl | hwho
   ·intro hS; have := h.ok.keep _ hS; omega
   ·obtain ⟨N, hN⟩ := hown g hwho; exact (h.ok.own id g N hN).2.1
  have hgF : ¬ F g := by
   rcases hwho with rfl | hwho
   ·intro hS; have := h.ok.comm _ hS; omega
   ·obtain ⟨N, hN⟩ := hown g hwho; exact (h.ok.own id g N hN).2.2
  have hgb : ∀ k b N, cut (only id) ρ k = some (b, N) → b ≠ g := fun k b N hkb e => by
   subst e
   obtain ⟨hne, hk'⟩ := hcut k _ hkb
   rcases hwho with rfl | hwho
   ·have := (h.ok.own k _ N hk').1; omega
   ·obtain ⟨M, hM⟩ := hown b hwho; exact hne (h.ok.inj k id b N M hk' hM)
  have hglt : g < w'.heap.size := (Array.getElem?_eq_some_iff.1 hg).1
  have hFw : ∀ b, F b → w'.heap[b]? = w.heap[b]? := fun b hb => hrest b (fun e => hgF (e ▸ hb)) (h.ok.comm b hb)
  have hKeep : Keep S w w' := ⟨hA.os, hA.tape, hA.output, hA.size, fun b hb => hrest b (fun e => hgS (e ▸ hb)) (h.ok.keep b hb)⟩
  let ρ' : Map := fun k => if k = id then some (g, c.length) else cut (only id) ρ k
  have hρ : ∀ k x, cut (only id) ρ k = some x → ρ' k = some x := fun k x hx => by simp only [ρ', if_neg (hcut k x hx).1, hx]
  have hρ' : ∀ k x, ρ' k = some x → (k = id ∧ x = (g, c.length)) ∨ cut (only id) ρ k = some x := fun k x hx => by
   simp only [ρ'] at hx
   split at hx
   ·left; cases hx; exact ⟨by assumption, rfl⟩
   ·exact .inr hx
  refine ⟨ρ', ⟨⟨h.ok.glob.mono (fun _ h => h) hFw, fun b hb => Nat.lt_of_lt_of_le (h.ok.keep b hb) hA.size, fun b hb => Nat.lt_of_lt_of_le (h.ok.comm b hb) hA.size, fun k b N hkb => ?_, fun i j b N M hi hj => ?_⟩, hk.size, fun t => ARel.mono hρ (fun _ h => h) hFw hsub (hk.tmp t), fun k b N hkb o ho => ?_, fun k x hx => ?_, hk.defers⟩,
   ⟨T, es, hself, .inr ⟨g, c.length, cap, by simp only [ρ', if_true], hv, hle, hcm, hcl.symm⟩⟩, hKeep, fun k x hk hx => hρ k x (by
  have hp : only id k = false := only_ne hk
  simp only [cut, hp, cond_false, hx])⟩
  ·rcases hρ' k _ hkb with ⟨rfl, h2⟩ | h2
   ·cases h2; exact ⟨hglt, hgS, hgF⟩
   ·obtain ⟨h3, h4, h5⟩ := hk.ok.own k b N h2
    exact ⟨Nat.lt_of_lt_of_le h3 hA.size, h4, h5⟩
  ·rcases hρ' i _ hi with ⟨rfl, h2⟩ | h2 <;> rcases hρ' j _ hj with ⟨rfl, h3⟩ | h3
   ·rfl
   ·cases h2; exact absurd rfl (hgb j _ _ h3)
   ·cases h3; exact absurd rfl (hgb i _ _ h2)
   ·exact hk.ok.inj i j b N M h2 h3
  ·have ho' : look ((id, Ob.row T s es) :: (σ.kill (only id)).h) k = some o := ho
   rcases hρ' k _ hkb with ⟨rfl, h2⟩ | h2
   ·cases h2
    rw [hself] at ho'; cases ho'
    refine ⟨c, hg, rfl, by rw [hcl]; exact Nat.mul_le_mul_right _ hle, hh.1, fun i e j x hi hj => ?_⟩
    obtain ⟨u, hu, hd⟩ := hh.2 i e j x hi hj
    rw [Nat.zero_add] at hu
    exact ⟨u, hu, DRel.mono (fun _ h => h) hFw hd⟩
   ·rw [hother k (hcut k _ h2).1] at ho'
    exact ORel.mono hρ (fun _ h => h) hFw hsub (hrest b (hgb k b N h2) (hk.ok.own k b N h2).1) (hk.obj k b N h2 o ho')
  ·rcases hρ' k _ hx with ⟨rfl, _⟩ | h2
   ·exact ⟨_, hself⟩
   ·obtain ⟨o, ho⟩ := hk.dom k x h2
    exact ⟨o, hsub _ _ ho⟩
def target (h : Heap) (nid : Nat) (T s : Nat) : C → Option (Nat × List (List D))
 | .nil s' => bif Nat.beq s' s then some (nid, []) else none
 | .own id s' => match look h id with
  | some (.row T' s'' es) => bif Nat.beq s' s && (Nat.beq s'' s && Nat.beq T' T) then some (id, es) else none
  | _ => none
 | .sub id s' 0 n => match look h id with
  | some (.row T' s'' es) => bif Nat.beq s' s && (Nat.beq s'' s && Nat.beq T' T) then some (id, es.take n) else none
  | _ => none
 | _ => none
theorem target_rel {ρ : Map} {F : Nat → Prop} {w : World} {H : Heap} (hh : HRel ρ F w H) {nid T s : Nat} {c : C} {id : Nat} {es : List (List D)} (h : target H nid T s c = some (id, es)) {v : Value} (hr : CRel ρ F w H v c) :
  Tgt F w T s v es ∧ ∀ g, v.ownBlock = some g → ∃ N, ρ id = some (g, N) := by
 cases c with
 | d x => cases h
 | nil s' =>
  simp only [target] at h
  cases hb : Nat.beq s' s with
  | false => rw [hb] at h; cases h
  | true =>
   rw [hb] at h; simp at h; obtain ⟨rfl, rfl⟩ := h
   have : v = .slice none 0 0 := hr
   subst this
   exact ⟨.inl ⟨rfl, rfl⟩, fun g hg => by simp [Value.ownBlock] at hg⟩
 | own id' s' =>
  obtain ⟨T', es', hl, hv⟩ := hr
  simp only [target, hl] at h
  cases hb : (Nat.beq s' s && (Nat.beq s' s && Nat.beq T' T)) with
  | false => rw [hb] at h; cases h
  | true =>
   rw [hb] at h; simp at h; obtain ⟨rfl, rfl⟩ := h
   simp only [Bool.and_eq_true] at hb
   have e1 := Nat.eq_of_beq_eq_true hb.1
   have e2 := Nat.eq_of_beq_eq_true hb.2.2
   subst e1; subst e2
   rcases hv with ⟨rfl, rfl⟩ | ⟨b, N, cap, hb', rfl, hcap, hmax, hN⟩
   ·exact ⟨.inl ⟨rfl, rfl⟩, fun g hg => by simp [Value.ownBlock] at hg⟩
   ·obtain ⟨c, hc, hcn, hle, hsz, hd⟩ := hh id' b N hb' _ hl
    refine ⟨.inr ⟨b, cap, c, rfl, hc, by omega, hcap, hmax, hsz, fun i e j x hi hj => by rw [Nat.zero_add]; exact hd i e j x hi hj⟩, fun g hg => ?_⟩
    simp [Value.ownBlock] at hg; subst hg; exact ⟨N, hb'⟩
 | sub id' s' st n =>
  cases st with
  | succ st => cases h
  | zero =>
   obtain ⟨T', es', hl, hlen, hv⟩ := hr
   simp only [target, hl] at h
   cases hb : (Nat.beq s' s && (Nat.beq s' s && Nat.beq T' T)) with
   | false => rw [hb] at h; cases h
   | true =>
    rw [hb] at h; simp at h; obtain ⟨rfl, rfl⟩ := h
    simp only [Bool.and_eq_true] at hb
    have e1 := Nat.eq_of_beq_eq_true hb.1
    have e2 := Nat.eq_of_beq_eq_true hb.2.2
    subst e1; subst e2
    have hln : (es'.take n).length = n := by simp; omega
    rcases hv with ⟨rfl, rfl⟩ | ⟨h0, _⟩ | ⟨b, N, cap, hb', rfl, hcap, hmax, hN⟩
    ·exact ⟨.inl ⟨rfl, by simp⟩, fun g hg => by simp [Value.ownBlock] at hg⟩
    ·exact absurd rfl h0
    ·obtain ⟨c, hc, hcn, hle, hsz, hd⟩ := hh id' b N hb' _ hl
     refine ⟨.inr ⟨b, cap, c, by rw [Nat.zero_mul, hln], hc, by rw [Nat.zero_add] at hN; omega, by omega, hmax, fun e he => hsz e (List.mem_of_mem_take he), fun i e j x hi hj => ?_⟩, fun g hg => ?_⟩
     ·rw [Nat.zero_add]
      rw [List.getElem?_take] at hi
      split at hi
      ·exact hd i e j x hi hj
      ·cases hi
     ·simp [Value.ownBlock] at hg; subst hg; exact ⟨N, hb'⟩
 | ref id i s off => cases h
 | vrow id s n => cases h
 | junk => cases h
theorem seq_append {P : Program} {tab : Tab} {σ : St} {o : Oper} {t nid id s' : Nat} {x y : Operand} {i ie : TI} {cx cy : C} {es es2 : List (List D)} (ho : o.op = .call { callee := .builtin .append, args := #[x, y], argTypes := #[t, t] }) (hd : dstOk σ o.dst = true) (hi : TIOk P t i) (htag : i.tag = 4) (he : TIOk P i.elem ie)
  (hx : opnd tab σ t x = .s (.c cx)) (hy : opnd tab σ t y = .s (.c cy)) (hT : target σ.h nid i.elem ie.size cx = some (id, es)) (hE : elems σ.h cy = some (s', es2)) (hs : s' = ie.size) (hlen : (es.length + es2.length) * ie.bytes ≤ 140737488355328) (hlen' : es.length + es2.length ≤ 140737488355328) (hid : id < 7000000) :
  SeqOK P o σ (((σ.kill (only id)).add [(id, .row i.elem ie.size (es ++ es2))]).put o.dst (.s (.c (.own id ie.size)))) := by
 intro S F0 w0 a w next Q ⟨⟨ρ, F, hs', hF0, hF1⟩, hk⟩ hn
 have hx0 := opnd_rel (a := a) (ρ := ρ) (F := F) (w := w) (H := σ.h) (σ := σ) tab t (x := x) (fun t e => by subst e; exact hs'.tmp t)
 have hy0 := opnd_rel (a := a) (ρ := ρ) (F := F) (w := w) (H := σ.h) (σ := σ) tab t (x := y) (fun t e => by subst e; exact hs'.tmp t)
 rw [hx] at hx0; rw [hy] at hy0
 obtain ⟨hT1, hT2⟩ := target_rel hs'.obj hT (show CRel ρ F w σ.h _ cx from hx0)
 have hS := elems_src hE hs'.obj (show CRel ρ F w σ.h _ cy from hy0)
 subst hs
 obtain ⟨v', w', hr, hA⟩ := run_append_any (P := P) (t := t) (ty := o.type) hi htag he hT1 hS (by unfold maxLen; omega) hlen
 obtain ⟨ρ', h1, h2, h3, h4⟩ := hs'.append hA hT2
 refine wp_value (w' := w') (v' := v') ?_ (hn _ _ ⟨⟨ρ', F, h1.put (by cases hdst : o.dst <;> rw [hdst] at hd <;> exact hd) h2, ⟨hF0.1, hF0.2.1, fun k x hx ⟨ob, hob⟩ => ?_⟩, hF1⟩, hk.trans h3⟩)
 ·simp only [execOp, ho, resolve, invoke, builtin, Sem.run_bind, Sem.run_pure, Result.andThen_ok, List.map_toArray, List.map_cons, List.map_nil, hr]
 ·have hne : k ≠ id := fun e => by have := F0.num k x hx; omega
  refine h4 k x hne (hF0.2.2 k x hx ?_)
  have ho2 : look ((id, Ob.row i.elem ie.size (es ++ es2)) :: (σ.kill (only id)).h) k = some ob := by
   cases hdst : o.dst <;> rw [hdst] at hob <;> exact hob
  simp only [look] at ho2
  have hp : only id k = false := only_ne hne
  have ho3 : look (σ.kill (only id)).h k = some ob := by
   have : Nat.beq id k = false := only_ne (Ne.symm hne)
   simpa [this] using ho2
  simp only [St.kill] at ho3
  rw [look_killH hp] at ho3
  obtain ⟨o', ho', _⟩ := Option.map_eq_some_iff.1 ho3
  exact ⟨o', ho'⟩
theorem seq_nil {P : Program} {tab : Tab} {σ : St} {o : Oper} {t t' s : Nat} {x : Operand} {i : TI} {c : C} {es : List (List D)} {op : BinOp} (neg : Bool) (ho : o.op = .binOp op t x (.const (.slice none 0 0)) t') (hop : op = bif neg then .neq else .eql) (hd : dstOk σ o.dst = true) (hi : TIOk P t i) (htag : i.tag = 4)
  (hx : opnd tab σ t x = .s (.c c)) (he : elems σ.h c = some (s, es)) {σ' : Bool → St} (hσ : ∀ b, σ' b = σ.put o.dst (.s (.c (.d (.bool b))))) :
  ∀ (S : Nat → Prop) (F0 : Base) (w0 : World) (a : Act) (w : World) (next : Act → World → Prop) (Q : Exit → Act → World → Prop),
   Holds' S F0 w0 σ a w → (∀ b, (b = !neg → es = []) → ∀ a' w', Holds' S F0 w0 (σ' b) a' w' → next a' w') → o.wp P a w next Q := by
 intro S F0 w0 a w next Q hH hn
 obtain ⟨⟨ρ, F, hs', hF0, hF1⟩, hk⟩ := hH
 have hx0 := opnd_rel (a := a) (ρ := ρ) (F := F) (w := w) (H := σ.h) (σ := σ) tab t (x := x) (fun t e => by subst e; exact hs'.tmp t)
 rw [hx] at hx0
 have hS := elems_src he hs'.obj (show CRel ρ F w σ.h _ c from hx0)
 have hrun : ∀ (ao : Option Addr) (n cap : Nat), (do eqGuard op t x (.const (.slice none 0 0)) (.slice ao n cap) (.slice none 0 0); binOp op t (.slice ao n cap) (.slice none 0 0) : Sem Value).run P w = .ok (.bool (xor neg ao.isNone)) w := by
  intro ao n cap
  have hu := hi.slice htag
  subst hop
  cases neg
  ·simp only [cond_false, eqGuard_at_slice, pure_bind, Lib.run_eql_slice_nil w t i.elem ao n cap 0 0 hu]; simp
  ·simp only [cond_true, eqGuard_at_slice, pure_bind, run_neq_slice_nil_any w t i.elem ao n cap 0 0 hu]; simp
 have hfin : ∀ (ao : Option Addr) (n cap : Nat), a.eval x = .slice ao n cap → (ao = none → es = []) → o.wp P a w next Q := by
  intro ao n cap hv hz
  refine wp_value (w' := w) (v' := .bool (xor neg ao.isNone)) ?_ (hn (xor neg ao.isNone) (fun hb => hz ?_) _ _ ⟨⟨ρ, F, ?_, pin_sub hF0 (fun k o' hk' => ⟨o', by rw [hσ] at hk'; cases hdst : o.dst <;> rw [hdst] at hk' <;> exact hk'⟩), hF1⟩, hk⟩)
  ·have := hrun ao n cap
   have hc : a.eval (.const (.slice none 0 0)) = .slice none 0 0 := rfl
   simp only [execOp, ho, hv, hc, Sem.run_bind] at this ⊢
   rw [this]; rfl
  ·cases neg <;> cases ao <;> simp at hb ⊢
  ·rw [hσ]; exact hs'.put hd (.bool _)
 rcases hS with ⟨h1, h2⟩ | ⟨ad, cap, xs, h2, _⟩
 ·exact hfin none 0 0 h2 (fun _ => h1)
 ·exact hfin (some ad) _ cap h2 (fun h => by cases h)
end Go.Ab
