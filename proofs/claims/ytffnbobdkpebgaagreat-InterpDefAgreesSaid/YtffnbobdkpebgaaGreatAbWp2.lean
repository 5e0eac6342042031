/- The abstract machine: code, run to its end. -/
import Derived.Test.YtffnbobdkpebgaaGreatAbCallH
import Derived.Test.YtffnbobdkpebgaaGreatAbAppS
import Derived.Scope
set_option linter.unusedVariables false
namespace Go.Ab
open Go.RowKit
def Le (σ σ' : St) : Prop := ∀ V F0 w0 a w, Holds' V F0 w0 σ a w → Holds' V F0 w0 σ' a w
theorem Le.refl (σ : St) : Le σ σ := fun _ _ _ _ _ h => h
theorem Le.trans {a b c : St} (h : Le a b) (k : Le b c) : Le a c := fun V F0 w0 x w hh => k V F0 w0 x w (h V F0 w0 x w hh)
theorem Le.kill (p : Nat → Bool) (σ : St) : Le σ (σ.kill p) := fun _ _ _ _ _ h => h.kill p
theorem Le.commit (p : Nat → Bool) (σ : St) : Le σ (σ.commit p) := fun _ _ _ _ _ h => h.commit p
theorem Le.swap (i j : Nat) (σ : St) (hi : i < 7000000 := by decide) (hj : j < 7000000 := by decide) : Le σ (σ.swap i j) := fun _ _ _ _ _ h => h.swap i j hi hj
theorem Le.same {σ σ' : St} (hn : σ'.n = σ.n) (hh : σ'.h = σ.h) (ht : ∀ t, σ'.get t = σ.get t ∨ σ'.get t = .junk) : Le σ σ' := by
  rintro V F0 w0 a w ⟨⟨ρ, F, hs, h1, h2⟩, hk⟩
  refine ⟨⟨ρ, F, ⟨hs.ok, by rw [hn]; exact hs.size, fun t => ?_, by rw [hh]; exact hs.obj, by rw [hh]; exact hs.dom, hs.defers⟩, by rw [hh]; exact h1, h2⟩, hk⟩
  rcases ht t with e | e
  · rw [e, hh]; exact hs.tmp t
  · rw [e]; trivial
def freshB : Heap → Heap → Bool
  | [], _ => true
  | (id, _) :: r, h => match look h id, Nat.blt id 7000000 with
    | none, true => freshB r h
    | _, _ => false
theorem freshB_spec : ∀ {news h : Heap}, freshB news h = true → ∀ id ob, look news id = some ob → look h id = none ∧ id < 7000000
  | [], h, _, id, ob, hl => by simp [look] at hl
  | (k, o) :: r, h, hf, id, ob, hl => by
    simp only [freshB] at hf
    split at hf
    · rename_i hn hk
      simp only [look] at hl
      cases hb : Nat.beq k id with
      | true => have := Nat.eq_of_beq_eq_true hb; subst this; exact ⟨hn, by simpa [Nat.blt_eq] using hk⟩
      | false => rw [hb] at hl; exact freshB_spec hf id ob hl
    · cases hf
def uses (d : Nat) : Heap → Bool
  | [] => false
  | (id, _) :: r => Nat.beq (id / 8) d || uses d r
def prep (d : Option Nat) (σ : St) : St := match d with
  | some d => match uses d σ.h with
    | true => σ.kill fun id => Nat.beq (id / 8) d
    | false => σ
  | none => σ
theorem Le.prep (d : Option Nat) (σ : St) : Le σ (prep d σ) := by
  unfold Ab.prep
  split
  · split
    · exact Le.kill _ _
    · exact Le.refl _
  · exact Le.refl _
def pureK (P : Program) (tab : Tab) (o : Oper) (K : St → Prop) (σ : St) : Prop :=
  aop P tab σ o fun v news => match dstOk σ o.dst, freshB news σ.h with
    | true, true => putK σ o.dst v fun σ1 => addK σ1 news K
    | _, _ => False
def prepK (d : Option Nat) (σ : St) (K : St → Prop) : Prop := match d with
  | some d => match uses d σ.h with
    | true => killK (fun id => Nat.beq (id / 8) d) σ K
    | false => K σ
  | none => K σ
theorem prepK_eq (d : Option Nat) (σ : St) (K : St → Prop) : prepK d σ K = K (prep d σ) := by
  unfold prepK prep
  cases d with
  | none => rfl
  | some d =>
    simp only
    cases uses d σ.h with
    | true => simp only [killK_eq]
    | false => rfl
def storeK (P : Program) (tab : Tab) (t : Nat) (x y : Operand) (K : St → Prop) (σ : St) : Prop :=
  match look tab t, opnd tab σ 0 x, cellsOf (opnd tab σ t y) with
  | some i, .s (.c (.ref id ix s off)), some ys => match look σ.h id with
    | some (.var cs) => match ix, Nat.beq ys.length i.size, Nat.ble (off + ys.length) cs.length, liveAll ys with
      | 0, true, true, true => fCs (splice cs off ys) fun cs' => updK σ id (.var cs') K
      | _, _, _, _ => False
    | some (.row T s' es) => match Nat.beq s' s, allD ys with
      | true, some ds => match Nat.beq ds.length i.size, Nat.ble (off + ds.length) s with
        | true, true => ∃ e, es[ix]? = some e ∧ updK σ id (.row T s (es.set ix (splice e off ds))) K
        | _, _ => False
      | _, _ => False
    | none => False
  | _, _, _ => False
def subApp : C → Option (Nat × Nat × Nat × Nat)
  | .sub id s st n => bif Nat.ble 6000000 id then some (id, s, st, n) else none
  | _ => none
def appendK (P : Program) (tab : Tab) (o : Oper) (t : Nat) (x y : Operand) (K : St → Prop) (σ : St) : Prop :=
  match look tab t with
  | some i => match look tab i.elem with
    | some ie => match Nat.beq i.tag 4, dstOk σ o.dst, opnd tab σ t x, opnd tab σ t y with
      | true, true, .s (.c cx), .s (.c cy) => match subApp cx with
       | some (id, s, st, n) => match look σ.h id, elems σ.h cy with
        | some (.row T s1 es), some (s', es2) => match Nat.beq T i.elem && Nat.beq s1 ie.size, Nat.beq s ie.size && Nat.beq s' ie.size, Nat.blt id 7000000 with
          | true, true, true => ((n + es2.length) * ie.bytes ≤ 140737488355328 ∧ n + es2.length ≤ 140737488355328) ∧
              ∀ pre : List (List D), killK (only id) σ fun σ1 => addK σ1 [(id, .row i.elem ie.size (pre ++ ((es.drop st).take n ++ es2)))] fun σ2 => putK σ2 o.dst (.s (.c (.sub id ie.size pre.length (n + es2.length)))) K
          | _, _, _ => False
        | _, _ => False
       | none => match target σ.h (bid o) i.elem ie.size cx, elems σ.h cy with
        | some (id, es), some (s', es2) => match Nat.beq s' ie.size, Nat.blt id 7000000 with
          | true, true => ((es.length + es2.length) * ie.bytes ≤ 140737488355328 ∧ es.length + es2.length ≤ 140737488355328) ∧
              killK (only id) σ fun σ1 => addK σ1 [(id, .row i.elem ie.size (es ++ es2))] fun σ2 => putK σ2 o.dst (.s (.c (.own id ie.size))) K
          | _, _ => False
        | _, _ => False
      | _, _, _, _ => False
    | none => False
  | none => False
def nilK (P : Program) (tab : Tab) (o : Oper) (t : Nat) (x : Operand) (neg : Bool) (K : St → Prop) (σ : St) : Prop :=
  match look tab t with
  | some i => match Nat.beq i.tag 4, dstOk σ o.dst, opnd tab σ t x with
    | true, true, .s (.c c) => match elems σ.h c with
      | some (_, es) => ∀ b, (b = !neg → es = []) → putK σ o.dst (.s (.c (.d (.bool b)))) K
      | none => False
    | _, _, _ => False
  | none => False
def isNilC : Operand → Bool
  | .const (.slice none 0 0) => true
  | _ => false
theorem isNilC_spec {y : Operand} (h : isNilC y = true) : y = .const (.slice none 0 0) := by
  unfold isNilC at h
  split at h
  · rfl
  · cases h
def namesAV : AV → List Nat
  | .s (.c c) => nameOf c
  | .s (.agg cs) => cs.flatMap nameOf
  | .s (.fn _ cs) => cs.flatMap nameOf
  | _ => []
def argNames (tab : Tab) (σ : St) : List Operand → List Nat → List Nat
  | [], _ => []
  | x :: r, tys => namesAV (opnd tab σ (tys.headD 0) x) ++ argNames tab σ r tys.tail
def inL : List Nat → Nat → Bool
  | [], _ => false
  | k :: r, id => Nat.beq k id || inL r id
def bs1K (tab : Tab) (o : Oper) (K : St → Prop) (σ : St) : Prop := match o.op with
  | .buildSlice t 1 ⟨[(0, x)]⟩ => match look tab t with
    | some i => match look tab i.elem with
      | some ie => match Nat.beq i.tag 4, cellsOf (opnd tab σ i.elem x) with
        | true, some cs => match Nat.beq cs.length ie.size, (Nat.blt 0 ie.size && Nat.ble ie.size 16777216), dstOk σ o.dst, freshB [(bid o, .var cs)] σ.h with
          | true, true, true, true => putK σ o.dst (.s (.c (.vrow (bid o) ie.size 1))) fun σ1 => addK σ1 [(bid o, .var cs)] K
          | _, _, _, _ => False
        | _, _ => False
      | none => False
    | none => False
  | _ => False
def innerN (h : Heap) : List Nat → List Nat
  | [] => []
  | k :: r => (match look h k with | some (.var cs) => cs.flatMap nameOf | _ => []) ++ innerN h r
def commit2K (ns : List Nat) (σ : St) (K : St → Prop) : Prop := match innerN σ.h ns with
  | [] => commitK (inL ns) σ K
  | ms => commitK (inL ms) σ fun σ1 => commitK (inL ns) σ1 K
theorem commit2_le {ns : List Nat} {σ : St} {K : St → Prop} (h : commit2K ns σ K) : ∃ σ', Le σ σ' ∧ K σ' := by
  unfold commit2K at h
  split at h
  · rw [commitK_eq] at h; exact ⟨_, Le.commit _ _, h⟩
  · rw [commitK_eq, commitK_eq] at h; exact ⟨_, (Le.commit _ _).trans (Le.commit _ _), h⟩
def storeN (tab : Tab) (σ : St) (t : Nat) (x y : Operand) : List Nat := match opnd tab σ 0 x with
  | .s (.c (.ref id _ _ _)) => match look σ.h id with
    | some (.row _ _ _) => argNames tab σ [y] [t]
    | _ => []
  | _ => []
def storeC (P : Program) (tab : Tab) (t : Nat) (x y : Operand) (K : St → Prop) (σ : St) : Prop := match storeN tab σ t x y with
  | [] => storeK P tab t x y K σ
  | ns => commit2K ns σ fun σ' => storeK P tab t x y K σ'
def CallHK (P : Program) (g : FuncId) (acts : List SV) (k : List SV → Heap → AV → Heap → Prop) : Prop :=
  ∃ cargs pre r post, FnH P g cargs pre r post ∧ k cargs pre r post
theorem CallHK_intro {P : Program} {g : FuncId} {acts cargs : List SV} {pre : Heap} {r : AV} {post : Heap} {k : List SV → Heap → AV → Heap → Prop} (h : FnH P g cargs pre r post) (hk : k cargs pre r post) : CallHK P g acts k := ⟨cargs, pre, r, post, h, hk⟩
def afterK (σ : St) (ps : List (Nat × Nat)) (b : Nat) (post : Heap) (K : St → Prop) : Prop := match σ with
  | ⟨n, t, h⟩ => fT (killT (lostP post ps) t) fun t' => fH (newsOf (renId ps b) ps b post ++ updAll (renId ps b) post ps (killH (lostP post ps) h)) fun h' => K ⟨n, t', h'⟩
theorem afterK_eq (σ : St) (ps : List (Nat × Nat)) (b : Nat) (post : Heap) (K : St → Prop) : afterK σ ps b post K = K (σ.afterH ps b post) := by
  obtain ⟨n, t, h⟩ := σ
  simp only [afterK, fT_eq, fH_eq]
  rfl
def callHK (P : Program) (tab : Tab) (o : Oper) (c : Call) (K : St → Prop) (σ : St) : Prop := match callOf c with
  | some f => match opnd tab σ 0 f, actsOf tab σ c.args.toList c.argTypes.toList, dstOk σ o.dst with
    | .s (.c (.d (.clos g []))), some acts, true => fSVs acts fun acts => CallHK P g acts fun cargs pre r post =>
        fPs (close σ.h pre 400 (pairCs (cellsSVs acts) (cellsSVs cargs)) []) fun ps => match nodupB (ps.map (·.1)), nodupB (ps.map (·.2)), geAll ps, freshB (newsOf (renId ps (bid o)) ps (bid o) post) σ.h with
          | true, true, true, true => (obsP false σ.h pre ps ps ∧ zSVs false σ.h pre ps acts cargs) ∧ afterK σ ps (bid o) post fun σ1 => putK σ1 o.dst (r.ren (renId ps (bid o))) K
          | _, _, _, _ => False
    | _, _, _ => False
  | none => False
def commitN (ns : List Nat) (σ : St) (K : St → Prop) : Prop := match ns with
  | [] => K σ
  | ns => commit2K ns σ K
theorem commitN_le {ns : List Nat} {σ : St} {K : St → Prop} (h : commitN ns σ K) : ∃ σ', Le σ σ' ∧ K σ' := by
  unfold commitN at h
  split at h
  · exact ⟨σ, Le.refl _, h⟩
  · exact commit2_le h
def stepS (P : Program) (tab : Tab) (o : Oper) (K : St → Prop) (σ : St) : Prop :=
  match o.op with
  | .store t x y => match o.dst with
    | none => storeC P tab t x y K σ
    | some _ => False
  | .call ⟨.builtin .append, ⟨[x, y]⟩, ⟨[t, t']⟩⟩ => match Nat.beq t t' with
    | true => appendK P tab o t x y K σ
    | false => False
  | .call ⟨.value f, args, tys⟩ => match argsD tab σ args.toList tys.toList with
    | true => prepK o.dst σ (pureK P tab o K)
    | false => (prepK o.dst σ (pureK P tab o K) ∨ commit2K (argNames tab σ args.toList tys.toList) σ fun σ' => prepK o.dst σ' (pureK P tab o K)) ∨
        ∃ ns, commitN ns σ fun σ' => prepK o.dst σ' (callHK P tab o ⟨.value f, args, tys⟩ K)
  | .makeFunc _ _ caps => match argNames tab σ caps.toList [] with
    | [] => prepK o.dst σ (pureK P tab o K)
    | ns => (commit2K ns σ fun σ' => prepK o.dst σ' (pureK P tab o K)) ∨ prepK o.dst σ (pureK P tab o K)
  | .buildSlice _ _ parts => match argNames tab σ (parts.toList.map Prod.snd) [] with
    | [] => prepK o.dst σ (pureK P tab o K)
    | ns => (commit2K ns σ fun σ' => prepK o.dst σ' (pureK P tab o K)) ∨ prepK o.dst σ (bs1K tab o K)
  | .binOp op t x y _ => match isNilC y with
    | true => match op with
      | .eql => nilK P tab o t x false K σ
      | .neq => nilK P tab o t x true K σ
      | _ => False
    | false => prepK o.dst σ (pureK P tab o K)
  | _ => prepK o.dst σ (pureK P tab o K)
def isMut (o : Oper) : Bool := match o.op with
  | .store .. => true
  | .call ⟨.builtin .append, _, _⟩ => true
  | .call ⟨.builtin .copy, _, _⟩ => true
  | .call ⟨.value (.func f), _, _⟩ => inL mutF f
  | .binOp _ _ _ y _ => isNilC y
  | _ => false
def SeqW (P : Program) (o : Oper) (σ : St) (K : St → Prop) : Prop :=
  ∀ (V : Nat → Prop) (F0 : Base) (w0 : World) (a : Act) (w : World) (next : Act → World → Prop) (Q : Exit → Act → World → Prop),
    Holds' V F0 w0 σ a w → (∀ σ' a' w', K σ' → Holds' V F0 w0 σ' a' w' → next a' w') → o.wp P a w next Q
theorem SeqW.of_ok {P : Program} {o : Oper} {σ σ' : St} {K : St → Prop} (h : SeqOK P o σ σ') (hk : K σ') : SeqW P o σ K :=
  fun V F0 w0 a w next Q hh hn => h V F0 w0 a w next Q hh fun a' w' h' => hn σ' a' w' hk h'
theorem SeqW.le {P : Program} {o : Oper} {σ σ1 : St} {K : St → Prop} (hle : Le σ σ1) (h : SeqW P o σ1 K) : SeqW P o σ K :=
  fun V F0 w0 a w next Q hh hn => h V F0 w0 a w next Q (hle V F0 w0 a w hh) hn
section sound
variable {P : Program} {tab : Tab} (htab : tabCheck P tab = true)
include htab
theorem pureK_sound {o : Oper} {K : St → Prop} {σ : St} (h : pureK P tab o K σ) : SeqW P o σ K := by
  obtain ⟨v, news, hs, hk⟩ := aop_sound htab h
  split at hk
  · rename_i h1 h2
    rw [putK_eq, addK_eq] at hk
    exact .of_ok (seq_of_step hs h1 (freshB_spec h2)) hk
  · exact hk.elim
theorem bs1K_sound {o : Oper} {K : St → Prop} {σ : St} (h : bs1K tab o K σ) : SeqW P o σ K := by
  unfold bs1K at h
  split at h
  · rename_i t x ho
    split at h
    · rename_i i hi
      split at h
      · rename_i ie hie
        split at h
        · rename_i cs htag hx
          split at h
          · rename_i h1 h2 h3 h4
            simp only [Bool.and_eq_true] at h2
            rw [putK_eq, addK_eq] at h
            exact .of_ok (seq_of_step (ok_buildSlice1 ho (tabOk_look htab hi) (Nat.eq_of_beq_eq_true htag) (tabOk_look htab hie) hx (Nat.eq_of_beq_eq_true h1) (of_decide_eq_true (by simpa [Nat.blt_eq] using h2.1)) (Nat.le_of_ble_eq_true h2.2)) h3 (freshB_spec h4)) h
          · exact h.elim
        · exact h.elim
      · exact h.elim
    · exact h.elim
  · exact h.elim
theorem storeK_sound {o : Oper} {t : Nat} {x y : Operand} {K : St → Prop} {σ : St} (ho : o.op = .store t x y) (hd : o.dst = none) (h : storeK P tab t x y K σ) : SeqW P o σ K := by
  unfold storeK at h
  split at h
  · rename_i i id ix s off ys hi hx hy
    split at h
    · rename_i cs hl
      split at h
      · rename_i h1 h2 h3
        rw [fCs_eq, updK_eq] at h
        exact .of_ok (seq_store_var ho hd (tabOk_look htab hi) hx hl hy (Nat.eq_of_beq_eq_true h1) (Nat.le_of_ble_eq_true h2) h3) h
      · exact h.elim
    · rename_i T s' es hl
      split at h
      · rename_i ds hs hds
        have := Nat.eq_of_beq_eq_true hs
        subst this
        split at h
        · rename_i h1 h2
          obtain ⟨e, he, h⟩ := h
          rw [updK_eq] at h
          exact .of_ok (seq_store_row ho hd (tabOk_look htab hi) hx hl he hy hds (Nat.eq_of_beq_eq_true h1) (Nat.le_of_ble_eq_true h2)) h
        · exact h.elim
      · exact h.elim
    · exact h.elim
  · exact h.elim
theorem appendK_sound {o : Oper} {t : Nat} {x y : Operand} {K : St → Prop} {σ : St} (ho : o.op = .call { callee := .builtin .append, args := #[x, y], argTypes := #[t, t] }) (h : appendK P tab o t x y K σ) : SeqW P o σ K := by
  unfold appendK at h
  split at h
  · rename_i i hi
    split at h
    · rename_i ie hie
      split at h
      · rename_i cx cy htag hd hx hy
        split at h
        · rename_i id s st n hsa
          have hcx : cx = .sub id s st n := by
            cases cx <;> simp only [subApp] at hsa <;> try (cases hsa; done)
            rename_i id' s0 st' n'
            cases hb : Nat.ble 6000000 id' with
            | false => rw [hb] at hsa; cases hsa
            | true => rw [hb] at hsa; cases hsa; rfl
          subst hcx
          split at h
          · rename_i T s1 es s' es2 hl hE
            split at h
            · rename_i hb hs hid
              simp only [Bool.and_eq_true] at hb hs
              have e1 := Nat.eq_of_beq_eq_true hb.1
              have e2 := Nat.eq_of_beq_eq_true hb.2
              have e3 := Nat.eq_of_beq_eq_true hs.1
              subst e1; subst e2; subst e3
              exact fun V F0 w0 a w next Q hh hn => seq_append_sub ho hd (tabOk_look htab hi) (Nat.eq_of_beq_eq_true htag) (tabOk_look htab hie) hx hl hy hE (Nat.eq_of_beq_eq_true hs.2) h.1.1 h.1.2 (by simpa [Nat.blt_eq] using hid) (K := K) (fun pre => by have := h.2 pre; rwa [killK_eq, addK_eq, putK_eq] at this) V F0 w0 a w next Q hh hn
            · exact h.elim
          · exact h.elim
        · split at h
          · rename_i id es s' es2 hT hE
            split at h
            · rename_i hs hid
              rw [killK_eq, addK_eq, putK_eq] at h
              exact .of_ok (seq_append ho hd (tabOk_look htab hi) (Nat.eq_of_beq_eq_true htag) (tabOk_look htab hie) hx hy hT hE (Nat.eq_of_beq_eq_true hs) h.1.1 h.1.2 (by simpa [Nat.blt_eq] using hid)) h.2
            · exact h.elim
          · exact h.elim
      · exact h.elim
    · exact h.elim
  · exact h.elim
theorem nilK_sound {o : Oper} {op : BinOp} {t t' : Nat} {x : Operand} {neg : Bool} {K : St → Prop} {σ : St} (ho : o.op = .binOp op t x (.const (.slice none 0 0)) t') (hop : op = bif neg then .neq else .eql) (h : nilK P tab o t x neg K σ) : SeqW P o σ K := by
  unfold nilK at h
  split at h
  · rename_i i hi
    split at h
    · rename_i c htag hd hx
      split at h
      · rename_i s es he
        intro V F0 w0 a w next Q hh hn
        exact seq_nil neg ho hop hd (tabOk_look htab hi) (Nat.eq_of_beq_eq_true htag) hx he (σ' := fun b => σ.put o.dst (.s (.c (.d (.bool b))))) (fun _ => rfl) V F0 w0 a w next Q hh fun b hb a' w' hh' => hn _ a' w' (by have := h b hb; rwa [putK_eq] at this) hh'
      · exact h.elim
    · exact h.elim
  · exact h.elim
theorem callHK_sound {o : Oper} {c : Call} (ho : o.op = .call c) {K : St → Prop} {σ : St} (h : callHK P tab o c K σ) : SeqW P o σ K := by
  have _ := htab
  unfold callHK at h
  split at h
  · rename_i f hcal
    split at h
    · rename_i g acts hf hacts hd
      rw [fSVs_eq] at h
      obtain ⟨cargs, pre, r, post, hfn, h⟩ := h
      rw [fPs_eq] at h
      split at h
      · rename_i h1 h2 h3 h4
        obtain ⟨⟨hob, hz⟩, h⟩ := h
        rw [afterK_eq, putK_eq] at h
        exact .of_ok (seq_callH (bid o) ho hcal hf hacts hfn hd (nodupB_spec h1) (nodupB_spec h2) h3 hob hz (freshB_spec h4)) h
      · exact h.elim
    · exact h.elim
  · exact h.elim
theorem stepS_sound {o : Oper} {K : St → Prop} {σ : St} (h : stepS P tab o K σ) : SeqW P o σ K := by
  unfold stepS at h
  split at h
  · rename_i t x y ho
    split at h
    · rename_i hd
      unfold storeC at h
      split at h
      · exact storeK_sound htab ho hd h
      · obtain ⟨σ', hle, h⟩ := commit2_le h
        exact .le hle (storeK_sound htab ho hd h)
    · exact h.elim
  · rename_i x y t t' ho
    split at h
    · rename_i hb
      have := Nat.eq_of_beq_eq_true hb
      subst this
      exact appendK_sound htab ho h
    · exact h.elim
  · rename_i f args tys ho
    split at h
    · rw [prepK_eq] at h; exact .le (Le.prep _ _) (pureK_sound htab h)
    · rcases h with (h | h) | ⟨ns, h⟩
      · rw [prepK_eq] at h; exact .le (Le.prep _ _) (pureK_sound htab h)
      · obtain ⟨σ', hle, h⟩ := commit2_le h
        rw [prepK_eq] at h; exact .le (hle.trans (Le.prep _ _)) (pureK_sound htab h)
      · obtain ⟨σ', hle, h⟩ := commitN_le h
        rw [prepK_eq] at h; exact .le (hle.trans (Le.prep _ _)) (callHK_sound htab ho h)
  · split at h
    · rw [prepK_eq] at h; exact .le (Le.prep _ _) (pureK_sound htab h)
    · rcases h with h | h
      · obtain ⟨σ', hle, h⟩ := commit2_le h
        rw [prepK_eq] at h; exact .le (hle.trans (Le.prep _ _)) (pureK_sound htab h)
      · rw [prepK_eq] at h; exact .le (Le.prep _ _) (pureK_sound htab h)
  · split at h
    · rw [prepK_eq] at h; exact .le (Le.prep _ _) (pureK_sound htab h)
    · rcases h with h | h
      · obtain ⟨σ', hle, h⟩ := commit2_le h
        rw [prepK_eq] at h; exact .le (hle.trans (Le.prep _ _)) (pureK_sound htab h)
      · rw [prepK_eq] at h; exact .le (Le.prep _ _) (bs1K_sound htab h)
  · rename_i op t x y t' ho
    split at h
    · rename_i hy
      have := isNilC_spec hy
      subst this
      split at h
      · exact nilK_sound htab ho rfl h
      · exact nilK_sound htab ho rfl h
      · exact h.elim
    · rw [prepK_eq] at h; exact .le (Le.prep _ _) (pureK_sound htab h)
  · rw [prepK_eq] at h; exact .le (Le.prep _ _) (pureK_sound htab h)
end sound
def litB (b : Bool) : AV := .s (.c (.d (.bool b)))
def guardK (ops : Array Oper) (o : Oper) (run skip : St → Prop) (σ : St) : Prop :=
  match o.guard with
  | none => run σ
  | some (j, want) => match (ops[j]?).bind (·.dst) with
    | some d => match σ.get d with
      | .s (.c (.d (.bool b))) => condP b
          (match want with | true => putK σ (some d) (litB true) run | false => putK σ (some d) (litB true) skip)
          (match want with | true => putK σ (some d) (litB false) skip | false => putK σ (some d) (litB false) run)
      | .tup [] => skip σ
      | _ => False
    | none => False
def awpOps (P : Program) (tab : Tab) (ops : Array Oper) : List Oper → (St → Prop) → St → Prop
  | [], K, σ => K σ
  | o :: rest, K, σ => guardK ops o (stepS P tab o (awpOps P tab ops rest K))
      (fun σ => match dstOk σ o.dst with | true => putK σ o.dst .undef (awpOps P tab ops rest K) | false => False) σ
def inLs : List Nat → Nat → Bool
  | [], _ => false
  | k :: r, i => Nat.beq k i || inLs r i
def preK (P : Program) (tab : Tab) (wd : List Nat) (o : Oper) (K : St → Prop) (σ : St) : Prop := match o.op, o.dst with
  | .alloc t, some d => match inLs wd d with
    | true => match look tab t with
      | some i => match dstOk σ o.dst, freshB [(bid o, .var (List.replicate i.size .junk))] σ.h with
        | true, true => putK σ o.dst (.s (.c (.ref (bid o) 0 0 0))) fun σ1 => addK σ1 [(bid o, .var (List.replicate i.size .junk))] K
        | _, _ => False
      | none => False
    | false => pureK P tab o K σ
  | _, _ => pureK P tab o K σ
def awpPre (P : Program) (tab : Tab) (wd : List Nat) (ops : Array Oper) : List Oper → (St → Prop) → St → Prop
  | [], K, σ => K σ
  | o :: rest, K, σ => guardK ops o (preK P tab wd o (awpPre P tab wd ops rest K))
      (fun σ => match dstOk σ o.dst with | true => putK σ o.dst .undef (awpPre P tab wd ops rest K) | false => False) σ
theorem ok_allocJ {P : Program} {σ : St} {o : Oper} {t id : Nat} {i : TI} (ho : o.op = .alloc t) (hi : TIOk P t i) :
    StepOK P o σ (.s (.c (.ref id 0 0 0))) [(id, .var (List.replicate i.size .junk))] :=
  step_new fun S ρ F H a w ok hs hn hop hh => by
    obtain ⟨z, hz, hzz⟩ := hi.zero w
    have hlen : z.cells.toList.length = i.size := by
      have h1 := All2.length (zrels_crel (ρ := ρ) (F := F) (w := w) (H := H) hzz)
      rw [h1, hi.zlen]
    refine ⟨.pointer (some ⟨w.heap.size, 0, none⟩), z.cells.toList, t, ?_, fun ρ' w' hρ hid hw hb => ⟨⟨_, _, hid, by simp⟩, _, t, hb, rfl, ?_⟩⟩
    · simp [execOp, ho, Instr.alloc, newVar, run_newRow, hz]
    · exact All2.of_get (by rw [List.length_replicate]; exact hlen) fun j u cc _ hcc => by
        have := List.mem_of_getElem? hcc
        rw [List.mem_replicate] at this
        rw [this.2]; trivial
theorem preK_elim {P : Program} {tab : Tab} (htab : tabCheck P tab = true) {wd : List Nat} {o : Oper} {K : St → Prop} {σ : St} (h : preK P tab wd o K σ) : ∃ v news, StepOK P o σ v news ∧ (match dstOk σ o.dst, freshB news σ.h with
    | true, true => putK σ o.dst v fun σ1 => addK σ1 news K
    | _, _ => False) := by
  unfold preK at h
  split at h
  · rename_i t d hop hd
    split at h
    · split at h
      · rename_i i hi
        exact ⟨_, _, ok_allocJ hop (tabOk_look htab hi), h⟩
      · exact h.elim
    · exact aop_sound htab h
  · exact aop_sound htab h
theorem lit_le {σ : St} {d : Nat} {b : Bool} (h : σ.get d = litB b) : Le σ (σ.put (some d) (litB b)) :=
  Le.same rfl rfl fun t => by
    by_cases e : d = t
    · subst e; left; rw [get_put_same, h]
    · left; exact get_put_other σ _ e
theorem guardK_elim {ops : Array Oper} {o : Oper} {run skip : St → Prop} {σ : St} (h : guardK ops o run skip σ) :
    ∃ σ1, Le σ σ1 ∧ (σ1.n = σ.n ∧ σ1.h = σ.h ∧ ∀ t, σ1.get t = σ.get t) ∧
      ((run σ1 ∧ ∀ j want, o.guard = some (j, want) → ∃ d, (ops[j]?).bind (·.dst) = some d ∧ σ.get d = litB want) ∨
       (skip σ1 ∧ ∃ j want d, o.guard = some (j, want) ∧ (ops[j]?).bind (·.dst) = some d ∧ (σ.get d = litB (!want) ∨ σ.get d = .undef))) := by
  unfold guardK at h
  split at h
  · rename_i hg; exact ⟨σ, Le.refl _, ⟨rfl, rfl, fun _ => rfl⟩, .inl ⟨h, fun j want e => by rw [hg] at e; cases e⟩⟩
  · rename_i j want hg
    split at h
    · rename_i d hd
      split at h
      · rename_i b hb
        have key : ∀ b', b = b' → Le σ (σ.put (some d) (litB b')) ∧ ((σ.put (some d) (litB b')).n = σ.n ∧ (σ.put (some d) (litB b')).h = σ.h ∧ ∀ t, (σ.put (some d) (litB b')).get t = σ.get t) := by
          intro b' e
          subst e
          refine ⟨lit_le hb, rfl, rfl, fun t => ?_⟩
          by_cases e : d = t
          · subst e; rw [get_put_same]; exact hb.symm
          · exact get_put_other σ _ e
        simp only [putK_eq] at h
        rcases condP_elim h with ⟨rfl, h'⟩ | ⟨rfl, h'⟩
        · obtain ⟨k1, k2⟩ := key true rfl
          cases want
          · exact ⟨_, k1, k2, .inr ⟨h', j, false, d, hg, hd, .inl hb⟩⟩
          · exact ⟨_, k1, k2, .inl ⟨h', fun j' want' e => by rw [hg] at e; cases e; exact ⟨d, hd, hb⟩⟩⟩
        · obtain ⟨k1, k2⟩ := key false rfl
          cases want
          · exact ⟨_, k1, k2, .inl ⟨h', fun j' want' e => by rw [hg] at e; cases e; exact ⟨d, hd, hb⟩⟩⟩
          · exact ⟨_, k1, k2, .inr ⟨h', j, true, d, hg, hd, .inl hb⟩⟩
      · rename_i hb; exact ⟨σ, Le.refl _, ⟨rfl, rfl, fun _ => rfl⟩, .inr ⟨h, j, want, d, hg, hd, .inr hb⟩⟩
      · exact h.elim
    · exact h.elim
theorem wanted_of {V : Nat → Prop} {F0 : Base} {w0 : World} {ops : Array Oper} {σ : St} {a : Act} {w : World} (hh : Holds' V F0 w0 σ a w) {d : Nat} {b : Bool} (h : σ.get d = litB b) : a.tmps[d]? = some (.bool b) := by
  obtain ⟨⟨ρ, F, hs, _⟩, _⟩ := hh
  have := hs.tmp d
  rw [h] at this
  exact bool_slot this
theorem undef_slot {V : Nat → Prop} {F0 : Base} {w0 : World} {σ : St} {a : Act} {w : World} (hh : Holds' V F0 w0 σ a w) {d : Nat} (h : σ.get d = .undef) : a.tmps.getD d undef = undef := by
  obtain ⟨⟨ρ, F, hs, _⟩, _⟩ := hh
  have := hs.tmp d
  rw [h] at this
  exact undef_of this
theorem Holds'.skip {V : Nat → Prop} {F0 : Base} {w0 : World} {σ : St} {a : Act} {w : World} (hh : Holds' V F0 w0 σ a w) {d : Option Nat} (hd : dstOk σ d = true) : Holds' V F0 w0 (σ.put d .undef) (a.put d undef) w := by
  obtain ⟨⟨ρ, F, hs, h1, h2⟩, hk⟩ := hh
  exact ⟨⟨ρ, F, hs.put hd undef_rel, by cases d <;> exact h1, h2⟩, hk⟩
theorem awpOps_sound {P : Program} {tab : Tab} (htab : tabCheck P tab = true) {ops : Array Oper} {V : Nat → Prop} {F0 : Base} {w0 : World} {K : St → Prop} {Q : Exit → Act → World → Prop}
    (hQ : ∀ σ a w, K σ → Holds' V F0 w0 σ a w → Q .normal a w) : ∀ (l : List Oper) (k : Nat), (∀ j, l[j]? = ops[k + j]?) → k + l.length = ops.size → ∀ (σ : St) (a : Act) (w : World), awpOps P tab ops l K σ → Holds' V F0 w0 σ a w →
      wpOps P ops Q (List.range' k l.length) a w
  | [], k, hl, hk, σ, a, w, h, hh => by simpa [wpOps] using hQ σ a w h hh
  | o :: rest, k, hl, hk, σ, a, w, h, hh => by
    have h0 : ops[k]? = some o := by simpa using (hl 0).symm
    have hl' : ∀ j, rest[j]? = ops[k + 1 + j]? := fun j => by have := hl (j + 1); simpa [Nat.add_assoc, Nat.add_comm 1 j] using this
    have ih := awpOps_sound htab hQ rest (k + 1) hl' (by simp at hk; omega)
    rw [List.length_cons, List.range'_succ, wpOps_cons]
    unfold wpOp
    rw [h0]
    simp only
    obtain ⟨σ1, hle, ⟨hn, hh1, hget⟩, hcase⟩ := guardK_elim (show guardK ops o _ _ σ from h)
    rcases hcase with ⟨hrun, hg⟩ | ⟨hskip, j, want, d, hg, hd, hb⟩
    · have hw : Region.wanted o (yielded ops a.tmps) = true := by
        cases hgd : o.guard with
        | none => simp [Region.wanted, hgd]
        | some x =>
          obtain ⟨j, want⟩ := x
          obtain ⟨d, hd, hb⟩ := hg j want hgd
          simp only [Region.wanted, hgd, yielded, hd, Option.bind_some, wanted_of (ops := ops) hh hb]
          cases want <;> rfl
      rw [hw]
      simp only [if_true]
      left
      exact stepS_sound htab hrun V F0 w0 a w _ Q (hle V F0 w0 a w hh) fun σ' a' w' hk' hh' => ih σ' a' w' hk' hh'
    · have hw : Region.wanted o (yielded ops a.tmps) = false := by
        rcases hb with hb | hb
        · simp only [Region.wanted, hg, yielded, hd, Option.bind_some, wanted_of (ops := ops) hh hb]
          cases want <;> rfl
        · exact unwanted_undef hg hd (undef_slot hh hb)
      rw [hw]
      simp only [Bool.false_eq_true, if_false]
      split at hskip
      · rename_i hdst
        rw [putK_eq] at hskip
        exact ih _ _ _ hskip ((hle V F0 w0 a w hh).skip hdst)
      · exact hskip.elim
theorem awpOps_list {P : Program} {tab : Tab} (htab : tabCheck P tab = true) {ops : Array Oper} {V : Nat → Prop} {F0 : Base} {w0 : World} {K : St → Prop} {Q : Exit → Act → World → Prop}
    (hQ : ∀ σ a w, K σ → Holds' V F0 w0 σ a w → Q .normal a w) : ∀ (l : List Oper) (L : List Nat), All2 (fun o k => ops[k]? = some o) l L → ∀ (σ : St) (a : Act) (w : World), awpOps P tab ops l K σ → Holds' V F0 w0 σ a w →
      wpOps P ops Q L a w
  | [], [], _, σ, a, w, h, hh => by simpa [wpOps] using hQ σ a w h hh
  | o :: rest, k :: L, ⟨h0, hl'⟩, σ, a, w, h, hh => by
    have ih := awpOps_list htab hQ rest L hl'
    rw [wpOps_cons]
    unfold wpOp
    rw [h0]
    simp only
    obtain ⟨σ1, hle, ⟨hn, hh1, hget⟩, hcase⟩ := guardK_elim (show guardK ops o _ _ σ from h)
    rcases hcase with ⟨hrun, hg⟩ | ⟨hskip, j, want, d, hg, hd, hb⟩
    · have hw : Region.wanted o (yielded ops a.tmps) = true := by
        cases hgd : o.guard with
        | none => simp [Region.wanted, hgd]
        | some x =>
          obtain ⟨j, want⟩ := x
          obtain ⟨d, hd, hb⟩ := hg j want hgd
          simp only [Region.wanted, hgd, yielded, hd, Option.bind_some, wanted_of (ops := ops) hh hb]
          cases want <;> rfl
      rw [hw]
      simp only [if_true]
      left
      exact stepS_sound htab hrun V F0 w0 a w _ Q (hle V F0 w0 a w hh) fun σ' a' w' hk' hh' => ih σ' a' w' hk' hh'
    · have hw : Region.wanted o (yielded ops a.tmps) = false := by
        rcases hb with hb | hb
        · simp only [Region.wanted, hg, yielded, hd, Option.bind_some, wanted_of (ops := ops) hh hb]
          cases want <;> rfl
        · exact unwanted_undef hg hd (undef_slot hh hb)
      rw [hw]
      simp only [Bool.false_eq_true, if_false]
      split at hskip
      · rename_i hdst
        rw [putK_eq] at hskip
        exact ih _ _ _ hskip ((hle V F0 w0 a w hh).skip hdst)
      · exact hskip.elim
  | [], _ :: _, h, _, _, _, _, _ => h.elim
  | _ :: _, [], h, _, _, _, _, _ => h.elim
attribute [irreducible] CallHK
end Go.Ab
