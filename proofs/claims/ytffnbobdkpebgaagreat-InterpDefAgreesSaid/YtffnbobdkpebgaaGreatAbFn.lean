/- The abstract machine: from a function's body to its contract. -/
import Derived.Test.YtffnbobdkpebgaaGreatAbCode
set_option linter.unusedVariables false
namespace Go.Ab
open Go.RowKit
def resV (tab : Tab) (σ : St) : ResultVar → Option SV
 | .tmp t => match σ.get t with
  | .s v => some v
  | .tup _ => none
 | .cell a t => match look tab t, σ.get a with
  | some i, .s (.c (.ref id 0 _ off)) => match look σ.h id with
   | some (.var cs) => match Nat.beq ((cs.drop off).take i.size).length i.size, i.agg, (cs.drop off).take i.size with
    | true, true, l => some (.agg l)
    | true, false, [c] => some (.c c)
    | _, _, _ => none
   | _ => none
  | _, _ => none
def resL (tab : Tab) (σ : St) : List ResultVar → Option (List SV)
 | [] => some []
 | r :: rs => match resV tab σ r, resL tab σ rs with
  | some v, some vs => some (v :: vs)
  | _, _ => none
theorem resV_run {P : Program} {tab : Tab} (htab : tabCheck P tab = true) {S : Nat → Prop} {ρ : Map} {F : Nat → Prop} {σ : St} {a : Act} {w : World} (hs : SRel S ρ F σ a w) {r : ResultVar} {x : SV} (h : resV tab σ r = some x) :
  ∃ v, (match r with | .tmp t => (pure (a.tmps.getD t undef) : Sem Value) | .cell c t => do loadVar t (← asAddr (a.tmps.getD c undef))).run P w = .ok v w ∧ SVRel ρ F w σ.h v x := by
 cases r with
 | tmp t =>
  simp only [resV] at h
  split at h
  ·rename_i v hv
   cases h
   have := hs.tmp t
   rw [hv] at this
   exact ⟨_, rfl, this⟩
  ·cases h
 | cell c t =>
  simp only [resV] at h
  split at h
  ·rename_i i id s off hi hg
   split at h
   ·rename_i cs hl
    have h0 := hs.tmp c
    rw [hg] at h0
    have hc := cells_var (s := s) i.size hs.obj hl h0
    have hti := tabOk_look htab hi
    have hgen : ∀ {l : List C}, l = (cs.drop off).take i.size → l.length = i.size → ∀ {r : SV}, ((i.agg = true ∧ r = .agg l) ∨ (i.agg = false ∧ ∃ c, l = [c] ∧ r = .c c)) →
      ∃ v, (do loadVar t (← asAddr (a.tmps.getD c undef)) : Sem Value).run P w = .ok v w ∧ SVRel ρ F w σ.h v r := by
     intro l hle hlen r hr
     rw [← hle] at hc
     obtain ⟨k1, k2⟩ := run_loadAt hti hlen hc
     obtain ⟨b, o, hp, _⟩ := hc
     have hrun : ∀ u, (Instr.loadAt t (a.tmps.getD c undef)).run P w = .ok u w → (do loadVar t (← asAddr (a.tmps.getD c undef)) : Sem Value).run P w = .ok u w := by
      intro u hu
      rw [hp] at hu ⊢
      simpa [Instr.loadAt, Instr.sureAddr, asAddr] using hu
     rcases hr with ⟨ha, rfl⟩ | ⟨ha, c, hlc, rfl⟩
     ·obtain ⟨u, hu, hr⟩ := k1 ha; exact ⟨u, hrun u hu, hr⟩
     ·obtain ⟨u, hu, hr⟩ := k2 c ha hlc; exact ⟨u, hrun u hu, hr⟩
    split at h
    ·rename_i hbeq hagg
     cases h
     exact hgen rfl (Nat.eq_of_beq_eq_true hbeq) (.inl ⟨hagg, rfl⟩)
    ·rename_i c0 hbeq hagg hlist
     cases h
     exact hgen rfl (Nat.eq_of_beq_eq_true hbeq) (.inr ⟨hagg, c0, hlist, rfl⟩)
    ·cases h
   ·cases h
  ·cases h
theorem resL_run {P : Program} {tab : Tab} (htab : tabCheck P tab = true) {S : Nat → Prop} {ρ : Map} {F : Nat → Prop} {σ : St} {a : Act} {w : World} (hs : SRel S ρ F σ a w) : ∀ {rs : List ResultVar} {xs : List SV}, resL tab σ rs = some xs →
  ∃ vs, (rs.mapM (m := Sem) fun (r : ResultVar) => (match r with | .tmp t => pure (a.tmps.getD t undef) | .cell c t => do loadVar t (← asAddr (a.tmps.getD c undef)) : Sem Value)).run P w = .ok vs w ∧ All2 (SVRel ρ F w σ.h) vs xs
 | [], xs, h => by simp [resL] at h; subst h; exact ⟨[], by simp, trivial⟩
 | r :: rs, xs, h => by
  simp only [resL] at h
  split at h
  ·rename_i v vs h1 h2
   cases h
   obtain ⟨u, hu, hr⟩ := resV_run htab hs h1
   obtain ⟨us, hus, hrs⟩ := resL_run htab hs h2
   refine ⟨u :: us, ?_, hr, hrs⟩
   simp only [List.mapM_cons, Sem.run_bind, hu, Result.andThen_ok, hus, Sem.run_pure]
  ·cases h
def expOf : AV → List SV
 | .s v => [v]
 | .tup l => l
def tupOk : AV → Bool
 | .s _ => true
 | .tup l => !(Nat.beq l.length 1)
def Leaf (p : Prop) : Prop := p
theorem leafI {p : Prop} (h : p) : Leaf p := h
theorem leafE {p : Prop} (h : Leaf p) : p := h
attribute [irreducible] Leaf
def retP (tab : Tab) (fn : Func) (r : AV) (news : Heap) (σ : St) : Prop := match tupOk r, resL tab σ fn.results.toList with
 | true, some act => Leaf (Dlv σ.h news (pinsOf news) act (expOf r))
 | _, _ => False
def entryS : Nat → List SV → List (Nat × AV)
 | _, [] => []
 | k, v :: r => (k, .s v) :: entryS (k + 1) r
def entryT : Nat → List DV → List (Nat × AV)
 | _, [] => []
 | k, v :: r => (k, .s v.sv) :: entryT (k + 1) r
def entry (n : Nat) (args : List DV) : St := { n, t := entryT 0 args, h := [] }
def entryH (n : Nat) (args : List SV) (pre : Heap) : St := { n, t := entryS 0 args, h := pre }
theorem entryT_S : ∀ (k : Nat) (args : List DV), entryT k args = entryS k (args.map DV.sv)
 | _, [] => rfl
 | k, v :: r => by simp only [entryT, entryS, List.map_cons]; rw [entryT_S]
theorem look_entryS : ∀ (args : List SV) (k t : Nat), look (entryS k args) t = if t < k then none else (args[t - k]?).map fun v => AV.s v
 | [], k, t => by simp [entryS, look]
 | v :: r, k, t => by
  simp only [entryS, look]
  cases hb : Nat.beq k t with
  | true =>
   have := Nat.eq_of_beq_eq_true hb
   subst this
   simp
  | false =>
   have hne := Nat.ne_of_beq_eq_false hb
   simp only [cond_false]
   rw [look_entryS r (k + 1) t]
   by_cases h : t < k
   ·rw [if_pos h, if_pos (by omega)]
   ·rw [if_neg h, if_neg (by omega), show t - k = (t - (k + 1)) + 1 by omega]
    simp
theorem dv_sv {ρ : Map} {F : Nat → Prop} {w : World} {H : Heap} {v : Value} {x : DV} (h : DVRel F w v x) : SVRel ρ F w H v x.sv := by
 cases x with
 | c x => exact h
 | agg cs => obtain ⟨vs, hv, h⟩ := h; exact ⟨vs, hv, all2_map C.d (fun _ _ h => h) h⟩
def exitP (tab : Tab) (fn : Func) (r : AV) (news : Heap) (e : Exit) (σ : St) : Prop := match e with
 | .normal => retP tab fn r news σ
 | .ret => retP tab fn r news σ
 | _ => False
def Real (x : D) : Prop := ∃ F w v, DRel F w v x
theorem Real.len {s : Nat} {es : List (List D)} (h : Real (.slice s es)) : es.length ≤ 9223372036854775807 := by
 obtain ⟨F, w, v, h⟩ := h
 cases h with
 | nilS => simp
 | emptyS => simp
 | slice b off cap s es vs hF hcap hmax => exact Nat.le_trans hcap (by simpa [maxLen] using hmax)
theorem Real.row {s : Nat} {es : List (List D)} (h : Real (.slice s es)) {e : List D} (he : e ∈ es) : e.length = s ∧ ∀ x ∈ e, Real x := by
 obtain ⟨F, w, v, h⟩ := h
 cases h with
 | nilS => simp at he
 | emptyS => simp at he
 | slice b off cap s es vs hF hcap hmax hlen hc hd =>
  refine ⟨hlen e he, fun x hx => ?_⟩
  obtain ⟨i, hi⟩ := List.getElem?_of_mem he
  obtain ⟨j, hj⟩ := List.getElem?_of_mem hx
  exact ⟨_, _, _, hd i e j x hi hj⟩
def RealL : List D → Prop
 | [] => True
 | [x] => Real x
 | x :: r => Real x ∧ RealL r
def Reals : List DV → Prop
 | [] => True
 | .c x :: r => Real x ∧ Reals r
 | .agg cs :: r => RealL cs ∧ Reals r
theorem reals_of {F : Nat → Prop} {w : World} : ∀ {vs : List Value} {args : List DV}, All2 (DVRel F w) vs args → Reals args
 | [], [], _ => trivial
 | v :: vs, .c x :: r, h => ⟨⟨_, _, _, h.1⟩, reals_of h.2⟩
 | v :: vs, .agg cs :: r, h => by
  refine ⟨?_, reals_of h.2⟩
  obtain ⟨us, _, h1⟩ := h.1
  have : ∀ {us : List Value} {cs : List D}, All2 (DRel F w) us cs → RealL cs := by
   intro us cs
   induction cs generalizing us with
   | nil => intro _; trivial
   | cons c r ih =>
    intro h
    cases us with
    | nil => cases h
    | cons u us =>
     cases r with
     | nil => exact ⟨_, _, _, h.1⟩
     | cons c2 r => exact ⟨⟨_, _, _, h.1⟩, ih h.2⟩
  exact this h1
theorem body_calls {P : Program} {tab : Tab} (htab : tabCheck P tab = true) (hm : P.follows .mixedOrders = true) {f : FuncId} {fn : Func} {c : Code} (hf : P.funcs[f]? = some fn) (hb : fn.body = some c)
  (hok : codeOk c = true) {args : List SV} {pre : Heap} {r : AV} {post : Heap} (hlen : args.length ≤ fn.ntmps) (h : awp P tab c (exitP tab fn r post) (entryH fn.ntmps args pre))
  {S F : Nat → Prop} {ρ : Map} {w : World} {vs : List Value} (wok : WOk S ρ F w) (hdom : ∀ id p, ρ id = some p → 7000000 ≤ id ∧ ∃ o, look pre id = some o) (hobj : HRel ρ F w pre) (hargs : All2 (SVRel ρ F w pre) vs args) :
  Calls P f vs.toArray w fun e w' => ∃ v ρ' F', e = .returned v ∧ LeftH S F ρ w r post v ρ' F' w' := by
 refine calls_of_wp hf hb ?_
 have hl := All2.length hargs
 have hsize : vs.toArray.size = vs.length := by simp
 let B : Base := ⟨F, S, ρ, fun id p h => (hdom id p h).1⟩
 have hH : Holds' S B w (entryH fn.ntmps args pre) { tmps := vs.toArray ++ Array.replicate (fn.ntmps - vs.toArray.size) undef, defers := [] } w := by
  refine ⟨⟨ρ, F, ⟨wok, ?_, fun t => ?_, hobj, fun id p h => (hdom id p h).2, rfl⟩, ⟨fun _ h => h, fun _ h => h, fun _ _ h _ => h⟩, fun _ h => .inl h⟩, Keep.refl _ _⟩
  ·simp [entryH]; omega
  ·simp only [St.get, entryH]
   rw [look_entryS, if_neg (by omega), Nat.sub_zero]
   cases ha : args[t]? with
   | none => trivial
   | some v =>
    obtain ⟨u, hu, hr⟩ := All2.get hargs ha
    have hlt : t < vs.length := (List.getElem?_eq_some_iff.1 hu).1
    have hget : (vs.toArray ++ Array.replicate (fn.ntmps - vs.toArray.size) undef).getD t undef = u := by
     rw [Array.getD_eq_getD_getElem?, Array.getElem?_append_left (by simpa using hlt)]
     simp [hu]
    simp only [Option.map_some]
    rw [hget]
    exact hr
 refine awp_sound htab hm c _ _ _ _ _ hok h hH fun e σ a w' hk hh => ?_
 have main : retP tab fn r post σ → a.defers = [] ∧ ∃ v, (results fn a.tmps).run P w' = .ok v w' ∧ ∃ v' ρ' F', Ending.returned v = .returned v' ∧ LeftH S F ρ w r post v' ρ' F' w' := by
  intro hr
  unfold retP at hr
  split at hr
  ·rename_i act htup hres
   obtain ⟨⟨ρ1, F1, hs, h1, h2⟩, hkp⟩ := hh
   obtain ⟨us, hus, hvs⟩ := resL_run htab hs hres
   obtain ⟨ρ', F', k1, k2, k3, k4, k5, k6, k7, k8⟩ := deliver hs h1 h2 (fun _ h => h) hkp hvs (leafE hr)
   have hrun : (results fn a.tmps).run P w' = .ok (if h : us.toArray.size = 1 then us.toArray[0] else .tuple us.toArray) w' := by
    unfold results
    rw [Sem.run_bind, Array.mapM_eq_mapM_toList, Sem.run_map]
    refine (congrArg (fun q : Result (List Value) => (q.andThen fun a w' => Result.ok a.toArray w').andThen fun a w' => (pure (if h : a.size = 1 then a[0] else Value.tuple a) : Sem Value).run P w') (?_ : _ = Result.ok us w')).trans rfl
    exact hus
   refine ⟨hs.defers, _, hrun, _, ρ', F', rfl, ⟨k1, k2, k3, k4, k5, k6, ?_, k8⟩⟩
   cases r with
   | s x =>
    match us, k7 with
    | [u], k7 => exact k7.1
   | tup xs =>
    have hx : us.length = xs.length := All2.length k7
    have hne : us.length ≠ 1 := by
     simp only [tupOk, Bool.not_eq_true'] at htup
     rw [hx]
     exact Nat.ne_of_beq_eq_false htup
    rw [dif_neg (by simpa using hne)]
    exact ⟨us, rfl, k7⟩
  ·exact hr.elim
 cases e with
 | normal => exact main hk
 | ret => exact main hk
 | exit i => exact hk.elim
 | goto l => exact hk.elim
 | panic c => exact hk.elim
 | outgrown => exact hk.elim
theorem Fn.intro {P : Program} {tab : Tab} (htab : tabCheck P tab = true) (hm : P.follows .mixedOrders = true) {f : FuncId} {fn : Func} {c : Code} (hf : P.funcs[f]? = some fn) (hb : fn.body = some c) (hent : ∀ as w, (callFunc f as).run P w = .ok (.enter f as) w)
  (hok : codeOk c = true) {args : List DV} {r : AV} {news : Heap} (n : Nat) (hn : fn.ntmps = n) (hlen : Nat.ble args.length n = true) (h : Reals args → fSt (entry n args) (awp P tab c (exitP tab fn r news))) : Fn P f args r news := by
 subst hn
 have hlen := Nat.le_of_ble_eq_true hlen
 refine ⟨hent, fun F w vs hG hF hargs => ?_⟩
 have h := h (reals_of hargs)
 rw [fSt_eq] at h
 have h : awp P tab c (exitP tab fn r news) (entryH fn.ntmps (args.map DV.sv) []) := by
  unfold entry at h; rw [entryT_S] at h; exact h
 refine (body_calls (S := fun b => b < w.heap.size) (F := F) (ρ := fun _ => none) (w := w) htab hm hf hb hok (by simpa using hlen) h ⟨hG, fun _ h => h, hF, fun _ _ _ h => (by cases h), fun _ _ _ _ _ h => (by cases h)⟩ (fun _ _ h => (by cases h)) (fun _ _ _ h => (by cases h)) (all2_map DV.sv (fun _ _ h => dv_sv h) hargs)).mono ?_
 rintro e w' ⟨v, ρ', F', rfl, L⟩
 refine ⟨v, ρ', F', rfl, ⟨⟨L.keep.os, L.keep.tape, L.keep.output, L.keep.size, L.keep.block⟩, L.ok.glob, L.ok.comm, L.set, fun b hb => (L.new b hb).imp_right (by omega), fun id b N hr => ?_, L.ok.inj, L.dom, L.val, L.obj⟩⟩
 obtain ⟨h1, h2, h3⟩ := L.ok.own id b N hr
 exact ⟨by omega, h1, h3⟩
def shapeP (post : Heap) : Heap → Prop
 | [] => True
 | (id, .row T s es) :: r => (match look post id with
  | some (.row T' s' es') => (T = T' ∧ s = s') ∧ es'.length = es.length
  | some _ => False
  | none => True) ∧ shapeP post r
 | _ :: r => shapeP post r
theorem shapeP_spec {post : Heap} : ∀ {pre : Heap}, shapeP post pre → ∀ id T s es o, look pre id = some (.row T s es) → look post id = some o → ∃ es', o = .row T s es' ∧ es'.length = es.length
 | [], _, id, T, s, es, o, h, _ => by simp [look] at h
 | (k, ob) :: r, hs, id, T, s, es, o, h, ho => by
  simp only [look] at h
  cases hb : Nat.beq k id with
  | true =>
   rw [hb] at h
   simp only [cond_true, Option.some.injEq] at h
   subst h
   have := Nat.eq_of_beq_eq_true hb
   subst this
   have h1 := hs.1
   rw [ho] at h1
   cases o with
   | row T' s' es' => obtain ⟨⟨rfl, rfl⟩, hl⟩ := h1; exact ⟨es', rfl, hl⟩
   | var cs => exact h1.elim
  | false =>
   rw [hb] at h
   have hr : shapeP post r := by cases ob with | var cs => exact hs | row T' s' es' => exact hs.2
   exact shapeP_spec hr id T s es o h ho
def RealC : C → Prop
 | .d x => Real x
 | _ => True
def RealCs : List C → Prop
 | [] => True
 | [c] => RealC c
 | c :: r => RealC c ∧ RealCs r
def RealS : List SV → Prop
 | [] => True
 | .c x :: r => RealC x ∧ RealS r
 | .agg cs :: r => RealCs cs ∧ RealS r
 | .fn _ _ :: r => RealS r
theorem realCs_of {ρ : Map} {F : Nat → Prop} {w : World} {H : Heap} : ∀ {vs : List Value} {cs : List C}, All2 (CRel ρ F w H) vs cs → RealCs cs
 | [], [], _ => trivial
 | [v], [c], h => by
  cases c <;> first | exact ⟨_, _, _, h.1⟩ | exact trivial
 | v :: v2 :: vs, c :: c2 :: cs, h => by
  refine ⟨?_, realCs_of h.2⟩
  cases c <;> first | exact ⟨_, _, _, h.1⟩ | exact trivial
 | [v], c :: c2 :: cs, h => h.2.elim
 | v :: v2 :: vs, [c], h => h.2.elim
theorem realS_of {ρ : Map} {F : Nat → Prop} {w : World} {H : Heap} : ∀ {vs : List Value} {args : List SV}, All2 (SVRel ρ F w H) vs args → RealS args
 | [], [], _ => trivial
 | v :: vs, .c x :: r, h => by
  refine ⟨?_, realS_of h.2⟩
  cases x <;> first | exact ⟨_, _, _, h.1⟩ | exact trivial
 | v :: vs, .agg cs :: r, h => by
  obtain ⟨us, _, h1⟩ := h.1
  exact ⟨realCs_of h1, realS_of h.2⟩
 | v :: vs, .fn f cs :: r, h => by
  show RealS r
  exact realS_of h.2
theorem FnH.intro {P : Program} {tab : Tab} (htab : tabCheck P tab = true) (hm : P.follows .mixedOrders = true) {f : FuncId} {fn : Func} {c : Code} (hf : P.funcs[f]? = some fn) (hb : fn.body = some c) (hent : ∀ as w, (callFunc f as).run P w = .ok (.enter f as) w)
  (hok : codeOk c = true) {args : List SV} {pre : Heap} {r : AV} {post : Heap} (n : Nat) (hn : fn.ntmps = n) (hlen : Nat.ble args.length n = true) (hsh : shapeP post pre) (h : RealS args → fSt (entryH n args pre) (awp P tab c (exitP tab fn r post))) : FnH P f args pre r post := by
 subst hn
 refine ⟨hent, shapeP_spec hsh, fun S F ρ w vs wok hdom hobj hargs => ?_⟩
 have h := h (realS_of hargs)
 rw [fSt_eq] at h
 exact body_calls htab hm hf hb hok (Nat.le_of_ble_eq_true hlen) h wok hdom hobj hargs
end Go.Ab
