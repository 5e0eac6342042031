/- The abstract machine: from a contract to a row 'for every input the law returns true'. -/
import Derived.Test.YtffnbobdkpebgaaGreatAbRead
import Derived.SizedLaws
set_option linter.unusedVariables false
namespace Go.Ab
open Go.RowKit Go.ChangeShapes Go.WideShapes Go.ChangeAt
def WDV (tab : Tab) (t : Nat) (x : DV) : Prop := ∃ i ds, look tab t = some i ∧ WTy tab t ds ∧ ds.length = i.size ∧ ((i.agg = true ∧ x = .agg ds) ∨ (i.agg = false ∧ ∃ y, ds = [y] ∧ x = .c y))
def WDVs (tab : Tab) : List Nat → List DV → Prop
 | [], [] => True
 | t :: ts, x :: xs => WDV tab t x ∧ WDVs tab ts xs
 | _, _ => False
section
variable {H : Type} {enc : TypeId × Value → H} {P : Program} {tab : Tab} {w : World}
theorem descAgg_tag {d : TypeDesc} (h : descTag d = 6 ↔ descAgg d = true) : True := trivial
theorem read_arg (htab : tabCheck P tab = true) {ts : List Nat} (hts : readSet P tab ts = true) {sp : Nat → Bool} {hd : Bool} {t : Nat} {v : Value} {d : DataW H} {ps : List MemPlace} {r : Reach} {base : Nat}
  (hc : ts.contains t = true) (hval : Value.okWide P w r base t v) (h : DataW.Trod enc P w 0 sp hd t v d ps) (hw : ∀ n ∈ d.weights P t, n ≤ reachBytes) : ∃ x, DVRel (fun b => b < w.heap.size) w v x ∧ WDV tab t x := by
 have hrow : readRow P tab ts t = true := List.all_eq_true.1 hts t (List.contains_iff_mem.1 hc)
 cases hi : look tab t with
 | none => unfold readRow at hrow; rw [hi] at hrow; cases hrow
 | some i =>
  obtain ⟨fuel, hf⟩ := h
  obtain ⟨ds, h1, h2, h3⟩ := read_trod htab hts fuel t i _ d ps hc hi hf hw
  obtain ⟨info, desc, k1, k2, k3, k4, k5, k6, _, k7⟩ := (tabOk_look htab hi).info
  unfold Value.okWide at hval
  rw [k2] at hval
  cases hagg : i.agg with
  | true =>
   rw [hagg] at k5
   have : ∃ cs, v = .agg cs := by
    cases desc <;> simp [descAgg] at k5
    ·obtain ⟨cs, hv, _⟩ := hval; exact ⟨cs, hv⟩
    ·obtain ⟨cs, hv, _⟩ := hval; exact ⟨cs, hv⟩
   obtain ⟨cs, rfl⟩ := this
   exact ⟨.agg ds, ⟨cs.toList, by simp, h1⟩, i, ds, hi, h3, h2, .inl ⟨hagg, rfl⟩⟩
  | false =>
   rw [hagg] at k5
   have hcell : v.cells = #[v] := by
    cases v with
    | agg cs =>
     exfalso
     cases desc <;> simp [descAgg] at k5 <;> simp only [Cell.okWide, Cell.ok, k2] at hval
    | _ => rfl
   rw [hcell] at h1
   match ds, h1 with
   | [x], h1 => exact ⟨.c x, h1.1, i, [x], hi, h3, h2, .inr ⟨hagg, x, rfl, rfl⟩⟩
theorem read_args (htab : tabCheck P tab = true) {ts : List Nat} (hts : readSet P tab ts = true) {sp : Nat → Bool} {hd : Bool} {r : Reach} {base : Nat} : ∀ {params : List Nat} {vs : List Value} {ds : List (DataW H)} {ps : List MemPlace},
  (∀ t ∈ params, ts.contains t = true) → (∀ (j : Nat) t v, params[j]? = some t → vs[j]? = some v → Value.okWide P w r base t v) → DataW.TrodAll enc P w 0 sp hd params vs ds ps →
  (∀ n ∈ DataW.weightsEach P params ds, n ≤ reachBytes) → ∃ xs, All2 (DVRel (fun b => b < w.heap.size) w) vs xs ∧ WDVs tab params xs ∧ ds.length = params.length
 | [], [], [], _, _, _, _, _ => ⟨[], trivial, trivial, rfl⟩
 | t :: params, v :: vs, d :: ds, ps, hc, hval, ⟨p, q, h1, h2, _⟩, hw => by
  obtain ⟨x, k1, k2⟩ := read_arg htab hts (hc t (by simp)) (hval 0 t v rfl rfl) h1 (fun n hn => hw n (by simp [DataW.weightsEach, hn]))
  obtain ⟨xs, k3, k4, k5⟩ := read_args htab hts (fun t ht => hc t (by simp [ht])) (fun j t v ht hv => hval (j + 1) t v ht hv) h2 (fun n hn => hw n (by simp [DataW.weightsEach, hn]))
  exact ⟨x :: xs, ⟨k1, k3⟩, ⟨k2, k4⟩, by simp [k5]⟩
 | [], _ :: _, _, _, _, _, h, _ => by cases h
 | [], [], _ :: _, _, _, _, h, _ => by cases h
 | _ :: _, [], _, _, _, _, h, _ => by cases h
 | _ :: _, _ :: _, [], _, _, _, h, _ => by cases h
theorem trodAll_below (hl : laidOutB P = true) {W W' : World} (hb : Below W.heap.size W W') : ∀ {params : List Nat} {vs : List Value} {ds : List (DataW H)} {ps : List MemPlace},
  (∀ t ∈ params, P.readableRec t = true ∧ t < P.types.size) → DataW.TrodAll enc P W 0 (fun _ => true) true params vs ds ps → (∀ x ∈ ps, x.block < W.heap.size) →
  DataW.TrodAll enc P W' 0 (fun b => decide (b < W.heap.size)) true params vs ds ps
 | [], [], [], _, _, h, _ => h
 | t :: params, v :: vs, d :: ds, ps, hr, ⟨p, q, h1, h2, h3⟩, hlt => by
  subst h3
  exact ⟨p, q, Below.trod hl (hr t (by simp)).1 (hr t (by simp)).2 h1 hb (fun x hx => hlt x (by simp [hx])), trodAll_below hl hb (fun t ht => hr t (by simp [ht])) h2 (fun x hx => hlt x (by simp [hx])), rfl⟩
 | [], _ :: _, _, _, _, h, _ => by cases h
 | [], [], _ :: _, _, _, h, _ => by cases h
 | _ :: _, [], _, _, _, h, _ => by cases h
 | _ :: _, _ :: _, [], _, _, h, _ => by cases h
end
theorem lifted_one {H : Type} {enc : TypeId × Value → H} {C : Checked} {os : Os} {f : FuncId} {fn : Func} {s : ChangeSpec} {apart fresh handsOn : Bool} {tab : Tab} {ts : List Nat} {tb : TypeId}
  (own : ownKnob C.prog.godebug = none) (started : os.Started) (noInit : C.prog.inits.idxOf? f = none) (hfn : C.prog.funcs[f]? = some fn)
  (laid : laidOutB C.prog = true) (htab : tabCheck C.prog tab = true) (hts : readSet C.prog tab ts = true) (hpar : (fn.params.toList.all fun t => ts.contains t && (C.prog.readableRec t && Nat.blt t C.prog.types.size)) = true)
  (hres : fn.resultTypes = #[tb]) (htb : C.prog.underlying tb = some .bool) (hvars : s.vars = [])
  (hspec : ∀ ds : List (DataW H), ds.length = fn.params.toList.length → (s.fn H ds).results = [.lit (.bool true)] ∧ (s.fn H ds).args = ds ∧ (s.fn H ds).vars = [])
  {W : World} (glob : Glob (fun b => b < W.heap.size) W) (hcon : ∀ xs : List DV, WDVs tab fn.params.toList xs → Fn C.prog f xs (.s (.c (.d (.bool true)))) [])
  {base : Nat} {args : Array Value} {ds gs : List (DataW H)} {before : List MemPlace} (hval : ∀ (j : Nat) t v, fn.params[j]? = some t → args[j]? = some v → Value.okWide C.prog W .any base t v)
  (hW : DataW.Whole enc C.prog fn.params.toList s.vars apart W args.toList ds gs before) (hsz : (DataW.weightsEach C.prog (fn.params.toList ++ s.plain.varTypes C.prog) (ds ++ gs)).all (· ≤ reachBytes) = true) :
  Calls C.prog f args W fun e W' => ∃ v, e = .returned v ∧ s.post enc C.prog fn apart fresh handsOn false W args v W' := by
 obtain ⟨p, q, hA, hV, hps, hfz, hnd⟩ := hW
 have hWc : DataW.Whole enc C.prog fn.params.toList s.vars apart W args.toList ds gs before := ⟨p, q, hA, hV, hps, hfz, hnd⟩
 have hlt := hWc.lt
 have hgq : gs = [] ∧ q = [] := by
  rw [hvars] at hV
  cases gs with
  | nil => exact ⟨rfl, hV⟩
  | cons g gs => cases hV
 obtain ⟨rfl, rfl⟩ := hgq
 rw [List.append_nil] at hps
 subst hps
 have hparams : ∀ t ∈ fn.params.toList, ts.contains t = true ∧ C.prog.readableRec t = true ∧ t < C.prog.types.size := fun t ht => by
  have := List.all_eq_true.1 hpar t ht
  simp only [Bool.and_eq_true] at this
  exact ⟨this.1, this.2.1, by have := this.2.2; exact Nat.le_of_ble_eq_true this⟩
 have hwt : ∀ n ∈ DataW.weightsEach C.prog fn.params.toList ds, n ≤ reachBytes := by
  intro n hn
  have hv0 : s.plain.varTypes C.prog = [] := by simp [ChangeSpec.plain, DataSpec.varTypes, hvars]
  rw [hv0, List.append_nil, List.append_nil] at hsz
  simpa using List.all_eq_true.1 hsz n hn
 obtain ⟨xs, k1, k2, k3⟩ := read_args htab hts (fun t ht => (hparams t ht).1) (fun j t v ht hv => hval j t v (by simpa using ht) (by simpa using hv)) hA hwt
 have hcalls := (hcon xs k2).calls (fun b => b < W.heap.size) W args.toList glob (fun b hb => hb) k1
 rw [Array.toArray_toList] at hcalls
 refine hcalls.mono fun e W' ⟨v, ρ', F', he, L⟩ => ⟨v, he, ?_⟩
 have hv : v = .bool true := by
  have := L.val
  have h2 : DRel F' W' v (.bool true) := this
  cases h2
  rfl
 subst hv
 have hsp := hspec ds k3
 refine ⟨ds, [], before, [], before, [], hWc, ?_, ?_, ?_, L.below.frame _, fun h => by cases h⟩
 ·rw [List.append_nil, hsp.1, hres]
  exact trodAll_mk1 (shut_bool htb true)
 ·rw [List.append_nil, hsp.2.1]
  exact trodAll_below laid L.below (fun t ht => (hparams t ht).2) hA hlt
 ·rw [List.append_nil, hsp.2.2, hvars]
  rfl
theorem lifted {H : Type} {enc : TypeId × Value → H} {C : Checked} {os : Os} {a : Assume} {f : FuncId} {fn : Func} {s : ChangeSpec} {conds : List PathCond} {apart fresh handsOn : Bool} {tab : Tab} (ts : List Nat) {tb : TypeId}
  (own : ownKnob C.prog.godebug = none) (started : os.Started) (noInit : C.prog.inits.idxOf? f = none) (hfn : C.prog.funcs[f]? = some fn)
  (witness : ∃ (w : World) (tape : Tape) (i : Input), w.os = os ∧ (w.forCall tape i).Shaped C.prog ∧ i.vars = [] ∧ Input.okWide C.prog (w.forCall tape i) .any w.heap.size f i ∧
   s.pre6 enc C.prog fn conds apart (w.forCall tape i).memory i.args ∧ a.holds C.prog (lone (Frame.enter C.prog f i.args .normal) [] (w.forCall tape i)))
  (laid : laidOutB C.prog = true) (htab : tabCheck C.prog tab = true) (hts : readSet C.prog tab ts = true) (hpar : (fn.params.toList.all fun t => ts.contains t && (C.prog.readableRec t && Nat.blt t C.prog.types.size)) = true)
  (hres : fn.resultTypes = #[tb]) (htb : C.prog.underlying tb = some .bool) (hvars : s.vars = [])
  (hspec : ∀ ds : List (DataW H), ds.length = fn.params.toList.length → (s.fn H ds).results = [.lit (.bool true)] ∧ (s.fn H ds).args = ds ∧ (s.fn H ds).vars = [])
  (glob : ∀ W : World, W.ShapedOpen C.prog → Glob (fun b => b < W.heap.size) W)
  (hcon : ∀ xs : List DV, WDVs tab fn.params.toList xs → Fn C.prog f xs (.s (.c (.d (.bool true)))) []) :
  ReturnsInHanded a C os f .any (s.pre6 enc C.prog fn conds apart) (s.post enc C.prog fn apart fresh handsOn false) := by
 have contract : ∀ (W : World) (base : Nat) (args : Array Value) (ds gs : List (DataW H)) (before : List MemPlace), W.ShapedOpen C.prog →
   (∀ (j : Nat) t v, fn.params[j]? = some t → args[j]? = some v → Value.okWide C.prog W .any base t v) → DataW.Whole enc C.prog fn.params.toList s.vars apart W args.toList ds gs before →
   (DataW.weightsEach C.prog (fn.params.toList ++ s.plain.varTypes C.prog) (ds ++ gs)).all (· ≤ reachBytes) = true →
   Calls C.prog f args W fun e W' => ∃ v, e = .returned v ∧ s.post enc C.prog fn apart fresh handsOn false W args v W' := by
  intro W base args ds gs before hshape hval hW hsz
  exact lifted_one own started noInit hfn laid htab hts hpar hres htb hvars hspec (glob W hshape) hcon hval hW hsz
 refine returnsInHanded_of_calls own started noInit witness ?_
 intro w tape i _ hshape _ hok hpre hholds
 obtain ⟨_, _, _, fn', hfn', _, _, _, _, hval⟩ := hok
 have e : fn' = fn := Option.some.inj (hfn'.symm.trans hfn)
 subst e
 obtain ⟨⟨ds, gs, before, hw, hc⟩, hz⟩ := hpre
 have hw' := DataW.Whole.of_heap (w' := w.forCall tape i) (by rfl) hw
 refine (contract (w.forCall tape i) w.heap.size i.args ds gs before hshape hval hw' (hz.weights hw)).mono fun e W' ⟨v, he, hp⟩ => ?_
 subst he
 exact ChangeSpec.post_blind hp
end Go.Ab
