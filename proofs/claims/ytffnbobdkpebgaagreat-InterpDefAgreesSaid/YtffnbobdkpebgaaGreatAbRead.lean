/- The abstract machine: an argument that can be read is data of its type. -/
import Derived.Test.YtffnbobdkpebgaaGreatAbUse
import Derived.ProofKit
set_option linter.unusedVariables false
namespace Go.Ab
open Go.RowKit
inductive WTy (tab : Tab) : Nat → List D → Prop
 | bool {t : Nat} {i : TI} {b : Bool} (hi : look tab t = some i) (ht : i.tag = 1) : WTy tab t [.bool b]
 | int {t : Nat} {i : TI} {k : IntKind} {n : Int} (hi : look tab t = some i) (ht : i.tag = 2) (hz : i.zero = [.d (.int k 0)]) (hr : (Lit.int k n).wf = true) : WTy tab t [.int k n]
 | str {t : Nat} {i : TI} {s : ByteArray} (hi : look tab t = some i) (ht : i.tag = 3) (hs : s.size ≤ reachBytes) : WTy tab t [.str s]
 | slice {t : Nat} {i ie : TI} {es : List (List D)} (hi : look tab t = some i) (ht : i.tag = 4) (hie : look tab i.elem = some ie) (he : ∀ e ∈ es, WTy tab i.elem e) (hb : es.length * ie.bytes ≤ reachBytes) : WTy tab t [.slice ie.size es]
 | nilptr {t : Nat} {i : TI} (hi : look tab t = some i) (ht : i.tag = 5) : WTy tab t [.nilptr]
 | ptr {t : Nat} {i ie : TI} {e : List D} (hi : look tab t = some i) (ht : i.tag = 5) (hie : look tab i.elem = some ie) (he : WTy tab i.elem e) : WTy tab t [.ptr e 0]
 | struct {t : Nat} {i : TI} {cs : List D} (hi : look tab t = some i) (ht : i.tag = 6) (hl : cs.length = i.size) (hf : ∀ o u, (o, u) ∈ i.fields → ∀ iu, look tab u = some iu → WTy tab u ((cs.drop o).take iu.size)) : WTy tab t cs
def tile (tab : Tab) (n : Nat) : Nat → List (Nat × Nat) → Bool
 | o, [] => Nat.beq o n
 | o, (o', u) :: r => Nat.beq o o' && (match look tab u with | some iu => tile tab n (o + iu.size) r | none => false)
def readRow (P : Program) (tab : Tab) (ts : List Nat) (t : Nat) : Bool := match look tab t with
 | none => false
 | some i => (Nat.beq i.tag 6 || Nat.beq i.size 1) && match i.tag with
  | 1 => true
  | 2 => (match P.underlying t, i.zero with | some (.int k), [.d (.int k' n)] => decide (k = k') && decide (n = 0) | _, _ => false)
  | 3 => true
  | 4 => ts.contains i.elem && (match look tab i.elem with | some ie => !(Nat.beq ie.size 0) | none => false)
  | 5 => ts.contains i.elem && (match look tab i.elem with | some ie => !(Nat.beq ie.size 0) | none => false)
  | 6 => tile tab i.size 0 i.fields && i.fields.all fun p => ts.contains p.2
  | _ => false
def readSet (P : Program) (tab : Tab) (ts : List Nat) : Bool := ts.all (readRow P tab ts)
theorem tiok_size {P : Program} {t : Nat} {i : TI} (h : TIOk P t i) : P.cellsOf t = i.size ∧ P.bytesOf t = i.bytes := by
 obtain ⟨info, desc, h1, h2, h3, h4, _⟩ := h.info
 simp [Program.cellsOf, Program.bytesOf, h1, h3, h4]
theorem tiok_desc {P : Program} {t : Nat} {i : TI} (h : TIOk P t i) : ∃ desc, P.underlying t = some desc ∧ descTag desc = i.tag ∧ descOk P i desc = true := by
 obtain ⟨info, desc, h1, h2, h3, h4, h5, h6, _, h7⟩ := h.info
 exact ⟨desc, h2, h6, h7⟩
section
variable {H : Type} {enc : TypeId × Value → H} {P : Program} {tab : Tab} {w : World}
theorem weights_all {e : TypeId} : ∀ {l : List (DataW H)} {d : DataW H}, d ∈ l → ∀ n ∈ d.weights P e, n ∈ DataW.weightsAll P e l
 | x :: l, d, hd, n, hn => by
  simp only [DataW.weightsAll, List.mem_append]
  rcases List.mem_cons.1 hd with h | h
  ·subst h; exact .inl hn
  ·exact .inr (weights_all h n hn)
 | [], d, hd, _, _ => by simp at hd
theorem choose_list {α : Type} {R : Nat → α → Prop} : ∀ (n : Nat), (∀ i, i < n → ∃ a, R i a) → ∃ l : List α, l.length = n ∧ ∀ i a, l[i]? = some a → R i a
 | 0, _ => ⟨[], rfl, by simp⟩
 | n + 1, h => by
  obtain ⟨l, hl, hr⟩ := choose_list n (fun i hi => h i (by omega))
  obtain ⟨a, ha⟩ := h n (by omega)
  refine ⟨l ++ [a], by simp [hl], fun i b hb => ?_⟩
  rw [List.getElem?_append] at hb
  split at hb
  ·exact hr i b hb
  ·rename_i hge
   have hi : i = n := by
    have := (List.getElem?_eq_some_iff.1 hb).1
    simp at this; omega
   subst hi
   simp [hl] at hb
   subst hb
   exact ha
theorem fieldsOk_types : ∀ {fs : List Field} {r : List (Nat × Nat)}, fieldsOk P fs r = true → fs.map (·.type) = r.map (·.2) ∧ fs.length = r.length ∧ ∀ (i : Nat) (f : Field) (o u : Nat), fs[i]? = some f → r[i]? = some (o, u) → f.offset = o ∧ f.type = u
 | [], [], _ => by simp
 | f :: fs, (o, t) :: r, h => by
  simp only [fieldsOk, Bool.and_eq_true] at h
  obtain ⟨⟨⟨⟨h1, h2⟩, _⟩, _⟩, h3⟩ := h
  have h1 := Nat.eq_of_beq_eq_true h1
  have h2 := Nat.eq_of_beq_eq_true h2
  obtain ⟨k1, k2, k3⟩ := fieldsOk_types h3
  refine ⟨by simp [k1, h2], by simp [k2], fun i f' o' u hf hr => ?_⟩
  cases i with
  | zero => simp at hf hr; obtain ⟨rfl, rfl⟩ := hr; subst hf; exact ⟨h1, h2⟩
  | succ i => simp at hf hr; exact k3 i f' o' u hf hr
 | [], _ :: _, h => by simp [fieldsOk] at h
 | _ :: _, [], h => by simp [fieldsOk] at h
theorem tile_rel {R : Value → D → Prop} {n : Nat} (cs : List Value) (hn : cs.length = n) : ∀ (r : List (Nat × Nat)) (o : Nat), tile tab n o r = true →
  (∀ o' u, (o', u) ∈ r → ∀ iu, look tab u = some iu → ∃ ds, All2 R ((cs.drop o').take iu.size) ds ∧ ds.length = iu.size ∧ WTy tab u ds) →
  o ≤ n ∧ ∃ ds, All2 R (cs.drop o) ds ∧ ds.length = n - o ∧ ∀ o' u, (o', u) ∈ r → o ≤ o' ∧ ∀ iu, look tab u = some iu → WTy tab u ((ds.drop (o' - o)).take iu.size)
 | [], o, ht, _ => by
  have := Nat.eq_of_beq_eq_true ht
  subst this
  refine ⟨Nat.le_refl _, [], ?_, by simp, by simp⟩
  rw [List.drop_of_length_le (by omega)]
  trivial
 | (o1, u1) :: r, o, ht, h => by
  simp only [tile, Bool.and_eq_true] at ht
  obtain ⟨h1, h2⟩ := ht
  have := Nat.eq_of_beq_eq_true h1
  subst this
  split at h2
  ·rename_i iu hiu
   obtain ⟨ds1, ha1, hl1, hw1⟩ := h o u1 (by simp) iu hiu
   obtain ⟨hle, ds2, ha2, hl2, hw2⟩ := tile_rel cs hn r (o + iu.size) h2 (fun o' u hm => h o' u (by simp [hm]))
   refine ⟨by omega, ds1 ++ ds2, ?_, by simp; omega, fun o' u hm => ?_⟩
   ·have e : cs.drop o = (cs.drop o).take iu.size ++ cs.drop (o + iu.size) := by
     rw [← List.drop_drop, List.take_append_drop]
    rw [e]
    exact All2.append ha1 ha2
   ·rcases List.mem_cons.1 hm with e | e
    ·cases e
     refine ⟨Nat.le_refl _, fun iu' hiu' => ?_⟩
     rw [hiu] at hiu'; cases hiu'
     rw [Nat.sub_self, List.drop_zero, List.take_append_of_le_length (by omega), List.take_of_length_le (by omega)]
     exact hw1
    ·obtain ⟨k1, k2⟩ := hw2 o' u e
     refine ⟨by omega, fun iu' hiu' => ?_⟩
     have := k2 iu' hiu'
     rw [List.drop_append, List.drop_of_length_le (by omega), List.nil_append]
     rw [show o' - o - ds1.length = o' - (o + iu.size) by omega]
     exact this
  ·cases h2
theorem cells_at {a : Addr} {n : Nat} {cs : List Value} (hn : n ≠ 0) {k : Nat} (h : w.cells? 0 (a.add (k * n)) n = some cs) (hs : a.spot = none) : cs.length = n ∧ ∀ j v, cs[j]? = some v → w.cell? ⟨a.block, a.off + k * n + j, none⟩ = some v := by
 obtain ⟨_, h1, h2⟩ := World.cells?_some h
 refine ⟨h1, fun j v hv => ?_⟩
 have hj := (List.getElem?_eq_some_iff.1 hv).1
 have h3 := h2 j (by omega)
 rw [hv] at h3
 have e : (a.add (k * n)).add j = ⟨a.block, a.off + k * n + j, none⟩ := by
  obtain ⟨b, off, spot⟩ := a
  simp only at hs
  subst hs
  simp [add_none]
 rwa [e] at h3
theorem cell_lt {a : Addr} {v : Value} (h : w.cell? a = some v) : a.block < w.heap.size := by
 unfold World.cell? at h
 split at h
 ·rename_i hb
  exact (Array.getElem?_eq_some_iff.1 hb).1
 ·cases h
theorem read_trod (htab : tabCheck P tab = true) {ts : List Nat} (hts : readSet P tab ts = true) {sp : Nat → Bool} {hd : Bool} : ∀ (fuel : Nat) (t : Nat) (i : TI) (cs : List Value) (d : DataW H) (ps : List MemPlace),
  ts.contains t = true → look tab t = some i → DataW.trod enc P w 0 sp hd fuel t cs = some (d, ps) → (∀ n ∈ d.weights P t, n ≤ reachBytes) →
  ∃ ds, All2 (DRel (fun b => b < w.heap.size) w) cs ds ∧ ds.length = i.size ∧ WTy tab t ds
 | 0, t, i, cs, d, ps, _, _, h, _ => by simp [DataW.trod] at h
 | fuel + 1, t, i, cs, d, ps, hc, hi, h, hw => by
  have hti := tabOk_look htab hi
  obtain ⟨hsz, hby⟩ := tiok_size hti
  obtain ⟨desc, hu, htag, hdesc⟩ := tiok_desc hti
  have hrow : readRow P tab ts t = true := List.all_eq_true.1 hts t (List.contains_iff_mem.1 hc)
  unfold readRow at hrow
  rw [hi] at hrow
  simp only [Bool.and_eq_true] at hrow
  obtain ⟨hone0, hrow⟩ := hrow
  have hone : ∀ (tg : Nat), i.tag = tg → (tg = 1 ∨ tg = 2 ∨ tg = 3 ∨ tg = 4 ∨ tg = 5) → i.size = 1 := by
   intro tg h1 h2
   simp only [Bool.or_eq_true] at hone0
   rcases hone0 with h | h
   ·have := Nat.eq_of_beq_eq_true h; omega
   ·exact Nat.eq_of_beq_eq_true h
  cases desc with
  | bool =>
   obtain ⟨b, rfl, hx⟩ := DataW.trod_bool hu h
   exact ⟨[.bool b], ⟨.bool b, trivial⟩, (hone 1 htag.symm (by simp)).symm, .bool hi htag.symm⟩
  | int k =>
   obtain ⟨n, rfl, hx, hwf⟩ := DataW.trod_int hu h
   have ht2 : i.tag = 2 := htag.symm
   rw [ht2] at hrow
   simp only [hu] at hrow
   split at hrow
   ·rename_i k1 k2 n2 hk hz
    cases hk
    simp only [Bool.and_eq_true, decide_eq_true_eq] at hrow
    obtain ⟨rfl, rfl⟩ := hrow
    exact ⟨[.int _ n], ⟨.int _ n, trivial⟩, (hone 2 ht2 (by simp)).symm, .int hi ht2 hz hwf⟩
   ·cases hrow
  | string =>
   obtain ⟨s, rfl, hx, _⟩ := DataW.trod_string hu h
   simp only [Prod.mk.injEq] at hx
   obtain ⟨rfl, _⟩ := hx
   refine ⟨[.str s], ⟨.str s, trivial⟩, (hone 3 htag.symm (by simp)).symm, .str hi htag.symm ?_⟩
   have := hw s.data.toList.length (by simp [DataW.weights])
   simpa using this
  | slice e =>
   have ht4 : i.tag = 4 := htag.symm
   rw [ht4] at hrow
   simp only [Bool.and_eq_true] at hrow
   obtain ⟨hce, hsz0⟩ := hrow
   have he : e = i.elem := Nat.eq_of_beq_eq_true (by simpa [descOk] using hdesc)
   subst he
   split at hsz0
   ·rename_i ie hie
    have hne : ie.size ≠ 0 := fun h0 => by rw [h0] at hsz0; simp at hsz0
    have htie := tabOk_look htab hie
    obtain ⟨hsze, hbye⟩ := tiok_size htie
    rcases DataW.trod_slice hu h with ⟨rfl, hx⟩ | ⟨a, len, cap, elems, rest, n, hf, rfl, hx, _, hlc, hcm, hel, hat, _⟩
    ·have := WTy.slice (tab := tab) (es := []) hi ht4 hie (by simp) (by simp)
     exact ⟨[.slice ie.size []], ⟨.nilS _, trivial⟩, (hone 4 ht4 (by simp)).symm, this⟩
    ·cases hf
     simp only [Prod.mk.injEq] at hx
     obtain ⟨rfl, _⟩ := hx
     rw [hsze] at hat
     have hwb : (elems.length + rest.length) * ie.bytes ≤ reachBytes := by
      have := hw ((elems.length + rest.length) * P.bytesOf i.elem) (by simp [DataW.weights, hu])
      rwa [hbye] at this
     have hwe : ∀ x ∈ elems, ∀ m ∈ x.1.weights P i.elem, m ≤ reachBytes := fun x hx m hm => by
      refine hw m ?_
      simp only [DataW.weights, hu, List.mem_cons, List.mem_append]
      exact .inr (.inl (weights_all (List.mem_map.2 ⟨x, hx, rfl⟩) m hm))
     have hall : ∀ k, k < len → ∃ p : List Value × List D, (w.cells? 0 (a.add (k * ie.size)) ie.size = some p.1) ∧ All2 (DRel (fun b => b < w.heap.size) w) p.1 p.2 ∧ p.2.length = ie.size ∧ WTy tab i.elem p.2 := by
      intro k hk
      have h1 := hat k hk
      obtain ⟨x, hx⟩ : ∃ x, elems[k]? = some x := ⟨_, List.getElem?_eq_getElem (by omega)⟩
      rw [hx] at h1
      cases hcl : w.cells? 0 (a.add (k * ie.size)) ie.size with
      | none => rw [hcl] at h1; simp at h1
      | some us =>
       rw [hcl] at h1
       simp only [Option.bind_some] at h1
       obtain ⟨ds, g1, g2, g3⟩ := read_trod htab hts fuel i.elem ie us x.1 x.2 hce hie h1 (hwe x (List.mem_of_getElem? hx))
       exact ⟨(us, ds), rfl, g1, g2, g3⟩
     obtain ⟨l, hll, hlr⟩ := choose_list len hall
     have hes : ∀ (k : Nat) (e : List D), (l.map (·.2))[k]? = some e → ∃ us, l[k]? = some (us, e) := fun k e he => by
      simp only [List.getElem?_map, Option.map_eq_some_iff] at he
      obtain ⟨p, hp, rfl⟩ := he
      exact ⟨p.1, hp⟩
     have hlen : (l.map (·.2)).length = len := by simp [hll]
     have hsp : l ≠ [] → a.spot = none := by
      intro hne'
      cases l with
      | nil => exact absurd rfl hne'
      | cons p r =>
       obtain ⟨g1, g2, g3, _⟩ := hlr 0 p rfl
       obtain ⟨_, c1, c2⟩ := World.cells?_some g1
       have c3 := c2 0 (by omega)
       cases hp0 : p.1[0]? with
       | none => simp at hp0; rw [hp0] at c1; simp at c1; omega
       | some v =>
        rw [hp0] at c3
        have e : (a.add (0 * ie.size)).add 0 = a := by simp [Addr.add]
        rw [e] at c3
        exact World.cell?_spot c3
     refine ⟨[.slice ie.size (l.map (·.2))], ⟨?_, trivial⟩, (hone 4 ht4 (by simp)).symm, ?_⟩
     ·cases hl0 : l with
      | nil =>
       rw [hl0] at hll
       simp at hll
       subst hll
       exact .emptyS a cap ie.size hcm
      | cons p r =>
       rw [← hl0]
       have hnn : l ≠ [] := by rw [hl0]; simp
       have hs := hsp hnn
       obtain ⟨b, off, spot⟩ := a
       simp only at hs
       subst hs
       have key := DRel.slice (F := fun b => b < w.heap.size) (w := w) b off cap ie.size (l.map (·.2)) (fun k j => ((l.getD k ([], [])).1).getD j undef) ?_ (by rw [hlen]; exact hlc) hcm ?_ ?_ ?_
       ·rw [hlen] at key; exact key
       ·intro _
        obtain ⟨g1, g2, g3, _⟩ := hlr 0 p (by rw [hl0]; rfl)
        obtain ⟨c1, c2⟩ := cells_at hne g1 rfl
        obtain ⟨v, hv⟩ : ∃ v, p.1[0]? = some v := ⟨_, List.getElem?_eq_getElem (by omega)⟩
        exact cell_lt (c2 0 v hv)
       ·intro e he
        obtain ⟨k, hk⟩ := List.getElem?_of_mem he
        obtain ⟨us, hus⟩ := hes k e hk
        exact (hlr k _ hus).2.2.1
       ·intro k e j x he hx
        obtain ⟨us, hus⟩ := hes k e he
        obtain ⟨g1, g2, g3, _⟩ := hlr k _ hus
        obtain ⟨c1, c2⟩ := cells_at hne g1 rfl
        obtain ⟨v, hv, hr⟩ := All2.get g2 hx
        have e1 : l.getD k ([], []) = (us, e) := by simp [hus]
        simp only [e1]
        have e2 : us.getD j undef = v := by rw [List.getD_eq_getElem?_getD, hv]; rfl
        rw [e2]
        exact c2 j v hv
       ·intro k e j x he hx
        obtain ⟨us, hus⟩ := hes k e he
        obtain ⟨g1, g2, g3, _⟩ := hlr k _ hus
        obtain ⟨v, hv, hr⟩ := All2.get g2 hx
        have e1 : l.getD k ([], []) = (us, e) := by simp [hus]
        simp only [e1]
        have e2 : us.getD j undef = v := by rw [List.getD_eq_getElem?_getD, hv]; rfl
        rw [e2]
        exact hr
     ·refine .slice hi ht4 hie (fun e he => ?_) ?_
      ·obtain ⟨k, hk⟩ := List.getElem?_of_mem he
       obtain ⟨us, hus⟩ := hes k e hk
       exact (hlr k _ hus).2.2.2
      ·rw [hlen, ← hel]
       refine Nat.le_trans (Nat.mul_le_mul_right _ ?_) hwb
       omega
   ·cases hsz0
  | pointer e =>
   have ht5 : i.tag = 5 := htag.symm
   rw [ht5] at hrow
   simp only [Bool.and_eq_true] at hrow
   obtain ⟨hce, hsz0⟩ := hrow
   have he : e = i.elem := Nat.eq_of_beq_eq_true (by simpa [descOk] using hdesc)
   subst he
   split at hsz0
   ·rename_i ie hie
    have hne : ie.size ≠ 0 := fun h0 => by rw [h0] at hsz0; simp at hsz0
    have htie := tabOk_look htab hie
    obtain ⟨hsze, hbye⟩ := tiok_size htie
    rcases DataW.trod_pointer hu h with ⟨rfl, hx⟩ | ⟨a, us, y, n, hf, rfl, hx, hcl, hy⟩
    ·exact ⟨[.nilptr], ⟨.nilptr, trivial⟩, (hone 5 ht5 (by simp)).symm, .nilptr hi ht5⟩
    ·cases hf
     simp only [Prod.mk.injEq] at hx
     obtain ⟨rfl, _⟩ := hx
     rw [hsze] at hcl
     obtain ⟨ds, g1, g2, g3⟩ := read_trod htab hts fuel i.elem ie us y.1 y.2 hce hie hy (fun m hm => hw m (by simpa [DataW.weights, hu] using hm))
     have hcl' : w.cells? 0 (a.add (0 * ie.size)) ie.size = some us := by simpa [Addr.add] using hcl
     have hs : a.spot = none := by
      obtain ⟨_, c1, c2⟩ := World.cells?_some hcl
      have c3 := c2 0 (by omega)
      obtain ⟨v, hv⟩ : ∃ v, us[0]? = some v := ⟨_, List.getElem?_eq_getElem (by omega)⟩
      rw [hv] at c3
      exact World.cell?_spot (by simpa [Addr.add] using c3)
     obtain ⟨c1, c2⟩ := cells_at hne hcl' hs
     obtain ⟨b, off, spot⟩ := a
     simp only at hs
     subst hs
     refine ⟨[.ptr ds 0], ⟨?_, trivial⟩, (hone 5 ht5 (by simp)).symm, .ptr hi ht5 hie g3⟩
     have key := DRel.ptr (F := fun b => b < w.heap.size) (w := w) b off 0 ds (fun j => us.getD j undef) ?_ ?_ ?_
     ·simpa using key
     ·obtain ⟨v, hv⟩ : ∃ v, us[0]? = some v := ⟨_, List.getElem?_eq_getElem (by omega)⟩
      exact cell_lt (c2 0 v hv)
     ·intro j x hx
      obtain ⟨v, hv, hr⟩ := All2.get g1 hx
      have e2 : us.getD j undef = v := by rw [List.getD_eq_getElem?_getD, hv]; rfl
      have := c2 j v hv
      rw [e2]
      simpa using this
     ·intro j x hx
      obtain ⟨v, hv, hr⟩ := All2.get g1 hx
      have e2 : us.getD j undef = v := by rw [List.getD_eq_getElem?_getD, hv]; rfl
      rw [e2]
      exact hr
   ·cases hsz0
  | struct fs =>
   have ht6 : i.tag = 6 := htag.symm
   rw [ht6] at hrow
   simp only [Bool.and_eq_true] at hrow
   obtain ⟨htile, hfc⟩ := hrow
   obtain ⟨xs, n, hf, hx, hl, hxl, hat⟩ := DataW.trod_struct hu h
   cases hf
   simp only [Prod.mk.injEq] at hx
   obtain ⟨rfl, _⟩ := hx
   have hfo : fieldsOk P fs.toList i.fields = true := hdesc
   obtain ⟨ft, fl, fa⟩ := fieldsOk_types hfo
   have hln : cs.length = i.size := by rw [hl, hsz]
   obtain ⟨_, ds, g1, g2, g3⟩ := tile_rel (R := DRel (fun b => b < w.heap.size) w) cs hln i.fields 0 htile (fun o u hm iu hiu => by
    obtain ⟨k, hk⟩ := List.getElem?_of_mem hm
    have hkl := (List.getElem?_eq_some_iff.1 hk).1
    obtain ⟨f, hfk⟩ : ∃ f, fs.toList[k]? = some f := ⟨_, List.getElem?_eq_getElem (by omega)⟩
    obtain ⟨e1, e2⟩ := fa k f o u hfk hk
    have h1 := hat k f (by simpa using hfk)
    obtain ⟨x, hx⟩ : ∃ x, xs[k]? = some x := ⟨_, List.getElem?_eq_getElem (by rw [hxl]; simp at fl; omega)⟩
    rw [hx, e1, e2, (tiok_size (tabOk_look htab hiu)).1] at h1
    refine read_trod htab hts fuel u iu _ x.1 x.2 ?_ hiu h1 (fun m hm' => hw m ?_)
    ·have := List.all_eq_true.1 hfc (o, u) hm
     exact this
    ·simp only [DataW.weights, hu]
     refine DataW.weights_mem_each (j := k) (t := u) (d := x.1) ?_ ?_ m hm'
     ·rw [ft]; simp [hk]
     ·simp [hx])
   refine ⟨ds, by simpa using g1, by simpa using g2, .struct hi ht6 (by simpa using g2) (fun o u hm iu hiu => ?_)⟩
   have := (g3 o u hm).2 iu hiu
   simpa using this
  | _ => simp [descTag] at htag; rw [← htag] at hrow; simp at hrow
end
def invP (tab : Tab) (i : TI) (ds : List D) : Prop :=
 (i.tag = 1 ∧ ∃ b, ds = [.bool b]) ∨ (i.tag = 2 ∧ ∃ k n, i.zero = [.d (.int k 0)] ∧ ds = [.int k n] ∧ (Lit.int k n).wf = true) ∨ (i.tag = 3 ∧ ∃ s, ds = [.str s] ∧ s.size ≤ reachBytes) ∨
 (i.tag = 4 ∧ ∃ ie es, look tab i.elem = some ie ∧ ds = [.slice ie.size es] ∧ (∀ e ∈ es, WTy tab i.elem e) ∧ es.length * ie.bytes ≤ reachBytes) ∨
 (i.tag = 5 ∧ (ds = [.nilptr] ∨ ∃ e, ds = [.ptr e 0] ∧ WTy tab i.elem e)) ∨
 (i.tag = 6 ∧ ds.length = i.size ∧ ∀ o u, (o, u) ∈ i.fields → ∀ iu, look tab u = some iu → WTy tab u ((ds.drop o).take iu.size))
theorem WTy.inv {tab : Tab} {t : Nat} {ds : List D} {i : TI} (h : WTy tab t ds) (hi : look tab t = some i) : invP tab i ds := by
 unfold invP
 cases h with
 | bool h1 h2 => rw [h1] at hi; cases hi; exact .inl ⟨h2, _, rfl⟩
 | int h1 h2 h3 h4 => rw [h1] at hi; cases hi; exact .inr (.inl ⟨h2, _, _, h3, rfl, h4⟩)
 | str h1 h2 h3 => rw [h1] at hi; cases hi; exact .inr (.inr (.inl ⟨h2, _, rfl, h3⟩))
 | slice h1 h2 h3 h4 h5 => rw [h1] at hi; cases hi; exact .inr (.inr (.inr (.inl ⟨h2, _, _, h3, rfl, h4, h5⟩)))
 | nilptr h1 h2 => rw [h1] at hi; cases hi; exact .inr (.inr (.inr (.inr (.inl ⟨h2, .inl rfl⟩))))
 | ptr h1 h2 h3 h4 => rw [h1] at hi; cases hi; exact .inr (.inr (.inr (.inr (.inl ⟨h2, .inr ⟨_, rfl, h4⟩⟩))))
 | struct h1 h2 h3 h4 => rw [h1] at hi; cases hi; exact .inr (.inr (.inr (.inr (.inr ⟨h2, h3, h4⟩))))
section
variable {tab : Tab} {t : Nat} {ds : List D} {i : TI}
theorem WTy.bool_inv (h : WTy tab t ds) (hi : look tab t = some i) (ht : i.tag = 1) : ∃ b, ds = [.bool b] := by
 rcases h.inv hi with h | h | h | h | h | h
 ·exact h.2
 all_goals (have := h.1; omega)
theorem WTy.int_inv {k : IntKind} (h : WTy tab t ds) (hi : look tab t = some i) (ht : i.tag = 2) (hz : i.zero = [.d (.int k 0)]) : ∃ n, ds = [.int k n] ∧ (Lit.int k n).wf = true := by
 rcases h.inv hi with h | h | h | h | h | h
 case inr.inl =>
  obtain ⟨_, k', n, hz', hd, hr⟩ := h
  rw [hz] at hz'; cases hz'
  exact ⟨n, hd, hr⟩
 all_goals (have := h.1; omega)
theorem WTy.str_inv (h : WTy tab t ds) (hi : look tab t = some i) (ht : i.tag = 3) : ∃ s, ds = [.str s] ∧ s.size ≤ reachBytes := by
 rcases h.inv hi with h | h | h | h | h | h
 case inr.inr.inl => exact h.2
 all_goals (have := h.1; omega)
theorem WTy.slice_inv {ie : TI} (h : WTy tab t ds) (hi : look tab t = some i) (ht : i.tag = 4) (hie : look tab i.elem = some ie) : ∃ es, ds = [.slice ie.size es] ∧ (∀ e ∈ es, WTy tab i.elem e) ∧ es.length * ie.bytes ≤ reachBytes := by
 rcases h.inv hi with h | h | h | h | h | h
 case inr.inr.inr.inl =>
  obtain ⟨_, ie', es, h1, h2, h3, h4⟩ := h
  rw [hie] at h1; cases h1
  exact ⟨es, h2, h3, h4⟩
 all_goals (have := h.1; omega)
theorem WTy.ptr_inv (h : WTy tab t ds) (hi : look tab t = some i) (ht : i.tag = 5) : ds = [.nilptr] ∨ ∃ e, ds = [.ptr e 0] ∧ WTy tab i.elem e := by
 rcases h.inv hi with h | h | h | h | h | h
 case inr.inr.inr.inr.inl => exact h.2
 all_goals (have := h.1; omega)
theorem WTy.struct_inv (h : WTy tab t ds) (hi : look tab t = some i) (ht : i.tag = 6) : ds.length = i.size ∧ ∀ o u, (o, u) ∈ i.fields → ∀ iu, look tab u = some iu → WTy tab u ((ds.drop o).take iu.size) := by
 rcases h.inv hi with h | h | h | h | h | h
 case inr.inr.inr.inr.inr => exact h.2
 all_goals (have := h.1; omega)
end
theorem list_of {α : Type} {f : α → List D} : ∀ {es : List (List D)}, (∀ e ∈ es, ∃ a, e = f a) → ∃ l : List α, es = l.map f
 | [], _ => ⟨[], rfl⟩
 | e :: es, h => by
  obtain ⟨a, ha⟩ := h e (by simp)
  obtain ⟨l, hl⟩ := list_of (es := es) (fun e he => h e (by simp [he]))
  exact ⟨a :: l, by simp [ha, hl]⟩
end Go.Ab
