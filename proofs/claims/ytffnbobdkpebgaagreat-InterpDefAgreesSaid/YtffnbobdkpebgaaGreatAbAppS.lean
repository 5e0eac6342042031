/- The abstract machine: append to a part of a row of the call's own. -/
import Derived.Test.YtffnbobdkpebgaaGreatAbApp2
set_option linter.unusedVariables false
namespace Go.Ab
open Go.RowKit
structure AppS (S : World) (ρ0 : Map) (F : Nat → Prop) (T s id : Nat) (R : List (List D)) (k0 : C) (v' : Value) (w' : World) : Prop where
 os : w'.os = S.os
 tape : w'.tape = S.tape
 output : w'.output = S.output
 size : S.heap.size ≤ w'.heap.size
 val : (w' = S ∧ ∀ (ρ : Map) H, look H id = some (.row T s R) → CRel ρ F w' H v' k0) ∨ ∃ (g : Nat) (c : List Value), w'.heap[g]? = some (.cells c.toArray T (0, 0)) ∧ R.length * s ≤ c.length ∧ Holds F S s 0 c R ∧
  (g = S.heap.size ∨ ∃ N, ρ0 id = some (g, N)) ∧ (∀ k, k ≠ g → k < S.heap.size → w'.heap[k]? = S.heap[k]?) ∧ ∀ (ρ : Map) H, ρ id = some (g, c.length) → look H id = some (.row T s R) → CRel ρ F w' H v' k0
theorem SRel.appendS {S : Nat → Prop} {ρ : Map} {F : Nat → Prop} {σ : St} {a : Act} {w w' : World} (h : SRel S ρ F σ a w) {id T s : Nat} {v' : Value} {R : List (List D)} {k0 : C} (hA : AppS w ρ F T s id R k0 v' w') :
  ∃ ρ', SRel S ρ' F ((σ.kill (only id)).add [(id, .row T s R)]) a w' ∧ ARel ρ' F w' ((id, .row T s R) :: (σ.kill (only id)).h) v' (.s (.c k0)) ∧ Keep S w w' ∧ ∀ k x, k ≠ id → ρ k = some x → ρ' k = some x := by
 have hk := h.kill (p := only id)
 have hself : look ((id, Ob.row T s R) :: (σ.kill (only id)).h) id = some (.row T s R) := by simp [look]
 have hnone : look (σ.kill (only id)).h id = none := look_killH_none (only_self id)
 have hother : ∀ k, k ≠ id → look ((id, Ob.row T s R) :: (σ.kill (only id)).h) k = look (σ.kill (only id)).h k := fun k hk => by
  have : Nat.beq id k = false := only_ne (Ne.symm hk)
  simp [look, this]
 have hsub : Sub (σ.kill (only id)).h ((id, .row T s R) :: (σ.kill (only id)).h) := fun k o hl => by
  by_cases e : k = id
  ·subst e; rw [hnone] at hl; cases hl
  ·rw [hother k e]; exact hl
 have hcut : ∀ k x, cut (only id) ρ k = some x → k ≠ id ∧ ρ k = some x := fun k x hx => by
  obtain ⟨h1, h2⟩ := cut_some hx
  exact ⟨fun e => (by subst e; rw [only_self] at h1; cases h1), h2⟩
 rcases hA.val with ⟨hw, hv⟩ | ⟨g, c, hg, hle, hh, hwho, hrest, hv⟩
 ·subst hw
  refine ⟨cut (only id) ρ, ⟨hk.ok, hk.size, fun t => ARel.mono (fun _ _ h => h) (fun _ h => h) (fun _ _ => rfl) hsub (hk.tmp t), fun k b N hkb o ho => ?_, fun k x hx => ?_, hk.defers⟩, hv _ _ hself, Keep.refl _ _, fun k x hk hx => by
  have hp : only id k = false := only_ne hk
  simp only [cut, hp, cond_false, hx]⟩
  ·have hne := (hcut k _ hkb).1
   have ho' : look ((id, Ob.row T s R) :: (σ.kill (only id)).h) k = some o := ho
   rw [hother k hne] at ho'
   exact ORel.mono (fun _ _ h => h) (fun _ h => h) (fun _ _ => rfl) hsub rfl (hk.obj k b N hkb o ho')
  ·obtain ⟨o, ho⟩ := hk.dom k x hx
   exact ⟨o, hsub _ _ ho⟩
 ·have hgS : ¬ S g := by
   rcases hwho with rfl | hwho
   ·intro hS; have := h.ok.keep _ hS; omega
   ·obtain ⟨N, hN⟩ := hwho; exact (h.ok.own id g N hN).2.1
  have hgF : ¬ F g := by
   rcases hwho with rfl | hwho
   ·intro hS; have := h.ok.comm _ hS; omega
   ·obtain ⟨N, hN⟩ := hwho; exact (h.ok.own id g N hN).2.2
  have hgb : ∀ k b N, cut (only id) ρ k = some (b, N) → b ≠ g := fun k b N hkb e => by
   subst e
   obtain ⟨hne, hk'⟩ := hcut k _ hkb
   rcases hwho with rfl | hwho
   ·have := (h.ok.own k _ N hk').1; omega
   ·obtain ⟨M, hM⟩ := hwho; exact hne (h.ok.inj k id b N M hk' hM)
  have hglt : g < w'.heap.size := (Array.getElem?_eq_some_iff.1 hg).1
  have hFw : ∀ b, F b → w'.heap[b]? = w.heap[b]? := fun b hb => hrest b (fun e => hgF (e ▸ hb)) (h.ok.comm b hb)
  have hKeep : Keep S w w' := ⟨hA.os, hA.tape, hA.output, hA.size, fun b hb => hrest b (fun e => hgS (e ▸ hb)) (h.ok.keep b hb)⟩
  let ρ' : Map := fun k => if k = id then some (g, c.length) else cut (only id) ρ k
  have hρ : ∀ k x, cut (only id) ρ k = some x → ρ' k = some x := fun k x hx => by simp only [ρ', if_neg (hcut k x hx).1, hx]
  have hρ' : ∀ k x, ρ' k = some x → (k = id ∧ x = (g, c.length)) ∨ cut (only id) ρ k = some x := fun k x hx => by
   simp only [ρ'] at hx
   split at hx
   ·left; cases hx; exact ⟨by assumption, rfl⟩
   ·exact .inr hx
  refine ⟨ρ', ⟨⟨h.ok.glob.mono (fun _ h => h) hFw, fun b hb => Nat.lt_of_lt_of_le (h.ok.keep b hb) hA.size, fun b hb => Nat.lt_of_lt_of_le (h.ok.comm b hb) hA.size, fun k b N hkb => ?_, fun i j b N M hi hj => ?_⟩, hk.size, fun t => ARel.mono hρ (fun _ h => h) hFw hsub (hk.tmp t), fun k b N hkb o ho => ?_, fun k x hx => ?_, hk.defers⟩,
   hv ρ' _ (by simp only [ρ', if_true]) hself, hKeep, fun k x hk hx => hρ k x (by
  have hp : only id k = false := only_ne hk
  simp only [cut, hp, cond_false, hx])⟩
  ·rcases hρ' k _ hkb with ⟨rfl, h2⟩ | h2
   ·cases h2; exact ⟨hglt, hgS, hgF⟩
   ·obtain ⟨h3, h4, h5⟩ := hk.ok.own k b N h2
    exact ⟨Nat.lt_of_lt_of_le h3 hA.size, h4, h5⟩
  ·rcases hρ' i _ hi with ⟨rfl, h2⟩ | h2 <;> rcases hρ' j _ hj with ⟨rfl, h3⟩ | h3
   ·rfl
   ·cases h2; exact absurd rfl (hgb j _ _ h3)
   ·cases h3; exact absurd rfl (hgb i _ _ h2)
   ·exact hk.ok.inj i j b N M h2 h3
  ·have ho' : look ((id, Ob.row T s R) :: (σ.kill (only id)).h) k = some o := ho
   rcases hρ' k _ hkb with ⟨rfl, h2⟩ | h2
   ·cases h2
    rw [hself] at ho'; cases ho'
    refine ⟨c, hg, rfl, hle, hh.1, fun i e j x hi hj => ?_⟩
    obtain ⟨u, hu, hd⟩ := hh.2 i e j x hi hj
    rw [Nat.zero_add] at hu
    exact ⟨u, hu, DRel.mono (fun _ h => h) hFw hd⟩
   ·rw [hother k (hcut k _ h2).1] at ho'
    exact ORel.mono hρ (fun _ h => h) hFw hsub (hrest b (hgb k b N h2) (hk.ok.own k b N h2).1) (hk.obj k b N h2 o ho')
  ·rcases hρ' k _ hx with ⟨rfl, _⟩ | h2
   ·exact ⟨_, hself⟩
   ·obtain ⟨o, ho⟩ := hk.dom k x h2
    exact ⟨o, hsub _ _ ho⟩
theorem run_append_room_off {P : Program} (w : World) (t ty e : TypeId) (i : TypeInfo) (ht : P.underlying t = some (.slice e)) (hi : P.info? e = some i)
  (g off sLen sCap : Nat) (cur : Array Value) (hg : w.heap[g]? = some (.cells cur e (0, 0)))
  (a : Addr) (m c : Nat) (news : List Value) (hl : news.length = m * i.size) (hnews : ∀ j u, news[j]? = some u → w.cell? (a.add j) = some u) (h1 : ∀ u ∈ news, u.oneCell' = true)
  (hroom : sLen + m ≤ sCap) (hfit : off + sLen * i.size + news.length ≤ cur.size) :
  (Builtin.append_ #[t, t] ty #[.slice (some ⟨g, off, none⟩) sLen sCap, .slice (some a) m c]).run P w =
   .ok (.slice (some ⟨g, off, none⟩) (sLen + m) sCap) (w.setRow g (cur.toList.take (off + sLen * i.size) ++ news ++ cur.toList.drop (off + sLen * i.size + news.length)).toArray) := by
 have hf := run_firstCells_some (P := P) w i.size m a m c news hl hnews
 have hst := run_storeCells_at P g (off + sLen * i.size) e news 0 cur w hg (by simpa using hfit) h1
 simp only [Nat.add_zero] at hst
 simp [Builtin.append_, run_underlying ht, sizeOf, typeInfo, hi, Builtin.lenOf, hroom, hf, Addr.add_lit, hst]
theorem holds_take {F : Nat → Prop} {w : World} {s : Nat} {xs : List Value} {es : List (List D)} (h : Holds F w s 0 xs es) (n : Nat) : Holds F w s 0 xs (es.take n) :=
 ⟨fun e he => h.1 e (List.mem_of_mem_take he), fun i e j x hi hj => h.2 i e j x (by rw [List.getElem?_take] at hi; split at hi; exact hi; cases hi) hj⟩
theorem holds_drop {F : Nat → Prop} {w : World} {s : Nat} {xs : List Value} {es : List (List D)} (h : Holds F w s 0 xs es) (n : Nat) : Holds F w s 0 (xs.drop (n * s)) (es.drop n) := by
 refine ⟨fun e he => h.1 e (List.mem_of_mem_drop he), fun i e j x hi hj => ?_⟩
 rw [List.getElem?_drop] at hi
 obtain ⟨v, hv, hd⟩ := h.2 (n + i) e j x hi hj
 refine ⟨v, ?_, hd⟩
 rw [List.getElem?_drop]
 rw [Nat.zero_add, Nat.add_mul] at hv
 rw [Nat.zero_add, ← Nat.add_assoc]
 exact hv
theorem run_append_sub {P : Program} {t ty : Nat} {i ie : TI} (hi : TIOk P t i) (htag : i.tag = 4) (he : TIOk P i.elem ie) {ρ : Map} {F : Nat → Prop} {w : World} {H : Heap} {v u : Value} {id st n : Nat} {es es2 : List (List D)}
  (hh : HRel ρ F w H) (hl : look H id = some (.row i.elem ie.size es)) (hv : CRel ρ F w H v (.sub id ie.size st n)) (hu : Src F w u ie.size es2) (hmax : n + es2.length ≤ maxLen) (hby : (n + es2.length) * ie.bytes ≤ 140737488355328) :
  ∃ v' w' pre, (Builtin.append_ #[t, t] ty #[v, u]).run P w = .ok v' w' ∧ AppS w ρ F i.elem ie.size id (pre ++ ((es.drop st).take n ++ es2)) (.sub id ie.size pre.length (n + es2.length)) v' w' := by
 have ht := hi.slice htag
 obtain ⟨inf, d, hinf, _, hsz, hbytes, _, _, ⟨z, hz, hzz⟩, _⟩ := he.info
 have hzl : z.cells.size = ie.size := by
  have h1 := All2.length (zrels_crel (ρ := fun _ => none) (F := F) (w := w) (H := []) hzz)
  have h2 := he.zlen
  simp at h1; omega
 have hzt : ∀ n, (Builtin.zeroCells z.cells n).toList.length = n * ie.size := fun n => by rw [Array.length_toList, size_zeroCells, hzl]
 have hmax' : n + es2.length ≤ 9223372036854775807 := by unfold maxLen at hmax; omega
 obtain ⟨T', es', hl', hlen, hv⟩ := hv
 rw [hl] at hl'; cases hl'
 have hmid : ((es.drop st).take n).length = n := by simp; omega
 have hpre : (es.take st).length = st := by simp; omega
 have keep : (Builtin.append_ #[t, t] ty #[v, u]).run P w = .ok v w → es2 = [] → ∃ v' w' pre, (Builtin.append_ #[t, t] ty #[v, u]).run P w = .ok v' w' ∧ AppS w ρ F i.elem ie.size id (pre ++ ((es.drop st).take n ++ es2)) (.sub id ie.size pre.length (n + es2.length)) v' w' := by
  intro hr h0
  subst h0
  rcases hv with ⟨rfl, rfl⟩ | ⟨hst, rfl, b, o, rfl⟩ | ⟨b, N, cap, hb, rfl, hcap, hcm, hN⟩
  ·exact ⟨_, _, [], hr, rfl, rfl, rfl, Nat.le_refl _, .inl ⟨rfl, fun ρ' H' hl2 => ⟨_, _, hl2, by simp, .inl ⟨rfl, rfl⟩⟩⟩⟩
  ·exact ⟨_, _, es.take st, hr, rfl, rfl, rfl, Nat.le_refl _, .inl ⟨rfl, fun ρ' H' hl2 => ⟨_, _, hl2, by simp, .inr (.inl ⟨by rw [hpre]; exact hst, rfl, b, o, rfl⟩)⟩⟩⟩
  ·obtain ⟨c, hc, hcn, hle, hd⟩ := hh id b N hb _ hl
   have hd0 : Holds F w ie.size 0 c es := ⟨hd.1, fun i e j x hi hj => by rw [Nat.zero_add]; exact hd.2 i e j x hi hj⟩
   have e1 : es.take st ++ ((es.drop st).take n ++ []) = es.take (st + n) := by rw [List.append_nil, List.take_add]
   refine ⟨_, _, es.take st, hr, rfl, rfl, rfl, Nat.le_refl _, .inr ⟨b, c, hc, ?_, ?_, .inr ⟨N, hb⟩, fun _ _ _ => rfl, fun ρ' H' hρ' hl2 => ⟨_, _, hl2, ?_, .inr (.inr ⟨b, c.length, cap, hρ', ?_, ?_, hcm, ?_⟩)⟩⟩⟩
   ·rw [e1]; exact Nat.le_trans (Nat.mul_le_mul_right _ (by rw [List.length_take]; exact Nat.min_le_right _ _)) (by rw [hcn]; exact hle)
   ·rw [e1]; exact holds_take hd0 _
   ·simp; omega
   ·rw [hpre]; simp
   ·simpa using hcap
   ·rw [hpre, hN, hcn]
 have grow : ∀ (olds xs : List Value) (k cap : Nat) (v' : Value) (w' : World), olds.length = n * ie.size → xs.length = es2.length * ie.size → Holds F w ie.size 0 olds ((es.drop st).take n) → Holds F w ie.size 0 xs es2 →
   n + es2.length ≤ cap → cap ≤ maxLen → v' = .slice (some ⟨w.heap.size, 0, none⟩) (n + es2.length) cap → w' = w.drew.alloc (.cells (olds.toArray ++ xs.toArray ++ Builtin.zeroCells z.cells (cap - (n + es2.length))) i.elem) →
   (Builtin.append_ #[t, t] ty #[v, u]).run P w = .ok v' w' → ∃ v' w' pre, (Builtin.append_ #[t, t] ty #[v, u]).run P w = .ok v' w' ∧ AppS w ρ F i.elem ie.size id (pre ++ ((es.drop st).take n ++ es2)) (.sub id ie.size pre.length (n + es2.length)) v' w' := by
  intro olds xs k cap v' w' hol hxl hho hhx hcap hcm hv' hw' hr
  subst hv'; subst hw'
  have hcl : (olds ++ xs ++ (Builtin.zeroCells z.cells (cap - (n + es2.length))).toList).length = cap * ie.size := by
   rw [List.length_append, List.length_append, hzt, hol, hxl, ← Nat.add_mul, ← Nat.add_mul]; congr 1; omega
  refine ⟨_, _, [], hr, rfl, rfl, rfl, by simp, .inr ⟨w.heap.size, olds ++ xs ++ (Builtin.zeroCells z.cells (cap - (n + es2.length))).toList, ?_, ?_, ?_, .inl rfl, fun k hk hlt => alloc_old w.drew _ k hlt, fun ρ' H' hρ' hl2 => ⟨_, _, hl2, ?_, .inr (.inr ⟨w.heap.size, _, cap, hρ', ?_, hcap, hcm, ?_⟩)⟩⟩⟩
  ·have := _root_.Go.heap_alloc_new w.drew (.cells (olds.toArray ++ xs.toArray ++ Builtin.zeroCells z.cells (cap - (n + es2.length))) i.elem)
   rw [show w.heap.size = w.drew.heap.size from rfl, this]
   congr 2
   apply Array.ext'; simp
  ·rw [hcl, List.nil_append, List.length_append, hmid]; exact Nat.mul_le_mul_right _ hcap
  ·have := holds_app (F := F) (w := w) (s := ie.size) (xs := olds) (ys := xs) (rest := (Builtin.zeroCells z.cells (cap - (n + es2.length))).toList) hho (by rw [hmid, hol]; exact Nat.le_refl _) hhx
   rw [hmid, ← hol, List.take_length] at this
   exact this
  ·simp; omega
  ·simp
  ·rw [hcl]; simp
 rcases hu with ⟨rfl, rfl⟩ | ⟨ad, ucap, xs, rfl, hxl, hxc, hx1, hxh⟩
 ·refine keep ?_ rfl
  rcases hv with ⟨rfl, rfl⟩ | ⟨hst, rfl, b, o, rfl⟩ | ⟨b, N, cap, hb, rfl, hcap, hcm, hN⟩
  ·simp [Builtin.append_, run_underlying ht, sizeOf, typeInfo, hinf, Builtin.lenOf, Builtin.firstCells]
  ·simp [Builtin.append_, run_underlying ht, sizeOf, typeInfo, hinf, Builtin.lenOf, Builtin.firstCells, storeCells]
  ·simp [Builtin.append_, run_underlying ht, sizeOf, typeInfo, hinf, Builtin.lenOf, Builtin.firstCells, hcap, storeCells]
 ·by_cases hm : es2.length = 0
  ·have h0 : es2 = [] := List.eq_nil_of_length_eq_zero hm
   subst h0
   refine keep ?_ rfl
   rcases hv with ⟨rfl, rfl⟩ | ⟨hst, rfl, b, o, rfl⟩ | ⟨b, N, cap, hb, rfl, hcap, hcm, hN⟩
   ·simp [Builtin.append_, run_underlying ht, sizeOf, typeInfo, hinf, Builtin.lenOf, Builtin.firstCells, loadCells, loadCellsFrom]
   ·simp [Builtin.append_, run_underlying ht, sizeOf, typeInfo, hinf, Builtin.lenOf, Builtin.firstCells, loadCells, loadCellsFrom, storeCells]
   ·simp [Builtin.append_, run_underlying ht, sizeOf, typeInfo, hinf, Builtin.lenOf, Builtin.firstCells, hcap, loadCells, loadCellsFrom, storeCells]
  ·rcases hv with ⟨rfl, rfl⟩ | ⟨hst, rfl, b, o, rfl⟩ | ⟨b, N, cap, hb, rfl, hcap, hcm, hN⟩
   ·simp only [Nat.zero_add] at hmax hby hmax'
    have hr := run_append_nil (P := P) w t ty i.elem inf z ht hinf hz ad es2.length ucap xs (by rw [hsz]; exact hxl) hxc (by omega) (by omega) (by rw [hbytes]; omega)
    refine grow [] xs 0 (grownCap w es2.length 0 i.elem) _ _ (by simp) hxl ⟨by simp, by simp⟩ hxh (by simpa using grownCap_ge w es2.length 0 i.elem) (grownCap_le_maxLen w es2.length 0 i.elem hmax) ?_ ?_ hr
    ·simp
    ·simp
   ·simp only [Nat.zero_add] at hmax hby hmax'
    have hr := run_append_grow (P := P) w t ty i.elem inf z ht hinf hz ⟨b, o, none⟩ 0 0 [] (by simp) (by simp) ad es2.length ucap xs (by rw [hsz]; exact hxl) hxc (by omega) (by omega) (growslice_fits (by omega) (by rw [hbytes]; simpa using hby))
    refine grow [] xs 0 (grownCap w (0 + es2.length) 0 i.elem) _ _ (by simp) hxl ⟨by simp, by simp⟩ hxh (by simpa using grownCap_ge w (0 + es2.length) 0 i.elem) (grownCap_le_maxLen w _ 0 i.elem (by simpa using hmax)) ?_ ?_ hr
    ·simp
    ·simp
   ·obtain ⟨c, hc, hcn, hle, hd⟩ := hh id b N hb _ hl
    have hd0 : Holds F w ie.size 0 c es := ⟨hd.1, fun i e j x hi hj => by rw [Nat.zero_add]; exact hd.2 i e j x hi hj⟩
    have hcl : c.length = (st + cap) * ie.size := by rw [hcn, hN]
    by_cases hroom : n + es2.length ≤ cap
    ·have hfit : st * ie.size + n * ie.size + xs.length ≤ c.length := by
      rw [hxl, ← Nat.add_mul, ← Nat.add_mul, hcl]; exact Nat.mul_le_mul_right _ (by omega)
     have hr := run_append_room_off (P := P) w t ty i.elem inf ht hinf b (st * ie.size) n cap c.toArray hc ad es2.length ucap xs (by rw [hsz]; exact hxl) hxc hx1 hroom (by rw [hsz]; simpa using hfit)
     rw [hsz, ← Nat.add_mul] at hr
     rw [← Nat.add_mul] at hfit
     have e1 : es.take st ++ ((es.drop st).take n ++ es2) = es.take (st + n) ++ es2 := by rw [← List.append_assoc, List.take_add]
     have hll : (c.take ((st + n) * ie.size) ++ xs ++ c.drop ((st + n) * ie.size + xs.length)).length = c.length := by
      simp only [List.length_append, List.length_take, List.length_drop]; omega
     refine ⟨_, _, es.take st, hr, rfl, rfl, rfl, by simp, .inr ⟨b, c.take ((st + n) * ie.size) ++ xs ++ c.drop ((st + n) * ie.size + xs.length), setRow_heap w b _ _ i.elem _ hc, ?_, ?_, .inr ⟨N, hb⟩, fun k hk _ => setRow_other w b k _ hk, fun ρ' H' hρ' hl2 => ⟨_, _, hl2, ?_, .inr (.inr ⟨b, _, cap, hρ', ?_, hroom, hcm, ?_⟩)⟩⟩⟩
     ·rw [hll, hcl, e1]; exact Nat.mul_le_mul_right _ (by simp; omega)
     ·rw [e1]
      have h1 : (es.take (st + n)).length = st + n := by simp; omega
      have := holds_app (rest := c.drop ((st + n) * ie.size + xs.length)) (holds_take hd0 (st + n)) (by rw [h1]; omega) hxh
      rwa [h1] at this
     ·simp; omega
     ·rw [hpre]
     ·rw [hll, hpre, hcl]
    ·have holds : ∀ (j : Nat) u, ((c.drop (st * ie.size)).take (n * ie.size))[j]? = some u → w.cell? ((⟨b, st * ie.size, none⟩ : Addr).add j) = some u := fun j u hu => by
      rw [add_none, cell_block hc]
      rw [List.getElem?_take] at hu
      split at hu
      ·rw [List.getElem?_drop] at hu; exact hu
      ·cases hu
     have hol : ((c.drop (st * ie.size)).take (n * ie.size)).length = n * ie.size := by
      rw [List.length_take, List.length_drop, hcl, Nat.add_mul]
      have : n * ie.size ≤ cap * ie.size := Nat.mul_le_mul_right _ hcap
      omega
     have hr := run_append_grow (P := P) w t ty i.elem inf z ht hinf hz ⟨b, st * ie.size, none⟩ n cap ((c.drop (st * ie.size)).take (n * ie.size)) (by rw [hsz]; exact hol) holds ad es2.length ucap xs (by rw [hsz]; exact hxl) hxc (by omega) (by omega) (growslice_fits (by omega) (by rw [hbytes]; exact hby))
     refine grow _ xs 0 (grownCap w (n + es2.length) cap i.elem) _ _ hol hxl ?_ hxh (grownCap_ge w (n + es2.length) cap i.elem) (grownCap_le_maxLen w _ cap i.elem hmax) rfl rfl hr
     have h1 := holds_take (holds_drop hd0 st) n
     refine ⟨h1.1, fun i e j x hi hj => ?_⟩
     obtain ⟨v, hv, hd⟩ := h1.2 i e j x hi hj
     refine ⟨v, ?_, hd⟩
     have hin : i < n := by have := (List.getElem?_eq_some_iff.1 hi).1; omega
     have hjs : j < ie.size := by have := (List.getElem?_eq_some_iff.1 hj).1; rw [h1.1 e (List.mem_of_getElem? hi)] at this; exact this
     rw [List.getElem?_take, if_pos]
     ·exact hv
     ·have : (i + 1) * ie.size ≤ n * ie.size := Nat.mul_le_mul_right _ hin
      rw [Nat.add_mul, Nat.one_mul] at this; simp only [Nat.zero_add]; omega
theorem seq_append_sub {P : Program} {tab : Tab} {σ : St} {o : Oper} {t id st n s' : Nat} {x y : Operand} {i ie : TI} {cy : C} {es es2 : List (List D)} {K : St → Prop} (ho : o.op = .call { callee := .builtin .append, args := #[x, y], argTypes := #[t, t] }) (hd : dstOk σ o.dst = true) (hi : TIOk P t i) (htag : i.tag = 4) (he : TIOk P i.elem ie)
  (hx : opnd tab σ t x = .s (.c (.sub id ie.size st n))) (hl : look σ.h id = some (.row i.elem ie.size es)) (hy : opnd tab σ t y = .s (.c cy)) (hE : elems σ.h cy = some (s', es2)) (hs : s' = ie.size) (hlen : (n + es2.length) * ie.bytes ≤ 140737488355328) (hlen' : n + es2.length ≤ 140737488355328) (hid : id < 7000000)
  (hK : ∀ pre : List (List D), K (((σ.kill (only id)).add [(id, .row i.elem ie.size (pre ++ ((es.drop st).take n ++ es2)))]).put o.dst (.s (.c (.sub id ie.size pre.length (n + es2.length)))))) :
  ∀ (S : Nat → Prop) (F0 : Base) (w0 : World) (a : Act) (w : World) (next : Act → World → Prop) (Q : Exit → Act → World → Prop),
   Holds' S F0 w0 σ a w → (∀ σ' a' w', K σ' → Holds' S F0 w0 σ' a' w' → next a' w') → o.wp P a w next Q := by
 intro S F0 w0 a w next Q ⟨⟨ρ, F, hs', hF0, hF1⟩, hk⟩ hn
 have hx0 := opnd_rel (a := a) (ρ := ρ) (F := F) (w := w) (H := σ.h) (σ := σ) tab t (x := x) (fun t e => by subst e; exact hs'.tmp t)
 have hy0 := opnd_rel (a := a) (ρ := ρ) (F := F) (w := w) (H := σ.h) (σ := σ) tab t (x := y) (fun t e => by subst e; exact hs'.tmp t)
 rw [hx] at hx0; rw [hy] at hy0
 have hS := elems_src hE hs'.obj (show CRel ρ F w σ.h _ cy from hy0)
 subst hs
 obtain ⟨v', w', pre, hr, hA⟩ := run_append_sub (P := P) (t := t) (ty := o.type) hi htag he hs'.obj hl (show CRel ρ F w σ.h _ _ from hx0) hS (by unfold maxLen; omega) hlen
 obtain ⟨ρ', h1, h2, h3, h4⟩ := hs'.appendS hA
 refine wp_value (w' := w') (v' := v') ?_ (hn _ _ _ (hK pre) ⟨⟨ρ', F, h1.put (by cases hdst : o.dst <;> rw [hdst] at hd <;> exact hd) h2, ⟨hF0.1, hF0.2.1, fun k x hx ⟨ob, hob⟩ => ?_⟩, hF1⟩, hk.trans h3⟩)
 ·simp only [execOp, ho, resolve, invoke, builtin, Sem.run_bind, Sem.run_pure, Result.andThen_ok, List.map_toArray, List.map_cons, List.map_nil, hr]
 ·have hne : k ≠ id := fun e => by have := F0.num k x hx; omega
  refine h4 k x hne (hF0.2.2 k x hx ?_)
  have ho2 : look ((id, Ob.row i.elem ie.size (pre ++ ((es.drop st).take n ++ es2))) :: (σ.kill (only id)).h) k = some ob := by
   cases hdst : o.dst <;> rw [hdst] at hob <;> exact hob
  simp only [look] at ho2
  have hp : only id k = false := only_ne hne
  have ho3 : look (σ.kill (only id)).h k = some ob := by
   have : Nat.beq id k = false := only_ne (Ne.symm hne)
   simpa [this] using ho2
  simp only [St.kill] at ho3
  rw [look_killH hp] at ho3
  obtain ⟨o', ho', _⟩ := Option.map_eq_some_iff.1 ho3
  exact ⟨o', ho'⟩
end Go.Ab
