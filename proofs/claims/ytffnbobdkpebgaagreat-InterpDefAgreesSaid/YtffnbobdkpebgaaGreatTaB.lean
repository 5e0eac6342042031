/- Plain laws: cases, the order of evaluation, rules in force and rule trees. -/
import Derived.Test.YtffnbobdkpebgaaGreatTaA
set_option linter.unusedVariables false
set_option linter.unusedSimpArgs false
namespace Go.Ab
variable {fu : Nat}
theorem o_match (hf : 200000 ≤ fu) {l : List MValue} (hl : l.length ≤ 14) (ins : List MField) (en : List MEnum) : Ok (m_casedata_match fu l ins en) (fun _ => True) := by
 unfold m_casedata_match
 refine Ok.con (fun _ => Ok.tt) fun q1 => Ok.con (fun _ => Ok.tt) fun q2 => ?_
 (try simp only [ln, nI, sz, lnd, yyR, yyA, yyB, yyC, yyD, yyE, yyF, yyG, yyH, yyI, yyJ, yyK, yyL, yyM, yyN, yyO, yyP, yyQ] at *)
 refine Ok.rg l.length (by omega) (fun n i hi rec => ?_) hf
 simp only [m_casedata_match_L1]
 refine Ok.con (fun q => ?_) fun _ => Ok.tt
 (try simp only [ln, nI, sz, lnd, yyR, yyA, yyB, yyC, yyD, yyE, yyF, yyG, yyH, yyI, yyJ, yyK, yyL, yyM, yyN, yyO, yyP, yyQ] at *)
 exact Ok.ixN (by omega) fun v hv => Ok.ixN (by omega) fun f hf' => Ok.bd (o_Bounds _ _) fun _ _ => Ok.con (fun _ => Ok.tt) fun _ => Ok.con (fun _ => Ok.tt) fun _ => Ok.cnt (by omega) (rec _ (by omega) (by omega))
theorem o_cmem {l : MLaw} {i : Int} (h0 : 0 ≤ i) (h1 : i < l.scopes.length) : Ok (m_casedata_memberScope fu l i) (fun v => ∀ s, l.scopes[i.toNat]? = some s → s.ms < 0 → v.2 = false) := by
 unfold m_casedata_memberScope
 refine Ok.ix h0 h1 fun s hs => Ok.con (fun _ => Ok.ret fun _ _ _ => rfl) fun q => ?_
 (try simp only [ln, nI, sz, lnd, yyR, yyA, yyB, yyC, yyD, yyE, yyF, yyG, yyH, yyI, yyJ, yyK, yyL, yyM, yyN, yyO, yyP, yyQ] at *)
 exact Ok.ix (by omega) (by omega) fun _ _ => Ok.ret fun s' hs' h => by rw [hs] at hs'; cases hs'; omega
theorem o_caseV (hf : 200000 ≤ fu) (l : MLaw) (i : Int) {c : MCase} (hc : SzCase c) : Ok (m_casedata_Validate fu l i c) (fun v => v.2.2 = 0 → ∀ s, l.scopes[i.toNat]? = some s → s.ms < 0 → c.members = []) := by
 have h10 := hc.members
 unfold m_casedata_Validate m_casedata_limit
 refine Ok.con (fun _ => Ok.ret fun h => by cases h) fun q => Ok.con (fun _ => Ok.ret fun h => by cases h) fun _ => ?_
 (try simp only [ln, nI, sz, lnd, yyR, yyA, yyB, yyC, yyD, yyE, yyF, yyG, yyH, yyI, yyJ, yyK, yyL, yyM, yyN, yyO, yyP, yyQ] at *)
 refine Ok.ix (by omega) (by omega) fun s hs => Ok.bd (o_match hf hc.inputs _ _) fun w _ => Ok.con (fun q => Ok.ret fun h => ?_) fun _ => Ok.bd (P := fun n => s.ms < 0 → n = 0) (Ok.bd (o_cmem (by omega) (by omega)) fun v hv => Ok.con (fun q => Ok.ret fun h => ?_) fun _ => Ok.ret fun _ => rfl) fun n hn => Ok.con (fun _ => Ok.ret fun h => by cases h) fun q => Ok.bd (o_cmem (by omega) (by omega)) fun _ _ => ?_
 ·(try simp only [ln, nI, sz, lnd, yyR, yyA, yyB, yyC, yyD, yyE, yyF, yyG, yyH, yyI, yyJ, yyK, yyL, yyM, yyN, yyO, yyP, yyQ] at *); exact absurd h q
 ·rw [hv s hs h] at q; cases q
 have fin : ∀ s', l.scopes[i.toNat]? = some s' → s'.ms < 0 → c.members = [] := fun s' hs' h => by
  rw [hs] at hs'; cases hs'
  have := hn h
  simp [ln_len] at q
  exact List.length_eq_zero_iff.1 (by omega)
 refine Ok.rg c.members.length (by omega) (fun n i hi rec => ?_) hf
 simp only [m_casedata_Validate_L1]
 refine Ok.con (fun q => ?_) fun _ => Ok.ret fun _ => fin
 have q' : i < c.members.length := by simpa [nI] using q
 exact Ok.ixN q' fun v hv => Ok.bd (o_match hf (hc.mem _ (mem_ix hv)) _ _) fun _ _ => Ok.con (fun _ => Ok.ret fun _ => fin) fun _ => Ok.cnt (by omega) (rec _ (by omega) (by omega))
theorem inv_ok {Q : MEvalError → Prop} {c m : Int} (h : Q (MEvalError.mk c m (-1) (-1))) : Ok (bd (m_interp_invalid fu c m) fun c => some c) Q := Ok.bde rfl (Ok.ret h)
theorem o_check20 (hf : 200000 ≤ fu) {l : MLaw} (hl : SzLaw l) (i : Int) {c : MCase} (hc : SzCase c) (d : Int) (sg : Bool) : Ok (m_interp_check fu l i c d sg) (fun v => v.code = 0 → LawOk fu l ∧ (0 ≤ i ∧ i < l.scopes.length) ∧ (sg = true → 0 ≤ d ∧ ∀ s, l.scopes[i.toNat]? = some s → d < s.defs.length) ∧ ∀ s, l.scopes[i.toNat]? = some s → s.ms < 0 → c.members = []) := by
 unfold m_interp_check
 refine Ok.bd (o_Validate hf hl) fun w hw => Ok.con (fun q => inv_ok fun h => by cases h) fun q => Ok.con (fun _ => inv_ok fun h => by cases h) fun q2 => ?_
 have hw' := hw (by simpa using q)
 (try simp only [ln, nI, sz, lnd, yyR, yyA, yyB, yyC, yyD, yyE, yyF, yyG, yyH, yyI, yyJ, yyK, yyL, yyM, yyN, yyO, yyP, yyQ] at *)
 refine Ok.con (fun q3 => Ok.con (fun _ => inv_ok fun h => by cases h) fun q4 => Ok.ix (by omega) (by omega) fun s hs => Ok.con (fun _ => inv_ok fun h => by cases h) fun q5 => Ok.bd (o_caseV hf _ _ hc) fun v hv => Ok.con (fun q6 => inv_ok fun h => ?_) fun q6 => Ok.ret fun _ => ⟨hw', by omega, fun _ => ⟨by (try simp only [ln, nI, sz, lnd, yyR, yyA, yyB, yyC, yyD, yyE, yyF, yyG, yyH, yyI, yyJ, yyK, yyL, yyM, yyN, yyO, yyP, yyQ] at *); omega, fun s' hs' => ?_⟩, hv (by simpa using q6)⟩) fun q3 => Ok.bd (o_caseV hf _ _ hc) fun v hv => Ok.con (fun q6 => inv_ok fun h => ?_) fun q6 => Ok.ret fun _ => ⟨hw', by omega, fun h => (by rw [q3] at h; cases h), hv (by simpa using q6)⟩
 ·simp at q6; exact absurd h q6
 ·rw [hs] at hs'; cases hs'
  (try simp only [ln, nI, sz, lnd, yyR, yyA, yyB, yyC, yyD, yyE, yyF, yyG, yyH, yyI, yyJ, yyK, yyL, yyM, yyN, yyO, yyP, yyQ] at *); omega
 ·simp at q6; exact absurd h q6
theorem nd_len : ∀ (n : Nat) (l : List Int), l.Nodup → (∀ x ∈ l, 0 ≤ x ∧ x < (n : Int)) → l.length ≤ n
 | 0, l, _, h => by
  cases l with
  | nil => exact Nat.le_refl _
  | cons a l => have := h a (by simp); omega
 | n + 1, l, hd, h => by
  by_cases q : (n : Int) ∈ l
  ·have h1 := nd_len n (l.erase n) (hd.erase _) fun x hx => by
    have := (hd.mem_erase_iff).1 hx
    have h2 := h x this.2
    exact ⟨h2.1, by have := this.1; omega⟩
   rw [List.length_erase_of_mem q] at h1
   omega
  ·exact Nat.le_succ_of_le (nd_len n l hd fun x hx => by
    have h2 := h x hx
    refine ⟨h2.1, ?_⟩
    rcases Int.lt_or_le x n with h3 | h3
    ·exact h3
    ·exfalso; exact q (by rw [show (n : Int) = x by omega]; exact hx))
structure Ord (s : MScope) (v : List Int × Int) : Prop where
 rng : ∀ x ∈ v.1, 0 ≤ x ∧ x < s.defs.length
 nd : v.1.Nodup
 pre : ∀ (i : Nat) (x y : Int), v.1[i]? = some x → Dir s x y → ∃ j, j < i ∧ v.1[j]? = some y
 all : v.2 = 0 → ∀ d : Nat, d < s.defs.length → (d : Int) ∈ v.1
 stuck : v.2 ≠ 0 → ∃ P : Int → Prop, (∃ d : Nat, d < s.defs.length ∧ ¬ P d) ∧ ∀ d : Nat, d < s.defs.length → ¬ P d → ∃ x, Dir s d x ∧ ¬ P x
theorem o_CFunc (hf : 200000 ≤ fu) {xs : List Int} (h : xs.length ≤ 6000) {cap : List Bool} (hx : ∀ x ∈ xs, 0 ≤ x ∧ x < cap.length) : Ok (m_slices_ContainsFunc_int_158 fu xs cap) (fun v => v = true ↔ ∃ x ∈ xs, cap[x.toNat]? = some false) := by
 unfold m_slices_ContainsFunc_int_158 m_slices_IndexFunc_int_158
 refine Ok.bd (P := fun w => (w = -1 ∧ ¬ ∃ x ∈ xs, cap[x.toNat]? = some false) ∨ (0 ≤ w ∧ ∃ x ∈ xs, cap[x.toNat]? = some false)) ?_ fun w hw => Ok.ret ?_
 ·refine Ok.loop (fun i => i ≤ xs.length ∧ ∀ (k : Nat) (x : Int), k < i → xs[k]? = some x → cap[x.toNat]? ≠ some false) (fun i => xs.length - i) (fun n i hi rec => ?_) ⟨Nat.zero_le _, fun k x hk => by omega⟩ (by omega)
  obtain ⟨hi, ha⟩ := hi
  simp only [m_slices_IndexFunc_int_158_L1, m_deps_EvaluationOrder_1]
  refine Ok.con (fun q => ?_) fun q => Ok.ret (.inl ⟨rfl, fun ⟨x, hx, h⟩ => ?_⟩)
  ·have q' : i < xs.length := by simpa [nI] using q
   refine Ok.ixN q' fun x hx' => ?_
   obtain ⟨x0, x1⟩ := hx x (mem_ix hx')
   refine Ok.bd (P := fun b => ∃ c, cap[x.toNat]? = some c ∧ b = !c) (Ok.ix x0 x1 fun c hc => Ok.ret ⟨c, hc, rfl⟩) fun b hb => ?_
   obtain ⟨c, hc, rfl⟩ := hb
   refine Ok.con (fun q2 => Ok.ret (.inr ⟨by simp only [nI]; omega, x, mem_ix hx', by rw [hc]; simpa using q2⟩)) fun q2 => Ok.cnt (by omega) (rec _ ⟨by omega, fun k y hk hy => ?_⟩ (by omega))
   by_cases q3 : k = i
   ·subst q3; rw [hx'] at hy; cases hy
    rw [hc]; simp at q2; simp [q2]
   ·exact ha k y (by omega) hy
  ·have q' : xs.length ≤ i := by simpa [nI] using q
   obtain ⟨k, hk⟩ := List.getElem?_of_mem hx
   exact ha k x (by have := lt_ix hk; omega) hk h
 ·rw [decide_eq_true_eq]
  rcases hw with ⟨rfl, hw⟩ | ⟨h1, h2⟩
  ·exact ⟨fun h => by omega, fun h => absurd h hw⟩
  ·exact ⟨fun _ => h2, fun _ => h1⟩
theorem cnt_full : ∀ (l : List Bool), l.countP id < l.length → ∃ d : Nat, l[d]? = some false
 | [], h => by simp at h
 | b :: l, h => by
  cases b with
  | false => exact ⟨0, rfl⟩
  | true =>
   simp at h
   obtain ⟨d, hd⟩ := cnt_full l (by simpa using h)
   exact ⟨d + 1, by simpa using hd⟩
theorem cnt_set' : ∀ (l : List Bool) (i : Nat), l[i]? = some false → (l.set i true).countP id = l.countP id + 1
 | b :: l, 0, h => by simp at h; subst h; simp
 | b :: l, i + 1, h => by
  have := cnt_set' l i (by simpa using h)
  rw [List.set_cons_succ, List.countP_cons, List.countP_cons]
  omega
theorem o_Order (hf : 200000 ≤ fu) {s : MScope} (hs : SzScope s) : Ok (m_deps_EvaluationOrder fu s) (fun v => Ord s v) := by
 have hd := hs.defs
 unfold m_deps_EvaluationOrder
 refine Ok.mk (by simp only [ln_len]; omega) (by simp only [ln_len]; omega) ?_
 refine Ok.loop (fun x : Nat × List (List Int) => x.1 ≤ s.defs.length ∧ x.2.length = s.defs.length ∧ ∀ k : Nat, k < x.1 → ∃ v, x.2[k]? = some v ∧ v.length ≤ 6000 ∧ ∀ y, y ∈ v ↔ Dir s k y) (fun x => s.defs.length - x.1) (fun n x hx rec1 => ?_) ⟨Nat.zero_le _, by simp [ln_len], fun k hk => absurd hk (Nat.not_lt_zero _)⟩ (by simp only; omega)
 obtain ⟨i, dr⟩ := x
 obtain ⟨a1, a2, a3⟩ := hx
 simp only at a1 a2 a3
 simp only [m_deps_EvaluationOrder_L1]
 refine Ok.con (fun q => ?_) fun q => ?_
 ·have q' : i < s.defs.length := by simpa [nI] using q
  refine Ok.bd (o_Direct hf hs _) fun c hc => Ok.ixN (by omega) fun _ _ => Ok.cnt (by omega) (rec1 _ ⟨by simp only; omega, by simpa using a2, fun k hk => ?_⟩ (by simp only; omega))
  simp only [nI, Int.toNat_natCast] at hk ⊢
  by_cases q3 : k = i
  ·subst q3
   exact ⟨c, List.getElem?_set_self (by omega), hc⟩
  ·obtain ⟨v, h1, h2⟩ := a3 k (by omega)
   exact ⟨v, by rw [List.getElem?_set_ne (by omega)]; exact h1, h2⟩
 ·have q' : s.defs.length ≤ i := by simpa [nI] using q
  refine Ok.mk (by simp only [ln_len]; omega) (by simp only [ln_len]; omega) ?_
  refine Ok.loop (fun x : List Int × List Bool => x.2.length = s.defs.length ∧ x.1.length = x.2.countP id ∧ x.1.length ≤ s.defs.length ∧ (∀ y ∈ x.1, (0 ≤ y ∧ y < s.defs.length)) ∧ x.1.Nodup ∧ (∀ k : Nat, x.2[k]? = some true ↔ (k : Int) ∈ x.1) ∧ (∀ (i : Nat) (z y : Int), x.1[i]? = some z → Dir s z y → ∃ j, j < i ∧ x.1[j]? = some y)) (fun x => s.defs.length - x.1.length) (fun n x hx rec2 => ?_) ⟨by simp [ln_len], by simp [List.countP_replicate], Nat.zero_le _, fun y hy => (by simp at hy), List.nodup_nil, fun k => ?_, fun i z y h => (by simp at h)⟩ (by simp only [List.length_nil]; omega)
  ·obtain ⟨out, pl⟩ := x
   obtain ⟨b1, b2, b3, b4, b5, b6, b7⟩ := hx
   simp only at b1 b2 b3 b4 b5 b6 b7
   simp only [m_deps_EvaluationOrder_L2]
   refine Ok.con (fun q1 => ?_) fun q1 => Ok.ret ⟨b4, b5, b7, fun _ d hd' => ?_, fun h => absurd rfl h⟩
   ·have q1' : out.length < s.defs.length := by simpa [ln_len] using q1
    refine Ok.loop (fun x : Int × Nat => x.2 ≤ s.defs.length ∧ ((x.1 = -1 ∧ ∀ k : Nat, k < x.2 → pl[k]? = some true ∨ ∃ y, Dir s k y ∧ pl[y.toNat]? = some false) ∨ (0 ≤ x.1 ∧ x.1 < s.defs.length ∧ pl[x.1.toNat]? = some false ∧ ∀ y, Dir s x.1 y → pl[y.toNat]? = some true))) (fun x => s.defs.length - x.2) (fun n x hx rec3 => ?_) ⟨Nat.zero_le _, .inl ⟨rfl, fun k hk => absurd hk (Nat.not_lt_zero _)⟩⟩ (by simp only; omega)
    obtain ⟨nx, j⟩ := x
    obtain ⟨c1, c2⟩ := hx
    simp only at c1 c2
    simp only [m_deps_EvaluationOrder_L3]
    refine Ok.con (fun q2 => ?_) fun q2 => ?_
    ·have q2' : j < s.defs.length := by simpa [nI] using q2
     refine Ok.con (fun q3 => ?_) fun q3 => ?_
     ·have q3' : nx < 0 := by simpa using q3
      obtain ⟨e1, c2⟩ : nx = -1 ∧ ∀ k : Nat, k < j → pl[k]? = some true ∨ ∃ y, Dir s k y ∧ pl[y.toNat]? = some false := by
       rcases c2 with c2 | c2
       ·exact c2
       ·omega
      have keep : (pl[j]? = some true ∨ ∃ y, Dir s j y ∧ pl[y.toNat]? = some false) → ∀ k : Nat, k < j + 1 → pl[k]? = some true ∨ ∃ y, Dir s k y ∧ pl[y.toNat]? = some false := by
       intro h k hk
       by_cases q4 : k = j
       ·subst q4; exact h
       ·exact c2 k (by omega)
      refine Ok.ixN (by omega) fun b hb => Ok.con (fun q4 => ?_) fun q4 => Ok.cnt (by omega) (rec3 _ ⟨by simp only; omega, .inl ⟨e1, keep (.inl (by rw [hb]; simpa using q4))⟩⟩ (by simp only; omega))
      obtain ⟨v, d1, d2, d3⟩ := a3 j (by omega)
      refine Ok.ixN (by omega) fun v' hv' => ?_
      rw [d1] at hv'; cases hv'
      refine Ok.bd (o_CFunc hf d2 fun x hx => ?_) fun w hw => Ok.con (fun q5 => ?_) fun q5 => ?_
      ·have := ((d3 x).1 hx).2.1; omega
      ·refine Ok.cnt (by omega) (rec3 _ ⟨by simp only; omega, .inr ⟨by simp only [nI]; omega, by simp only [nI]; omega, by simp only [nI, Int.toNat_natCast]; rw [hb]; simpa using q4, fun y hy => ?_⟩⟩ (by simp only; omega))
       have hyv := hy.2.1
       cases hp : pl[y.toNat]? with
       | none => have := List.getElem?_eq_none_iff.1 hp; omega
       | some b =>
        cases b with
        | true => rfl
        | false =>
         have := hw.2 ⟨y, (d3 y).2 hy, hp⟩
         rw [this] at q5; cases q5
      ·have : w = true := by simpa using q5
       obtain ⟨x, hx, hx'⟩ := hw.1 this
       exact Ok.cnt (by omega) (rec3 _ ⟨by simp only; omega, .inl ⟨e1, keep (.inr ⟨x, (d3 x).1 hx, hx'⟩)⟩⟩ (by simp only; omega))
     ·have q3' : ¬ nx < 0 := by simpa using q3
      refine Ok.cnt (by omega) (rec3 _ ⟨by simp only; omega, .inr ?_⟩ (by simp only; omega))
      rcases c2 with c2 | c2
      ·omega
      ·exact c2
    ·have q2' : s.defs.length ≤ j := by simpa [nI] using q2
     refine Ok.con (fun q3 => Ok.ret ?_) fun q3 => ?_
     ·have q3' : nx < 0 := by simpa using q3
      rcases c2 with ⟨e1, c2⟩ | c2
      ·refine ⟨fun x hx => (by simp at hx), List.nodup_nil, fun i x y h => (by simp at h), fun h => (by cases h), fun _ => ⟨fun y => pl[y.toNat]? = some true, ?_, fun d hd' hn => ?_⟩⟩
       ·obtain ⟨d, hd'⟩ := cnt_full pl (by omega)
        exact ⟨d, by have := lt_ix hd'; omega, fun h => by simp only [Int.toNat_natCast] at h; rw [hd'] at h; cases h⟩
       ·simp only [Int.toNat_natCast] at hn
        rcases c2 d (by omega) with h | ⟨y, h1, h2⟩
        ·exact absurd h hn
        ·exact ⟨y, h1, fun h => by simp only at h; rw [h2] at h; cases h⟩
      ·omega
     ·have q3' : ¬ nx < 0 := by simpa using q3
      rcases c2 with c2 | ⟨e0, e1, e2, e3⟩
      ·omega
      have hnm : nx ∉ out := fun h => by
       have := (b6 nx.toNat).2 (by rwa [Int.toNat_of_nonneg e0])
       rw [e2] at this; cases this
      refine Ok.ix e0 (by omega) fun _ _ => Ok.ap (by simp; omega) (rec2 _ ⟨by simpa using b1, ?_, ?_, fun y hy => ?_, ?_, fun k => ?_, fun i z y hz hd' => ?_⟩ ?_)
      ·simp only [List.length_append, List.length_singleton]; rw [cnt_set' pl _ e2, b2]
      ·simp only [List.length_append, List.length_singleton]; omega
      ·simp only at hy; rw [mem_ap] at hy
       rcases hy with hy | rfl
       ·exact b4 y hy
       ·exact ⟨e0, e1⟩
      ·simp only; exact List.nodup_append.2 ⟨b5, by simp, fun a ha b hb => by simp at hb; subst hb; exact fun h => hnm (h ▸ ha)⟩
      ·simp only; rw [mem_ap]
       by_cases q4 : k = nx.toNat
       ·subst q4
        rw [List.getElem?_set_self (by omega)]
        exact ⟨fun _ => .inr (by omega), fun _ => rfl⟩
       ·rw [List.getElem?_set_ne (by omega), b6]
        exact ⟨.inl, fun h => h.elim id fun h => by omega⟩
      ·simp only at hz ⊢
       by_cases q4 : i < out.length
       ·rw [List.getElem?_append_left q4] at hz
        obtain ⟨j, h1, h2⟩ := b7 i z y hz hd'
        exact ⟨j, h1, by rw [List.getElem?_append_left (by omega)]; exact h2⟩
       ·have hi := lt_ix hz
        simp at hi
        have : i = out.length := by omega
        subst this
        simp at hz; subst hz
        have := e3 y hd'
        have hyv := hd'.2.1
        have hm := (b6 y.toNat).1 this
        rw [Int.toNat_of_nonneg hyv.1] at hm
        obtain ⟨j, hj⟩ := List.getElem?_of_mem hm
        have hjl := lt_ix hj
        exact ⟨j, hjl, by rw [List.getElem?_append_left hjl]; exact hj⟩
      ·simp only [List.length_append, List.length_singleton]; omega
   ·have q1' : s.defs.length ≤ out.length := by simpa [ln_len] using q1
    rw [← b6]
    rcases Nat.lt_or_ge (pl.countP id) pl.length with h | h
    ·omega
    ·have hall := List.countP_eq_length.1 (Nat.le_antisymm List.countP_le_length h)
     have hx : pl[d]? = some pl[d] := List.getElem?_eq_getElem (by omega)
     have := hall _ (mem_ix hx)
     rw [hx]; simpa using this
  ·simp only [List.not_mem_nil, iff_false]
   rw [List.getElem?_replicate]
   split <;> simp
end Go.Ab
set_option linter.unusedVariables false
set_option linter.unusedSimpArgs false
namespace Go.Ab
variable {fu : Nat}
theorem o_RulesOn (hf : 200000 ≤ fu) {s : MScope} (hs : SzScope s) (d dt : Int) : Ok (m_effective_RulesOn fu s d dt) (fun v => v.length ≤ 60 ∧ ∀ x ∈ v, 0 ≤ x ∧ x < s.rules.length) := by
 have h60 := hs.rules
 unfold m_effective_RulesOn
 refine Ok.rgA (fun (o : List Int) i => o.length ≤ i ∧ ∀ x ∈ o, 0 ≤ x ∧ x < s.rules.length) s.rules.length (by omega) (fun n o i ho hi rec => ?_) hf (o := []) ⟨Nat.le_refl _, fun x hx => (by simp at hx)⟩
 obtain ⟨h1, h2⟩ := ho
 simp only [m_effective_RulesOn_L1, m_daterange_Contains, m_daterange_Valid, bd_of]
 refine Ok.con (fun q => ?_) fun _ => Ok.ret ⟨by omega, h2⟩
 have q' : i < s.rules.length := by simpa [nI] using q
 refine Ok.ixN q' fun r hr => Ok.con (fun _ => Ok.con (fun _ => Ok.ap (by simp; omega) (Ok.cnt (by omega) (rec _ _ ⟨by simp; omega, fun x hx => ?_⟩ (by omega) (by omega)))) fun _ => Ok.cnt (by omega) (rec _ _ ⟨by omega, h2⟩ (by omega) (by omega))) fun _ => Ok.cnt (by omega) (rec _ _ ⟨by omega, h2⟩ (by omega) (by omega))
 rw [mem_ap] at hx
 rcases hx with hx | rfl
 ·exact h2 x hx
 ·simp only [nI]; omega
theorem o_anc (hf : 200000 ≤ fu) {s : MScope} (hs : SzScope s) {i : Int} (h0 : 0 ≤ i) (h1 : i < s.rules.length) {kept : List Int} (hk : kept.length ≤ 60) : Ok (m_effective_ancestor fu s i kept) (fun _ => True) := by
 have h60 := hs.rules
 unfold m_effective_ancestor
 refine Ok.loop (fun i : Int => 0 ≤ i ∧ i < s.rules.length) (fun i => i.toNat) (fun n i hi rec => ?_) ⟨h0, h1⟩ (by omega)
 simp only [m_effective_ancestor_L1]
 refine Ok.ix hi.1 hi.2 fun r hr => Ok.con (fun _ => Ok.tt) fun q => Ok.bd (o_IndexI hf (by omega) _) fun w _ => Ok.con (fun _ => Ok.tt) fun _ => ?_
 (try simp only [ln, nI, sz, lnd, yyR, yyA, yyB, yyC, yyD, yyE, yyF, yyG, yyH, yyI, yyJ, yyK, yyL, yyM, yyN, yyO, yyP, yyQ] at *)
 exact rec _ ⟨by omega, by omega⟩ (by omega)
theorem o_Tree (hf : 200000 ≤ fu) {s : MScope} (hs : SzScope s) (d dt : Int) : Ok (m_effective_TreeOn fu s d dt) (fun v => m_effective_RulesOn fu s d dt = some v.1 ∧ v.1.length ≤ 60 ∧ (∀ x ∈ v.1, 0 ≤ x ∧ x < s.rules.length) ∧ v.2.1.length = v.1.length ∧ v.2.2.length = v.1.length) := by
 unfold m_effective_TreeOn
 refine Ok.bde' (o_RulesOn hf hs d dt) fun c hc hp => ?_
 obtain ⟨h1, h2⟩ := hp
 refine Ok.loop (fun x : List Int × List Int × Nat => x.2.2 ≤ c.length ∧ x.1.length = x.2.2 ∧ x.2.1.length = x.2.2) (fun x => c.length - x.2.2) (fun n x hx rec => ?_) ⟨Nat.zero_le _, rfl, rfl⟩ (by simp only; omega)
 obtain ⟨ps, pr, i⟩ := x
 obtain ⟨a1, a2, a3⟩ := hx
 simp only at a1 a2 a3
 simp only [m_effective_TreeOn_L1]
 refine Ok.con (fun q => ?_) fun q => Ok.ret ⟨hc, h1, h2, ?_, ?_⟩
 ·have q' : i < c.length := by simpa [nI] using q
  refine Ok.ixN q' fun x hx => ?_
  obtain ⟨x0, x1⟩ := h2 x (mem_ix hx)
  exact Ok.bd (o_anc hf hs x0 x1 h1) fun w _ => Ok.ap (by simp; omega) (Ok.ix x0 x1 fun r hr => Ok.ap (by simp; omega) (Ok.cnt (by omega) (rec _ ⟨by simp only; omega, by simp [a2], by simp [a3]⟩ (by simp only; omega))))
 ·have q' : c.length ≤ i := by simpa [nI] using q
  simp only; omega
 ·have q' : c.length ≤ i := by simpa [nI] using q
  simp only; omega
theorem o_rtV (hf : 200000 ≤ fu) (pa pr : List Int) : Ok (m_ruletree_Validate fu pa pr) (fun v => v = 0 → pa.length = pr.length ∧ pa.length ≤ 8 ∧ ∀ (k : Nat) (p : Int), pa[k]? = some p → -1 ≤ p ∧ p < k) := by
 unfold m_ruletree_Validate
 refine Ok.con (fun _ => Ok.ret fun h => by cases h) fun q1 => Ok.con (fun _ => Ok.ret fun h => by cases h) fun q2 => ?_
 (try simp only [ln, nI, sz, lnd, yyR, yyA, yyB, yyC, yyD, yyE, yyF, yyG, yyH, yyI, yyJ, yyK, yyL, yyM, yyN, yyO, yyP, yyQ] at *)
 refine Ok.loop (fun i : Nat => i ≤ pa.length ∧ ∀ (k : Nat) (p : Int), k < i → pa[k]? = some p → -1 ≤ p ∧ p < k) (fun i => pa.length - i) (fun n i hi rec => ?_) ⟨Nat.zero_le _, fun k p hk => by omega⟩ (by omega)
 obtain ⟨hi, ha⟩ := hi
 simp only [m_ruletree_Validate_L1]
 refine Ok.con (fun q => ?_) fun q => Ok.ret fun _ => ⟨by omega, by omega, fun k p hp => ha k p ?_ hp⟩
 ·(try simp only [ln, nI, sz, lnd, yyR, yyA, yyB, yyC, yyD, yyE, yyF, yyG, yyH, yyI, yyJ, yyK, yyL, yyM, yyN, yyO, yyP, yyQ] at *)
  refine Ok.ixN (by omega) fun p hp => Ok.con (fun _ => Ok.ret fun h => by cases h) fun q3 => Ok.ixN (by omega) fun _ _ => Ok.con (fun _ => Ok.ret fun h => by cases h) fun _ => Ok.ixN (by omega) fun _ _ => Ok.con (fun _ => Ok.ret fun h => by cases h) fun _ => Ok.cnt (by omega) (rec _ ⟨by omega, fun k p' hk hp' => ?_⟩ (by omega))
  (try simp only [ln, nI, sz, lnd, yyR, yyA, yyB, yyC, yyD, yyE, yyF, yyG, yyH, yyI, yyJ, yyK, yyL, yyM, yyN, yyO, yyP, yyQ] at *)
  by_cases q4 : k = i
  ·subst q4; rw [hp] at hp'; cases hp'; omega
  ·exact ha k p' (by omega) hp'
 ·(try simp only [ln, nI, sz, lnd, yyR, yyA, yyB, yyC, yyD, yyE, yyF, yyG, yyH, yyI, yyJ, yyK, yyL, yyM, yyN, yyO, yyP, yyQ] at *); have := lt_ix hp; omega
theorem o_Chi (hf : 200000 ≤ fu) {pa : List Int} (h : pa.length ≤ 8) (t : Int) : Ok (m_ruletree_Children fu pa t) (fun v => v.length ≤ 8 ∧ ∀ x ∈ v, 0 ≤ x ∧ x < pa.length ∧ pa[x.toNat]? = some t) := by
 unfold m_ruletree_Children
 refine Ok.rgA (fun (o : List Int) i => o.length ≤ i ∧ ∀ x ∈ o, 0 ≤ x ∧ x < pa.length ∧ pa[x.toNat]? = some t) pa.length (by omega) (fun n o i ho hi rec => ?_) hf (o := []) ⟨Nat.le_refl _, fun x hx => (by simp at hx)⟩
 obtain ⟨h1, h2⟩ := ho
 simp only [m_ruletree_Children_L1]
 refine Ok.con (fun q => ?_) fun _ => Ok.ret ⟨by omega, h2⟩
 have q' : i < pa.length := by simpa [nI] using q
 refine Ok.ixN q' fun p hp => Ok.con (fun q2 => Ok.ap (by simp; omega) (Ok.cnt (by omega) (rec _ _ ⟨by simp; omega, fun x hx => ?_⟩ (by omega) (by omega)))) fun _ => Ok.cnt (by omega) (rec _ _ ⟨by omega, h2⟩ (by omega) (by omega))
 rw [mem_ap] at hx
 rcases hx with hx | rfl
 ·exact h2 x hx
 ·refine ⟨by simp only [nI]; omega, by simp only [nI]; omega, ?_⟩
  simp only [nI, Int.toNat_natCast]; rw [hp]; simpa using q2
theorem o_outc {t : MRuletreeTree} (h8 : t.parent.length ≤ 8) (hp : t.parent.length = t.priority.length) (ha : t.applies.length = t.parent.length) (hv : ∀ (k : Nat) (p : Int), t.parent[k]? = some p → -1 ≤ p ∧ p < k) : ∀ (m : Nat) {fu : Nat}, 200000 + m ≤ fu →
  (∀ a : Int, -1 ≤ a → a < t.parent.length → 2 * ((t.parent.length : Int) - a).toNat + 2 ≤ m → Ok (m_ruletree_tree_outcome fu t a) (fun v => v = -2 ∨ v = -1 ∨ 0 ≤ v ∧ v < t.parent.length)) ∧
  (∀ a : Int, -1 ≤ a → a < t.parent.length → 2 * ((t.parent.length : Int) - a).toNat + 1 ≤ m → Ok (m_ruletree_tree_contenders fu t a) (fun v => v.length ≤ 8 ∧ ∀ x ∈ v, 0 ≤ x ∧ x < t.parent.length ∧ a < x)) := by
 intro m
 induction m with
 | zero => intro fu hf; exact ⟨fun a _ _ h => by omega, fun a _ _ h => by omega⟩
 | succ m ih =>
  intro fu hf
  obtain ⟨fu, rfl⟩ : ∃ k, fu = k + 1 := ⟨fu - 1, by omega⟩
  obtain ⟨iho, ihc⟩ := ih (fu := fu) (by omega)
  have hf' : 200000 ≤ fu := by omega
  refine ⟨fun a a0 a1 hm => ?_, fun a a0 a1 hm => ?_⟩
  ·show Ok (o_ruletree_tree_outcome fu (m_ruletree_tree_outcome fu) (m_ruletree_tree_contenders fu) t a) _
   unfold o_ruletree_tree_outcome
   refine Ok.bd (ihc a a0 a1 (by omega)) fun c hc => Ok.con (fun _ => Ok.ret (.inl rfl)) fun _ => Ok.con (fun q => ?_) fun _ => Ok.con (fun q => ?_) fun _ => Ok.ret (.inr (.inl rfl))
   ·have q' : c.length = 1 := by simp [ln_len] at q; omega
    refine Ok.ix (by omega) (by simp; omega) fun x hx => ?_
    obtain ⟨x0, x1, x2⟩ := hc.2 x (mem_ix hx)
    exact Ok.bd (iho x (by omega) x1 (by omega)) fun v hv => Ok.ret hv
   ·have q' : 0 ≤ a := by simpa using q
    exact Ok.ix q' (by omega) fun b hb => Ok.con (fun _ => Ok.ret (.inr (.inr ⟨q', a1⟩))) fun _ => Ok.ret (.inr (.inl rfl))
  ·show Ok (o_ruletree_tree_contenders fu (m_ruletree_tree_outcome fu) (m_ruletree_tree_contenders fu) t a) _
   unfold o_ruletree_tree_contenders
   refine Ok.bd (o_Chi hf' h8 a) fun c hc => ?_
   obtain ⟨c1, c2⟩ := hc
   have cr : ∀ x ∈ c, 0 ≤ x ∧ x < t.parent.length ∧ a < x := fun x hx => by
    obtain ⟨x0, x1, x2⟩ := c2 x hx
    have := hv _ _ x2
    exact ⟨x0, x1, by omega⟩
   refine Ok.loop (fun x : List Int × Nat => x.2 ≤ c.length ∧ x.1.length ≤ x.2 ∧ ∀ y ∈ x.1, 0 ≤ y ∧ y < t.parent.length ∧ a < y) (fun x => c.length - x.2) (fun n x hx rec => ?_) ⟨Nat.zero_le _, Nat.le_refl _, fun y hy => (by simp at hy)⟩ (by simp only; omega)
   obtain ⟨out, i⟩ := x
   obtain ⟨b1, b2, b3⟩ := hx
   simp only at b1 b2 b3
   simp only [m_ruletree_tree_contenders_L1]
   refine Ok.con (fun q => ?_) fun _ => Ok.ret ⟨by omega, b3⟩
   have q' : i < c.length := by simpa [nI] using q
   refine Ok.ixN q' fun x hx => ?_
   obtain ⟨x0, x1, x2⟩ := cr x (mem_ix hx)
   have add : ∀ o : List Int, o.length ≤ i → (∀ y ∈ o, 0 ≤ y ∧ y < t.parent.length ∧ a < y) → Ok (cnt i (m_ruletree_tree_contenders_L1 c t (fun p_22 => some p_22) (m_ruletree_tree_outcome fu) n (o ++ [x], i + 1))) (fun v => v.length ≤ 8 ∧ ∀ x ∈ v, 0 ≤ x ∧ x < t.parent.length ∧ a < x) := fun o ho hy => Ok.cnt (by omega) (rec (o ++ [x], i + 1) ⟨by simp only; omega, by simp; omega, fun y hy' => by
    simp only at hy'; rw [mem_ap] at hy'
    rcases hy' with hy' | rfl
    ·exact hy y hy'
    ·exact ⟨x0, x1, x2⟩⟩ (by simp only; omega))
   have keep : Ok (cnt i (m_ruletree_tree_contenders_L1 c t (fun p_22 => some p_22) (m_ruletree_tree_outcome fu) n (out, i + 1))) (fun v => v.length ≤ 8 ∧ ∀ x ∈ v, 0 ≤ x ∧ x < t.parent.length ∧ a < x) := Ok.cnt (by omega) (rec (out, i + 1) ⟨by simp only; omega, by simp only; omega, b3⟩ (by simp only; omega))
   have tail : Ok (bif ((ln cInt out) == 0) then bd (ap out [x]) fun z_12 => cnt i (m_ruletree_tree_contenders_L1 c t (fun p_22 => some p_22) (m_ruletree_tree_outcome fu) n (z_12, i + 1)) else bd (ix t.priority x) fun e_13 => bd (ix out 0) fun e_14 => bd (ix t.priority e_14) fun e_15 => (bif (e_13 == e_15) then bd (ap out [x]) fun z_16 => cnt i (m_ruletree_tree_contenders_L1 c t (fun p_22 => some p_22) (m_ruletree_tree_outcome fu) n (z_16, i + 1)) else cnt i (m_ruletree_tree_contenders_L1 c t (fun p_22 => some p_22) (m_ruletree_tree_outcome fu) n (out, i + 1)))) (fun v => v.length ≤ 8 ∧ ∀ x ∈ v, 0 ≤ x ∧ x < t.parent.length ∧ a < x) := by
    refine Ok.con (fun _ => Ok.ap (by simp; omega) (add out (by omega) b3)) fun q3 => Ok.ix x0 (by omega) fun _ _ => ?_
    have q3' : 0 < out.length := by
     rcases Nat.eq_zero_or_pos out.length with h | h
     ·rw [ln_len, h] at q3; cases q3
     ·exact h
    refine Ok.ix (by omega) (by omega) fun y hy => ?_
    obtain ⟨y0, y1, _⟩ := b3 y (mem_ix hy)
    exact Ok.ix y0 (by omega) fun _ _ => Ok.con (fun _ => Ok.ap (by simp; omega) (add out (by omega) b3)) fun _ => keep
   refine Ok.bd (iho x (by omega) x1 (by omega)) fun v _ => Ok.con (fun _ => keep) fun _ => Ok.con (fun q3 => ?_) fun _ => tail
   have q3' : 0 < out.length := by simpa [ln_len] using q3
   refine Ok.ix x0 (by omega) fun _ _ => Ok.ix (by omega) (by omega) fun y hy => ?_
   obtain ⟨y0, y1, _⟩ := b3 y (mem_ix hy)
   refine Ok.ix y0 (by omega) fun _ _ => Ok.con (fun _ => Ok.con (fun _ => ?_) fun q4 => ?_) fun _ => tail
   ·exact Ok.ap (by simp) (add [] (Nat.zero_le _) fun y hy => (by simp at hy))
   ·simp at q4
theorem o_Select (hf : 201000 ≤ fu) (pa pr : List Int) (ap : List Bool) : Ok (m_ruletree_Select fu pa pr ap) (fun v => v = -2 ∨ v = -1 ∨ 0 ≤ v ∧ v < pa.length) := by
 unfold m_ruletree_Select
 refine Ok.bd (o_rtV (by omega) pa pr) fun c hc => Ok.con (fun _ => Ok.ret (.inr (.inl rfl))) fun q => ?_
 (try simp only [ln, nI, sz, lnd, yyR, yyA, yyB, yyC, yyD, yyE, yyF, yyG, yyH, yyI, yyJ, yyK, yyL, yyM, yyN, yyO, yyP, yyQ] at *)
 obtain ⟨h1, h2, h3⟩ := hc q.1
 exact Ok.bd ((o_outc (t := MRuletreeTree.mk pa pr ap) h2 h1 (by simp only; omega) h3 100 (fu := fu) (by omega)).1 (-1) (by omega) (by simp only; omega) (by simp only; omega)) fun v hv => Ok.ret hv
theorem o_choose (hf : 201000 ≤ fu) {u : MInterpUnit} (hs : SzScope u.scope) (he : EnvOk u.env) (d : Int) : Ok (m_interp_unit_choose fu u d) (fun v => v.2.code = 0 → v.2 = MEvalError.mk 0 0 0 0 ∧ (v.1 = -1 ∨ v.1 = -2 ∨ ∃ l, m_effective_RulesOn fu u.scope d u.env.date = some l ∧ v.1 ∈ l ∧ 0 ≤ v.1 ∧ v.1 < u.scope.rules.length)) := by
 unfold m_interp_unit_choose
 refine Ok.bd (o_Tree (by omega) hs d u.env.date) fun c hc => ?_
 obtain ⟨h1, h2, h3, h4, h5⟩ := hc
 refine Ok.mk (by simp only [ln_len]; omega) (by simp only [ln_len]; omega) ?_
 refine Ok.loop (fun x : Nat × List Bool => x.1 ≤ c.1.length ∧ x.2.length = c.1.length) (fun x => c.1.length - x.1) (fun n x hx rec => ?_) ⟨Nat.zero_le _, by simp [ln_len]⟩ (by simp only; omega)
 obtain ⟨i, ap⟩ := x
 obtain ⟨a1, a2⟩ := hx
 simp only at a1 a2
 simp only [m_interp_unit_choose_L1, m_interp_unit_fail, bd_of]
 refine Ok.con (fun q => ?_) fun q => ?_
 ·have q' : i < c.1.length := by simpa [nI] using q
  refine Ok.ixN q' fun x hx => ?_
  obtain ⟨x0, x1⟩ := h3 x (mem_ix hx)
  refine Ok.ix x0 x1 fun r hr => Ok.con (fun _ => Ok.ixN (by omega) fun _ _ => Ok.cnt (by omega) (rec _ ⟨by simp only; omega, by simp [a2]⟩ (by simp only; omega))) fun _ => Ok.bd (o_Eval hf r.guard he) fun v _ => Ok.con (fun q2 => Ok.ret fun h => ?_) fun _ => Ok.ixN (by omega) fun _ _ => Ok.cnt (by omega) (rec _ ⟨by simp only; omega, by simp [a2]⟩ (by simp only; omega))
  simp at q2; exact absurd h q2
 ·refine Ok.bd (o_Select hf _ _ _) fun v hv => Ok.con (fun q2 => Ok.ret fun _ => ⟨rfl, ?_⟩) fun q2 => ?_
  ·have q2' : v < 0 := by simpa using q2
   rcases hv with hv | hv | hv
   ·exact .inr (.inl hv)
   ·exact .inl hv
   ·omega
  ·have q2' : ¬ v < 0 := by simpa using q2
   refine Ok.ix (by omega) (by omega) fun x hx => Ok.ret fun _ => ⟨rfl, .inr (.inr ⟨c.1, h1, mem_ix hx, ?_⟩)⟩
   exact h3 x (mem_ix hx)
end Go.Ab
set_option linter.unusedVariables false
set_option linter.unusedSimpArgs false
namespace Go.Ab
variable {fu : Nat}
def Ext (D D' : List MValue) : Prop := D.length = D'.length ∧ ∀ (k : Nat) (v : MValue), D[k]? = some v → v.kind ≠ 0 → D'[k]? = some v
theorem Ext.refl (D : List MValue) : Ext D D := ⟨rfl, fun k v h _ => h⟩
theorem Ext.trans {A B C : List MValue} (h : Ext A B) (k : Ext B C) : Ext A C := ⟨h.1.trans k.1, fun i v h1 h2 => k.2 i v (h.2 i v h1 h2) h2⟩
def envD (env : MEnv) (D : List MValue) : MEnv := MEnv.mk env.date env.inputs D env.members env.memberTypes env.tables
theorem eD1 (e D) : (envD e D).date = e.date := rfl
theorem eD2 (e D) : (envD e D).inputs = e.inputs := rfl
theorem eD3 (e D) : (envD e D).defs = D := rfl
theorem eD4 (e D) : (envD e D).members = e.members := rfl
theorem eD5 (e D) : (envD e D).memberTypes = e.memberTypes := rfl
theorem eD6 (e D) : (envD e D).tables = e.tables := rfl
section
variable (n : MNode) (args : List MValue) (env : MEnv) (D D' : List MValue)
theorem ex_eq (h : n.op = 8 → D.length = D'.length ∧ ix D n.n = ix D' n.n) : m_eval_exists fu n (envD env D) = m_eval_exists fu n (envD env D') := by
 unfold m_eval_exists
 cases q : n.op == 8 with
 | true =>
  obtain ⟨a, b⟩ := h (by simpa using q)
  simp only [eD1, eD2, eD3, eD4, eD5, eD6, ln_len, a, b]
 | false => simp only [cond_false, eD1, eD2, eD3, eD4, eD5, eD6]
theorem al_eq (h : n.op = 8 → D.length = D'.length ∧ ix D n.n = ix D' n.n) : m_eval_allowed fu n args (envD env D) = m_eval_allowed fu n args (envD env D') := by
 unfold m_eval_allowed
 cases q : n.op == 8 with
 | true =>
  obtain ⟨a, b⟩ := h (by simpa using q)
  simp only [eD1, eD2, eD3, eD4, eD5, eD6, b]
 | false => simp only [cond_false, eD1, eD2, eD3, eD4, eD5, eD6]
theorem op_eq (h : n.op = 8 → D.length = D'.length ∧ ix D n.n = ix D' n.n) : m_eval_operate fu n args (envD env D) = m_eval_operate fu n args (envD env D') := by
 have hm : m_eval_members fu n (envD env D) = m_eval_members fu n (envD env D') := by
  unfold m_eval_members
  have l1 : ∀ e k m x, m_eval_members_L1 (envD env D) fu n e k m x = m_eval_members_L1 (envD env D') fu n e k m x := by
   intro e k m
   induction m with
   | zero => intro x; rfl
   | succ m ih =>
    intro x
    obtain ⟨i, a⟩ := x
    simp only [m_eval_members_L1, ih, eD1, eD2, eD3, eD4, eD5, eD6]
    rfl
  have l2 : ∀ e k m x, m_eval_members_L2 (envD env D) fu n e k m x = m_eval_members_L2 (envD env D') fu n e k m x := by
   intro e k m
   induction m with
   | zero => intro x; rfl
   | succ m ih =>
    intro x
    obtain ⟨i, a⟩ := x
    simp only [m_eval_members_L2, ih, eD1, eD2, eD3, eD4, eD5, eD6]
    rfl
  simp only [l1, l2]
  rfl
 unfold m_eval_operate
 cases q : n.op == 8 with
 | true =>
  obtain ⟨a, b⟩ := h (by simpa using q)
  rw [hm]
  simp only [eD1, eD2, eD3, eD4, eD5, eD6, b]
 | false =>
  rw [hm]
  simp only [cond_false, eD1, eD2, eD3, eD4, eD5, eD6]
theorem ap_eq (h : n.op = 8 → D.length = D'.length ∧ ix D n.n = ix D' n.n) : m_eval_Apply fu n args (envD env D) = m_eval_Apply fu n args (envD env D') := by
 unfold m_eval_Apply
 rw [ex_eq n env D D' h, al_eq n args env D D' h, op_eq n args env D D' h]
end
def Mono {A : Type} (a b : Option (A × Int)) : Prop := ∀ v, a = some (v, 0) → b = some (v, 0)
theorem Mono.rfl {A : Type} (a : Option (A × Int)) : Mono a a := fun _ h => h
theorem Mono.no {A B : Type} {f : A → Option (B × Int)} {b : Option (B × Int)} : Mono (bd none f) b := fun v h => by
 obtain ⟨x, hx, _⟩ := bd_some h
 cases hx
theorem Mono.step {A B : Type} {a b : Option (A × Int)} {f g : A × Int → Option (B × Int)} (h : Mono a b) (hk : ∀ v, Mono (f (v, 0)) (g (v, 0))) (hn : ∀ v c w, c ≠ 0 → f (v, c) ≠ some (w, 0)) : Mono (bd a f) (bd b g) := by
 intro w hw
 obtain ⟨x, hx, hf⟩ := bd_some hw
 obtain ⟨v, c⟩ := x
 by_cases q : c = 0
 ·subst q
  rw [h v hx, bd_of]
  exact hk v w hf
 ·exact absurd hf (hn v c w q)
theorem ap_mono (n : MNode) (args : List MValue) (env : MEnv) {D D' : List MValue} (h : Ext D D') : Mono (m_eval_Apply fu n args (envD env D)) (m_eval_Apply fu n args (envD env D')) := by
 intro v hv
 rw [← ap_eq n args env D D' fun h8 => ⟨h.1, ?_⟩]
 ·exact hv
 ·-- the definition exists, or the operation fails
  unfold m_eval_Apply at hv
  obtain ⟨w, hw, hv⟩ := bd_some hv
  cases w with
  | false => simp at hv
  | true =>
   simp only [Bool.not_true, cond_false] at hv
   obtain ⟨b, hb, hv⟩ := bd_some hv
   cases b with
   | false => simp at hv
   | true =>
    unfold m_eval_exists at hb
    have q7 : (n.op == 7) = false := by simp; omega
    have q8 : (n.op == 8) = true := by simpa using h8
    rw [q7, q8, cond_false, cond_true] at hb
    unfold m_eval_inside at hb
    rw [bd_of] at hb
    cases q : (decide (0 ≤ n.n)) && (decide (n.n < ln cValue (envD env D).defs)) with
    | false => rw [q] at hb; simp at hb
    | true =>
     rw [q, cond_true] at hb
     obtain ⟨x, hx, hk⟩ := bd_some hb
     have hk' : x.kind ≠ 0 := by simpa using hk
     have hx' : ix D n.n = some x := hx
     simp only [Bool.and_eq_true, decide_eq_true_eq] at q
     have h1 := ix_some hx'
     rw [hx']
     exact (ix_of q.1 (h.2 _ _ h1.2 hk')).symm
theorem node_mono {e : List MNode} (env : MEnv) {D D' : List MValue} (h : Ext D D') : ∀ (fu : Nat) (i : Int), Mono (m_eval_evaluator_node fu (MEvalEvaluator.mk e (envD env D)) i) (m_eval_evaluator_node fu (MEvalEvaluator.mk e (envD env D')) i) ∧ Mono (m_eval_evaluator_truth fu (MEvalEvaluator.mk e (envD env D)) i) (m_eval_evaluator_truth fu (MEvalEvaluator.mk e (envD env D')) i) := by
 intro fu
 induction fu with
 | zero => intro i; exact ⟨fun v h => (by cases h), fun v h => (by cases h)⟩
 | succ fu ih =>
  intro i
  have z : ∀ {B : Type} {x : B × Int} {c : Int} {m : Option (B × Int)} {w : B}, c ≠ 0 → x.2 = c → (bif c != 0 then some x else m) ≠ some (w, 0) := by
   intro B x c m w hc hx
   rw [show (c != 0) = true by simpa using hc, cond_true]
   intro h; cases h; exact hc hx.symm
  refine ⟨?_, ?_⟩
  ·show Mono (o_eval_evaluator_node fu (m_eval_evaluator_node fu) (m_eval_evaluator_truth fu) _ i) (o_eval_evaluator_node fu (m_eval_evaluator_node fu) (m_eval_evaluator_truth fu) _ i)
   unfold o_eval_evaluator_node
   simp only
   cases h1 : ix e i with
   | none => exact Mono.no
   | some nd =>
    rw [bd_of, bd_of]
    cases h2 : m_expr_Operands fu e i with
    | none => exact Mono.no
    | some ops =>
     rw [bd_of, bd_of]
     have pass : ∀ (x : Int), Mono (bd (m_eval_evaluator_node fu (MEvalEvaluator.mk e (envD env D)) x) fun c_18 => some (c_18.1, c_18.2)) (bd (m_eval_evaluator_node fu (MEvalEvaluator.mk e (envD env D')) x) fun c_18 => some (c_18.1, c_18.2)) := fun x =>
      Mono.step (ih x).1 (fun v => Mono.rfl _) fun v c w hc h => by cases h; exact hc rfl
     have con : ∀ {c : Bool} {a b a' b' : Option (MValue × Int)}, Mono a a' → Mono b b' → Mono (bif c then a else b) (bif c then a' else b') := fun {c} {a b a' b'} h1 h2 => by cases c; exact h2; exact h1
     have inx : ∀ (j : Int) {f g : Int → Option (MValue × Int)}, (∀ x, Mono (f x) (g x)) → Mono (bd (ix ops j) f) (bd (ix ops j) g) := fun j {f g} hk => by
      cases h3 : ix ops j with
      | none => exact Mono.no
      | some x => rw [bd_of, bd_of]; exact hk x
     refine con (con (Mono.rfl _) (inx 0 fun x => Mono.step (ih x).2 (fun v => con (Mono.rfl _) (con (Mono.rfl _) (inx 1 fun y => Mono.step (ih y).2 (fun v => Mono.rfl _) (fun v c w hc => z hc rfl)))) (fun v c w hc => z hc rfl))) (con (con (Mono.rfl _) (inx 0 fun x => Mono.step (ih x).2 (fun v => con (Mono.rfl _) (con (Mono.rfl _) (inx 1 fun y => Mono.step (ih y).2 (fun v => Mono.rfl _) (fun v c w hc => z hc rfl)))) (fun v c w hc => z hc rfl))) (con (con (Mono.rfl _) (inx 0 fun x => Mono.step (ih x).2 (fun v => con (Mono.rfl _) (con (inx 1 fun y => pass y) (inx 2 fun y => pass y))) (fun v c w hc => z hc rfl))) ?_))
     have lp : ∀ (m : Nat) (x : List MValue × Nat), Mono (m_eval_evaluator_node_L1 ops (MEvalEvaluator.mk e (envD env D)) (fun p_27 => bd (m_eval_Apply fu nd p_27 (envD env D)) fun c_28 => some (c_28.1, c_28.2)) (m_eval_evaluator_node fu) m x) (m_eval_evaluator_node_L1 ops (MEvalEvaluator.mk e (envD env D')) (fun p_27 => bd (m_eval_Apply fu nd p_27 (envD env D')) fun c_28 => some (c_28.1, c_28.2)) (m_eval_evaluator_node fu) m x) := by
      intro m
      induction m with
      | zero => intro x v hv; cases hv
      | succ m ihm =>
       intro x
       obtain ⟨gs, j⟩ := x
       simp only [m_eval_evaluator_node_L1]
       refine con (inx _ fun y => Mono.step (ih y).1 (fun v => con (Mono.rfl _) ?_) (fun v c w hc => z hc rfl)) (Mono.step (ap_mono nd gs env h) (fun v => Mono.rfl _) fun v c w hc h => by cases h; exact hc rfl)
       cases h4 : Go.Ab.ap gs [(v, (0 : Int)).1] with
       | none => exact Mono.no
       | some gs' =>
        rw [bd_of, bd_of]
        intro w hw
        unfold cnt at hw ⊢
        split at hw
        ·exact ihm _ w hw
        ·cases hw
     exact lp _ _
  ·show Mono (o_eval_evaluator_truth fu (m_eval_evaluator_node fu) (m_eval_evaluator_truth fu) _ i) (o_eval_evaluator_truth fu (m_eval_evaluator_node fu) (m_eval_evaluator_truth fu) _ i)
   unfold o_eval_evaluator_truth
   exact Mono.step (ih i).1 (fun v => Mono.rfl _) (fun v c w hc => z hc rfl)
theorem eval_mono (e : List MNode) (env : MEnv) {D D' : List MValue} (h : Ext D D') : Mono (m_eval_Eval fu e (envD env D)) (m_eval_Eval fu e (envD env D')) := by
 unfold m_eval_Eval
 cases h1 : m_expr_Starts fu e with
 | none => exact Mono.no
 | some s =>
  rw [bd_of, bd_of]
  cases s.2 != 0 with
  | true => exact Mono.rfl _
  | false => exact Mono.step (node_mono env h _ _).1 (fun v => Mono.rfl _) fun v c w hc h => by cases h; exact hc rfl
end Go.Ab
set_option linter.unusedVariables false
set_option linter.unusedSimpArgs false
namespace Go.Ab
variable {fu : Nat}
theorem Ok.lk {A : Type} {m : Option A} {f : A → Bool} {Q : A → Prop} (h : Ok m (fun v => f v = true ∧ Q v)) : Ok (Go.Ab.lk m f) Q := by
 obtain ⟨v, rfl, h1, h2⟩ := h
 refine ⟨v, ?_, h2⟩
 unfold Go.Ab.lk
 simp only [h1]
def Res (fu : Nat) (s : MScope) (env : MEnv) (D : List MValue) (R : List Int) (d : Nat) : Prop :=
 ∃ rl r v l, m_effective_RulesOn fu s d env.date = some l ∧ rl ∈ l ∧ 0 ≤ rl ∧ s.rules[rl.toNat]? = some r ∧ m_eval_Eval fu r.value (envD env D) = some (v, 0) ∧ PlB v ∧ D[d]? = some v ∧ R[d]? = some rl
theorem o_define (hf : 201000 ≤ fu) {s : MScope} (hs : SzScope s) {env : MEnv} (he : EnvOk env) {D : List MValue} (mem : Int) {R : List Int} {d : Nat} (d1 : d < D.length) (lr : R.length = D.length) :
  Ok (m_interp_unit_define fu s env.date env.inputs D env.members env.memberTypes env.tables mem R d) (fun r => (r.2.1.length = D.length ∧ r.2.2.length = R.length) ∧ (r.1.code = 0 → ∃ rl r' v l, m_effective_RulesOn fu s d env.date = some l ∧ rl ∈ l ∧ 0 ≤ rl ∧ s.rules[rl.toNat]? = some r' ∧ m_eval_Eval fu r'.value (envD env D) = some (v, 0) ∧ PlB v ∧ r.2.1 = D.set d v ∧ r.2.2 = R.set d rl)) := by
 unfold m_interp_unit_define
 refine Ok.lk (Ok.mono (P := fun r => (r.2.1.length = D.length ∧ r.2.2.length = R.length) ∧ (r.1.code = 0 → ∃ rl r' v l, m_effective_RulesOn fu s d env.date = some l ∧ rl ∈ l ∧ 0 ≤ rl ∧ s.rules[rl.toNat]? = some r' ∧ m_eval_Eval fu r'.value (envD env D) = some (v, 0) ∧ PlB v ∧ r.2.1 = D.set d v ∧ r.2.2 = R.set d rl)) ?_ fun r hr => ⟨by simp [hr.1.1, hr.1.2], hr⟩)
 unfold n_interp_unit_define
 have he' : EnvOk (envD env D) := ⟨he.members, he.tables⟩
 refine Ok.bd (o_choose hf (u := MInterpUnit.mk s (envD env D) mem R) hs he' d) fun c hc => Ok.con (fun q => Ok.ret ⟨⟨rfl, rfl⟩, fun h => ?_⟩) fun q => Ok.con (fun _ => Ok.bde (m := m_interp_unit_fail _ _ _ _ _) rfl (Ok.ret ⟨⟨rfl, rfl⟩, fun h => by cases h⟩)) fun q1 => Ok.con (fun _ => Ok.bde (m := m_interp_unit_fail _ _ _ _ _) rfl (Ok.ret ⟨⟨rfl, rfl⟩, fun h => by cases h⟩)) fun q2 => ?_
 ·simp at q; exact absurd h q
 have hc' := (hc (by simpa using q)).2
 rcases hc' with h | h | ⟨l, h1, h2, h3, h4⟩
 ·rw [h] at q1; cases q1
 ·rw [h] at q2; cases q2
 refine Ok.ix h3 h4 fun r' hr' => Ok.bde' (o_Eval hf r'.value he') fun v hv hp => Ok.con (fun q3 => Ok.bde (m := m_interp_unit_fail _ _ _ _ _) rfl (Ok.ret ⟨⟨rfl, rfl⟩, fun h => ?_⟩)) fun q3 => Ok.bde (ix_nat D d ▸ List.getElem?_eq_getElem d1) (Ok.bde (ix_nat R d ▸ List.getElem?_eq_getElem (by omega)) (Ok.ret ⟨⟨by simp, by simp⟩, fun _ => ?_⟩))
 ·simp at q3; exact absurd h q3
 ·have e0 : v.2 = 0 := by simpa using q3
  exact ⟨c.1, r', v.1, l, h1, h2, h3, hr', by have hv' : m_eval_Eval fu r'.value (envD env D) = some v := hv; rw [hv', ← e0], hp e0, by simp, by simp⟩
theorem Res.set {s : MScope} {env : MEnv} {D : List MValue} {R : List Int} {d x : Nat} {v : MValue} {rl : Int} (h : Res fu s env D R d) (hx : ∃ z, D[x]? = some z ∧ z.kind = 0) (hne : d ≠ x) : Res fu s env (D.set x v) (R.set x rl) d := by
 obtain ⟨rl', r, w, l, h1, h2, h3, h4, h5, h6, h7, h8⟩ := h
 have e : Ext D (D.set x v) := ⟨by simp, fun k u hu hk => by
  by_cases q : k = x
  ·subst q
   obtain ⟨z, hz, hz0⟩ := hx
   rw [hu] at hz; cases hz; exact absurd hz0 hk
  ·rw [List.getElem?_set_ne (fun h => q h.symm)]; exact hu⟩
 exact ⟨rl', r, w, l, h1, h2, h3, h4, eval_mono r.value env e w h5, h6, by rw [List.getElem?_set_ne (fun h => hne h.symm)]; exact h7, by rw [List.getElem?_set_ne (fun h => hne h.symm)]; exact h8⟩
structure UnitOk (fu : Nat) (s : MScope) (env : MEnv) (want : List Bool) (D : List MValue) (R : List Int) : Prop where
 lenD : D.length = s.defs.length
 lenR : R.length = s.defs.length
 res : ∃ o e, m_deps_EvaluationOrder fu s = some (o, e) ∧ Ord s (o, e) ∧ ∀ d : Nat, (d : Int) ∈ o → want[d]? = some true → Res fu s env D R d
theorem o_unitRun (hf : 201000 ≤ fu) {s : MScope} (hs : SzScope s) {env : MEnv} (he : EnvOk env) {D : List MValue} (mem : Int) {R : List Int} {want : List Bool} (lD : D.length = s.defs.length) (lR : R.length = s.defs.length) (lw : want.length = s.defs.length) (hz : ∀ d : Nat, d < s.defs.length → ∃ z, D[d]? = some z ∧ z.kind = 0) :
  Ok (m_interp_unit_run fu s env.date env.inputs D env.members env.memberTypes env.tables mem R want) (fun r => (r.2.1.length = D.length ∧ r.2.2.length = R.length) ∧ (r.1.code = 0 → UnitOk fu s env want r.2.1 r.2.2)) := by
 have h14 := hs.defs
 unfold m_interp_unit_run
 refine Ok.lk (Ok.mono (P := fun r => (r.2.1.length = D.length ∧ r.2.2.length = R.length) ∧ (r.1.code = 0 → UnitOk fu s env want r.2.1 r.2.2)) ?_ fun r hr => ⟨by simp [hr.1.1, hr.1.2], hr⟩)
 unfold n_interp_unit_run
 refine Ok.bde' (o_Order (by omega) hs) fun c hc ho => ?_
 have lo : c.1.length ≤ 14 := Nat.le_trans (nd_len _ _ ho.nd ho.rng) h14
 refine Ok.loop (fun x : Nat × List MValue × List Int => x.1 ≤ c.1.length ∧ x.2.1.length = s.defs.length ∧ x.2.2.length = s.defs.length ∧ (∀ (k d : Nat), k < x.1 → c.1[k]? = some (d : Int) → want[d]? = some true → Res fu s env x.2.1 x.2.2 d) ∧ (∀ d : Nat, d < s.defs.length → (∀ k : Nat, k < x.1 → c.1[k]? ≠ some (d : Int)) → ∃ z, x.2.1[d]? = some z ∧ z.kind = 0)) (fun x => c.1.length - x.1) (fun n x hx rec => ?_) ⟨Nat.zero_le _, lD, lR, fun k d hk => absurd hk (Nat.not_lt_zero _), fun d hd _ => hz d hd⟩ (by simp only; omega)
 obtain ⟨i, D1, R1⟩ := x
 obtain ⟨a1, a2, a3, a4, a5⟩ := hx
 simp only at a1 a2 a3 a4 a5
 simp only [m_interp_unit_run_L1]
 refine Ok.con (fun q => ?_) fun q => Ok.ret ⟨⟨by simp only; omega, by simp only; omega⟩, fun _ => ⟨a2, a3, c.1, c.2, hc, ho, fun d hd hw => ?_⟩⟩
 ·have q' : i < c.1.length := by simpa [nI] using q
  refine Ok.ixN q' fun x hx => ?_
  obtain ⟨x0, x1⟩ := ho.rng x (mem_ix hx)
  obtain ⟨d, rfl⟩ : ∃ d : Nat, x = d := ⟨x.toNat, by omega⟩
  have hd : d < s.defs.length := by omega
  have uniq : ∀ k : Nat, k < i → c.1[k]? ≠ some (d : Int) := fun k hk h => by
   have := (List.getElem?_inj (i := k) (j := i) (by omega) ho.nd).1 (h.trans hx.symm)
   omega
  refine Ok.ix x0 (by omega) fun w hw => Ok.con (fun q2 => Ok.cnt (by omega) (rec _ ⟨by simp only; omega, a2, a3, fun k d' hk hd' hw' => ?_, fun d' hd' hn => a5 d' hd' fun k hk => hn k (by simp only; omega)⟩ (by simp only; omega))) fun q2 => ?_
  ·by_cases q3 : k = i
   ·subst q3
    rw [hx] at hd'
    have : d = d' := by have := Option.some.inj hd'; omega
    subst this
    simp only [Int.toNat_natCast] at hw
    rw [hw] at hw'
    simp at q2; simp [q2] at hw'
   ·exact a4 k d' (by simp only at hk; omega) hd' hw'
  ·refine Ok.bd (o_define hf hs he mem (by omega) (by omega)) fun r hr => Ok.con (fun q3 => Ok.ret ⟨⟨by simp only; omega, by simp only; omega⟩, fun h => ?_⟩) fun q3 => Ok.cnt (by omega) (rec _ ⟨by simp only; omega, by simp only; omega, by simp only; omega, fun k d' hk hd' hw' => ?_, fun d' hd' hn => ?_⟩ (by simp only; omega))
   ·simp at q3; exact absurd h q3
   ·obtain ⟨rl, r', v, l, e1, e2, e3, e4, e5, e6, e7, e8⟩ := hr.2 (by simpa using q3)
    simp only at hk ⊢
    have hz0 := a5 d hd uniq
    have ext : Ext D1 (D1.set d v) := ⟨by simp, fun k u hu hk => by
     by_cases q : k = d
     ·subst q
      obtain ⟨z, hz, hz0⟩ := hz0
      rw [hu] at hz; cases hz; exact absurd hz0 hk
     ·rw [List.getElem?_set_ne (fun h => q h.symm)]; exact hu⟩
    rw [e7, e8]
    by_cases q4 : k = i
    ·subst q4
     rw [hx] at hd'
     have : d = d' := by have := Option.some.inj hd'; omega
     subst this
     exact ⟨rl, r', v, l, e1, e2, e3, e4, eval_mono r'.value env ext v e5, e6, List.getElem?_set_self (by omega), List.getElem?_set_self (by omega)⟩
    ·have hne : d' ≠ d := fun h => uniq k (by omega) (by rw [hd', h])
     exact (a4 k d' (by omega) hd' hw').set hz0 hne
   ·obtain ⟨rl, r', v, l, e1, e2, e3, e4, e5, e6, e7, e8⟩ := hr.2 (by simpa using q3)
    simp only at hn ⊢
    have hne : d' ≠ d := fun h => hn i (by omega) (by rw [hx, h])
    rw [e7, List.getElem?_set_ne (fun h => hne h.symm)]
    exact a5 d' hd' fun k hk => hn k (by omega)
 ·have q' : c.1.length ≤ i := by simpa [nI] using q
  obtain ⟨k, hk⟩ := List.getElem?_of_mem hd
  exact a4 k d (by have := lt_ix hk; omega) hk hw
end Go.Ab
set_option linter.unusedVariables false
set_option linter.unusedSimpArgs false
namespace Go.Ab
variable {fu : Nat}
theorem o_newUnit {s : MScope} (hs : SzScope s) (env : MEnv) (m : Int) : m_interp_newUnit fu s env m = some (s, env.date, env.inputs, List.replicate s.defs.length (MValue.mk 0 0 0), env.members, env.memberTypes, env.tables, m, List.replicate s.defs.length 0) := by
 have h := hs.defs
 unfold m_interp_newUnit
 rw [mkS_of (by rw [ln_len]; omega) (by rw [ln_len]; omega), bd_of, mkS_of (by rw [ln_len]; omega) (by rw [ln_len]; omega), bd_of, ln_len, Int.toNat_natCast]
def tysOf (s : MScope) : List MTy := s.defs.map (·.ty)
def memEnv (l : MLaw) (c : MCase) (i : List MValue) : MEnv := MEnv.mk c.date i [] [] [] l.tables
def topEnv (l : MLaw) (c : MCase) (ms : MScope) (us : List MInterpUnit) : MEnv := MEnv.mk c.date c.inputs [] (us.map (·.env.defs)) (tysOf ms) l.tables
structure MachOk (fu : Nat) (l : MLaw) (s ms : MScope) (c : MCase) (want inner : List Bool) (us : List MInterpUnit) (top : MInterpUnit) : Prop where
 len : us.length = c.members.length
 mem : ∀ (i : Nat) u v, us[i]? = some u → c.members[i]? = some v → UnitOk fu ms (memEnv l c v) inner u.env.defs u.rules
 top : UnitOk fu s (topEnv l c ms us) want top.env.defs top.rules
theorem repl_z (n : Nat) : ∀ d : Nat, d < n → ∃ z, (List.replicate n (MValue.mk 0 0 0))[d]? = some z ∧ z.kind = 0 := fun d h => ⟨_, by rw [List.getElem?_replicate, if_pos h], rfl⟩
theorem o_machRun (hf : 201000 ≤ fu) {l : MLaw} (hl : SzLaw l) {s ms : MScope} (hs : SzScope s) (hms : SzScope ms) {c : MCase} (hc : SzCase c) {want inner : List Bool} (lw : want.length = s.defs.length) (li : inner.length = ms.defs.length) :
  Ok (m_interp_machine_run fu l s ms c want inner) (fun r => r.1.code = 0 → ∃ top, r.2.2.2.2 = some top ∧ MachOk fu l s ms c want inner r.2.2.2.1 top) := by
 have h14 := hms.defs
 have h10 := hc.members
 have htb : ∀ t ∈ l.tables, t.rows.length ≤ 150 := fun t ht => (hl.tbs t ht).2
 unfold m_interp_machine_run
 refine Ok.loop (fun x : Nat × List MTy => x.1 ≤ ms.defs.length ∧ x.2 = (ms.defs.take x.1).map (·.ty)) (fun x => ms.defs.length - x.1) (fun n x hx rec1 => ?_) ⟨Nat.zero_le _, by simp⟩ (by simp only; omega)
 obtain ⟨i, ts⟩ := x
 obtain ⟨a1, a2⟩ := hx
 simp only at a1 a2
 simp only [m_interp_machine_run_L1]
 refine Ok.con (fun q => ?_) fun q => ?_
 ·have q' : i < ms.defs.length := by simpa [nI] using q
  refine Ok.ixN q' fun f hf' => Ok.ap (by rw [a2]; simp; omega) (Ok.cnt (by omega) (rec1 _ ⟨by simp only; omega, ?_⟩ (by simp only; omega)))
  simp only
  rw [a2, List.take_add_one, hf', List.map_append]
  rfl
 ·have q' : ms.defs.length ≤ i := by simpa [nI] using q
  have e1 : ts = tysOf ms := by rw [a2, List.take_of_length_le q']; rfl
  subst e1
  refine Ok.loop (fun x : Nat × List (List MValue) × List Bool × List MInterpUnit => x.1 ≤ c.members.length ∧ x.2.2.1 = inner ∧ x.2.1 = x.2.2.2.map (·.env.defs) ∧ x.2.2.2.length = x.1 ∧ ∀ (i : Nat) u v, x.2.2.2[i]? = some u → c.members[i]? = some v → UnitOk fu ms (memEnv l c v) inner u.env.defs u.rules) (fun x => c.members.length - x.1) (fun n x hx rec2 => ?_) ⟨Nat.zero_le _, rfl, rfl, rfl, fun i u v h => (by simp at h)⟩ (by simp only; omega)
  obtain ⟨j, vs, inn, us⟩ := x
  obtain ⟨b1, b2, b3, b4, b5⟩ := hx
  simp only at b1 b2 b3 b4 b5
  subst b2
  simp only [m_interp_machine_run_L2]
  refine Ok.con (fun q2 => ?_) fun q2 => ?_
  ·have q2' : j < c.members.length := by simpa [nI] using q2
   refine Ok.ixN q2' fun v hv => ?_
   rw [o_newUnit hms, bd_of]
   have he : EnvOk (memEnv l c v) := ⟨Nat.zero_le _, htb⟩
   refine Ok.bd (o_unitRun hf hms he (nI j) (D := List.replicate ms.defs.length (MValue.mk 0 0 0)) (R := List.replicate ms.defs.length 0) (by simp) (by simp) li (repl_z _)) fun r hr => Ok.con (fun q3 => Ok.ret fun h => ?_) fun q3 => ?_
   ·simp at q3; exact absurd h q3
   have hu := hr.2 (by simpa using q3)
   refine Ok.ap (by simp; omega) (Ok.ap (by rw [b3]; simp; omega) (Ok.cnt (by omega) (rec2 _ ⟨by simp only; omega, rfl, ?_, by simp [b4], fun k u w hk hw => ?_⟩ (by simp only; omega))))
   ·simp only; rw [b3, List.map_append]; rfl
   ·simp only at hk
    by_cases q4 : k < us.length
    ·rw [List.getElem?_append_left q4] at hk
     exact b5 k u w hk hw
    ·have hkl := lt_ix hk
     simp at hkl
     have : k = us.length := by omega
     subst this
     simp at hk; subst hk
     rw [b4, hv] at hw; cases hw
     exact hu
  ·have q2' : c.members.length ≤ j := by simpa [nI] using q2
   rw [o_newUnit hs, bd_of]
   have he : EnvOk (topEnv l c ms us) := ⟨by simp only [topEnv]; rw [List.length_map]; omega, htb⟩
   subst b3
   refine Ok.bd (o_unitRun hf hs he (-1) (D := List.replicate s.defs.length (MValue.mk 0 0 0)) (R := List.replicate s.defs.length 0) (by simp) (by simp) lw (repl_z _)) fun r hr => Ok.ret fun h => ⟨_, rfl, by simp only; omega, b5, hr.2 h⟩
theorem o_newMach (hf : 200000 ≤ fu) {l : MLaw} (hl : SzLaw l) (hv : LawOk fu l) {i : Int} (h0 : 0 ≤ i) {s : MScope} (hs : l.scopes[i.toNat]? = some s) (c : MCase) : Ok (m_interp_newMachine fu l i c) (fun r => ∃ ms, r = (l, s, ms, c, List.replicate s.defs.length false, List.replicate ms.defs.length false) ∧ SzScope ms ∧ ((0 ≤ s.ms ∧ l.scopes[s.ms.toNat]? = some ms) ∨ (s.ms < 0 ∧ ms.defs = []))) := by
 have hz := hl.scs s (mem_ix hs)
 have h14 := hz.defs
 have hlt : s.ms < l.scopes.length := by
  rcases (hv.scopes _ s hs).ms with h | ⟨_, h, m, hm, _⟩
  ·omega
  ·have := lt_ix hm; omega
 unfold m_interp_newMachine
 refine Ok.ix h0 (by have := lt_ix hs; omega) fun s' hs' => ?_
 rw [hs] at hs'; cases hs'
 refine Ok.con (fun q => ?_) fun q => ?_
 ·have q' : 0 ≤ s.ms := by simpa using q
  refine Ok.ix q' hlt fun ms hm => ?_
  have hzm := hl.scs ms (mem_ix hm)
  have h14m := hzm.defs
  refine Ok.mk (by rw [ln_len]; omega) (by rw [ln_len]; omega) (Ok.mk (by rw [ln_len]; omega) (by rw [ln_len]; omega) (Ok.ret ⟨ms, ?_, hzm, .inl ⟨q', hm⟩⟩))
  rw [ln_len, ln_len, Int.toNat_natCast, Int.toNat_natCast]
 ·have q' : ¬ 0 ≤ s.ms := by simpa using q
  refine Ok.mk (by rw [ln_len]; omega) (by rw [ln_len]; omega) (Ok.mk (by rw [ln_len]; simp) (by rw [ln_len]; simp) (Ok.ret ⟨MScope.mk ByteArray.empty 0 [] [] [], ?_, ⟨Nat.zero_le _, Nat.zero_le _, Nat.zero_le _, Nat.zero_le _, fun f h => (by cases h), fun f h => (by cases h), fun f h => (by cases h)⟩, .inr ⟨by omega, rfl⟩⟩))
  rw [ln_len, ln_len, Int.toNat_natCast]
  rfl
theorem o_all (hf : 200000 ≤ fu) (l : MLaw) (s ms : MScope) (c : MCase) {want inner : List Bool} (lw : want.length ≤ 14) (li : inner.length ≤ 14) : Ok (m_interp_machine_all fu l s ms c want inner) (fun r => r.1.length = want.length ∧ r.2.length = inner.length ∧ (∀ d : Nat, d < want.length → r.1[d]? = some true) ∧ ∀ d : Nat, d < inner.length → r.2[d]? = some true) := by
 unfold m_interp_machine_all
 refine Ok.lk (Ok.mono (P := fun r => r.1.length = want.length ∧ r.2.length = inner.length ∧ (∀ d : Nat, d < want.length → r.1[d]? = some true) ∧ ∀ d : Nat, d < inner.length → r.2[d]? = some true) ?_ fun r hr => ⟨by simp [hr.1, hr.2.1], hr⟩)
 unfold n_interp_machine_all
 refine Ok.loop (fun x : Nat × List Bool => x.1 ≤ want.length ∧ x.2.length = want.length ∧ ∀ d : Nat, d < x.1 → x.2[d]? = some true) (fun x => want.length - x.1) (fun n x hx rec1 => ?_) ⟨Nat.zero_le _, rfl, fun d hd => absurd hd (Nat.not_lt_zero _)⟩ (by simp only; omega)
 obtain ⟨i, w⟩ := x
 obtain ⟨a1, a2, a3⟩ := hx
 simp only at a1 a2 a3
 simp only [m_interp_machine_all_L1]
 have upd : ∀ (w : List Bool) (i : Nat), i < w.length → (∀ d : Nat, d < i → w[d]? = some true) → ∀ d : Nat, d < i + 1 → (w.set (nI i).toNat true)[d]? = some true := fun w i hi h d hd => by
  simp only [nI, Int.toNat_natCast]
  by_cases q : d = i
  ·subst q; exact List.getElem?_set_self hi
  ·rw [List.getElem?_set_ne (by omega)]; exact h d (by omega)
 refine Ok.con (fun q => ?_) fun q => ?_
 ·have q' : i < want.length := by simpa [nI] using q
  exact Ok.ixN (by omega) fun _ _ => Ok.cnt (by omega) (rec1 _ ⟨by simp only; omega, by simp [a2], upd w i (by omega) a3⟩ (by simp only; omega))
 ·have q' : want.length ≤ i := by simpa [nI] using q
  refine Ok.loop (fun x : Nat × List Bool => x.1 ≤ inner.length ∧ x.2.length = inner.length ∧ ∀ d : Nat, d < x.1 → x.2[d]? = some true) (fun x => inner.length - x.1) (fun n x hx rec2 => ?_) ⟨Nat.zero_le _, rfl, fun d hd => absurd hd (Nat.not_lt_zero _)⟩ (by simp only; omega)
  obtain ⟨j, v⟩ := x
  obtain ⟨b1, b2, b3⟩ := hx
  simp only at b1 b2 b3
  simp only [m_interp_machine_all_L2]
  refine Ok.con (fun q2 => ?_) fun q2 => ?_
  ·have q2' : j < inner.length := by simpa [nI] using q2
   exact Ok.ixN (by omega) fun _ _ => Ok.cnt (by omega) (rec2 _ ⟨by simp only; omega, by simp [b2], upd v j (by omega) b3⟩ (by simp only; omega))
  ·have q2' : inner.length ≤ j := by simpa [nI] using q2
   exact Ok.ret ⟨a2, b2, fun d hd => a3 d (by omega), fun d hd => b3 d (by omega)⟩
theorem ord_done {s : MScope} {v : List Int × Int} (h : Ord s v) (ha : ∀ d : Nat, d < s.defs.length → ¬ Rch s d d) : v.2 = 0 := by
 by_cases q : v.2 = 0
 ·exact q
 exfalso
 obtain ⟨P, ⟨d0, h0, hp0⟩, hs⟩ := h.stuck q
 have key : ∀ m : Nat, ∃ (d : Int) (p : List Int), (0 ≤ d ∧ d < s.defs.length) ∧ ¬ P d ∧ p.length = m ∧ p.Nodup ∧ ∀ y ∈ p, (0 ≤ y ∧ y < s.defs.length) ∧ Rch s y d := by
  intro m
  induction m with
  | zero => exact ⟨d0, [], by omega, hp0, rfl, List.nodup_nil, fun y hy => (by simp at hy)⟩
  | succ m ih =>
   obtain ⟨d, p, hd, hp, hl, hn, hr⟩ := ih
   obtain ⟨x, hx, hpx⟩ := hs d.toNat (by omega) (by rwa [Int.toNat_of_nonneg hd.1])
   rw [Int.toNat_of_nonneg hd.1] at hx
   refine ⟨x, d :: p, hx.2.1, hpx, by simp [hl], List.nodup_cons.2 ⟨fun hm => ?_, hn⟩, fun y hy => ?_⟩
   ·have := (hr d hm).2
    have h2 := ha d.toNat (by omega)
    rw [Int.toNat_of_nonneg hd.1] at h2
    exact h2 this
   ·rcases List.mem_cons.1 hy with rfl | hy
    ·exact ⟨hd, .one hx⟩
    ·exact ⟨(hr y hy).1, .step (hr y hy).2 hx⟩
 obtain ⟨d, p, _, _, hl, hn, hr⟩ := key (s.defs.length + 1)
 have := nd_len s.defs.length p hn fun y hy => (hr y hy).1
 omega
end Go.Ab
set_option linter.unusedVariables false
set_option linter.unusedSimpArgs false
namespace Go.Ab
variable {fu : Nat}
theorem all_ix {α : Type} {xs : List α} {p : α → Prop} {n : Nat} (hn : xs.length ≤ n) (h : ∀ (k : Nat) (x : α), k < n → xs[k]? = some x → p x) : ∀ x ∈ xs, p x := fun x hx => by
 obtain ⟨k, hk⟩ := List.getElem?_of_mem hx
 exact h k x (by have := lt_ix hk; omega) hk
theorem stp {α : Type} {xs : List α} {p : α → Prop} {i : Nat} {e : α} (he : xs[i]? = some e) (hp : p e) (h : ∀ (k : Nat) (x : α), k < i → xs[k]? = some x → p x) : ∀ (k : Nat) (x : α), k < i + 1 → xs[k]? = some x → p x := fun k x hk hx => by
 by_cases q : k = i
 ·subst q; rw [he] at hx; cases hx; exact hp
 ·exact h k x (by omega) hx
theorem no0 {α : Type} {xs : List α} {p : α → Prop} : ∀ (k : Nat) (x : α), k < 0 → xs[k]? = some x → p x := fun k x hk => absurd hk (Nat.not_lt_zero _)
theorem o_smallS (hf : 200000 ≤ fu) (s : MScope) : Ok (m_same_smallScope fu s) (fun v => v = true → SzScope s) := by
 unfold m_same_smallScope
 refine Ok.con (fun _ => Ok.ret fun h => tf h.symm) fun q => ?_
 (try simp only [ln, nI, sz, lnd, yyR, yyA, yyB, yyC, yyD, yyE, yyF, yyG, yyH, yyI, yyJ, yyK, yyL, yyM, yyN, yyO, yyP, yyQ] at *)
 refine Ok.loop (fun i : Nat => i ≤ s.inputs.length ∧ ∀ (k : Nat) (x : MField), k < i → s.inputs[k]? = some x → x.name.size ≤ 80) (fun i => s.inputs.length - i) (fun n i hi rec1 => ?_) ⟨Nat.zero_le _, no0⟩ (by omega)
 obtain ⟨hi, ha⟩ := hi
 simp only [m_same_smallScope_L1]
 refine Ok.con (fun q1 => ?_) fun q1 => ?_
 ·have q1' : i < s.inputs.length := by simpa [nI] using q1
  refine Ok.ixN q1' fun f hf' => Ok.con (fun _ => Ok.ret fun h => tf h.symm) fun q2 => Ok.cnt (by omega) (rec1 _ ⟨by omega, stp hf' ?_ ha⟩ (by omega))
  simp [sz] at q2; omega
 have q1' : s.inputs.length ≤ i := by simpa [nI] using q1
 refine Ok.loop (fun i : Nat => i ≤ s.defs.length ∧ ∀ (k : Nat) (x : MField), k < i → s.defs[k]? = some x → x.name.size ≤ 80) (fun i => s.defs.length - i) (fun n j hj rec2 => ?_) ⟨Nat.zero_le _, no0⟩ (by omega)
 obtain ⟨hj, hb⟩ := hj
 simp only [m_same_smallScope_L2]
 refine Ok.con (fun q2 => ?_) fun q2 => ?_
 ·have q2' : j < s.defs.length := by simpa [nI] using q2
  refine Ok.ixN q2' fun f hf' => Ok.con (fun _ => Ok.ret fun h => tf h.symm) fun q3 => Ok.cnt (by omega) (rec2 _ ⟨by omega, stp hf' ?_ hb⟩ (by omega))
  simp [sz] at q3; omega
 have q2' : s.defs.length ≤ j := by simpa [nI] using q2
 refine Ok.loop (fun i : Nat => i ≤ s.rules.length ∧ ∀ (k : Nat) (x : MRule), k < i → s.rules[k]? = some x → SzRule x) (fun i => s.rules.length - i) (fun n m hm rec3 => ?_) ⟨Nat.zero_le _, no0⟩ (by omega)
 obtain ⟨hm, hc⟩ := hm
 simp only [m_same_smallScope_L3]
 refine Ok.con (fun q3 => ?_) fun q3 => ?_
 ·have q3' : m < s.rules.length := by simpa [nI] using q3
  refine Ok.ixN q3' fun r hr => Ok.con (fun _ => Ok.ret fun h => tf h.symm) fun q4 => Ok.cnt (by omega) (rec3 _ ⟨by omega, stp hr ?_ hc⟩ (by omega))
  simp [sz, ln_len] at q4
  exact ⟨by omega, by omega, by omega, by omega⟩
 have q3' : s.rules.length ≤ m := by simpa [nI] using q3
 exact Ok.ret fun _ => ⟨by omega, by omega, by omega, by omega, all_ix q1' ha, all_ix q2' hb, all_ix q3' hc⟩
theorem o_smallL (hf : 200000 ≤ fu) {l : MLaw} (hl : SizedLaw l) : Ok (m_same_SmallLaw fu l) (fun v => v = true → SzLaw l) := by
 unfold m_same_SmallLaw
 refine Ok.con (fun _ => Ok.ret fun h => tf h.symm) fun q => ?_
 (try simp only [ln, nI, sz, lnd, yyR, yyA, yyB, yyC, yyD, yyE, yyF, yyG, yyH, yyI, yyJ, yyK, yyL, yyM, yyN, yyO, yyP, yyQ] at *)
 refine Ok.loop (fun i : Nat => i ≤ l.enums.length ∧ ∀ (k : Nat) (x : MEnum), k < i → l.enums[k]? = some x → x.name.size ≤ 80 ∧ x.members.length ≤ 20 ∧ ∀ m ∈ x.members, m.size ≤ 80) (fun i => l.enums.length - i) (fun n i hi rec1 => ?_) ⟨Nat.zero_le _, no0⟩ (by omega)
 obtain ⟨hi, ha⟩ := hi
 simp only [m_same_SmallLaw_L1]
 refine Ok.con (fun q1 => ?_) fun q1 => ?_
 ·have q1' : i < l.enums.length := by simpa [nI] using q1
  refine Ok.ixN q1' fun e he => Ok.con (fun _ => Ok.ret fun h => tf h.symm) fun q2 => Ok.ixN q1' fun e' he' => ?_
  rw [he] at he'; cases he'
  refine Ok.con (fun _ => Ok.ret fun h => tf h.symm) fun q3 => ?_
  simp [sz] at q2
  simp [ln_len] at q3
  refine Ok.loop (fun j : Nat => j ≤ e.members.length ∧ ∀ (k : Nat) (x : BA), k < j → e.members[k]? = some x → x.size ≤ 80) (fun j => e.members.length - j) (fun n j hj rec2 => ?_) ⟨Nat.zero_le _, no0⟩ (by omega)
  obtain ⟨hj, hb⟩ := hj
  simp only [m_same_SmallLaw_L2]
  refine Ok.ixN q1' fun e' he' => ?_
  rw [he] at he'; cases he'
  refine Ok.con (fun q4 => ?_) fun q4 => ?_
  ·have q4' : j < e.members.length := by simpa [nI] using q4
   refine Ok.ixN q1' fun e' he' => ?_
   rw [he] at he'; cases he'
   refine Ok.ixN q4' fun m hm => Ok.con (fun _ => Ok.ret fun h => tf h.symm) fun q5 => Ok.cnt (by omega) (rec2 _ ⟨by omega, stp hm ?_ hb⟩ (by omega))
   simp [sz] at q5; omega
  ·have q4' : e.members.length ≤ j := by simpa [nI] using q4
   exact Ok.cnt (by omega) (rec1 _ ⟨by omega, stp he ⟨by omega, by omega, all_ix q4' hb⟩ ha⟩ (by omega))
 have q1' : l.enums.length ≤ i := by simpa [nI] using q1
 refine Ok.loop (fun x : Int × Nat => x.2 ≤ l.tables.length ∧ (0 ≤ x.1 ∧ x.1 ≤ 150) ∧ ∀ (k : Nat) (t : MTable), k < x.2 → l.tables[k]? = some t → t.name.size ≤ 80 ∧ t.rows.length ≤ 150) (fun x => l.tables.length - x.2) (fun n x hx rec2 => ?_) ⟨Nat.zero_le _, ⟨by decide, by decide⟩, no0⟩ (by simp only; omega)
 obtain ⟨r, j⟩ := x
 obtain ⟨hj, hr, hb⟩ := hx
 simp only at hj hr hb
 simp only [m_same_SmallLaw_L3]
 refine Ok.con (fun q2 => ?_) fun q2 => ?_
 ·have q2' : j < l.tables.length := by simpa [nI] using q2
  refine Ok.ixN q2' fun t ht => Ok.ixN q2' fun t' ht' => ?_
  rw [ht] at ht'; cases ht'
  have hsz := hl.1 t (mem_ix ht)
  rw [ln_len, w64_id (by omega) (by omega)]
  refine Ok.con (fun _ => Ok.ret fun h => tf h.symm) fun q3 => Ok.cnt (by omega) (rec2 _ ⟨by simp only; omega, ?_, stp ht ?_ hb⟩ (by simp only; omega))
  ·simp [sz] at q3; simp only; omega
  ·simp [sz] at q3; omega
 have q2' : l.tables.length ≤ j := by simpa [nI] using q2
 refine Ok.loop (fun x : Int × Nat => x.2 ≤ l.scopes.length ∧ (0 ≤ x.1 ∧ x.1 ≤ 60) ∧ ∀ (k : Nat) (t : MScope), k < x.2 → l.scopes[k]? = some t → SzScope t) (fun x => l.scopes.length - x.2) (fun n x hx rec3 => ?_) ⟨Nat.zero_le _, ⟨by decide, by decide⟩, no0⟩ (by simp only; omega)
 obtain ⟨u, m⟩ := x
 obtain ⟨hm, hu, hc⟩ := hx
 simp only at hm hu hc
 simp only [m_same_SmallLaw_L4]
 refine Ok.con (fun q3 => ?_) fun q3 => ?_
 ·have q3' : m < l.scopes.length := by simpa [nI] using q3
  refine Ok.ixN q3' fun t ht => ?_
  have hsz := hl.2 t (mem_ix ht)
  rw [ln_len, w64_id (by omega) (by omega)]
  refine Ok.con (fun _ => Ok.ret fun h => tf h.symm) fun q4 => Ok.ixN q3' fun t' ht' => ?_
  rw [ht] at ht'; cases ht'
  refine Ok.bd (o_smallS hf t) fun b hb => Ok.con (fun _ => Ok.ret fun h => tf h.symm) fun q5 => Ok.cnt (by omega) (rec3 _ ⟨by simp only; omega, ?_, stp ht (hb (by simpa using q5)) hc⟩ (by simp only; omega))
  simp at q4; simp only; omega
 have q3' : l.scopes.length ≤ m := by simpa [nI] using q3
 exact Ok.ret fun _ => ⟨by omega, by omega, by omega, all_ix q1' ha, all_ix q2' hb, all_ix q3' hc⟩
theorem o_smallC (hf : 200000 ≤ fu) (c : MCase) : Ok (m_same_SmallCase fu c) (fun v => v = true → SzCase c) := by
 unfold m_same_SmallCase
 refine Ok.con (fun _ => Ok.ret fun h => tf h.symm) fun q => ?_
 have q0 : c.inputs.length ≤ 14 ∧ c.members.length ≤ 10 := by simp [ln_len] at q; omega
 refine Ok.loop (fun i : Nat => i ≤ c.members.length ∧ ∀ (k : Nat) (x : List MValue), k < i → c.members[k]? = some x → x.length ≤ 14) (fun i => c.members.length - i) (fun n i hi rec1 => ?_) ⟨Nat.zero_le _, no0⟩ (by omega)
 obtain ⟨hi, ha⟩ := hi
 simp only [m_same_SmallCase_L1]
 refine Ok.con (fun q1 => ?_) fun q1 => ?_
 ·have q1' : i < c.members.length := by simpa [nI] using q1
  refine Ok.ixN q1' fun f hf' => Ok.con (fun _ => Ok.ret fun h => tf h.symm) fun q2 => Ok.cnt (by omega) (rec1 _ ⟨by omega, stp hf' ?_ ha⟩ (by omega))
  simp [ln_len] at q2; omega
 ·have q1' : c.members.length ≤ i := by simpa [nI] using q1
  exact Ok.ret fun _ => ⟨q0.1, q0.2, all_ix q1' ha⟩
theorem o_small20 (hf : 200000 ≤ fu) {l : MLaw} (hl : SizedLaw l) (c : MCase) : Ok (m_law20_small fu l c) (fun v => v = true → SzLaw l ∧ SzCase c) :=
 Ok.bd (o_smallL hf hl) fun a ha => Ok.con (fun q => Ok.bd (o_smallC hf c) fun b hb => Ok.ret fun h => ⟨ha q, hb h⟩) fun _ => Ok.ret fun h => tf h.symm
end Go.Ab
