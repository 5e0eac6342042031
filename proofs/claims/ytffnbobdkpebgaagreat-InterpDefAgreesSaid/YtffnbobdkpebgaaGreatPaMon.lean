/- Plain laws: the long division of math/bits. -/
import Derived.Test.YtffnbobdkpebgaaGreatVzM1
import Derived.Lib.ItoaNum
import Derived.Test.YtffnbobdkpebgaaGreatPlOk
set_option linter.unusedVariables false
set_option linter.unusedSimpArgs false
namespace Go.Ab
theorem u64w {n : Int} (h0 : 0 ≤ n) (h1 : n < 18446744073709551616) : IntKind.u64.wrap n = n := IntWalk.u64_in _ (by omega)
theorem digit {R : Type} (L : Nat → (Int × Int) → Option R) (k : Int → Option R) (v1 v0 u u1 : Int) (h1 : 2147483648 ≤ v1) (h1' : v1 < 4294967296) (h0 : 0 ≤ v0) (h0' : v0 < 4294967296) (hu : 0 ≤ u) (hu' : u < v1 * 4294967296 + v0) (hx : 0 ≤ u1) (hx' : u1 < 4294967296)
  (hL : ∀ n q r, L (n + 1) (q, r) = bif (decide (4294967296 ≤ q)) || (decide (IntKind.u64.wrap (IntKind.u64.wrap (4294967296 * r) + u1) < IntKind.u64.wrap (q * v0))) then (bif decide (4294967296 ≤ IntKind.u64.wrap (r + v1)) then k (IntKind.u64.wrap (q - 1)) else L n (IntKind.u64.wrap (q - 1), IntKind.u64.wrap (r + v1))) else k q) :
  ∀ (n : Nat) (q r : Int) (m : Nat), q * v1 + r = u → 0 ≤ r → r < 4294967296 → q ≤ 4294967297 → (u * 4294967296 + u1) / (v1 * 4294967296 + v0) ≤ q → 4294967296 ≤ r + n * 2147483648 → L (n + 1 + m) (q, r) = k ((u * 4294967296 + u1) / (v1 * 4294967296 + v0)) := by
 have hV : 0 < v1 * 4294967296 + v0 := by omega
 have hq0 : 0 ≤ (u * 4294967296 + u1) / (v1 * 4294967296 + v0) := Int.ediv_nonneg (by omega) (by omega)
 have hle : ∀ q r, q * v1 + r = u → (q ≤ (u * 4294967296 + u1) / (v1 * 4294967296 + v0) ↔ q * v0 ≤ r * 4294967296 + u1) := by
  intro q r hr
  rw [Int.le_ediv_iff_mul_le hV, Int.mul_add, ← Int.mul_assoc]
  omega
 have hlt : (u * 4294967296 + u1) / (v1 * 4294967296 + v0) < 4294967296 := by
  apply Int.ediv_lt_of_lt_mul hV
  omega
 intro n
 induction n with
 | zero => intro q r m _ _ _ _ _ h; omega
 | succ n ih =>
  intro q r m hr hr0 hrB hqB hqs hn
  have hqn : 0 ≤ q := by omega
  have hqv : 0 ≤ q * v0 := Int.mul_nonneg hqn h0
  have hqv' : q * v0 ≤ 4294967297 * 4294967295 := Int.mul_le_mul hqB (by omega) h0 (by omega)
  rw [show n + 1 + 1 + m = (n + 1 + m) + 1 by omega, hL, u64w (n := 4294967296 * r) (by omega) (by omega), u64w (n := 4294967296 * r + u1) (by omega) (by omega), u64w (n := q * v0) hqv (by omega), u64w (n := r + v1) (by omega) (by omega)]
  cases hc : (decide (4294967296 ≤ q)) || (decide (4294967296 * r + u1 < q * v0)) with
  | false =>
   simp only [Bool.or_eq_false_iff, decide_eq_false_iff_not] at hc
   have := (hle q r hr).2 (by omega)
   simp only [cond_false]
   congr 1; omega
  | true =>
   have hgt : (u * 4294967296 + u1) / (v1 * 4294967296 + v0) < q := by
    simp only [Bool.or_eq_true, decide_eq_true_eq] at hc
    rcases hc with hc | hc
    ·omega
    ·have := (hle q r hr)
     omega
   have hr' : (q - 1) * v1 + (r + v1) = u := by rw [Int.sub_mul]; omega
   rw [u64w (n := q - 1) (by omega) (by omega)]
   simp only [cond_true]
   cases hb : decide (4294967296 ≤ r + v1) with
   | true =>
    simp only [decide_eq_true_eq] at hb
    simp only [cond_true]
    have h2 : (q - 1) * v0 ≤ 4294967296 * 4294967295 := Int.mul_le_mul (by omega) (by omega) h0 (by omega)
    have := (hle (q - 1) (r + v1) hr').2 (by omega)
    congr 1; omega
   | false =>
    simp only [decide_eq_false_iff_not] at hb
    simp only [cond_false]
    exact ih (q - 1) (r + v1) m hr' (by omega) (by omega) (by omega) (by omega) (by omega)
theorem shlI_u64 {a : Int} {s : Nat} (hs : s ≤ 63) : shlI .u64 a s = a * 2 ^ s % 18446744073709551616 := by
 unfold shlI
 rw [IntKind.wrap_u64, show min (s : Int).toNat IntKind.u64.bits = s from by simp [IntKind.bits]; omega]
theorem shrI_u64 {a : Int} {s : Nat} (hs : s ≤ 64) : shrI .u64 a s = a / 2 ^ s := by
 unfold shrI
 rw [show min (s : Int).toNat IntKind.u64.bits = s from by simp [IntKind.bits]; omega]
 exact Int.fdiv_eq_ediv_of_nonneg _ (Int.le_of_lt (Int.pow_pos (by decide)))
theorem ofInt_nat {a : Int} (h0 : 0 ≤ a) (h1 : a < 18446744073709551616) : (BitVec.ofInt IntKind.u64.bits a).toNat = a.toNat := by
 show (BitVec.ofInt 64 a).toNat = _
 rw [BitVec.toNat_ofInt]
 congr 1
 exact Int.emod_eq_of_lt h0 (by simpa using h1)
theorem and_low {a : Int} (h0 : 0 ≤ a) (h1 : a < 18446744073709551616) : bits .and .u64 a 4294967295 = a % 4294967296 := by
 have e : bits .and .u64 a 4294967295 = IntKind.u64.wrap ((BitVec.ofInt IntKind.u64.bits a &&& BitVec.ofInt IntKind.u64.bits 4294967295).toNat : Nat) := rfl
 rw [e, BitVec.toNat_and, ofInt_nat h0 h1, ofInt_nat (by decide) (by decide)]
 have : a.toNat &&& (4294967295 : Int).toNat = a.toNat % 4294967296 := Nat.and_two_pow_sub_one_eq_mod a.toNat 32
 rw [this, u64w (by omega) (by omega)]
 omega
theorem or_add {x b : Int} {s : Nat} (hx : 0 ≤ x) (hb : 0 ≤ b) (hb' : b < 2 ^ s) (h : x * 2 ^ s + b < 18446744073709551616) : bits .or .u64 (x * 2 ^ s) b = x * 2 ^ s + b := by
 have hp : (0 : Int) < 2 ^ s := Int.pow_pos (by decide)
 have hxs : 0 ≤ x * 2 ^ s := Int.mul_nonneg hx (Int.le_of_lt hp)
 have e : bits .or .u64 (x * 2 ^ s) b = IntKind.u64.wrap ((BitVec.ofInt IntKind.u64.bits (x * 2 ^ s) ||| BitVec.ofInt IntKind.u64.bits b).toNat : Nat) := rfl
 rw [e, BitVec.toNat_or, ofInt_nat hxs (by omega), ofInt_nat hb (by omega)]
 have e1 : (x * 2 ^ s).toNat = x.toNat <<< s := by
  rw [Nat.shiftLeft_eq, Int.toNat_mul hx (Int.le_of_lt hp)]
  congr 1
 have hb2 : b.toNat < 2 ^ s := by
  have : ((b.toNat : Nat) : Int) < ((2 ^ s : Nat) : Int) := by rw [Int.toNat_of_nonneg hb]; simpa using hb'
  exact Int.ofNat_lt.1 this
 rw [e1, ← Nat.shiftLeft_add_eq_or_of_lt hb2, ← e1]
 rw [u64w (by omega) (by omega)]
 omega
theorem two_steps {a c v B : Int} (hB : 0 < B) (hv : 0 < v) : (a * B + c) / v = a / v * B + (a % v * B + c) / v ∧ (a * B + c) % v = (a % v * B + c) % v := by
 have e : a * B + c = (a % v * B + c) + v * (a / v * B) := by
  have h := Int.emod_add_mul_ediv a v
  have h2 : a * B = (a % v + v * (a / v)) * B := by rw [h]
  rw [Int.add_mul, Int.mul_assoc] at h2
  omega
 rw [e, Int.add_mul_ediv_left _ _ (by omega), Int.add_mul_emod_self_left]
 exact ⟨by omega, rfl⟩
theorem s_Div64 {fu : Nat} (hf : 10 ≤ fu) {hi lo y : Int} (h0 : 0 ≤ hi) (h1 : hi < y) (h2 : y < 18446744073709551616) (l0 : 0 ≤ lo) (l1 : lo < 18446744073709551616) :
  m_math_bits_Div64 fu hi lo y = some ((hi * 18446744073709551616 + lo) / y, (hi * 18446744073709551616 + lo) % y) := by
 unfold m_math_bits_Div64
 have c1 : (y == 0) = false := by simp; omega
 have c2 : decide (y ≤ hi) = false := by simp; omega
 rw [c1, c2, cond_false, cond_false]
 by_cases hz : hi = 0
 ·subst hz
  rw [show ((0 : Int) == 0) = true from rfl, cond_true, nz_of (by omega), bd_of, bd_of, IntWalk.u64_quo lo y ⟨l0, by omega, by omega⟩, Int.tmod_eq_emod_of_nonneg l0, Int.zero_mul, Int.zero_add]
 have c3 : (hi == 0) = false := by simpa using hz
 rw [c3, cond_false]
 have hy0 : y.toNat ≠ 0 := by omega
 obtain ⟨bp, b2, b1⟩ : 1 ≤ Lib.bitLen y.toNat ∧ 2 ^ (Lib.bitLen y.toNat - 1) ≤ y.toNat ∧ y.toNat < 2 ^ Lib.bitLen y.toNat := Lib.bitLenAux_bounds 64 y.toNat (by omega) hy0
 have bl : Lib.bitLen y.toNat ≤ 64 := by
  rcases Nat.lt_or_ge 64 (Lib.bitLen y.toNat) with h | h
  ·have : 2 ^ 64 ≤ 2 ^ (Lib.bitLen y.toNat - 1) := Nat.pow_le_pow_right (by decide) (by omega)
   omega
  ·exact h
 obtain ⟨s, hs⟩ : ∃ s, s + Lib.bitLen y.toNat = 64 := ⟨64 - Lib.bitLen y.toNat, by omega⟩
 have hlz : m_bits_LeadingZeros64 fu y = some (s : Int) := by
  unfold m_bits_LeadingZeros64
  rw [decide_eq_true (show 0 ≤ y ∧ y < 18446744073709551616 from ⟨by omega, h2⟩)]
  show some _ = _
  congr 1; omega
 have hp : (0 : Int) < 2 ^ s := Int.pow_pos (by decide)
 have hyn : ∃ yn : Int, yn = y * 2 ^ s ∧ 9223372036854775808 ≤ yn ∧ yn < 18446744073709551616 := by
  refine ⟨_, rfl, ?_, ?_⟩
  ·have h3 : 2 ^ (Lib.bitLen y.toNat - 1) * 2 ^ s ≤ y.toNat * 2 ^ s := Nat.mul_le_mul_right _ b2
   rw [← Nat.pow_add, show Lib.bitLen y.toNat - 1 + s = 63 by omega] at h3
   have h4 : ((2 ^ 63 : Nat) : Int) ≤ ((y.toNat * 2 ^ s : Nat) : Int) := Int.ofNat_le.2 h3
   rw [Int.natCast_mul, Int.toNat_of_nonneg (by omega)] at h4
   simpa using h4
  ·have h3 : y.toNat * 2 ^ s < 2 ^ Lib.bitLen y.toNat * 2 ^ s := Nat.mul_lt_mul_of_pos_right b1 (Nat.pow_pos (by decide))
   rw [← Nat.pow_add, show Lib.bitLen y.toNat + s = 64 by omega] at h3
   have h4 : ((y.toNat * 2 ^ s : Nat) : Int) < ((2 ^ 64 : Nat) : Int) := Int.ofNat_lt.2 h3
   rw [Int.natCast_mul, Int.toNat_of_nonneg (by omega)] at h4
   simpa using h4
 obtain ⟨yn, eyn, n0, n1⟩ := hyn
 have hs63 : s ≤ 63 := by omega
 have ws : IntKind.u64.wrap (s : Int) = s := u64w (by omega) (by omega)
 have w64s : IntKind.u64.wrap (64 - (s : Int)) = ((64 - s : Nat) : Int) := by rw [u64w (by omega) (by omega)]; omega
 have e1 : shlI .u64 y (s : Int) = yn := by rw [shlI_u64 hs63, ← eyn]; exact Int.emod_eq_of_lt (by omega) n1
 have hpp : (2 : Int) ^ (64 - s) * 2 ^ s = 18446744073709551616 := by rw [← Int.pow_add, show 64 - s + s = 64 by omega]; rfl
 have hp2 : (0 : Int) < 2 ^ (64 - s) := Int.pow_pos (by decide)
 have e2 : shlI .u64 hi (s : Int) = hi * 2 ^ s := by
  rw [shlI_u64 hs63]
  refine Int.emod_eq_of_lt (Int.mul_nonneg h0 (Int.le_of_lt hp)) (Int.lt_trans (Int.mul_lt_mul_of_pos_right h1 hp) ?_)
  rw [← eyn]; exact n1
 have e3 : shrI .u64 lo ((64 - s : Nat) : Int) = lo / 2 ^ (64 - s) := shrI_u64 (by omega)
 obtain ⟨t, et⟩ : ∃ t, t = lo / 2 ^ (64 - s) := ⟨_, rfl⟩
 obtain ⟨lw, elw⟩ : ∃ lw, lw = lo % 2 ^ (64 - s) * 2 ^ s := ⟨_, rfl⟩
 have hdm := Int.emod_add_mul_ediv lo (2 ^ (64 - s))
 have hm0 := Int.emod_nonneg lo (Int.ne_of_gt hp2)
 have hm1 := Int.emod_lt_of_pos lo hp2
 have hlw0 : 0 ≤ lw := by rw [elw]; exact Int.mul_nonneg hm0 (Int.le_of_lt hp)
 have hlw1 : lw < 18446744073709551616 := by rw [elw, ← hpp]; exact Int.mul_lt_mul_of_pos_right hm1 hp
 have hlo : lo * 2 ^ s = lw + t * 18446744073709551616 := by
  have : lo * 2 ^ s = (lo % 2 ^ (64 - s) + 2 ^ (64 - s) * (lo / 2 ^ (64 - s))) * 2 ^ s := by rw [hdm]
  rw [this, Int.add_mul, elw, Int.mul_comm (2 ^ (64 - s)) (lo / _), Int.mul_assoc, hpp, et]
 have ht0 : 0 ≤ t := by rw [et]; exact Int.ediv_nonneg l0 (Int.le_of_lt hp2)
 have ht1 : t < 2 ^ s := by
  rw [et]
  apply Int.ediv_lt_of_lt_mul hp2
  rw [Int.mul_comm, hpp]; exact l1
 have e4 : shlI .u64 lo (s : Int) = lw := by
  rw [shlI_u64 hs63, hlo, Int.add_mul_emod_self_right]
  exact Int.emod_eq_of_lt hlw0 hlw1
 obtain ⟨un, eun⟩ : ∃ un, un = hi * 2 ^ s + t := ⟨_, rfl⟩
 have hN : un * 18446744073709551616 + lw = (hi * 18446744073709551616 + lo) * 2 ^ s := by
  rw [eun, Int.add_mul, Int.add_mul, hlo, Int.mul_right_comm]; omega
 have hunlt : un < yn := by
  have h3 : hi * 18446744073709551616 + lo < y * 18446744073709551616 := by omega
  have h4 := Int.mul_lt_mul_of_pos_right h3 hp
  rw [← hN, Int.mul_right_comm, ← eyn] at h4
  omega
 have hun0 : 0 ≤ un := by rw [eun]; exact Int.add_nonneg (Int.mul_nonneg h0 (Int.le_of_lt hp)) ht0
 have e5 : bits .or .u64 (hi * 2 ^ s) t = un := by rw [or_add h0 ht0 ht1 (by omega), eun]
 have e6 : shrI .u64 yn 32 = yn / 4294967296 := shrI_u64 (s := 32) (by decide)
 have e7 : bits .and .u64 yn 4294967295 = yn % 4294967296 := and_low (by omega) n1
 have e8 : shrI .u64 lw 32 = lw / 4294967296 := shrI_u64 (s := 32) (by decide)
 have e9 : bits .and .u64 lw 4294967295 = lw % 4294967296 := and_low hlw0 hlw1
 have g1 : gz (s : Int) = some () := by unfold gz; rw [decide_eq_true (by omega)]
 have g2 : gz (((64 - s : Nat) : Nat) : Int) = some () := by unfold gz; rw [decide_eq_true (by omega)]
 have z1 : nz (yn / 4294967296) = some () := nz_of (by omega)
 rw [hlz, bd_of]
 simp only [ws, w64s, e1, e2, e3, ← et, e4, e5, e6, e8, e9, g1, g2, z1, bd_of]
 obtain ⟨v1, ev1⟩ : ∃ v1, v1 = yn / 4294967296 := ⟨_, rfl⟩
 obtain ⟨v0, ev0⟩ : ∃ v0, v0 = yn % 4294967296 := ⟨_, rfl⟩
 obtain ⟨u1, eu1⟩ : ∃ u1, u1 = lw / 4294967296 := ⟨_, rfl⟩
 obtain ⟨u0, eu0⟩ : ∃ u0, u0 = lw % 4294967296 := ⟨_, rfl⟩
 rw [← ev1, ← eu1, ← eu0]
 have hv : yn = v1 * 4294967296 + v0 := by omega
 have est : ∀ u : Int, 0 ≤ u → u < yn → IntKind.u64.wrap (Int.tdiv u v1) = u / v1 ∧ IntKind.u64.wrap (u - IntKind.u64.wrap (u / v1 * v1)) = u % v1 ∧ u / v1 ≤ 4294967297 := by
  intro u hu hu'
  have hv1 : 0 < v1 := by omega
  have h3 := Int.emod_add_mul_ediv u v1
  have h4 := Int.emod_nonneg u (Int.ne_of_gt hv1)
  have h5 := Int.emod_lt_of_pos u hv1
  have h6 : 0 ≤ u / v1 := Int.ediv_nonneg hu (by omega)
  have h7 : v1 * (u / v1) = u / v1 * v1 := Int.mul_comm _ _
  have h8 : u / v1 ≤ 4294967297 := by
   have : u / v1 < 4294967298 := by apply Int.ediv_lt_of_lt_mul hv1; omega
   omega
  refine ⟨IntWalk.u64_quo u v1 ⟨hu, by omega, by omega⟩, ?_, h8⟩
  have h9 : 0 ≤ u / v1 * v1 := Int.mul_nonneg h6 (by omega)
  rw [u64w (n := u / v1 * v1) h9 (by omega), u64w (by omega) (by omega)]
  omega
 have dig : ∀ u c : Int, 0 ≤ u → u < yn → 0 ≤ c → c < 4294967296 → (u * 4294967296 + c) / yn ≤ u / v1 := by
  intro u c hu hu' hc hc'
  have hv1 : 0 < v1 := by omega
  rw [Int.le_ediv_iff_mul_le hv1]
  have h3 := Int.ediv_mul_le (u * 4294967296 + c) (show yn ≠ 0 by omega)
  have h4 : 0 ≤ (u * 4294967296 + c) / yn := Int.ediv_nonneg (by omega) (by omega)
  have h5 : 0 ≤ (u * 4294967296 + c) / yn * v0 := Int.mul_nonneg h4 (by omega)
  have h6 : (u * 4294967296 + c) / yn * yn = (u * 4294967296 + c) / yn * v1 * 4294967296 + (u * 4294967296 + c) / yn * v0 := by
   rw [show (u * 4294967296 + c) / yn * yn = (u * 4294967296 + c) / yn * (v1 * 4294967296 + v0) by rw [← hv], Int.mul_add, Int.mul_assoc]
  omega
 obtain ⟨a1, a2, a3⟩ := est un hun0 hunlt
 rw [a1, a2]
 have emv := fun u : Int => Int.emod_add_mul_ediv u v1
 have mv0 := fun u : Int => Int.emod_nonneg u (show v1 ≠ 0 by omega)
 have mv1 := fun u : Int => Int.emod_lt_of_pos u (show 0 < v1 by omega)
 have hfu : ∃ m, fu = 2 + 1 + m := ⟨fu - 3, by omega⟩
 obtain ⟨m, hm⟩ := hfu
 have D1 := fun (k : Int → Option (Int × Int)) => digit (m_math_bits_Div64_L1 lo s y k) k v1 v0 un u1 (by omega) (by omega) (by omega) (by omega) hun0 (by omega) (by omega) (by omega)
  (fun n q r => by rw [m_math_bits_Div64_L1]; simp only [ws, e1, e4, e6, e7, e8, ← ev1, ← ev0, ← eu1]) 2 (un / v1) (un % v1) m
  (by have := emv un; rw [Int.mul_comm v1] at this; omega) (mv0 un) (by have := mv1 un; omega) a3 (by rw [← hv]; exact dig un u1 hun0 hunlt (by omega) (by omega)) (by have := mv0 un; omega)
 rw [hm, D1, ← hv]
 have R : ∀ u c : Int, 0 ≤ u → u < yn → 0 ≤ c → c < 4294967296 → IntKind.u64.wrap (IntKind.u64.wrap (IntKind.u64.wrap (u * 4294967296) + c) - IntKind.u64.wrap ((u * 4294967296 + c) / yn * yn)) = (u * 4294967296 + c) % yn ∧
   0 ≤ (u * 4294967296 + c) % yn ∧ (u * 4294967296 + c) % yn < yn ∧ 0 ≤ (u * 4294967296 + c) / yn ∧ (u * 4294967296 + c) / yn < 4294967296 := by
  intro u c hu hu' hc hc'
  have h3 := Int.emod_add_mul_ediv (u * 4294967296 + c) yn
  have h4 := Int.emod_nonneg (u * 4294967296 + c) (show yn ≠ 0 by omega)
  have h5 := Int.emod_lt_of_pos (u * 4294967296 + c) (show 0 < yn by omega)
  rw [Int.mul_comm yn] at h3
  refine ⟨?_, h4, h5, Int.ediv_nonneg (by omega) (by omega), by apply Int.ediv_lt_of_lt_mul (show 0 < yn by omega); omega⟩
  rw [IntKind.wrap_u64, IntKind.wrap_u64, IntKind.wrap_u64, IntKind.wrap_u64]
  omega
 obtain ⟨r1, r2, r3, r4, r5⟩ := R un u1 hun0 hunlt (by omega) (by omega)
 rw [r1]
 obtain ⟨A, eA⟩ : ∃ A, A = un * 4294967296 + u1 := ⟨_, rfl⟩
 rw [← eA] at r2 r3 r4 r5 ⊢
 obtain ⟨f1, f2, f3⟩ := est (A % yn) r2 r3
 rw [f1, f2]
 obtain ⟨t1, t2, t3, t4, t5⟩ := R (A % yn) u0 r2 r3 (by omega) (by omega)
 have D2 := fun (k : Int → Option (Int × Int)) => digit (fun n x => m_math_bits_Div64_L2 lo s y k n (x.2, x.1)) k v1 v0 (A % yn) u0 (by omega) (by omega) (by omega) (by omega) r2 (by omega) (by omega) (by omega)
  (fun n q r => by show m_math_bits_Div64_L2 lo s y k (n + 1) (r, q) = _; rw [m_math_bits_Div64_L2]; simp only [ws, e1, e4, e6, e7, e9, ← ev1, ← ev0, ← eu0]) 2 (A % yn / v1) (A % yn % v1) m
  (by have := emv (A % yn); rw [Int.mul_comm v1] at this; omega) (mv0 _) (by have := mv1 (A % yn); omega) f3 (by rw [← hv]; exact dig (A % yn) u0 r2 r3 (by omega) (by omega)) (by have := mv0 (A % yn); omega)
 simp only at D2
 rw [D2, ← hv, t1, u64w (n := A / yn * 4294967296) (by omega) (by omega), u64w (by omega) (by omega), shrI_u64 (by omega)]
 obtain ⟨w1, w2⟩ := two_steps (a := A) (c := u0) (v := yn) (B := 4294967296) (by decide) (by omega)
 have e10 : A * 4294967296 + u0 = (hi * 18446744073709551616 + lo) * 2 ^ s := by rw [← hN, eA]; omega
 have hq : (A * 4294967296 + u0) / yn = (hi * 18446744073709551616 + lo) / y := by rw [e10, eyn, Int.mul_ediv_mul_of_pos_left _ _ hp]
 have hr : (A * 4294967296 + u0) % yn = (hi * 18446744073709551616 + lo) % y * 2 ^ s := by
  rw [e10, eyn, Int.mul_comm _ ((2 : Int) ^ s), Int.mul_comm y, Int.mul_emod_mul_of_pos _ _ hp, Int.mul_comm]
 rw [← w1, ← w2, hq, hr, Int.mul_ediv_cancel _ (Int.ne_of_gt hp)]
end Go.Ab
set_option linter.unusedVariables false
set_option linter.unusedSimpArgs false
namespace Go.Ab
def i64 (n : Int) : Prop := -9223372036854775808 ≤ n ∧ n ≤ 9223372036854775807
def absI (n : Int) : Int := (n.natAbs : Int)
theorem absI_nn (n : Int) : 0 ≤ absI n := by unfold absI; omega
def upR (q r d : Int) (neg : Bool) (m : Int) : Bool :=
 bif m == 0 then neg && decide (0 < r) else bif m == 1 then (!neg) && decide (0 < r) else bif m == 3 then decide (0 < r) else bif m == 4 then decide (d - r ≤ r) else bif m == 5 then decide (d - r < r) || (r == d - r && Int.tmod q 2 == 1) else false
def rndR (q r d : Int) (neg : Bool) (m : Int) : Int := q + (bif upR q r d neg m then 1 else 0)
def sgnR (neg : Bool) (v : Int) : Int := bif neg then -v else v
def modeB (m : Int) : Bool := decide (0 ≤ m) && decide (m ≤ 5)
def negB (a b : Int) : Bool := !(decide (a < 0) == decide (b < 0))
theorem s_mabs (fu : Nat) {n : Int} (h : i64 n) : m_money_abs fu n = some (absI n) := by
 obtain ⟨h0, h1⟩ := h
 unfold m_money_abs absI
 by_cases hn : n < 0
 ·rw [decide_eq_true hn, cond_true, IntKind.wrap_u64, IntKind.wrap_u64]; congr 1; omega
 ·rw [decide_eq_false hn, cond_false, IntKind.wrap_u64]; congr 1; omega
theorem s_signed (fu : Nat) {n : Int} (neg : Bool) (h0 : 0 ≤ n) (h1 : n ≤ 9223372036854775807) : m_money_signed fu n neg = some (sgnR neg n) := by
 unfold m_money_signed sgnR
 rw [w64_id (by omega) h1, w64_id (by omega) (by omega)]
 cases neg <;> simp
theorem up_c (c : Bool) (q : Int) : (bif c then some (q + 1) else some q) = some (q + bif c then 1 else 0) := by cases c <;> simp
theorem up_n (c : Bool) (q : Int) : (bif c then some (-(q + 1)) else some (-q)) = some (-(q + bif c then 1 else 0)) := by cases c <;> simp
theorem s_round (fu : Nat) {q r d : Int} (neg : Bool) (m : Int) (h0 : 0 ≤ q) (h1 : q < 18446744073709551615) (hr : 0 ≤ r) (hd : r < d) (hd1 : d < 18446744073709551616) : m_money_round fu q r d neg m = some (rndR q r d neg m) := by
 unfold m_money_round rndR upR
 rw [u64w (n := q + 1) (by omega) (by omega), u64w (n := d - r) (by omega) (by omega)]
 cases m == 0 <;> cases m == 1 <;> cases m == 3 <;> cases m == 4 <;> cases m == 5 <;> simp only [cond_true, cond_false, Int.add_zero] <;> first | rfl | exact up_c _ _
theorem rnd_bd {q r d : Int} {neg : Bool} {m : Int} : q ≤ rndR q r d neg m ∧ rndR q r d neg m ≤ q + 1 := by
 unfold rndR; cases upR q r d neg m <;> simp only [cond_true, cond_false] <;> omega
theorem ediv_bd {a b : Int} (ha : 0 ≤ a) (hb : 0 < b) : 0 ≤ a / b ∧ a / b ≤ a ∧ 0 ≤ a % b ∧ a % b < b :=
 ⟨Int.ediv_nonneg ha (by omega), Int.ediv_le_self _ ha, Int.emod_nonneg _ (by omega), Int.emod_lt_of_pos _ hb⟩
def divRound (n d m : Int) : Int × Int :=
 bif !modeB m then (0, 1) else bif d == 0 then (0, 12) else bif decide (4611686018427387904 < absI n) then (0, 3) else bif decide (4611686018427387904 < absI d) then (0, 3) else
  (sgnR (negB n d) (rndR (absI n / absI d) (absI n % absI d) (absI d) (negB n d) m), 0)
theorem absI_pos {n : Int} (h : n ≠ 0) : 0 < absI n := by unfold absI; omega
theorem s_DivRound (fu : Nat) {n d : Int} (m : Int) (hn : i64 n) (hd : i64 d) : m_money_DivRound fu n d m = some (divRound n d m) := by
 unfold m_money_DivRound divRound
 simp only [m_money_mode, bd_of, s_mabs fu hn, s_mabs fu hd]
 show (bif !modeB m then _ else _) = _
 cases modeB m with
 | false => rfl
 | true =>
  simp only [Bool.not_true, cond_false]
  cases hz : d == 0 with
  | true => rfl
  | false =>
   have hz : d ≠ 0 := by simpa using hz
   have hp := absI_pos hz
   have hn0 := absI_nn n
   simp only [cond_false]
   cases c1 : decide (4611686018427387904 < absI n) with
   | true => rfl
   | false =>
    cases c2 : decide (4611686018427387904 < absI d) with
    | true => rfl
    | false =>
     simp only [decide_eq_false_iff_not] at c1 c2
     obtain ⟨b1, b2, b3, b4⟩ := ediv_bd hn0 hp
     have b5 := @rnd_bd (absI n / absI d) (absI n % absI d) (absI d) (negB n d) m
     simp only [cond_false]
     rw [nz_of (by omega), bd_of, bd_of, IntWalk.u64_quo _ _ ⟨hn0, by omega, by omega⟩, Int.tmod_eq_emod_of_nonneg hn0]
     show bd (m_money_round fu _ _ _ (negB n d) m) _ = _
     rw [s_round fu _ _ b1 (by omega) b3 b4 (by omega), bd_of]
     show bd (m_money_signed fu _ (negB n d)) _ = _
     rw [s_signed fu _ (by omega) (by omega), bd_of]
theorem s_Mul64 (fu : Nat) {x y : Int} (x0 : 0 ≤ x) (x1 : x < 18446744073709551616) (y0 : 0 ≤ y) (y1 : y < 18446744073709551616) : m_bits_Mul64 fu x y = some (x * y / 18446744073709551616, x * y % 18446744073709551616) := by
 unfold m_bits_Mul64
 rw [decide_eq_true (show 0 ≤ x ∧ x < 18446744073709551616 from ⟨x0, x1⟩), decide_eq_true (show 0 ≤ y ∧ y < 18446744073709551616 from ⟨y0, y1⟩)]
 rfl
theorem mul_div {fu : Nat} (hf : 10 ≤ fu) {x y d : Int} (x0 : 0 ≤ x) (x1 : x < 18446744073709551616) (y0 : 0 ≤ y) (y1 : y < 18446744073709551616) (d0 : 0 < d) (d1 : d < 18446744073709551616) :
  (d ≤ x * y / 18446744073709551616 → 18446744073709551616 ≤ x * y / d) ∧ (¬ d ≤ x * y / 18446744073709551616 → m_math_bits_Div64 fu (x * y / 18446744073709551616) (x * y % 18446744073709551616) d = some (x * y / d, x * y % d)) := by
 have hxy : 0 ≤ x * y := Int.mul_nonneg x0 y0
 refine ⟨fun h => ?_, fun h => ?_⟩
 ·rw [Int.le_ediv_iff_mul_le d0]
  have := Int.ediv_mul_le (x * y) (show (18446744073709551616 : Int) ≠ 0 by decide)
  omega
 ·rw [s_Div64 hf (Int.ediv_nonneg hxy (by decide)) (by omega) d1 (Int.emod_nonneg _ (by decide)) (Int.emod_lt_of_pos _ (by decide))]
  rw [show x * y / 18446744073709551616 * 18446744073709551616 + x * y % 18446744073709551616 = x * y by omega]
def negB3 (a b c : Int) : Bool := !(negB a b == decide (c < 0))
def mulDiv (c num den m : Int) : Int × Int :=
 bif !modeB m then (0, 1) else bif den == 0 then (0, 12) else bif decide (1000000000000000 < absI c) then (0, 3) else bif decide (1000000000 < absI num) then (0, 3) else bif decide (1000000000 < absI den) then (0, 3) else
  bif decide (1000000000000000 < absI c * absI num / absI den) then (0, 3) else
  bif decide (1000000000000000 < rndR (absI c * absI num / absI den) (absI c * absI num % absI den) (absI den) (negB3 c num den) m) then (0, 3) else
  (sgnR (negB3 c num den) (rndR (absI c * absI num / absI den) (absI c * absI num % absI den) (absI den) (negB3 c num den) m), 0)
theorem s_MulDiv {fu : Nat} (hf : 10 ≤ fu) {c num den : Int} (m : Int) (hc : i64 c) (hn : i64 num) (hd : i64 den) : m_money_MulDiv fu c num den m = some (mulDiv c num den m) := by
 unfold m_money_MulDiv mulDiv
 rw [show m_money_mode fu m = some (modeB m) from rfl, bd_of, s_mabs fu hc, bd_of, s_mabs fu hn, bd_of, s_mabs fu hd, bd_of]
 generalize modeB m = md
 cases md with
 | false => exact rfl
 | true =>
  rw [Bool.not_true, cond_false, cond_false]
  cases hz : den == 0 with
  | true => exact rfl
  | false =>
   have hz : den ≠ 0 := by simpa using hz
   have hp := absI_pos hz
   have hn0 := absI_nn num
   have hc0 := absI_nn c
   rw [cond_false, cond_false]
   cases c1 : decide (1000000000000000 < absI c) with
   | true => exact rfl
   | false =>
    rw [cond_false, cond_false]
    cases c2 : decide (1000000000 < absI num) with
    | true => exact rfl
    | false =>
     rw [cond_false, cond_false]
     cases c3 : decide (1000000000 < absI den) with
     | true => exact rfl
     | false =>
      simp only [decide_eq_false_iff_not] at c1 c2 c3
      rw [cond_false, cond_false, bd_of, bd_of, s_Mul64 fu hc0 (by omega) hn0 (by omega), bd_of, bd_of]
      obtain ⟨k1, k2⟩ := mul_div hf hc0 (show absI c < 18446744073709551616 by omega) hn0 (show absI num < 18446744073709551616 by omega) hp (show absI den < 18446744073709551616 by omega)
      have hxy : 0 ≤ absI c * absI num := Int.mul_nonneg hc0 hn0
      obtain ⟨b1, b2, b3, b4⟩ := ediv_bd hxy hp
      have b5 := @rnd_bd (absI c * absI num / absI den) (absI c * absI num % absI den) (absI den) (negB3 c num den) m
      cases c4 : decide (absI den ≤ absI c * absI num / 18446744073709551616) with
      | true =>
       have := k1 (of_decide_eq_true c4)
       rw [decide_eq_true (show 1000000000000000 < absI c * absI num / absI den by omega)]
       simp only [c4, cond_true]
      | false =>
       simp only [c4, cond_false]
       rw [k2 (of_decide_eq_false c4), bd_of]
       cases c5 : decide (1000000000000000 < absI c * absI num / absI den) with
       | true => simp only [c5, cond_true]
       | false =>
        simp only [c5, cond_false]
        simp only [decide_eq_false_iff_not] at c5
        show bd (m_money_round fu _ _ _ (negB3 c num den) m) _ = _
        rw [s_round fu _ _ b1 (by omega) b3 b4 (by omega), bd_of]
        cases c6 : decide (1000000000000000 < rndR (absI c * absI num / absI den) (absI c * absI num % absI den) (absI den) (negB3 c num den) m) with
        | true => exact rfl
        | false =>
         simp only [decide_eq_false_iff_not] at c6
         simp only [cond_false]
         show bd (m_money_signed fu _ (negB3 c num den)) _ = _
         rw [s_signed fu _ (by omega) (by omega), bd_of]
theorem absI_sgn {neg : Bool} {v : Int} (h : 0 ≤ v) : absI (sgnR neg v) = v := by
 unfold absI sgnR; cases neg <;> simp <;> omega
def roundTo (c u m : Int) : Int × Int :=
 bif !modeB m then (0, 1) else bif decide (u < 1) then (0, 12) else bif decide (1000000000000000 < absI c) || decide (1000000000000000 < u) then (0, 3) else
  bif decide (1000000000000000 < absI (sgnR (decide (c < 0)) (rndR (absI c / u) (absI c % u) u (decide (c < 0)) m) * u)) then (0, 3) else (sgnR (decide (c < 0)) (rndR (absI c / u) (absI c % u) u (decide (c < 0)) m) * u, 0)
theorem sgn_bd {neg : Bool} {v : Int} (h : 0 ≤ v) : -v ≤ sgnR neg v ∧ sgnR neg v ≤ v := by unfold sgnR; cases neg <;> simp <;> omega
theorem rt_bd {c u : Int} {neg : Bool} {m : Int} (hc : absI c ≤ 1000000000000000) (hu : 0 < u) (hu1 : u ≤ 1000000000000000) : -2000000000000000 ≤ sgnR neg (rndR (absI c / u) (absI c % u) u neg m) * u ∧ sgnR neg (rndR (absI c / u) (absI c % u) u neg m) * u ≤ 2000000000000000 := by
 have hc0 := absI_nn c
 obtain ⟨b1, b2, b3, b4⟩ := ediv_bd hc0 hu
 have b5 := @rnd_bd (absI c / u) (absI c % u) u neg m
 have h := Int.ediv_mul_le (absI c) (show u ≠ 0 by omega)
 have h1 : rndR (absI c / u) (absI c % u) u neg m * u ≤ (absI c / u + 1) * u := Int.mul_le_mul_of_nonneg_right b5.2 (by omega)
 have h2 : 0 ≤ rndR (absI c / u) (absI c % u) u neg m * u := Int.mul_nonneg (by omega) (by omega)
 rw [Int.add_mul] at h1
 unfold sgnR
 cases neg <;> simp only [cond_true, cond_false, Int.neg_mul] <;> omega
theorem s_RoundTo (fu : Nat) {c u : Int} (m : Int) (hc : i64 c) (hu : i64 u) : m_money_RoundTo fu c u m = some (roundTo c u m) := by
 unfold m_money_RoundTo roundTo
 rw [show m_money_mode fu m = some (modeB m) from rfl, bd_of, s_mabs fu hc, bd_of, s_DivRound fu m hc hu, bd_of]
 cases hm : modeB m with
 | false => exact rfl
 | true =>
  rw [Bool.not_true, cond_false, cond_false]
  cases hz : decide (u < 1) with
  | true => exact rfl
  | false =>
   have hz := of_decide_eq_false hz
   rw [cond_false, cond_false]
   cases c1 : decide (1000000000000000 < absI c) || decide (1000000000000000 < u) with
   | true => exact rfl
   | false =>
    simp only [Bool.or_eq_false_iff, decide_eq_false_iff_not] at c1
    have hc0 := absI_nn c
    have hb := @rt_bd c u (decide (c < 0)) m (by omega) (by omega) (by omega)
    have eu : absI u = u := by unfold absI; omega
    have en : negB c u = decide (c < 0) := by unfold negB; rw [decide_eq_false (show ¬ u < 0 by omega)]; cases decide (c < 0) <;> rfl
    have ed : divRound c u m = (sgnR (decide (c < 0)) (rndR (absI c / u) (absI c % u) u (decide (c < 0)) m), 0) := by
     unfold divRound
     rw [hm, show (u == 0) = false by simp; omega, eu, en, decide_eq_false (show ¬ 4611686018427387904 < absI c by omega), decide_eq_false (show ¬ 4611686018427387904 < u by omega)]
     rfl
    rw [ed, cond_false, cond_false]
    show bd (m_money_abs fu (w64 (sgnR (decide (c < 0)) (rndR (absI c / u) (absI c % u) u (decide (c < 0)) m) * u))) (fun c_4 => bif decide (1000000000000000 < c_4) then some (0, 3) else some (w64 (sgnR (decide (c < 0)) (rndR (absI c / u) (absI c % u) u (decide (c < 0)) m) * u), 0)) = _
    rw [w64_id (n := sgnR (decide (c < 0)) (rndR (absI c / u) (absI c % u) u (decide (c < 0)) m) * u) (by omega) (by omega), s_mabs fu (by unfold i64; omega), bd_of]
    cases decide (1000000000000000 < absI (sgnR (decide (c < 0)) (rndR (absI c / u) (absI c % u) u (decide (c < 0)) m) * u)) <;> exact rfl
end Go.Ab
