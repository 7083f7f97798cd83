/-
  How many bits are set: the library's OnesCount64, and num.Ones.
-/
import Derived.Test.YtpbahbigimnboaaDoorBase
namespace Go.Proofs.YtpbahbigimnboaaDoor
open Go.RowKit
set_option linter.unusedVariables false

/-- How many of the lowest n bits are set. -/
def pop : Nat → Nat → Nat
  | 0, _ => 0
  | n + 1, x => x % 2 + pop n (x / 2)
def ones (x : Nat) : Nat := pop 64 x
theorem pop_add : ∀ (m n x : Nat), pop (m + n) x = pop m x + pop n (x / 2 ^ m)
  | 0, n, x => by simp [pop]
  | m + 1, n, x => by
    have ih := pop_add m n (x / 2)
    rw [show m + 1 + n = (m + n) + 1 by omega]
    show x % 2 + pop (m + n) (x / 2) = (x % 2 + pop m (x / 2)) + pop n (x / 2 ^ (m + 1))
    rw [ih, Nat.div_div_eq_div_mul, Nat.pow_succ, Nat.mul_comm 2, Nat.add_assoc]
theorem pop_mod : ∀ (m x : Nat), pop m (x % 2 ^ m) = pop m x
  | 0, x => by simp [pop]
  | m + 1, x => by
    have ih := pop_mod m (x / 2)
    unfold pop
    have e1 : x % 2 ^ (m + 1) % 2 = x % 2 := Nat.mod_mod_of_dvd x ⟨2 ^ m, by rw [Nat.pow_succ, Nat.mul_comm]⟩
    have e2 : x % 2 ^ (m + 1) / 2 = x / 2 % 2 ^ m := by
      rw [Nat.pow_succ, Nat.mul_comm, Nat.mod_mul_right_div_self]
    rw [e1, e2, ih]
theorem pop_le : ∀ (m x : Nat), pop m x ≤ m
  | 0, x => by simp [pop]
  | m + 1, x => by
    have := pop_le m (x / 2)
    unfold pop
    omega

theorem and_split (a y c z : Nat) (ha : a < 256) (hc : c < 256) : (a + 256 * y) &&& (c + 256 * z) = (a &&& c) + 256 * (y &&& z) := by
  have h := Nat.div_add_mod ((a + 256 * y) &&& (c + 256 * z)) 256
  have e : (256 : Nat) = 2 ^ 8 := by decide
  have h1 : ((a + 256 * y) &&& (c + 256 * z)) % 256 = a &&& c := by
    rw [e, Nat.and_mod_two_pow, ← e]
    congr 1 <;> omega
  have h2 : ((a + 256 * y) &&& (c + 256 * z)) / 256 = y &&& z := by
    rw [e, Nat.and_div_two_pow, ← e]
    congr 1 <;> omega
  rw [h1, h2] at h
  omega

def by8 (a b c d e f g h : Nat) : Nat := a + 256 * (b + 256 * (c + 256 * (d + 256 * (e + 256 * (f + 256 * (g + 256 * h))))))
theorem and_by8 {a b c d e f g h : Nat} (k : Nat) (hk : k < 256) (ha : a < 256) (hb : b < 256) (hc : c < 256) (hd : d < 256) (he : e < 256) (hf : f < 256) (hg : g < 256) :
    by8 a b c d e f g h &&& by8 k k k k k k k k = by8 (a &&& k) (b &&& k) (c &&& k) (d &&& k) (e &&& k) (f &&& k) (g &&& k) (h &&& k) := by
  unfold by8
  rw [and_split _ _ _ _ ha hk, and_split _ _ _ _ hb hk, and_split _ _ _ _ hc hk, and_split _ _ _ _ hd hk, and_split _ _ _ _ he hk, and_split _ _ _ _ hf hk, and_split _ _ _ _ hg hk]

def f1 (b : Nat) : Nat := (b / 2 &&& 85) + (b &&& 85)
def f2 (b : Nat) : Nat := (b / 4 &&& 51) + (b &&& 51)
theorem f1_low : ∀ b, b < 256 → ∀ c, c < 2 → (b / 2 + c * 128) &&& 85 = b / 2 &&& 85 := by decide +kernel
theorem f2_low : ∀ b, b < 256 → ∀ c, c < 4 → (b / 4 + c * 64) &&& 51 = b / 4 &&& 51 := by decide +kernel
theorem f1_lt : ∀ b, b < 256 → f1 b < 256 := by decide +kernel
theorem f2_lt : ∀ b, b < 256 → f2 b < 256 := by decide +kernel
theorem f12 : ∀ b, b < 256 → f2 (f1 b) % 16 ≤ 4 ∧ f2 (f1 b) / 16 ≤ 4 ∧ f2 (f1 b) % 16 + f2 (f1 b) / 16 = pop 8 b := by decide +kernel

/-- A number below 2 to the 64 by its bytes. -/
theorem by8_of (x : Nat) (hx : x < 18446744073709551616) : x = by8 (x % 256) (x / 256 % 256) (x / 65536 % 256) (x / 16777216 % 256) (x / 4294967296 % 256) (x / 1099511627776 % 256) (x / 281474976710656 % 256) (x / 72057594037927936) := by
  unfold by8
  omega
theorem ones_by8 {a b c d e f g h : Nat} (ha : a < 256) (hb : b < 256) (hc : c < 256) (hd : d < 256) (he : e < 256) (hf : f < 256) (hg : g < 256) :
    ones (by8 a b c d e f g h) = pop 8 a + (pop 8 b + (pop 8 c + (pop 8 d + (pop 8 e + (pop 8 f + (pop 8 g + pop 8 h)))))) := by
  have step : ∀ (n p q : Nat), p < 256 → pop (8 + n) (p + 256 * q) = pop 8 p + pop n q := by
    intro n p q hp
    rw [pop_add, ← pop_mod 8 (p + 256 * q)]
    have e : (2 : Nat) ^ 8 = 256 := by decide
    rw [e, show (p + 256 * q) % 256 = p by omega, show (p + 256 * q) / 256 = q by omega]
  unfold ones by8
  rw [show (64 : Nat) = 8 + 56 by decide, step _ _ _ ha, show (56 : Nat) = 8 + 48 by decide, step _ _ _ hb, show (48 : Nat) = 8 + 40 by decide, step _ _ _ hc, show (40 : Nat) = 8 + 32 by decide, step _ _ _ hd,
    show (32 : Nat) = 8 + 24 by decide, step _ _ _ he, show (24 : Nat) = 8 + 16 by decide, step _ _ _ hf, show (16 : Nat) = 8 + 8 by decide, step _ _ _ hg]

def s1 (x : Nat) : Nat := (x / 2 &&& 6148914691236517205) + (x &&& 6148914691236517205)
def s2 (x : Nat) : Nat := (x / 4 &&& 3689348814741910323) + (x &&& 3689348814741910323)
def s3 (x : Nat) : Nat := (x / 16 + x) &&& 1085102592571150095
theorem s1_by8 {a b c d e f g h : Nat} (ha : a < 256) (hb : b < 256) (hc : c < 256) (hd : d < 256) (he : e < 256) (hf : f < 256) (hg : g < 256) (hh : h < 256) :
    s1 (by8 a b c d e f g h) = by8 (f1 a) (f1 b) (f1 c) (f1 d) (f1 e) (f1 f) (f1 g) (f1 h) := by
  have e0 : by8 a b c d e f g h / 2 = by8 (a / 2 + b % 2 * 128) (b / 2 + c % 2 * 128) (c / 2 + d % 2 * 128) (d / 2 + e % 2 * 128) (e / 2 + f % 2 * 128) (f / 2 + g % 2 * 128) (g / 2 + h % 2 * 128) (h / 2 + 0 * 128) := by
    unfold by8; omega
  have m : 6148914691236517205 = by8 85 85 85 85 85 85 85 85 := by decide
  unfold s1
  rw [e0, m, and_by8 85 (by decide) (by omega) (by omega) (by omega) (by omega) (by omega) (by omega) (by omega), and_by8 85 (by decide) ha hb hc hd he hf hg,
    f1_low a ha _ (by omega), f1_low b hb _ (by omega), f1_low c hc _ (by omega), f1_low d hd _ (by omega), f1_low e he _ (by omega), f1_low f hf _ (by omega), f1_low g hg _ (by omega), f1_low h hh 0 (by omega)]
  unfold by8 f1
  omega
theorem s2_by8 {a b c d e f g h : Nat} (ha : a < 256) (hb : b < 256) (hc : c < 256) (hd : d < 256) (he : e < 256) (hf : f < 256) (hg : g < 256) (hh : h < 256) :
    s2 (by8 a b c d e f g h) = by8 (f2 a) (f2 b) (f2 c) (f2 d) (f2 e) (f2 f) (f2 g) (f2 h) := by
  have e0 : by8 a b c d e f g h / 4 = by8 (a / 4 + b % 4 * 64) (b / 4 + c % 4 * 64) (c / 4 + d % 4 * 64) (d / 4 + e % 4 * 64) (e / 4 + f % 4 * 64) (f / 4 + g % 4 * 64) (g / 4 + h % 4 * 64) (h / 4 + 0 * 64) := by
    unfold by8; omega
  have m : 3689348814741910323 = by8 51 51 51 51 51 51 51 51 := by decide
  unfold s2
  rw [e0, m, and_by8 51 (by decide) (by omega) (by omega) (by omega) (by omega) (by omega) (by omega) (by omega), and_by8 51 (by decide) ha hb hc hd he hf hg,
    f2_low a ha _ (by omega), f2_low b hb _ (by omega), f2_low c hc _ (by omega), f2_low d hd _ (by omega), f2_low e he _ (by omega), f2_low f hf _ (by omega), f2_low g hg _ (by omega), f2_low h hh 0 (by omega)]
  unfold by8 f2
  omega
theorem by8_add {a b c d e f g h a' b' c' d' e' f' g' h' : Nat} : by8 a b c d e f g h + by8 a' b' c' d' e' f' g' h' = by8 (a + a') (b + b') (c + c') (d + d') (e + e') (f + f') (g + g') (h + h') := by
  unfold by8
  omega
theorem s3_by8 {a b c d e f g h : Nat} (ha : a % 16 ≤ 4 ∧ a / 16 ≤ 4) (hb : b % 16 ≤ 4 ∧ b / 16 ≤ 4) (hc : c % 16 ≤ 4 ∧ c / 16 ≤ 4) (hd : d % 16 ≤ 4 ∧ d / 16 ≤ 4) (he : e % 16 ≤ 4 ∧ e / 16 ≤ 4) (hf : f % 16 ≤ 4 ∧ f / 16 ≤ 4) (hg : g % 16 ≤ 4 ∧ g / 16 ≤ 4) (hh : h % 16 ≤ 4 ∧ h / 16 ≤ 4) :
    s3 (by8 a b c d e f g h) = by8 (a % 16 + a / 16) (b % 16 + b / 16) (c % 16 + c / 16) (d % 16 + d / 16) (e % 16 + e / 16) (f % 16 + f / 16) (g % 16 + g / 16) (h % 16 + h / 16) := by
  have e1 : by8 a b c d e f g h / 16 = by8 (a / 16 + b % 16 * 16) (b / 16 + c % 16 * 16) (c / 16 + d % 16 * 16) (d / 16 + e % 16 * 16) (e / 16 + f % 16 * 16) (f / 16 + g % 16 * 16) (g / 16 + h % 16 * 16) (h / 16 + 0 * 16) := by
    unfold by8; omega
  have m : 1085102592571150095 = by8 15 15 15 15 15 15 15 15 := by decide
  have e15 : ∀ n, n &&& 15 = n % 16 := fun n => Nat.and_two_pow_sub_one_eq_mod n 4
  have k : ∀ p q, p % 16 ≤ 4 → p / 16 ≤ 4 → (p / 16 + q * 16 + p) % 16 = p % 16 + p / 16 := by omega
  unfold s3
  rw [e1, by8_add, m, and_by8 15 (by decide) (by omega) (by omega) (by omega) (by omega) (by omega) (by omega) (by omega)]
  simp only [e15]
  rw [k a _ ha.1 ha.2, k b _ hb.1 hb.2, k c _ hc.1 hc.2, k d _ hd.1 hd.2, k e _ he.1 he.2, k f _ hf.1 hf.2, k g _ hg.1 hg.2, k h _ hh.1 hh.2]
theorem by8_div {a b c d e f g h : Nat} (ha : a < 256) : by8 a b c d e f g h / 256 = by8 b c d e f g h 0 := by
  have e : by8 a b c d e f g h = a + 256 * by8 b c d e f g h 0 := by unfold by8; omega
  rw [e]
  omega
theorem by8_mod {a b c d e f g h : Nat} (ha : a < 128) : by8 a b c d e f g h % 128 = a := by
  unfold by8
  generalize b + 256 * (c + 256 * (d + 256 * (e + 256 * (f + 256 * (g + 256 * h))))) = R
  omega
theorem by8_lt {a b c d e f g h : Nat} (ha : a < 256) (hb : b < 256) (hc : c < 256) (hd : d < 256) (he : e < 256) (hf : f < 256) (hg : g < 256) (hh : h < 256) : by8 a b c d e f g h < 18446744073709551616 := by
  unfold by8
  omega
theorem s_tail {a b c d e f g h : Nat} (ha : a ≤ 8) (hb : b ≤ 8) (hc : c ≤ 8) (hd : d ≤ 8) (he : e ≤ 8) (hf : f ≤ 8) (hg : g ≤ 8) (hh : h ≤ 8) (u1 u2 u3 : Nat)
    (h1 : u1 = by8 a b c d e f g h + by8 a b c d e f g h / 256) (h2 : u2 = u1 + u1 / 65536) (h3 : u3 = u2 + u2 / 4294967296) : u3 % 128 = a + (b + (c + (d + (e + (f + (g + h)))))) ∧ u1 < 18446744073709551616 ∧ u2 < 18446744073709551616 ∧ u3 < 18446744073709551616 := by
  rw [by8_div (by omega), by8_add] at h1
  have d2 : u1 / 65536 = u1 / 256 / 256 := by rw [Nat.div_div_eq_div_mul]
  rw [d2, h1, by8_div (by omega), by8_div (by omega), by8_add] at h2
  have d3 : u2 / 4294967296 = u2 / 256 / 256 / 256 / 256 := by rw [Nat.div_div_eq_div_mul, Nat.div_div_eq_div_mul, Nat.div_div_eq_div_mul]
  rw [d3, h2, by8_div (by omega), by8_div (by omega), by8_div (by omega), by8_div (by omega), by8_add] at h3
  refine ⟨?_, ?_, ?_, ?_⟩
  · rw [h3, by8_mod (by omega)]
    omega
  · rw [h1]; exact by8_lt (by omega) (by omega) (by omega) (by omega) (by omega) (by omega) (by omega) (by omega)
  · rw [h2]; exact by8_lt (by omega) (by omega) (by omega) (by omega) (by omega) (by omega) (by omega) (by omega)
  · rw [h3]; exact by8_lt (by omega) (by omega) (by omega) (by omega) (by omega) (by omega) (by omega) (by omega)

/-- What OnesCount64 reckons, in plain numbers. -/
theorem swar (x : Nat) (hx : x < 18446744073709551616) (u u1 u2 u3 : Nat) (h0 : u = s3 (s2 (s1 x))) (h1 : u1 = u + u / 256) (h2 : u2 = u1 + u1 / 65536) (h3 : u3 = u2 + u2 / 4294967296) :
    s1 x < 18446744073709551616 ∧ s2 (s1 x) < 18446744073709551616 ∧ s2 (s1 x) / 16 + s2 (s1 x) < 18446744073709551616 ∧ u < 18446744073709551616 ∧ u1 < 18446744073709551616 ∧ u2 < 18446744073709551616 ∧ u3 < 18446744073709551616 ∧ u3 % 128 = ones x := by
  have hx8 := by8_of x hx
  have ha : x % 256 < 256 := Nat.mod_lt _ (by decide)
  have hb : x / 256 % 256 < 256 := Nat.mod_lt _ (by decide)
  have hc : x / 65536 % 256 < 256 := Nat.mod_lt _ (by decide)
  have hd : x / 16777216 % 256 < 256 := Nat.mod_lt _ (by decide)
  have he : x / 4294967296 % 256 < 256 := Nat.mod_lt _ (by decide)
  have hf : x / 1099511627776 % 256 < 256 := Nat.mod_lt _ (by decide)
  have hg : x / 281474976710656 % 256 < 256 := Nat.mod_lt _ (by decide)
  have hh : x / 72057594037927936 < 256 := by omega
  generalize x % 256 = a at *
  generalize x / 256 % 256 = b at *
  generalize x / 65536 % 256 = c at *
  generalize x / 16777216 % 256 = d at *
  generalize x / 4294967296 % 256 = e at *
  generalize x / 1099511627776 % 256 = f at *
  generalize x / 281474976710656 % 256 = g at *
  generalize x / 72057594037927936 = h at *
  subst hx8
  have r1 := s1_by8 ha hb hc hd he hf hg hh
  have r2 := s2_by8 (f1_lt a ha) (f1_lt b hb) (f1_lt c hc) (f1_lt d hd) (f1_lt e he) (f1_lt f hf) (f1_lt g hg) (f1_lt h hh)
  obtain ⟨a1, a2, a3⟩ := f12 a ha
  obtain ⟨b1, b2, b3⟩ := f12 b hb
  obtain ⟨c1, c2, c3⟩ := f12 c hc
  obtain ⟨d1, d2, d3⟩ := f12 d hd
  obtain ⟨e1, e2, e3⟩ := f12 e he
  obtain ⟨g1, g2, g3⟩ := f12 f hf
  obtain ⟨i1, i2, i3⟩ := f12 g hg
  obtain ⟨j1, j2, j3⟩ := f12 h hh
  have r3 := s3_by8 ⟨a1, a2⟩ ⟨b1, b2⟩ ⟨c1, c2⟩ ⟨d1, d2⟩ ⟨e1, e2⟩ ⟨g1, g2⟩ ⟨i1, i2⟩ ⟨j1, j2⟩
  rw [r1, r2, r3] at h0
  subst h0
  obtain ⟨t1, t2, t3, t4⟩ := s_tail (by omega) (by omega) (by omega) (by omega) (by omega) (by omega) (by omega) (by omega) u1 u2 u3 h1 h2 h3
  have z2 : by8 (f2 (f1 a)) (f2 (f1 b)) (f2 (f1 c)) (f2 (f1 d)) (f2 (f1 e)) (f2 (f1 f)) (f2 (f1 g)) (f2 (f1 h)) < 4919131752989213765 := by
    unfold by8
    omega
  rw [r1, r2, ones_by8 ha hb hc hd he hf hg, t1, a3, b3, c3, d3, e3, g3, i3, j3]
  refine ⟨by8_lt (f1_lt a ha) (f1_lt b hb) (f1_lt c hc) (f1_lt d hd) (f1_lt e he) (f1_lt f hf) (f1_lt g hg) (f1_lt h hh), by omega, by omega, ?_, t2, t3, t4, rfl⟩
  exact by8_lt (by omega) (by omega) (by omega) (by omega) (by omega) (by omega) (by omega) (by omega)
attribute [irreducible] ones
end Go.Proofs.YtpbahbigimnboaaDoor
