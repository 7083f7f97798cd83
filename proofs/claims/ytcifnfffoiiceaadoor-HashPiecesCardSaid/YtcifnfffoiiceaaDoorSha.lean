/-
  One step of the hash, as plain functions on words. No program in sight.
-/
import Derived.Test.YtcifnfffoiiceaaDoorBase
namespace Go.Proofs.YtcifnfffoiiceaaDoor
set_option linter.unusedVariables false

/-- Turned right; the three sums bit by bit. -/
def rotN (x n : Nat) : Nat := x / 2 ^ n + x % 2 ^ n * 2 ^ (32 - n)
def xorN (x y z : Nat) : Nat := x ^^^ y ^^^ z
def notN (x : Nat) : Nat := 4294967295 - x
def chN (x y z : Nat) : Nat := (x &&& y) ^^^ (notN x &&& z)
def majN (x y z : Nat) : Nat := (x &&& y) ^^^ (x &&& z) ^^^ (y &&& z)
def s0N (x : Nat) : Nat := xorN (rotN x 7) (rotN x 18) (x / 2 ^ 3)
def s1N (x : Nat) : Nat := xorN (rotN x 17) (rotN x 19) (x / 2 ^ 10)
def b0N (x : Nat) : Nat := xorN (rotN x 2) (rotN x 13) (rotN x 22)
def b1N (x : Nat) : Nat := xorN (rotN x 6) (rotN x 11) (rotN x 25)
theorem rotN_lt {x n : Nat} (hx : x < 4294967296) (hn : n ≤ 32) : rotN x n < 4294967296 := by
  unfold rotN
  have e : (4294967296 : Nat) = 2 ^ n * 2 ^ (32 - n) := by rw [← Nat.pow_add, show n + (32 - n) = 32 by omega]
  have h1 := Nat.mod_lt x (Nat.two_pow_pos n)
  have h2 : x / 2 ^ n < 2 ^ (32 - n) := Nat.div_lt_of_lt_mul (by rw [← e]; exact hx)
  rw [e]
  have : (x % 2 ^ n + 1) * 2 ^ (32 - n) ≤ 2 ^ n * 2 ^ (32 - n) := Nat.mul_le_mul_right _ h1
  rw [Nat.add_mul, Nat.one_mul] at this
  omega
theorem xor_lt32 {x y : Nat} (hx : x < 4294967296) (hy : y < 4294967296) : x ^^^ y < 4294967296 := Nat.xor_lt_two_pow (n := 32) hx hy
theorem and_lt32 {x y : Nat} (hx : x < 4294967296) : x &&& y < 4294967296 := Nat.lt_of_le_of_lt Nat.and_le_left hx
theorem xorN_lt {x y z : Nat} (hx : x < 4294967296) (hy : y < 4294967296) (hz : z < 4294967296) : xorN x y z < 4294967296 := xor_lt32 (xor_lt32 hx hy) hz
theorem chN_lt {x y z : Nat} (hx : x < 4294967296) : chN x y z < 4294967296 := xor_lt32 (and_lt32 hx) (and_lt32 (by unfold notN; omega))
theorem majN_lt {x y z : Nat} (hx : x < 4294967296) (hy : y < 4294967296) : majN x y z < 4294967296 := xor_lt32 (xor_lt32 (and_lt32 hx) (and_lt32 hx)) (and_lt32 hy)
theorem shr_lt {x n : Nat} (hx : x < 4294967296) : x / 2 ^ n < 4294967296 := Nat.lt_of_le_of_lt (Nat.div_le_self _ _) hx
theorem s0N_lt {x : Nat} (hx : x < 4294967296) : s0N x < 4294967296 := xorN_lt (rotN_lt hx (by decide)) (rotN_lt hx (by decide)) (shr_lt hx)
theorem s1N_lt {x : Nat} (hx : x < 4294967296) : s1N x < 4294967296 := xorN_lt (rotN_lt hx (by decide)) (rotN_lt hx (by decide)) (shr_lt hx)
theorem b0N_lt {x : Nat} (hx : x < 4294967296) : b0N x < 4294967296 := xorN_lt (rotN_lt hx (by decide)) (rotN_lt hx (by decide)) (rotN_lt hx (by decide))
theorem b1N_lt {x : Nat} (hx : x < 4294967296) : b1N x < 4294967296 := xorN_lt (rotN_lt hx (by decide)) (rotN_lt hx (by decide)) (rotN_lt hx (by decide))

/-- A number's lowest i + 1 bits out of its lowest i. -/
theorem mod_step (v i : Nat) : v % 2 ^ (i + 1) = v % 2 ^ i + 2 ^ i * (v / 2 ^ i % 2) := by
  rw [Nat.pow_succ, Nat.mod_mul]
theorem bitOf (v i : Nat) : v / 2 ^ i % 2 = (v.testBit i).toNat := (Nat.toNat_testBit v i).symm
theorem xor_bit (x y z i : Nat) : xorN x y z / 2 ^ i % 2 = (x / 2 ^ i % 2 + y / 2 ^ i % 2 + z / 2 ^ i % 2) % 2 := by
  simp only [bitOf, xorN, Nat.testBit_xor]
  cases x.testBit i <;> cases y.testBit i <;> cases z.testBit i <;> rfl
theorem maj_bit (x y z i : Nat) : majN x y z / 2 ^ i % 2 = (x / 2 ^ i % 2 + y / 2 ^ i % 2 + z / 2 ^ i % 2) / 2 := by
  simp only [bitOf, majN, Nat.testBit_xor, Nat.testBit_and]
  cases x.testBit i <;> cases y.testBit i <;> cases z.testBit i <;> rfl
theorem not_bit {x i : Nat} (hx : x < 4294967296) (hi : i < 32) : (notN x).testBit i = !x.testBit i := by
  unfold notN
  have e : 4294967295 - x = 2 ^ 32 - (x + 1) := by
    have : (2 : Nat) ^ 32 = 4294967296 := by decide
    omega
  rw [e, Nat.testBit_two_pow_sub_succ (by exact hx)]
  simp [hi]
theorem ch_bit {x y z i : Nat} (hx : x < 4294967296) (hi : i < 32) : chN x y z / 2 ^ i % 2 = if x / 2 ^ i % 2 = 1 then y / 2 ^ i % 2 else z / 2 ^ i % 2 := by
  simp only [bitOf, chN, Nat.testBit_xor, Nat.testBit_and, not_bit hx hi]
  cases x.testBit i <;> cases y.testBit i <;> cases z.testBit i <;> rfl
theorem mod_32 {v : Nat} (hv : v < 4294967296) : v % 2 ^ 32 = v := Nat.mod_eq_of_lt hv

/-- Eight words. -/
structure St where
  a : Nat
  b : Nat
  c : Nat
  d : Nat
  e : Nat
  f : Nat
  g : Nat
  h : Nat
def St.Ok (s : St) : Prop := s.a < 4294967296 ∧ s.b < 4294967296 ∧ s.c < 4294967296 ∧ s.d < 4294967296 ∧ s.e < 4294967296 ∧ s.f < 4294967296 ∧ s.g < 4294967296 ∧ s.h < 4294967296
def t1N (k m : Nat) (s : St) : Nat := (s.h + b1N s.e + chN s.e s.f s.g + k + m) % 4294967296
def t2N (s : St) : Nat := (b0N s.a + majN s.a s.b s.c) % 4294967296
def roundN (k m : Nat) (s : St) : St := ⟨(t1N k m s + t2N s) % 4294967296, s.a, s.b, s.c, (s.d + t1N k m s) % 4294967296, s.e, s.f, s.g⟩
theorem round_ok {k m : Nat} {s : St} (h : s.Ok) : (roundN k m s).Ok := by
  obtain ⟨h1, h2, h3, h4, h5, h6, h7, h8⟩ := h
  exact ⟨Nat.mod_lt _ (by decide), h1, h2, h3, Nat.mod_lt _ (by decide), h5, h6, h7⟩
attribute [irreducible] rotN xorN chN majN s0N s1N b0N b1N roundN t1N t2N
/-- The schedule's next word. -/
def nextW (l : List Nat) : Nat := (s1N (l.getD (l.length - 2) 0) + l.getD (l.length - 7) 0 + s0N (l.getD (l.length - 15) 0) + l.getD (l.length - 16) 0) % 4294967296
theorem nextW_lt (l : List Nat) : nextW l < 4294967296 := Nat.mod_lt _ (by decide)
attribute [irreducible] nextW
/-- The schedule: n words more. -/
def schedN (n : Nat) (l : List Nat) : List Nat := (List.range n).foldl (fun l _ => l ++ [nextW l]) l
theorem sched_zero (l : List Nat) : schedN 0 l = l := rfl
theorem sched_succ (n : Nat) (l : List Nat) : schedN (n + 1) l = schedN n l ++ [nextW (schedN n l)] := by
  unfold schedN
  rw [List.range_succ, List.foldl_append]
  rfl
theorem sched_len (n : Nat) (l : List Nat) : (schedN n l).length = l.length + n := by
  induction n with
  | zero => rfl
  | succ n ih => rw [sched_succ, List.length_append, ih]; rfl
def Words (l : List Nat) : Prop := ∀ x ∈ l, x < 4294967296
theorem sched_words {n : Nat} {l : List Nat} (h : Words l) : Words (schedN n l) := by
  induction n with
  | zero => exact h
  | succ n ih =>
    intro x hx
    rw [sched_succ, List.mem_append, List.mem_singleton] at hx
    rcases hx with hx | rfl
    · exact ih x hx
    · exact nextW_lt _
attribute [irreducible] schedN
/-- n rounds, from the first on. -/
def roundsN (K W : List Nat) (n : Nat) (s : St) : St := (List.range n).foldl (fun s i => roundN (K.getD i 0) (W.getD i 0) s) s
theorem rounds_zero (K W : List Nat) (s : St) : roundsN K W 0 s = s := rfl
theorem rounds_succ' (K W : List Nat) (n : Nat) (s : St) : roundsN K W (n + 1) s = roundN (K.getD n 0) (W.getD n 0) (roundsN K W n s) := by
  unfold roundsN
  rw [List.range_succ, List.foldl_append]
  rfl
theorem rounds_ok (K W : List Nat) {s : St} (h : s.Ok) (n : Nat) : (roundsN K W n s).Ok := by
  induction n with
  | zero => exact h
  | succ n ih => rw [rounds_succ']; exact round_ok ih
attribute [irreducible] roundsN
/-- Bytes as words, the highest byte first, and back. -/
def wordsN : List Nat → List Nat
  | a :: b :: c :: d :: l => (((a * 256 + b) * 256 + c) * 256 + d) :: wordsN l
  | _ => []
def bytesN : List Nat → List Nat
  | [] => []
  | x :: l => (x / 16777216 % 256) :: (x / 65536 % 256) :: (x / 256 % 256) :: (x % 256) :: bytesN l
/-- The bytes from the w-th on are 0. -/
def widthN (w : Int) : Nat := if w < 1 then 1 else if 32 < w then 32 else w.toNat
def cutL (w : Int) (l : List Nat) : List Nat := l.take (widthN w) ++ List.replicate (l.length - widthN w) 0
def stOf (l : List Nat) : St := ⟨l.getD 0 0, l.getD 1 0, l.getD 2 0, l.getD 3 0, l.getD 4 0, l.getD 5 0, l.getD 6 0, l.getD 7 0⟩
def listOf (s : St) : List Nat := [s.a, s.b, s.c, s.d, s.e, s.f, s.g, s.h]
def tableK : List Nat := [
  0x428a2f98, 0x71374491, 0xb5c0fbcf, 0xe9b5dba5, 0x3956c25b, 0x59f111f1, 0x923f82a4, 0xab1c5ed5,
  0xd807aa98, 0x12835b01, 0x243185be, 0x550c7dc3, 0x72be5d74, 0x80deb1fe, 0x9bdc06a7, 0xc19bf174,
  0xe49b69c1, 0xefbe4786, 0x0fc19dc6, 0x240ca1cc, 0x2de92c6f, 0x4a7484aa, 0x5cb0a9dc, 0x76f988da,
  0x983e5152, 0xa831c66d, 0xb00327c8, 0xbf597fc7, 0xc6e00bf3, 0xd5a79147, 0x06ca6351, 0x14292967,
  0x27b70a85, 0x2e1b2138, 0x4d2c6dfc, 0x53380d13, 0x650a7354, 0x766a0abb, 0x81c2c92e, 0x92722c85,
  0xa2bfe8a1, 0xa81a664b, 0xc24b8b70, 0xc76c51a3, 0xd192e819, 0xd6990624, 0xf40e3585, 0x106aa070,
  0x19a4c116, 0x1e376c08, 0x2748774c, 0x34b0bcb5, 0x391c0cb3, 0x4ed8aa4a, 0x5b9cca4f, 0x682e6ff3,
  0x748f82ee, 0x78a5636f, 0x84c87814, 0x8cc70208, 0x90befffa, 0xa4506ceb, 0xbef9a3f7, 0xc67178f2]
/-- One step of the hash. -/
def compressN (w : Int) (state block : List Nat) : List Nat :=
  let v := wordsN state
  let s := listOf (roundsN tableK (schedN 48 (wordsN block)) 64 (stOf v))
  cutL w (bytesN ((List.range 8).map fun i => (v.getD i 0 + s.getD i 0) % 4294967296))
attribute [irreducible] compressN
end Go.Proofs.YtcifnfffoiiceaaDoor
