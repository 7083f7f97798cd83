/-
  Parent, Sibling, Kids, Right, by the program and by the reference.
-/
import Derived.Test.YtkiomgnjjijbgaaUnder
namespace Go.Proofs.Ytkiomgnjjijbgaa
open Go.RowKit
set_option linter.unusedVariables false

theorem size_spot (a b : Value) : (Try.prog.info? 24).map (·.size) = some #[a, b].size := by
  show _ = some 2
  kernel_rfl
def sibN (y : Nat) : Nat := if y % 2 = 1 then y - 1 else y + 1
theorem xor_one (y : Nat) : y ^^^ 1 = sibN y := by
  have h1 : (y ^^^ 1) / 2 = y / 2 := by rw [Nat.xor_div_two]; simp
  have h2 : (y ^^^ 1) % 2 = (y + 1) % 2 := by
    have h := Nat.xor_mod_two_pow (a := y) (b := 1) (n := 1)
    rw [Nat.pow_one] at h
    rw [h]
    rcases (show y % 2 = 0 ∨ y % 2 = 1 by omega) with h | h
    · rw [h, show (y + 1) % 2 = 1 by omega]; decide
    · rw [h, show (y + 1) % 2 = 0 by omega]; decide
  unfold sibN
  generalize y ^^^ 1 = z at *
  split <;> omega
theorem sib_lt {y : Nat} (h : y < 4611686018427387904) : sibN y < 4611686018427387904 := by unfold sibN; split <;> omega
theorem xor1_u64 {y : Nat} (h : y < 4611686018427387904) : bits .xor .u64 (y : Int) 1 = ((sibN y : Nat) : Int) := by
  have := u64_xor_nat y 1 (by omega) (by decide)
  rw [xor_one] at this
  exact this
theorem right_sib {x y : Nat} (r : Right x y) (hx : x < 62) : Right x (sibN y) := by
  refine ⟨r.1, ?_⟩
  have h2 := r.2
  have e : 62 - x = (61 - x) + 1 := by omega
  rw [e, Nat.pow_succ] at h2 ⊢
  generalize 2 ^ (61 - x) = q at *
  unfold sibN
  split <;> omega
theorem right_up {x y : Nat} (r : Right x y) (hx : x < 62) : Right (x + 1) (y / 2) := by
  refine ⟨by omega, ?_⟩
  have h2 := r.2
  have e : 62 - x = (62 - (x + 1)) + 1 := by omega
  rw [e, Nat.pow_succ] at h2
  generalize 2 ^ (62 - (x + 1)) = q at *
  omega
attribute [irreducible] sibN

theorem up_any {x y : Nat} (hx : x < 62) (hy : y < 4611686018427387904) (w : World) :
    Calls Try.prog 49 #[spotV x y] w fun e w' => e = .returned (spotV (x + 1) (y / 2)) ∧ Below w.heap.size w w' := by
  unfold spotV
  have i1 : (x : Int) ≤ 61 := by omega
  clear hx hy
  go_enter Try.func49, Try.ntmps49
  go_wp2
  refine bodyPost_ret (results_cell_row rfl _ _ (w.heap.size + 1) 24 _ (0, 0) _ rfl (by have := heap_alloc_new (w.alloc (.cells #[.int .u8 (x : Int), .int .u64 (y : Int)] 24 (0, 0))) (.cells #[.int .u8 ((x : Int) + 1), .int .u64 ((y : Int) / 2)] 24 (0, 0)); simpa using this) Try.underlying24 rfl (size_spot _ _)) rfl ⟨rfl, ((Below.refl _ _).alloc (Nat.le_refl _) _).alloc (by simp) _⟩
theorem side_any {x y : Nat} (hx : x < 62) (hy : y < 4611686018427387904) (w : World) :
    Calls Try.prog 50 #[spotV x y] w fun e w' => e = .returned (spotV x (sibN y)) ∧ Below w.heap.size w w' := by
  unfold spotV
  have i1 : (x : Int) ≤ 61 := by omega
  have A1 := xor1_u64 hy
  generalize sibN y = z at *
  clear hx hy
  go_enter Try.func50, Try.ntmps50
  go_wp2
  refine bodyPost_ret (results_cell_row rfl _ _ (w.heap.size + 1) 24 _ (0, 0) _ rfl (by have := heap_alloc_new (w.alloc (.cells #[.int .u8 (x : Int), .int .u64 (y : Int)] 24 (0, 0))) (.cells #[.int .u8 (x : Int), .int .u64 (z : Int)] 24 (0, 0)); simpa using this) Try.underlying24 rfl (size_spot _ _)) rfl ⟨rfl, ((Below.refl _ _).alloc (Nat.le_refl _) _).alloc (by simp) _⟩

theorem kinParent_no {p x y : Nat} {c : Bool} (S : Says p x y c) (h : c = false ∨ x = 62) (w : World) :
    Calls Try.prog 48 #[.int .u64 p, .func (.func 49) #[] #[]] w fun e w' => e = .returned (.tuple #[.int .u64 0, .bool false]) ∧ Below w.heap.size w w' := by
  rcases h with rfl | rfl
  · go_enter Try.func48, Try.ntmps48
    go_wp2_with fail
    refine (S _).mono ?_
    rintro e w1 ⟨rfl, q1⟩
    unfold spotV
    have s1 := q1.size
    go_wp2
    go_ret2
    exact ⟨rfl, q1.alloc s1 _⟩
  · cases c with
    | false =>
      go_enter Try.func48, Try.ntmps48
      go_wp2_with fail
      refine (S _).mono ?_
      rintro e w1 ⟨rfl, q1⟩
      unfold spotV
      have s1 := q1.size
      go_wp2
      go_ret2
      exact ⟨rfl, q1.alloc s1 _⟩
    | true =>
      go_enter Try.func48, Try.ntmps48
      go_wp2_with fail
      refine (S _).mono ?_
      rintro e w1 ⟨rfl, q1⟩
      unfold spotV
      have s1 := q1.size
      go_wp2
      go_ret2
      exact ⟨rfl, q1.alloc s1 _⟩
theorem kinParent_yes {p x y : Nat} (S : Says p x y true) (r : Right x y) (hx : x < 62) (w : World) :
    Calls Try.prog 48 #[.int .u64 p, .func (.func 49) #[] #[]] w fun e w' => e = .returned (.tuple #[.int .u64 (placeN (x + 1) (y / 2)), .bool true]) ∧ Below w.heap.size w w' := by
  have i1 : ((x : Int) == 62) = false := beq_eq_false_iff_ne.2 (by omega)
  have hy := right_k r
  have U := up_any hx hy
  have P := Place_yes (right_up r hx)
  clear hx hy r
  go_enter Try.func48, Try.ntmps48
  go_wp2_with fail
  refine (S _).mono ?_
  rintro e w1 ⟨rfl, q1⟩
  unfold spotV
  have s1 := q1.size
  go_wp2_with fail
  refine (U _).mono ?_
  rintro e w2 ⟨rfl, q2⟩
  unfold spotV
  have r1 := q1.alloc s1 (.cells #[.int .u8 (x : Int), .int .u64 (y : Int)] 24 (0, 0))
  have r2 := r1.trans (q2.mono r1.size)
  clear q1 q2 r1 s1
  go_wp2_with fail
  refine (P _).mono ?_
  rintro e w3 ⟨rfl, q3⟩
  have r3 := r2.trans (q3.mono r2.size)
  clear r2 q3
  go_wp2
  go_ret2
  exact ⟨rfl, r3⟩
def nParent (x y : Nat) (c : Bool) : Nat × Bool := if c = true ∧ x < 62 then (placeN (x + 1) (y / 2), true) else (0, false)
theorem Parent_any {p x y : Nat} {c : Bool} (S : Says p x y c) (R : c = true → Right x y ∧ placeN x y = p) (w : World) :
    Calls Try.prog 31 #[.int .u64 p] w fun e w' => e = .returned (.tuple #[.int .u64 (nParent x y c).1, .bool (nParent x y c).2]) ∧ Below w.heap.size w w' := by
  have K : ∃ (a : Nat) (d : Bool), nParent x y c = (a, d) ∧ ∀ w : World, Calls Try.prog 48 #[.int .u64 p, .func (.func 49) #[] #[]] w fun e w' => e = .returned (.tuple #[.int .u64 a, .bool d]) ∧ Below w.heap.size w w' := by
    cases c with
    | false => exact ⟨0, false, by unfold nParent; rw [if_neg (by simp)], kinParent_no S (.inl rfl)⟩
    | true =>
      have r := (R rfl).1
      by_cases hx : x < 62
      · exact ⟨_, true, by unfold nParent; rw [if_pos ⟨rfl, hx⟩], kinParent_yes S r hx⟩
      · exact ⟨0, false, by unfold nParent; rw [if_neg (by simp [hx])], kinParent_no S (.inr (by have := r.1; omega))⟩
  obtain ⟨a, d, e, K⟩ := K
  rw [e]
  clear e S R
  go_enter Try.func31, Try.ntmps31
  go_wp2_with fail
  refine (K _).mono ?_
  rintro e w1 ⟨rfl, q1⟩
  go_wp2
  go_ret2
  exact ⟨rfl, q1⟩
theorem refParent_no {p x y : Nat} {c : Bool} (S : RefSays p x y c) (h : c = false ∨ x = 62) (w : World) :
    Calls Try.prog 32 #[.int .u64 p] w fun e w' => e = .returned (.tuple #[.int .u64 0, .bool false]) ∧ Below w.heap.size w w' := by
  cases c with
  | false =>
    go_enter Try.func32, Try.ntmps32
    go_wp2_with fail
    refine (S _).mono ?_
    rintro e w1 ⟨rfl, q1⟩
    unfold spotV
    have s1 := q1.size
    go_wp2
    go_ret2
    exact ⟨rfl, q1.alloc s1 _⟩
  | true =>
    obtain rfl : x = 62 := by
      rcases h with h | h
      · cases h
      · exact h
    go_enter Try.func32, Try.ntmps32
    go_wp2_with fail
    refine (S _).mono ?_
    rintro e w1 ⟨rfl, q1⟩
    unfold spotV
    have s1 := q1.size
    go_wp2
    go_ret2
    exact ⟨rfl, q1.alloc s1 _⟩

theorem kinSibling_no {p x y : Nat} {c : Bool} (S : Says p x y c) (h : c = false ∨ x = 62) (w : World) :
    Calls Try.prog 48 #[.int .u64 p, .func (.func 50) #[] #[]] w fun e w' => e = .returned (.tuple #[.int .u64 0, .bool false]) ∧ Below w.heap.size w w' := by
  rcases h with rfl | rfl
  · go_enter Try.func48, Try.ntmps48
    go_wp2_with fail
    refine (S _).mono ?_
    rintro e w1 ⟨rfl, q1⟩
    unfold spotV
    have s1 := q1.size
    go_wp2
    go_ret2
    exact ⟨rfl, q1.alloc s1 _⟩
  · cases c with
    | false =>
      go_enter Try.func48, Try.ntmps48
      go_wp2_with fail
      refine (S _).mono ?_
      rintro e w1 ⟨rfl, q1⟩
      unfold spotV
      have s1 := q1.size
      go_wp2
      go_ret2
      exact ⟨rfl, q1.alloc s1 _⟩
    | true =>
      go_enter Try.func48, Try.ntmps48
      go_wp2_with fail
      refine (S _).mono ?_
      rintro e w1 ⟨rfl, q1⟩
      unfold spotV
      have s1 := q1.size
      go_wp2
      go_ret2
      exact ⟨rfl, q1.alloc s1 _⟩
theorem kinSibling_yes {p x y : Nat} (S : Says p x y true) (r : Right x y) (hx : x < 62) (w : World) :
    Calls Try.prog 48 #[.int .u64 p, .func (.func 50) #[] #[]] w fun e w' => e = .returned (.tuple #[.int .u64 (placeN x (sibN y)), .bool true]) ∧ Below w.heap.size w w' := by
  have i1 : ((x : Int) == 62) = false := beq_eq_false_iff_ne.2 (by omega)
  have hy := right_k r
  have U := side_any hx hy
  have P := Place_yes (right_sib r hx)
  clear hx hy r
  go_enter Try.func48, Try.ntmps48
  go_wp2_with fail
  refine (S _).mono ?_
  rintro e w1 ⟨rfl, q1⟩
  unfold spotV
  have s1 := q1.size
  go_wp2_with fail
  refine (U _).mono ?_
  rintro e w2 ⟨rfl, q2⟩
  unfold spotV
  have r1 := q1.alloc s1 (.cells #[.int .u8 (x : Int), .int .u64 (y : Int)] 24 (0, 0))
  have r2 := r1.trans (q2.mono r1.size)
  clear q1 q2 r1 s1
  go_wp2_with fail
  refine (P _).mono ?_
  rintro e w3 ⟨rfl, q3⟩
  have r3 := r2.trans (q3.mono r2.size)
  clear r2 q3
  go_wp2
  go_ret2
  exact ⟨rfl, r3⟩
def nSibling (x y : Nat) (c : Bool) : Nat × Bool := if c = true ∧ x < 62 then (placeN x (sibN y), true) else (0, false)
theorem Sibling_any {p x y : Nat} {c : Bool} (S : Says p x y c) (R : c = true → Right x y ∧ placeN x y = p) (w : World) :
    Calls Try.prog 33 #[.int .u64 p] w fun e w' => e = .returned (.tuple #[.int .u64 (nSibling x y c).1, .bool (nSibling x y c).2]) ∧ Below w.heap.size w w' := by
  have K : ∃ (a : Nat) (d : Bool), nSibling x y c = (a, d) ∧ ∀ w : World, Calls Try.prog 48 #[.int .u64 p, .func (.func 50) #[] #[]] w fun e w' => e = .returned (.tuple #[.int .u64 a, .bool d]) ∧ Below w.heap.size w w' := by
    cases c with
    | false => exact ⟨0, false, by unfold nSibling; rw [if_neg (by simp)], kinSibling_no S (.inl rfl)⟩
    | true =>
      have r := (R rfl).1
      by_cases hx : x < 62
      · exact ⟨_, true, by unfold nSibling; rw [if_pos ⟨rfl, hx⟩], kinSibling_yes S r hx⟩
      · exact ⟨0, false, by unfold nSibling; rw [if_neg (by simp [hx])], kinSibling_no S (.inr (by have := r.1; omega))⟩
  obtain ⟨a, d, e, K⟩ := K
  rw [e]
  clear e S R
  go_enter Try.func33, Try.ntmps33
  go_wp2_with fail
  refine (K _).mono ?_
  rintro e w1 ⟨rfl, q1⟩
  go_wp2
  go_ret2
  exact ⟨rfl, q1⟩
theorem refSibling_no {p x y : Nat} {c : Bool} (S : RefSays p x y c) (h : c = false ∨ x = 62) (w : World) :
    Calls Try.prog 34 #[.int .u64 p] w fun e w' => e = .returned (.tuple #[.int .u64 0, .bool false]) ∧ Below w.heap.size w w' := by
  cases c with
  | false =>
    go_enter Try.func34, Try.ntmps34
    go_wp2_with fail
    refine (S _).mono ?_
    rintro e w1 ⟨rfl, q1⟩
    unfold spotV
    have s1 := q1.size
    go_wp2
    go_ret2
    exact ⟨rfl, q1.alloc s1 _⟩
  | true =>
    obtain rfl : x = 62 := by
      rcases h with h | h
      · cases h
      · exact h
    go_enter Try.func34, Try.ntmps34
    go_wp2_with fail
    refine (S _).mono ?_
    rintro e w1 ⟨rfl, q1⟩
    unfold spotV
    have s1 := q1.size
    go_wp2
    go_ret2
    exact ⟨rfl, q1.alloc s1 _⟩

theorem refParent_yes {p x y : Nat} (S : RefSays p x y true) (r : Right x y) (hx : x < 62) (w : World) :
    Calls Try.prog 32 #[.int .u64 p] w fun e w' => e = .returned (.tuple #[.int .u64 (placeN (x + 1) (y / 2)), .bool true]) ∧ Below w.heap.size w w' := by
  have i1 : ((x : Int) == 62) = false := beq_eq_false_iff_ne.2 (by omega)
  have i2 : (x : Int) ≤ 61 := by omega
  have P := refPlace_yes (right_up r hx)
  have hy := right_k r
  have hy2 : y ≤ 4611686018427387903 := by omega
  clear hx hy r
  go_enter Try.func32, Try.ntmps32
  go_wp2_with fail
  refine (S _).mono ?_
  rintro e w1 ⟨rfl, q1⟩
  unfold spotV
  have s1 := q1.size
  go_wp2_with fail
  refine (P _).mono ?_
  rintro e w2 ⟨rfl, q2⟩
  have r1 := q1.alloc s1 (.cells #[.int .u8 (x : Int), .int .u64 (y : Int)] 24 (0, 0))
  have r2 := r1.trans (q2.mono r1.size)
  clear q1 q2 r1 s1
  go_wp2
  go_ret2
  exact ⟨rfl, r2⟩
theorem refSibling_yes {p x y : Nat} (S : RefSays p x y true) (r : Right x y) (hx : x < 62) (w : World) :
    Calls Try.prog 34 #[.int .u64 p] w fun e w' => e = .returned (.tuple #[.int .u64 (placeN x (sibN y)), .bool true]) ∧ Below w.heap.size w w' := by
  have i1 : ((x : Int) == 62) = false := beq_eq_false_iff_ne.2 (by omega)
  have P := refPlace_yes (right_sib r hx)
  have hy := right_k r
  have hy2 : y ≤ 4611686018427387903 := by omega
  clear hx hy r
  by_cases ho : y % 2 = 1
  · have hs : sibN y = y - 1 := by unfold sibN; rw [if_pos ho]
    obtain ⟨k, rfl⟩ : ∃ k, y = k + 1 := ⟨y - 1, by omega⟩
    rw [Nat.add_sub_cancel] at hs
    rw [hs] at P
    rw [hs]
    have o1 : ((k : Int) + 1) % 2 = 1 := by omega
    clear ho hs
    go_enter Try.func34, Try.ntmps34
    go_wp2_with fail
    refine (S _).mono ?_
    rintro e w1 ⟨rfl, q1⟩
    unfold spotV
    have s1 := q1.size
    go_wp2_with fail
    refine (P _).mono ?_
    rintro e w2 ⟨rfl, q2⟩
    have r1 := q1.alloc s1 (.cells #[.int .u8 (x : Int), .int .u64 ((k + 1 : Nat) : Int)] 24 (0, 0))
    have r2 := r1.trans (q2.mono r1.size)
    clear q1 q2 r1 s1
    go_wp2
    go_ret2
    exact ⟨rfl, r2⟩
  · have hs : sibN y = y + 1 := by unfold sibN; rw [if_neg ho]
    rw [hs] at P
    rw [hs]
    have o1 : (y : Int) % 2 = 0 := by omega
    clear ho hs
    go_enter Try.func34, Try.ntmps34
    go_wp2_with fail
    refine (S _).mono ?_
    rintro e w1 ⟨rfl, q1⟩
    unfold spotV
    have s1 := q1.size
    go_wp2_with fail
    refine (P _).mono ?_
    rintro e w2 ⟨rfl, q2⟩
    have r1 := q1.alloc s1 (.cells #[.int .u8 (x : Int), .int .u64 (y : Int)] 24 (0, 0))
    have r2 := r1.trans (q2.mono r1.size)
    clear q1 q2 r1 s1
    go_wp2
    go_ret2
    exact ⟨rfl, r2⟩

theorem refParent_any {p x y : Nat} {c : Bool} (S : RefSays p x y c) (R : c = true → Right x y ∧ placeN x y = p) (w : World) :
    Calls Try.prog 32 #[.int .u64 p] w fun e w' => e = .returned (.tuple #[.int .u64 (nParent x y c).1, .bool (nParent x y c).2]) ∧ Below w.heap.size w w' := by
  cases c with
  | false =>
    have e : nParent x y false = (0, false) := by unfold nParent; rw [if_neg (by simp)]
    rw [e]; exact refParent_no S (.inl rfl) w
  | true =>
    have r := (R rfl).1
    by_cases hx : x < 62
    · have e : nParent x y true = (placeN (x + 1) (y / 2), true) := by unfold nParent; rw [if_pos ⟨rfl, hx⟩]
      rw [e]; exact refParent_yes S r hx w
    · have e : nParent x y true = (0, false) := by unfold nParent; rw [if_neg (by simp [hx])]
      rw [e]; exact refParent_no S (.inr (by have := r.1; omega)) w
attribute [irreducible] nParent

theorem refSibling_any {p x y : Nat} {c : Bool} (S : RefSays p x y c) (R : c = true → Right x y ∧ placeN x y = p) (w : World) :
    Calls Try.prog 34 #[.int .u64 p] w fun e w' => e = .returned (.tuple #[.int .u64 (nSibling x y c).1, .bool (nSibling x y c).2]) ∧ Below w.heap.size w w' := by
  cases c with
  | false =>
    have e : nSibling x y false = (0, false) := by unfold nSibling; rw [if_neg (by simp)]
    rw [e]; exact refSibling_no S (.inl rfl) w
  | true =>
    have r := (R rfl).1
    by_cases hx : x < 62
    · have e : nSibling x y true = (placeN x (sibN y), true) := by unfold nSibling; rw [if_pos ⟨rfl, hx⟩]
      rw [e]; exact refSibling_yes S r hx w
    · have e : nSibling x y true = (0, false) := by unfold nSibling; rw [if_neg (by simp [hx])]
      rw [e]; exact refSibling_no S (.inr (by have := r.1; omega)) w
attribute [irreducible] nSibling
end Go.Proofs.Ytkiomgnjjijbgaa
