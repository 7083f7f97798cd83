/-
  Under and Since, by the program and by the reference.
-/
import Derived.Test.YtkiomgnjjijbgaaIndex
namespace Go.Proofs.Ytkiomgnjjijbgaa
open Go.RowKit
set_option linter.unusedVariables false

def fromN (x y : Nat) (c : Bool) : Nat := if c = true then y * 2 ^ x else 0
def toN (x y : Nat) (c : Bool) : Nat := if c = true then (y + 1) * 2 ^ x else 0
theorem tri {a b d : Nat} {c : Bool} {u v : Int} (h : u = a) (h' : v = b) : Ending.returned (.tuple #[.int .u64 u, .int .u64 v, .bool c]) = .returned (.tuple #[.int .u64 (a : Int), .int .u64 (b : Int), .bool c]) := by rw [h, h']

theorem Under_any {p x y : Nat} {c : Bool} (S : Says p x y c) (R : c = true → Right x y ∧ placeN x y = p) (w : World) :
    Calls Try.prog 22 #[.int .u64 p] w fun e w' => e = .returned (.tuple #[.int .u64 (fromN x y c), .int .u64 (toN x y c), .bool c]) ∧ Below w.heap.size w w' := by
  cases c with
  | false =>
    clear R
    go_enter Try.func22, Try.ntmps22
    go_wp2_with fail
    refine (S _).mono ?_
    rintro e w' ⟨rfl, q⟩
    unfold spotV
    have s := q.size
    go_wp2
    exact bodyPost_ret (v := .tuple #[.int .u64 0, .int .u64 0, .bool false]) (by simp [results, Try.results22, go_sem]) rfl ⟨rfl, q.alloc s _⟩
  | true =>
    obtain ⟨r, _⟩ := R rfl
    have b := right_bound r
    have kb := right_k r
    have h62 := r.1
    have e1 : fromN x y true = y * 2 ^ x := by unfold fromN; rw [if_pos rfl]
    have e2 : toN x y true = (y + 1) * 2 ^ x := by unfold toN; rw [if_pos rfl]
    rw [e1, e2]
    have b2 : y * 2 ^ x ≤ (y + 1) * 2 ^ x := Nat.mul_le_mul_right _ (by omega)
    obtain ⟨f, hf⟩ : ∃ f : Int, f = ((y * 2 ^ x : Nat) : Int) := ⟨_, rfl⟩
    obtain ⟨c, hc⟩ : ∃ c : Int, c = ((y + 1 : Nat) : Int) := ⟨_, rfl⟩
    obtain ⟨d, hd⟩ : ∃ d : Int, d = (((y + 1) * 2 ^ x : Nat) : Int) := ⟨_, rfl⟩
    have A0 : IntKind.u64.wrap ((y : Int) * 2 ^ x) = f := by
      have e : (y : Int) * 2 ^ x = ((y * 2 ^ x : Nat) : Int) := by rw [cast_pow, ← Int.natCast_mul]
      rw [e, hf, wrap_u64]
      omega
    have A1 : IntKind.u64.wrap ((y : Int) + 1) = c := by
      rw [hc, wrap_u64]; omega
    have A2 : IntKind.u64.wrap (c * 2 ^ x) = d := by
      have e : c * 2 ^ x = (((y + 1) * 2 ^ x : Nat) : Int) := by rw [hc, cast_pow, ← Int.natCast_mul]
      rw [e, hd, wrap_u64]
      omega
    have HF := Lib.hid hf
    have HD := Lib.hid hd
    have i1 : (x : Int) ≤ 62 := by omega
    clear hf hd hc b b2 r e1 e2 R kb
    go_enter Try.func22, Try.ntmps22
    go_wp2_with fail
    refine (S _).mono ?_
    rintro e w' ⟨rfl, q⟩
    unfold spotV
    have s := q.size
    go_wp2_with fail
    go_region
    go_wp2
    exact bodyPost_ret (v := .tuple #[.int .u64 f, .int .u64 d, .bool true]) (by simp [results, Try.results22, go_sem]) rfl ⟨by rw [HF.out, HD.out], (q.alloc s _).drew⟩
theorem refUnder_any {p x y : Nat} {c : Bool} (S : RefSays p x y c) (R : c = true → Right x y ∧ placeN x y = p) (w : World) :
    Calls Try.prog 23 #[.int .u64 p] w fun e w' => e = .returned (.tuple #[.int .u64 (fromN x y c), .int .u64 (toN x y c), .bool c]) ∧ Below w.heap.size w w' := by
  cases c with
  | false =>
    clear R
    go_enter Try.func23, Try.ntmps23
    go_wp2_with fail
    refine (S _).mono ?_
    rintro e w' ⟨rfl, q⟩
    unfold spotV
    have s := q.size
    go_wp2
    exact bodyPost_ret (v := .tuple #[.int .u64 0, .int .u64 0, .bool false]) (by simp [results, Try.results23, go_sem]) rfl ⟨rfl, q.alloc s _⟩
  | true =>
    obtain ⟨r, _⟩ := R rfl
    have b := right_bound r
    have kb := right_k r
    have h62 := r.1
    have e1 : fromN x y true = y * 2 ^ x := by unfold fromN; rw [if_pos rfl]
    have e2 : toN x y true = (y + 1) * 2 ^ x := by unfold toN; rw [if_pos rfl]
    rw [e1, e2]
    obtain ⟨t, ht⟩ : ∃ t, 2 ^ x = t := ⟨_, rfl⟩
    have HT := Lib.hid ht
    rw [ht] at b
    rw [ht]
    have b2 : y * t ≤ (y + 1) * t := Nat.mul_le_mul_right _ (by omega)
    obtain ⟨f, hf⟩ : ∃ f : Int, f = ((y * t : Nat) : Int) := ⟨_, rfl⟩
    obtain ⟨c, hc⟩ : ∃ c : Int, c = ((y + 1 : Nat) : Int) := ⟨_, rfl⟩
    obtain ⟨d, hd⟩ : ∃ d : Int, d = (((y + 1) * t : Nat) : Int) := ⟨_, rfl⟩
    have A0 : IntKind.u64.wrap ((y : Int) * (t : Int)) = f := by
      rw [hf, ← Int.natCast_mul, wrap_u64]
      omega
    have A1 : IntKind.u64.wrap ((y : Int) + 1) = c := by
      rw [hc, wrap_u64]; omega
    have A2 : IntKind.u64.wrap (c * (t : Int)) = d := by
      rw [hc, ← Int.natCast_mul, hd, wrap_u64]
      omega
    have HF := Lib.hid hf
    have HD := Lib.hid hd
    have h63 : x ≤ 63 := by omega
    clear hf hd hc b b2 r e1 e2 R kb ht
    go_enter Try.func23, Try.ntmps23
    go_wp2_with fail
    refine (S _).mono ?_
    rintro e w' ⟨rfl, q⟩
    unfold spotV
    have s := q.size
    go_wp2_with fail
    refine (power_any h63 _).mono ?_
    rintro e w2 ⟨rfl, rfl⟩
    rw [HT.out]
    go_wp2_with fail
    go_region
    go_wp2
    exact bodyPost_ret (v := .tuple #[.int .u64 f, .int .u64 d, .bool true]) (by simp [results, Try.results23, go_sem]) rfl ⟨by rw [HF.out, HD.out], (q.alloc s _).drew⟩
attribute [irreducible] fromN toN
theorem Since_any {p x y : Nat} {c : Bool} (S : Says p x y c) (R : c = true → Right x y ∧ placeN x y = p) (w : World) :
    Calls Try.prog 24 #[.int .u64 p] w fun e w' => e = .returned (.tuple #[.int .u64 (toN x y c), .bool c]) ∧ Below w.heap.size w w' := by
  have U := Under_any S R
  clear S R
  go_enter Try.func24, Try.ntmps24
  go_wp2_with fail
  refine (U _).mono ?_
  rintro e w' ⟨rfl, q⟩
  go_wp2
  go_ret2
  exact ⟨rfl, q⟩
theorem refSince_any {p x y : Nat} {c : Bool} (S : RefSays p x y c) (R : c = true → Right x y ∧ placeN x y = p) (w : World) :
    Calls Try.prog 25 #[.int .u64 p] w fun e w' => e = .returned (.tuple #[.int .u64 (toN x y c), .bool c]) ∧ Below w.heap.size w w' := by
  have U := refUnder_any S R
  clear S R
  go_enter Try.func25, Try.ntmps25
  go_wp2_with fail
  refine (U _).mono ?_
  rintro e w' ⟨rfl, q⟩
  go_wp2
  go_ret2
  exact ⟨rfl, q⟩
end Go.Proofs.Ytkiomgnjjijbgaa
