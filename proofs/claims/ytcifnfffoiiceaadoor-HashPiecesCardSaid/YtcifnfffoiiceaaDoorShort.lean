/-
  num.Narrow, num.Short and the laws' own awake.
-/
import Derived.Test.YtcifnfffoiiceaaDoorShift
namespace Go.Proofs.YtcifnfffoiiceaaDoor
open Go.RowKit

theorem info_u8 : (Tryd.prog.info? 5).map (fun i => (i.zero, i.size, i.bytes)) = some (some (.int .u8 0), 1, 1) := by kernel_rfl

def u8s (l : List Nat) : List Value := l.map fun (c : Nat) => Value.int .u8 (c : Int)
theorem u8s_length (l : List Nat) : (u8s l).length = l.length := by simp [u8s]
theorem u8s_append (l m : List Nat) : u8s (l ++ m) = u8s l ++ u8s m := by simp [u8s]
theorem u8s_get (l : List Nat) (j : Nat) : (u8s l)[j]? = l[j]?.map fun (c : Nat) => Value.int .u8 (c : Int) := by simp [u8s]

theorem one_int (k : IntKind) (n : Int) : ∀ u ∈ [Value.int k n], u.oneCell' = true := by
  intro u hu
  simp only [List.mem_singleton] at hu
  subst hu
  rfl

theorem cell_new1 (w : World) (v : Value) (t : TypeId) : ∀ (j : Nat) u, [v][j]? = some u → (w.alloc (.cells #[v] t (0, 0))).cell? ((⟨w.heap.size, 0, none⟩ : Addr).add j) = some u := by
  intro j u h
  cases j with
  | zero =>
    simp only [List.getElem?_cons_zero, Option.some.injEq] at h
    subst h
    rw [show (⟨w.heap.size, 0, none⟩ : Addr).add 0 = ⟨w.heap.size, 0, none⟩ from rfl, cell_of_row _ _ _ _ _ _ (heap_alloc_new w _)]
    rfl
  | succ j => simp at h

def shortF : Nat → Nat → List Nat
  | 0, x => [x]
  | f + 1, x => if x < 128 then [x] else (x % 128 + 128) :: shortF f (x / 128)
def shortL (x : Nat) : List Nat := shortF 9 x
theorem shortF_len (f : Nat) : ∀ x, (shortF f x).length ≤ f + 1 := by
  induction f with
  | zero => intro x; simp [shortF]
  | succ f ih =>
    intro x
    unfold shortF
    split
    · simp
    · simp only [List.length_cons]; have := ih (x / 128); omega
theorem shortF_lt (f : Nat) (x : Nat) (h : x < 128) : shortF f x = [x] := by
  cases f with
  | zero => rfl
  | succ f => unfold shortF; rw [if_pos h]

/-- The loop of Short: what is still to come. -/
def ShRel (x base : Nat) (w : World) (y v : Value) (wr : World) : Prop :=
  ∃ (f m : Nat) (pre : List Nat), m < 128 ^ (f + 1) ∧ m < 18446744073709551616 ∧ y = .int .u64 m ∧ pre ++ shortF f m = shortL x ∧ pre.length + f = 9 ∧
    wr.ownsRow base 5 1 v pre.length (u8s pre) ∧ Below base w wr

theorem or128 (y : Nat) : bits .or .u8 ((y : Int) % 256) 128 = ((y % 128 + 128 : Nat) : Int) := by
  have h := u8_or_nat (y % 256) 128 (by omega) (by omega)
  have e : (((y % 256 : Nat)) : Int) = (y : Int) % 256 := by omega
  have e2 : ((128 : Nat) : Int) = 128 := rfl
  rw [e, e2] at h
  rw [h]
  have hor : (y % 256) ||| 128 = y % 128 + 128 := by
    have h1 : y % 256 % 128 = y % 128 := by omega
    by_cases hb : y % 256 < 128
    · have : y % 256 = y % 128 := by omega
      rw [this, Nat.or_comm]
      have := nat_join 7 128 (y % 128) (by decide) (by omega)
      omega
    · have : y % 256 = y % 128 + 128 := by omega
      rw [this]
      have h2 := nat_join 7 128 (y % 128) (by decide) (by omega)
      rw [Nat.add_comm, ← h2, Nat.or_assoc, Nat.or_comm (y % 128), ← Nat.or_assoc, Nat.or_self]
  rw [hor]

end Go.Proofs.YtcifnfffoiiceaaDoor
