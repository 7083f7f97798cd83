/-
  num.Narrow, num.Short and the laws' own awake.
-/
import Derived.Test.YtlmihaeknmeeiaaDoorShift
namespace Go.Proofs.YtlmihaeknmeeiaaDoor
open Go.RowKit

theorem info_u8 : (Tryd.prog.info? 5).map (fun i => (i.zero, i.size, i.bytes)) = some (some (.int .u8 0), 1, 1) := by kernel_rfl

def u8s (l : List Nat) : List Value := l.map fun (c : Nat) => Value.int .u8 (c : Int)
theorem u8s_length (l : List Nat) : (u8s l).length = l.length := by simp [u8s]
theorem u8s_append (l m : List Nat) : u8s (l ++ m) = u8s l ++ u8s m := by simp [u8s]
theorem u8s_get (l : List Nat) (j : Nat) : (u8s l)[j]? = l[j]?.map fun (c : Nat) => Value.int .u8 (c : Int) := by simp [u8s]

theorem one_int (k : IntKind) (n : Int) : ∀ u ∈ [Value.int k n], u.oneCell' = true := by
  intro u hu
  simp only [List.mem_singleton] at hu
  subst hu
  rfl

theorem cell_new1 (w : World) (v : Value) (t : TypeId) : ∀ (j : Nat) u, [v][j]? = some u → (w.alloc (.cells #[v] t (0, 0))).cell? ((⟨w.heap.size, 0, none⟩ : Addr).add j) = some u := by
  intro j u h
  cases j with
  | zero =>
    simp only [List.getElem?_cons_zero, Option.some.injEq] at h
    subst h
    rw [show (⟨w.heap.size, 0, none⟩ : Addr).add 0 = ⟨w.heap.size, 0, none⟩ from rfl, cell_of_row _ _ _ _ _ _ (heap_alloc_new w _)]
    rfl
  | succ j => simp at h

def shortF : Nat → Nat → List Nat
  | 0, x => [x]
  | f + 1, x => if x < 128 then [x] else (x % 128 + 128) :: shortF f (x / 128)
def shortL (x : Nat) : List Nat := shortF 9 x
theorem shortF_len (f : Nat) : ∀ x, (shortF f x).length ≤ f + 1 := by
  induction f with
  | zero => intro x; simp [shortF]
  | succ f ih =>
    intro x
    unfold shortF
    split
    · simp
    · simp only [List.length_cons]; have := ih (x / 128); omega
theorem shortF_lt (f : Nat) (x : Nat) (h : x < 128) : shortF f x = [x] := by
  cases f with
  | zero => rfl
  | succ f => unfold shortF; rw [if_pos h]

/-- The loop of Short: what is still to come. -/
def ShRel (x base : Nat) (w : World) (y v : Value) (wr : World) : Prop :=
  ∃ (f m : Nat) (pre : List Nat), m < 128 ^ (f + 1) ∧ m < 18446744073709551616 ∧ y = .int .u64 m ∧ pre ++ shortF f m = shortL x ∧ pre.length + f = 9 ∧
    wr.ownsRow base 5 1 v pre.length (u8s pre) ∧ Below base w wr

theorem or128 (y : Nat) : bits .or .u8 ((y : Int) % 256) 128 = ((y % 128 + 128 : Nat) : Int) := by
  have h := u8_or_nat (y % 256) 128 (by omega) (by omega)
  have e : (((y % 256 : Nat)) : Int) = (y : Int) % 256 := by omega
  have e2 : ((128 : Nat) : Int) = 128 := rfl
  rw [e, e2] at h
  rw [h]
  have hor : (y % 256) ||| 128 = y % 128 + 128 := by
    have h1 : y % 256 % 128 = y % 128 := by omega
    by_cases hb : y % 256 < 128
    · have : y % 256 = y % 128 := by omega
      rw [this, Nat.or_comm]
      have := nat_join 7 128 (y % 128) (by decide) (by omega)
      omega
    · have : y % 256 = y % 128 + 128 := by omega
      rw [this]
      have h2 := nat_join 7 128 (y % 128) (by decide) (by omega)
      rw [Nat.add_comm, ← h2, Nat.or_assoc, Nat.or_comm (y % 128), ← Nat.or_assoc, Nat.or_self]
  rw [hor]

set_option maxHeartbeats 800000 in
theorem Short_any {x : Nat} (hx : x < 18446744073709551616) (w : World) :
    Calls Tryd.prog 21 #[.int .u64 x] w fun e w' => ∃ v, e = .returned v ∧ w'.ownsRow w.heap.size 5 1 v (shortL x).length (u8s (shortL x)) ∧ Below w.heap.size w w' := by
  obtain ⟨i0, hi, hz0, hz1, hz2⟩ := info_parts info_u8
  generalize hB : w.heap.size = B
  have HB := Lib.hid hB
  clear hB
  go_enter Tryd.func21, Tryd.ntmps21
  go_wp2
  go_loopw [0, 3] (fun y v wr => ShRel x B w y v wr) (fun y _ _ => (intOf y).toNat)
  case atStart => exact ⟨9, x, [], by omega, hx, rfl, rfl, rfl, World.ownsRow_nil _ _ _ _, Below.refl _ _⟩
  case round =>
    obtain ⟨f, m, pre, hm, hm64, rfl, hpre, hlen, hown, hbel⟩ := hrel
    have hBw : B ≤ wr.heap.size := by rw [← HB.out]; exact hbel.size
    have P := Lib.hid hpre
    have L := Lib.hid hlen
    clear hpre hlen
    have hpl : pre.length ≤ 9 := by have := L.out; omega
    by_cases hlt : 127 < m
    · have hmi : (127 : Int) < (m : Int) := by omega
      have E := Lib.hid (or128 m)
      go_wp2_with (at_builtin; refine wpList_append_own _ rfl _ _ 35 rfl B 5 i0 (.int .u8 0) 1 1 Tryd.underlying35 hi hz0 hz1 hz2 rfl (by decide) _ _ _ rfl (hown.alloc _) ⟨wr.heap.size, 0, none⟩ 1 1 [.int .u8 (bits .or .u8 ((m : Int) % 256) 128)] rfl rfl (cell_new1 _ _ _) (one_int _ _) (by unfold maxLen; omega) (by omega) (by simp; omega) ?_; intro v' w1 hown1 hg1 _)
      go_roundw
      case rel =>
        obtain ⟨g, rfl⟩ : ∃ g, f = g + 1 := by
          cases f with
          | zero => exfalso; simp at hm; omega
          | succ g => exact ⟨g, rfl⟩
        refine ⟨g, m / 128, pre ++ [m % 128 + 128], ?_, by omega, by go_num, ?_, ?_, ?_, ?_⟩
        · have : 128 ^ (g + 1 + 1) = 128 ^ (g + 1) * 128 := Nat.pow_succ ..
          rw [Nat.div_lt_iff_lt_mul (by decide)]
          omega
        · rw [← P.out]
          conv => rhs; rw [shortF, if_neg (by omega)]
          simp
        · have := L.out; simp; omega
        · rw [E.out] at hown1
          simpa [u8s] using hown1
        · exact ((hbel.alloc (by omega) _).grown hg1 (by simp; omega) fun k hk => (hown.lt k hk).1)
      case measure => simp [intOf]; omega
    · have hmi : (m : Int) ≤ 127 := by omega
      have hS := shortF_lt f m (by omega)
      have HS := Lib.hid hS
      clear hS
      go_wp2_with (at_builtin; refine wpList_append_own _ rfl _ _ 35 rfl B 5 i0 (.int .u8 0) 1 1 Tryd.underlying35 hi hz0 hz1 hz2 rfl (by decide) _ _ _ rfl (hown.alloc _) ⟨wr.heap.size, 0, none⟩ 1 1 [.int .u8 (m : Int)] rfl rfl (cell_new1 _ _ _) (one_int _ _) (by unfold maxLen; omega) (by omega) (by simp; omega) ?_; intro v' w1 hown1 hg1 _)
      go_ret
      refine ⟨v', rfl, ?_, ?_⟩
      · have e : shortL x = pre ++ [m] := by rw [← P.out, HS.out]
        rw [e]
        simpa [u8s] using hown1
      · exact ((hbel.alloc (by omega) _).grown hg1 (by simp; omega) fun k hk => (hown.lt k hk).1)
end Go.Proofs.YtlmihaeknmeeiaaDoor
