/-
  The reference's Path.
-/
import Derived.Test.YtkiomgnjjijbgaaRefPeaks
namespace Go.Proofs.Ytkiomgnjjijbgaa
open Go.RowKit
set_option linter.unusedVariables false

theorem refSA_yes {x y : Nat} (r : Right x y) (hx : x < 62) (w : World) : Calls Try.prog 34 #[.int .u64 (placeN x y)] w fun e w' => e = .returned (.tuple #[.int .u64 (placeN x (sibN y)), .bool true]) ∧ Below w.heap.size w w' := by
  have h := refSibling_any (c := true) (refSpot_yes r) (fun _ => ⟨r, rfl⟩) w
  rwa [show nSibling x y true = (placeN x (sibN y), true) by unfold nSibling; rw [if_pos ⟨rfl, hx⟩]] at h
theorem refPath_out {i n : Nat} (h : ¬ (n ≤ 4611686018427387904 ∧ i < n)) (w : World) :
    Calls Try.prog 40 #[.int .u64 i, .int .u64 n] w fun e w' => e = .returned (.tuple #[.slice none 0 0, .bool false]) ∧ Below w.heap.size w w' := by
  have P : ∀ w : World, Calls Try.prog 43 #[.int .u64 i, .int .u64 n] w fun e w' => e = .returned (.tuple #[.int .i64 0, .bool false]) ∧ Below w.heap.size w w' := by
    intro w
    by_cases h0 : i < n
    · exact refPeak_no h0 (by omega) w
    · exact refPeak_out (by omega) w
  clear h
  go_enter Try.func40, Try.ntmps40
  go_wp2_with fail
  refine (P _).mono ?_
  rintro e w' ⟨rfl, q⟩
  go_wp2
  go_ret2
  exact ⟨rfl, q⟩
theorem own_set {w : World} {B : Nat} {t : TypeId} {s n : Nat} {v : Value} {xs : List Value} (h : w.ownsRow B t s v n xs) (a : Addr) (u : Value) (ha : a.block < B) : (w.setCell a u).ownsRow B t s v n xs := by
  refine ⟨h.1, h.2.imp id ?_⟩
  rintro ⟨g, cap, cur, hv, hg, hh, rest⟩
  exact ⟨g, cap, cur, hv, hg, by rw [heap_setCell_other _ _ _ _ (by omega)]; exact hh, rest⟩
theorem size_set (w : World) (a : Addr) (u : Value) : (w.setCell a u).heap.size = w.heap.size := by simp [World.setCell]
theorem box_set {w : World} {b : Nat} {t : TypeId} {u v u' v' : Value} (h : w.heap[b]? = some (.cells #[u, v] t (0, 0))) :
    ((w.setCell ⟨b, 0, none⟩ u').setCell ⟨b, 1, none⟩ v').heap[b]? = some (.cells #[u', v'] t (0, 0)) := by
  have h1 := heap_setCell_same w b 0 _ t u' h
  have h2 := heap_setCell_same _ b 1 _ t v' h1
  exact h2
def lenOf : Value → Nat
  | .slice _ n _ => n
  | _ => 0
def RaRel (i t B b : Nat) (w : World) (v : Value) (wr : World) : Prop :=
  ∃ x : Nat, x ≤ t ∧ wr.heap[b]? = some (.cells #[.int .u8 (x : Int), .int .u64 ((i / 2 ^ x : Nat) : Int)] 24 (0, 0)) ∧
    wr.ownsRow (b + 1) 22 1 v x (u64s (wayF i x)) ∧ b + 1 ≤ wr.heap.size ∧ Below B w wr
theorem refPath_yes {i n : Nat} (h : i < n) (hn : n ≤ 4611686018427387904) (w : World) :
    Calls Try.prog 40 #[.int .u64 i, .int .u64 n] w fun e w' => ∃ v, e = .returned (.tuple #[v, .bool true]) ∧ w'.ownsRow w.heap.size 22 1 v (overN i n) (u64s (wayF i (overN i n))) ∧ Below w.heap.size w w' := by
  obtain ⟨i0, hi, hz0, hz1, hz2⟩ := info_parts info_u64
  generalize hB : w.heap.size = B
  have HBB := Lib.hid hB
  clear hB
  have P := refPeak_yes h hn
  have T := Tops_yes hn
  rw [topsL_len hn] at T
  have hle := ones_le64 n
  have hhl := high_ones 63 n (by omega) (by omega)
  obtain ⟨_, ht, hb, hk⟩ := over_spec h hn
  obtain ⟨pre, h1, h2⟩ := high_at hn ht hb
  have hd : (highF 63 n)[ones (n / 2 ^ (overN i n + 1))]? = some (overN i n) := by
    rw [h1, List.getElem?_append_right (by omega), h2, Nat.sub_self]
    rfl
  have t1 := (topsL_get hd).1
  have HI := Lib.hid (show i < 4611686018427387904 by omega)
  have kn : ones (n / 2 ^ (overN i n + 1)) < ones n := by rw [← h2, ← hhl, h1, List.length_append, List.length_cons]; omega
  clear h hb hk h1 h2 hd
  generalize ones (n / 2 ^ (overN i n + 1)) = kk at *
  generalize overN i n = t at *
  have ki : (kk : Int) < (ones n : Int) := by omega
  go_enter Try.func40, Try.ntmps40
  go_wp2_with fail
  refine (P _).mono ?_
  rintro e w1 ⟨rfl, q1⟩
  go_wp2_with fail
  refine (T _).mono ?_
  rintro e w2 ⟨v, rfl, hown, q2⟩
  obtain ⟨a, cap, rfl, hs⟩ := own_shape hown
  obtain ⟨g, rfl, _, hg, hc, cells⟩ := hs (by omega)
  have c1 := cells _ _ t1
  rw [HBB.out] at q1
  have r2 : Below B w w2 := q1.trans (q2.mono (by have := q1.size; rw [HBB.out] at this; exact this))
  have hB2 : B ≤ w2.heap.size := by have := r2.size; rw [HBB.out] at this; exact this
  clear hs hown T cells t1 q1 q2 P
  go_wp2_with fail
  generalize hW : World.alloc w2 _ = w3
  have g3 : w3.heap[w2.heap.size]? = some (.cells #[.int .u8 ((0 : Nat) : Int), .int .u64 ((i / 2 ^ 0 : Nat) : Int)] 24 (0, 0)) := by
    rw [← hW, Nat.pow_zero, Nat.div_one]; exact heap_alloc_new _ _
  have q3 : Below B w w3 := by rw [← hW]; exact r2.alloc hB2 _
  have own0 : w3.ownsRow (w2.heap.size + 1) 22 1 (.slice none 0 0) 0 [] := World.ownsRow_nil _ _ _ _
  have s3 : w3.heap.size = w2.heap.size + 1 := by rw [← hW]; simp
  clear hW c1 hg r2
  generalize hb : w2.heap.size = b at *
  clear hb
  go_loopw [8] (fun v wr => RaRel i t B b w v wr) (fun v wr => t - lenOf v)
  case atStart => exact ⟨0, by omega, g3, own0, by omega, q3⟩
  case round =>
    obtain ⟨x, hx, G, hown, hsz, hbr⟩ := hrel
    clear g3 own0 q3 s3
    by_cases hlt : x < t
    · have r := way_right HI.out (x := x) (by omega)
      have PL := refPlace_yes r
      have SB := refSA_yes r (by omega)
      have W := Lib.hid (show wayF i (x + 1) = wayF i x ++ [placeN x (sibN (i / 2 ^ x))] from rfl)
      have UP := Lib.hid (way_up i x)
      have yk := right_k r
      have c0 : wr.cell? ⟨b, 0, none⟩ = some (.int .u8 (x : Int)) := by rw [cell_of_row _ _ _ _ _ _ G]; rfl
      have c1 : wr.cell? ⟨b, 1, none⟩ = some (.int .u64 ((i / 2 ^ x : Nat) : Int)) := by rw [cell_of_row _ _ _ _ _ _ G]; rfl
      have HG := Lib.hid G
      have xi : (x : Int) < (t : Int) := by omega
      have xn : x < t := hlt
      have x62 : x ≤ 61 := by omega
      generalize placeN x (sibN (i / 2 ^ x)) = s at *
      generalize placeN x (i / 2 ^ x) = p at *
      generalize i / 2 ^ x = y at *
      generalize wayF i x = way at *
      clear G r
      go_wp2_with fail
      refine (PL _).mono ?_
      rintro e w4 ⟨rfl, q4⟩
      go_wp2_with fail
      refine (SB _).mono ?_
      rintro e w5 ⟨rfl, q5⟩
      have q45 := q4.trans (q5.mono q4.size)
      have G5 := below_at q45 (by omega) HG.out
      have own5 := own_below hown q45
      have br5 : Below B w w5 := hbr.trans (q45.mono (by omega))
      have s5 : b + 1 ≤ w5.heap.size := Nat.le_trans hsz q45.size
      have HG5 := Lib.hid G5
      clear c0 c1 hown q4 q5 q45 G5
      go_wp2_with (at_builtin; refine wpList_append_own _ rfl _ _ 36 rfl (b + 1) 22 i0 (.int .u64 0) 1 8 Try.underlying36 hi hz0 hz1 hz2 rfl (by decide) _ _ _ rfl (own5.alloc _) ⟨w5.heap.size, 0, none⟩ 1 1 [.int .u64 (s : Int)] rfl rfl (new_cell _ _ _) (one_cell _ _) (by unfold maxLen; omega) (by omega) (by simp; omega) ?_; intro v' w6 own6 hg6 _; have G6 : w6.heap[b]? = some (.cells #[.int .u8 (x : Int), .int .u64 (y : Int)] 24 (0, 0)) := (hg6.block b (by simp; omega) (fun e => by have := (own5.lt b e.symm).1; omega)).trans ((heap_alloc_old _ _ (by omega)).trans HG5.out); have c60 : w6.cell? ⟨b, 0, none⟩ = some (.int .u8 (x : Int)) := (cell_of_row _ _ _ _ _ _ G6).trans rfl; have c61 : w6.cell? ⟨b, 1, none⟩ = some (.int .u64 (y : Int)) := (cell_of_row _ _ _ _ _ _ G6).trans rfl; have f0 := frozen_of_row _ b 0 _ _ G6; have f1 := frozen_of_row _ b 1 _ _ G6; have HG6 := Lib.hid G6; clear G6)
      go_roundw
      case rel =>
        have h1 := own_set (own_set own6 ⟨b, 0, none⟩ (.int .u8 ((x : Int) + 1)) (by simp)) ⟨b, 1, none⟩ (.int .u64 ((y : Int) / 2)) (by simp)
        have h2 := box_set (u' := .int .u8 ((x : Int) + 1)) (v' := .int .u64 ((y : Int) / 2)) HG6.out
        refine ⟨x + 1, by omega, ?_, ?_, ?_, ?_⟩
        · rw [h2, ← UP.out]; rfl
        · rw [W.out]
          simpa [u64s] using h1
        · rw [size_set, size_set]
          have := hg6.size
          simp at this
          omega
        · exact (((br5.alloc (by omega) _).grown hg6 (by simp; omega) fun j hj => by have := (own5.lt j hj).1; omega).setCell hB2 _).setCell hB2 _
      case measure =>
        obtain ⟨a6, cap6, rfl, _⟩ := own_shape own6
        obtain ⟨a5, cap5, e5, _⟩ := own_shape own5
        rw [e5]
        simp [lenOf]; omega
    · obtain rfl : x = t := by omega
      have cx : wr.cell? ⟨b, 0, none⟩ = some (.int .u8 (x : Int)) := by rw [cell_of_row _ _ _ _ _ _ G]; rfl
      clear G
      go_wp2
      exact bodyPost_ret (by simp [results, Try.results40, go_sem]) rfl ⟨_, rfl, own_mono hown (by omega), hbr⟩
end Go.Proofs.Ytkiomgnjjijbgaa
