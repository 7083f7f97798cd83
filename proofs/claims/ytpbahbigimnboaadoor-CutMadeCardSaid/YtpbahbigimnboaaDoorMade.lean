/-
  A row of counts in memory. No walk in sight.
-/
import Derived.Test.YtpbahbigimnboaaDoorTiles
import Derived.Test.YtpbahbigimnboaaDoorSpots
import Derived.Laws.OwnMore
namespace Go.Proofs.YtpbahbigimnboaaDoor
open Go.RowKit
set_option linter.unusedVariables false

theorem info_int : (Tryd.prog.info? 3).map (fun i => (i.zero, i.size, i.bytes)) = some (some (.int .i64 0), 1, 8) := by kernel_rfl
def rowI (n : Nat) (f : Nat → Nat) : List Value := (List.range n).map fun j => Value.int .i64 (f j : Int)
theorem rowI_set (n : Nat) (f : Nat → Nat) (k v : Nat) : (rowI n f).set k (.int .i64 (v : Int)) = rowI n (fun i => if i = k then v else f i) := by
  apply List.ext_getElem?
  intro i
  simp only [rowI, List.getElem?_set, List.getElem?_map, List.length_map, List.length_range]
  by_cases h : k = i
  · subst h
    by_cases hk : k < n
    · simp [hk]
    · simp [hk]
  · rw [if_neg h]
    by_cases hi : i < n
    · simp [hi, show ¬ i = k from fun e => h e.symm]
    · simp [hi]
theorem rowI_congr {n : Nat} {f g : Nat → Nat} (h : ∀ j, j < n → f j = g j) : rowI n f = rowI n g := by
  unfold rowI
  exact List.map_congr_left fun j hj => by rw [h j (List.mem_range.1 hj)]
theorem rowI_get (n : Nat) (f : Nat → Nat) {j : Nat} (hj : j < n) : (rowI n f)[j]? = some (.int .i64 (f j : Int)) := by simp [rowI, hj]
theorem rowI_made (n : Nat) : (madeCells (Value.cells (.int .i64 0)) (n * 1)).toList = rowI n (fun _ => 0) := by
  rw [Nat.mul_one]
  simp only [madeCells, Array.toList_map, Array.toList_range, rowI]
  exact List.map_congr_left fun j _ => by
    have e : (Value.cells (.int .i64 0)) = #[.int .i64 0] := rfl
    rw [e]
    simp [Nat.mod_one]
theorem row_cellI {w : World} {B : Nat} {t : TypeId} {g cap n : Nat} {xs : List Value} (h : w.ownsRow B t 1 (.slice (some ⟨g, 0, none⟩) n cap) n xs) {j : Nat} {u : Value} (hj : xs[j]? = some u) : w.cell? ⟨g, j, none⟩ = some u := by
  have := h.cells (g := g) rfl j u hj
  rwa [show (⟨g, 0, none⟩ : Addr).add j = ⟨g, j, none⟩ by unfold Addr.add; split <;> simp_all] at this
theorem shl2 {c : Nat} (hc : c < 63) : IntKind.u64.wrap (2 * 2 ^ min ((c : Int)).toNat 64) = ((2 ^ (c + 1) : Nat) : Int) := by
  have h := mul_min 2 c
  have h2 : 2 ^ (c + 1) < 2 ^ 64 := Nat.pow_lt_pow_right (by decide) (by omega)
  have h3 : (2 : Nat) ^ 64 = 18446744073709551616 := by decide
  rw [Int.toNat_natCast]
  have e : ((2 : Nat) : Int) = 2 := rfl
  rw [e] at h
  have e2 : 2 * 2 ^ c = 2 ^ (c + 1) := by rw [Nat.pow_succ, Nat.mul_comm]
  rw [h, e2, Nat.mod_eq_of_lt (by omega)]
theorem shl2' {c : Nat} (hc : c < 63) : IntKind.u64.wrap (2 * 2 ^ c) = ((2 ^ (c + 1) : Nat) : Int) := by
  have := shl2 hc
  rwa [show min ((c : Int)).toNat 64 = c by omega] at this
theorem cntS_take {l : List (Nat × Nat)} {i : Nat} {s : Nat × Nat} (h : l[i]? = some s) (q : Nat) : cntS (l.take (i + 1)) q = cntS (l.take i) q + if baseN s.1 s.2 ≤ q ∧ q ≤ placeN s.1 s.2 then 1 else 0 := by
  rw [List.take_add_one, h, cntS_append]
  rfl
theorem cntJ_take {l : List (Nat × Nat)} {i : Nat} {s : Nat × Nat} (h : l[i]? = some s) (q : Nat) : cntJ (l.take (i + 1)) q = cntJ (l.take i) q + if placeN s.1 s.2 = q then 1 else 0 := by
  rw [List.take_add_one, h, cntJ_append]
  rfl
theorem cntS_le : ∀ (l : List (Nat × Nat)) (q : Nat), cntS l q ≤ l.length
  | [], _ => Nat.le_refl _
  | s :: l, q => by
    have := cntS_le l q
    show _ + cntS l q ≤ l.length + 1
    split <;> omega
theorem cntJ_le : ∀ (l : List (Nat × Nat)) (q : Nat), cntJ l q ≤ l.length
  | [], _ => Nat.le_refl _
  | s :: l, q => by
    have := cntJ_le l q
    show _ + cntJ l q ≤ l.length + 1
    split <;> omega
/-- The row while the spot (h, k) is gone through, up to the place q. -/
def fillF (S : List (Nat × Nat)) (i lo q N0 r : Nat) : Nat := cntS (S.take i) (r + N0) + if lo ≤ r + N0 ∧ r + N0 < q then 1 else 0
theorem fill_start (S : List (Nat × Nat)) (i lo N0 M : Nat) : rowI M (fun r => cntS (S.take i) (r + N0)) = rowI M (fillF S i lo lo N0) :=
  rowI_congr fun r _ => by unfold fillF; rw [if_neg (by omega)]; rfl
theorem fill_step (S : List (Nat × Nat)) (i lo q N0 M : Nat) (h0 : N0 ≤ q) (h1 : lo ≤ q) : (rowI M (fillF S i lo q N0)).set (q - N0) (.int .i64 ((fillF S i lo q N0 (q - N0) + 1 : Nat) : Int)) = rowI M (fillF S i lo (q + 1) N0) := by
  rw [rowI_set]
  refine rowI_congr fun r _ => ?_
  by_cases e : r = q - N0
  · subst e
    rw [if_pos rfl]
    unfold fillF
    rw [if_neg (by omega), if_pos (by omega)]
  · rw [if_neg e]
    unfold fillF
    by_cases h : lo ≤ r + N0 ∧ r + N0 < q
    · rw [if_pos h, if_pos (by omega)]
    · rw [if_neg h, if_neg (by omega)]
theorem fill_end {S : List (Nat × Nat)} {i : Nat} {s : Nat × Nat} (h : S[i]? = some s) (N0 M : Nat) : rowI M (fillF S i (baseN s.1 s.2) (placeN s.1 s.2 + 1) N0) = rowI M (fun r => cntS (S.take (i + 1)) (r + N0)) :=
  rowI_congr fun r _ => by
    unfold fillF
    rw [cntS_take h]
    congr 1
    by_cases c : baseN s.1 s.2 ≤ r + N0 ∧ r + N0 ≤ placeN s.1 s.2
    · rw [if_pos c, if_pos (by omega)]
    · rw [if_neg c, if_neg (by omega)]
def joinC (S J : List (Nat × Nat)) (i N0 r : Nat) : Nat := cntS S (r + N0) + cntJ (J.take i) (r + N0)
theorem join_start (S J : List (Nat × Nat)) (N0 M : Nat) : rowI M (fun r => cntS (S.take S.length) (r + N0)) = rowI M (joinC S J 0 N0) :=
  rowI_congr fun r _ => by unfold joinC; rw [List.take_length]; rfl
theorem join_step {S J : List (Nat × Nat)} {i : Nat} {s : Nat × Nat} (h : J[i]? = some s) (N0 M : Nat) (h0 : N0 ≤ placeN s.1 s.2) :
    (rowI M (joinC S J i N0)).set (placeN s.1 s.2 - N0) (.int .i64 ((joinC S J i N0 (placeN s.1 s.2 - N0) + 1 : Nat) : Int)) = rowI M (joinC S J (i + 1) N0) := by
  rw [rowI_set]
  refine rowI_congr fun r _ => ?_
  unfold joinC
  rw [cntJ_take h]
  by_cases e : r = placeN s.1 s.2 - N0
  · rw [if_pos e, if_pos (by omega), e]
    omega
  · rw [if_neg e, if_neg (by omega)]
    omega
end Go.Proofs.YtpbahbigimnboaaDoor
