/-
  A forest made node by node: the plain law.
-/
import Derived.Test.YtkiomgnjjijbgaaMapKey
import Derived.Test.YtkiomgnjjijbgaaTops
namespace Go.Proofs.Ytkiomgnjjijbgaa
open Go.RowKit
set_option linter.unusedVariables false

/-- The spot at a place. -/
noncomputable def spotF (p : Nat) : Nat × Nat := if h : p < 9223372036854775807 then ((spot_at h).choose, (spot_at h).choose_spec.choose) else (0, 0)
theorem spotF_spec {p : Nat} (h : p < 9223372036854775807) : Right (spotF p).1 (spotF p).2 ∧ placeN (spotF p).1 (spotF p).2 = p := by
  unfold spotF
  rw [dif_pos h]
  exact (spot_at h).choose_spec.choose_spec
theorem place_small {h k : Nat} (r : Right h k) : placeN h k < 9223372036854775807 := by
  have b := right_bound r
  have h1 := place_next (h := h) (k := k) (by omega)
  have h2 := nodeN_mono_le b
  have h3 : nodeN 4611686018427387904 = 9223372036854775807 := by
    unfold nodeN
    have : ones 4611686018427387904 = 1 := by
      have := ones_shift 62 1 (by decide)
      rw [Nat.one_mul] at this
      rw [show (4611686018427387904 : Nat) = 2 ^ 62 by decide, this, ones_one]
    omega
  omega
theorem spotF_place {h k : Nat} (r : Right h k) : spotF (placeN h k) = (h, k) := by
  have s := spotF_spec (place_small r)
  obtain ⟨e1, e2⟩ := place_inj s.1 r s.2
  exact Prod.ext e1 e2
/-- The first m spots, and the map of their places. -/
noncomputable def atL : Nat → List (Nat × Nat)
  | 0 => []
  | m + 1 => atL m ++ [spotF m]
noncomputable def mapD : Nat → DataW Unit
  | 0 => .map []
  | m + 1 => (mapD m).put (keyL (spotF m).1 (spotF m).2) (.lit (.int .u64 (m : Int)))
theorem atL_len (m : Nat) : (atL m).length = m := by
  induction m with
  | zero => rfl
  | succ m ih => rw [atL, List.length_append, ih]; rfl
theorem atL_get {m p : Nat} (h : p < m) : (atL m)[p]? = some (spotF p) := by
  induction m with
  | zero => omega
  | succ m ih =>
    rw [atL]
    by_cases e : p = m
    · subst e
      rw [List.getElem?_append_right (by rw [atL_len]; omega), atL_len, Nat.sub_self]; rfl
    · rw [List.getElem?_append_left (by rw [atL_len]; omega)]
      exact ih (by omega)
theorem right_wf {h k : Nat} (r : Right h k) : (Lit.int .u8 (h : Int)).wf = true ∧ (Lit.int .u64 (k : Int)).wf = true := by
  have h1 := r.1
  have h2 := right_k r
  exact ⟨WalkArith.wf_u8 (by omega), WalkArith.wf_u64 (by omega)⟩
theorem mapD_map (m : Nat) : Go.Maps.IsMap (mapD m) := by
  induction m with
  | zero => exact ⟨_, rfl⟩
  | succ m ih => exact ih.put _ _
/-- What the map says of any spot. -/
theorem mapD_at {h k : Nat} (r : Right h k) : ∀ m, m < 9223372036854775807 → (mapD m).atKey (keyL h k) (.lit (.int .u64 0)) = .lit (.int .u64 (if placeN h k < m then (placeN h k : Int) else 0)) ∧
    Go.Maps.has (mapD m) (keyL h k) = decide (placeN h k < m)
  | 0, _ => by
    refine ⟨?_, ?_⟩
    · rw [if_neg (by omega)]; rfl
    · rfl
  | m + 1, hm => by
    obtain ⟨i1, i2⟩ := mapD_at r m (by omega)
    obtain ⟨s, e⟩ := spotF_spec (p := m) (by omega)
    obtain ⟨wh, wk⟩ := right_wf r
    obtain ⟨wh', wk'⟩ := right_wf s
    have lit : Go.WideAt.IsKeyLit (keyL (spotF m).1 (spotF m).2) := spotLaw.key (key_of wh' wk')
    rw [mapD]
    by_cases hp : placeN h k = m
    · have es := spotF_place r
      rw [hp] at es
      rw [es]
      rw [es] at lit
      refine ⟨?_, ?_⟩
      · rw [Go.Maps.atKey_put_same (mapD_map m) lit, if_pos (by omega), hp]
      · rw [Go.Maps.has_put_same (mapD_map m) lit]
        exact (decide_eq_true (by omega)).symm
    · have ne : keyL h k ≠ keyL (spotF m).1 (spotF m).2 := by
        intro e2
        obtain ⟨q1, q2⟩ := key_inj wh wk wh' wk' e2
        rw [← q1, ← q2] at e
        exact hp e
      refine ⟨?_, ?_⟩
      · rw [Go.Maps.atKey_put_other ne, i1]
        by_cases h : placeN h k < m
        · rw [if_pos h, if_pos (by omega)]
        · rw [if_neg h, if_neg (by omega)]
      · rw [Go.Maps.has_put_other ne, i2]
        by_cases h : placeN h k < m
        · rw [decide_eq_true h, decide_eq_true (by omega)]
        · rw [decide_eq_false h, decide_eq_false (by omega)]
/-- The nodes that leaf i makes: from the leaf up, as long as the node is a right one. -/
theorem make_here {i h k : Nat} (e : i + 1 = (k + 1) * 2 ^ h) (hi : i < 4611686018427387904) : Right h k ∧ placeN h k = nodeN i + h := by
  have p := Nat.two_pow_pos h
  have hh : h ≤ 62 := by
    rcases Nat.lt_or_ge 62 h with h1 | h1
    · have : 2 ^ 63 ≤ 2 ^ h := Nat.pow_le_pow_right (by decide) h1
      have e63 : (2 : Nat) ^ 63 = 9223372036854775808 := by decide
      have := Nat.le_mul_of_pos_left (2 ^ h) (show 0 < k + 1 by omega)
      omega
    · exact h1
  have r : Right h k := by
    refine ⟨hh, ?_⟩
    have e2 : (4611686018427387904 : Nat) = 2 ^ (62 - h) * 2 ^ h := by rw [← Nat.pow_add, show 62 - h + h = 62 by omega]
    have : (k + 1) * 2 ^ h ≤ 2 ^ (62 - h) * 2 ^ h := by omega
    have := Nat.le_of_mul_le_mul_right this p
    omega
  refine ⟨r, ?_⟩
  rw [place_leaf (by omega), ← e, Nat.add_sub_cancel]
theorem make_next {i h k : Nat} (e : i + 1 = (k + 1) * 2 ^ h) (hk : k % 2 = 1) : i + 1 = (k / 2 + 1) * 2 ^ (h + 1) := by
  rw [e, Nat.pow_succ, Nat.mul_comm (2 ^ h) 2, ← Nat.mul_assoc]
  congr 1
  omega
theorem make_end {i h k : Nat} (e : i + 1 = (k + 1) * 2 ^ h) (hi : i < 4611686018427387904) (hk : k % 2 = 0) : nodeN (i + 1) = nodeN i + h + 1 := by
  have o1 : ones (i + 1) = ones k + 1 := by
    rw [e, ones_shift h (k + 1) (by omega)]
    obtain ⟨m, rfl⟩ : ∃ m, k = 2 * m := ⟨k / 2, by omega⟩
    have : 2 * m + 1 ≤ (2 * m + 1) * 2 ^ h := Nat.le_mul_of_pos_right _ (Nat.two_pow_pos h)
    rw [ones_odd (by omega), ones_even (by omega)]
  have o2 : ones i = ones k + h := by
    have := ones_fill h k (by omega)
    rw [← e, Nat.add_sub_cancel] at this
    exact this
  have l1 := ones_le i
  have l2 := ones_le (i + 1)
  unfold nodeN
  omega
theorem nodeN_zero : nodeN 0 = 0 := by unfold nodeN; omega
end Go.Proofs.Ytkiomgnjjijbgaa
