/-
  What is left when neighbours are put together: the walk of cut.Merge.
-/
import Derived.Test.YtpbahbigimnboaaDoorOver
import Derived.Test.YtpbahbigimnboaaDoorCutJoins
namespace Go.Proofs.YtpbahbigimnboaaDoor
open Go.RowKit
set_option linter.unusedVariables false

def mergeV (l : List (Nat × Nat)) : List (Nat × Nat) := match overL l with
  | some (a, b) => spanL a b
  | none => []
def mergeOk (l : List (Nat × Nat)) : Bool := l.isEmpty || (overL l).isSome
theorem merge_none {l : List (Nat × Nat)} (hn : l ≠ []) (h : overL l = none) : mergeV l = [] ∧ mergeOk l = false := by
  unfold mergeV mergeOk
  rw [h]
  refine ⟨rfl, ?_⟩
  cases l with
  | nil => exact absurd rfl hn
  | cons s l => rfl
theorem merge_nil : mergeV [] = [] ∧ mergeOk [] = true := ⟨rfl, rfl⟩
theorem merge_some {l : List (Nat × Nat)} {a b : Nat} (h : overL l = some (a, b)) : mergeV l = spanL a b ∧ mergeOk l = true := by
  unfold mergeV mergeOk
  rw [h]
  exact ⟨rfl, by simp⟩
theorem over_top {l : List (Nat × Nat)} {a b : Nat} (h : overL l = some (a, b)) : b ≤ 4611686018427387904 := by
  obtain ⟨hn, c⟩ := overL_chain.1 h
  cases l with
  | nil => exact absurd rfl hn
  | cons s l =>
    obtain ⟨r, e, c2⟩ := c
    exact chain_top l _ b c2 (right_bound r)
theorem pileR_len : ∀ (l r : List (Nat × Nat)), (pileR r l).length ≤ r.length + l.length
  | [], r => Nat.le_refl _
  | s :: l, r => by
    have := pileR_len l (putR r s).1
    have h := putR_count r s
    show (pileR (putR r s).1 l).length ≤ _
    rw [List.length_cons]
    omega
theorem pileR_take {l : List (Nat × Nat)} {j : Nat} {s : Nat × Nat} (hs : l[j]? = some s) : pileR [] (l.take (j + 1)) = (putR (pileR [] (l.take j)) s).1 := by
  rw [List.take_add_one, hs]
  unfold pileR
  rw [List.foldl_append]
  rfl
theorem chain_take {l : List (Nat × Nat)} {a b : Nat} (c : Chain a b l) (j : Nat) : ∃ x, Chain a x (l.take j) := by
  rw [← List.take_append_drop j l, chain_append] at c
  obtain ⟨x, c1, _⟩ := c
  exact ⟨x, c1⟩
theorem pile_small {l : List (Nat × Nat)} {a b : Nat} (c : Chain a b l) (j : Nat) : ∀ x, x ∈ pileR [] (l.take j) → x.1 ≤ 62 ∧ x.2 ≤ 4611686018427387904 := fun x hx => by
  obtain ⟨e, c1⟩ := chain_take c j
  have c2 := pileR_chain (l.take j) [] a e c1
  exact right_small (chain_right _ _ _ c2 x (List.mem_reverse.2 hx))
set_option maxHeartbeats 1000000 in
theorem Merge_any {l : List (Nat × Nat)} {v : Value} (w : World) (hv : SpotsOf w v l) (sm : Small l) (hl : l.length ≤ 2000) :
    Calls Tryd.prog 22 #[v] w fun e w' => ∃ v', e = .returned (.tuple #[v', .bool (mergeOk l)]) ∧ w'.ownsRow w.heap.size 28 2 v' (mergeV l).length (spotC (mergeV l)) ∧ Below w.heap.size w w' := by
  have OV := Over_any w hv sm (by omega)
  obtain ⟨a, ca, rfl, a1, a2, a3, a4⟩ := hv.form
  have A3 := Lib.hid a3
  have A4 := Lib.hid a4
  have SM := Lib.hid sm
  have li : (l.length : Int) ≤ 2000 := by omega
  generalize hB : w.heap.size = B at *
  have HB := Lib.hid hB
  clear a3 a4 a2 a1 sm hv hB
  by_cases hn : l = []
  · subst hn
    rw [merge_nil.1, merge_nil.2]
    rw [overV_none (l := []) rfl] at OV
    go_enter Tryd.func22, Tryd.ntmps22
    go_wp2_with fail
    refine OV.mono ?_
    rintro e w1 ⟨rfl, q1⟩
    have hB1 : B ≤ w1.heap.size := by rw [← HB.out]; exact q1.size
    go_wp2
    go_loop [25] (fun i => i = .int .i64 0) (fun _ => 0)
    case atStart => rfl
    case round =>
      obtain rfl := hrel
      go_wp2
      go_ret2
      exact ⟨_, rfl, World.ownsRow_nil _ _ _ _, q1.alloc hB1 _⟩
  have lp : 0 < l.length := List.length_pos_iff.2 hn
  have lpi : (0 : Int) < (l.length : Int) := by omega
  cases ho : overL l with
  | none =>
    rw [overV_none ho] at OV
    have MN := Lib.hid (merge_none hn ho)
    clear hn ho
    go_enter Tryd.func22, Tryd.ntmps22
    go_wp2_with fail
    refine OV.mono ?_
    rintro e w1 ⟨rfl, q1⟩
    go_wp2
    go_ret2
    rw [MN.out.1, MN.out.2]
    exact ⟨_, rfl, World.ownsRow_nil _ _ _ _, q1⟩
  | some ab =>
    obtain ⟨x, y⟩ := ab
    rw [overV_some ho] at OV
    have MS := Lib.hid (merge_some ho)
    have top := over_top ho
    have CH := Lib.hid (overL_chain.1 ho).2
    clear ho hn
    go_enter Tryd.func22, Tryd.ntmps22
    go_wp2_with fail
    refine OV.mono ?_
    rintro e w1 ⟨rfl, q1⟩
    have hB1 : B ≤ w1.heap.size := by rw [← HB.out]; exact q1.size
    go_wp2
    generalize hW : w1.alloc _ = w2
    have P0 : PileAt B w1.heap.size w2 (.slice none 0 0) (pileR [] (l.take 0)).reverse := by
      rw [← hW]
      exact ⟨heap_alloc_new _ _, World.ownsRow_nil _ _ _ _, (fun e => by cases e)⟩
    have b2 : Below B w w2 := by rw [← hW]; exact q1.alloc hB1 _
    clear hW q1 OV
    have hpb : B ≤ w1.heap.size := hB1
    generalize w1.heap.size = pb at *
    go_loopw [25] (fun i wr => ∃ (j : Nat) (pv : Value), j ≤ l.length ∧ i = .int .i64 (j : Int) ∧ PileAt B pb wr pv (pileR [] (l.take j)).reverse ∧ Below B w wr) (fun i _ => l.length - (intOf i).toNat)
    case atStart => exact ⟨0, _, Nat.zero_le _, rfl, P0, b2⟩
    case round =>
      obtain ⟨j, pv, hj, rfl, P, hbel⟩ := hrel
      have hBw : B ≤ wr.heap.size := by have := P.lt; omega
      clear P0 b2
      by_cases hlt : j < l.length
      · obtain ⟨⟨h, k⟩, hs⟩ : ∃ s, l[j]? = some s := ⟨l[j], List.getElem?_eq_getElem hlt⟩
        obtain ⟨b, off, rfl⟩ := A3.out j _ hs
        obtain ⟨c1, c2⟩ := A4.out b off rfl j _ hs
        have hb0 := World.block_lt_of_cell? _ _ c1
        have hb : b < B := by rw [← HB.out]; exact hb0
        clear hb0
        rw [← hbel.cell (p := ⟨b, off + j * 2, none⟩) hb] at c1
        rw [← hbel.cell (p := ⟨b, off + j * 2 + 1, none⟩) hb] at c2
        dsimp only at c1 c2
        have rt := chain_right _ _ _ CH.out _ (List.mem_of_getElem? hs)
        have h62 : h ≤ 62 := rt.1
        have k62 : k ≤ 4611686018427387904 := Nat.le_of_lt (right_k rt)
        have ji : (j : Int) < (l.length : Int) := by omega
        have small := pile_small CH.out j
        have plen := pileR_len (l.take j) []
        rw [List.length_take, List.length_nil] at plen
        have PUT := put_any (B := B) (pb := pb) (w := wr.alloc (.cells #[.int .u8 (h : Int), .int .u64 (k : Int)] 28 (0, 0))) (pv := pv) (r := pileR [] (l.take j)) (s := (h, k)) (P.below ((Below.refl _ _).alloc (Nat.le_refl _) _)) (by simp; omega) small (by dsimp only; omega) k62 (by omega)
        rw [← pileR_take hs] at PUT
        have PP := Lib.hid P
        have hpv : ∀ c, pv.ownBlock = some c → B ≤ c := fun c hc => (P.own.lt c hc).1
        have HPV := Lib.hid hpv
        clear P small hs rt hpv
        go_wp2_with fail
        refine PUT.mono ?_
        rintro e' w3 ⟨v1, pv1, rfl, P3, _, TC, _⟩
        have P3 := Lib.hid P3
        have bel3 := touch_below TC hpb HPV.out (hbel.alloc hBw _) (by simp; omega)
        clear TC PUT
        go_wp2
        go_roundw
        case rel => exact ⟨j + 1, pv1, by omega, by go_num, P3.out, bel3⟩
        case measure => simp [intOf]; omega
      · obtain rfl : j = l.length := by omega
        have e : (pileR [] (l.take l.length)).reverse = mergeV l := by rw [List.take_length, MS.out.1]; exact pileR_span top CH.out
        rw [e] at P
        have pc := P.cell
        have own := P.own
        have plt := P.lt
        clear P e
        go_wp2
        go_ret2
        rw [MS.out.2]
        exact ⟨_, rfl, own, hbel⟩
theorem small_of_chain {l : List (Nat × Nat)} {a b : Nat} (c : Chain a b l) : Small l := fun s hs => by
  have r := chain_right _ _ _ c s hs
  have := r.1
  have := right_k r
  omega
theorem merge_chain {l : List (Nat × Nat)} {a b : Nat} (hab : a ≤ b) (hb : b ≤ 4611686018427387904) (c : Chain a b l) : mergeV l = spanL a b ∧ mergeOk l = true := by
  cases hl : l with
  | nil =>
    subst hl
    have e : a = b := c
    rw [spanL_stop (by omega)]
    exact merge_nil
  | cons s t =>
    rw [← hl]
    exact merge_some (overL_chain.2 ⟨by rw [hl]; simp, c⟩)
theorem app_form {w : World} {B : Nat} {v : Value} {A C : List (Nat × Nat)} (h : w.ownsRow B 28 2 v (0 + A.length + C.length) (spotC [] ++ spotC A ++ spotC C)) : w.ownsRow B 28 2 v (A ++ C).length (spotC (A ++ C)) := by
  rw [Nat.zero_add] at h
  rw [List.length_append, spotC_append]
  exact h
end Go.Proofs.YtpbahbigimnboaaDoor
