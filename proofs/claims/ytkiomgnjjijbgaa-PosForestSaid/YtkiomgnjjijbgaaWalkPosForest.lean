/-
  PosForest: the walk: a forest made node by node, a map of its places, and each call asked of each place.
-/
import Derived.Test.YtkiomgnjjijbgaaForest
import Derived.Test.YtkiomgnjjijbgaaFour
import Derived.Test.YtkiomgnjjijbgaaBack
import Derived.Test.YtkiomgnjjijbgaaLeaves
import Derived.Test.YtkiomgnjjijbgaaAwake3
import Derived.Deep.RegionHeld3
import Derived.Deep.QuietTactic
import Derived.BigQuiet
namespace Go.Proofs.Ytkiomgnjjijbgaa
open Go.RowKit Go.Maps
set_option linter.unusedVariables false

set_option maxRecDepth 20000 in
theorem forest_no {n : Int} (h : n < 0 ∨ 300 < n) (w : World) :
    Calls Try.prog 10 #[.int .i64 n] w fun e w' => e = .returned (.bool true) ∧ Below w.heap.size w w' := by
  by_cases hn : n < 0
  · go_enter Try.func10, Try.ntmps10
    go_wp2
    go_ret
    exact ⟨rfl, Below.refl _ _⟩
  · have h3 : 300 < n := by omega
    go_enter Try.func10, Try.ntmps10
    go_wp2
    go_ret
    exact ⟨rfl, Below.refl _ _⟩
theorem zeroE (w : World) : (zeroValue 22).run Try.prog w = .ok (.int .u64 0) w := by kernel_rfl
def FoRel (n B b : Nat) (w : World) (v i : Value) (wr : World) : Prop :=
  ∃ j : Nat, j ≤ n ∧ i = .int .i64 (j : Int) ∧ wr.ownsRow (b + 1) 24 2 v (nodeN j) (spotC (atL (nodeN j))) ∧
    wr.ownsMap Try.prog 24 (plainElem Try.prog 22) b (nodeN j) (mapD (nodeN j)) ∧ b + 1 ≤ wr.heap.size ∧ Below B w wr
def FiRel (j B b c : Nat) (w : World) (v : Value) (wr : World) : Prop :=
  ∃ h k : Nat, j + 1 = (k + 1) * 2 ^ h ∧ wr.heap[c]? = some (.cells #[.int .u8 (h : Int), .int .u64 (k : Int)] 24 (0, 0)) ∧
    wr.ownsRow (b + 1) 24 2 v (nodeN j + h) (spotC (atL (nodeN j + h))) ∧ v.ownBlock ≠ some c ∧
    wr.ownsMap Try.prog 24 (plainElem Try.prog 22) b (nodeN j + h) (mapD (nodeN j + h)) ∧ c < wr.heap.size ∧ Below B w wr
def F3 (M b : Nat) (a : Option Addr) (w : World) (i : Value) (wr : World) : Prop :=
  ∃ p : Nat, p ≤ M ∧ i = .int .i64 (p : Int) ∧ (∀ g, a = some ⟨g, 0, none⟩ → 0 < M → g < wr.heap.size ∧ ∀ (j : Nat) (u : Value), (spotC (atL M))[j]? = some u → wr.cell? ⟨g, j, none⟩ = some u) ∧
    wr.ownsMap Try.prog 24 (plainElem Try.prog 22) b M (mapD M) ∧ Below b w wr
theorem kids_low {h k M : Nat} (r : Right (h + 1) k) (hp : placeN (h + 1) k < M) : placeN h (2 * k) < M ∧ placeN h (2 * k + 1) < M := by
  have kb := right_k r
  have p := two_le_pow (h + 1)
  have t := two_le_pow h
  rw [place_left (by omega), place_right (by omega)]
  omega
theorem lit_inj {H : Type} {q : IntKind} {a b : Int} (h : (DataW.lit (.int q a) : DataW H) = .lit (.int q b)) : b = a := by
  cases h
  rfl
theorem own_shape2 {w : World} {B : Nat} {t : TypeId} {n : Nat} {v : Value} {xs : List Value} (h : w.ownsRow B t 2 v n xs) :
    ∃ a cap, v = .slice a n cap ∧ (0 < n → ∃ g, a = some ⟨g, 0, none⟩ ∧ B ≤ g ∧ g < w.heap.size ∧ n ≤ cap ∧ ∀ (j : Nat) (u : Value), xs[j]? = some u → w.cell? ⟨g, j, none⟩ = some u) := own_shape h
theorem map_below {w w' : World} {b n : Nat} {D : DataW Unit} (h : w.ownsMap Try.prog 24 (plainElem Try.prog 22) b n D) (q : Below w.heap.size w w') : w'.ownsMap Try.prog 24 (plainElem Try.prog 22) b n D :=
  h.kept (row := none) ⟨q.os, q.tape, q.output, q.size, fun k hk _ => q.block k hk⟩ (by simp)
theorem f3_next {M b p : Nat} {a : Option Addr} {w wr w' : World} {i : Value} (h1 : ∀ g, a = some ⟨g, 0, none⟩ → 0 < M → g < wr.heap.size ∧ ∀ (j : Nat) (u : Value), (spotC (atL M))[j]? = some u → wr.cell? ⟨g, j, none⟩ = some u)
    (h2 : wr.ownsMap Try.prog 24 (plainElem Try.prog 22) b M (mapD M)) (h3 : Below b w wr) (q : Below wr.heap.size wr w') (hb : p < M) (e : i = .int .i64 ((p + 1 : Nat) : Int)) : F3 M b a w i w' := by
  refine ⟨p + 1, by omega, e, fun g hg hM => ?_, map_below h2 q, ?_⟩
  · obtain ⟨s, c⟩ := h1 g hg hM
    exact ⟨Nat.lt_of_lt_of_le s q.size, fun j u hj => by rw [← c j u hj]; exact q.cell (p := ⟨g, j, none⟩) s⟩
  · have hs : b < wr.heap.size := h2.lt
    exact h3.trans (q.mono (by omega))
theorem place_low {h k : Nat} (hp : placeN h k < 601) : h ≤ 9 := by
  rw [place_base] at hp
  rcases Nat.lt_or_ge 9 h with h1 | h1
  · have : 2 ^ 11 ≤ 2 ^ (h + 1) := Nat.pow_le_pow_right (by decide) (by omega)
    omega
  · exact h1
theorem grown_set (w : World) (c i : Nat) (v : Value) : w.grownBy (w.setCell ⟨c, i, none⟩ v) (some c) :=
  ⟨rfl, rfl, rfl, by rw [size_set]; exact Nat.le_refl _, fun k hk hne => heap_setCell_other _ _ _ _ (fun e => hne (by rw [e]))⟩
theorem forest_step {wr w4 w5 : World} {b c h k m n : Nat} {a : Option Addr} {cap : Nat} {v' : Value} {D : DataW Unit} (hc : c < wr.heap.size) (hg4 : wr.grownBy w4 (some b)) (G4 : w4.heap[c]? = some (.cells #[.int .u8 (h : Int), .int .u64 (k : Int)] 24 (0, 0)))
    (map4 : w4.ownsMap Try.prog 24 (plainElem Try.prog 22) b n D) (ne3 : (Value.slice a m cap).ownBlock ≠ some c) (nb : (Value.slice a m cap).ownBlock ≠ some b)
    (hg5 : (w4.alloc (.cells #[.int .u8 (h : Int), .int .u64 (k : Int)] 24 (0, 0))).grownBy w5 (Value.slice a m cap).ownBlock)
    (hb5 : v'.ownBlock = (Value.slice a m cap).ownBlock ∨ v'.ownBlock = some (w4.alloc (.cells #[.int .u8 (h : Int), .int .u64 (k : Int)] 24 (0, 0))).heap.size) :
    w5.cell? ⟨c, 0, none⟩ = some (.int .u8 (h : Int)) ∧ w5.cell? ⟨c, 1, none⟩ = some (.int .u64 (k : Int)) ∧ w5.frozen? ⟨c, 0, none⟩ = false ∧ w5.frozen? ⟨c, 1, none⟩ = false ∧
    Hid (w5.heap[c]? = some (.cells #[.int .u8 (h : Int), .int .u64 (k : Int)] 24 (0, 0))) ∧ w5.ownsMap Try.prog 24 (plainElem Try.prog 22) b n D ∧ v'.ownBlock ≠ some c ∧ c < w5.heap.size := by
  have s4 := hg4.size
  have s5 := hg5.size
  simp only [size_alloc1] at s5 hb5
  have G5 : w5.heap[c]? = some (.cells #[.int .u8 (h : Int), .int .u64 (k : Int)] 24 (0, 0)) := (hg5.block c (by simp; omega) (fun e => ne3 e.symm)).trans ((heap_alloc_old _ _ (by omega)).trans G4)
  refine ⟨(cell_of_row _ _ _ _ _ _ G5).trans rfl, (cell_of_row _ _ _ _ _ _ G5).trans rfl, frozen_of_row _ _ _ _ _ G5, frozen_of_row _ _ _ _ _ G5, G5, (map4.alloc _).kept hg5 (fun e => nb e.symm), ?_, by omega⟩
  intro e
  rcases hb5 with h | h
  · exact ne3 (by rw [← h]; exact e)
  · rw [h] at e
    have := Option.some.inj e
    omega
set_option maxHeartbeats 1000000 in
set_option maxRecDepth 20000 in
theorem forest_yes {n : Nat} (hn : n ≤ 300) (w : World) :
    Calls Try.prog 10 #[.int .i64 n] w fun e w' => e = .returned (.bool true) ∧ Below w.heap.size w w' := by
  obtain ⟨i0, hi0, hz0, hz1, hz2⟩ := info_parts info_spot
  have ni : (n : Int) ≤ 300 := by omega
  have hmm := @run_makeMap Try.prog
  go_enter Try.func10, Try.ntmps10
  go_wp2_with fail
  generalize hW : World.alloc w _ = w1
  have m1 : w1.ownsMap Try.prog 24 (plainElem Try.prog 22) w.heap.size 0 (mapD 0) := by rw [← hW]; exact World.ownsMap_made _ _ _ _
  have b1 : Below w.heap.size w w1 := by rw [← hW]; exact (Below.refl _ _).alloc (Nat.le_refl _) _
  have s1 : w.heap.size + 1 ≤ w1.heap.size := by rw [← hW]; simp
  clear hW hmm
  generalize hB : w.heap.size = b at *
  have HB := Lib.hid hB
  clear hB
  go_loopw [3, 5] (fun v i wr => FoRel n b b w v i wr) (fun _ i _ => n - (intOf i).toNat)
  case atStart => exact ⟨0, by omega, rfl, by rw [nodeN_zero]; exact World.ownsRow_nil _ _ _ _, by rw [nodeN_zero]; exact m1, s1, b1⟩
  case round =>
    obtain ⟨j, hj, rfl, hown, hmap, hsz, bel⟩ := hrel
    clear m1 b1 s1
    by_cases hlt : j < n
    · have ji : (j : Int) < (n : Int) := by omega
      have nj := ones_le j
      have nl : nodeN j ≤ 600 := by unfold nodeN; omega
      go_wp2_with fail
      generalize hW : World.alloc wr _ = w2
      have G : w2.heap[wr.heap.size]? = some (.cells #[.int .u8 ((0 : Nat) : Int), .int .u64 (j : Int)] 24 (0, 0)) := by rw [← hW]; exact heap_alloc_new _ _
      have own2 := hown.alloc (.cells #[.int .u8 0, .int .u64 (j : Int)] 24 (0, 0))
      rw [hW] at own2
      have map2 : w2.ownsMap Try.prog 24 (plainElem Try.prog 22) b (nodeN j) (mapD (nodeN j)) := by rw [← hW]; exact hmap.alloc _
      have bel2 : Below b w w2 := by rw [← hW]; exact bel.alloc (by omega) _
      have s2 : wr.heap.size < w2.heap.size := by rw [← hW]; simp
      have ne2 := fun e => Nat.lt_irrefl _ (hown.lt wr.heap.size e).2
      generalize hc : wr.heap.size = c at *
      clear hW hown hmap bel hc
      go_loopw [3] (fun v wr => FiRel j b b c w v wr) (fun v _ => 700 - lenOf v)
      case atStart => exact ⟨0, j, by simp, G, own2, ne2, map2, s2, bel2⟩
      case round =>
        obtain ⟨h, k, e, G3, own3, ne3, map3, s3, bel3⟩ := hrel
        clear G own2 map2 bel2 s2 ne2
        obtain ⟨r, pl⟩ := make_here e (by omega)
        have sp := spotF_place r
        rw [pl] at sp
        have h62 := r.1
        obtain ⟨wh, wk⟩ := right_wf r
        have hkey := key_of wh wk
        have NE := Lib.hid (make_end e (by omega))
        have NN := Lib.hid (make_next e)
        have yk := right_k r
        obtain ⟨a, cap, rfl, _⟩ := own_shape own3
        obtain ⟨m, hm⟩ : ∃ m, nodeN j + h = m := ⟨_, rfl⟩
        rw [hm] at own3 map3 sp
        have eA : atL (m + 1) = atL m ++ [(h, k)] := by rw [atL, sp]
        have eD : mapD (m + 1) = (mapD m).put (keyL h k) (.lit (.int .u64 (m : Int))) := by rw [mapD, sp]
        have m700 : m ≤ 662 := by omega
        have WF : (Lit.int .u64 (m : Int)).wf = true := WalkArith.wf_u64 (by omega)
        have EA := Lib.hid eA
        have ED := Lib.hid eD
        have HM := Lib.hid hm
        have RR := Lib.hid r
        have c0 : wr.cell? ⟨c, 0, none⟩ = some (.int .u8 (h : Int)) := (cell_of_row _ _ _ _ _ _ G3).trans rfl
        have c1 : wr.cell? ⟨c, 1, none⟩ = some (.int .u64 (k : Int)) := (cell_of_row _ _ _ _ _ _ G3).trans rfl
        have HG3 := Lib.hid G3
        rw [hm] at ne3 ⊢
        clear hm
        by_cases hk : k % 2 = 1
        · have kk : ((k : Int) % 2 == 0) = false := by rw [beq_eq_false_iff_ne]; omega
          go_wp2_with (first | (at_mapUpdate; refine wpList_mapUpdate_own _ rfl _ _ _ 46 rfl 24 22 spotLaw Try.underlying46 _ b m (mapD m) rfl map3 (by unfold maxLen; omega) _ _ _ rfl rfl hkey _ [] (plainElem_int Try.underlying22 WF) ?_; intro w4 map4 hg4; have own4 := own3.kept hg4 (.inr (fun e => by have := (own3.lt b e).1; omega)); have G4 : w4.heap[c]? = some (.cells #[.int .u8 (h : Int), .int .u64 (k : Int)] 24 (0, 0)) := (hg4.block c s3 (fun e => by have := Option.some.inj e; omega)).trans HG3.out; have c40 : w4.cell? ⟨c, 0, none⟩ = some (.int .u8 (h : Int)) := (cell_of_row _ _ _ _ _ _ G4).trans rfl; have c41 : w4.cell? ⟨c, 1, none⟩ = some (.int .u64 (k : Int)) := (cell_of_row _ _ _ _ _ _ G4).trans rfl; have HG4 := Lib.hid G4; clear G4) | (at_builtin; refine wpList_append_own2 _ rfl (.tmp 45) (.tmp 47) 45 rfl (b + 1) 24 i0 (.agg #[.int .u8 0, .int .u64 0]) 2 16 Try.underlying45 hi0 hz0 hz1 hz2 rfl (by decide) _ m (spotC (atL m)) rfl (own4.alloc _) ⟨w4.heap.size, 0, none⟩ 1 1 [.int .u8 (h : Int), .int .u64 (k : Int)] rfl rfl (cell_new2 _ _ _ _) (two_ints _ _ _ _) (by unfold maxLen; omega) (by omega) (by have := hg4.size; simp; omega) ?_; intro v' w5 own5 (hg5 : (w4.alloc (.cells #[.int .u8 (h : Int), .int .u64 (k : Int)] 24 (0, 0))).grownBy w5 (Value.slice a m cap).ownBlock) (hb5 : v'.ownBlock = (Value.slice a m cap).ownBlock ∨ v'.ownBlock = some (w4.alloc (.cells #[.int .u8 (h : Int), .int .u64 (k : Int)] 24 (0, 0))).heap.size); obtain ⟨c50, c51, f0, f1, HG5, map5, ne5, s5⟩ := forest_step s3 hg4 HG4.out map4 ne3 (fun e => by have := (own4.lt b e).1; omega) hg5 hb5))
          have B4 : Below b w w4 := bel3.grown hg4 (by omega) (fun x hx => by have := Option.some.inj hx; omega)
          have B5 : Below b w w5 := (B4.alloc (by have := hg4.size; omega) _).grown hg5 (by have := hg4.size; simp; omega) (fun x hx => by have := (own4.lt x hx).1; omega)
          go_roundw
          case rel =>
            refine ⟨h + 1, k / 2, NN.out hk, ?_, ?_, ne5, ?_, by rw [size_set, size_set]; exact s5, (B5.setCell (by simp; omega) _).setCell (by simp; omega) _⟩
            · exact box_set (u' := .int .u8 ((h : Int) + 1)) (v' := .int .u64 ((k : Int) / 2)) HG5.out
            · rw [← Nat.add_assoc, HM.out, EA.out, spotC_append]
              exact own_setOther (own_setOther own5 _ _ ne5) _ _ ne5
            · rw [← Nat.add_assoc, HM.out, ED.out]
              exact ((map5.kept (grown_set _ c 0 _) (by intro e; have := Option.some.inj e; omega)).kept (grown_set _ c 1 _) (by intro e; have := Option.some.inj e; omega))
          case measure =>
            obtain ⟨a5, cap5, rfl, _⟩ := own_shape own5
            simp [lenOf]; omega
        · have kk : ((k : Int) % 2 == 0) = true := by rw [beq_iff_eq]; omega
          go_wp2_with (first | (at_mapUpdate; refine wpList_mapUpdate_own _ rfl _ _ _ 46 rfl 24 22 spotLaw Try.underlying46 _ b m (mapD m) rfl map3 (by unfold maxLen; omega) _ _ _ rfl rfl hkey _ [] (plainElem_int Try.underlying22 WF) ?_; intro w4 map4 hg4; have own4 := own3.kept hg4 (.inr (fun e => by have := (own3.lt b e).1; omega)); have G4 : w4.heap[c]? = some (.cells #[.int .u8 (h : Int), .int .u64 (k : Int)] 24 (0, 0)) := (hg4.block c s3 (fun e => by have := Option.some.inj e; omega)).trans HG3.out; have c40 : w4.cell? ⟨c, 0, none⟩ = some (.int .u8 (h : Int)) := (cell_of_row _ _ _ _ _ _ G4).trans rfl; have c41 : w4.cell? ⟨c, 1, none⟩ = some (.int .u64 (k : Int)) := (cell_of_row _ _ _ _ _ _ G4).trans rfl; have HG4 := Lib.hid G4; clear G4) | (at_builtin; refine wpList_append_own2 _ rfl (.tmp 45) (.tmp 47) 45 rfl (b + 1) 24 i0 (.agg #[.int .u8 0, .int .u64 0]) 2 16 Try.underlying45 hi0 hz0 hz1 hz2 rfl (by decide) _ m (spotC (atL m)) rfl (own4.alloc _) ⟨w4.heap.size, 0, none⟩ 1 1 [.int .u8 (h : Int), .int .u64 (k : Int)] rfl rfl (cell_new2 _ _ _ _) (two_ints _ _ _ _) (by unfold maxLen; omega) (by omega) (by have := hg4.size; simp; omega) ?_; intro v' w5 own5 (hg5 : (w4.alloc (.cells #[.int .u8 (h : Int), .int .u64 (k : Int)] 24 (0, 0))).grownBy w5 (Value.slice a m cap).ownBlock) (hb5 : v'.ownBlock = (Value.slice a m cap).ownBlock ∨ v'.ownBlock = some (w4.alloc (.cells #[.int .u8 (h : Int), .int .u64 (k : Int)] 24 (0, 0))).heap.size); obtain ⟨c50, c51, f0, f1, HG5, map5, ne5, s5⟩ := forest_step s3 hg4 HG4.out map4 ne3 (fun e => by have := (own4.lt b e).1; omega) hg5 hb5; obtain ⟨a5, cap5, rfl, _⟩ := own_shape own5))
          have B4 : Below b w w4 := bel3.grown hg4 (by omega) (fun x hx => by have := Option.some.inj hx; omega)
          have B5 : Below b w w5 := (B4.alloc (by have := hg4.size; omega) _).grown hg5 (by have := hg4.size; simp; omega) (fun x hx => by have := (own4.lt x hx).1; omega)
          have en := NE.out (by omega)
          rw [HM.out] at en
          have EN := Lib.hid en
          have ND := Nodes_yes (n := j + 1) (by omega)
          have LV := Leaves_yes (n := j + 1) (by omega)
          rw [en] at ND LV
          have cm : ((m + 1 : Nat) : Int) = (m : Int) + 1 := by omega
          have cj : ((j + 1 : Nat) : Int) = (j : Int) + 1 := by omega
          rw [cm, cj] at ND LV
          clear en cm cj
          refine (ND _).mono ?_
          rintro e w' ⟨rfl, rfl⟩
          go_wp2_with fail
          refine (LV _).mono ?_
          rintro e w' ⟨rfl, rfl⟩
          go_wp2
          go_roundw
          case rel =>
            refine ⟨j + 1, by omega, by go_num, ?_, ?_, by omega, B5⟩
            · rw [EN.out, EA.out, spotC_append]
              exact own5
            · rw [EN.out, ED.out]
              exact map5
          case measure => simp [intOf]; omega
    · obtain rfl : j = n := by omega
      have on := ones_le j
      obtain ⟨M, hM⟩ : ∃ M, nodeN j = M := ⟨_, rfl⟩
      have M600 : M ≤ 600 := by unfold nodeN at hM; omega
      rw [hM] at hown hmap
      obtain ⟨a, cap, rfl, hs⟩ := own_shape2 hown
      have HS := Lib.hid hs
      have MAP := Lib.hid hmap
      clear hs hown hM hmap
      go_wp2
      have SH := Lib.hid (show 0 < M → ∃ g, a = some ⟨g, 0, none⟩ ∧ M ≤ cap from fun h => by obtain ⟨g, e, _, _, hc, _⟩ := HS.out h; exact ⟨g, e, hc⟩)
      have CE : ∀ g, a = some ⟨g, 0, none⟩ → 0 < M → g < wr.heap.size ∧ ∀ (j : Nat) (u : Value), (spotC (atL M))[j]? = some u → wr.cell? ⟨g, j, none⟩ = some u := by
        intro g e h
        obtain ⟨g', e', _, hg, _, cells⟩ := HS.out h
        rw [e] at e'
        have : g = g' := by injection e' with e'; injection e' with e1
        subst this
        exact ⟨hg, cells⟩
      go_loopw [11] (fun i wr => F3 M b a w i wr) (fun i _ => M - (intOf i).toNat)
      case atStart => exact ⟨0, by omega, rfl, CE, MAP.out, bel⟩
      case round =>
        obtain ⟨p, hp, rfl, CE', MAP', bp⟩ := hrel
        clear CE MAP HS bel
        by_cases hlt2 : p < M
        · have pi : (p : Int) < (M : Int) := by omega
          obtain ⟨g, rfl, hcap⟩ := SH.out (by omega)
          obtain ⟨hg, cells⟩ := CE' g rfl (by omega)
          obtain ⟨r, pl⟩ := spotF_spec (p := p) (by omega)
          have sg := spotC_get (atL M) p _ (atL_get hlt2)
          rcases hsp : spotF p with ⟨h, k⟩
          rw [hsp] at r pl sg
          have ca0 := cells _ _ sg.1
          have ca1 := cells _ _ sg.2
          rw [Nat.mul_comm] at ca0 ca1
          have MAPH := Lib.hid MAP'
          have CEH := Lib.hid CE'
          have h9 := place_low (h := h) (k := k) (by rw [pl]; omega)
          have SP := Spot_yes r
          have PLC := Place_yes r
          have yk := right_k r
          obtain ⟨bb, hbb⟩ : ∃ bb, ((k % 2 : Nat) == 1) = bb := ⟨_, rfl⟩
          have RT := RT_yes r bb hbb
          have kbb : ((k : Int) % 2 == 1) = bb := by
            rw [← hbb]
            rcases (show k % 2 = 0 ∨ k % 2 = 1 by omega) with e | e
            · rw [e, beq_eq_false_iff_ne.2 (by omega)]; rfl
            · rw [e, beq_iff_eq.2 (by omega)]; rfl
          have S : Says p h k true := by rw [← pl]; exact Spot_yes r
          have IX := Index_any S
          rw [pl] at SP PLC RT
          have kbb5 : ((k : Int).tmod 2 == 1) = bb := by rw [Int.tmod_eq_emod_of_nonneg (by omega)]; exact kbb
          have RR := Lib.hid r
          have PL := Lib.hid pl
          have yi : (k : Int) ≤ 4611686018427387903 := by omega
          have p600 : (p : Int) ≤ 600 := by omega
          have WP : IntKind.u64.wrap (p : Int) = (p : Int) := by rw [wrap_u64]; omega
          clear cells sg hsp MAP' CE' r pl
          go_wp2_with fail
          refine (SP _).mono ?_
          rintro e w5 ⟨rfl, q5⟩
          have ca05 : w5.cell? ⟨g, p * 2, none⟩ = some (.int .u8 (h : Int)) := by rw [← ca0]; exact q5.cell (p := ⟨g, p * 2, none⟩) hg
          have ca15 : w5.cell? ⟨g, p * 2 + 1, none⟩ = some (.int .u64 (k : Int)) := by rw [← ca1]; exact q5.cell (p := ⟨g, p * 2 + 1, none⟩) hg
          have hg5 : g < w5.heap.size := Nat.lt_of_lt_of_le hg q5.size
          clear ca0 ca1
          unfold spotV
          go_wp2_with fail
          refine (PLC _).mono ?_
          rintro e w6 ⟨rfl, q6⟩
          have q56 : Below w5.heap.size w5 w6 := ((Below.refl _ _).alloc (Nat.le_refl _) _).trans (q6.mono (by simp))
          have ca06 : w6.cell? ⟨g, p * 2, none⟩ = some (.int .u8 (h : Int)) := by rw [← ca05]; exact q56.cell (p := ⟨g, p * 2, none⟩) hg5
          have ca16 : w6.cell? ⟨g, p * 2 + 1, none⟩ = some (.int .u64 (k : Int)) := by rw [← ca15]; exact q56.cell (p := ⟨g, p * 2 + 1, none⟩) hg5
          have hg6 : g < w6.heap.size := Nat.lt_of_lt_of_le hg5 q56.size
          obtain ⟨hc6, cs0, cs1⟩ := (SpotAt.new w5 h k 24).below q6
          have q06 : Below wr.heap.size wr w6 := q5.trans (q56.mono q5.size)
          generalize w5.heap.size = c at *
          clear ca05 ca15 hg5 q5 q6 q56 hbb
          go_wp2_with fail
          go_region_held3 (fun w' => w'.cell? ⟨g, p * 2, none⟩ = some (.int .u8 (h : Int)) ∧ w'.cell? ⟨g, p * 2 + 1, none⟩ = some (.int .u64 (k : Int)) ∧ w'.cell? ⟨c, 0, none⟩ = some (.int .u8 (h : Int)) ∧ w'.cell? ⟨c, 1, none⟩ = some (.int .u64 (k : Int)) ∧ Below w6.heap.size w6 w') (first | assumption | exact ⟨ca06, ca16, cs0, cs1, (Below.refl _ _).drew⟩) (first | (go_at_call 37; refine (RT _).mono ?_; rintro e w7 ⟨rfl, q7⟩; have b7 : Below w6.heap.size w6 w7 := ((Below.refl _ _).drew).trans (q7.mono (Nat.le_refl _)); have S7 : w7.cell? ⟨g, p * 2, none⟩ = some (.int .u8 (h : Int)) ∧ w7.cell? ⟨g, p * 2 + 1, none⟩ = some (.int .u64 (k : Int)) ∧ w7.cell? ⟨c, 0, none⟩ = some (.int .u8 (h : Int)) ∧ w7.cell? ⟨c, 1, none⟩ = some (.int .u64 (k : Int)) ∧ Below w6.heap.size w6 w7 := ⟨by rw [← ca06]; exact b7.cell (p := ⟨g, p * 2, none⟩) hg6, by rw [← ca16]; exact b7.cell (p := ⟨g, p * 2 + 1, none⟩) hg6, by rw [← cs0]; exact b7.cell (p := ⟨c, 0, none⟩) hc6, by rw [← cs1]; exact b7.cell (p := ⟨c, 1, none⟩) hc6, b7⟩))
          obtain ⟨ca07, ca17, cs07, cs17, b67⟩ := S7
          have q07 : Below wr.heap.size wr w7 := q06.trans (b67.mono q06.size)
          have hc7 : c < w7.heap.size := Nat.lt_of_lt_of_le hc6 b67.size
          clear ca06 ca16 cs0 cs1 hc6 hg6 q06 ca07 ca17 b67 q7 b7 RT
          have PA := PA_yes RR.out (by omega)
          have ru := right_up RR.out (by omega)
          have up := mapD_at ru M (by omega)
          rw [PL.out] at PA
          cases h with
          | zero =>
            have IX0 : ∀ w : World, Calls Try.prog 28 #[.int .u64 p] w fun e w' => e = .returned (.tuple #[.int .u64 (k : Int), .bool true]) ∧ Below w.heap.size w w' := by
              have e : indexN 0 k true = (k, true) := by simp [indexN]
              rw [e] at IX
              exact IX
            have KD := Kids_no S (.inr rfl)
            clear IX S SP PLC
            go_wp2_with fail
            refine (IX0 _).mono ?_
            rintro e w8 ⟨rfl, q8⟩
            have cs08 : w8.cell? ⟨c, 0, none⟩ = some (.int .u8 0) := by rw [q8.cell (p := ⟨c, 0, none⟩) hc7]; exact cs07
            have cs18 : w8.cell? ⟨c, 1, none⟩ = some (.int .u64 (k : Int)) := by rw [← cs17]; exact q8.cell (p := ⟨c, 1, none⟩) hc7
            have hc8 : c < w8.heap.size := Nat.lt_of_lt_of_le hc7 q8.size
            have q08 := q07.trans (q8.mono q07.size)
            clear cs07 cs17 q8 hc7 q07
            go_wp2_with fail
            refine (KD _).mono ?_
            rintro e w9 ⟨rfl, q9⟩
            have cs09 : w9.cell? ⟨c, 0, none⟩ = some (.int .u8 0) := by rw [← cs08]; exact q9.cell (p := ⟨c, 0, none⟩) hc8
            have cs19 : w9.cell? ⟨c, 1, none⟩ = some (.int .u64 (k : Int)) := by rw [← cs18]; exact q9.cell (p := ⟨c, 1, none⟩) hc8
            have hc9 : c < w9.heap.size := Nat.lt_of_lt_of_le hc8 q9.size
            have q09 := q08.trans (q9.mono q08.size)
            have map9 := map_below MAPH.out q09
            clear cs08 cs18 q9 hc8 q08
            have ku : keyOf Try.prog 24 (.agg #[.int .u8 (1), .int .u64 ((k : Int) / 2)]) = some (keyL (0 + 1) (k / 2)) := key_of (right_wf ru).1 (right_wf ru).2
            have KU := Lib.hid ku
            clear ku
            by_cases hup : placeN (0 + 1) (k / 2) < M
            · rw [if_pos hup, decide_eq_true hup] at up
              have UP := Lib.hid up
              have UPN := Lib.hid hup
              clear up hup
              generalize placeN (0 + 1) (k / 2) = u at *
              go_wp2_with (at_lookup; refine wpList_lookup_own_ok_int _ rfl _ _ 46 rfl 24 22 .u64 spotLaw Try.underlying46 Try.underlying22 (zeroE _) b M (mapD M) rfl map9 _ _ rfl KU.out ?_; intro c0 hat hwc; rw [UP.out.1] at hat; obtain rfl : c0 = (u : Int) := lit_inj hat; rw [UP.out.2]; clear hat hwc)
              refine (PA _).mono ?_
              rintro e w10 ⟨rfl, q10⟩
              go_wp2
              go_roundw
              case rel => exact f3_next CEH.out MAPH.out bp (q09.trans (q10.mono q09.size)) hlt2 (by go_num)
              case measure => simp [intOf]; omega
            · rw [if_neg hup, decide_eq_false hup] at up
              have UP := Lib.hid up
              have un : (M : Int) ≤ (placeN (0 + 1) (k / 2) : Int) := by omega
              have un2 : decide ((placeN (0 + 1) (k / 2) : Int) < (M : Int)) = false := decide_eq_false (by omega)
              have un3 : decide (placeN (0 + 1) (k / 2) < M) = false := decide_eq_false (by omega)
              have un4 : M ≤ placeN (0 + 1) (k / 2) := by omega
              clear up hup
              generalize placeN (0 + 1) (k / 2) = u at *
              go_wp2_with (at_lookup; refine wpList_lookup_own_ok_int _ rfl _ _ 46 rfl 24 22 .u64 spotLaw Try.underlying46 Try.underlying22 (zeroE _) b M (mapD M) rfl map9 _ _ rfl KU.out ?_; intro c0 hat hwc; rw [UP.out.1] at hat; obtain rfl : c0 = 0 := lit_inj hat; rw [UP.out.2]; clear hat hwc)
              refine (PA _).mono ?_
              rintro e w10 ⟨rfl, q10⟩
              go_wp2
              go_roundw
              case rel => exact f3_next CEH.out MAPH.out bp (q09.trans (q10.mono q09.size)) hlt2 (by go_num)
              case measure => simp [intOf]; omega
          | succ h =>
            have IX0 : ∀ w : World, Calls Try.prog 28 #[.int .u64 p] w fun e w' => e = .returned (.tuple #[.int .u64 0, .bool false]) ∧ Below w.heap.size w w' := by
              have e : indexN (h + 1) k true = (0, false) := by simp [indexN]
              rw [e] at IX
              exact IX
            have KD := Kids_yes S RR.out PL.out
            obtain ⟨rl, rr⟩ := right_left RR.out
            have pls := kids_low RR.out (by rw [PL.out]; exact hlt2)
            have ml := mapD_at rl M (by omega)
            have mr := mapD_at rr M (by omega)
            rw [if_pos pls.1] at ml
            rw [if_pos pls.2] at mr
            have kl : keyOf Try.prog 24 (.agg #[.int .u8 (h : Int), .int .u64 (2 * (k : Int))]) = some (keyL h (2 * k)) := key_of (right_wf rl).1 (right_wf rl).2
            have kr : keyOf Try.prog 24 (.agg #[.int .u8 (h : Int), .int .u64 (2 * (k : Int) + 1)]) = some (keyL h (2 * k + 1)) := key_of (right_wf rr).1 (right_wf rr).2
            have ML := Lib.hid ml.1
            have MR := Lib.hid mr.1
            have KL := Lib.hid kl
            have KR := Lib.hid kr
            clear IX S SP PLC ml mr kl kr rl rr pls
            generalize placeN h (2 * k) = pl at *
            generalize placeN h (2 * k + 1) = pr at *
            have h9' : (h : Int) ≤ 8 := by omega
            go_wp2_with fail
            refine (IX0 _).mono ?_
            rintro e w8 ⟨rfl, q8⟩
            have cs08 : w8.cell? ⟨c, 0, none⟩ = some (.int .u8 ((h : Int) + 1)) := by rw [q8.cell (p := ⟨c, 0, none⟩) hc7]; exact cs07
            have cs18 : w8.cell? ⟨c, 1, none⟩ = some (.int .u64 (k : Int)) := by rw [← cs17]; exact q8.cell (p := ⟨c, 1, none⟩) hc7
            have hc8 : c < w8.heap.size := Nat.lt_of_lt_of_le hc7 q8.size
            have q08 := q07.trans (q8.mono q07.size)
            clear cs07 cs17 q8 hc7 q07
            go_wp2_with fail
            refine (KD _).mono ?_
            rintro e w9 ⟨rfl, q9⟩
            have cs09 : w9.cell? ⟨c, 0, none⟩ = some (.int .u8 ((h : Int) + 1)) := by rw [← cs08]; exact q9.cell (p := ⟨c, 0, none⟩) hc8
            have cs19 : w9.cell? ⟨c, 1, none⟩ = some (.int .u64 (k : Int)) := by rw [← cs18]; exact q9.cell (p := ⟨c, 1, none⟩) hc8
            have hc9 : c < w9.heap.size := Nat.lt_of_lt_of_le hc8 q9.size
            have q09 := q08.trans (q9.mono q08.size)
            have map9 := map_below MAPH.out q09
            obtain ⟨c1, hrun1, hat1, _⟩ := map9.lookup_int spotLaw Try.underlying46 Try.underlying22 (zeroE _) KL.out
            obtain ⟨c2, hrun2, hat2, _⟩ := map9.lookup_int spotLaw Try.underlying46 Try.underlying22 (zeroE _) KR.out
            rw [ML.out] at hat1
            rw [MR.out] at hat2
            obtain rfl : c1 = (pl : Int) := lit_inj hat1
            obtain rfl : c2 = (pr : Int) := lit_inj hat2
            clear cs08 cs18 q9 hc8 q08 hat1 hat2
            have ku : keyOf Try.prog 24 (.agg #[.int .u8 ((h : Int) + 1 + 1), .int .u64 ((k : Int) / 2)]) = some (keyL ((h + 1) + 1) (k / 2)) := key_of (right_wf ru).1 (right_wf ru).2
            have KU := Lib.hid ku
            clear ku
            by_cases hup : placeN ((h + 1) + 1) (k / 2) < M
            · rw [if_pos hup, decide_eq_true hup] at up
              have UP := Lib.hid up
              have UPN := Lib.hid hup
              clear up hup
              generalize placeN ((h + 1) + 1) (k / 2) = u at *
              go_wp2_with (at_lookup; refine wpList_lookup_own_ok_int _ rfl _ _ 46 rfl 24 22 .u64 spotLaw Try.underlying46 Try.underlying22 (zeroE _) b M (mapD M) rfl map9 _ _ rfl KU.out ?_; intro c0 hat hwc; rw [UP.out.1] at hat; obtain rfl : c0 = (u : Int) := lit_inj hat; rw [UP.out.2]; clear hat hwc)
              refine (PA _).mono ?_
              rintro e w10 ⟨rfl, q10⟩
              go_wp2
              go_roundw
              case rel => exact f3_next CEH.out MAPH.out bp (q09.trans (q10.mono q09.size)) hlt2 (by go_num)
              case measure => simp [intOf]; omega
            · rw [if_neg hup, decide_eq_false hup] at up
              have UP := Lib.hid up
              have un : (M : Int) ≤ (placeN ((h + 1) + 1) (k / 2) : Int) := by omega
              have un2 : decide ((placeN ((h + 1) + 1) (k / 2) : Int) < (M : Int)) = false := decide_eq_false (by omega)
              have un3 : decide (placeN ((h + 1) + 1) (k / 2) < M) = false := decide_eq_false (by omega)
              have un4 : M ≤ placeN ((h + 1) + 1) (k / 2) := by omega
              clear up hup
              generalize placeN ((h + 1) + 1) (k / 2) = u at *
              go_wp2_with (at_lookup; refine wpList_lookup_own_ok_int _ rfl _ _ 46 rfl 24 22 .u64 spotLaw Try.underlying46 Try.underlying22 (zeroE _) b M (mapD M) rfl map9 _ _ rfl KU.out ?_; intro c0 hat hwc; rw [UP.out.1] at hat; obtain rfl : c0 = 0 := lit_inj hat; rw [UP.out.2]; clear hat hwc)
              refine (PA _).mono ?_
              rintro e w10 ⟨rfl, q10⟩
              go_wp2
              go_roundw
              case rel => exact f3_next CEH.out MAPH.out bp (q09.trans (q10.mono q09.size)) hlt2 (by go_num)
              case measure => simp [intOf]; omega
        · obtain rfl : p = M := by omega
          go_wp2_with fail
          refine (awake3_any _).mono ?_
          rintro e w9 ⟨rfl, q9⟩
          go_wp2
          go_ret
          rw [HB.out]
          exact ⟨rfl, bp.trans (q9.mono (by have := bp.size; rw [HB.out] at this; exact this))⟩
theorem walkPosForest (a0 : Int) (w0 : (Lit.int .i64 a0).wf = true) (w : World) :
    Calls Try.prog 10 #[.int .i64 a0] w fun e w' => e = .returned (.bool true) ∧ Below w.heap.size w w' := by
  by_cases h : a0 < 0 ∨ 300 < a0
  · exact forest_no h w
  · obtain ⟨n, rfl⟩ : ∃ n : Nat, a0 = n := ⟨a0.toNat, by omega⟩
    exact forest_yes (by omega) w
end Go.Proofs.Ytkiomgnjjijbgaa
