/-
  The walk of HashSteps.
-/
import Derived.Test.YtcifnfffoiiceaaDoorCompRef
import Derived.Test.YtcifnfffoiiceaaDoorAwake2
import Derived.Test.YtcifnfffoiiceaaDoorEqlA
import Derived.Test.YtcifnfffoiiceaaDoorHeldSeq
namespace Go.Proofs.YtcifnfffoiiceaaDoor
open Go.RowKit
set_option linter.unusedVariables false
set_option pp.deepTerms true
set_option pp.maxSteps 1000000

theorem row_range0 {w : World} {g : Nat} {l : List Nat} {t : TypeId} (h : w.heap[g]? = some (.cells (cellsOf' u8c l) t (0, 0))) : w.rangeAt g 0 (l.map u8c) := row_range (cur := l.map u8c) h (fun j v hj => by rw [Nat.zero_add]; exact hj)
/-! What the region's loads want, and what its calls leave. -/
theorem Kept.drew {b c Z : Nat} {CS CK : List Value} {w1 w : World} (h : w.rangeAt b 0 CS ∧ w.rangeAt c 0 CK ∧ Below Z w1 w) : w.drew.rangeAt b 0 CS ∧ w.drew.rangeAt c 0 CK ∧ Below Z w1 w.drew :=
  ⟨(World.rangeAt_drew _ _ _ _).2 h.1, (World.rangeAt_drew _ _ _ _).2 h.2.1, h.2.2.drew⟩
theorem range_below {w w' : World} {b : Nat} {C : List Value} (h : w.rangeAt b 0 C) (q : Below w.heap.size w w') : w'.rangeAt b 0 C := fun j v hv => by
  have hc := h j v hv
  exact (q.cell (p := ⟨b, 0 + j, none⟩) (World.block_lt_of_cell? w _ hc)).trans hc
theorem Kept.below {b c Z : Nat} {CS CK : List Value} {w1 w w' : World} (h : w.rangeAt b 0 CS ∧ w.rangeAt c 0 CK ∧ Below Z w1 w) (hZ : w1.heap.size = Z) (q : Below w.heap.size w w') : w'.rangeAt b 0 CS ∧ w'.rangeAt c 0 CK ∧ Below Z w1 w' :=
  ⟨range_below h.1 q, range_below h.2.1 q, h.2.2.trans (q.mono (by rw [← hZ]; exact h.2.2.size))⟩
set_option maxHeartbeats 4000000 in
theorem walkHashSteps {wd : Int} {S K : List Nat} (w0 : (Lit.int .i64 wd).wf = true) (hS : S.length = 32) (bS : Bytes S) (hK : K.length = 64) (bK : Bytes K) (w : World) (D : DoorAt w) :
    Calls Tryd.prog 3 #[.int .i64 wd, .agg (cellsOf' u8c S), .agg (cellsOf' u8c K)] w fun e w' => e = .returned (.bool true) ∧ Below w.heap.size w w' := by
  have CP : ∀ W, DoorAt W → Calls Tryd.prog 12 #[.int .i64 wd, .agg (S.map u8c).toArray, .agg (K.map u8c).toArray] W fun e w' => e = .returned (.agg (cellsOf' u8c (compressN wd S K))) ∧ Below W.heap.size W w' := fun W DA => Compress_any hS hK bS bK W DA
  have CR : ∀ W, Calls Tryd.prog 13 #[.int .i64 wd, .agg (S.map u8c).toArray, .agg (K.map u8c).toArray] W fun e w' => e = .returned (.agg (cellsOf' u8c (compressN wd S K))) ∧ Below W.heap.size W w' := fun W => refCompress_any hS hK bS bK W
  have cl := compress_len wd S K
  generalize compressN wd S K = Z at *
  have EQ : ∀ w, (Op.equalIn 10000 23 (.agg (cellsOf' u8c Z)) (.agg (cellsOf' u8c Z))).run Tryd.prog w = .ok true w := fun w => by rw [run_eql_h w cl cl, decide_eq_true rfl]
  have EG := guard_h
  have zs : (Tryd.prog.info? 23).map (·.size) = some (S.map u8c).length := by rw [List.length_map, hS]; exact size_32
  have zk : (Tryd.prog.info? 24).map (·.size) = some (K.map u8c).length := by rw [List.length_map, hK]; exact size_64
  have us := Tryd.underlying23
  have uk := Tryd.underlying24
  have ls : (S.map u8c).length = 32 := by rw [List.length_map, hS]
  have lk : (K.map u8c).length = 64 := by rw [List.length_map, hK]
  have os : ∀ v ∈ S.map u8c, v.oneCell' = true := fun v hv => by obtain ⟨c, _, rfl⟩ := List.mem_map.1 hv; rfl
  have ok : ∀ v ∈ K.map u8c, v.oneCell' = true := fun v hv => by obtain ⟨c, _, rfl⟩ := List.mem_map.1 hv; rfl
  have HC := Lib.hid (And.intro CP CR)
  have HD := Lib.hid D
  have hA : (cellsOf' u8c S).size = 32 := by rw [co_size, hS]
  have hB : (cellsOf' u8c K).size = 64 := by rw [co_size, hK]
  clear CP CR hS hK bS bK D cl w0
  go_enter Tryd.func3, Tryd.ntmps3
  go_wp2_with fail
  generalize hW1 : World.alloc (World.alloc w _) _ = w1
  have h0 : Below w.heap.size w w1 := by rw [← hW1]; exact ((Below.refl _ _).alloc (Nat.le_refl _) _).alloc (by simp) _
  have e1 : (w.alloc (.cells (cellsOf' u8c S) 23 (0, 0))).heap.size = w.heap.size + 1 := by simp
  have g1 : w1.heap[w.heap.size]? = some (.cells (cellsOf' u8c S) 23 (0, 0)) := by rw [← hW1, Below.heap_alloc _ _ _ (by simp), heap_alloc_new]
  have g2 : w1.heap[w.heap.size + 1]? = some (.cells (cellsOf' u8c K) 24 (0, 0)) := by rw [← hW1, ← e1, heap_alloc_new]
  have D1 := HD.out.below h0
  have S0 : w1.rangeAt w.heap.size 0 (S.map u8c) ∧ w1.rangeAt (w.heap.size + 1) 0 (K.map u8c) ∧ Below w1.heap.size w1 w1 := ⟨row_range0 g1, row_range0 g2, Below.refl _ _⟩
  have HS0 := Lib.hid S0
  have HD1 := Lib.hid D1
  have H0 := Lib.hid h0
  generalize hb : w.heap.size = b at *
  generalize hz : w1.heap.size = Z1 at *
  have HZ1 := Lib.hid hz
  have HBw := Lib.hid hb
  generalize S.map u8c = CS at *
  generalize K.map u8c = CK at *
  clear hW1 g1 g2 e1 D1 S0 h0 hz hb
  generalize b + 1 = c at *
  have hz2 : 1 < Z1 := by have := HD1.out.1; have := HZ1.out; omega
  refine wp_region_held (S := fun w' => w'.rangeAt b 0 CS ∧ w'.rangeAt c 0 CK ∧ Below Z1 w1 w') (by kernel_rfl) ?_
  change wpAnyH _ _ _ _ _ _ _ _ (World.drew _)
  have S1 := Kept.drew HS0.out
  refine anyH_take (i := 0) (d := 7) (v := .int .i64 wd) rfl rfl (by kernel_rfl) (by kernel_rfl) (by kernel_rfl) (fun _ _ _ h => h) (Or.inl ⟨by rfl, fun w _ => by go_simp⟩) S1 ?_
  refine anyH_take (i := 4) (d := 11) (v := .int .i64 wd) rfl rfl (by kernel_rfl) (by kernel_rfl) (by kernel_rfl) (fun _ _ _ h => h) (Or.inl ⟨by rfl, fun w _ => by go_simp⟩) S1 ?_
  refine anyH_take (i := 1) (d := 8) (v := .agg CS.toArray) rfl rfl (by kernel_rfl) (by kernel_rfl) (by kernel_rfl) (fun _ _ _ h => h) (yieldsIf_load_mid (by rfl) 23 (.tmp 4) rfl b 0 (by kernel_rfl) CS _ (fun w h => h.1) us rfl zs) S1 ?_
  refine anyH_take (i := 2) (d := 9) (v := .agg CK.toArray) rfl rfl (by kernel_rfl) (by kernel_rfl) (by kernel_rfl) (fun _ _ _ h => h) (yieldsIf_load_mid (by rfl) 24 (.tmp 5) rfl c 0 (by kernel_rfl) CK _ (fun w h => h.2.1) uk rfl zk) S1 ?_
  refine anyH_take (i := 5) (d := 12) (v := .agg CS.toArray) rfl rfl (by kernel_rfl) (by kernel_rfl) (by kernel_rfl) (fun _ _ _ h => h) (yieldsIf_load_mid (by rfl) 23 (.tmp 4) rfl b 0 (by kernel_rfl) CS _ (fun w h => h.1) us rfl zs) S1 ?_
  refine anyH_take (i := 6) (d := 13) (v := .agg CK.toArray) rfl rfl (by kernel_rfl) (by kernel_rfl) (by kernel_rfl) (fun _ _ _ h => h) (yieldsIf_load_mid (by rfl) 24 (.tmp 5) rfl c 0 (by kernel_rfl) CK _ (fun w h => h.2.1) uk rfl zk) S1 ?_
  refine anyH_one (i := 3) (by kernel_rfl) rfl ?_
  go_wp2_with (go_at_call 12; refine (HC.out.1 _ (DoorAt.low HD1.out (Z := Z1) hz2 (Below.refl _ _).drew)).mono ?_; rintro e wE ⟨rfl, qE⟩; have sE := Kept.below S1 HZ1.out qE)
  refine ⟨sE, ?_⟩
  refine anyH_one (i := 7) (by kernel_rfl) rfl ?_
  go_wp2_with (go_at_call 13; refine (HC.out.2 _).mono ?_; rintro e wF ⟨rfl, qF⟩; have sF := Kept.below sE HZ1.out qF)
  refine ⟨sF, ?_⟩
  refine anyH_one (i := 8) (by kernel_rfl) rfl ?_
  go_wp2_with fail
  refine ⟨sF, ?_⟩
  refine anyH_one (i := 9) (by kernel_rfl) rfl ?_
  go_wp2_with fail
  refine ⟨sF, ?_⟩
  refine anyH_one (i := 10) (by kernel_rfl) rfl ?_
  go_wp2_with (go_at_call 14; refine (awake2_any (HD1.out.low hz2 sF.2.2)).mono ?_; rintro e wG ⟨rfl, qG⟩; have sG := Kept.below sF HZ1.out qG)
  refine ⟨sG, ?_⟩
  refine anyH_one (i := 11) (by kernel_rfl) rfl ?_
  go_wp2_with fail
  refine ⟨sG, ?_⟩
  refine anyH_one (i := 12) (by kernel_rfl) rfl ?_
  go_wp2_with fail
  refine ⟨sG, wpAnyH_done (by kernel_rfl) ?_ _⟩
  have hG : Below w.heap.size w wG := by
    rw [HBw.out]
    exact H0.out.trans (sG.2.2.mono (by have := H0.out.size; have := HBw.out; have := HZ1.out; omega))
  go_wp2_with fail
  go_ret
  exact ⟨rfl, hG⟩
end Go.Proofs.YtcifnfffoiiceaaDoor
