/-
  Hashers that take pieces, are cloned, and go on, in turns: each answers the reference's Sum of the text that it took, and its length; the given rows and their marks are as they were: law HashPieces answers true for every width and every list of acts.
-/
import Derived.Test.YtcifnfffoiiceaaDoorRows
import Derived.Test.YtcifnfffoiiceaaDoorCards
import Derived.Test.YtcifnfffoiiceaaDoorTie
import Derived.Test.YtcifnfffoiiceaaDoorWalkHashPieces
import Derived.Test.YtcifnfffoiiceaaDoorArgActs
import Derived.Test.YtcifnfffoiiceaaDoorArgsH
import Derived.ProofKit
import Derived.LaidMore
import Derived.OpenShut
import Derived.ChangeOld
import Derived.Below
import Derived.Stop.Joined
import Derived.Lib.LaidTab
import Derived.SevenTiedAt
namespace Go.Proofs.YtcifnfffoiiceaaDoor.hashPieces
open Go.ChangeShapes Go.WideShapes Go.ChangeAt Go.RowKit
set_option linter.unusedVariables false
theorem own : ownKnob Tryd.prog.godebug = none := by kernel_rfl
theorem laidOut : laidOutB Tryd.prog = true := by kernel_rfl
theorem gK : Tryd.prog.globalNamed "massif/hash.k" = some 0 := by kernel_rfl
theorem gF : Tryd.prog.globalNamed "massif/hash.first" = some 1 := by kernel_rfl
theorem tK : (Tryd.prog.globals[0]?).map (·.type) = some 64 := by kernel_rfl
theorem tF : (Tryd.prog.globals[1]?).map (·.type) = some 23 := by kernel_rfl
theorem cellsE : Tryd.prog.cellsOf 63 = 1 := by kernel_rfl
theorem cellsT : Tryd.prog.cellsOf 64 = 64 := by kernel_rfl
theorem cellsU : Tryd.prog.cellsOf 5 = 1 := by kernel_rfl
theorem cellsH : Tryd.prog.cellsOf 23 = 32 := by kernel_rfl
def tabK : List Int := [1116352408, 1899447441, 3049323471, 3921009573, 961987163, 1508970993, 2453635748, 2870763221, 3624381080, 310598401, 607225278, 1426881987, 1925078388, 2162078206, 2614888103, 3248222580, 3835390401, 4022224774, 264347078, 604807628, 770255983, 1249150122, 1555081692, 1996064986, 2554220882, 2821834349, 2952996808, 3210313671, 3336571891, 3584528711, 113926993, 338241895, 666307205, 773529912, 1294757372, 1396182291, 1695183700, 1986661051, 2177026350, 2456956037, 2730485921, 2820302411, 3259730800, 3345764771, 3516065817, 3600352804, 4094571909, 275423344, 430227734, 506948616, 659060556, 883997877, 958139571, 1322822218, 1537002063, 1747873779, 1955562222, 2024104815, 2227730452, 2361852424, 2428436474, 2756734187, 3204031479, 3329325298]
def tabF : List Int := [106, 9, 230, 103, 187, 103, 174, 133, 60, 110, 243, 114, 165, 79, 245, 58, 81, 14, 82, 127, 155, 5, 104, 140, 31, 131, 217, 171, 91, 224, 205, 25]
theorem k_at : tabK = tableK.map fun (n : Nat) => (n : Int) := by decide +kernel
theorem f_at : tabF = firstN.map fun (n : Nat) => (n : Int) := by decide +kernel
theorem door_met (os : Os) (args : Array Value) : laidMetH Tryd.prog Rows.hashPiecesRow.laid ((World.doorLaid Tryd.prog 400 os).forCall (fun _ _ => 0) ⟨#[], args, []⟩).memory :=
  laidMetH_of_parts3 (fuel := 8) (laidMet_of_run' 8 (by kernel_rfl) (by kernel_rfl)) (by kernel_rfl) (by kernel_rfl)
theorem of_laid {W : World} (h : laidMetH Tryd.prog Rows.hashPiecesRow.laid W) : DoorAt W := by
  rw [MakeChecks.laidMetH_plain _ _ _ (by kernel_rfl)] at h
  have hK : Lib.TabIs Tryd.prog W "massif/hash.k" .u32 tabK := Lib.tabIs_of_head gK tK Tryd.underlying64 Tryd.underlying63 cellsE cellsT h
  have hF : Lib.TabIs Tryd.prog W "massif/hash.first" .u8 tabF := tabIs_second (rest := []) gF tF Tryd.underlying23 Tryd.underlying5 cellsU cellsH h
  have cK : ∀ (j t : Nat), tableK[j]? = some t → W.cell? ⟨0, j, none⟩ = some (.int .u32 (t : Int)) := fun j t ht => by
    have hj := (List.getElem?_eq_some_iff.1 ht).1
    rw [hK.cell gK j (by rw [k_at, List.length_map]; exact hj), k_at]
    simp [List.getD, ht]
  have cF : ∀ (j t : Nat), firstN[j]? = some t → W.cell? ⟨1, j, none⟩ = some (.int .u8 (t : Int)) := fun j t ht => by
    have hj := (List.getElem?_eq_some_iff.1 ht).1
    rw [hF.cell gF j (by rw [f_at, List.length_map]; exact hj), f_at]
    simp [List.getD, ht]
  exact ⟨World.block_lt_of_cell? W _ (cF 0 106 rfl), cK, cF⟩
set_option maxRecDepth 100000 in
theorem lifted (os : Os) (started : os.Started) (H : Type) (enc : TypeId × Value → H) :
    ReturnsInHanded {} Tryd.checked os 6 .any (fun w args => (Rows.hashPiecesSpec.pre enc Tryd.prog Tryd.f6 [] false w args ∧ laidMetH Tryd.prog Rows.hashPiecesRow.laid w) ∧ sizedMet enc Tryd.prog Tryd.f6 (OpenSpec.ofChange Rows.hashPiecesSpec) false w args)
      (Rows.hashPiecesSpec.post enc Tryd.prog Tryd.f6 false true false false) := by
  refine returnsInHanded_of_change_and (C := Tryd.checked) (X := fun w _ => laidMetH Tryd.prog Rows.hashPiecesRow.laid w) (fun _ _ _ hh h => h.of_heap hh) own started (by kernel_rfl) Tryd.func6
    (ChangeSpec.witness_shaped (enc := enc) (C := Tryd.checked) (os := os) (X := fun w _ => laidMetH Tryd.prog Rows.hashPiecesRow.laid w) false (World.doorLaid Tryd.prog 400 os) #[.int .i64 0, .slice none 0 0] 8 rfl (World.shaped_of_RefB (by kernel_rfl) (by kernel_rfl)) (by kernel_rfl) (by kernel_rfl) (by kernel_rfl) (door_met os _)) ?_
  intro W base args ds gs before hval0 hW _ hsz0 hL _
  have hsz : (DataW.weightsEach Tryd.prog (Tryd.f6.params.toList ++ Rows.hashPiecesSpec.plain.varTypes Tryd.prog) (ds ++ gs)).all (· ≤ reachBytes) = true := hsz0
  have hval : ∀ (j : Nat) t v, Tryd.f6.params[j]? = some t → args[j]? = some v → Value.okWide Tryd.prog W .any base t v := hval0
  have hW' := hW
  obtain ⟨p, q, hA0, hV, rfl, hfz, hnd⟩ := hW
  have hA : DataW.TrodAll enc Tryd.prog W 0 (fun _ => true) true Tryd.f6.params.toList args.toList ds p := hA0
  rw [Tryd.params6] at hA hval hsz
  obtain ⟨v0, vs0, d0, ds0, p0, q0, hargs, rfl, rfl, h0, r0⟩ := trodAll_cons hA
  obtain ⟨v1, vs1, d1, ds1, p1, q1, rfl, rfl, rfl, h1, r1⟩ := trodAll_cons r0
  obtain ⟨rfl, rfl, rfl⟩ := trodAll_nil r1
  obtain rfl : args = #[v0, v1] := by cases args; simp_all
  obtain ⟨rfl, rfl⟩ := trodVars_none hV
  obtain ⟨a0, rfl, rfl, rfl, w0⟩ := open_int Tryd.underlying3 (hval 0 3 v0 rfl rfl) h0
  obtain ⟨a1, len1, cap1, rfl⟩ := okWide_slice Tryd.underlying36 (hval 1 36 v1 rfl rfl)
  have k1 := h1
  have lt1 : ∀ x ∈ p1, x.block < W.heap.size := by obtain ⟨m, hm⟩ := k1; exact DataW.trod_lt m _ _ _ hm
  obtain ⟨l1, s1, y1⟩ := arg_acts hsz (j := 1) (t := 36) rfl rfl Tryd.underlying36 Tryd.underlying38 Tryd.underlying3 Tryd.underlying29 Tryd.underlying5 rfl rfl (by kernel_rfl) (by kernel_rfl) (by kernel_rfl) (by kernel_rfl) (by kernel_rfl) h1
  clear hA0 hval0
  refine (walkHashPieces W (of_laid hL) w0 s1 y1).mono fun e W' ⟨he, bel⟩ => ?_
  subst he
  exact ⟨_, rfl, _, _, _, [], _, [], hW', trodAll_mk1 (shut_bool Tryd.underlying4 _), (trodAll_cons_mk (shut_int Tryd.underlying3 w0) (trodAll_cons_mk (Below.trod laidOut (by kernel_rfl) (of_decide_eq_true (by kernel_rfl)) k1 bel lt1) trodAll_mk0)), rfl, bel.frame _, fun h => by cases h⟩
theorem row_holds : Rows.HashPiecesSaid :=
  OpenClaim.holds_of_wide 6 Tryd.f6 rfl rfl rfl rfl rfl rfl rfl ⟨rfl, rfl, rfl, rfl, rfl⟩ rfl rfl rfl rfl rfl (by kernel_rfl) Tryd.func6 (by kernel_rfl)
    (of_decide_eq_true (by kernel_rfl)) (by unfold Func.isWrapper; first | (rw [if_pos (by decide +kernel)]; kernel_rfl) | (rw [if_neg (by decide +kernel)]; exact ⟨rfl, rfl⟩))
    (fun os started H enc _ => lifted os started H enc)
theorem proved : Rows.HashPiecesCardSaid :=
  Claim7.holds_tied_plain_at .later [] [.data, .data] true (true, "217afbbc5944480fe2f529ad58fd97cdac41ba5fa6352cd7679607fdd11920b3") false
    row_holds (fun _ h => by cases h) (by kernel_rfl) (fun _ h => by cases h) hashPieces_row_tie rfl ⟨rfl, rfl⟩ (by kernel_rfl) rfl
    (fun f fn hf hfn => by
      obtain rfl : f = 6 := Option.some.inj ((show Tryd.prog.funcNamed "massif/massiflaw2.HashPieces" = some 6 by kernel_rfl).symm.trans hf) |>.symm
      obtain rfl : fn = Tryd.f6 := (Option.some.inj (Tryd.func6.symm.trans hfn)).symm
      exact ⟨by kernel_rfl, fun j t ht => by
        rw [Tryd.params6] at ht
        have hm : t ∈ [3, 36] := by simpa using Array.mem_of_getElem? ht
        have hall : ([3, 36].all fun u => !Tryd.prog.wantsStandIn u) = true := by kernel_rfl
        exact (show Tryd.prog.wantsStandIn t = false by simpa using List.all_eq_true.1 hall t hm)⟩)
    (by kernel_rfl)
#print axioms proved
end Go.Proofs.YtcifnfffoiiceaaDoor.hashPieces
