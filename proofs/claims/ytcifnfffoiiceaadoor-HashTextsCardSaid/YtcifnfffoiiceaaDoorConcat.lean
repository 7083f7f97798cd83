/-
  The walks of slices.Grow (from nothing) and slices.Concat on bytes.
-/
import Derived.Test.YtcifnfffoiiceaaDoorParts
import Derived.Lib.AppendZeros
namespace Go.Proofs.YtcifnfffoiiceaaDoor
open Go.RowKit
set_option linter.unusedVariables false
set_option pp.deepTerms true
set_option pp.maxSteps 1000000

theorem Grow_any {n : Nat} (h0 : 0 < n) (hn : n ≤ 1000000) (W : World) :
    Calls Tryd.prog 70 #[.slice none 0 0, .int .i64 (n : Int)] W fun e w' => ∃ v, e = .returned v ∧ w'.ownsRow W.heap.size 5 1 v 0 [] ∧ Below W.heap.size W w' := by
  obtain ⟨i0, hi, hz0, hz1, hz2⟩ := info_parts info_u8
  have RZ := Lib.hid (fun (w : World) (ty : TypeId) => Lib.run_append_nil_zeros (P := Tryd.prog) w 29 3 ty 5 i0 (.int .u8 0) .i64 .i64 Tryd.underlying29 Tryd.underlying3 hi hz0 n h0 (by rw [hz1]; decide) (by omega) (by rw [hz2]; omega))
  have ni : (n : Int) ≤ 1000000 := by omega
  have n0 : (0 : Int) < (n : Int) := by omega
  go_enter Tryd.func70, Tryd.ntmps70
  go_wp2_with (at_builtin; refine Lib.wpList_append_run _ rfl _ _ _ _ rfl _ _ rfl rfl _ _ (RZ.out _ _) ?_)
  go_ret
  have h1 := grownCap_ge W n 0 5
  have h2 := grownCap_le_maxLen W n 0 5 (by unfold maxLen; omega)
  generalize grownCap W n 0 5 = C at *
  exact ⟨_, rfl, ⟨rfl, .inr ⟨W.heap.size, C, _, rfl, Nat.le_refl _, heap_alloc_new W.drew _, Nat.zero_le _, h2, by simp [size_zeroCells]; omega, rfl⟩⟩, ((Below.refl _ _).drew).alloc (Nat.le_refl _) _⟩
set_option maxHeartbeats 1000000 in
theorem Concat_any {W : World} {v : Value} {vs : List Value} {Ls : List (List Nat)} (H : PartsAt W v vs Ls) (hl : Ls.flatten.length ≤ 1000000) (h0 : 0 < Ls.flatten.length) (hn : vs.length ≤ 1000000) :
    Calls Tryd.prog 60 #[v] W fun e w' => ∃ v', e = .returned v' ∧ w'.ownsRow W.heap.size 5 1 v' Ls.flatten.length (u8s Ls.flatten) ∧ Below W.heap.size W w' := by
  have HP := Lib.hid H
  obtain ⟨a, cap, rfl, c1, c2, c3, c4⟩ := H.1.form
  have C3 := Lib.hid c3
  have C4 := Lib.hid c4
  have NL := Lib.hid H.2.1
  have HL := Lib.hid hl
  have G := Lib.hid (fun w => Grow_any h0 hl w)
  have PX : Hid (∀ n L, Ls[n]? = some L → (Ls.take (n + 1)).flatten = (Ls.take n).flatten ++ L ∧ (Ls.take n).flatten.length + L.length ≤ Ls.flatten.length) := Lib.hid fun n L hL => by
    have fl : (Ls.take (n + 1)).flatten = (Ls.take n).flatten ++ L := by rw [take_snoc' hL, List.flatten_append]; simp
    refine ⟨fl, ?_⟩
    have e : Ls.flatten = (Ls.take (n + 1)).flatten ++ (Ls.drop (n + 1)).flatten := by rw [← List.flatten_append, List.take_append_drop]
    rw [e, fl, List.length_append, List.length_append]
    omega
  have PE : Hid (Ls.take vs.length = Ls) := Lib.hid (List.take_of_length_le (by rw [H.2.1]; exact Nat.le_refl _))
  obtain ⟨N, hN⟩ : ∃ N, vs.length = N := ⟨_, rfl⟩
  rw [hN] at c1 hn NL PE ⊢
  have HNN := Lib.hid hN
  have Ni : (N : Int) ≤ 1000000 := by omega
  clear c3 c4 H hN hl
  go_enter Tryd.func60, Tryd.ntmps60
  go_wp2_with fail
  go_loopw [3, 11] (fun s i wr => ∃ n : Nat, n ≤ N ∧ i = .int .i64 (n : Int) ∧ s = .int .i64 ((Ls.take n).flatten.length : Int) ∧ wr = W) (fun _ i _ => N - (intOf i).toNat)
  case atStart => exact ⟨0, by omega, rfl, rfl, rfl⟩
  case round =>
    obtain ⟨n, hn2, rfl, rfl, rfl⟩ := hrel
    by_cases hlt : n < N
    · obtain ⟨x, hx⟩ : ∃ x, vs[n]? = some x := ⟨vs[n]'(by rw [HNN.out]; exact hlt), List.getElem?_eq_getElem _⟩
      obtain ⟨L, hL⟩ : ∃ L, Ls[n]? = some L := ⟨Ls[n]'(by rw [← NL.out]; exact hlt), List.getElem?_eq_getElem _⟩
      obtain ⟨sx, bx⟩ := HP.out.2.2 n x L hx hL
      obtain ⟨b, off, rfl⟩ := C3.out n x hx
      have cx := C4.out b off rfl n x hx
      obtain ⟨fl, ln⟩ := PX.out n L hL
      obtain ⟨ax, kx, rfl, _⟩ := sx
      have ni : (n : Int) < (N : Int) := by omega
      have l1 : ((Ls.take n).flatten.length : Int) + (L.length : Int) = ((Ls.take (n + 1)).flatten.length : Int) := by rw [fl, List.length_append]; omega
      have l2 : ((Ls.take (n + 1)).flatten.length : Int) ≤ 1000000 := by have := HL.out; omega
      have l3 : ¬ ((Ls.take (n + 1)).flatten.length : Int) < 0 := by omega
      obtain ⟨s1, es1⟩ : ∃ s1, (Ls.take (n + 1)).flatten.length = s1 := ⟨_, rfl⟩
      rw [es1] at l1 l2 l3
      have ES := Lib.hid es1
      clear es1
      generalize (Ls.take n).flatten.length = s0 at *
      clear fl ln hL hx
      go_wp2_with fail
      refine ⟨⟨n + 1, by omega, by go_num, by rw [ES.out], trivial⟩, ?_⟩
      simp [intOf]
      omega
    · obtain rfl : n = N := by omega
      rw [PE.out]
      obtain ⟨M, hM⟩ : ∃ M, Ls.flatten.length = M := ⟨_, rfl⟩
      rw [hM] at G ⊢
      have HM := Lib.hid hM
      have ll : (M : Int) ≤ 1000000 := by have := HL.out; omega
      clear hlt hn2 hM h0
      go_wp2_with fail
      with_reducible refine (G.out _).mono ?_
      rintro e w1 ⟨v1, rfl, own1, q1⟩
      obtain ⟨Z, hZ⟩ : ∃ Z, wr.heap.size = Z := ⟨_, rfl⟩
      rw [hZ] at own1 q1
      have HZ := Lib.hid hZ
      have Q1 := Lib.hid q1
      have own0 : w1.ownsRow Z 5 1 v1 (Ls.take 0).flatten.length (u8s (Ls.take 0).flatten) := own1
      obtain ⟨W0, hW0⟩ : ∃ w, w = wr := ⟨_, rfl⟩
      subst hW0
      clear own1 q1 hZ ll
      go_wp2_with fail
      go_loopw [6, 27] (fun x i wx => ∃ k : Nat, k ≤ n ∧ i = .int .i64 (k : Int) ∧ wx.ownsRow Z 5 1 x (Ls.take k).flatten.length (u8s (Ls.take k).flatten) ∧ Below Z W0 wx) (fun _ i _ => n - (intOf i).toNat)
      case atStart => exact ⟨0, by omega, rfl, own0, Q1.out⟩
      case round =>
        obtain ⟨k, hk, rfl, own, bw⟩ := hrel
        clear own0
        by_cases hlt : k < n
        · obtain ⟨x, hx⟩ : ∃ x, vs[k]? = some x := ⟨vs[k]'(by rw [HNN.out]; exact hlt), List.getElem?_eq_getElem _⟩
          obtain ⟨L, hL⟩ : ∃ L, Ls[k]? = some L := ⟨Ls[k]'(by rw [← NL.out]; exact hlt), List.getElem?_eq_getElem _⟩
          obtain ⟨sx, bx⟩ := HP.out.2.2 k x L hx hL
          obtain ⟨b, off, rfl⟩ := C3.out k x hx
          have cW := C4.out b off rfl k x hx
          have bz : Below W0.heap.size W0 wr := by rw [HZ.out]; exact bw
          have cx := (bz.cell (p := ⟨b, off + k, none⟩) (World.block_lt_of_cell? W0 _ cW)).trans cW
          obtain ⟨fl, ln⟩ := PX.out k L hL
          have sw := sx.below bz
          have zw : Z ≤ wr.heap.size := by rw [← HZ.out]; exact bz.size
          have ki : (k : Int) < (n : Int) := by omega
          have lb : (Ls.take k).flatten.length + L.length ≤ 140737488355328 := by have := HL.out; omega
          have FL := Lib.hid fl
          clear fl ln hL hx bz cW sx
          go_wp2_with (at_builtin; refine app_u8 (.tmp 31) (.tmp 32) rfl rfl Z _ _ _ rfl own _ L rfl sw lb zw ?_; intro v2 w2 own2 hg2; have q2 : Below Z W0 w2 := bw.trans ((Below.refl Z wr).grown hg2 zw (fun j hj => (own.lt j hj).1)); have O2 := Lib.hid own2; clear own2 hg2)
          go_roundw
          case rel =>
            refine ⟨k + 1, by omega, by go_num, ?_, q2⟩
            rw [FL.out, List.length_append, u8s_append]
            exact O2.out
          case measure => simp [intOf]; omega
        · obtain rfl : k = n := by omega
          rw [PE.out] at own
          go_wp2_with fail
          go_ret
          exact ⟨_, rfl, by rw [HZ.out]; exact own, by rw [HZ.out]; exact bw⟩
end Go.Proofs.YtcifnfffoiiceaaDoor
