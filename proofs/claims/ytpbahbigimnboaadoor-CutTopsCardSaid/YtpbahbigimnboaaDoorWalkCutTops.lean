/-
  massiflaw4.CutTops: the walk.
-/
import Derived.Test.YtpbahbigimnboaaDoorTiles
import Derived.Test.YtpbahbigimnboaaDoorMerge
import Derived.Test.YtpbahbigimnboaaDoorRow4
namespace Go.Proofs.YtpbahbigimnboaaDoor
open Go.RowKit
set_option linter.unusedVariables false

set_option maxHeartbeats 1000000 in
theorem topsGo {m n : Nat} (hm : m ≤ n) (hn : n ≤ 4611686018427387904) : mergeV (spanL 0 m ++ spanL m n) = spanL 0 n ∧ mergeOk (spanL 0 m ++ spanL m n) = true ∧ Small (spanL 0 m ++ spanL m n) ∧ (spanL 0 m ++ spanL m n).length ≤ 248 := by
  have c : Chain 0 n (spanL 0 m ++ spanL m n) := (chain_append _ _ _ _).2 ⟨m, span_chain (by omega) (Nat.zero_le _), span_chain hn hm⟩
  obtain ⟨h1, h2⟩ := merge_chain (Nat.zero_le _) hn c
  refine ⟨h1, h2, small_of_chain c, ?_⟩
  have a := spanL_124 (a := 0) (b := m) (by omega)
  have b := spanL_124 (a := m) (b := n) hn
  rw [List.length_append]
  omega
set_option maxHeartbeats 4000000 in
set_option maxRecDepth 20000 in
theorem walkCutTops (a0 a1 : Int) (w0 : (Lit.int .u64 a0).wf = true) (w1 : (Lit.int .u64 a1).wf = true) (w : World) (T : TabAt w) :
    Calls Tryd.prog 8 #[.int .u64 a0, .int .u64 a1] w fun e w' => e = .returned (.bool true) ∧ Below w.heap.size w w' := by
  obtain ⟨m, rfl, hm⟩ := nat_of_u64 w0
  obtain ⟨n, rfl, hn⟩ := nat_of_u64 w1
  have TT := Lib.hid T
  clear w0 w1 T
  by_cases hbig : 4611686018427387904 < n
  · have i0 : (4611686018427387904 : Int) < (n : Int) := by omega
    have S0 := cutSpan_no (a := 0) (b := n) hbig
    clear hbig
    go_enter Tryd.func8, Tryd.ntmps8
    go_wp2_with fail
    refine (S0 _).mono ?_
    rintro e w' ⟨rfl, rfl⟩
    go_wp2_with fail
    refine (awake4_any _ TT.out).mono ?_
    rintro e w2 ⟨rfl, q⟩
    go_wp2
    go_ret
    exact ⟨rfl, q⟩
  have hn2 : n ≤ 4611686018427387904 := by omega
  have i0 : decide ((4611686018427387904 : Int) < (n : Int)) = false := decide_eq_false (by omega)
  have i1 : (n : Int) ≤ 4611686018427387904 := by omega
  obtain ⟨k, hk, hkn⟩ : ∃ k, (if n < m then n else m) = k ∧ k ≤ n := ⟨_, rfl, by split <;> omega⟩
  obtain ⟨MG1, MG2, MG3, MG4⟩ := topsGo hkn hn2
  have S0 := fun w => cutSpan_yes (a := 0) (b := n) (by omega) hn2 w
  have S1 := fun w => cutSpan_yes (a := 0) (b := k) (by omega) (by omega) w
  have S2 := fun w => cutSpan_yes (a := k) (b := n) (by omega) hn2 w
  have PK := Peaks_yes hn2
  have PS := Lib.hid (peaks_span hn2)
  have PC := Lib.hid (span_chain (a := 0) hn2 (Nat.zero_le _))
  have l0 := spanL_124 (a := 0) (b := n) hn2
  have l1 := spanL_124 (a := 0) (b := k) (by omega)
  have l2 := spanL_124 (a := k) (b := n) hn2
  rw [peaks_span hn2, List.length_map] at PK
  have M1 := Lib.hid MG1
  have M2 := Lib.hid MG2
  have M3 := Lib.hid MG3
  have M4 := Lib.hid MG4
  clear MG1 MG2 MG3 MG4 hbig
  generalize hS : spanL 0 n = S at *
  generalize hA : spanL 0 k = A at *
  generalize hC : spanL k n = C at *
  clear hS hA hC
  by_cases hmn : n < m
  all_goals
    first
      | (rw [if_pos hmn] at hk; subst hk; have i2 : (n : Int) < (m : Int) := by omega)
      | (rw [if_neg hmn] at hk; subst hk; have i2 : decide ((n : Int) < (m : Int)) = false := decide_eq_false (by omega); have i3 : (m : Int) ≤ (n : Int) := by omega)
    clear hmn
    go_enter Tryd.func8, Tryd.ntmps8
    go_wp2_with fail
    refine (S0 _ TT.out).mono ?_
    rintro e w1 ⟨vS, rfl, ownS, q1⟩
    obtain ⟨aS, cS, rfl, hsS⟩ := own_shape ownS
    go_wp2_with fail
    refine (PK _).mono ?_
    rintro e w2 ⟨vP, rfl, ownP, q2⟩
    have ownS2 := own_below ownS q2
    have b2 : Below w.heap.size w w2 := q1.trans (q2.mono q1.size)
    have OS := Lib.hid ownS2
    have OP := Lib.hid ownP
    have SL : (S.length : Int) ≤ 124 := by omega
    obtain ⟨aP, cP, e, _⟩ : ∃ a c, vP = .slice a S.length c ∧ True := by
      rcases ownP.2 with ⟨h, h0⟩ | ⟨g, cap, cur, h, _⟩
      · rw [h0]; exact ⟨_, _, h, trivial⟩
      · exact ⟨_, _, h, trivial⟩
    subst e
    clear hsS ownS ownP ownS2 q1 q2
    go_wp2
    go_loopw [7] (fun x wr => ∃ i : Nat, i ≤ S.length ∧ x = .int .i64 (i : Int) ∧ Below w2.heap.size w2 wr) (fun x _ => S.length - (intOf x).toNat)
    case atStart => exact ⟨0, Nat.zero_le _, rfl, Below.refl _ _⟩
    case round =>
      obtain ⟨i, hi, rfl, hbr⟩ := hrel
      by_cases hlt : i < S.length
      · obtain ⟨⟨h, x⟩, hs⟩ : ∃ s, S[i]? = some s := ⟨S[i], List.getElem?_eq_getElem hlt⟩
        have rt := chain_right _ _ _ PC.out _ (List.mem_of_getElem? hs)
        have PY := Place_yes rt
        unfold spotV at PY
        dsimp only at rt PY
        obtain ⟨a, cap, e0, hsh⟩ := own_shape OS.out
        obtain ⟨g, e1, _, hg, _, cells⟩ := hsh (by omega)
        injection e0 with e2 e3 e4
        rw [e1] at e2
        subst e2 e4
        obtain ⟨t1, t2⟩ := spotC_get _ i _ hs
        have c1 := cells _ _ t1
        have c2 := cells _ _ t2
        rw [Nat.mul_comm, ← hbr.cell (p := ⟨g, i * 2, none⟩) hg] at c1
        rw [Nat.mul_comm, ← hbr.cell (p := ⟨g, i * 2 + 1, none⟩) hg] at c2
        obtain ⟨gp, capP, e5, _, hgp, _⟩ := row_form OP.out (by omega)
        injection e5 with e6 e7 e8
        subst e6 e8
        have cp := row_cellAt OP.out (j := i) (u := .int .u64 (placeN h x : Int)) (by rw [u64s_get, List.getElem?_map, hs]; rfl)
        dsimp only at c1 c2
        have il : (i : Int) < (S.length : Int) := by omega
        have CP := Lib.hid cp
        clear t1 t2 cells hsh hs rt e1 cp
        go_wp2_with fail
        refine (PY _).mono ?_
        rintro e w3 ⟨rfl, q3⟩
        have hb3 := hbr.trans (q3.mono hbr.size)
        have cp3 : w3.cell? ⟨gp, i, none⟩ = some (.int .u64 (placeN h x : Int)) := by rw [hb3.cell (p := ⟨gp, i, none⟩) hgp]; exact CP.out
        clear c1 c2 q3
        go_wp2
        go_roundw
        case rel => exact ⟨i + 1, by omega, by go_num, hb3⟩
        case measure => simp [intOf]; omega
      · obtain rfl : i = S.length := by omega
        have bAll : Below w.heap.size w wr := b2.trans (hbr.mono b2.size)
        have bE : Below w.heap.size w (wr.alloc (.cells #[] 28 (0, 0))) := bAll.alloc bAll.size _
        have OE := Lib.hid (own_made0 (w := wr) (B := w.heap.size) bAll.size)
        have OSr := Lib.hid ((own_below OS.out hbr).alloc (.cells #[] 28 (0, 0)))
        go_wp2_with fail
        refine (S1 _ (TT.out.below bE)).mono ?_
        rintro e w4 ⟨vA, rfl, ownA, q4⟩
        have b4 := bE.trans (q4.mono bE.size)
        have sA := SpotsOf.of_own ownA
        have O4 := own_below OE.out q4
        have OS4 := Lib.hid (own_below OSr.out q4)
        have hne : ∀ c, (Value.slice aS S.length cS).ownBlock = some c → c < wr.heap.size := fun c hc => ((own_below OS.out hbr).lt c hc).2
        have HNE := Lib.hid hne
        clear ownA q4 bE hne hbr
        go_wp2_with (at_builtin; refine app_spots (.tmp 59) (.tmp 61) rfl rfl w.heap.size _ 0 _ rfl O4 _ _ rfl sA (by omega) b4.size ?_; intro v5 w5 own5 hg5 hat5)
        have b5 := b4.grown hg5 b4.size (fun c hc => (O4.lt c hc).1)
        have OS5 := Lib.hid (OS4.out.kept hg5 (by
          cases hb : (Value.slice aS S.length cS).ownBlock with
          | none => exact .inl rfl
          | some c => exact .inr (fun e => by
              have h1 := HNE.out c hb
              have h2 : c = wr.heap.size := Option.some.inj e
              omega)))
        have a5 : ∀ c, v5.ownBlock = some c → wr.heap.size ≤ c := fun c hc => by
          have z4 : wr.heap.size ≤ w4.heap.size := by
            have := (O4.lt wr.heap.size rfl).2
            omega
          rcases hat5 with h | h
          · rw [hc] at h
            have h2 : c = wr.heap.size := Option.some.inj h
            omega
          · rw [hc] at h
            have h2 : c = w4.heap.size := Option.some.inj h
            omega
        have A5 := Lib.hid a5
        clear hg5 hat5 O4 sA a5
        refine (S2 _ (TT.out.below b5)).mono ?_
        rintro e w6 ⟨vC, rfl, ownC, q6⟩
        have b6 := b5.trans (q6.mono b5.size)
        have sC := SpotsOf.of_own ownC
        have O6 := own_below own5 q6
        have OS6 := Lib.hid (own_below OS5.out q6)
        clear ownC q6 own5
        go_wp2_with (at_builtin; refine app_spots (.tmp 62) (.tmp 65) rfl rfl w.heap.size v5 _ _ rfl O6 _ _ rfl sC (by omega) b6.size ?_; intro v7 w7 own7 hg7 _)
        have b7 := b6.grown hg7 b6.size (fun c hc => (O6.lt c hc).1)
        have OS7 := OS6.out.kept hg7 (by
          cases hb : (Value.slice aS S.length cS).ownBlock with
          | none => exact .inl rfl
          | some c => exact .inr (fun e => by
              have h1 := HNE.out c hb
              have h2 := A5.out c e.symm
              omega))
        have s7 := SpotsOf.of_own (app_form own7)
        have S7 := Lib.hid (SpotsOf.of_own OS7)
        clear own7 hg7 O6 sC OS7
        refine (Merge_any _ s7 M3.out (by have := M4.out; omega)).mono ?_
        rintro e w8 ⟨v8, rfl, own8, q8⟩
        rw [M1.out] at own8
        have b8 := b7.trans (q8.mono b7.size)
        have s8 := SpotsOf.of_own own8
        have S8 := S7.out.below q8
        rw [M2.out]
        clear own8 q8 s7
        go_wp2_with fail
        refine (same_any _ s8 S8).mono ?_
        rintro e w9 ⟨rfl, q9⟩
        rw [decide_eq_true (rfl : S = S)]
        have b9 := b8.trans (q9.mono b8.size)
        clear q9 s8 S8
        go_wp2_with fail
        refine (awake4_any _ (TT.out.below b9)).mono ?_
        rintro e w10 ⟨rfl, q10⟩
        go_wp2
        go_ret
        exact ⟨rfl, b9.trans (q10.mono b9.size)⟩
end Go.Proofs.YtpbahbigimnboaaDoor
