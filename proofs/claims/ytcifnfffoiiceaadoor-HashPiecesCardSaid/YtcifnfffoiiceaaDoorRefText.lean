/-
  The walk of massifref2.Begin.
  The walk of massifref2.Blocks.
  The walk of massifref2.States.
-/
import Derived.Test.YtcifnfffoiiceaaDoorWides
import Derived.Test.YtcifnfffoiiceaaDoorCutOff
import Derived.Test.YtcifnfffoiiceaaDoorHashN
import Derived.Test.YtcifnfffoiiceaaDoorTextN
import Derived.Test.YtcifnfffoiiceaaDoorCompRef
import Derived.Test.YtcifnfffoiiceaaDoorHelds
namespace Go.Proofs.YtcifnfffoiiceaaDoor
section
open Go.RowKit
set_option linter.unusedVariables false
set_option pp.deepTerms true
set_option pp.maxSteps 1000000

theorem Begin_any (wd : Int) (W : World) :
    Calls Tryd.prog 69 #[.int .i64 wd] W fun e w' => e = .returned (.agg (cellsOf' u8c (beginN wd))) ∧ Below W.heap.size W w' := by
  have CO := Lib.hid (cutOff_any (w := wd) (l := firstN) first_len)
  have bl := begin_len wd
  obtain ⟨st, hst⟩ : ∃ st, beginN wd = st := ⟨_, rfl⟩
  have hst2 : cutL wd firstN = st := by rw [← hst]; unfold beginN; rfl
  rw [hst2] at CO
  rw [hst] at bl ⊢
  have hs : (cellsOf' u8c st).size = 32 := by rw [co_size, bl]
  clear hst hst2
  go_enter Tryd.func69, Tryd.ntmps69
  go_wp2_with fail
  generalize hW1 : World.alloc W _ = w1
  have G1 : Hid (w1.heap[W.heap.size]? = some (.cells (cellsOf' u8c (List.replicate 32 0)) 23 (0, 0))) := Lib.hid (by rw [← hW1, heap_alloc_new]; rfl)
  have b1 : Below W.heap.size W w1 := by rw [← hW1]; exact (Below.refl _ _).alloc (Nat.le_refl _) _
  have z1 : w1.heap.size = W.heap.size + 1 := by rw [← hW1]; simp
  clear hW1
  refine Calls.mono (calls_args (y := #[.int .i64 wd, .agg (cellsOf' u8c firstN)]) (by kernel_rfl) (CO.out w1)) ?_
  rintro e w2 ⟨rfl, q2⟩
  have G2 := Lib.hid ((q2.block _ (by omega)).trans G1.out)
  have b2 : Below W.heap.size W w2 := b1.trans (q2.mono (by omega))
  clear q2 z1 b1
  go_wp2_with (first | (refine wpList_store_row rfl 23 _ _ rfl W.heap.size _ rfl rfl 23 _ G2.out (by rw [hs]; exact size_32) (by rw [hs]; rfl) (co_one u8c_one) ?_))
  refine bodyPost_ret (results_cell_row rfl _ _ W.heap.size 23 _ (0, 0) _ rfl (setRow_heap _ _ _ _ _ _ G2.out) Tryd.underlying23 rfl (by rw [hs]; exact size_32)) rfl ⟨rfl, below_setRow b2 (Nat.le_refl _) _⟩
end

section
open Go.RowKit
set_option linter.unusedVariables false
set_option pp.deepTerms true
set_option pp.maxSteps 1000000

theorem info_b64 : (Tryd.prog.info? 24).map (fun i => (i.zero, i.size, i.bytes)) = some (some (.agg (cellsOf' u8c (List.replicate 64 0))), 64, 64) := by kernel_rfl
theorem own_below {w w' : World} {Z n s : Nat} {t : TypeId} {v : Value} {xs : List Value} (h : w.ownsRow Z t s v n xs) (q : Below w.heap.size w w') : w'.ownsRow Z t s v n xs :=
  h.kept (row := none) ⟨q.os, q.tape, q.output, q.size, fun k hk _ => q.block k hk⟩ (by cases h.2 with | inl h => exact .inl (by rw [h.1]; rfl) | inr h => obtain ⟨g, c, cur, e, _⟩ := h; exact .inr (by rw [e]; intro h; cases h))
theorem size_86 : (Tryd.prog.info? 86).map (·.size) = some 8 := by kernel_rfl
def sliceLen : Value → Nat
  | .slice _ m _ => m
  | _ => 0
theorem u8_one_at (w : World) (x : Nat) : SliceOf u8c (w.alloc (.cells #[.int .u8 (x : Int)] 5 (0, 0))) (.slice (some ⟨w.heap.size, 0, none⟩) 1 1) [x] := co_slice (l := [x]) (heap_alloc_new _ _) (by show 1 ≤ maxLen; decide)
theorem half_next (N c : Nat) (hc : c < 8) : N / 256 ^ (8 - c) = N / 256 ^ (8 - (c + 1)) / 256 := by
  rw [Nat.div_div_eq_div_mul, ← Nat.pow_succ]
  congr 2
  omega
set_option maxHeartbeats 4000000 in
set_option maxRecDepth 16000 in
theorem Blocks_any {l : List Nat} {v : Value} (W : World) (S : SliceOf u8c W v l) (hl : l.length ≤ 100000) :
    Calls Tryd.prog 57 #[v] W fun e w' => ∃ v', e = .returned v' ∧ WideAt W.heap.size 24 64 w' v' (blocksN l) ∧ Below W.heap.size W w' := by
  have HS := Lib.hid S
  obtain ⟨a, cap, rfl, _⟩ := S
  have b0 : Below W.heap.size W (W.alloc (.cells #[] 5 (0, 0))) := (Below.refl _ _).alloc (Nat.le_refl _) _
  have own0 := own_made0b (w := W) (Nat.le_refl _)
  have z0 : W.heap.size ≤ (W.alloc (.cells #[] 5 (0, 0))).heap.size := by simp
  have s0 := HS.out.below b0
  obtain ⟨n, hn⟩ : ∃ n, l.length = n := ⟨_, rfl⟩
  have HN := Lib.hid hn
  rw [hn] at hl ⊢
  have ll : (n : Int) ≤ 100000 := by omega
  have HW0 := Lib.hid (And.intro own0 (And.intro s0 (And.intro b0 z0)))
  clear b0 own0 z0 s0 hn
  generalize hZ : W.heap.size = Z
  have HZ := Lib.hid hZ
  clear hZ
  go_enter Tryd.func57, Tryd.ntmps57
  go_wp2_with (first
    | (at_builtin; refine app_u8 (.tmp 11) (.tmp 12) rfl rfl W.heap.size _ 0 [] rfl HW0.out.1 _ l (by rw [HN.out]; rfl) HW0.out.2.1 (by rw [HN.out]; omega) HW0.out.2.2.2 ?_; intro v1 w1 own1 hg1; rw [Nat.zero_add] at own1; have q1 : Below W.heap.size W w1 := HW0.out.2.2.1.grown hg1 HW0.out.2.2.2 (fun k hk => (HW0.out.1.lt k hk).1); have z1 : W.heap.size ≤ w1.heap.size := q1.size; have m1 : SliceOf u8c (w1.alloc (.cells #[.int .u8 128] 5 (0, 0))) (.slice (some ⟨w1.heap.size, 0, none⟩) 1 1) [128] := co_slice (l := [128]) (heap_alloc_new _ _) (by show 1 ≤ maxLen; decide); have o1 := own1.alloc (.cells #[.int .u8 128] 5 (0, 0)); have z2 : W.heap.size ≤ (w1.alloc (.cells #[.int .u8 128] 5 (0, 0))).heap.size := by simp; omega)
    | (at_builtin; refine app_u8 (.tmp 14) (.tmp 15) rfl rfl W.heap.size _ l.length _ rfl o1 _ [128] rfl m1 (by simp; have := HN.out; omega) z2 ?_; intro v2 w2 own2 hg2; have q2 : Below W.heap.size W w2 := (q1.alloc z1 _).grown hg2 z2 (fun k hk => (o1.lt k hk).1); have HO := Lib.hid own2; have HQ2 := Lib.hid q2; clear own2 hg2 o1 own1 m1 hg1 q1 z1 z2 q2))
  have own3 : w2.ownsRow Z 5 1 v2 (n + 1 + 0) (u8s (l ++ (128 :: List.replicate 0 0))) := by
    have := HO.out
    rw [HZ.out, HN.out, List.nil_append, ← u8s_append] at this
    exact this
  have q3 : Below Z W w2 := by rw [← HZ.out]; exact HQ2.out
  clear HO HQ2 HW0
  obtain ⟨K, hK⟩ : ∃ K, (119 - n % 64) % 64 = K := ⟨_, rfl⟩
  have HK := Lib.hid hK
  have K63 : K ≤ 63 := by omega
  clear hK
  go_loopw [3] (fun o wr => ∃ k : Nat, k ≤ K ∧ wr.ownsRow Z 5 1 o (n + 1 + k) (u8s (l ++ (128 :: List.replicate k 0))) ∧ Below Z W wr) (fun o _ => n + 1 + K - sliceLen o)
  case atStart => exact ⟨0, by omega, own3, q3⟩
  case round =>
    obtain ⟨k, hk, own, q⟩ := hrel
    clear own3 q3
    obtain ⟨g, cap, rfl, _, _, hc, hm⟩ := own_form3 own (by omega)
    have zr : Z ≤ wr.heap.size := by have := q.size; have := HZ.out; omega
    obtain ⟨m, hmm⟩ : ∃ m, n + 1 + k = m := ⟨_, rfl⟩
    have HM := Lib.hid hmm
    rw [hmm] at own hc ⊢
    have mi : (m : Int) ≤ 100100 := by omega
    have HO := Lib.hid own
    by_cases hlt : k < K
    · have c1 : ((m : Int) % 64 != 56) = true := by have := HK.out; rw [bne_iff_ne]; omega
      clear own hmm hc hm
      have cm : 0 < m := by have := HM.out; omega
      have o1 := HO.out.alloc (.cells #[.int .u8 0] 5 (0, 0))
      have m1 : SliceOf u8c (wr.alloc (.cells #[.int .u8 0] 5 (0, 0))) (.slice (some ⟨wr.heap.size, 0, none⟩) 1 1) [0] := co_slice (l := [0]) (heap_alloc_new _ _) (by show 1 ≤ maxLen; decide)
      have z2 : Z ≤ (wr.alloc (.cells #[.int .u8 0] 5 (0, 0))).heap.size := by simp; omega
      have q8 := q.alloc zr (.cells #[.int .u8 0] 5 (0, 0))
      go_wp2_with (first
        | (at_builtin; refine app_u8 (.tmp 21) (.tmp 22) rfl rfl Z _ m _ rfl o1 _ [0] rfl m1 (by simp; omega) z2 ?_; intro v9 w9 own9 hg9; have q9 : Below Z W w9 := q8.grown hg9 z2 (fun k hk => (o1.lt k hk).1); obtain ⟨g9, cap9, rfl, _, _, _, _⟩ := own_form3 own9 (by simp); have HO9 := Lib.hid own9; clear own9 hg9))
      go_roundw
      case rel =>
        refine ⟨k + 1, by omega, ?_, q9⟩
        have := HO9.out
        rw [← u8s_append, List.append_assoc, List.cons_append, ← List.replicate_succ'] at this
        rw [show n + 1 + (k + 1) = m + [0].length by have := HM.out; simp; omega]
        exact this
      case measure => simp [sliceLen]; have := HM.out; omega
    · obtain rfl : k = K := by omega
      have c1 : ((m : Int) % 64 != 56) = false := by have := HK.out; rw [bne_eq_false_iff_eq]; omega
      clear own hmm hc hm
      obtain ⟨wi, hwi⟩ : ∃ w, w = wr := ⟨_, rfl⟩
      subst hwi
      obtain ⟨N, hN⟩ : ∃ N, 8 * n = N := ⟨_, rfl⟩
      have HN8 := Lib.hid hN
      have Ni : 8 * (n : Int) = (N : Int) := by omega
      have Nl : (N : Int) ≤ 800000 := by omega
      have Nl2 : N ≤ 800000 := by omega
      clear hN
      go_wp2_with fail
      obtain ⟨tb, htb⟩ : ∃ tb, wi.heap.size = tb := ⟨_, rfl⟩
      generalize hW1 : World.alloc wi _ = w1
      rw [htb] at zr ⊢
      have G1 : w1.heap[tb]? = some (.cells (cellsOf' u8c (List.replicate 8 0 ++ (bigL N 8).drop 8)) 86 (0, 0)) := by rw [← hW1, ← htb, heap_alloc_new]; rfl
      have b1 : Below tb wi w1 := by rw [← hW1, ← htb]; exact (Below.refl _ _).alloc (Nat.le_refl _) _
      have Z1 : w1.heap.size = tb + 1 := by rw [← hW1, ← htb]; simp
      have HB1 := Lib.hid b1
      have HTB := Lib.hid htb
      have HZ1 := Lib.hid Z1
      have HQ := Lib.hid q
      have HZR := Lib.hid zr
      clear hW1 b1 htb Z1 q zr
      go_loopw [4, 6] (fun x i w2 => ∃ m : Nat, m ≤ 8 ∧ i = .int .i64 ((m : Int) - 1) ∧ x = .int .u64 ((N / 256 ^ (8 - m) : Nat) : Int) ∧ w2.heap[tb]? = some (.cells (cellsOf' u8c (List.replicate m 0 ++ (bigL N 8).drop m)) 86 (0, 0)) ∧ Below tb w1 w2) (fun _ i _ => (intOf i + 1).toNat)
      case atStart => exact ⟨8, Nat.le_refl _, rfl, by simp, G1, Below.refl _ _⟩
      case round =>
        obtain ⟨c1, hc1, rfl, rfl, hz, q2⟩ := hrel
        clear G1
        by_cases h0 : 0 < c1
        · obtain ⟨c, rfl⟩ : ∃ c, c1 = c + 1 := ⟨c1 - 1, by omega⟩
          have ej : ((c + 1 : Nat) : Int) - 1 = (c : Int) := by omega
          rw [ej]
          clear ej
          have NH := Lib.hid (half_next N c (by omega))
          have BA := big_at N (n := 8) (j := c) (by omega)
          rw [show 8 - 1 - c = 8 - (c + 1) by omega] at BA
          have hcell := co_cell hz back_get
          have hfree := co_free (k := c) hz
          have hst := co_store hz (k := c) (N / 256 ^ (8 - (c + 1)) % 256)
          rw [set_back (bigL_length N 8) (by omega) BA] at hst
          have HST := Lib.hid hst
          have ly : N / 256 ^ (8 - (c + 1)) ≤ N := Nat.div_le_self _ _
          unfold u8c at hcell
          generalize N / 256 ^ (8 - (c + 1)) = y at *
          have yi : (y : Int) ≤ 800000 := by omega
          have ci : (c : Int) < 8 := by omega
          clear hst hz BA
          go_wp2
          go_roundw
          case rel => exact ⟨c, by omega, rfl, by rw [NH.out]; rfl, HST.out, q2.setCell (Nat.le_refl _) _⟩
          case measure => simp [intOf]
        · obtain rfl : c1 = 0 := by omega
          have hz8 : wr.heap[tb]? = some (.cells (cellsOf' u8c (bigL N 8)) 86 (0, 0)) := by simpa using hz
          have s8 : SliceOf u8c wr (.slice (some ⟨tb, 0, none⟩) 8 8) (bigL N 8) := by
            have := co_slice hz8 (by rw [bigL_length]; show 8 ≤ maxLen; decide)
            rwa [bigL_length] at this
          have qi : Below tb wi wr := HB1.out.trans q2
          have o5 := own_below HO.out (by rw [HTB.out]; exact qi)
          have zr : Z ≤ wr.heap.size := by have := qi.size; have := HTB.out; have := HZR.out; omega
          have qz : Below Z W wr := HQ.out.trans (qi.mono HZR.out)
          have HZR2 := Lib.hid zr
          clear hz hz8 qi q2
          go_wp2_with (first
            | (at_builtin; refine app_u8 (.tmp 39) (.tmp 40) rfl rfl Z _ m _ rfl o5 _ (bigL N 8) rfl s8 (by rw [bigL_length]; omega) zr ?_; intro v6 w6 own6 hg6; rw [bigL_length] at own6; have q6 : Below Z W w6 := qz.grown hg6 zr (fun k hk => (o5.lt k hk).1); obtain ⟨g6, cap6, rfl, gz6, gl6, _, _⟩ := own_form3 own6 (by simp); have HO6 := Lib.hid own6; clear own6 hg6 o5 s8))
          have own7 : w6.ownsRow Z 5 1 (.slice (some ⟨g6, 0, none⟩) (m + 8) cap6) (m + 8) (u8s (textN l)) := by
            have := HO6.out
            rw [← u8s_append] at this
            rw [text_eq, HN.out, HK.out, HN8.out]
            exact this
          have CE : Hid (∀ j x, (textN l)[j]? = some x → w6.cell? ⟨g6, j, none⟩ = some (u8c x)) := Lib.hid fun j x hj => own_cell own7 (by rw [u8s_get, hj]; rfl)
          have TL : (textN l).length = m + 8 := by
            have := own7.1
            rw [u8s_eq, List.length_map] at this
            omega
          obtain ⟨B, hB⟩ : ∃ B, countN l = B := ⟨_, rfl⟩
          have MB : m + 8 = 64 * B := by
            have := text_whole l
            rw [TL] at this
            rw [← hB]
            unfold countN
            rw [TL]
            exact this
          have HB := Lib.hid hB
          have HTL := Lib.hid TL
          obtain ⟨M, hM⟩ : ∃ M, m + 8 = M := ⟨_, rfl⟩
          have HMB := Lib.hid MB
          have HM8 := Lib.hid hM
          have Mi : (M : Int) ≤ 200000 := by omega
          obtain ⟨zb, hzb⟩ : ∃ zb, w6.heap.size = zb := ⟨_, rfl⟩
          have HZB := Lib.hid hzb
          have HQ6 := Lib.hid q6
          rw [hM]
          rw [hzb] at gl6
          have b6 : Below zb w6 w6 := Below.refl _ _
          clear own7 TL hB MB hM HO6 hzb q6 qz zr mi
          go_loopw [7, 8] (fun o i wr => ∃ k : Nat, k ≤ B ∧ i = .int .i64 ((64 * k : Nat) : Int) ∧ WideAt zb 24 64 wr o ((blocksN l).take k) ∧ Below zb w6 wr) (fun _ i _ => M - (intOf i).toNat)
          case atStart => exact ⟨0, by omega, rfl, WideAt.nil, b6⟩
          case round =>
            obtain ⟨k, hk, rfl, hw, qk⟩ := hrel
            clear b6
            obtain ⟨wk, hwk⟩ : ∃ w, w = wr := ⟨_, rfl⟩
            subst hwk
            obtain ⟨p, hp⟩ : ∃ p, 64 * k = p := ⟨_, rfl⟩
            rw [hp]
            have HP := Lib.hid hp
            have zk : zb ≤ wk.heap.size := by have := qk.size; have := HZB.out; omega
            have HWK := Lib.hid hw
            have HQK := Lib.hid qk
            by_cases hlt : k < B
            · have pM : (p : Int) < (M : Int) := by have := HMB.out; have := HM8.out; omega
              have pM2 : p + 64 ≤ M := by have := HMB.out; have := HM8.out; omega
              obtain ⟨C, hC⟩ : ∃ C, chunk (textN l) k = C := ⟨_, rfl⟩
              have C64 : C.length = 64 := by rw [← hC]; exact chunk_len (by rw [HTL.out]; have := HMB.out; omega)
              have HC := Lib.hid hC
              clear hw qk hp hC
              go_wp2_with fail
              obtain ⟨xb, hxb⟩ : ∃ xb, wk.heap.size = xb := ⟨_, rfl⟩
              generalize hW2 : World.alloc wk _ = wx
              rw [hxb] at zk ⊢
              have G2 : wx.heap[xb]? = some (.cells (cellsOf' u8c (C.take 0 ++ List.replicate (64 - 0) 0)) 24 (0, 0)) := by rw [← hW2, ← hxb, heap_alloc_new]; rfl
              have bx : Below xb wk wx := by rw [← hW2, ← hxb]; exact (Below.refl _ _).alloc (Nat.le_refl _) _
              have HBX := Lib.hid bx
              have HXB := Lib.hid hxb
              have bxx : Below xb wx wx := Below.refl _ _
              have gx : g6 < xb := by omega
              clear hW2 bx hxb
              go_loopw [10] (fun i wr => ∃ j : Nat, j ≤ 64 ∧ i = .int .i64 (j : Int) ∧ wr.heap[xb]? = some (.cells (cellsOf' u8c (C.take j ++ List.replicate (64 - j) 0)) 24 (0, 0)) ∧ Below xb wx wr) (fun i _ => 64 - (intOf i).toNat)
              case atStart => exact ⟨0, by omega, rfl, G2, bxx⟩
              case round =>
                obtain ⟨j, hj, rfl, hz, qj⟩ := hrel
                clear G2 bxx
                by_cases hlt2 : j < 64
                · obtain ⟨x, hx⟩ : ∃ x, C[j]? = some x := ⟨C[j], List.getElem?_eq_getElem (by omega)⟩
                  have hxT : (textN l)[64 * k + j]? = some x := by rw [← chunk_get hlt2, HC.out]; exact hx
                  rw [HP.out] at hxT
                  obtain ⟨s, hs⟩ : ∃ s, p + j = s := ⟨_, rfl⟩
                  rw [hs] at hxT
                  have c0 : wr.cell? ⟨g6, s, none⟩ = some (u8c x) := (qj.cell (p := ⟨g6, s, none⟩) gx).trans ((HBX.out.cell (p := ⟨g6, s, none⟩) gx).trans ((HQK.out.cell (p := ⟨g6, s, none⟩) gl6).trans (CE.out s x hxT)))
                  have hcell := co_cell hz (front_get C64 hlt2)
                  have hfree := co_free (k := j) hz
                  have hst := co_store hz (k := j) x
                  rw [set_front C64 hx] at hst
                  have HST := Lib.hid hst
                  have si : (p : Int) + (j : Int) = (s : Int) := by omega
                  have sM : (s : Int) < (M : Int) := by omega
                  have ji : (j : Int) < 64 := by omega
                  unfold u8c at hcell c0 hst
                  clear hz hx hxT hs
                  go_wp2
                  go_roundw
                  case rel => exact ⟨j + 1, by omega, by go_num, HST.out, qj.setCell (Nat.le_refl _) _⟩
                  case measure => simp [intOf]; omega
                · obtain rfl : j = 64 := by omega
                  have hz2 : wr.heap[xb]? = some (.cells (cellsOf' u8c C) 24 (0, 0)) := by
                    rw [hz, show (64 : Nat) - 64 = 0 from rfl, List.take_of_length_le (by omega)]
                    simp
                  have HX := Lib.hid hz2
                  have hs : (cellsOf' u8c C).size = 64 := by rw [co_size, C64]
                  have qx : Below xb wk wr := HBX.out.trans qj
                  have hw2 := HWK.out.below (by rw [HXB.out]; exact qx)
                  have q2 : Below zb w6 wr := HQK.out.trans (qx.mono zk)
                  have zx : zb ≤ wr.heap.size := by have := qx.size; have := HXB.out; omega
                  have hw3 := hw2.below ((Below.refl _ _).alloc (Nat.le_refl _) (.cells (cellsOf' u8c C) 24 (0, 0)))
                  have q3 := q2.alloc zx (.cells (cellsOf' u8c C) 24 (0, 0))
                  have zy : zb ≤ (wr.alloc (.cells (cellsOf' u8c C) 24 (0, 0))).heap.size := by simp; omega
                  have kk : ((blocksN l).take k).length ≤ 1000000 := by rw [List.length_take]; have := HMB.out; have := HM8.out; omega
                  have kl : ((blocksN l).take k).length = k := by rw [List.length_take, blocks_len, HB.out]; omega
                  have BT := Lib.hid (blocks_take (L := l) (k := k) (by rw [HB.out]; exact hlt))
                  clear hz hz2 qx hw2 q2
                  go_wp2_with (first
                    | (refine wpList_load_row rfl 24 _ rfl xb rfl 24 _ (0, 0) _ HX.out Tryd.underlying24 rfl (by rw [hs]; exact size_64) ?_)
                    | (refine wpList_build1 (s := 64) (by decide) (by decide) Tryd.underlying80 info_b64 (by kernel_rfl) (C := C) C64 rfl (.tmp 61) rfl rfl ?_)
                    | (at_builtin; refine app_wide 80 _ 64 (by decide) Tryd.underlying80 info_b64 (by kernel_rfl) (by decide) (.tmp 60) (.tmp 62) rfl rfl rfl hw3 _ C rfl (heap_alloc_new _ _) C64 zy kk ?_; intro v7 w7 W7 q7; have HW7 := Lib.hid W7; have q8 := q3.trans q7; clear W7 q7 hw3 q3))
                  have ep : (p : Int) + 64 = ((64 * (k + 1) : Nat) : Int) := by have := HP.out; omega
                  have HEP := Lib.hid ep
                  clear ep
                  go_roundw
                  case rel => exact ⟨k + 1, by omega, by rw [HEP.out], by rw [BT.out, HC.out]; exact HW7.out, q8⟩
                  case measure => simp [intOf]; omega
            · obtain rfl : k = B := by omega
              have pM : ¬ (p : Int) < (M : Int) := by have := HMB.out; have := HM8.out; omega
              have hfin := hw
              rw [List.take_of_length_le (by rw [blocks_len, HB.out]; exact Nat.le_refl _)] at hfin
              have HF := Lib.hid (hfin.low (Z' := Z) (by have := HQ6.out.size; have := HZ.out; have := HZB.out; omega))
              have HQF := Lib.hid (HQ6.out.trans (qk.mono (by have := HQ6.out.size; have := HZ.out; have := HZB.out; omega)))
              clear hw qk hp hfin
              go_wp2
              go_ret
              exact ⟨_, rfl, HF.out, HQF.out⟩
end

section
open Go.RowKit
set_option linter.unusedVariables false
set_option pp.deepTerms true
set_option pp.maxSteps 1000000

theorem info_h32 : (Tryd.prog.info? 23).map (fun i => (i.zero, i.size, i.bytes)) = some (some (.agg (cellsOf' u8c (List.replicate 32 0))), 32, 32) := by kernel_rfl
theorem WideAt.one {w : World} {Z s : Nat} {t : TypeId} {C : List Nat} (hC : C.length = s) (hZ : Z ≤ w.heap.size) : WideAt Z t s (w.alloc (.cells (cellsOf' u8c C) t (0, 0))) (.slice (some ⟨w.heap.size, 0, none⟩) 1 1) [C] := by
  refine ⟨⟨by simp [hC], .inr ⟨w.heap.size, 1, cellsOf' u8c C, rfl, hZ, heap_alloc_new _ _, Nat.le_refl _, by show 1 ≤ maxLen; decide, by rw [co_size, hC, Nat.one_mul], ?_⟩⟩, fun L hL => by rw [List.mem_singleton] at hL; rw [hL]; exact hC⟩
  simp [cellsOf']
  exact List.take_of_length_le (by rw [List.length_map, hC]; exact Nat.le_refl _)
theorem below_range {Z b o : Nat} {w w' : World} {C : List Value} (q : Below Z w w') (hb : b < Z) (h : w.rangeAt b o C) : w'.rangeAt b o C := fun j v hv => (q.cell (p := ⟨b, o + j, none⟩) hb).trans (h j v hv)
set_option maxRecDepth 8000 in
set_option maxHeartbeats 4000000 in
theorem States_any {wd : Int} {Z0 : Nat} {l : List Nat} {v : Value} (W : World) (V : WideAt Z0 24 64 W v (blocksN l)) (bl : Bytes l) (hl : l.length ≤ 100000) :
    Calls Tryd.prog 56 #[.int .i64 wd, v] W fun e w' => ∃ v', e = .returned v' ∧ WideAt W.heap.size 23 32 w' v' (statesN wd l (countN l)) ∧ Below W.heap.size W w' := by
  obtain ⟨a, cap, rfl, hc1, hc2, hform⟩ := V.form
  rw [blocks_len] at hc1 ⊢
  have BG := Lib.hid (Begin_any wd W)
  have HF := Lib.hid hform
  have cl := count_le l
  obtain ⟨B, hB⟩ : ∃ B, countN l = B := ⟨_, rfl⟩
  rw [hB] at hc1 cl ⊢
  have HB := Lib.hid hB
  have HBL := Lib.hid bl
  have Bi : (B : Int) ≤ 100002 := by omega
  generalize hZ : W.heap.size = Z
  have HZ := Lib.hid hZ
  clear hform V hc2 hB bl hZ
  go_enter Tryd.func56, Tryd.ntmps56
  go_wp2_with (first
    | (go_at_call 69; refine BG.out.mono ?_; rintro e w1 ⟨rfl, q1⟩)
    | (refine wpList_build1 (s := 32) (by decide) (by decide) Tryd.underlying78 info_h32 (by kernel_rfl) (C := beginN wd) (begin_len wd) rfl (.tmp 8) rfl rfl ?_))
  have z1 : Z ≤ w1.heap.size := by have := q1.size; have := HZ.out; omega
  have hw0 := WideAt.one (w := w1) (t := 23) (begin_len wd) z1
  rw [← states_zero wd l] at hw0
  have qb : Below Z W (w1.alloc (.cells (cellsOf' u8c (beginN wd)) 23 (0, 0))) := (by rw [← HZ.out]; exact q1 : Below Z W w1).alloc z1 _
  clear q1
  go_loopw [5, 6] (fun o i wr => ∃ k : Nat, k ≤ B ∧ i = .int .i64 (k : Int) ∧ WideAt Z 23 32 wr o (statesN wd l k) ∧ Below Z W wr) (fun _ i _ => B - (intOf i).toNat)
  case atStart => exact ⟨0, by omega, rfl, hw0, qb⟩
  case round =>
    obtain ⟨k, hk, rfl, hw, qk⟩ := hrel
    clear hw0 qb
    obtain ⟨wk, hwk⟩ : ∃ w, w = wr := ⟨_, rfl⟩
    subst hwk
    by_cases hlt : k < B
    · obtain ⟨gb, rfl, _, gl, rb⟩ := HF.out k _ (blocks_get (by rw [HB.out]; exact hlt))
      rw [HZ.out] at gl
      obtain ⟨sa, caps, rfl, s1, s2, sf⟩ := hw.form
      obtain ⟨gs, rfl, gz, gsl, rs⟩ := sf k _ (states_get (Nat.le_refl _))
      rw [states_len] at s1 ⊢
      have hC64 : (chunk (textN l) k).length = 64 := blocks_64 _ (List.mem_of_getElem? (blocks_get (by rw [HB.out]; exact hlt)))
      have hCb : Bytes (chunk (textN l) k) := chunk_bytes (text_bytes HBL.out) k
      have hS32 := state_len wd (textN l) k
      have hSb := state_bytes wd (textN l) k
      obtain ⟨C, hC⟩ : ∃ C, chunk (textN l) k = C := ⟨_, rfl⟩
      obtain ⟨st, hst⟩ : ∃ st, stateN wd (textN l) k = st := ⟨_, rfl⟩
      have rb2 := below_range qk gl rb
      have SS := Lib.hid (states_succ wd l k)
      rw [hC] at rb2 hC64 hCb SS
      rw [hst] at rs hS32 hSb SS
      have HWK := Lib.hid hw
      have T0 : wk.drew.rangeAt gs (0 + k * 32) (st.map u8c) ∧ wk.drew.rangeAt gb (0 + k * 64) (C.map u8c) := by rw [Nat.zero_add, Nat.zero_add]; exact ⟨(World.rangeAt_drew _ _ _ _).2 rs, (World.rangeAt_drew _ _ _ _).2 rb2⟩
      have ki : (k : Int) < (B : Int) := by omega
      have k0 : (0 : Int) ≤ (k : Int) := by omega
      have ks : (k : Int) < ((k + 1 : Nat) : Int) := by omega
      have zS : (Tryd.prog.info? 23).map (·.size) = some (st.map u8c).length := by rw [List.length_map, hS32]; exact size_32
      have zC : (Tryd.prog.info? 24).map (·.size) = some (C.map u8c).length := by rw [List.length_map, hC64]; exact size_64
      have HQK := Lib.hid qk
      have zk : Z ≤ wk.heap.size := by have := qk.size; have := HZ.out; omega
      have HH := Lib.hid (And.intro hS32 (And.intro hC64 (And.intro hSb hCb)))
      have HSt := Lib.hid hst
      clear rb rb2 rs hw qk sf hC hst hS32 hSb hC64 hCb
      go_wp2_with fail
      refine wp_region_held (S := fun w => w.rangeAt gs (0 + k * 32) (st.map u8c) ∧ w.rangeAt gb (0 + k * 64) (C.map u8c)) (by kernel_rfl) ?_
      change wpAnyH _ _ _ _ _ _ _ _ (World.drew _)
      refine anyH_take (i := 0) (d := 16) (v := .slice (some ⟨gs, 0, none⟩) (k + 1) caps) rfl rfl (by kernel_rfl) (by kernel_rfl) (by kernel_rfl) (fun _ _ _ h => h) (Or.inl ⟨by kernel_rfl, fun w _ => by kernel_rfl⟩) T0 ?_
      refine anyH_take (i := 1) (d := 17) (v := .int .i64 wd) rfl rfl (by kernel_rfl) (by kernel_rfl) (by kernel_rfl) (fun _ _ _ h => h) (Or.inl ⟨by kernel_rfl, fun w _ => by kernel_rfl⟩) T0 ?_
      refine anyH_take (i := 2) (d := 18) (v := .slice (some ⟨gs, 0, none⟩) (k + 1) caps) rfl rfl (by kernel_rfl) (by kernel_rfl) (by kernel_rfl) (fun _ _ _ h => h) (Or.inl ⟨by kernel_rfl, fun w _ => by kernel_rfl⟩) T0 ?_
      refine anyH_take (i := 3) (d := 19) (v := .int .i64 (k : Int)) rfl rfl (by kernel_rfl) (by kernel_rfl) (by kernel_rfl) (fun _ _ _ h => h) (Or.inl ⟨by kernel_rfl, fun w _ => by kernel_rfl⟩) T0 ?_
      refine anyH_take (i := 4) (d := 20) (v := .pointer (some ⟨gs, 0 + k * 32, none⟩)) rfl rfl (by kernel_rfl) (by kernel_rfl) (by kernel_rfl) (fun _ _ _ h => h) (yields_index (by kernel_rfl) rfl (n := k + 1) (cap := caps) (by kernel_rfl) (ki := .i64) (by kernel_rfl) Tryd.underlying78 size_32 (Nat.lt_succ_self k)) T0 ?_
      refine anyH_take (i := 5) (d := 21) (v := .agg (cellsOf' u8c st)) rfl rfl (by kernel_rfl) (by kernel_rfl) (by kernel_rfl) (fun _ _ _ h => h) (yieldsIf_load_mid (by kernel_rfl) 23 (.tmp 20) rfl gs (0 + k * 32) (by kernel_rfl) (st.map u8c) _ (fun w h => h.1) Tryd.underlying23 rfl zS) T0 ?_
      refine anyH_take (i := 6) (d := 22) (v := .slice (some ⟨gb, 0, none⟩) B cap) rfl rfl (by kernel_rfl) (by kernel_rfl) (by kernel_rfl) (fun _ _ _ h => h) (Or.inl ⟨by kernel_rfl, fun w _ => by kernel_rfl⟩) T0 ?_
      refine anyH_take (i := 7) (d := 23) (v := .int .i64 (k : Int)) rfl rfl (by kernel_rfl) (by kernel_rfl) (by kernel_rfl) (fun _ _ _ h => h) (Or.inl ⟨by kernel_rfl, fun w _ => by kernel_rfl⟩) T0 ?_
      refine anyH_take (i := 8) (d := 24) (v := .pointer (some ⟨gb, 0 + k * 64, none⟩)) rfl rfl (by kernel_rfl) (by kernel_rfl) (by kernel_rfl) (fun _ _ _ h => h) (yields_index (by kernel_rfl) rfl (n := B) (cap := cap) (by kernel_rfl) (ki := .i64) (by kernel_rfl) Tryd.underlying80 size_64 hlt) T0 ?_
      refine anyH_take (i := 9) (d := 25) (v := .agg (cellsOf' u8c C)) rfl rfl (by kernel_rfl) (by kernel_rfl) (by kernel_rfl) (fun _ _ _ h => h) (yieldsIf_load_mid (by kernel_rfl) 24 (.tmp 24) rfl gb (0 + k * 64) (by kernel_rfl) (C.map u8c) _ (fun w h => h.2) Tryd.underlying24 rfl zC) T0 ?_
      refine anyH_enter1 (i := 10) (d := 26) (by kernel_rfl) rfl rfl (by kernel_rfl) (refCompress_any (wd := wd) HH.out.1 HH.out.2.1 HH.out.2.2.1 HH.out.2.2.2 _) (by kernel_rfl) ?_
      intro y qy
      have gly : gb < wk.heap.size := by omega
      have T1 : y.rangeAt gs (0 + k * 32) (st.map u8c) ∧ y.rangeAt gb (0 + k * 64) (C.map u8c) := ⟨below_range qy gsl T0.1, below_range qy gly T0.2⟩
      refine ⟨T1, ?_⟩
      have hwy := HWK.out.below (q := (Below.refl _ _).drew.trans qy)
      have qky : Below Z W y := HQK.out.trans (((Below.refl _ _).drew.trans qy).mono zk)
      have zy : Z ≤ y.heap.size := by have := qy.size; exact Nat.le_trans zk this
      have hCl : (compressN wd st C).length = 32 := compress_len _ _ _
      have hwz := hwy.below ((Below.refl _ _).alloc (Nat.le_refl _) (.cells (cellsOf' u8c (compressN wd st C)) 23 (0, 0)))
      rw [states_len] at hwz
      have qkz := qky.alloc zy (.cells (cellsOf' u8c (compressN wd st C)) 23 (0, 0))
      have zz : Z ≤ (y.alloc (.cells (cellsOf' u8c (compressN wd st C)) 23 (0, 0))).heap.size := by simp; omega
      have T2 : (y.alloc (.cells (cellsOf' u8c (compressN wd st C)) 23 (0, 0))).rangeAt gs (0 + k * 32) (st.map u8c) ∧ (y.alloc (.cells (cellsOf' u8c (compressN wd st C)) 23 (0, 0))).rangeAt gb (0 + k * 64) (C.map u8c) :=
        ⟨below_range ((Below.refl _ _).alloc (Nat.le_refl _) _) (Nat.lt_of_lt_of_le gsl qy.size) T1.1, below_range ((Below.refl _ _).alloc (Nat.le_refl _) _) (Nat.lt_of_lt_of_le gly qy.size) T1.2⟩
      refine anyH_one (i := 11) (by kernel_rfl) rfl ?_
      refine wpList_build1 (s := 32) (by decide) (by decide) Tryd.underlying78 info_h32 (by kernel_rfl) (C := compressN wd st C) hCl rfl (.tmp 26) rfl (by kernel_rfl) ?_
      go_wp2_with fail
      refine ⟨T2, ?_⟩
      refine anyH_one (i := 12) (by kernel_rfl) rfl ?_
      refine app_wide3 78 _ 32 (by decide) Tryd.underlying78 info_h32 (by kernel_rfl) (by decide) (.tmp 16) (.tmp 27) rfl rfl (by kernel_rfl) hwz y.heap.size (compressN wd st C) (by kernel_rfl) (heap_alloc_new _ _) hCl zz (by rw [states_len]; omega) ?_
      intro v9 w9 W9 q9 R9
      rw [← SS.out] at W9
      have HW9 := Lib.hid W9
      have qk9 := qkz.trans q9
      have T3 : w9.rangeAt gs (0 + k * 32) (st.map u8c) ∧ w9.rangeAt gb (0 + k * 64) (C.map u8c) := ⟨by rw [Nat.zero_add]; exact R9 gs rfl k st (by rw [states_get (Nat.le_refl _), HSt.out]), below_range q9 gl T2.2⟩
      clear W9 R9
      go_wp2_with fail
      refine ⟨T3, ?_⟩
      refine anyH_one (i := 13) (by kernel_rfl) rfl ?_
      go_wp2_with fail
      refine ⟨T3, wpAnyH_done (by kernel_rfl) ?_ _⟩
      clear T3 T2 T1 T0
      go_wp2_with fail
      go_roundw
      case rel => exact ⟨k + 1, by omega, by go_num, HW9.out, qk9⟩
      case measure => simp [intOf]; omega
    · obtain rfl : k = B := by omega
      have HWF := Lib.hid hw
      have HQF := Lib.hid qk
      clear hw qk
      go_wp2
      go_ret
      exact ⟨_, rfl, HWF.out, HQF.out⟩
end
end Go.Proofs.YtcifnfffoiiceaaDoor
