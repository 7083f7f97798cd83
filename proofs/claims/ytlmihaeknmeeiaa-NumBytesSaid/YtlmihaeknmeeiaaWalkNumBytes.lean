/-
  massiflaw1.NumBytes: the walk.
-/
import Derived.Test.YtlmihaeknmeeiaaApp
import Derived.Test.YtlmihaeknmeeiaaGrow
import Derived.Test.YtlmihaeknmeeiaaRefBytes
import Derived.Test.YtlmihaeknmeeiaaRefLong
namespace Go.Proofs.Ytlmihaeknmeeiaa
open Go.RowKit
set_option linter.unusedVariables false

theorem own_made0 {w : World} {B : Nat} (hB : B ≤ w.heap.size) : (w.alloc (.cells #[] 5 (0, 0))).ownsRow B 5 1 (.slice (some ⟨w.heap.size, 0, none⟩) 0 0) 0 [] :=
  ⟨rfl, .inr ⟨w.heap.size, 0, #[], rfl, hB, heap_alloc_new _ _, Nat.le_refl _, Nat.zero_le _, rfl, rfl⟩⟩
theorem SliceOf.take {α : Type} {mk : α → Value} {w : World} {a : Option Addr} {n cap : Nat} {l : List α} (h : SliceOf mk w (.slice a n cap) l) {k : Nat} (hk : k ≤ l.length) : SliceOf mk w (.slice a k cap) (l.take k) := by
  obtain ⟨a', cap', hv, h1, h2, h0, h3⟩ := h
  injection hv with e1 _ e3
  subst e1 e3
  have hl : (l.take k).length = k := by rw [List.length_take]; omega
  refine ⟨a, cap, by rw [hl], by omega, h2, h0, ?_⟩
  rcases h3 with rfl | ⟨b, off, ha, hc⟩
  · left; simp
  · right
    refine ⟨b, off, ha, fun j y hj => ?_⟩
    rw [List.getElem?_take] at hj
    split at hj
    · exact hc j y hj
    · cases hj
theorem own_keep {w w' : World} {B : Nat} {t : TypeId} {n : Nat} {v : Value} {xs : List Value} (h : w.ownsRow B t 1 v n xs) (hb : Below w.heap.size w w') : w'.ownsRow B t 1 v n xs :=
  h.kept (row := none) ⟨hb.os, hb.tape, hb.output, hb.size, fun k hk _ => hb.block k hk⟩ (by cases v.ownBlock <;> simp)
theorem apart_of {a b : Option Nat} {m : Nat} (h1 : ∀ k, a = some k → k < m) (h2 : ∀ k, b = some k → m ≤ k) : b = none ∨ b ≠ a := by
  cases b with
  | none => exact .inl rfl
  | some k =>
    right
    intro e
    have := h1 k e.symm
    have := h2 k rfl
    omega

theorem apart_MH {wK : World} {a b : Option Nat} {g n c s1 s2 : Nat} {o : Obj} (z1 : s1 ≤ wK.heap.size) (z2 : s2 ≤ wK.heap.size) (kG : ∀ k, a = some k → k < s1) (kH : ∀ k, b = some k → s1 ≤ k ∧ k < s2)
    (h : (Value.slice (some ⟨g, 0, none⟩) n c).ownBlock = a ∨ (Value.slice (some ⟨g, 0, none⟩) n c).ownBlock = some (wK.alloc o).heap.size) :
    (Value.slice (some ⟨g, 0, none⟩) n c).ownBlock = none ∨ (Value.slice (some ⟨g, 0, none⟩) n c).ownBlock ≠ b := by
  right
  intro e
  have hb := kH g e.symm
  rcases h with h | h
  · have := kG g h.symm
    omega
  · have h2 : g = (wK.alloc o).heap.size := Option.some.inj h
    simp at h2
    omega
theorem last_one (l : List Nat) (u : Value) : (u8s l ++ [u])[l.length]? = some u := by
  rw [List.getElem?_append_right (by rw [u8s_length]; exact Nat.le_refl _), u8s_length, Nat.sub_self]
  rfl
theorem two_grown {wK wM wN : World} {x s1 s2 B gM cM gI cI : Nat} {vG vH : Value}
    (z1 : s1 ≤ wK.heap.size) (z2 : s2 ≤ wK.heap.size) (z3 : s1 ≤ s2) (kG : ∀ k, vG.ownBlock = some k → k < s1) (kH : ∀ k, vH.ownBlock = some k → s1 ≤ k ∧ k < s2)
    (ownI : wK.ownsRow s2 5 1 (.slice (some ⟨gI, 0, none⟩) (shortL x).length cI) (shortL x).length (u8s (shortL x)))
    (ownM : wM.ownsRow B 5 1 (.slice (some ⟨gM, 0, none⟩) ((shortL x).length + 1) cM) ((shortL x).length + 1) (u8s (shortL x) ++ [.int .u8 1]))
    (hgM : (wK.alloc (.cells #[.int .u8 1] 5 (0, 0))).grownBy wM vG.ownBlock)
    (hbM : (Value.slice (some ⟨gM, 0, none⟩) ((shortL x).length + 1) cM).ownBlock = vG.ownBlock ∨ (Value.slice (some ⟨gM, 0, none⟩) ((shortL x).length + 1) cM).ownBlock = some (wK.alloc (.cells #[.int .u8 1] 5 (0, 0))).heap.size)
    (hgN : (wM.alloc (.cells #[.int .u8 2] 5 (0, 0))).grownBy wN vH.ownBlock) :
    wN.cell? ⟨gM, (shortL x).length, none⟩ = some (.int .u8 1) ∧ wN.ownsRow B 5 1 (.slice (some ⟨gM, 0, none⟩) ((shortL x).length + 1) cM) ((shortL x).length + 1) (u8s (shortL x) ++ [.int .u8 1]) ∧
    wN.ownsRow s2 5 1 (.slice (some ⟨gI, 0, none⟩) (shortL x).length cI) (shortL x).length (u8s (shortL x)) := by
  have neMH := apart_MH z1 z2 kG kH hbM
  have ownM2 := (ownM.alloc (.cells #[.int .u8 2] 5 (0, 0))).kept hgN neMH
  have ownI4 := (ownI.alloc (.cells #[.int .u8 1] 5 (0, 0))).kept hgM (apart_of (m := s1) kG (fun k hk => by have := (ownI.lt k hk).1; omega))
  have ownI5 := (ownI4.alloc (.cells #[.int .u8 2] 5 (0, 0))).kept hgN (apart_of (m := s2) (fun k hk => (kH k hk).2) (fun k hk => (ownI.lt k hk).1))
  exact ⟨own_cell ownM2 (j := (shortL x).length) (u := .int .u8 1) (last_one _ _), ownM2, ownI5⟩
set_option maxHeartbeats 2000000 in
set_option maxRecDepth 20000 in
theorem walkNumBytes (a0 a1 : Int) (v2 : Value) (l : List Nat) (w : World) (w0 : (Lit.int .u64 a0).wf = true) (w1 : (Lit.int .i64 a1).wf = true)
    (s2 : SliceOf u8c w v2 l) (y2 : Bytes l) (z2 : l.length ≤ 140737488351232) :
    Calls Try.prog 12 #[.int .u64 a0, .int .i64 a1, v2] w fun e w' => e = .returned (.bool true) ∧ Below w.heap.size w w' := by
  obtain ⟨x, rfl, hx⟩ := nat_of_u64 w0
  clear w0
  have s2' := s2
  obtain ⟨p, cp, rfl, hcp, _⟩ := s2'
  obtain ⟨L, e, BG, RG⟩ := big_both hx a1
  obtain ⟨x2, e2, FB, RFB⟩ := from_both y2
  rcases hR : longR l with ⟨lz, lk, lf⟩
  have HR := Lib.hid hR
  obtain ⟨i0, hi, hz0, hz1, hz2⟩ := info_parts info_u8
  have h10 : (shortL x).length ≤ 10 := shortF_len 9 x
  have LS := short_len_pos x
  have HX := Lib.hid hx
  clear hx hR
  go_enter Try.func12, Try.ntmps12
  go_wp2_with fail
  refine (BG _).mono ?_
  rintro r wA ⟨⟨vA, rfl, hsA⟩, qA⟩
  go_wp2_with fail
  refine (RG _).mono ?_
  rintro r wB ⟨⟨vB, rfl, hsB⟩, qB⟩
  go_wp2_with fail
  refine (same_any _ (hsA.below qB) hsB).mono ?_
  rintro r wC ⟨rfl, qC⟩
  rw [decide_eq_true (rfl : L = L)]
  have rB := qA.trans (qB.mono qA.size)
  have rC := rB.trans (qC.mono rB.size)
  have t2 := s2.below rC
  clear hsA hsB qA qB qC rB BG RG
  have hB0 : (wC.alloc (.cells #[] 5 (0, 0))).ownsRow wC.heap.size 5 1 (.slice (some ⟨wC.heap.size, 0, none⟩) 0 0) 0 [] := own_made0 (Nat.le_refl _)
  have c1 : Below wC.heap.size wC (wC.alloc (.cells #[] 5 (0, 0))) := (Below.refl _ _).alloc (Nat.le_refl _) _
  go_wp2_with (at_builtin; first | (refine app_u8 (.tmp 46) (.tmp 47) rfl rfl wC.heap.size _ 0 [] rfl hB0 _ l rfl (t2.below c1) (by omega) (by simp) ?_; intro v' wD hownD hgD; have c2 : Below wC.heap.size wC wD := c1.grown hgD (by simp) (fun k hk => (hB0.lt k hk).1)) | (refine wpList_append_own _ rfl (.tmp 48) (.tmp 49) 38 rfl wC.heap.size 5 i0 (.int .u8 0) 1 1 Try.underlying38 hi hz0 hz1 hz2 rfl (by decide) _ (0 + l.length) _ rfl (hownD.alloc _) ⟨wD.heap.size, 0, none⟩ 1 1 [.int .u8 171] rfl rfl (cell_new1 _ _ _) (one_int _ _) (by unfold maxLen; omega) (by omega) (by have := c2.size; simp; omega) ?_; intro v'' wE hownE hgE hvE; clear hvE; obtain ⟨gE, cE, rfl, gE0, gE1, hcE⟩ := own_form hownE (by omega); have icE : (l.length : Int) ≤ (cE : Int) := by omega))
  have c3 : Below wC.heap.size wC wE := (c2.alloc c2.size _).grown hgE (by have := c2.size; simp; omega) (fun k hk => (hownD.lt k hk).1)
  have rE := rC.trans (c3.mono rC.size)
  have u2 := s2.below rE
  have eL : 0 + l.length + 1 = (l ++ [171]).length := by simp
  have hsE : SliceOf u8c wE (.slice (some ⟨gE, 0, none⟩) (0 + l.length + 1) cE) (l ++ [171]) := SliceOf.of_own hownE (by simp [u8s, u8c])
  have hsG := hsE.take (k := l.length) (by simp)
  rw [List.take_left] at hsG
  have cell := own_cell hownE (j := l.length) (u := .int .u8 171) (by rw [List.nil_append, List.getElem?_append_right (by rw [u8s_length]; exact Nat.le_refl _), u8s_length, Nat.sub_self]; rfl)
  have icE2 : (l.length : Int) + 1 ≤ (cE : Int) := by omega
  have il : (l.length : Int) ≤ 140737488351232 := by omega
  clear hownE hownD hgE hgD hB0 c1 c2 c3 eL hsE t2 rC icE
  refine (FB _ _ hsG).mono ?_
  rintro r w' ⟨rfl, rfl⟩
  go_wp2_with fail
  refine (RFB _ _ u2).mono ?_
  rintro r w' ⟨rfl, rfl⟩
  go_wp2_with fail
  refine (Long_any _ hsG y2).mono ?_
  rintro r w' ⟨rfl, rfl⟩
  rw [HR.out]
  go_wp2_with fail
  refine (refLong_any _ u2 y2).mono ?_
  rintro r w' ⟨rfl, rfl⟩
  rw [HR.out]
  go_wp2_with fail
  refine (same_any _ hsG u2).mono ?_
  rintro r wF ⟨rfl, qF⟩
  rw [decide_eq_true (rfl : l = l)]
  have cF : wF.cell? ⟨gE, l.length, none⟩ = some (.int .u8 171) := by rw [← cell]; exact qF.cell (p := ⟨gE, l.length, none⟩) gE1
  have gF : gE < wF.heap.size := Nat.lt_of_lt_of_le gE1 qF.size
  have rF := rE.trans (qF.mono rE.size)
  clear cell gE1 qF rE hsG u2 FB RFB s2
  go_wp2_with fail
  refine (Short_any HX.out _).mono ?_
  rintro r wG ⟨vG, rfl, ownG, qG⟩
  go_wp2_with fail
  refine (Short_any HX.out _).mono ?_
  rintro r wH ⟨vH, rfl, ownH, qH⟩
  go_wp2_with fail
  refine (refShort_any HX.out _).mono ?_
  rintro r wI ⟨vI, rfl, ownI, qI⟩
  obtain ⟨gI, cI, rfl, gI0, gI1, hcI⟩ := own_form ownI LS
  have kG := fun k hk => (ownG.lt k hk).2
  have kH := fun k hk => ownH.lt k hk
  have bFI : Below wF.heap.size wF wI := (qG.trans (qH.mono qG.size)).trans (qI.mono (Nat.le_trans qG.size qH.size))
  have qHI : Below wH.heap.size wH wI := qI
  have ownG2 := own_keep (own_keep ownG qH) (qI)
  have ownH2 := own_keep ownH qI
  have rI := rF.trans (bFI.mono rF.size)
  have hsS : SliceOf u8c wI (.slice (some ⟨gI, 0, none⟩) (shortL x).length cI) (shortL x) := SliceOf.of_own ownI rfl
  clear cF gF ownG ownH
  go_wp2_with fail
  refine (same_any _ (SliceOf.of_own ownG2 rfl) hsS).mono ?_
  rintro r wJ ⟨rfl, qJ⟩
  rw [decide_eq_true (rfl : shortL x = shortL x)]
  go_wp2_with fail
  refine (same_any _ (SliceOf.of_own (own_keep ownH2 qJ) rfl) (hsS.below qJ)).mono ?_
  rintro r wK ⟨rfl, qK⟩
  rw [decide_eq_true (rfl : shortL x = shortL x)]
  have bIK : Below wI.heap.size wI wK := qJ.trans (qK.mono qJ.size)
  have ownG3 := own_keep ownG2 bIK
  have ownH3 := own_keep ownH2 bIK
  have ownI3 := own_keep ownI bIK
  have rK := rI.trans (bIK.mono rI.size)
  have bFK : Below wF.heap.size wF wK := bFI.trans (bIK.mono bFI.size)
  have zGK : wG.heap.size ≤ wK.heap.size := Nat.le_trans (Nat.le_trans qH.size qI.size) bIK.size
  have zHK : wH.heap.size ≤ wK.heap.size := Nat.le_trans qI.size bIK.size
  have zFG : wF.heap.size ≤ wG.heap.size := qG.size
  have zGH : wG.heap.size ≤ wH.heap.size := qH.size
  clear ownG2 ownH2 ownI hsS bIK qJ qK qI qH qG bFI qHI rI
  go_wp2_with (at_builtin; first | (refine wpList_append_own2 _ rfl (.tmp 131) (.tmp 132) 38 rfl wF.heap.size 5 i0 (.int .u8 0) 1 1 Try.underlying38 hi hz0 hz1 hz2 rfl (by decide) _ (shortL x).length _ rfl (ownG3.alloc _) ⟨wK.heap.size, 0, none⟩ 1 1 [.int .u8 1] rfl rfl (cell_new1 _ _ _) (one_int _ _) (by unfold maxLen; omega) (by omega) (by simp; omega) ?_; intro vM wM ownM (hgM : (wK.alloc (.cells #[.int .u8 1] 5 (0, 0))).grownBy wM vG.ownBlock) (hbM : vM.ownBlock = vG.ownBlock ∨ vM.ownBlock = some (wK.alloc (.cells #[.int .u8 1] 5 (0, 0))).heap.size); obtain ⟨gM, cM, rfl, gM0, gM1, hcM⟩ := own_form ownM (by omega)) | (refine wpList_append_own2 _ rfl (.tmp 134) (.tmp 135) 38 rfl wG.heap.size 5 i0 (.int .u8 0) 1 1 Try.underlying38 hi hz0 hz1 hz2 rfl (by decide) _ (shortL x).length _ rfl (World.ownsRow.alloc ((ownH3.alloc _).kept hgM (apart_of (m := wG.heap.size) kG (fun k hk => (kH k hk).1))) _) ⟨wM.heap.size, 0, none⟩ 1 1 [.int .u8 2] rfl rfl (cell_new1 _ _ _) (one_int _ _) (by unfold maxLen; omega) (by omega) (by have := hgM.size; simp at this; simp; omega) ?_; intro vN wN ownN (hgN : (wM.alloc (.cells #[.int .u8 2] 5 (0, 0))).grownBy wN vH.ownBlock) (hbN : vN.ownBlock = vH.ownBlock ∨ vN.ownBlock = some (wM.alloc (.cells #[.int .u8 2] 5 (0, 0))).heap.size); obtain ⟨gN, cN, rfl, gN0, gN1, hcN⟩ := own_form ownN (by omega); obtain ⟨cellM, ownM2, ownI5⟩ := two_grown zGK zHK zGH kG kH ownI3 ownM hgM hbM hgN; have cellN := own_cell ownN (j := (shortL x).length) (u := .int .u8 2) (last_one _ _); have iM : ((shortL x).length : Int) ≤ (cM : Int) := by omega))
  have hsI := SliceOf.of_own ownI5 (rfl : u8s (shortL x) = (shortL x).map u8c)
  have hsM0 : SliceOf u8c wN (.slice (some ⟨gM, 0, none⟩) ((shortL x).length + 1) cM) (shortL x ++ [1]) := SliceOf.of_own ownM2 (by simp [u8s, u8c])
  have hsM := hsM0.take (k := (shortL x).length) (by simp)
  rw [List.take_left] at hsM
  have bFM : Below wF.heap.size wF wM := (bFK.alloc bFK.size _).grown hgM (by have := bFK.size; simp; omega) (fun k hk => (ownG3.lt k hk).1)
  have bFN : Below wF.heap.size wF wN := (bFM.alloc bFM.size _).grown hgN (by have := bFM.size; simp; omega) (fun k hk => by have := (ownH3.lt k hk).1; omega)
  have rFK := rK
  clear ownM2 ownI5 ownM ownN hgM hgN hbM hbN hsM0 ownG3 ownH3 ownI3 bFM
  refine (same_any _ hsM hsI).mono ?_
  rintro r wO ⟨rfl, qO⟩
  rw [decide_eq_true (rfl : shortL x = shortL x)]
  have rO := rF.trans ((bFN.trans (qO.mono bFN.size)).mono rF.size)
  go_wp2_with fail
  refine (Short_any HX.out _).mono ?_
  rintro r wP ⟨vP, rfl, ownP, qP⟩
  go_wp2_with fail
  refine (same_any _ (SliceOf.of_own ownP rfl) ((hsI.below qO).below qP)).mono ?_
  rintro r wQ ⟨rfl, qQ⟩
  rw [decide_eq_true (rfl : shortL x = shortL x)]
  have rP := rO.trans (qP.mono rO.size)
  have rQ := rP.trans (qQ.mono rP.size)
  clear ownP
  go_wp2_with fail
  refine (awake_any _).mono ?_
  rintro r wR ⟨rfl, qR⟩
  go_wp2
  go_ret
  exact ⟨rfl, rQ.trans (qR.mono rQ.size)⟩
end Go.Proofs.Ytlmihaeknmeeiaa
