/-
  massiflaw1.NumRounds: the walk.
-/
import Derived.Test.YtlmihaeknmeeiaaApp
import Derived.Test.YtlmihaeknmeeiaaLong
import Derived.Deep.RegionHeld3
import Derived.Deep.QuietTactic
import Derived.BigQuiet
namespace Go.Proofs.Ytlmihaeknmeeiaa
open Go.RowKit
set_option linter.unusedVariables false

theorem own_made0 {w : World} {B : Nat} (hB : B ≤ w.heap.size) : (w.alloc (.cells #[] 5 (0, 0))).ownsRow B 5 1 (.slice (some ⟨w.heap.size, 0, none⟩) 0 0) 0 [] :=
  ⟨rfl, .inr ⟨w.heap.size, 0, #[], rfl, hB, heap_alloc_new _ _, Nat.le_refl _, Nat.zero_le _, rfl, rfl⟩⟩
theorem bigV_big {x n : Nat} (hx : x < 256 ^ n) : bigV (bigL x n) = x := by
  have key : ∀ k, k ≤ n → bigV ((bigL x n).take k) = x / 256 ^ (n - k) := by
    intro k
    induction k with
    | zero =>
      intro _
      rw [Nat.sub_zero, Nat.div_eq_of_lt hx]
      rfl
    | succ k ih =>
      intro hk
      have hg : (bigL x n)[k]? = some (x / 256 ^ (n - 1 - k) % 256) := by simp [bigL, List.getElem?_range (show k < n by omega)]
      rw [bigV_take hg, ih (by omega), show n - k = (n - 1 - k) + 1 by omega, Nat.pow_succ, ← Nat.div_div_eq_div_mul, show n - (k + 1) = n - 1 - k by omega]
      omega
  have := key n (Nat.le_refl _)
  rwa [Nat.sub_self, Nat.pow_zero, Nat.div_one, List.take_of_length_le (by rw [bigL_length]; exact Nat.le_refl _)] at this
theorem SliceOf.take {α : Type} {mk : α → Value} {w : World} {a : Option Addr} {cap : Nat} {l : List α} (h : SliceOf mk w (.slice a l.length cap) l) {k : Nat} (hk : k ≤ l.length) : SliceOf mk w (.slice a k cap) (l.take k) := by
  obtain ⟨a', cap', hv, h1, h2, h0, h3⟩ := h
  injection hv with e1 _ e3
  subst e1 e3
  have hl : (l.take k).length = k := by rw [List.length_take]; omega
  refine ⟨a, cap, by rw [hl], by omega, h2, h0, ?_⟩
  rcases h3 with rfl | ⟨b, off, ha, hc⟩
  · left; simp
  · right
    refine ⟨b, off, ha, fun j y hj => ?_⟩
    rw [List.getElem?_take] at hj
    split at hj
    · exact hc j y hj
    · cases hj

set_option maxHeartbeats 1000000 in
theorem walkNumRounds (a0 : Int) (v1 : Value) (l1 : List Nat) (v2 : Value) (l2 : List Nat) (w : World) (w0 : (Lit.int .u64 a0).wf = true)
    (s1 : SliceOf u8c w v1 l1) (y1 : Bytes l1) (z1 : l1.length ≤ 140737488351232) (s2 : SliceOf u8c w v2 l2) (y2 : Bytes l2) (z2 : l2.length ≤ 140737488351232) :
    Calls Try.prog 13 #[.int .u64 a0, v1, v2] w fun e w' => e = .returned (.bool true) ∧ Below w.heap.size w w' := by
  obtain ⟨x, rfl, hx⟩ := nat_of_u64 w0
  clear w0
  have s1' := s1
  have s2' := s2
  obtain ⟨p1, c1, rfl, _⟩ := s1'
  obtain ⟨p2, c2, rfl, hc2, _⟩ := s2'
  have LS := short_len_pos x
  have LS9 := shortF_len 9 x
  have BS : Bytes (shortL x) := short_bytes x 9 x (by omega)
  have LOS := long_of_short hx l1
  have h10 : (shortL x).length ≤ 10 := LS9
  clear LS9
  have HX := Lib.hid hx
  have hx8 : x < 256 ^ 8 := by
    have : (256 : Nat) ^ 8 = 18446744073709551616 := by decide
    omega
  have HX8 := Lib.hid hx8
  have BV := Lib.hid (bigV_big hx8)
  clear hx8
  clear hx
  go_enter Try.func13, Try.ntmps13
  go_wp2_with fail
  refine (Short_any HX.out _).mono ?_
  rintro e wA ⟨vA, rfl, hownA, qA⟩
  have hsA : SliceOf u8c wA vA (shortL x) := SliceOf.of_own hownA rfl
  have t1 := s1.below qA
  have t2 := s2.below qA
  have hB0 : (wA.alloc (.cells #[] 5 (0, 0))).ownsRow wA.heap.size 5 1 (.slice (some ⟨wA.heap.size, 0, none⟩) 0 0) 0 [] := own_made0 (Nat.le_refl _)
  have a1 : Below wA.heap.size wA (wA.alloc (.cells #[] 5 (0, 0))) := (Below.refl _ _).alloc (Nat.le_refl _) _
  clear hownA
  go_wp2_with (at_builtin; first | (refine app_u8 (.tmp 21) (.tmp 22) rfl rfl wA.heap.size _ 0 [] rfl hB0 _ (shortL x) rfl (hsA.below a1) (by omega) (by simp) ?_; intro v' wB hownB hgB; have a2 : Below wA.heap.size wA wB := a1.grown hgB (by simp) (fun k hk => (hB0.lt k hk).1)) | (refine app_u8 (.tmp 23) (.tmp 24) rfl rfl wA.heap.size _ (0 + (shortL x).length) ([] ++ u8s (shortL x)) rfl hownB _ l1 rfl (t1.below a2) (by omega) a2.size ?_; intro v'' wC hownC hgC))
  have a3 : Below wA.heap.size wA wC := a2.grown hgC a2.size (fun k hk => (hownB.lt k hk).1)
  have hsC : SliceOf u8c wC v'' (shortL x ++ l1) := SliceOf.of_own hownC (by rw [List.nil_append, ← u8s_append]; rfl)
  have hByC : Bytes (shortL x ++ l1) := fun c hc => by
    rcases List.mem_append.1 hc with hc | hc
    · exact BS c hc
    · exact y1 c hc
  clear hownC hgC hownB a2 hgB hB0 a1
  have LC := Long_any wC hsC hByC
  rw [LOS] at LC
  clear LOS
  have hsA' := hsA
  obtain ⟨pA, cA, rfl, _⟩ := hsA'
  have a4 := qA.trans (a3.mono qA.size)
  have t2C := t2.below a3
  have hB3 : (wC.alloc (.cells #[] 5 (0, 0))).ownsRow wC.heap.size 5 1 (.slice (some ⟨wC.heap.size, 0, none⟩) 0 0) 0 [] := own_made0 (Nat.le_refl _)
  have a5 : Below wC.heap.size wC (wC.alloc (.cells #[] 5 (0, 0))) := (Below.refl _ _).alloc (Nat.le_refl _) _
  generalize hn : (shortL x).length = n at *
  have i1 : (1 : Int) ≤ (n : Int) := by omega
  have i10 : (n : Int) ≤ 10 := by omega
  go_wp2_with fail
  refine LC.mono ?_
  rintro e w' ⟨rfl, rfl⟩
  go_wp2_with (at_builtin; refine app_u8 (.tmp 52) (.tmp 53) rfl rfl wC.heap.size _ 0 [] rfl hB3 _ l2 rfl (t2C.below a5) (by omega) (by simp) ?_; intro vD wD hownD hgD)
  have a6 : Below wC.heap.size wC wD := a5.grown hgD (by simp) (fun k hk => (hB3.lt k hk).1)
  have hsD : SliceOf u8c wD vD l2 := SliceOf.of_own hownD (by rw [List.nil_append]; rfl)
  have t2D := t2C.below a6
  have a7 := a4.trans (a6.mono a4.size)
  clear hownD hgD a5 hB3 a4 a6 t2C
  have LD := Long_any wD hsD y2
  have SL := fun z k => short_of_long (z := z) (k := k) y2
  rcases hR : longR l2 with ⟨z, k, f⟩
  rw [hR] at LD SL
  refine LD.mono ?_
  rintro e w' ⟨rfl, rfl⟩
  by_cases hf : f = 0
  · subst hf
    obtain ⟨z64, k0, kl, hS⟩ := SL z k rfl
    have HZ := Lib.hid z64
    have TK := t2D.take kl
    have k1 : decide ((k : Int) < 1) = false := decide_eq_false (by omega)
    have k2 : decide ((l2.length : Int) < (k : Int)) = false := decide_eq_false (by omega)
    have k3 : decide (l2.length < k) = false := decide_eq_false (by omega)
    have kli : (k : Int) ≤ (l2.length : Int) := by omega
    have kc : (k : Int) ≤ (c2 : Int) := by omega
    have kc2 : k ≤ c2 := by omega
    have k0i : (0 : Int) ≤ (k : Int) := by omega
    clear z64 SL LD hR LC
    go_wp2_with fail
    clear s1 s2 t1 t2 y1 y2 z1 z2 BS hByC hsC hsA hsD LS h10 i1 i10 a3 qA
    go_region_held3 (fun w' => Below wD.heap.size wD w') (first | assumption | exact (Below.refl _ _).drew) (first | (go_at_call 44; refine (Short_any HZ.out _).mono ?_; rintro e wE ⟨vE, rfl, hownE, qE⟩; have sE : Below wD.heap.size wD wE := ((Below.refl _ _).drew).trans (qE.mono (Nat.le_refl _)); have hsE : SliceOf u8c wE vE (l2.take k) := SliceOf.of_own hownE (by rw [hS]; rfl)) | (go_at_call 39; refine (same_any _ hsE (TK.below sE)).mono ?_; rintro e wF ⟨rfl, qF⟩; have sF : Below wD.heap.size wD wF := sE.trans (qF.mono sE.size); rw [decide_eq_true rfl]))
    have rF := a7.trans (sF.mono a7.size)
    clear hsE hownE sE sF qE qF TK t2D
    go_wp2_with fail
    refine (Big_fits (m := 8) HX.out (by omega) HX8.out _).mono ?_
    rintro e wG ⟨vG, rfl, hownG, qG⟩
    have hsG : SliceOf u8c wG vG (bigL x 8) := SliceOf.of_own hownG rfl
    have FG := FromBig_any wG hsG (bigL_bytes x 8) (by rw [bigL_length]; omega)
    rw [BV.out] at FG
    have hsG' := hsG
    obtain ⟨pG, cG, rfl, _⟩ := hsG'
    rw [bigL_length] at FG ⊢
    clear hownG hsG
    go_wp2_with fail
    refine FG.mono ?_
    rintro e w' ⟨rfl, rfl⟩
    have rG := rF.trans (qG.mono rF.size)
    go_wp2_with fail
    refine (awake_any _).mono ?_
    rintro e wH ⟨rfl, qH⟩
    go_wp2
    go_ret
    exact ⟨rfl, rG.trans (qH.mono rG.size)⟩
  · have f0 : ((f : Int) == 0) = false := by rw [beq_eq_false_iff_ne]; omega
    clear SL LD hR LC
    go_wp2_with fail
    go_quiet (fail)
    have rF := below_drewN a7 nq
    go_wp2_with fail
    refine (Big_fits (m := 8) HX.out (by omega) HX8.out _).mono ?_
    rintro e wG ⟨vG, rfl, hownG, qG⟩
    have hsG : SliceOf u8c wG vG (bigL x 8) := SliceOf.of_own hownG rfl
    have FG := FromBig_any wG hsG (bigL_bytes x 8) (by rw [bigL_length]; omega)
    rw [BV.out] at FG
    have hsG' := hsG
    obtain ⟨pG, cG, rfl, _⟩ := hsG'
    rw [bigL_length] at FG ⊢
    clear hownG hsG
    go_wp2_with fail
    refine FG.mono ?_
    rintro e w' ⟨rfl, rfl⟩
    have rG := rF.trans (qG.mono rF.size)
    go_wp2_with fail
    refine (awake_any _).mono ?_
    rintro e wH ⟨rfl, qH⟩
    go_wp2
    go_ret
    exact ⟨rfl, rG.trans (qH.mono rG.size)⟩
end Go.Proofs.Ytlmihaeknmeeiaa
