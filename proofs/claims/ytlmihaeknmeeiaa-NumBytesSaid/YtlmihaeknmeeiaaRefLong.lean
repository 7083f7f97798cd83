/-
  The reference's Short and Long.
-/
import Derived.Test.YtlmihaeknmeeiaaLong
namespace Go.Proofs.Ytlmihaeknmeeiaa
open Go.RowKit
set_option linter.unusedVariables false

theorem conv128 (m : Nat) : ((m : Int) % 128 + 128) = ((m % 128 + 128 : Nat) : Int) := by omega
set_option maxHeartbeats 800000 in
theorem refShort_any {x : Nat} (hx : x < 18446744073709551616) (w : World) :
    Calls Try.prog 45 #[.int .u64 x] w fun e w' => ∃ v, e = .returned v ∧ w'.ownsRow w.heap.size 5 1 v (shortL x).length (u8s (shortL x)) ∧ Below w.heap.size w w' := by
  obtain ⟨i0, hi, hz0, hz1, hz2⟩ := info_parts info_u8
  generalize hB : w.heap.size = B
  have HB := Lib.hid hB
  clear hB
  go_enter Try.func45, Try.ntmps45
  go_wp2
  go_loopw [0, 3] (fun y v wr => ShRel x B w y v wr) (fun y _ _ => (intOf y).toNat)
  case atStart => exact ⟨9, x, [], by omega, hx, rfl, rfl, rfl, World.ownsRow_nil _ _ _ _, Below.refl _ _⟩
  case round =>
    obtain ⟨f, m, pre, hm, hm64, rfl, hpre, hlen, hown, hbel⟩ := hrel
    have hBw : B ≤ wr.heap.size := by rw [← HB.out]; exact hbel.size
    have P := Lib.hid hpre
    have L := Lib.hid hlen
    clear hpre hlen
    have hpl : pre.length ≤ 9 := by have := L.out; omega
    by_cases hlt : 127 < m
    · have hmi : (128 : Int) ≤ (m : Int) := by omega
      have E := Lib.hid (conv128 m)
      go_wp2_with (at_builtin; refine wpList_append_own _ rfl _ _ 38 rfl B 5 i0 (.int .u8 0) 1 1 Try.underlying38 hi hz0 hz1 hz2 rfl (by decide) _ _ _ rfl (hown.alloc _) ⟨wr.heap.size, 0, none⟩ 1 1 [.int .u8 ((m : Int) % 128 + 128)] rfl rfl (cell_new1 _ _ _) (one_int _ _) (by unfold maxLen; omega) (by omega) (by simp; omega) ?_; intro v' w1 hown1 hg1 _)
      go_roundw
      case rel =>
        obtain ⟨g, rfl⟩ : ∃ g, f = g + 1 := by
          cases f with
          | zero => exfalso; simp at hm; omega
          | succ g => exact ⟨g, rfl⟩
        refine ⟨g, m / 128, pre ++ [m % 128 + 128], ?_, by omega, by go_num, ?_, ?_, ?_, ?_⟩
        · have : 128 ^ (g + 1 + 1) = 128 ^ (g + 1) * 128 := Nat.pow_succ ..
          rw [Nat.div_lt_iff_lt_mul (by decide)]
          omega
        · rw [← P.out]
          conv => rhs; rw [shortF, if_neg (by omega)]
          simp
        · have := L.out; simp; omega
        · rw [E.out] at hown1
          simpa [u8s] using hown1
        · exact ((hbel.alloc (by omega) _).grown hg1 (by simp; omega) fun k hk => (hown.lt k hk).1)
      case measure => simp [intOf]; omega
    · have hmi : (m : Int) ≤ 127 := by omega
      have hmi2 : decide ((128 : Int) ≤ (m : Int)) = false := decide_eq_false (by omega)
      have hS := shortF_lt f m (by omega)
      have HS := Lib.hid hS
      clear hS
      go_wp2_with (at_builtin; refine wpList_append_own _ rfl _ _ 38 rfl B 5 i0 (.int .u8 0) 1 1 Try.underlying38 hi hz0 hz1 hz2 rfl (by decide) _ _ _ rfl (hown.alloc _) ⟨wr.heap.size, 0, none⟩ 1 1 [.int .u8 (m : Int)] rfl rfl (cell_new1 _ _ _) (one_int _ _) (by unfold maxLen; omega) (by omega) (by simp; omega) ?_; intro v' w1 hown1 hg1 _)
      go_ret
      refine ⟨v', rfl, ?_, ?_⟩
      · have e : shortL x = pre ++ [m] := by rw [← P.out, HS.out]
        rw [e]
        simpa [u8s] using hown1
      · exact ((hbel.alloc (by omega) _).grown hg1 (by simp; omega) fun k hk => (hown.lt k hk).1)

/-- How many of the first f bytes go on. -/
def leadF : Nat → List Nat → Nat
  | 0, _ => 0
  | _ + 1, [] => 0
  | f + 1, c :: l => if c < 128 then 0 else leadF f l + 1
/-- The number in n + 1 bytes. -/
def valF : Nat → List Nat → Nat
  | _, [] => 0
  | 0, c :: _ => c % 128
  | n + 1, c :: l => c % 128 + 128 * valF n l
/-- What the reference's Long says. -/
def refLongR (l : List Nat) : Nat × Nat × Nat :=
  if leadF 10 l = 10 then (0, 0, 10) else if leadF 10 l = l.length then (0, 0, 11)
  else if leadF 10 l = 9 ∧ 1 < l.getD (leadF 10 l) 0 then (0, 0, 10)
  else if 0 < leadF 10 l ∧ l.getD (leadF 10 l) 0 = 0 then (0, 0, 12) else (valF (leadF 10 l) l, leadF 10 l + 1, 0)
theorem lead_le : ∀ f l, leadF f l ≤ f
  | 0, _ => Nat.le_refl _
  | _ + 1, [] => Nat.zero_le _
  | f + 1, c :: l => by
    have := lead_le f l
    unfold leadF
    split <;> omega
theorem lead_len : ∀ f l, leadF f l ≤ l.length
  | 0, _ => Nat.zero_le _
  | _ + 1, [] => Nat.zero_le _
  | f + 1, c :: l => by
    have := lead_len f l
    unfold leadF
    rw [List.length_cons]
    split <;> omega
theorem long_ref_gen : ∀ (f i acc : Nat) (l : List Nat), i + f = 10 → longF f i acc l =
    if leadF f l = f then (0, 0, 10) else if leadF f l = l.length then (0, 0, 11)
    else if i + leadF f l = 9 ∧ 1 < l.getD (leadF f l) 0 then (0, 0, 10)
    else if 0 < i + leadF f l ∧ l.getD (leadF f l) 0 = 0 then (0, 0, 12) else (acc + 128 ^ i * valF (leadF f l) l, i + leadF f l + 1, 0) := by
  intro f
  induction f with
  | zero => intro i acc l h; rfl
  | succ f ih =>
    intro i acc l h
    cases l with
    | nil =>
      rw [longF, leadF, if_neg (by omega), if_pos (show 0 = ([] : List Nat).length from rfl)]
    | cons c l =>
      by_cases hc : c < 128
      · have e : leadF (f + 1) (c :: l) = 0 := by rw [leadF, if_pos hc]
        have g : (c :: l).getD 0 0 = c := rfl
        rw [longF, e, if_neg (show ¬ 0 = f + 1 by omega), if_neg (show ¬ 0 = (c :: l).length by rw [List.length_cons]; omega), g, if_pos hc]
        simp only [Nat.add_zero]
        by_cases h1 : i = 9 ∧ 1 < c
        · rw [if_pos h1, if_pos h1]
        · rw [if_neg h1, if_neg h1]
          by_cases h2 : 0 < i ∧ c = 0
          · rw [if_pos h2, if_pos h2]
          · rw [if_neg h2, if_neg h2, valF, Nat.mul_comm]
      · have e : leadF (f + 1) (c :: l) = leadF f l + 1 := by rw [leadF, if_neg hc]
        have g : (c :: l).getD (leadF f l + 1) 0 = l.getD (leadF f l) 0 := rfl
        rw [longF, e, g, if_neg hc]
        by_cases h1 : i = 9 ∧ 1 < c
        · have f0 : f = 0 := by omega
          subst f0
          rw [if_pos h1, if_pos (by rfl)]
        · rw [if_neg h1, ih (i + 1) _ l (by omega)]
          have q1 : (leadF f l = f) = (leadF f l + 1 = f + 1) := by rw [Nat.succ_inj]
          have q2 : (leadF f l = l.length) = (leadF f l + 1 = (c :: l).length) := by rw [List.length_cons, Nat.succ_inj]
          have q3 : i + 1 + leadF f l = i + (leadF f l + 1) := by omega
          have q4 : acc + c % 128 * 128 ^ i + 128 ^ (i + 1) * valF (leadF f l) l = acc + 128 ^ i * valF (leadF f l + 1) (c :: l) := by
            rw [valF, Nat.mul_add, Nat.pow_succ, Nat.mul_comm (c % 128), Nat.mul_assoc, Nat.add_assoc]
          rw [q3, q4]
          simp only [q1, q2]
theorem long_ref (l : List Nat) : refLongR l = longR l := by
  have h := long_ref_gen 10 0 0 l (by decide)
  unfold refLongR longR
  rw [h, Nat.zero_add, Nat.zero_add, Nat.pow_zero, Nat.one_mul]

theorem lead_step {l : List Nat} {k c : Nat} (hk : k < 10) (hc : l[k]? = some c) : leadF (10 - k) (l.drop k) = if c < 128 then 0 else leadF (10 - (k + 1)) (l.drop (k + 1)) + 1 := by
  have hlt : k < l.length := (List.getElem?_eq_some_iff.1 hc).1
  have e : l.drop k = c :: l.drop (k + 1) := by
    rw [List.drop_eq_getElem_cons hlt]
    rw [List.getElem?_eq_getElem hlt] at hc
    rw [Option.some.inj hc]
  rw [e, show 10 - k = (10 - (k + 1)) + 1 by omega, leadF]
theorem val_step {l : List Nat} {k c : Nat} (hc : l[k]? = some c) (j : Nat) : valF (j + 1) (l.drop k) = c % 128 + 128 * valF j (l.drop (k + 1)) ∧ valF 0 (l.drop k) = c % 128 := by
  have hlt : k < l.length := (List.getElem?_eq_some_iff.1 hc).1
  have e : l.drop k = c :: l.drop (k + 1) := by
    rw [List.drop_eq_getElem_cons hlt]
    rw [List.getElem?_eq_getElem hlt] at hc
    rw [Option.some.inj hc]
  rw [e]
  exact ⟨rfl, rfl⟩
/-- The value of the last j bytes of n + 1. -/
def tailV (l : List Nat) (n : Nat) : Nat → Nat
  | 0 => 0
  | j + 1 => valF j (l.drop (n - j))
theorem tailV_step {l : List Nat} {n j c : Nat} (hj : j ≤ n) (hc : l[n - j]? = some c) : tailV l n (j + 1) = c % 128 + 128 * tailV l n j := by
  cases j with
  | zero => exact (val_step hc 0).2
  | succ j =>
    show valF (j + 1) (l.drop (n - (j + 1))) = _
    rw [(val_step hc j).1, show n - (j + 1) + 1 = n - j by omega]
    rfl
theorem tailV_lt {l : List Nat} {n : Nat} (hn : n ≤ 9) (h9 : n = 9 → l.getD 9 0 ≤ 1) (hl : n < l.length) : ∀ j, j ≤ n + 1 → tailV l n j < 2 * 128 ^ (9 - (n + 1 - j)) ∨ j = 0
  | 0, _ => .inr rfl
  | j + 1, h => by
    left
    have hg : l[n - j]? = some (l[n - j]'(by omega)) := List.getElem?_eq_getElem (by omega)
    rw [tailV_step (by omega) hg]
    by_cases h0 : j = 0
    · subst h0
      rw [show tailV l n 0 = 0 from rfl]
      by_cases hn9 : n = 9
      · subst hn9
        have := h9 rfl
        have e : l.getD 9 0 = l[9 - 0] := by simp [List.getD, List.getElem?_eq_getElem hl]
        rw [e] at this
        rw [show 9 - (9 + 1 - (0 + 1)) = 0 by decide, Nat.pow_zero]
        omega
      · have : 128 ^ 1 ≤ 128 ^ (9 - (n + 1 - (0 + 1))) := Nat.pow_le_pow_right (by decide) (by omega)
        omega
    · rcases tailV_lt hn h9 hl j (by omega) with ih | ih
      · have e : 9 - (n + 1 - (j + 1)) = (9 - (n + 1 - j)) + 1 := by omega
        rw [e, Nat.pow_succ]
        omega
      · omega
set_option maxRecDepth 20000 in
theorem refLong_any {l : List Nat} {v : Value} (w : World) (hv : SliceOf u8c w v l) (hB : Bytes l) :
    Calls Try.prog 43 #[v] w fun e w' => e = .returned (.tuple #[.int .u64 ((longR l).1 : Nat), .int .i64 ((longR l).2.1 : Nat), .int .i64 ((longR l).2.2 : Nat)]) ∧ w = w' := by
  obtain ⟨a, ca, rfl, a1, a2, a3, a4⟩ := hv.form
  have hl63 : l.length ≤ 9223372036854775807 := by unfold maxLen at a2; omega
  have A3 := Lib.hid a3
  have A4 := Lib.hid a4
  have RR := (long_ref l).symm
  unfold refLongR at RR
  clear a1 a2 a3 a4 hv
  go_enter Try.func43, Try.ntmps43
  go_wp2
  go_loop [5] (fun n => ∃ k : Nat, n = .int .i64 (k : Int) ∧ k ≤ 10 ∧ k ≤ l.length ∧ leadF 10 l = k + leadF (10 - k) (l.drop k)) (fun n => 10 - (intOf n).toNat)
  case atStart => exact ⟨0, rfl, by omega, by omega, by simp⟩
  case round =>
    obtain ⟨k, rfl, hk, hkl, hL⟩ := hrel
    by_cases h10 : k = 10
    · subst h10
      have e : leadF 10 l = 10 := by rw [hL]; rfl
      rw [if_pos e] at RR
      have R := Lib.hid RR.symm
      clear RR e hL
      by_cases hl : 10 < l.length
      · have i1 : (10 : Int) < (l.length : Int) := by omega
        clear hkl hl
        go_wp2
        exact bodyPost_ret (v := .tuple #[.int .u64 0, .int .i64 0, .int .i64 10]) (by simp [results, Try.results43, go_sem]) rfl ⟨ret3_u (a := 0) (b := 0) (c := 10) R.out, rfl⟩
      · have i1 : decide ((10 : Int) < (l.length : Int)) = false := decide_eq_false (by omega)
        clear hkl hl
        go_wp2
        exact bodyPost_ret (v := .tuple #[.int .u64 0, .int .i64 0, .int .i64 10]) (by simp [results, Try.results43, go_sem]) rfl ⟨ret3_u (a := 0) (b := 0) (c := 10) R.out, rfl⟩
    · by_cases hl : k = l.length
      · have e : leadF 10 l = l.length := by
          rw [hL, hl, List.drop_length, show 10 - l.length = (10 - l.length - 1) + 1 by omega]
          rfl
        rw [e, if_neg (by omega), if_pos rfl] at RR
        have R := Lib.hid RR.symm
        have i1 : ((k : Nat) : Int) = (l.length : Int) := by omega
        have i2 : ((l.length : Int) == 10) = false := by rw [beq_eq_false_iff_ne]; omega
        clear RR e hL
        subst hl
        go_wp2
        exact bodyPost_ret (v := .tuple #[.int .u64 0, .int .i64 0, .int .i64 11]) (by simp [results, Try.results43, go_sem]) rfl ⟨ret3_u (a := 0) (b := 0) (c := 11) R.out, rfl⟩
      · obtain ⟨c, hc⟩ : ∃ c, l[k]? = some c := ⟨l[k]'(by omega), List.getElem?_eq_getElem _⟩
        obtain ⟨b, off, rfl⟩ := A3.out k c hc
        have hcell := A4.out b off rfl k c hc
        unfold u8c at hcell
        have hcb := hB.at hc
        have st := lead_step (by omega) hc
        have i1 : (k : Int) < (l.length : Int) := by omega
        have i2 : (k : Int) < 10 := by omega
        by_cases h128 : c < 128
        · rw [if_pos h128] at st
          have e : leadF 10 l = k := by rw [hL, st]; omega
          have g : l.getD k 0 = c := by simp [List.getD, hc]
          rw [e, if_neg h10, if_neg hl, g] at RR
          have i3 : (c : Int) < 128 := by omega
          have n10 : ((k : Int) == 10) = false := by rw [beq_eq_false_iff_ne]; omega
          have nl : ((k : Int) == (l.length : Int)) = false := by rw [beq_eq_false_iff_ne]; omega
          by_cases hC : k = 9 ∧ 1 < c
          · rw [if_pos hC] at RR
            have R := Lib.hid RR.symm
            obtain ⟨rfl, c1⟩ := hC
            have cell9 : w.cell? ⟨b, off + 9, none⟩ = some (.int .u8 (c : Int)) := hcell
            have c1i : (1 : Int) < (c : Int) := by omega
            clear RR hL st e g hc hcell c1
            go_wp2
            exact bodyPost_ret (v := .tuple #[.int .u64 0, .int .i64 0, .int .i64 10]) (by simp [results, Try.results43, go_sem]) rfl ⟨ret3_u (a := 0) (b := 0) (c := 10) R.out, rfl⟩
          · rw [if_neg hC] at RR
            by_cases hD : 0 < k ∧ c = 0
            · rw [if_pos hD] at RR
              have R := Lib.hid RR.symm
              obtain ⟨k0, rfl⟩ := hD
              have k0i : (0 : Int) < (k : Int) := by omega
              by_cases h9 : k = 9
              · subst h9
                have cell9 : w.cell? ⟨b, off + 9, none⟩ = some (.int .u8 0) := hcell
                clear RR hL st e g hc hcell hC
                go_wp2
                exact bodyPost_ret (v := .tuple #[.int .u64 0, .int .i64 0, .int .i64 12]) (by simp [results, Try.results43, go_sem]) rfl ⟨ret3_u (a := 0) (b := 0) (c := 12) R.out, rfl⟩
              · have n9 : ((k : Int) == 9) = false := by rw [beq_eq_false_iff_ne]; omega
                have cell0 : w.cell? ⟨b, off + k, none⟩ = some (.int .u8 0) := hcell
                clear RR hL st e g hc hcell hC
                go_wp2
                exact bodyPost_ret (v := .tuple #[.int .u64 0, .int .i64 0, .int .i64 12]) (by simp [results, Try.results43, go_sem]) rfl ⟨ret3_u (a := 0) (b := 0) (c := 12) R.out, rfl⟩
            · rw [if_neg hD] at RR
              have R := Lib.hid RR.symm
              have g9 : k = 9 → l.getD 9 0 ≤ 1 := by rintro rfl; rw [g]; omega
              have tl0 := tailV_lt (show k ≤ 9 by omega) g9 (by omega)
              have TL := Lib.hid (show ∀ j, j ≤ k + 1 → 0 < j → tailV l k j ≤ 18446744073709551615 by
                intro j hj h0
                rcases tl0 j hj with h | h
                · have p : 128 ^ (9 - (k + 1 - j)) ≤ 128 ^ 9 := Nat.pow_le_pow_right (by decide) (by omega)
                  have e9 : (128 : Nat) ^ 9 = 9223372036854775808 := by decide
                  omega
                · omega)
              have TL := Lib.hid (show ∀ j, j ≤ k + 1 → tailV l k j ≤ 18446744073709551615 by
                intro j hj
                by_cases h0 : 0 < j
                · exact TL.out j hj h0
                · obtain rfl : j = 0 := by omega
                  exact Nat.zero_le _)
              have VL := Lib.hid (show tailV l k (k + 1) = valF k l by show valF k (l.drop (k - k)) = _; rw [Nat.sub_self]; rfl)
              clear RR hL st e g hc tl0 g9
              by_cases h9 : k = 9
              · have n9 : ((k : Int) == 9) = true := by rw [beq_iff_eq]; omega
                have cell9 : w.cell? ⟨b, off + 9, none⟩ = some (.int .u8 (c : Int)) := by rw [← hcell, h9]
                have c1i : (c : Int) ≤ 1 := by omega
                have k0i : (0 : Int) < (k : Int) := by omega
                have nc0 : ((c : Int) == 0) = false := by rw [beq_eq_false_iff_ne]; omega
                have l9 : (9 : Int) < (l.length : Int) := by omega
                clear hC hD h9
                go_wp2
                go_loop [6, 7] (fun x i => ∃ j : Nat, j ≤ k + 1 ∧ x = .int .u64 (tailV l k j : Int) ∧ i = .int .i64 ((k : Int) - (j : Int))) (fun _ i => (intOf i + 1).toNat)
                case atStart => exact ⟨0, by omega, rfl, by go_num⟩
                case round =>
                  obtain ⟨j, hj, rfl, rfl⟩ := hrel
                  by_cases hjk : j = k + 1
                  · subst hjk
                    have e1 : (k : Int) - ((k + 1 : Nat) : Int) = -1 := by omega
                    rw [e1]
                    clear e1
                    go_wp2
                    exact bodyPost_ret (v := .tuple #[.int .u64 _, .int .i64 _, .int .i64 0]) (by simp [results, Try.results43, go_sem]; exact ⟨rfl, rfl⟩) rfl ⟨by rw [VL.out]; exact ret3_u (c := 0) R.out, rfl⟩
                  · obtain ⟨c', hc'⟩ : ∃ c', l[k - j]? = some c' := ⟨l[k - j]'(by omega), List.getElem?_eq_getElem _⟩
                    have cell' := A4.out b off rfl (k - j) c' hc'
                    unfold u8c at cell'
                    have hcb' := hB.at hc'
                    have ts := tailV_step (by omega) hc'
                    have tl := TL.out (j + 1) (by omega)
                    have hx2 : tailV l k j ≤ 144115188075855871 := by omega
                    have TS := Lib.hid ts
                    obtain ⟨d, hd⟩ : ∃ d, k - j = d := ⟨_, rfl⟩
                    have e1 : (k : Int) - (j : Int) = (d : Int) := by omega
                    have e2 : (k : Int) - ((j + 1 : Nat) : Int) = (d : Int) - 1 := by omega
                    have E2 := Lib.hid e2
                    have id : (d : Int) < (l.length : Int) := by omega
                    rw [hd] at cell'
                    rw [e1]
                    clear e1 e2 hd ts tl hc'
                    generalize tailV l k j = x at *
                    have hxi : (x : Int) ≤ 144115188075855871 := by omega
                    go_wp2
                    go_round
                    case rel => exact ⟨j + 1, by omega, by rw [TS.out]; go_num, by rw [E2.out]⟩
                    case measure => simp [intOf]

              · have n9 : ((k : Int) == 9) = false := by rw [beq_eq_false_iff_ne]; omega
                by_cases k0 : 0 < k
                · have k0i : (0 : Int) < (k : Int) := by omega
                  have nc0 : ((c : Int) == 0) = false := by rw [beq_eq_false_iff_ne]; omega
                  clear hC hD
                  go_wp2
                  go_loop [6, 7] (fun x i => ∃ j : Nat, j ≤ k + 1 ∧ x = .int .u64 (tailV l k j : Int) ∧ i = .int .i64 ((k : Int) - (j : Int))) (fun _ i => (intOf i + 1).toNat)
                  case atStart => exact ⟨0, by omega, rfl, by go_num⟩
                  case round =>
                    obtain ⟨j, hj, rfl, rfl⟩ := hrel
                    by_cases hjk : j = k + 1
                    · subst hjk
                      have e1 : (k : Int) - ((k + 1 : Nat) : Int) = -1 := by omega
                      rw [e1]
                      clear e1
                      go_wp2
                      exact bodyPost_ret (v := .tuple #[.int .u64 _, .int .i64 _, .int .i64 0]) (by simp [results, Try.results43, go_sem]; exact ⟨rfl, rfl⟩) rfl ⟨by rw [VL.out]; exact ret3_u (c := 0) R.out, rfl⟩
                    · obtain ⟨c', hc'⟩ : ∃ c', l[k - j]? = some c' := ⟨l[k - j]'(by omega), List.getElem?_eq_getElem _⟩
                      have cell' := A4.out b off rfl (k - j) c' hc'
                      unfold u8c at cell'
                      have hcb' := hB.at hc'
                      have ts := tailV_step (by omega) hc'
                      have tl := TL.out (j + 1) (by omega)
                      have hx2 : tailV l k j ≤ 144115188075855871 := by omega
                      have TS := Lib.hid ts
                      obtain ⟨d, hd⟩ : ∃ d, k - j = d := ⟨_, rfl⟩
                      have e1 : (k : Int) - (j : Int) = (d : Int) := by omega
                      have e2 : (k : Int) - ((j + 1 : Nat) : Int) = (d : Int) - 1 := by omega
                      have E2 := Lib.hid e2
                      have id : (d : Int) < (l.length : Int) := by omega
                      rw [hd] at cell'
                      rw [e1]
                      clear e1 e2 hd ts tl hc'
                      generalize tailV l k j = x at *
                      have hxi : (x : Int) ≤ 144115188075855871 := by omega
                      go_wp2
                      go_round
                      case rel => exact ⟨j + 1, by omega, by rw [TS.out]; go_num, by rw [E2.out]⟩
                      case measure => simp [intOf]

                · have k0i : decide ((0 : Int) < (k : Int)) = false := decide_eq_false (by omega)
                  clear hC hD
                  go_wp2
                  go_loop [6, 7] (fun x i => ∃ j : Nat, j ≤ k + 1 ∧ x = .int .u64 (tailV l k j : Int) ∧ i = .int .i64 ((k : Int) - (j : Int))) (fun _ i => (intOf i + 1).toNat)
                  case atStart => exact ⟨0, by omega, rfl, by go_num⟩
                  case round =>
                    obtain ⟨j, hj, rfl, rfl⟩ := hrel
                    by_cases hjk : j = k + 1
                    · subst hjk
                      have e1 : (k : Int) - ((k + 1 : Nat) : Int) = -1 := by omega
                      rw [e1]
                      clear e1
                      go_wp2
                      exact bodyPost_ret (v := .tuple #[.int .u64 _, .int .i64 _, .int .i64 0]) (by simp [results, Try.results43, go_sem]; exact ⟨rfl, rfl⟩) rfl ⟨by rw [VL.out]; exact ret3_u (c := 0) R.out, rfl⟩
                    · obtain ⟨c', hc'⟩ : ∃ c', l[k - j]? = some c' := ⟨l[k - j]'(by omega), List.getElem?_eq_getElem _⟩
                      have cell' := A4.out b off rfl (k - j) c' hc'
                      unfold u8c at cell'
                      have hcb' := hB.at hc'
                      have ts := tailV_step (by omega) hc'
                      have tl := TL.out (j + 1) (by omega)
                      have hx2 : tailV l k j ≤ 144115188075855871 := by omega
                      have TS := Lib.hid ts
                      obtain ⟨d, hd⟩ : ∃ d, k - j = d := ⟨_, rfl⟩
                      have e1 : (k : Int) - (j : Int) = (d : Int) := by omega
                      have e2 : (k : Int) - ((j + 1 : Nat) : Int) = (d : Int) - 1 := by omega
                      have E2 := Lib.hid e2
                      have id : (d : Int) < (l.length : Int) := by omega
                      rw [hd] at cell'
                      rw [e1]
                      clear e1 e2 hd ts tl hc'
                      generalize tailV l k j = x at *
                      have hxi : (x : Int) ≤ 144115188075855871 := by omega
                      go_wp2
                      go_round
                      case rel => exact ⟨j + 1, by omega, by rw [TS.out]; go_num, by rw [E2.out]⟩
                      case measure => simp [intOf]

        · rw [if_neg h128] at st
          have N := Lib.hid (show leadF 10 l = (k + 1) + leadF (10 - (k + 1)) (l.drop (k + 1)) by rw [hL, st]; omega)
          have i3 : (128 : Int) ≤ (c : Int) := by omega
          clear st hL RR hc
          go_wp2
          go_round
          case rel => exact ⟨k + 1, by go_num, by omega, by omega, N.out⟩
          case measure => simp [intOf]; omega
end Go.Proofs.Ytlmihaeknmeeiaa
