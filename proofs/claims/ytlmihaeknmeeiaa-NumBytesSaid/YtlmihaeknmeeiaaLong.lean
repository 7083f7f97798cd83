/-
  num.Long: what it computes, the plain laws of Short and Long, and its walk.
-/
import Derived.Test.YtlmihaeknmeeiaaBig
namespace Go.Proofs.Ytlmihaeknmeeiaa
open Go.RowKit
set_option linter.unusedVariables false

/-- What Long says of bytes that begin at the i-th: the number so far is x; f more may come. -/
def longF : Nat → Nat → Nat → List Nat → Nat × Nat × Nat
  | 0, _, _, _ => (0, 0, 10)
  | f + 1, i, x, [] => (0, 0, 11)
  | f + 1, i, x, c :: l =>
    if i = 9 ∧ 1 < c then (0, 0, 10)
    else if c < 128 then (if 0 < i ∧ c = 0 then (0, 0, 12) else (x + c % 128 * 128 ^ i, i + 1, 0))
    else longF f (i + 1) (x + c % 128 * 128 ^ i) l
def longR (l : List Nat) : Nat × Nat × Nat := longF 10 0 0 l

theorem long_short (more : List Nat) : ∀ (f i acc x : Nat), i + f = 9 → x < 2 * 128 ^ f → (0 < i → x ≠ 0) →
    longF (f + 1) i acc (shortF f x ++ more) = (acc + x * 128 ^ i, i + (shortF f x).length, 0) := by
  intro f
  induction f with
  | zero =>
    intro i acc x hi hx h0
    rw [Nat.pow_zero] at hx
    show longF 1 i acc (x :: more) = _
    rw [longF, if_neg (by omega), if_pos (by omega), if_neg (by omega), Nat.mod_eq_of_lt (by omega)]
    rfl
  | succ f ih =>
    intro i acc x hi hx h0
    by_cases hlt : x < 128
    · rw [shortF_lt _ _ hlt]
      show longF (f + 1 + 1) i acc (x :: more) = _
      rw [longF, if_neg (by omega), if_pos hlt, if_neg (by omega), Nat.mod_eq_of_lt hlt]
      rfl
    · have e : shortF (f + 1) x = (x % 128 + 128) :: shortF f (x / 128) := by rw [shortF, if_neg hlt]
      rw [Nat.pow_succ] at hx
      rw [e, List.cons_append, longF, if_neg (by omega), if_neg (by omega), ih (i + 1) _ (x / 128) (by omega) (by omega) (by omega), List.length_cons]
      have e2 : (x % 128 + 128) % 128 = x % 128 := by omega
      have e3 : x * 128 ^ i = x % 128 * 128 ^ i + x / 128 * 128 ^ (i + 1) := by
        rw [Nat.pow_succ, Nat.mul_comm (128 ^ i) 128, ← Nat.mul_assoc, ← Nat.add_mul]
        congr 1
        omega
      rw [e2, e3]
      refine Prod.ext ?_ (Prod.ext ?_ rfl) <;> show _ = _ <;> simp only [] <;> omega
theorem long_back : ∀ (f i acc : Nat) (l : List Nat) (z k : Nat), i + f = 9 → Bytes l → longF (f + 1) i acc l = (z, k, 0) →
    ∃ y, z = acc + y * 128 ^ i ∧ y < 2 * 128 ^ f ∧ (0 < i → y ≠ 0) ∧ i < k ∧ k ≤ i + l.length ∧ shortF f y = l.take (k - i) := by
  intro f
  induction f with
  | zero =>
    intro i acc l z k hi hB h
    cases l with
    | nil => simp [longF] at h
    | cons c l =>
      rw [longF] at h
      by_cases h1 : i = 9 ∧ 1 < c
      · rw [if_pos h1] at h; simp at h
      · rw [if_neg h1, if_pos (by omega)] at h
        by_cases h2 : 0 < i ∧ c = 0
        · rw [if_pos h2] at h; simp at h
        · rw [if_neg h2] at h
          obtain ⟨rfl, h3⟩ := Prod.mk.inj h
          obtain ⟨rfl, _⟩ := Prod.mk.inj h3
          refine ⟨c, by rw [Nat.mod_eq_of_lt (by omega)], by rw [Nat.pow_zero]; omega, by omega, by omega, by simp only [List.length_cons]; omega, ?_⟩
          rw [show i + 1 - i = 1 by omega]
          rfl
  | succ f ih =>
    intro i acc l z k hi hB h
    cases l with
    | nil => simp [longF] at h
    | cons c l =>
      have hc : c < 256 := hB c (by simp)
      have p128 : 0 < 128 ^ f := Nat.pow_pos (by decide)
      rw [longF] at h
      rw [if_neg (by omega)] at h
      by_cases h1 : c < 128
      · rw [if_pos h1] at h
        by_cases h2 : 0 < i ∧ c = 0
        · rw [if_pos h2] at h; simp at h
        · rw [if_neg h2] at h
          obtain ⟨rfl, h3⟩ := Prod.mk.inj h
          obtain ⟨rfl, _⟩ := Prod.mk.inj h3
          refine ⟨c, by rw [Nat.mod_eq_of_lt (by omega)], by rw [Nat.pow_succ]; omega, by omega, by omega, by simp only [List.length_cons]; omega, ?_⟩
          rw [show i + 1 - i = 1 by omega, shortF_lt _ _ h1]
          rfl
      · rw [if_neg h1] at h
        obtain ⟨y, e1, e2, e3, e4, e5, e6⟩ := ih (i + 1) _ l z k (by omega) (fun c hc => hB c (by simp [hc])) h
        have y0 := e3 (by omega)
        refine ⟨c % 128 + 128 * y, ?_, by rw [Nat.pow_succ]; omega, by omega, by omega, by simp only [List.length_cons]; omega, ?_⟩
        · rw [e1, Nat.add_mul, Nat.pow_succ, Nat.mul_comm (128 ^ i) 128, ← Nat.mul_assoc, Nat.mul_comm y 128, Nat.add_assoc]
        · rw [shortF, if_neg (by omega), show (c % 128 + 128 * y) / 128 = y by omega, e6, show k - i = (k - (i + 1)) + 1 by omega, List.take_succ_cons]
          congr 1
          omega
theorem long_of_short {x : Nat} (hx : x < 18446744073709551616) (more : List Nat) : longR (shortL x ++ more) = (x, (shortL x).length, 0) := by
  have h := long_short more 9 0 0 x (by decide) (by omega) (by omega)
  rw [Nat.pow_zero, Nat.mul_one, Nat.zero_add, Nat.zero_add] at h
  exact h
theorem short_of_long {l : List Nat} (hB : Bytes l) {z k : Nat} (h : longR l = (z, k, 0)) : z < 18446744073709551616 ∧ 0 < k ∧ k ≤ l.length ∧ shortL z = l.take k := by
  obtain ⟨y, e1, e2, _, e4, e5, e6⟩ := long_back 9 0 0 l z k (by decide) hB h
  rw [Nat.pow_zero, Nat.mul_one, Nat.zero_add] at e1
  subst e1
  rw [Nat.zero_add] at e5
  rw [Nat.sub_zero] at e6
  exact ⟨by omega, e4, e5, e6⟩
theorem short_len_pos (x : Nat) : 0 < (shortL x).length := by
  unfold shortL shortF
  split <;> simp
theorem short_bytes (x : Nat) : ∀ f y, y < 2 * 128 ^ f → Bytes (shortF f y) := by
  intro f
  induction f with
  | zero =>
    intro y hy c hc
    simp only [shortF, List.mem_singleton] at hc
    omega
  | succ f ih =>
    intro y hy c hc
    rw [shortF] at hc
    rw [Nat.pow_succ] at hy
    by_cases h : y < 128
    · rw [if_pos h, List.mem_singleton] at hc; omega
    · rw [if_neg h] at hc
      rcases List.mem_cons.1 hc with hc | hc
      · omega
      · exact ih (y / 128) (by omega) c hc

/-! ### The walk -/
def LoRel (l : List Nat) (x c : Value) : Prop :=
  ∃ (i acc f : Nat) (suf : List Nat), i + f = 10 ∧ acc < 128 ^ i ∧ x = .int .u64 (acc : Int) ∧ c = .int .i64 (i : Int) ∧ suf = l.drop i ∧ i ≤ l.length ∧ longF f i acc suf = longR l
theorem or_high {x c i : Nat} (hx : x < 128 ^ i) (hc : c < 128) (hi : i ≤ 9) (h9 : i = 9 → c ≤ 1) :
    bits .or .u64 (x : Int) (((c * 128 ^ i : Nat)) : Int) = ((x + c * 128 ^ i : Nat) : Int) := by
  have p1 : 128 ^ i = 2 ^ (7 * i) := by rw [Nat.pow_mul]
  have p9 : 128 ^ i ≤ 128 ^ 9 := Nat.pow_le_pow_right (by decide) hi
  have e9 : (128 : Nat) ^ 9 = 9223372036854775808 := by decide
  have b2 : c * 128 ^ i < 18446744073709551616 := by
    by_cases h : i = 9
    · subst h
      have := h9 rfl
      have : c * 128 ^ 9 ≤ 1 * 128 ^ 9 := Nat.mul_le_mul_right _ this
      omega
    · have h8 : 128 ^ i ≤ 128 ^ 8 := Nat.pow_le_pow_right (by decide) (by omega)
      have e8 : (128 : Nat) ^ 8 = 72057594037927936 := by decide
      have : c * 128 ^ i ≤ 127 * 128 ^ 8 := Nat.mul_le_mul (by omega) h8
      omega
  have h := u64_or_nat x (c * 128 ^ i) (by omega) b2
  rw [h]
  congr 1
  rw [p1] at hx ⊢
  have hj := nat_join (7 * i) (c * 2 ^ (7 * i)) x (Nat.mul_mod_left _ _) hx
  rw [Nat.or_comm, hj, Nat.add_comm]
theorem step_or {x c i : Nat} (hx : x < 128 ^ i) (hi : i ≤ 9) (h9 : i = 9 → c ≤ 1) :
    bits .or .u64 (x : Int) (IntKind.u64.wrap ((c : Int) % 128 * 2 ^ (7 * i))) = ((x + c % 128 * 128 ^ i : Nat) : Int) := by
  have hc : c % 128 < 128 := Nat.mod_lt _ (by decide)
  have h := or_high hx hc hi (fun e => by have := h9 e; omega)
  have p : (128 : Nat) ^ i = 2 ^ (7 * i) := by rw [Nat.pow_mul]
  have e : (c : Int) % 128 * 2 ^ (7 * i) = ((c % 128 * 128 ^ i : Nat) : Int) := by
    rw [cast_pow, p, Int.natCast_mul, Int.natCast_emod]
    rfl
  have b2 : c % 128 * 128 ^ i < 18446744073709551616 := by
    by_cases h : i = 9
    · subst h
      have := h9 rfl
      have e9 : (128 : Nat) ^ 9 = 9223372036854775808 := by decide
      have : c % 128 * 128 ^ 9 ≤ 1 * 128 ^ 9 := Nat.mul_le_mul_right _ (by omega)
      omega
    · have h8 : 128 ^ i ≤ 128 ^ 8 := Nat.pow_le_pow_right (by decide) (by omega)
      have e8 : (128 : Nat) ^ 8 = 72057594037927936 := by decide
      have : c % 128 * 128 ^ i ≤ 127 * 128 ^ 8 := Nat.mul_le_mul (by omega) h8
      omega
  have ew : IntKind.u64.wrap ((c % 128 * 128 ^ i : Nat) : Int) = ((c % 128 * 128 ^ i : Nat) : Int) := by
    rw [wrap_u64]; omega
  rw [e, ew]
  exact h
theorem step_lt {x c i : Nat} (hx : x < 128 ^ i) : x + c % 128 * 128 ^ i < 128 ^ (i + 1) := by
  have : c % 128 * 128 ^ i ≤ 127 * 128 ^ i := Nat.mul_le_mul_right _ (by omega)
  rw [Nat.pow_succ]
  omega
theorem and127 {c : Nat} (h : c < 256) : bits .and .u64 (c : Int) 127 = ((c % 128 : Nat) : Int) := by
  have := u64_and_nat c 127 (by omega) (by decide)
  rw [show (127 : Nat) = 2 ^ 7 - 1 from rfl, Nat.and_two_pow_sub_one_eq_mod] at this
  exact this
theorem ret3_u {a b c a' b' c' : Nat} (h : (a, b, c) = (a', b', c')) : Ending.returned (.tuple #[.int .u64 (a : Int), .int .i64 (b : Int), .int .i64 (c : Int)]) = .returned (.tuple #[.int .u64 (a' : Int), .int .i64 (b' : Int), .int .i64 (c' : Int)]) := by
  obtain ⟨rfl, h2⟩ := Prod.mk.inj h
  obtain ⟨rfl, rfl⟩ := Prod.mk.inj h2
  rfl
set_option maxRecDepth 20000 in
theorem Long_any {l : List Nat} {v : Value} (w : World) (hv : SliceOf u8c w v l) (hB : Bytes l) :
    Calls Try.prog 42 #[v] w fun e w' => e = .returned (.tuple #[.int .u64 ((longR l).1 : Nat), .int .i64 ((longR l).2.1 : Nat), .int .i64 ((longR l).2.2 : Nat)]) ∧ w = w' := by
  obtain ⟨a, ca, rfl, a1, a2, a3, a4⟩ := hv.form
  have hl63 : l.length ≤ 9223372036854775807 := by unfold maxLen at a2; omega
  have A3 := Lib.hid a3
  have A4 := Lib.hid a4
  clear a1 a2 a3 a4 hv
  go_enter Try.func42, Try.ntmps42
  go_wp2
  go_loop [5, 8] (fun x i => LoRel l x i) (fun _ i => 10 - (intOf i).toNat)
  case atStart => exact ⟨0, 0, 10, l, rfl, by decide, rfl, rfl, rfl, by omega, rfl⟩
  case round =>
    obtain ⟨i, acc, f, suf, hif, hacc, rfl, rfl, hsuf, hil, hR⟩ := hrel
    cases f with
    | zero =>
      obtain rfl : i = 10 := by omega
      have R := Lib.hid hR
      clear hR hacc hsuf hif
      go_wp2
      exact bodyPost_ret (v := .tuple #[.int .u64 0, .int .i64 0, .int .i64 10]) (by simp [results, Try.results42, go_sem]) rfl ⟨ret3_u (a := 0) (b := 0) (c := 10) R.out, rfl⟩
    | succ f =>
      have i9 : i ≤ 9 := by omega
      cases suf with
      | nil =>
        have hl : i = l.length := by
          have := congrArg List.length hsuf
          rw [List.length_drop, List.length_nil] at this
          omega
        have R := Lib.hid hR
        have il : (i : Int) = (l.length : Int) := by omega
        have i10 : (i : Int) < 10 := by omega
        clear hR hacc hsuf hif hl
        go_wp2
        exact bodyPost_ret (v := .tuple #[.int .u64 0, .int .i64 0, .int .i64 11]) (by simp [results, Try.results42, go_sem]) rfl ⟨ret3_u (a := 0) (b := 0) (c := 11) R.out, rfl⟩
      | cons c suf =>
        have hc : l[i]? = some c := by
          have := congrArg (fun m => m[0]?) hsuf
          simpa using this.symm
        have hsuf2 : suf = l.drop (i + 1) := by
          have := congrArg List.tail hsuf
          simpa using this
        have hlt : i < l.length := (List.getElem?_eq_some_iff.1 hc).1
        obtain ⟨b, off, rfl⟩ := A3.out i c hc
        have hcell := A4.out b off rfl i c hc
        unfold u8c at hcell
        have hcb := hB.at hc
        have il : ((i : Int) == (l.length : Int)) = false := by rw [beq_eq_false_iff_ne]; omega
        have il2 : (i : Int) < (l.length : Int) := by omega
        have i10 : (i : Int) < 10 := by omega
        by_cases h1 : i = 9 ∧ 1 < c
        · obtain ⟨rfl, hc1⟩ := h1
          have c1 : (1 : Int) < (c : Int) := by omega
          have hR2 : (0, 0, 10) = longR l := by rw [← hR, longF, if_pos ⟨rfl, hc1⟩]
          have R := Lib.hid hR2
          have cell9 : w.cell? ⟨b, off + 9, none⟩ = some (.int .u8 (c : Int)) := hcell
          clear hR hR2 hacc hsuf hif hc hsuf2 hcell hc1
          go_wp2
          exact bodyPost_ret (v := .tuple #[.int .u64 0, .int .i64 0, .int .i64 10]) (by simp [results, Try.results42, go_sem]) rfl ⟨ret3_u (a := 0) (b := 0) (c := 10) R.out, rfl⟩
        · rw [longF, if_neg h1] at hR
          have OR2 := Lib.hid (step_or (c := c) hacc i9 (by omega))
          have HA := Lib.hid (step_lt (c := c) hacc)
          have AN := and127 hcb
          clear hacc
          by_cases hlt2 : c < 128
          · rw [if_pos hlt2] at hR
            have c128 : (c : Int) < 128 := by omega
            by_cases h00 : 0 < i ∧ c = 0
            · rw [if_pos h00] at hR
              have R := Lib.hid hR
              obtain ⟨i0, rfl⟩ := h00
              have i0i : (0 : Int) < (i : Int) := by omega
              clear hR hsuf2 hc hsuf OR2 HA h1 AN
              by_cases i99 : i = 9
              · subst i99
                have cell9 : w.cell? ⟨b, off + 9, none⟩ = some (.int .u8 0) := hcell
                clear hcell
                go_wp2
                exact bodyPost_ret (v := .tuple #[.int .u64 0, .int .i64 0, .int .i64 12]) (by simp [results, Try.results42, go_sem]) rfl ⟨ret3_u (a := 0) (b := 0) (c := 12) R.out, rfl⟩
              · have h9 : ((i : Int) == 9) = false := by rw [beq_eq_false_iff_ne]; omega
                have cell0 : w.cell? ⟨b, off + i, none⟩ = some (.int .u8 0) := hcell
                clear hcell
                go_wp2
                exact bodyPost_ret (v := .tuple #[.int .u64 0, .int .i64 0, .int .i64 12]) (by simp [results, Try.results42, go_sem]) rfl ⟨ret3_u (a := 0) (b := 0) (c := 12) R.out, rfl⟩
            · rw [if_neg h00] at hR
              have R := Lib.hid hR
              clear hR hsuf2 hc hsuf HA
              by_cases i99 : i = 9
              · subst i99
                have cell9 : w.cell? ⟨b, off + 9, none⟩ = some (.int .u8 (c : Int)) := hcell
                have cc1 : (c : Int) ≤ 1 := by omega
                have cc0 : ((c : Int) == 0) = false := by rw [beq_eq_false_iff_ne]; omega
                have OR9 := OR2.out
                have e9 : IntKind.u64.wrap ((c : Int) % 128 * 2 ^ (7 * 9)) = (c : Int) % 128 * 9223372036854775808 := by
                  rw [wrap_u64, show (2 : Int) ^ (7 * 9) = 9223372036854775808 by decide]; omega
                rw [e9] at OR9
                have OR3 := Lib.hid OR9
                clear hcell h1 h00 OR9 e9
                go_wp2
                exact bodyPost_ret (v := .tuple #[.int .u64 _, .int .i64 _, .int .i64 0]) (by simp [results, Try.results42, go_sem]; exact ⟨rfl, rfl⟩) rfl ⟨by rw [OR3.out]; exact ret3_u (c := 0) R.out, rfl⟩
              · have h9 : ((i : Int) == 9) = false := by rw [beq_eq_false_iff_ne]; omega
                by_cases i0 : 0 < i
                · have i0i : (0 : Int) < (i : Int) := by omega
                  have cc0 : ((c : Int) == 0) = false := by rw [beq_eq_false_iff_ne]; omega
                  clear h1 h00
                  go_wp2
                  exact bodyPost_ret (v := .tuple #[.int .u64 _, .int .i64 _, .int .i64 0]) (by simp [results, Try.results42, go_sem]; exact ⟨rfl, rfl⟩) rfl ⟨by rw [OR2.out]; exact ret3_u (c := 0) R.out, rfl⟩
                · obtain rfl : i = 0 := by omega
                  have cell0 : w.cell? ⟨b, off, none⟩ = some (.int .u8 (c : Int)) := hcell
                  have OR9 := OR2.out
                  have e9 : IntKind.u64.wrap ((c : Int) % 128 * 2 ^ (7 * 0)) = (c : Int) % 128 := by
                    rw [wrap_u64, show (2 : Int) ^ (7 * 0) = 1 by decide]; omega
                  rw [e9] at OR9
                  have OR3 := Lib.hid OR9
                  clear h1 h00 hcell OR9 e9
                  go_wp2
                  exact bodyPost_ret (v := .tuple #[.int .u64 _, .int .i64 _, .int .i64 0]) (by simp [results, Try.results42, go_sem]; exact ⟨rfl, rfl⟩) rfl ⟨by rw [OR3.out]; exact ret3_u (c := 0) R.out, rfl⟩
          · rw [if_neg hlt2] at hR
            have R := Lib.hid hR
            have SUF := Lib.hid hsuf2
            clear hR hsuf2 hc hsuf
            have h9 : ((i : Int) == 9) = false := by rw [beq_eq_false_iff_ne]; omega
            have i8 : (i : Int) ≤ 8 := by omega
            go_wp2
            go_round
            case rel => exact ⟨i + 1, _, f, suf, by omega, HA.out, by rw [OR2.out], by go_num, SUF.out, by omega, R.out⟩
            case measure => simp [intOf]; omega
end Go.Proofs.Ytlmihaeknmeeiaa
