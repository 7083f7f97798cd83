/-
  Spots one behind the other, and a pile of which no two neighbours are siblings: the plain law.
-/
import Derived.Test.YtpbahbigimnboaaDoorSpan
import Derived.Test.YtpbahbigimnboaaDoorPosPure
namespace Go.Proofs.YtpbahbigimnboaaDoor
open Go.RowKit
set_option linter.unusedVariables false

/-- Are these siblings, the left one first? -/
def Sib (a s : Nat × Nat) : Prop := a.1 = s.1 ∧ a.2 % 2 = 0 ∧ s.2 = a.2 + 1
instance (a s : Nat × Nat) : Decidable (Sib a s) := by unfold Sib; infer_instance
def upS (a : Nat × Nat) : Nat × Nat := (a.1 + 1, a.2 / 2)
/-- A pile, its top first, onto which s is put: the pile that comes of it, and the parents that are made. -/
def putR : List (Nat × Nat) → Nat × Nat → List (Nat × Nat) × List (Nat × Nat)
  | [], s => ([s], [])
  | a :: r, s => if Sib a s then ((putR r (upS a)).1, upS a :: (putR r (upS a)).2) else (s :: a :: r, [])
theorem putR_len : ∀ (r : List (Nat × Nat)) (s : Nat × Nat), (putR r s).2.length ≤ r.length
  | [], s => Nat.le_refl _
  | a :: r, s => by
    unfold putR
    split
    · show (putR r (upS a)).2.length + 1 ≤ r.length + 1
      have := putR_len r (upS a)
      omega
    · exact Nat.zero_le _
theorem putR_count : ∀ (r : List (Nat × Nat)) (s : Nat × Nat), (putR r s).1.length + (putR r s).2.length = r.length + 1
  | [], s => rfl
  | a :: r, s => by
    unfold putR
    split
    · show (putR r (upS a)).1.length + ((putR r (upS a)).2.length + 1) = r.length + 1 + 1
      have := putR_count r (upS a)
      omega
    · rfl
attribute [irreducible] putR
theorem putR_up {a s : Nat × Nat} (r : List (Nat × Nat)) (h : Sib a s) : putR (a :: r) s = ((putR r (upS a)).1, upS a :: (putR r (upS a)).2) := by
  rw [putR, if_pos h]
theorem putR_no {a s : Nat × Nat} (r : List (Nat × Nat)) (h : ¬ Sib a s) : putR (a :: r) s = (s :: a :: r, []) := by
  rw [putR, if_neg h]
theorem putR_nil (s : Nat × Nat) : putR [] s = ([s], []) := by rw [putR]

/-- Right spots, one behind the other, from the leaf a on, up to b. -/
def Chain : Nat → Nat → List (Nat × Nat) → Prop
  | a, b, [] => a = b
  | a, b, s :: l => Right s.1 s.2 ∧ s.2 * 2 ^ s.1 = a ∧ Chain ((s.2 + 1) * 2 ^ s.1) b l
theorem chain_append : ∀ (l m : List (Nat × Nat)) (a b : Nat), Chain a b (l ++ m) ↔ ∃ c, Chain a c l ∧ Chain c b m
  | [], m, a, b => ⟨fun h => ⟨a, rfl, h⟩, fun ⟨c, h1, h2⟩ => by obtain rfl : a = c := h1; exact h2⟩
  | s :: l, m, a, b => by
    show Right s.1 s.2 ∧ s.2 * 2 ^ s.1 = a ∧ Chain _ b (l ++ m) ↔ ∃ c, (Right s.1 s.2 ∧ s.2 * 2 ^ s.1 = a ∧ Chain _ c l) ∧ Chain c b m
    rw [chain_append l m]
    exact ⟨fun ⟨r, e, c, h1, h2⟩ => ⟨c, ⟨r, e, h1⟩, h2⟩, fun ⟨c, ⟨r, e, h1⟩, h2⟩ => ⟨r, e, c, h1, h2⟩⟩
theorem spot_end (h k : Nat) : (k + 1) * 2 ^ h = k * 2 ^ h + 2 ^ h := by rw [Nat.add_mul, Nat.one_mul]
theorem chain_le : ∀ (l : List (Nat × Nat)) (a b : Nat), Chain a b l → a ≤ b
  | [], a, b, h => Nat.le_of_eq h
  | s :: l, a, b, ⟨_, e, h⟩ => by
    have := chain_le l _ b h
    have p := Nat.two_pow_pos s.1
    rw [spot_end] at this
    omega
theorem chain_lt {s : Nat × Nat} {l : List (Nat × Nat)} {a b : Nat} (h : Chain a b (s :: l)) : a + 2 ^ s.1 ≤ b := by
  obtain ⟨_, e, h⟩ := h
  have := chain_le l _ b h
  rw [spot_end] at this
  omega
theorem chain_top : ∀ (l : List (Nat × Nat)) (a b : Nat), Chain a b l → a ≤ 4611686018427387904 → b ≤ 4611686018427387904
  | [], a, b, h, ha => by have e : a = b := h; omega
  | s :: l, a, b, ⟨r, e, h⟩, ha => chain_top l _ b h (right_bound r)
theorem sib_up {a s : Nat × Nat} (h : Sib a s) (ra : Right a.1 a.2) (rs : Right s.1 s.2) :
    Right (upS a).1 (upS a).2 ∧ (upS a).2 * 2 ^ (upS a).1 = a.2 * 2 ^ a.1 ∧ ((upS a).2 + 1) * 2 ^ (upS a).1 = (s.2 + 1) * 2 ^ s.1 := by
  obtain ⟨p, q⟩ := a
  obtain ⟨x, y⟩ := s
  obtain ⟨h1, h2, h3⟩ := h
  dsimp only at h1 h2 h3 ra rs
  subst h1 h3
  unfold upS
  obtain ⟨m, rfl⟩ : ∃ m, q = 2 * m := ⟨q / 2, by omega⟩
  have e : 2 * m / 2 = m := by omega
  have rb := right_bound rs
  dsimp only
  rw [e]
  have p62 : p < 62 := by
    rcases Nat.lt_or_ge p 62 with h | h
    · exact h
    · have hp : p = 62 := by have := ra.1; omega
      subst hp
      have := rs.2
      have e1 : (2 : Nat) ^ (62 - 62) = 1 := by decide
      omega
  refine ⟨⟨by omega, ?_⟩, by rw [Nat.pow_succ, Nat.mul_comm (2 ^ p) 2, ← Nat.mul_assoc, Nat.mul_comm m 2], by rw [Nat.pow_succ, Nat.mul_comm (2 ^ p) 2, ← Nat.mul_assoc]; congr 1; omega⟩
  have := rs.2
  rw [show 62 - p = 62 - (p + 1) + 1 by omega, Nat.pow_succ] at this
  omega
/-- Putting one more on keeps a chain a chain. -/
theorem putR_chain : ∀ (r : List (Nat × Nat)) (s : Nat × Nat) (a b : Nat), Chain a b (s :: r).reverse → Chain a b (putR r s).1.reverse
  | [], s, a, b, h => by rw [putR_nil]; exact h
  | t :: r, s, a, b, h => by
    by_cases hs : Sib t s
    · rw [putR_up r hs]
      refine putR_chain r (upS t) a b ?_
      rw [List.reverse_cons, List.reverse_cons, List.append_assoc, chain_append] at h
      rw [List.reverse_cons, chain_append]
      obtain ⟨c, h1, rt, et, rs, es, he⟩ := h
      obtain ⟨u1, u2, u3⟩ := sib_up hs rt rs
      exact ⟨c, h1, u1, by rw [u2, et], by rw [u3]; exact he⟩
    · rw [putR_no r hs]; exact h
/-- No two neighbours are siblings; the top is first. -/
def CalmR : List (Nat × Nat) → Prop
  | s :: a :: r => ¬ Sib a s ∧ CalmR (a :: r)
  | _ => True
def Calm : List (Nat × Nat) → Prop
  | a :: s :: r => ¬ Sib a s ∧ Calm (s :: r)
  | _ => True
theorem calmR_tail {s : Nat × Nat} {r : List (Nat × Nat)} (h : CalmR (s :: r)) : CalmR r := by
  cases r with
  | nil => trivial
  | cons a r => exact h.2
theorem calm_tail {s : Nat × Nat} {r : List (Nat × Nat)} (h : Calm (s :: r)) : Calm r := by
  cases r with
  | nil => trivial
  | cons a r => exact h.2
theorem calm_snoc : ∀ (l : List (Nat × Nat)) (a s : Nat × Nat), Calm (l ++ [a, s]) ↔ Calm (l ++ [a]) ∧ ¬ Sib a s
  | [], a, s => ⟨fun h => ⟨trivial, h.1⟩, fun h => ⟨h.2, trivial⟩⟩
  | [x], a, s => ⟨fun h => ⟨⟨h.1, trivial⟩, h.2.1⟩, fun h => ⟨h.1.1, h.2, trivial⟩⟩
  | x :: y :: l, a, s => by
    have ih := calm_snoc (y :: l) a s
    show ¬ Sib x y ∧ Calm ((y :: l) ++ [a, s]) ↔ (¬ Sib x y ∧ Calm ((y :: l) ++ [a])) ∧ ¬ Sib a s
    rw [ih]
    exact ⟨fun ⟨a, b, c⟩ => ⟨⟨a, b⟩, c⟩, fun ⟨⟨a, b⟩, c⟩ => ⟨a, b, c⟩⟩
theorem calm_reverse : ∀ (r : List (Nat × Nat)), CalmR r ↔ Calm r.reverse
  | [] => ⟨fun _ => trivial, fun _ => trivial⟩
  | [s] => ⟨fun _ => trivial, fun _ => trivial⟩
  | s :: a :: r => by
    have ih := calm_reverse (a :: r)
    rw [List.reverse_cons, List.reverse_cons, List.append_assoc]
    show ¬ Sib a s ∧ CalmR (a :: r) ↔ Calm (r.reverse ++ [a, s])
    rw [calm_snoc, ih, List.reverse_cons]
    exact ⟨fun ⟨a, b⟩ => ⟨b, a⟩, fun ⟨a, b⟩ => ⟨b, a⟩⟩
theorem putR_calm : ∀ (r : List (Nat × Nat)) (s : Nat × Nat), CalmR r → CalmR (putR r s).1
  | [], s, h => by rw [putR_nil]; trivial
  | t :: r, s, h => by
    by_cases hs : Sib t s
    · rw [putR_up r hs]
      exact putR_calm r (upS t) (calmR_tail h)
    · rw [putR_no r hs]
      exact ⟨hs, h⟩
/-- All spots of a list, put onto a pile. -/
def pileR (r : List (Nat × Nat)) (l : List (Nat × Nat)) : List (Nat × Nat) := l.foldl (fun r s => (putR r s).1) r
theorem pileR_calm : ∀ (l r : List (Nat × Nat)), CalmR r → CalmR (pileR r l)
  | [], r, h => h
  | s :: l, r, h => pileR_calm l _ (putR_calm r s h)
theorem pileR_chain : ∀ (l r : List (Nat × Nat)) (a b : Nat), Chain a b (r.reverse ++ l) → Chain a b (pileR r l).reverse
  | [], r, a, b, h => by rw [List.append_nil] at h; exact h
  | s :: l, r, a, b, h => by
    refine pileR_chain l (putR r s).1 a b ?_
    rw [show r.reverse ++ s :: l = (s :: r).reverse ++ l by simp, chain_append] at h
    rw [chain_append]
    obtain ⟨c, h1, h2⟩ := h
    exact ⟨c, putR_chain r s a c h1, h2⟩

theorem mod_pow_of_le {a h g : Nat} (e : a % 2 ^ h = 0) (hg : g ≤ h) : a % 2 ^ g = 0 := by
  obtain ⟨d, rfl⟩ : ∃ d, h = g + d := ⟨h - g, by omega⟩
  obtain ⟨c, hc⟩ := Nat.dvd_of_mod_eq_zero e
  rw [hc, Nat.pow_add, Nat.mul_assoc]
  exact Nat.mul_mod_right _ _
theorem even_of_mod {k h : Nat} (e : k * 2 ^ h % 2 ^ (h + 1) = 0) : k % 2 = 0 := by
  obtain ⟨c, hc⟩ := Nat.dvd_of_mod_eq_zero e
  rw [Nat.pow_succ, Nat.mul_assoc, Nat.mul_comm k] at hc
  have := Nat.eq_of_mul_eq_mul_left (Nat.two_pow_pos h) hc
  omega
theorem pow_le_pow {g h : Nat} (hg : g ≤ h) : 2 ^ g ≤ 2 ^ h := Nat.pow_le_pow_right (by decide) hg
/-- Where a calm chain has room for a tree, it has one. -/
theorem calm_low : ∀ (l : List (Nat × Nat)) (a b h : Nat), Chain a b l → Calm l → a % 2 ^ h = 0 → a + 2 ^ h ≤ b → ∃ s l', l = s :: l' ∧ h ≤ s.1
  | [], a, b, h, c, _, _, hb => by
    have e : a = b := c
    have := Nat.two_pow_pos h
    omega
  | s :: l, a, b, h, c, k, hm, hb => by
    refine ⟨s, l, rfl, ?_⟩
    rcases Nat.lt_or_ge s.1 h with hlt | hge
    · exfalso
      obtain ⟨r, e, c2⟩ := c
      have m1 : a % 2 ^ (s.1 + 1) = 0 := mod_pow_of_le hm hlt
      rw [← e] at m1
      have ev := even_of_mod m1
      have p1 : 2 ^ (s.1 + 1) ≤ 2 ^ h := pow_le_pow hlt
      rw [Nat.pow_succ] at p1
      obtain ⟨t, l', rfl, ht⟩ := calm_low l _ b s.1 c2 (calm_tail k) (Nat.mul_mod_left _ _) (by rw [spot_end, e]; omega)
      obtain ⟨rt, et, _⟩ := c2
      rcases Nat.lt_or_ge s.1 t.1 with h1 | h1
      · have m2 : (s.2 + 1) * 2 ^ s.1 % 2 ^ (s.1 + 1) = 0 := by
          rw [← et]
          exact mod_pow_of_le (Nat.mul_mod_left _ _) h1
        have := even_of_mod m2
        omega
      · have et1 : t.1 = s.1 := by omega
        rw [et1] at et
        have := Nat.eq_of_mul_eq_mul_right (Nat.two_pow_pos s.1) et
        exact k.1 ⟨et1.symm, ev, this⟩
    · exact hge
/-- Likewise from behind. -/
theorem calm_high : ∀ (r : List (Nat × Nat)) (a b h : Nat), Chain a b r.reverse → CalmR r → b % 2 ^ h = 0 → a + 2 ^ h ≤ b → ∃ s r', r = s :: r' ∧ h ≤ s.1
  | [], a, b, h, c, _, _, hb => by
    have e : a = b := c
    have := Nat.two_pow_pos h
    omega
  | s :: r, a, b, h, c, k, hm, hb => by
    refine ⟨s, r, rfl, ?_⟩
    rcases Nat.lt_or_ge s.1 h with hlt | hge
    · exfalso
      rw [List.reverse_cons, chain_append] at c
      obtain ⟨x, c1, rs, es, eb⟩ := c
      have eb : (s.2 + 1) * 2 ^ s.1 = b := eb
      have m1 : b % 2 ^ (s.1 + 1) = 0 := mod_pow_of_le hm hlt
      rw [← eb] at m1
      have ev := even_of_mod m1
      have p1 : 2 ^ (s.1 + 1) ≤ 2 ^ h := pow_le_pow hlt
      rw [Nat.pow_succ] at p1
      rw [spot_end] at eb
      obtain ⟨t, r', rfl, ht⟩ := calm_high r a x s.1 c1 (calmR_tail k) (by rw [← es]; exact Nat.mul_mod_left _ _) (by omega)
      rw [List.reverse_cons, chain_append] at c1
      obtain ⟨y, _, rt, et, ex⟩ := c1
      have ex : (t.2 + 1) * 2 ^ t.1 = x := ex
      rcases Nat.lt_or_ge s.1 t.1 with h1 | h1
      · have m2 : s.2 * 2 ^ s.1 % 2 ^ (s.1 + 1) = 0 := by
          rw [es, ← ex]
          exact mod_pow_of_le (Nat.mul_mod_left _ _) h1
        have := even_of_mod m2
        omega
      · have et1 : t.1 = s.1 := by omega
        rw [et1, ← es] at ex
        have := Nat.eq_of_mul_eq_mul_right (Nat.two_pow_pos s.1) ex
        exact k.1 ⟨et1, by omega, this.symm⟩
    · exact hge
/-- A calm chain is the span's. -/
theorem calm_span : ∀ (l : List (Nat × Nat)) (a b : Nat), b ≤ 4611686018427387904 → Chain a b l → Calm l → l = spanL a b
  | [], a, b, hb, c, _ => by
    have e : a = b := c
    rw [spanL_stop (by omega)]
  | s :: l, a, b, hb, c, k => by
    have hlt := chain_lt c
    have hp := Nat.two_pow_pos s.1
    have hab : a < b := by omega
    obtain ⟨s1, s2, s3, s4⟩ := spanH_spec hab hb
    obtain ⟨t, l', e, hle⟩ := calm_low (s :: l) a b (spanH a b) c k s1 (by omega)
    obtain ⟨rfl, rfl⟩ := List.cons.inj e
    obtain ⟨r, e, c2⟩ := c
    have hH : s.1 = spanH a b := by
      rcases Nat.lt_or_ge (spanH a b) s.1 with h | h
      · have h1 := (s4 (s.1 - 1) (by have := r.1; omega)).1 (by
          rw [show s.1 - 1 + 1 = s.1 by omega]
          exact ⟨by rw [← e]; exact Nat.mul_mod_left _ _, by omega⟩)
        omega
      · omega
    have ih := calm_span l _ b hb c2 (calm_tail k)
    rw [spanL_go hab hb, ← hH]
    have e2 : a / 2 ^ s.1 = s.2 := by rw [← e, Nat.mul_div_cancel _ hp]
    rw [e2, ih, spot_end, e]
/-- And the span's is one. -/
theorem span_chain {a b : Nat} (hb : b ≤ 4611686018427387904) (h : a ≤ b) : Chain a b (spanL a b) := by
  generalize hd : b - a = d
  induction d using Nat.strongRecOn generalizing a with
  | _ d ih =>
    by_cases hab : a < b
    · obtain ⟨s1, s2, s3, _⟩ := spanH_spec hab hb
      have hp := Nat.two_pow_pos (spanH a b)
      have e : a / 2 ^ spanH a b * 2 ^ spanH a b = a := Nat.div_mul_cancel (Nat.dvd_of_mod_eq_zero s1)
      rw [spanL_go hab hb]
      refine ⟨⟨s3, ?_⟩, e, ?_⟩
      · have e2 : 2 ^ (62 - spanH a b) * 2 ^ spanH a b = 4611686018427387904 := by
          rw [← Nat.pow_add, show 62 - spanH a b + spanH a b = 62 by omega]
        rcases Nat.lt_or_ge (a / 2 ^ spanH a b) (2 ^ (62 - spanH a b)) with h | h
        · exact h
        · have := Nat.mul_le_mul_right (2 ^ spanH a b) h
          rw [e, e2] at this
          omega
      · rw [spot_end]
        dsimp only
        rw [e]
        exact ih (b - (a + 2 ^ spanH a b)) (by omega) (by omega) rfl
    · rw [spanL_stop hab]
      show a = b
      omega
theorem span_calm {a b : Nat} (hb : b ≤ 4611686018427387904) : Calm (spanL a b) := by
  generalize hd : b - a = d
  induction d using Nat.strongRecOn generalizing a with
  | _ d ih =>
    by_cases hab : a < b
    · obtain ⟨s1, s2, s3, s4⟩ := spanH_spec hab hb
      have hp := Nat.two_pow_pos (spanH a b)
      have e : a / 2 ^ spanH a b * 2 ^ spanH a b = a := Nat.div_mul_cancel (Nat.dvd_of_mod_eq_zero s1)
      have ih' := ih (b - (a + 2 ^ spanH a b)) (by omega) (a := a + 2 ^ spanH a b) rfl
      rw [spanL_go hab hb]
      by_cases hab2 : a + 2 ^ spanH a b < b
      · obtain ⟨t1, t2, t3, _⟩ := spanH_spec hab2 hb
        rw [spanL_go hab2 hb] at ih' ⊢
        refine ⟨?_, ih'⟩
        rintro ⟨h1, h2, h3⟩
        dsimp only at h1 h2 h3
        have p1 : 2 ^ (spanH a b + 1) = 2 ^ spanH a b + 2 ^ spanH a b := by rw [Nat.pow_succ]; omega
        have m1 : a % 2 ^ (spanH a b + 1) = 0 := by
          obtain ⟨c, hc⟩ : ∃ c, a / 2 ^ spanH a b = 2 * c := ⟨a / 2 ^ spanH a b / 2, by omega⟩
          rw [hc] at e
          have e4 : a = c * 2 ^ (spanH a b + 1) := by
            rw [Nat.pow_succ, Nat.mul_comm (2 ^ _) 2, ← Nat.mul_assoc, Nat.mul_comm c 2]
            exact e.symm
          generalize spanH a b = g at *
          rw [e4]
          exact Nat.mul_mod_left _ _
        rw [← h1] at t2
        have h62 : spanH a b < 62 := by
          rcases Nat.lt_or_ge (spanH a b) 62 with h | h
          · exact h
          · have e3 : spanH a b = 62 := by omega
            rw [e3] at s2 t2
            have e62 : (2 : Nat) ^ 62 = 4611686018427387904 := by decide
            omega
        have := (s4 _ h62).1 ⟨m1, by omega⟩
        omega
      · rw [spanL_stop hab2]
        trivial
    · rw [spanL_stop hab]
      trivial
/-- What is left when neighbours are put together. -/
theorem pileR_span {l : List (Nat × Nat)} {a b : Nat} (hb : b ≤ 4611686018427387904) (c : Chain a b l) : (pileR [] l).reverse = spanL a b :=
  calm_span _ a b hb (pileR_chain l [] a b c) ((calm_reverse _).1 (pileR_calm l [] trivial))
end Go.Proofs.YtpbahbigimnboaaDoor
