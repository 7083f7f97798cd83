/-
  The joins of an append: what putting a span's spots onto the pile makes. The plain law.
-/
import Derived.Test.YtpbahbigimnboaaDoorPile
namespace Go.Proofs.YtpbahbigimnboaaDoor
open Go.RowKit
set_option linter.unusedVariables false

/-- The height of the last spot over the leaves up to e, from 0 on, is that of e's lowest set bit. -/
theorem last_height {r : List (Nat × Nat)} {s : Nat × Nat} {e : Nat} (c : Chain 0 e (s :: r).reverse) (k : CalmR (s :: r)) (he : e ≤ 4611686018427387904) : s.1 = tzN e := by
  have c0 := c
  rw [List.reverse_cons, chain_append] at c
  obtain ⟨x, c1, rs, es, eb⟩ := c
  have eb : (s.2 + 1) * 2 ^ s.1 = e := eb
  have hp := Nat.two_pow_pos s.1
  have e0 : e ≠ 0 := by
    have := Nat.le_mul_of_pos_right (s.2 + 1) hp
    omega
  have tm := fun h => tz_mod (x := e) (h := h) (by omega)
  have h1 : s.1 ≤ tzN e := by
    rcases (tm s.1).1 (by rw [← eb]; exact Nat.mul_mod_left _ _) with h | h
    · exact absurd h e0
    · exact h
  have h2 := (tm (tzN e)).2 (.inr (Nat.le_refl _))
  have h3 : 2 ^ tzN e ≤ e := by
    generalize tzN e = t at *
    obtain ⟨q, hq⟩ := Nat.dvd_of_mod_eq_zero h2
    have : q ≠ 0 := by rintro rfl; omega
    rw [hq]
    exact Nat.le_mul_of_pos_right _ (by omega)
  obtain ⟨t, r', e2, h4⟩ := calm_high (s :: r) 0 e (tzN e) c0 k h2 (by omega)
  obtain ⟨rfl, _⟩ := List.cons.inj e2
  omega
/-- The parents that end at e, of heights above h, n of them. -/
def upsL (e : Nat) : Nat → Nat → List (Nat × Nat)
  | _, 0 => []
  | h, n + 1 => (h + 1, e / 2 ^ (h + 1) - 1) :: upsL e (h + 1) n
theorem putR_top : ∀ (r : List (Nat × Nat)) (s : Nat × Nat) (a e : Nat), Chain a e (s :: r).reverse → ∃ t r', (putR r s).1 = t :: r' ∧ s.1 ≤ t.1 ∧ (putR r s).2 = upsL e s.1 (t.1 - s.1)
  | [], s, a, e, c => by
    rw [putR_nil]
    exact ⟨s, [], rfl, Nat.le_refl _, by rw [Nat.sub_self]; rfl⟩
  | t :: r, s, a, e, c => by
    by_cases hs : Sib t s
    · rw [putR_up r hs]
      rw [List.reverse_cons, List.reverse_cons, List.append_assoc, chain_append] at c
      obtain ⟨x, h1, rt, et, rs, es, he⟩ := c
      have he : (s.2 + 1) * 2 ^ s.1 = e := he
      obtain ⟨u1, u2, u3⟩ := sib_up hs rt rs
      obtain ⟨v, r', h2, h3, h4⟩ := putR_top r (upS t) a e (by
        rw [List.reverse_cons, chain_append]
        exact ⟨x, h1, u1, by rw [u2, et], by rw [u3]; exact he⟩)
      have e1 : (upS t).1 = s.1 + 1 := by
        have := hs.1
        unfold upS
        dsimp only
        omega
      have e2 : e / 2 ^ (s.1 + 1) - 1 = (upS t).2 := by
        rw [← he, ← u3, e1, Nat.mul_div_cancel _ (Nat.two_pow_pos _)]
        omega
      refine ⟨v, r', h2, by omega, ?_⟩
      dsimp only
      rw [h4, e1, show v.1 - s.1 = v.1 - (s.1 + 1) + 1 by omega]
      show _ = (s.1 + 1, e / 2 ^ (s.1 + 1) - 1) :: _
      rw [e2, ← e1]
    · rw [putR_no r hs]
      exact ⟨s, t :: r, rfl, Nat.le_refl _, by rw [Nat.sub_self]; rfl⟩
/-- What is made when the next spot of a span is put onto the pile of all ahead of it. -/
theorem putR_made {r : List (Nat × Nat)} {s : Nat × Nat} {e : Nat} (c : Chain 0 e (s :: r).reverse) (k : CalmR r) (he : e ≤ 4611686018427387904) : (putR r s).2 = upsL e s.1 (tzN e - s.1) ∧ s.1 ≤ tzN e := by
  obtain ⟨t, r', h1, h2, h3⟩ := putR_top r s 0 e c
  have c1 := putR_chain r s 0 e c
  have k1 := putR_calm r s k
  rw [h1] at c1 k1
  have := last_height c1 k1 he
  rw [h3, ← this]
  exact ⟨rfl, h2⟩
theorem upsL_mem : ∀ (n e h : Nat) (x : Nat × Nat), x ∈ upsL e h n ↔ h < x.1 ∧ x.1 ≤ h + n ∧ x.2 = e / 2 ^ x.1 - 1
  | 0, e, h, x => ⟨(fun h => by cases h), (fun ⟨a, b, _⟩ => by omega)⟩
  | n + 1, e, h, x => by
    unfold upsL
    rw [List.mem_cons, upsL_mem n e (h + 1) x]
    constructor
    · rintro (rfl | ⟨a, b, c⟩)
      · exact ⟨Nat.lt_succ_self h, (by show h + 1 ≤ h + (n + 1); omega), rfl⟩
      · exact ⟨by omega, by omega, c⟩
    · rintro ⟨a, b, c⟩
      by_cases hh : x.1 = h + 1
      · left
        obtain ⟨x1, x2⟩ := x
        dsimp only at *
        subst hh c
        rfl
      · right
        exact ⟨by omega, by omega, c⟩
/-- Rising by height. -/
def Rise (l : List (Nat × Nat)) : Prop := l.Pairwise fun a b => a.1 < b.1
theorem upsL_rise : ∀ (n e h : Nat), Rise (upsL e h n)
  | 0, e, h => List.Pairwise.nil
  | n + 1, e, h => List.Pairwise.cons (fun x hx => ((upsL_mem n e (h + 1) x).1 hx).1) (upsL_rise n e (h + 1))
theorem rise_ext : ∀ (l m : List (Nat × Nat)), Rise l → Rise m → (∀ x, x ∈ l ↔ x ∈ m) → l = m
  | [], [], _, _, _ => rfl
  | [], b :: m, _, _, h => absurd ((h b).2 (List.Mem.head _)) (by simp)
  | a :: l, [], _, _, h => absurd ((h a).1 (List.Mem.head _)) (by simp)
  | a :: l, b :: m, hl, hm, h => by
    obtain ⟨la, ll⟩ := List.pairwise_cons.1 hl
    obtain ⟨mb, mm⟩ := List.pairwise_cons.1 hm
    have hab : a = b := by
      rcases List.mem_cons.1 ((h a).1 (List.Mem.head _)) with e | e
      · exact e
      · rcases List.mem_cons.1 ((h b).2 (List.Mem.head _)) with e' | e'
        · exact e'.symm
        · have := mb a e
          have := la b e'
          omega
    subst hab
    rw [rise_ext l m ll mm fun x => ?_]
    constructor
    · intro hx
      rcases List.mem_cons.1 ((h x).1 (List.Mem.tail _ hx)) with e | e
      · subst e; have := la x hx; omega
      · exact e
    · intro hx
      rcases List.mem_cons.1 ((h x).2 (List.Mem.tail _ hx)) with e | e
      · subst e; have := mb x hx; omega
      · exact e
/-- Of the heights below c those of which a node over the leaves n - 1 and n is there with y leaves. -/
def isJoin (n y g : Nat) : Prop := n % 2 ^ g ≠ 0 ∧ (n / 2 ^ g + 1) * 2 ^ g ≤ y
instance (n y g : Nat) : Decidable (isJoin n y g) := by unfold isJoin; infer_instance
def joinF (n y : Nat) : Nat → List (Nat × Nat)
  | 0 => []
  | c + 1 => if isJoin n y c then joinF n y c ++ [(c, n / 2 ^ c)] else joinF n y c
/-- The joins of n leaves and the ones behind them up to y. -/
def joinsL (n y : Nat) : List (Nat × Nat) := joinF n y 63
theorem joinF_mem (n y : Nat) : ∀ (c : Nat) (x : Nat × Nat), x ∈ joinF n y c ↔ x.1 < c ∧ isJoin n y x.1 ∧ x.2 = n / 2 ^ x.1
  | 0, x => ⟨(fun h => by cases h), (fun ⟨a, _⟩ => by omega)⟩
  | c + 1, x => by
    have ih := joinF_mem n y c x
    unfold joinF
    split
    · rename_i hj
      rw [List.mem_append, ih, List.mem_singleton]
      constructor
      · rintro (⟨a, b, d⟩ | rfl)
        · exact ⟨by omega, b, d⟩
        · exact ⟨by simp, hj, rfl⟩
      · rintro ⟨a, b, d⟩
        by_cases h : x.1 = c
        · right
          obtain ⟨x1, x2⟩ := x
          dsimp only at *
          subst h d
          rfl
        · left; exact ⟨by omega, b, d⟩
    · rename_i hj
      rw [ih]
      constructor
      · rintro ⟨a, b, d⟩; exact ⟨by omega, b, d⟩
      · rintro ⟨a, b, d⟩
        refine ⟨?_, b, d⟩
        rcases Nat.lt_or_ge x.1 c with h | h
        · exact h
        · have e : x.1 = c := by omega
          rw [e] at b
          exact absurd b hj
theorem joinF_rise (n y : Nat) : ∀ c, Rise (joinF n y c)
  | 0 => List.Pairwise.nil
  | c + 1 => by
    have ih := joinF_rise n y c
    unfold joinF
    split
    · refine List.pairwise_append.2 ⟨ih, List.pairwise_singleton _ _, fun a ha b hb => ?_⟩
      rw [List.mem_singleton] at hb
      subst hb
      exact ((joinF_mem n y c a).1 ha).1
    · exact ih
theorem joinF_len (n y : Nat) : ∀ c, (joinF n y c).length ≤ c
  | 0 => Nat.le_refl _
  | c + 1 => by
    have ih := joinF_len n y c
    unfold joinF
    split
    · simp; omega
    · omega
theorem joinsL_mem (n y : Nat) (x : Nat × Nat) : x ∈ joinsL n y ↔ x.1 ≤ 62 ∧ isJoin n y x.1 ∧ x.2 = n / 2 ^ x.1 := by
  unfold joinsL
  rw [joinF_mem]
  exact ⟨fun ⟨a, b, c⟩ => ⟨by omega, b, c⟩, fun ⟨a, b, c⟩ => ⟨by omega, b, c⟩⟩
theorem joinsL_start (n : Nat) : joinsL n n = [] := by
  cases h : joinsL n n with
  | nil => rfl
  | cons x l =>
    exfalso
    obtain ⟨_, ⟨_, h2⟩, _⟩ := (joinsL_mem n n x).1 (by rw [h]; exact List.Mem.head _)
    have h3 := Nat.div_add_mod n (2 ^ x.1)
    have h4 := Nat.mod_lt n (Nat.two_pow_pos x.1)
    rw [Nat.mul_comm] at h3
    rw [Nat.add_mul, Nat.one_mul] at h2
    omega
/-- The least multiple of 2^g that is above n, n being none, is not above any other. -/
theorem ceil_le {n g x : Nat} (hn : n % 2 ^ g ≠ 0) (hx : x % 2 ^ g = 0) (h : n ≤ x) : (n / 2 ^ g + 1) * 2 ^ g ≤ x := by
  obtain ⟨q, rfl⟩ := Nat.dvd_of_mod_eq_zero hx
  have hp := Nat.two_pow_pos g
  have h1 := Nat.div_add_mod n (2 ^ g)
  have h2 : n / 2 ^ g < q := by
    rcases Nat.lt_or_ge (n / 2 ^ g) q with h | h
    · exact h
    · have := Nat.mul_le_mul_left (2 ^ g) h
      omega
  rw [Nat.mul_comm]
  exact Nat.mul_le_mul_left _ h2
/-- No tree of the span's leaves begins ahead of x and ends behind it. -/
def Shut (n b x : Nat) : Prop := ∀ g y, y % 2 ^ g = 0 → n ≤ y → y < x → y + 2 ^ g ≤ b → y + 2 ^ g ≤ x
theorem mult_gap {g x y : Nat} (hx : x % 2 ^ g = 0) (hy : y % 2 ^ g = 0) (h : y < x) : y + 2 ^ g ≤ x := by
  obtain ⟨q, rfl⟩ := Nat.dvd_of_mod_eq_zero hx
  obtain ⟨r, rfl⟩ := Nat.dvd_of_mod_eq_zero hy
  have h1 : r < q := Nat.lt_of_mul_lt_mul_left h
  have := Nat.mul_le_mul_left (2 ^ g) (show r + 1 ≤ q from h1)
  rw [Nat.mul_add, Nat.mul_one] at this
  exact this
theorem add_pow_mod {x h g : Nat} (hx : x % 2 ^ g = 0) (hg : g ≤ h) : (x + 2 ^ h) % 2 ^ g = 0 := by
  rw [Nat.add_mod, hx, mod_pow_of_le (a := 2 ^ h) (h := h) (by rw [Nat.mod_self]) hg]
  simp
theorem shut_step {n b x : Nat} (hs : Shut n b x) (hx : x < b) (hb : b ≤ 4611686018427387904) : Shut n b (x + 2 ^ spanH x b) := by
  obtain ⟨s1, s2, s3, s4⟩ := spanH_spec hx hb
  intro g y hy h1 h2 h3
  by_cases hyx : y < x
  · have := hs g y hy h1 hyx h3
    omega
  · rcases Nat.lt_or_ge (spanH x b) g with hg | hg
    · exfalso
      have hy' := mod_pow_of_le hy (Nat.le_of_lt hg)
      have exy : y = x := by
        rcases Nat.lt_or_ge x y with h | h
        · have := mult_gap hy' s1 h; omega
        · omega
      subst exy
      have p := pow_le_pow (show spanH y b + 1 ≤ g from hg)
      have h62 : spanH y b < 62 := by
        rcases Nat.lt_or_ge (spanH y b) 62 with h | h
        · exact h
        · have e3 : spanH y b = 62 := by omega
          rw [e3] at p
          have e63 : (2 : Nat) ^ (62 + 1) = 9223372036854775808 := by decide
          omega
      have := (s4 _ h62).1 ⟨mod_pow_of_le hy hg, by omega⟩
      omega
    · exact mult_gap (add_pow_mod (mod_pow_of_le s1 hg) hg) hy h2
theorem joins_step {n b x : Nat} (hs : Shut n b x) (hn : n ≤ x) (hx : x < b) (hb : b ≤ 4611686018427387904) :
    joinsL n (x + 2 ^ spanH x b) = joinsL n x ++ upsL (x + 2 ^ spanH x b) (spanH x b) (tzN (x + 2 ^ spanH x b) - spanH x b) := by
  obtain ⟨s1, s2, s3, s4⟩ := spanH_spec hx hb
  have hp := Nat.two_pow_pos (spanH x b)
  generalize hh : spanH x b = h at *
  generalize he : x + 2 ^ h = e at *
  have e0 : e ≠ 0 := by omega
  have tm := fun g => tz_mod (x := e) (h := g) (by omega)
  have tze : h ≤ tzN e := by
    rcases (tm h).1 (by rw [← he]; exact add_pow_mod s1 (Nat.le_refl _)) with k | k
    · exact absurd k e0
    · exact k
  have t62 : tzN e ≤ 62 := by
    obtain ⟨q, hq⟩ := Nat.dvd_of_mod_eq_zero ((tm (tzN e)).2 (.inr (Nat.le_refl _)))
    rcases Nat.lt_or_ge 62 (tzN e) with k | k
    · exfalso
      have p := pow_le_pow (show 63 ≤ tzN e from k)
      have e63 : (2 : Nat) ^ 63 = 9223372036854775808 := by decide
      have q0 : 0 < q := by
        rcases Nat.eq_zero_or_pos q with z | z
        · rw [z] at hq; omega
        · exact z
      have := Nat.le_mul_of_pos_right (2 ^ tzN e) q0
      omega
    · exact k
  -- the new ones
  have key : ∀ g, h < g → g ≤ tzN e → n % 2 ^ g ≠ 0 ∧ (n / 2 ^ g + 1) * 2 ^ g = e := by
    intro g hg hgt
    have eg : e % 2 ^ g = 0 := (tm g).2 (.inr hgt)
    have hpg := Nat.two_pow_pos g
    have pg : 2 ^ h < 2 ^ g := Nat.pow_lt_pow_right (by decide) hg
    have below : e < n + 2 ^ g := by
      rcases Nat.lt_or_ge e (n + 2 ^ g) with k | k
      · exact k
      · exfalso
        obtain ⟨q, hq⟩ := Nat.dvd_of_mod_eq_zero eg
        have q0 : 0 < q := by
          rcases Nat.eq_zero_or_pos q with z | z
          · rw [z] at hq; omega
          · exact z
        have my : (e - 2 ^ g) % 2 ^ g = 0 := by
          rw [hq]
          obtain ⟨r, rfl⟩ : ∃ r, q = r + 1 := ⟨q - 1, by omega⟩
          rw [Nat.mul_add, Nat.mul_one, Nat.add_sub_cancel]
          exact Nat.mul_mod_right _ _
        have := hs g (e - 2 ^ g) my (by omega) (by omega) (by omega)
        omega
    have nz : n % 2 ^ g ≠ 0 := by
      intro hz
      have h1 : n < e := by omega
      have := mult_gap eg hz h1
      omega
    have c1 := ceil_le nz eg (by omega)
    have h1 := Nat.div_add_mod n (2 ^ g)
    rw [Nat.mul_comm] at h1
    refine ⟨nz, ?_⟩
    rcases Nat.lt_or_ge ((n / 2 ^ g + 1) * 2 ^ g) e with k | k
    · have := mult_gap eg (Nat.mul_mod_left (n / 2 ^ g + 1) (2 ^ g)) k
      have h2 := Nat.mod_lt n hpg
      rw [Nat.add_mul, Nat.one_mul] at this
      omega
    · omega
  have key2 : ∀ g, g ≤ 62 → isJoin n e g → ¬ isJoin n x g → h < g ∧ g ≤ tzN e := by
    rintro g hg ⟨j1, j2⟩ hno
    have hc : x < (n / 2 ^ g + 1) * 2 ^ g := by
      rcases Nat.lt_or_ge x ((n / 2 ^ g + 1) * 2 ^ g) with k | k
      · exact k
      · exact absurd ⟨j1, k⟩ hno
    have hgh : h < g := by
      rcases Nat.lt_or_ge h g with k | k
      · exact k
      · have := ceil_le j1 (mod_pow_of_le s1 k) hn
        omega
    have m : (n / 2 ^ g + 1) * 2 ^ g % 2 ^ h = 0 := mod_pow_of_le (Nat.mul_mod_left _ (2 ^ g)) (Nat.le_of_lt hgh)
    have := mult_gap m s1 hc
    have ee : (n / 2 ^ g + 1) * 2 ^ g = e := by omega
    refine ⟨hgh, ?_⟩
    rcases (tm g).1 (by rw [← ee]; exact Nat.mul_mod_left _ _) with k | k
    · exact absurd k e0
    · exact k
  refine rise_ext _ _ (joinF_rise _ _ _) ?_ fun z => ?_
  · refine List.pairwise_append.2 ⟨joinF_rise _ _ _, upsL_rise _ _ _, fun a ha c hc => ?_⟩
    obtain ⟨a1, ⟨a2, a3⟩, a4⟩ := (joinsL_mem n x a).1 ha
    obtain ⟨c1, c2, c3⟩ := (upsL_mem _ _ _ c).1 hc
    obtain ⟨k1, k2⟩ := key c.1 c1 (by omega)
    rcases Nat.lt_or_ge a.1 c.1 with k | k
    · exact k
    · exfalso
      -- the multiple of the greater power is one of the smaller, too
      have := ceil_le k1 (mod_pow_of_le (Nat.mul_mod_left (n / 2 ^ a.1 + 1) (2 ^ a.1)) k) (by
        have h1 := Nat.div_add_mod n (2 ^ a.1)
        have h2 := Nat.mod_lt n (Nat.two_pow_pos a.1)
        rw [Nat.mul_comm] at h1
        rw [Nat.add_mul, Nat.one_mul]
        omega)
      omega
  · rw [List.mem_append, joinsL_mem, joinsL_mem, upsL_mem]
    constructor
    · rintro ⟨a, b', c⟩
      by_cases k : isJoin n x z.1
      · exact .inl ⟨a, k, c⟩
      · obtain ⟨k1, k2⟩ := key2 z.1 a b' k
        obtain ⟨k3, k4⟩ := key z.1 k1 k2
        refine .inr ⟨k1, by omega, ?_⟩
        rw [c, ← k4, Nat.mul_div_cancel _ (Nat.two_pow_pos _), Nat.add_sub_cancel]
    · rintro (⟨a, ⟨b1, b2⟩, c⟩ | ⟨a, b', c⟩)
      · exact ⟨a, ⟨b1, by omega⟩, c⟩
      · obtain ⟨k3, k4⟩ := key z.1 a (by omega)
        refine ⟨by omega, ⟨k3, by omega⟩, ?_⟩
        rw [c, ← k4, Nat.mul_div_cancel _ (Nat.two_pow_pos _), Nat.add_sub_cancel]
/-- The parents that come of putting spots onto a pile, one behind the other. -/
def madeR : List (Nat × Nat) → List (Nat × Nat) → List (Nat × Nat)
  | _, [] => []
  | r, s :: l => (putR r s).2 ++ madeR (putR r s).1 l
theorem made_joins : ∀ (f x : Nat) (r : List (Nat × Nat)) (n b : Nat), (spanL x b).length = f → Shut n b x → n ≤ x → x ≤ b → b ≤ 4611686018427387904 → Chain 0 x r.reverse → CalmR r → joinsL n x ++ madeR r (spanL x b) = joinsL n b
  | 0, x, r, n, b, hf, hs, hn, hx, hb, c, k => by
    by_cases hlt : x < b
    · rw [spanL_go hlt hb] at hf
      simp at hf
    · obtain rfl : x = b := by omega
      rw [spanL_stop hlt]
      show _ ++ [] = _
      rw [List.append_nil]
  | f + 1, x, r, n, b, hf, hs, hn, hx, hb, c, k => by
    by_cases hlt : x < b
    · obtain ⟨s1, s2, s3, s4⟩ := spanH_spec hlt hb
      have sc := span_chain hb hx
      rw [spanL_go hlt hb] at hf sc ⊢
      obtain ⟨rs, es, _⟩ := sc
      have ee : (x / 2 ^ spanH x b + 1) * 2 ^ spanH x b = x + 2 ^ spanH x b := by
        dsimp only at es
        rw [spot_end, es]
      have c2 : Chain 0 (x + 2 ^ spanH x b) ((spanH x b, x / 2 ^ spanH x b) :: r).reverse := by
        rw [List.reverse_cons, chain_append]
        exact ⟨x, c, rs, es, ee⟩
      obtain ⟨m1, m2⟩ := putR_made c2 k (by omega)
      have ih := made_joins f (x + 2 ^ spanH x b) (putR r (spanH x b, x / 2 ^ spanH x b)).1 n b (by simpa using hf) (shut_step hs hlt hb) (by omega) (by omega) hb (putR_chain _ _ _ _ c2) (putR_calm _ _ k)
      show joinsL n x ++ (_ ++ madeR _ _) = _
      rw [m1, ← List.append_assoc, ← joins_step hs hn hlt hb]
      exact ih
    · rw [spanL_stop hlt] at hf
      simp at hf
/-- The joins that the program makes are the reference's. -/
theorem joins_made {n b : Nat} (hn : n ≤ b) (hb : b ≤ 4611686018427387904) : madeR (spanL 0 n).reverse (spanL n b) = joinsL n b := by
  have := made_joins _ n (spanL 0 n).reverse n b rfl (fun g y _ h1 h2 _ => by omega) (Nat.le_refl _) hn hb (by rw [List.reverse_reverse]; exact span_chain (by omega) (Nat.zero_le _)) ((calm_reverse _).2 (by rw [List.reverse_reverse]; exact span_calm (by omega)))
  rw [joinsL_start, List.nil_append] at this
  exact this
end Go.Proofs.YtpbahbigimnboaaDoor
