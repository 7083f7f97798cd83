/-
  The places that an append makes: those under its span's spots and those of its joins, each once. The spots of the peaks. The plain law.
-/
import Derived.Test.YtpbahbigimnboaaDoorJoins
import Derived.Test.YtpbahbigimnboaaDoorCover
namespace Go.Proofs.YtpbahbigimnboaaDoor
open Go.RowKit
set_option linter.unusedVariables false

/-- The peaks' spots are the span's from 0 on. -/
theorem high_chain {n : Nat} (hn : n ≤ 4611686018427387904) : ∀ c, c ≤ 63 → Chain (n / 2 ^ c * 2 ^ c) n ((highF c n).map fun d => (d, n / 2 ^ d - 1))
  | 0, _ => by show n / 2 ^ 0 * 2 ^ 0 = n; simp
  | c + 1, hc => by
    have ih := high_chain hn c (by omega)
    unfold highF
    split
    · rename_i hb
      have e : n / 2 ^ c - 1 + 1 = n / 2 ^ c := by
        generalize n / 2 ^ c = q at *
        omega
      refine ⟨peak_right hn (show c ≤ 62 by omega) hb, ?_, ?_⟩
      · rw [half_up]
        dsimp only
        congr 1
        generalize n / 2 ^ c = q at *
        omega
      · dsimp only
        rw [e]
        exact ih
    · rename_i hb
      rw [half_up, show n / 2 ^ c / 2 * 2 = n / 2 ^ c by generalize n / 2 ^ c = q at *; omega]
      exact ih
theorem fall_calm : ∀ (l : List Nat) (f : Nat → Nat), l.Pairwise (fun a b => b < a) → Calm (l.map fun d => (d, f d))
  | [], f, _ => trivial
  | [a], f, _ => trivial
  | a :: b :: l, f, h => by
    obtain ⟨h1, h2⟩ := List.pairwise_cons.1 h
    refine ⟨fun hs => ?_, fall_calm (b :: l) f h2⟩
    have := h1 b (List.Mem.head _)
    have e : a = b := hs.1
    omega
theorem high_fall (n : Nat) : ∀ c, (highF c n).Pairwise (fun a b => b < a)
  | 0 => List.Pairwise.nil
  | c + 1 => by
    have ih := high_fall n c
    unfold highF
    split
    · exact List.Pairwise.cons (fun d hd => highF_lt d hd) ih
    · exact ih
theorem tops_span {n : Nat} (hn : n ≤ 4611686018427387904) : (highF 63 n).map (fun d => (d, n / 2 ^ d - 1)) = spanL 0 n := by
  have c := high_chain hn 63 (by omega)
  rw [Nat.div_eq_of_lt (by omega : n < 2 ^ 63), Nat.zero_mul] at c
  exact calm_span _ _ _ hn c (fall_calm _ _ (high_fall n 63))
theorem peaks_span {n : Nat} (hn : n ≤ 4611686018427387904) : peaksL n = (spanL 0 n).map fun s => placeN s.1 s.2 := by
  unfold peaksL
  rw [← tops_span hn, peaksF_map, List.map_map]
  rfl

theorem base_node {h k : Nat} (hk : (k + 1) * 2 ^ h ≤ 9223372036854775808) : baseN h k = nodeN (k * 2 ^ h) := by
  have hp := Nat.two_pow_pos h
  rw [spot_end] at hk
  have h2 := ones_shift h k (by omega)
  unfold baseN nodeN
  rw [h2, Nat.pow_succ, ← Nat.mul_assoc, Nat.mul_comm (k * 2 ^ h)]
theorem node_tz {e : Nat} (h0 : e ≠ 0) (he : e ≤ 4611686018427387904) : nodeN e = nodeN (e - 1) + tzN e + 1 := by
  obtain ⟨t1, q, hq⟩ := tzN_spec (x := e) (by omega) h0
  generalize tzN e = t at *
  have hp := Nat.two_pow_pos t
  have hq1 : q < 9223372036854775808 := by
    have := Nat.le_mul_of_pos_left (2 * q + 1) hp
    omega
  have e1 : (2 * q + 1) * 2 ^ t = e := by rw [Nat.mul_comm]; exact hq.symm
  have o1 := ones_shift t (2 * q + 1) (by omega)
  have o2 := ones_fill t (2 * q) (by omega)
  rw [e1] at o1 o2
  rw [ones_odd hq1] at o1
  rw [ones_even hq1] at o2
  have l1 := ones_le e
  have l2 := ones_le (e - 1)
  unfold nodeN
  omega
theorem ups_place {e g : Nat} (h0 : e ≠ 0) (he : e ≤ 4611686018427387904) (hg : g ≤ tzN e) : placeN g (e / 2 ^ g - 1) = nodeN (e - 1) + g := by
  have m : e % 2 ^ g = 0 := (tz_mod (by omega)).2 (.inr hg)
  have hp := Nat.two_pow_pos g
  have e1 : e / 2 ^ g * 2 ^ g = e := Nat.div_mul_cancel (Nat.dvd_of_mod_eq_zero m)
  have q0 : e / 2 ^ g ≠ 0 := by
    intro h
    rw [h] at e1
    omega
  have e2 : (e / 2 ^ g - 1 + 1) * 2 ^ g = e := by
    rw [Nat.sub_add_cancel (Nat.pos_of_ne_zero q0), e1]
  have := place_leaf (h := g) (k := e / 2 ^ g - 1) (by omega)
  rw [e2] at this
  exact this

/-- How many of the spots stand over the place q, themselves among what is over; how many of them stand at it. -/
def cntS : List (Nat × Nat) → Nat → Nat
  | [], _ => 0
  | s :: l, q => (if baseN s.1 s.2 ≤ q ∧ q ≤ placeN s.1 s.2 then 1 else 0) + cntS l q
def cntJ : List (Nat × Nat) → Nat → Nat
  | [], _ => 0
  | s :: l, q => (if placeN s.1 s.2 = q then 1 else 0) + cntJ l q
theorem cntS_append (l m : List (Nat × Nat)) (q : Nat) : cntS (l ++ m) q = cntS l q + cntS m q := by
  induction l with
  | nil => show cntS m q = 0 + cntS m q; omega
  | cons s l ih => show _ + cntS (l ++ m) q = _ + cntS l q + _; rw [ih]; omega
theorem cntJ_append (l m : List (Nat × Nat)) (q : Nat) : cntJ (l ++ m) q = cntJ l q + cntJ m q := by
  induction l with
  | nil => show cntJ m q = 0 + cntJ m q; omega
  | cons s l ih => show _ + cntJ (l ++ m) q = _ + cntJ l q + _; rw [ih]; omega
theorem cntJ_ups {e q : Nat} (h0 : e ≠ 0) (he : e ≤ 4611686018427387904) : ∀ (m h : Nat), h + m ≤ tzN e → cntJ (upsL e h m) q = if nodeN (e - 1) + h < q ∧ q ≤ nodeN (e - 1) + h + m then 1 else 0
  | 0, h, _ => by
    rw [if_neg (by omega)]; rfl
  | m + 1, h, hm => by
    have ih := cntJ_ups (q := q) h0 he m (h + 1) (by omega)
    have pl := ups_place (g := h + 1) h0 he (by omega)
    show (if placeN (h + 1) (e / 2 ^ (h + 1) - 1) = q then 1 else 0) + cntJ (upsL e (h + 1) m) q = _
    rw [ih, pl]
    split <;> split <;> split <;> omega
theorem tiles : ∀ (f x : Nat) (r : List (Nat × Nat)) (b q : Nat), (spanL x b).length = f → x ≤ b → b ≤ 4611686018427387904 → Chain 0 x r.reverse → CalmR r →
    cntS (spanL x b) q + cntJ (madeR r (spanL x b)) q = if nodeN x ≤ q ∧ q < nodeN b then 1 else 0
  | 0, x, r, b, q, hf, hx, hb, c, k => by
    by_cases hlt : x < b
    · rw [spanL_go hlt hb] at hf
      simp at hf
    · obtain rfl : x = b := by omega
      rw [spanL_stop hlt, if_neg (by omega)]
      rfl
  | f + 1, x, r, b, q, hf, hx, hb, c, k => by
    by_cases hlt : x < b
    · obtain ⟨s1, s2, s3, s4⟩ := spanH_spec hlt hb
      have sc := span_chain hb hx
      rw [spanL_go hlt hb] at hf sc ⊢
      obtain ⟨rs, es, _⟩ := sc
      have ee : (x / 2 ^ spanH x b + 1) * 2 ^ spanH x b = x + 2 ^ spanH x b := by
        dsimp only at es
        rw [spot_end, es]
      have c2 : Chain 0 (x + 2 ^ spanH x b) ((spanH x b, x / 2 ^ spanH x b) :: r).reverse := by
        rw [List.reverse_cons, chain_append]
        exact ⟨x, c, rs, es, ee⟩
      obtain ⟨m1, m2⟩ := putR_made c2 k (by omega)
      have ih := tiles f (x + 2 ^ spanH x b) (putR r (spanH x b, x / 2 ^ spanH x b)).1 b q (by simpa using hf) (by omega) hb (putR_chain _ _ _ _ c2) (putR_calm _ _ k)
      have hp := Nat.two_pow_pos (spanH x b)
      have bn := base_node (h := spanH x b) (k := x / 2 ^ spanH x b) (by omega)
      dsimp only at es
      rw [es] at bn
      have pl := place_leaf (h := spanH x b) (k := x / 2 ^ spanH x b) (by omega)
      rw [ee] at pl
      have nt := node_tz (e := x + 2 ^ spanH x b) (by omega) (by omega)
      have cu := cntJ_ups (e := x + 2 ^ spanH x b) (q := q) (by omega) (by omega) (tzN (x + 2 ^ spanH x b) - spanH x b) (spanH x b) (by omega)
      have mono1 := nodeN_mono_le (show x ≤ x + 2 ^ spanH x b - 1 by omega)
      have mono2 := nodeN_mono_le (show x + 2 ^ spanH x b ≤ b by omega)
      show (if baseN (spanH x b) (x / 2 ^ spanH x b) ≤ q ∧ q ≤ placeN (spanH x b) (x / 2 ^ spanH x b) then 1 else 0) + cntS (spanL (x + 2 ^ spanH x b) b) q + cntJ ((putR r (spanH x b, x / 2 ^ spanH x b)).2 ++ madeR (putR r (spanH x b, x / 2 ^ spanH x b)).1 (spanL (x + 2 ^ spanH x b) b)) q = _
      rw [cntJ_append, m1]
      dsimp only at cu ⊢
      rw [cu, bn, pl]
      generalize cntS (spanL (x + 2 ^ spanH x b) b) q = A at *
      generalize cntJ (madeR (putR r (spanH x b, x / 2 ^ spanH x b)).1 (spanL (x + 2 ^ spanH x b) b)) q = B at *
      have e3 : nodeN (x + 2 ^ spanH x b - 1) + spanH x b + (tzN (x + 2 ^ spanH x b) - spanH x b) + 1 = nodeN (x + 2 ^ spanH x b) := by omega
      generalize nodeN (x + 2 ^ spanH x b - 1) = u at *
      generalize nodeN (x + 2 ^ spanH x b) = v at *
      generalize tzN (x + 2 ^ spanH x b) - spanH x b = t at *
      generalize spanH x b = h at *
      have : A + B = if v ≤ q ∧ q < nodeN b then 1 else 0 := ih
      clear ih cu
      split at this <;> split <;> split <;> split <;> omega
    · rw [spanL_stop hlt] at hf
      simp at hf
theorem tiles_all {n b : Nat} (hn : n ≤ b) (hb : b ≤ 4611686018427387904) (q : Nat) : cntS (spanL n b) q + cntJ (joinsL n b) q = if nodeN n ≤ q ∧ q < nodeN b then 1 else 0 := by
  rw [← joins_made hn hb]
  exact tiles _ n _ b q rfl hn hb (by rw [List.reverse_reverse]; exact span_chain (by omega) (Nat.zero_le _)) ((calm_reverse _).2 (by rw [List.reverse_reverse]; exact span_calm (by omega)))
theorem madeR_count : ∀ (l r : List (Nat × Nat)), (pileR r l).length + (madeR r l).length = r.length + l.length
  | [], r => rfl
  | s :: l, r => by
    have ih := madeR_count l (putR r s).1
    have := putR_count r s
    show (pileR (putR r s).1 l).length + ((putR r s).2 ++ madeR (putR r s).1 l).length = _
    rw [List.length_append, List.length_cons]
    omega
theorem joins_few {n b : Nat} (hn : n ≤ b) (hb : b ≤ 4611686018427387904) : (joinsL n b).length ≤ (spanL n b).length + (peaksL n).length := by
  have := madeR_count (spanL n b) (spanL 0 n).reverse
  rw [joins_made hn hb, List.length_reverse] at this
  rw [peaks_span (by omega), List.length_map]
  omega
/-- A join's spot is right, its place among the new ones. -/
theorem join_right {n b : Nat} (hb : b ≤ 4611686018427387904) {s : Nat × Nat} (h : s ∈ joinsL n b) : Right s.1 s.2 ∧ nodeN n ≤ placeN s.1 s.2 ∧ placeN s.1 s.2 < nodeN b := by
  obtain ⟨h1, ⟨h2, h3⟩, h4⟩ := (joinsL_mem n b s).1 h
  obtain ⟨g, k⟩ := s
  dsimp only at *
  subst h4
  have hp := Nat.two_pow_pos g
  have r : Right g (n / 2 ^ g) := by
    refine ⟨h1, ?_⟩
    have e2 : 2 ^ (62 - g) * 2 ^ g = 4611686018427387904 := by rw [← Nat.pow_add, show 62 - g + g = 62 by omega]
    rcases Nat.lt_or_ge (n / 2 ^ g) (2 ^ (62 - g)) with k | k
    · exact k
    · have := Nat.mul_le_mul_right (2 ^ g) (show 2 ^ (62 - g) + 1 ≤ n / 2 ^ g + 1 by omega)
      rw [Nat.add_mul, e2] at this
      omega
  have rb := right_bound r
  have pl := place_leaf (h := g) (k := n / 2 ^ g) (by omega)
  have pn := place_next (h := g) (k := n / 2 ^ g) (by omega)
  have m1 := nodeN_mono_le h3
  have h5 := Nat.div_add_mod n (2 ^ g)
  have h6 := Nat.mod_lt n hp
  rw [Nat.mul_comm] at h5
  have m2 := nodeN_mono_le (show n ≤ (n / 2 ^ g + 1) * 2 ^ g - 1 by rw [spot_end]; omega)
  exact ⟨r, by omega, by omega⟩
/-- Joins rise by their places. -/
theorem join_rise {n b : Nat} (hb : b ≤ 4611686018427387904) : (joinsL n b).Pairwise fun s t => placeN s.1 s.2 < placeN t.1 t.2 := by
  refine List.Pairwise.imp_of_mem ?_ (joinF_rise n b 63)
  intro s t hs ht hlt
  obtain ⟨s1, ⟨s2, s3⟩, s4⟩ := (joinsL_mem n b s).1 hs
  obtain ⟨t1, ⟨t2, t3⟩, t4⟩ := (joinsL_mem n b t).1 ht
  obtain ⟨rs, _⟩ := join_right hb hs
  obtain ⟨rt, _⟩ := join_right hb ht
  have bs := right_bound rs
  have bt := right_bound rt
  rw [place_leaf (by omega), place_leaf (by omega), s4, t4]
  have c := ceil_le s2 (mod_pow_of_le (Nat.mul_mod_left (n / 2 ^ t.1 + 1) (2 ^ t.1)) (Nat.le_of_lt hlt)) (by
    have h1 := Nat.div_add_mod n (2 ^ t.1)
    have h2 := Nat.mod_lt n (Nat.two_pow_pos t.1)
    rw [Nat.mul_comm] at h1
    rw [spot_end]
    omega)
  have := nodeN_mono_le (show (n / 2 ^ s.1 + 1) * 2 ^ s.1 - 1 ≤ (n / 2 ^ t.1 + 1) * 2 ^ t.1 - 1 by omega)
  omega
/-- Where the spots of a span stand, and where what is under them begins. -/
theorem span_places {a b : Nat} (hb : b ≤ 4611686018427387904) {l : List (Nat × Nat)} (c : Chain a b l) {s : Nat × Nat} (h : s ∈ l) : Right s.1 s.2 ∧ nodeN a ≤ baseN s.1 s.2 ∧ placeN s.1 s.2 < nodeN b ∧ baseN s.1 s.2 + (2 ^ (s.1 + 1) - 2) = placeN s.1 s.2 := by
  induction l generalizing a with
  | nil => cases h
  | cons t l ih =>
    have lt := chain_lt c
    obtain ⟨r, e, c2⟩ := c
    rcases List.mem_cons.1 h with rfl | h
    · have rb := right_bound r
      have le := chain_le _ _ _ c2
      have bn := base_node (h := s.1) (k := s.2) (by omega)
      have pn := place_next (h := s.1) (k := s.2) (by omega)
      have := nodeN_mono_le le
      rw [e] at bn
      exact ⟨r, by omega, by omega, (place_base _ _).symm⟩
    · obtain ⟨i1, i2, i3, i4⟩ := ih c2 h
      have := nodeN_mono_le (show a ≤ (t.2 + 1) * 2 ^ t.1 by rw [spot_end, e]; exact Nat.le_add_right _ _)
      exact ⟨i1, by omega, i3, i4⟩
/-- Heights that fall once fall on. -/
theorem span_falls {a b : Nat} {p q r : Nat × Nat} {l : List (Nat × Nat)} (c : Chain a b (p :: q :: r :: l)) (k : Calm (p :: q :: r :: l)) (h : q.1 < p.1) : r.1 < q.1 := by
  obtain ⟨rp, ep, c1⟩ := c
  have hlt := chain_lt c1
  have k1 := calm_tail k
  have c1' := c1
  obtain ⟨rq, eq, c2⟩ := c1
  have hlt2 := chain_lt c2
  rw [spot_end, eq] at hlt2
  have hx : (p.2 + 1) * 2 ^ p.1 % 2 ^ (q.1 + 1) = 0 := mod_pow_of_le (Nat.mul_mod_left _ _) h
  have p1 : 2 ^ (q.1 + 1) = 2 ^ q.1 + 2 ^ q.1 := by rw [Nat.pow_succ]; omega
  rcases Nat.lt_or_ge b ((p.2 + 1) * 2 ^ p.1 + 2 ^ (q.1 + 1)) with hb | hb
  · rcases Nat.lt_or_ge r.1 q.1 with g | g
    · exact g
    · have := pow_le_pow g
      omega
  · obtain ⟨t, l', e, ht⟩ := calm_low _ _ _ _ c1' k1 hx hb
    obtain ⟨rfl, _⟩ := List.cons.inj e
    omega
/-- Neighbours of one height, one behind the other, that have one half are siblings. -/
theorem half_sib {a b : Nat} {p q : Nat × Nat} {l : List (Nat × Nat)} (c : Chain a b (p :: q :: l)) (k : Calm (p :: q :: l)) (h : p.1 = q.1) : p.2 / 2 ≠ q.2 / 2 := by
  obtain ⟨rp, ep, rq, eq, _⟩ := c
  rw [h] at eq
  have e := Nat.eq_of_mul_eq_mul_right (Nat.two_pow_pos q.1) eq
  intro h2
  exact k.1 ⟨h, by omega, e⟩
end Go.Proofs.YtpbahbigimnboaaDoor
