/-
  What a list of spots lies over: the plain law; the walks of cut.Over and massifref4.Over.
-/
import Derived.Test.YtpbahbigimnboaaDoorPile
import Derived.Test.YtpbahbigimnboaaDoorSpots
import Derived.Test.YtpbahbigimnboaaDoorRefPlace
namespace Go.Proofs.YtpbahbigimnboaaDoor
open Go.RowKit
set_option linter.unusedVariables false

instance (h k : Nat) : Decidable (Right h k) := by unfold Right; infer_instance
/-- Where a chain that goes on at the leaf a ends. -/
def contF : Nat → List (Nat × Nat) → Option Nat
  | a, [] => some a
  | a, s :: l => if Right s.1 s.2 ∧ s.2 * 2 ^ s.1 = a then contF ((s.2 + 1) * 2 ^ s.1) l else none
def overL : List (Nat × Nat) → Option (Nat × Nat)
  | [] => none
  | s :: l => (contF (s.2 * 2 ^ s.1) (s :: l)).map fun b => (s.2 * 2 ^ s.1, b)
theorem contF_append : ∀ (l m : List (Nat × Nat)) (a : Nat), contF a (l ++ m) = (contF a l).bind fun b => contF b m
  | [], m, a => rfl
  | s :: l, m, a => by
    show (if _ then contF _ (l ++ m) else none) = (if _ then contF _ l else none).bind _
    by_cases h : Right s.1 s.2 ∧ s.2 * 2 ^ s.1 = a
    · rw [if_pos h, if_pos h, contF_append l m]
    · rw [if_neg h, if_neg h]; rfl
theorem contF_chain : ∀ (l : List (Nat × Nat)) (a b : Nat), contF a l = some b ↔ Chain a b l
  | [], a, b => ⟨fun h => Option.some.inj h, fun h => congrArg some h⟩
  | s :: l, a, b => by
    show (if _ then contF _ l else none) = some b ↔ Right s.1 s.2 ∧ s.2 * 2 ^ s.1 = a ∧ Chain _ b l
    by_cases h : Right s.1 s.2 ∧ s.2 * 2 ^ s.1 = a
    · rw [if_pos h, contF_chain l]
      exact ⟨fun c => ⟨h.1, h.2, c⟩, fun c => c.2.2⟩
    · rw [if_neg h]
      exact ⟨(fun c => by cases c), (fun c => absurd ⟨c.1, c.2.1⟩ h)⟩
theorem overL_chain {l : List (Nat × Nat)} {a b : Nat} : overL l = some (a, b) ↔ l ≠ [] ∧ Chain a b l := by
  cases l with
  | nil => exact ⟨(fun h => by cases h), (fun h => absurd rfl h.1)⟩
  | cons s l =>
    show Option.map _ (contF _ (s :: l)) = some (a, b) ↔ _
    rw [Option.map_eq_some_iff]
    constructor
    · rintro ⟨x, h1, h2⟩
      injection h2 with e1 e2
      subst e1 e2
      exact ⟨by simp, (contF_chain _ _ _).1 h1⟩
    · rintro ⟨_, c⟩
      have e := c.2.1
      exact ⟨b, by rw [e]; exact (contF_chain _ _ _).2 c, by rw [e]⟩
/-- What a list's first i spots lie over, as both programs keep it. -/
def OverAt (l : List (Nat × Nat)) (i f t : Nat) : Prop := (i = 0 ∧ f = 0 ∧ t = 0) ∨ (0 < i ∧ Chain f t (l.take i))
theorem over_step {l : List (Nat × Nat)} {i f t : Nat} {s : Nat × Nat} (h : OverAt l i f t) (hs : l[i]? = some s) (r : Right s.1 s.2) (e : 0 < i → s.2 * 2 ^ s.1 = t) :
    OverAt l (i + 1) (if i = 0 then s.2 * 2 ^ s.1 else f) ((s.2 + 1) * 2 ^ s.1) := by
  right
  refine ⟨by omega, ?_⟩
  rw [List.take_add_one, hs]
  rcases h with ⟨rfl, _, _⟩ | ⟨h0, c⟩
  · exact ⟨r, rfl, rfl⟩
  · rw [if_neg (by omega), Option.toList_some, chain_append]
    exact ⟨t, c, r, e h0, rfl⟩
theorem over_end {l : List (Nat × Nat)} {f t : Nat} (h : OverAt l l.length f t) : (l = [] ∧ f = 0 ∧ t = 0 ∧ overL l = none) ∨ (l ≠ [] ∧ overL l = some (f, t)) := by
  rcases h with ⟨h0, h1, h2⟩ | ⟨h0, c⟩
  · have : l = [] := List.eq_nil_of_length_eq_zero h0
    subst this
    exact .inl ⟨rfl, h1, h2, rfl⟩
  · rw [List.take_length] at c
    have hn : l ≠ [] := by rintro rfl; simp at h0
    exact .inr ⟨hn, overL_chain.2 ⟨hn, c⟩⟩
theorem over_fail {l : List (Nat × Nat)} {i f t : Nat} {s : Nat × Nat} (h : OverAt l i f t) (hs : l[i]? = some s) (bad : ¬ Right s.1 s.2 ∨ (0 < i ∧ s.2 * 2 ^ s.1 ≠ t)) : overL l = none := by
  cases ho : overL l with
  | none => rfl
  | some ab =>
    exfalso
    obtain ⟨a, b⟩ := ab
    obtain ⟨hn, c⟩ := overL_chain.1 ho
    rw [← List.take_append_drop i l, chain_append] at c
    obtain ⟨x, c1, c2⟩ := c
    have hd : l.drop i = s :: l.drop (i + 1) := by
      have hlt : i < l.length := (List.getElem?_eq_some_iff.1 hs).1
      rw [List.drop_eq_getElem_cons hlt]
      rw [List.getElem?_eq_getElem hlt] at hs
      rw [Option.some.inj hs]
    rw [hd] at c2
    obtain ⟨r, e, _⟩ := c2
    rcases bad with b1 | ⟨b1, b2⟩
    · exact b1 r
    · rcases h with ⟨h0, _⟩ | ⟨_, c3⟩
      · omega
      · have h1 := (contF_chain _ _ _).2 c1
        have h2 := (contF_chain _ _ _).2 c3
        have : a = f := by
          cases hl : l.take i with
          | nil =>
            have := congrArg List.length hl
            have hlt : i < l.length := (List.getElem?_eq_some_iff.1 hs).1
            rw [List.length_take, List.length_nil] at this
            omega
          | cons u m =>
            rw [hl] at c1 c3
            rw [← c1.2.1, ← c3.2.1]
        subst this
        rw [h1] at h2
        exact b2 (by rw [e, Option.some.inj h2])
/-- Both programs' answer. -/
def overV (l : List (Nat × Nat)) : Value := match overL l with
  | some (a, b) => .tuple #[.int .u64 (a : Int), .int .u64 (b : Int), .bool true]
  | none => .tuple #[.int .u64 0, .int .u64 0, .bool false]
theorem overV_none {l : List (Nat × Nat)} (h : overL l = none) : overV l = .tuple #[.int .u64 0, .int .u64 0, .bool false] := by unfold overV; rw [h]
theorem overV_some {l : List (Nat × Nat)} {a b : Nat} (h : overL l = some (a, b)) : overV l = .tuple #[.int .u64 (a : Int), .int .u64 (b : Int), .bool true] := by unfold overV; rw [h]
/-- Spots as Go's type has them. -/
def Small (l : List (Nat × Nat)) : Prop := ∀ s ∈ l, s.1 < 256 ∧ s.2 < 18446744073709551616

theorem under_no {h k : Nat} (hh : h < 256) (hk : k < 18446744073709551616) (r : ¬ Right h k) (w : World) :
    Calls Tryd.prog 29 #[.agg #[.int .u8 (h : Int), .int .u64 (k : Int)]] w fun e w' => e = .returned (.tuple #[.int .u64 0, .int .u64 0, .bool false]) ∧ Below w.heap.size w w' := by
  have P := Place_no hh hk r
  unfold spotV at P
  clear r
  go_enter Tryd.func29, Tryd.ntmps29
  go_wp2_with fail
  refine (P _).mono ?_
  rintro e w' ⟨rfl, q⟩
  have s := q.size
  go_wp2
  exact bodyPost_ret (v := .tuple #[.int .u64 0, .int .u64 0, .bool false]) (by simp [results, Tryd.results29, go_sem]) rfl ⟨rfl, ((Below.refl _ _).alloc (Nat.le_refl _) _).trans (q.mono (by simp))⟩
theorem under_yes {x y : Nat} (r : Right x y) (w : World) :
    Calls Tryd.prog 29 #[.agg #[.int .u8 (x : Int), .int .u64 (y : Int)]] w fun e w' => e = .returned (.tuple #[.int .u64 ((y * 2 ^ x : Nat) : Int), .int .u64 (((y + 1) * 2 ^ x : Nat) : Int), .bool true]) ∧ Below w.heap.size w w' := by
  have P := Place_yes r
  unfold spotV at P
  have b := right_bound r
  have kb := right_k r
  have h62 := r.1
  have b2 : y * 2 ^ x ≤ (y + 1) * 2 ^ x := Nat.mul_le_mul_right _ (by omega)
  obtain ⟨f, hf⟩ : ∃ f : Int, f = ((y * 2 ^ x : Nat) : Int) := ⟨_, rfl⟩
  obtain ⟨c, hc⟩ : ∃ c : Int, c = ((y + 1 : Nat) : Int) := ⟨_, rfl⟩
  obtain ⟨d, hd⟩ : ∃ d : Int, d = (((y + 1) * 2 ^ x : Nat) : Int) := ⟨_, rfl⟩
  have A0 : IntKind.u64.wrap ((y : Int) * 2 ^ x) = f := by
    have e : (y : Int) * 2 ^ x = ((y * 2 ^ x : Nat) : Int) := by rw [cast_pow, ← Int.natCast_mul]
    rw [e, hf, wrap_u64]
    omega
  have A1 : IntKind.u64.wrap ((y : Int) + 1) = c := by
    rw [hc, wrap_u64]; omega
  have A2 : IntKind.u64.wrap (c * 2 ^ x) = d := by
    have e : c * 2 ^ x = (((y + 1) * 2 ^ x : Nat) : Int) := by rw [hc, cast_pow, ← Int.natCast_mul]
    rw [e, hd, wrap_u64]
    omega
  have HF := Lib.hid hf
  have HD := Lib.hid hd
  have i1 : (x : Int) ≤ 62 := by omega
  clear hf hd hc b b2 r kb
  go_enter Tryd.func29, Tryd.ntmps29
  go_wp2_with fail
  refine (P _).mono ?_
  rintro e w' ⟨rfl, q⟩
  have s := q.size
  have c0 : w'.cell? ⟨w.heap.size, 0, none⟩ = some (.int .u8 (x : Int)) := by
    rw [q.cell (p := ⟨w.heap.size, 0, none⟩) (by simp), cell_of_row _ _ _ _ _ _ (heap_alloc_new _ _)]; rfl
  have c1 : w'.cell? ⟨w.heap.size, 1, none⟩ = some (.int .u64 (y : Int)) := by
    rw [q.cell (p := ⟨w.heap.size, 1, none⟩) (by simp), cell_of_row _ _ _ _ _ _ (heap_alloc_new _ _)]; rfl
  go_wp2_with fail
  go_region
  go_wp2
  exact bodyPost_ret (v := .tuple #[.int .u64 f, .int .u64 d, .bool true]) (by simp [results, Tryd.results29, go_sem]) rfl ⟨by rw [HF.out, HD.out], (((Below.refl _ _).alloc (Nat.le_refl _) _).trans (q.mono (by simp))).drew⟩
theorem refRight_any {h k : Nat} (hh : h < 256) (hk : k < 18446744073709551616) (w : World) :
    Calls Tryd.prog 30 #[.agg #[.int .u8 (h : Int), .int .u64 (k : Int)]] w fun e w' => e = .returned (.bool (decide (Right h k))) ∧ Below w.heap.size w w' := by
  by_cases r : Right h k
  · have P := refPlace_yes r
    rw [decide_eq_true r]
    unfold spotV at P
    clear r
    go_enter Tryd.func30, Tryd.ntmps30
    go_wp2_with fail
    refine (P _).mono ?_
    rintro e w' ⟨rfl, q⟩
    have s := q.size
    go_wp2
    go_ret
    exact ⟨rfl, ((Below.refl _ _).alloc (Nat.le_refl _) _).trans (q.mono (by simp))⟩
  · have P := refPlace_no hh hk r
    rw [decide_eq_false r]
    unfold spotV at P
    clear r
    go_enter Tryd.func30, Tryd.ntmps30
    go_wp2_with fail
    refine (P _).mono ?_
    rintro e w' ⟨rfl, q⟩
    have s := q.size
    go_wp2
    go_ret
    exact ⟨rfl, ((Below.refl _ _).alloc (Nat.le_refl _) _).trans (q.mono (by simp))⟩
theorem refEnds_yes {x y : Nat} (r : Right x y) (w : World) :
    Calls Tryd.prog 31 #[.agg #[.int .u8 (x : Int), .int .u64 (y : Int)]] w fun e w' => e = .returned (.tuple #[.int .u64 ((y * 2 ^ x : Nat) : Int), .int .u64 (((y + 1) * 2 ^ x : Nat) : Int)]) ∧ Below w.heap.size w w' := by
  have b := right_bound r
  have kb := right_k r
  have h62 := r.1
  obtain ⟨t, ht⟩ : ∃ t, 2 ^ x = t := ⟨_, rfl⟩
  have HT := Lib.hid ht
  rw [ht] at b
  rw [ht]
  have b2 : y * t ≤ (y + 1) * t := Nat.mul_le_mul_right _ (by omega)
  obtain ⟨f, hf⟩ : ∃ f : Int, f = ((y * t : Nat) : Int) := ⟨_, rfl⟩
  obtain ⟨c, hc⟩ : ∃ c : Int, c = ((y + 1 : Nat) : Int) := ⟨_, rfl⟩
  obtain ⟨d, hd⟩ : ∃ d : Int, d = (((y + 1) * t : Nat) : Int) := ⟨_, rfl⟩
  have A0 : IntKind.u64.wrap ((y : Int) * (t : Int)) = f := by
    rw [hf, ← Int.natCast_mul, wrap_u64]
    omega
  have A1 : IntKind.u64.wrap ((y : Int) + 1) = c := by
    rw [hc, wrap_u64]; omega
  have A2 : IntKind.u64.wrap (c * (t : Int)) = d := by
    rw [hc, ← Int.natCast_mul, hd, wrap_u64]
    omega
  have HF := Lib.hid hf
  have HD := Lib.hid hd
  have h63 : x ≤ 63 := by omega
  clear hf hd hc b b2 r kb ht
  go_enter Tryd.func31, Tryd.ntmps31
  go_wp2_with fail
  refine (power_any h63 _).mono ?_
  rintro e w2 ⟨rfl, rfl⟩
  rw [HT.out]
  go_wp2_with fail
  go_region
  go_wp2
  go_ret2
  exact ⟨by rw [HF.out, HD.out]; rfl, ((Below.refl _ _).alloc (Nat.le_refl _) _).drew⟩
theorem box_below {B : Nat} {w wr w' : World} (h : Below B w wr) (hB : B ≤ wr.heap.size) {o : Obj} (q : Below (wr.alloc o).heap.size (wr.alloc o) w') : Below B w w' := (h.alloc hB o).trans (q.mono (by simp; omega))
set_option maxHeartbeats 1000000 in
theorem Over_any {l : List (Nat × Nat)} {v : Value} (w : World) (hv : SpotsOf w v l) (sm : Small l) (hl : l.length ≤ 4000) :
    Calls Tryd.prog 19 #[v] w fun e w' => e = .returned (overV l) ∧ Below w.heap.size w w' := by
  obtain ⟨a, ca, rfl, a1, a2, a3, a4⟩ := hv.form
  have A3 := Lib.hid a3
  have A4 := Lib.hid a4
  have SM := Lib.hid sm
  have li : (l.length : Int) ≤ 4000 := by omega
  generalize hB : w.heap.size = B
  have HB := Lib.hid hB
  clear a3 a4 a2 a1 sm hv hB
  go_enter Tryd.func19, Tryd.ntmps19
  go_wp2
  go_loopw [5, 6, 14] (fun f t i wr => ∃ (j x y : Nat), j ≤ l.length ∧ i = .int .i64 (j : Int) ∧ f = .int .u64 (x : Int) ∧ t = .int .u64 (y : Int) ∧ OverAt l j x y ∧ Below B w wr) (fun _ _ i _ => l.length - (intOf i).toNat)
  case atStart => exact ⟨0, 0, 0, Nat.zero_le _, rfl, rfl, rfl, .inl ⟨rfl, rfl, rfl⟩, Below.refl _ _⟩
  case round =>
    obtain ⟨j, x, y, hj, rfl, rfl, rfl, hov, hbel⟩ := hrel
    have hBw : B ≤ wr.heap.size := by rw [← HB.out]; exact hbel.size
    by_cases hlt : j < l.length
    · obtain ⟨⟨h, k⟩, hs⟩ : ∃ s, l[j]? = some s := ⟨l[j], List.getElem?_eq_getElem hlt⟩
      obtain ⟨b, off, rfl⟩ := A3.out j _ hs
      obtain ⟨c1, c2⟩ := A4.out b off rfl j _ hs
      have hb0 := World.block_lt_of_cell? _ _ c1
      have hb : b < B := by rw [← HB.out]; exact hb0
      clear hb0
      rw [← hbel.cell (p := ⟨b, off + j * 2, none⟩) hb] at c1
      rw [← hbel.cell (p := ⟨b, off + j * 2 + 1, none⟩) hb] at c2
      obtain ⟨sh, sk⟩ := SM.out _ (List.mem_of_getElem? hs)
      dsimp only at c1 c2 sh sk
      have ji : (j : Int) < (l.length : Int) := by omega
      have HOV := Lib.hid hov
      have HS := Lib.hid hs
      clear hov hs hb
      by_cases r : Right h k
      · have U := under_yes r
        have R := Lib.hid r
        have rb := right_bound r
        have rk := right_k r
        have h62 := r.1
        clear r
        obtain ⟨p, hp⟩ : ∃ p, k * 2 ^ h = p := ⟨_, rfl⟩
        obtain ⟨q, hq⟩ : ∃ q, (k + 1) * 2 ^ h = q := ⟨_, rfl⟩
        rw [hp, hq] at U
        have HP := Lib.hid hp
        have HQ := Lib.hid hq
        clear hp hq rb
        by_cases h0 : 0 < j
        · have j0 : (0 : Int) < (j : Int) := by omega
          have j1 : ((j : Int) == 0) = false := by rw [beq_eq_false_iff_ne]; omega
          by_cases e : p = y
          · have pe : ((p : Int) != (y : Int)) = false := by rw [bne_eq_false_iff_eq]; omega
            have NX := Lib.hid (over_step HOV.out HS.out R.out (fun _ => by dsimp only; rw [HP.out, e]))
            clear e
            go_wp2_with fail
            refine (U _).mono ?_
            rintro e w' ⟨rfl, q⟩
            have bel := box_below hbel hBw q
            clear q
            go_wp2
            go_roundw
            case rel =>
              have := NX.out
              (try dsimp only at this)
              rw [if_neg (by omega), HQ.out] at this
              exact ⟨j + 1, x, _, by omega, by go_num, rfl, rfl, this, bel⟩
            case measure => simp [intOf]; omega
          · have pe : ((p : Int) != (y : Int)) = true := by rw [bne_iff_ne]; omega
            have NO := Lib.hid (overV_none (over_fail HOV.out HS.out (.inr ⟨h0, by dsimp only; rw [HP.out]; exact e⟩)))
            clear e
            go_wp2_with fail
            refine (U _).mono ?_
            rintro e w' ⟨rfl, q⟩
            have bel := box_below hbel hBw q
            clear q
            go_wp2
            go_ret3
            exact ⟨by rw [NO.out]; rfl, bel⟩
        · obtain rfl : j = 0 := by omega
          rw [Nat.zero_mul, Nat.add_zero] at c1 c2
          have NX := Lib.hid (over_step HOV.out HS.out R.out (fun h => by omega))
          go_wp2_with fail
          refine (U _).mono ?_
          rintro e w' ⟨rfl, q⟩
          have bel := box_below hbel hBw q
          clear q
          go_wp2
          go_roundw
          case rel =>
            have := NX.out
            (try dsimp only at this)
            rw [if_pos trivial, HP.out, HQ.out] at this
            exact ⟨1, p, _, by omega, rfl, rfl, rfl, this, bel⟩
          case measure => simp [intOf]; omega
      · have U := under_no sh sk r
        have NO := Lib.hid (overV_none (over_fail HOV.out HS.out (.inl r)))
        clear r
        go_wp2_with fail
        refine (U _).mono ?_
        rintro e w' ⟨rfl, q⟩
        have bel := box_below hbel hBw q
        clear q
        go_wp2
        go_ret3
        exact ⟨by rw [NO.out]; rfl, bel⟩
    · obtain rfl : j = l.length := by omega
      rcases over_end hov with ⟨rfl, rfl, rfl, ho⟩ | ⟨hn, ho⟩
      · have NO := Lib.hid (overV_none ho)
        clear ho hov
        go_wp2
        go_ret3
        exact ⟨by rw [NO.out]; rfl, hbel⟩
      · have NO := Lib.hid (overV_some ho)
        have lp : 0 < l.length := List.length_pos_iff.2 hn
        have lpi : (0 : Int) < (l.length : Int) := by omega
        clear ho hov hn
        go_wp2
        go_ret3
        exact ⟨by rw [NO.out]; rfl, hbel⟩
set_option maxHeartbeats 1000000 in
theorem refOver_any {l : List (Nat × Nat)} {v : Value} (w : World) (hv : SpotsOf w v l) (sm : Small l) (hl : l.length ≤ 4000) :
    Calls Tryd.prog 20 #[v] w fun e w' => e = .returned (overV l) ∧ Below w.heap.size w w' := by
  obtain ⟨a, ca, rfl, a1, a2, a3, a4⟩ := hv.form
  have A3 := Lib.hid a3
  have A4 := Lib.hid a4
  have SM := Lib.hid sm
  have li : (l.length : Int) ≤ 4000 := by omega
  generalize hB : w.heap.size = B
  have HB := Lib.hid hB
  clear a3 a4 a2 a1 sm hv hB
  by_cases hn : l.length = 0
  · have hn2 : l = [] := List.eq_nil_of_length_eq_zero hn
    subst hn2
    have NO := Lib.hid (overV_none (l := []) rfl)
    go_enter Tryd.func20, Tryd.ntmps20
    go_wp2
    go_ret3
    exact ⟨by rw [NO.out]; rfl, Below.refl _ _⟩
  have lp : 0 < l.length := by omega
  have lz : ((l.length : Int) == 0) = false := by rw [beq_eq_false_iff_ne]; omega
  clear hn
  go_enter Tryd.func20, Tryd.ntmps20
  go_wp2
  go_loopw [5, 6, 7] (fun f t i wr => ∃ (j x y : Nat), j ≤ l.length ∧ i = .int .i64 (j : Int) ∧ f = .int .u64 (x : Int) ∧ t = .int .u64 (y : Int) ∧ OverAt l j x y ∧ Below B w wr) (fun _ _ i _ => l.length - (intOf i).toNat)
  case atStart => exact ⟨0, 0, 0, Nat.zero_le _, rfl, rfl, rfl, .inl ⟨rfl, rfl, rfl⟩, Below.refl _ _⟩
  case round =>
    obtain ⟨j, x, y, hj, rfl, rfl, rfl, hov, hbel⟩ := hrel
    have hBw : B ≤ wr.heap.size := by rw [← HB.out]; exact hbel.size
    by_cases hlt : j < l.length
    · obtain ⟨⟨h, k⟩, hs⟩ : ∃ s, l[j]? = some s := ⟨l[j], List.getElem?_eq_getElem hlt⟩
      obtain ⟨b, off, rfl⟩ := A3.out j _ hs
      obtain ⟨c1, c2⟩ := A4.out b off rfl j _ hs
      have hb0 := World.block_lt_of_cell? _ _ c1
      have hb : b < B := by rw [← HB.out]; exact hb0
      clear hb0
      obtain ⟨sh, sk⟩ := SM.out _ (List.mem_of_getElem? hs)
      dsimp only at c1 c2 sh sk
      have ji : (j : Int) < (l.length : Int) := by omega
      have HOV := Lib.hid hov
      have HS := Lib.hid hs
      have RR := refRight_any sh sk
      clear hov hs
      have C1 := Lib.hid c1
      have C2 := Lib.hid c2
      have d1 : wr.cell? ⟨b, off + j * 2, none⟩ = some (.int .u8 (h : Int)) := by rw [hbel.cell (p := ⟨b, off + j * 2, none⟩) hb]; exact c1
      have d2 : wr.cell? ⟨b, off + j * 2 + 1, none⟩ = some (.int .u64 (k : Int)) := by rw [hbel.cell (p := ⟨b, off + j * 2 + 1, none⟩) hb]; exact c2
      by_cases r : Right h k
      · rw [decide_eq_true r] at RR
        have U := refEnds_yes r
        have R := Lib.hid r
        have rk := right_k r
        have h62 := r.1
        clear r
        obtain ⟨p, hp⟩ : ∃ p, k * 2 ^ h = p := ⟨_, rfl⟩
        obtain ⟨q, hq⟩ : ∃ q, (k + 1) * 2 ^ h = q := ⟨_, rfl⟩
        rw [hp, hq] at U
        have HP := Lib.hid hp
        have HQ := Lib.hid hq
        clear hp hq
        by_cases h0 : 0 < j
        · have j0 : (0 : Int) < (j : Int) := by omega
          have j1 : ((j : Int) == 0) = false := by rw [beq_eq_false_iff_ne]; omega
          by_cases e : p = y
          · have pe : ((p : Int) != (y : Int)) = false := by rw [bne_eq_false_iff_eq]; omega
            have NX := Lib.hid (over_step HOV.out HS.out R.out (fun _ => by dsimp only; rw [HP.out, e]))
            clear e c1 c2
            go_wp2_with fail
            refine (RR _).mono ?_
            rintro e w5 ⟨rfl, q5⟩
            have bel5 := hbel.trans (q5.mono hBw)
            have c1 : w5.cell? ⟨b, off + j * 2, none⟩ = some (.int .u8 (h : Int)) := by rw [bel5.cell (p := ⟨b, off + j * 2, none⟩) hb]; exact C1.out
            have c2 : w5.cell? ⟨b, off + j * 2 + 1, none⟩ = some (.int .u64 (k : Int)) := by rw [bel5.cell (p := ⟨b, off + j * 2 + 1, none⟩) hb]; exact C2.out
            have z5 := q5.size
            clear q5
            go_wp2_with fail
            refine (U _).mono ?_
            rintro e w' ⟨rfl, q⟩
            have bel := bel5.trans (q.mono (by omega))
            clear q
            go_wp2
            go_roundw
            case rel =>
              have := NX.out
              (try dsimp only at this)
              rw [if_neg (by omega), HQ.out] at this
              exact ⟨j + 1, x, _, by omega, by go_num, rfl, rfl, this, bel⟩
            case measure => simp [intOf]; omega
          · have pe : ((p : Int) != (y : Int)) = true := by rw [bne_iff_ne]; omega
            have NO := Lib.hid (overV_none (over_fail HOV.out HS.out (.inr ⟨h0, by dsimp only; rw [HP.out]; exact e⟩)))
            clear e c1 c2
            go_wp2_with fail
            refine (RR _).mono ?_
            rintro e w5 ⟨rfl, q5⟩
            have bel5 := hbel.trans (q5.mono hBw)
            have c1 : w5.cell? ⟨b, off + j * 2, none⟩ = some (.int .u8 (h : Int)) := by rw [bel5.cell (p := ⟨b, off + j * 2, none⟩) hb]; exact C1.out
            have c2 : w5.cell? ⟨b, off + j * 2 + 1, none⟩ = some (.int .u64 (k : Int)) := by rw [bel5.cell (p := ⟨b, off + j * 2 + 1, none⟩) hb]; exact C2.out
            have z5 := q5.size
            clear q5
            go_wp2_with fail
            refine (U _).mono ?_
            rintro e w' ⟨rfl, q⟩
            have bel := bel5.trans (q.mono (by omega))
            clear q
            go_wp2
            go_ret3
            exact ⟨by rw [NO.out]; rfl, bel⟩
        · obtain rfl : j = 0 := by omega
          rw [Nat.zero_mul, Nat.add_zero] at d1 d2
          have NX := Lib.hid (over_step HOV.out HS.out R.out (fun h => by omega))
          clear c1 c2
          go_wp2_with fail
          refine (RR _).mono ?_
          rintro e w5 ⟨rfl, q5⟩
          have bel5 := hbel.trans (q5.mono hBw)
          have c1 : w5.cell? ⟨b, off, none⟩ = some (.int .u8 (h : Int)) := by rw [bel5.cell (p := ⟨b, off, none⟩) hb]; have := C1.out; rwa [Nat.zero_mul, Nat.add_zero] at this
          have c2 : w5.cell? ⟨b, off + 1, none⟩ = some (.int .u64 (k : Int)) := by rw [bel5.cell (p := ⟨b, off + 1, none⟩) hb]; have := C2.out; rwa [Nat.zero_mul, Nat.add_zero] at this
          have z5 := q5.size
          clear q5
          go_wp2_with fail
          refine (U _).mono ?_
          rintro e w' ⟨rfl, q⟩
          have bel := bel5.trans (q.mono (by omega))
          clear q
          go_wp2
          go_roundw
          case rel =>
            have := NX.out
            (try dsimp only at this)
            rw [if_pos trivial, HP.out, HQ.out] at this
            exact ⟨1, p, _, by omega, rfl, rfl, rfl, this, bel⟩
          case measure => simp [intOf]; omega
      · rw [decide_eq_false r] at RR
        have NO := Lib.hid (overV_none (over_fail HOV.out HS.out (.inl r)))
        clear r
        go_wp2_with fail
        refine (RR _).mono ?_
        rintro e w' ⟨rfl, q⟩
        have bel := hbel.trans (q.mono hBw)
        clear q
        go_wp2
        go_ret3
        exact ⟨by rw [NO.out]; rfl, bel⟩
    · obtain rfl : j = l.length := by omega
      rcases over_end hov with ⟨rfl, rfl, rfl, ho⟩ | ⟨hn, ho⟩
      · exact absurd lp (by simp)
      · have NO := Lib.hid (overV_some ho)
        clear ho hov hn
        go_wp2
        go_ret3
        exact ⟨by rw [NO.out]; rfl, hbel⟩
end Go.Proofs.YtpbahbigimnboaaDoor
