/-
  The walk of cut.Joins.
-/
import Derived.Test.YtpbahbigimnboaaDoorJoins
import Derived.Test.YtpbahbigimnboaaDoorPut
import Derived.Test.YtpbahbigimnboaaDoorSpots
namespace Go.Proofs.YtpbahbigimnboaaDoor
open Go.RowKit
set_option linter.unusedVariables false

theorem put_span {x b : Nat} (hx : x < b) (hb : b ≤ 4611686018427387904) : (putR (spanL 0 x).reverse (spanH x b, x / 2 ^ spanH x b)).1.reverse = spanL 0 (x + 2 ^ spanH x b) ∧
    (∀ n, Shut n b x → n ≤ x → joinsL n (x + 2 ^ spanH x b) = joinsL n x ++ (putR (spanL 0 x).reverse (spanH x b, x / 2 ^ spanH x b)).2) := by
  obtain ⟨s1, s2, s3, s4⟩ := spanH_spec hx hb
  have sc := span_chain hb (Nat.le_of_lt hx)
  rw [spanL_go hx hb] at sc
  obtain ⟨rs, es, _⟩ := sc
  have ee : (x / 2 ^ spanH x b + 1) * 2 ^ spanH x b = x + 2 ^ spanH x b := by
    dsimp only at es
    rw [spot_end, es]
  have c0 : Chain 0 x (spanL 0 x).reverse.reverse := by rw [List.reverse_reverse]; exact span_chain (by omega) (Nat.zero_le _)
  have k0 : CalmR (spanL 0 x).reverse := (calm_reverse _).2 (by rw [List.reverse_reverse]; exact span_calm (by omega))
  have c2 : Chain 0 (x + 2 ^ spanH x b) ((spanH x b, x / 2 ^ spanH x b) :: (spanL 0 x).reverse).reverse := by
    rw [List.reverse_cons, chain_append]
    exact ⟨x, c0, rs, es, ee⟩
  refine ⟨calm_span _ _ _ (by omega) (putR_chain _ _ _ _ c2) ((calm_reverse _).1 (putR_calm _ _ k0)), fun n hs hn => ?_⟩
  rw [joins_step hs hn hx hb, (putR_made c2 k0 (by omega)).1]
theorem chain_right : ∀ (l : List (Nat × Nat)) (a b : Nat), Chain a b l → ∀ s ∈ l, Right s.1 s.2
  | [], _, _, _, s, h => by cases h
  | t :: l, a, b, ⟨r, _, c⟩, s, h => by
    rcases List.mem_cons.1 h with rfl | h
    · exact r
    · exact chain_right l _ _ c s h
theorem right_small {h k : Nat} (r : Right h k) : h ≤ 62 ∧ k ≤ 4611686018427387904 := ⟨r.1, Nat.le_of_lt (right_k r)⟩
theorem span_small {a b : Nat} (hb : b ≤ 4611686018427387904) (h : a ≤ b) : ∀ s, s ∈ (spanL a b).reverse → s.1 ≤ 62 ∧ s.2 ≤ 4611686018427387904 := fun s hs =>
  right_small (chain_right _ _ _ (span_chain hb h) s (List.mem_reverse.1 hs))

theorem touch_below {B pb : Nat} {R : Option Nat} {w W W' : World} (h : Touch pb R W W') (hpb : B ≤ pb) (hR : ∀ c, R = some c → B ≤ c) (hb : Below B w W) (hB : B ≤ W.heap.size) : Below B w W' :=
  ⟨h.os.trans hb.os, h.tape.trans hb.tape, h.output.trans hb.output, Nat.le_trans hb.size h.size, fun i hi => by
    rw [h.block i (by omega) (by omega) (fun e => by have := hR i e.symm; omega)]
    exact hb.block i hi⟩
theorem own_touch {B pb n : Nat} {R : Option Nat} {W W' : World} {v : Value} {xs : List Value} (h : Touch pb R W W') (own : W.ownsRow B 28 2 v n xs) (h1 : v.ownBlock ≠ some pb) (h2 : ∀ c, R = some c → v.ownBlock ≠ some c) : W'.ownsRow B 28 2 v n xs := by
  refine ⟨own.1, own.2.imp id ?_⟩
  rintro ⟨g, cap, cur, hv, hg, hh, rest⟩
  subst hv
  exact ⟨g, cap, cur, rfl, hg, by rw [h.block g (lt_of_heap hh) (fun e => h1 (by rw [← e]; rfl)) (fun e => h2 g e.symm rfl)]; exact hh, rest⟩

structure JnAt (n b B pb : Nat) (vS : Value) (w : World) (x : Nat) (pv v : Value) (wr : World) : Prop where
  pile : PileAt B pb wr pv (spanL 0 x)
  made : wr.ownsRow B 28 2 v (joinsL n x).length (spotC (joinsL n x))
  span : wr.ownsRow B 28 2 vS (spanL n b).length (spotC (spanL n b))
  below : Below B w wr
  apv : ∀ c, pv.ownBlock = some c → v.ownBlock ≠ some c ∧ vS.ownBlock ≠ some c
  avb : v.ownBlock ≠ some pb
  asb : vS.ownBlock ≠ some pb
  avs : ∀ c, v.ownBlock = some c → vS.ownBlock ≠ some c
theorem jn_round {n b B pb x e : Nat} {vS : Value} {w wr w2 w3 : World} {pv pv' v v2 : Value} {o : Obj} {M : List (Nat × Nat)} (J : JnAt n b B pb vS w x pv v wr) (hpb : B ≤ pb) (hBw : B ≤ wr.heap.size)
    (P2 : PileAt B pb w2 pv' (spanL 0 e)) (T : Touch pb pv.ownBlock (wr.alloc o) w2) (hp : pv'.ownBlock = pv.ownBlock ∨ ∃ c, pv'.ownBlock = some c ∧ (wr.alloc o).heap.size ≤ c)
    (own3 : w3.ownsRow B 28 2 v2 ((joinsL n x).length + M.length) (spotC (joinsL n x) ++ spotC M)) (hg : w2.grownBy w3 v.ownBlock) (hv : v2.ownBlock = v.ownBlock ∨ v2.ownBlock = some w2.heap.size)
    (hM : joinsL n e = joinsL n x ++ M) : JnAt n b B pb vS w e pv' v2 w3 := by
  obtain ⟨j1, j2, j3, j4, j5, j6, j7, j8⟩ := J
  have plt := j1.lt
  have sz : (wr.alloc o).heap.size = wr.heap.size + 1 := by simp
  have t1 := T.size
  have vlt : ∀ c, v.ownBlock = some c → B ≤ c ∧ c < wr.heap.size := fun c hc => j2.lt c hc
  have slt : ∀ c, vS.ownBlock = some c → B ≤ c ∧ c < wr.heap.size := fun c hc => j3.lt c hc
  have plt' : ∀ c, pv'.ownBlock = some c → B ≤ c ∧ c < w2.heap.size := fun c hc => P2.own.lt c hc
  have p_v : ∀ c, pv'.ownBlock = some c → v.ownBlock ≠ some c ∧ vS.ownBlock ≠ some c := fun c hc => by
    rcases hp with h | ⟨d, h, hd⟩
    · exact j5 c (by rw [← h]; exact hc)
    · rw [h] at hc
      have e := Option.some.inj hc
      exact ⟨fun h' => by have := (vlt c h').2; omega, fun h' => by have := (slt c h').2; omega⟩
  have own2S := own_touch T (j3.alloc o) j7 (fun c hc => (j5 c hc).2)
  have nb : ∀ {u : Value}, (∀ c, v.ownBlock = some c → u.ownBlock ≠ some c) → u.ownBlock = none ∨ u.ownBlock ≠ v.ownBlock := fun {u} h => by
    cases hb : u.ownBlock with
    | none => exact .inl rfl
    | some c => exact .inr fun e => h c e.symm hb
  refine ⟨⟨?_, P2.own.kept hg (nb fun c hc h' => (p_v c h').1 hc), P2.apart⟩, ?_, own2S.kept hg (nb j8), ?_, fun c hc => ⟨?_, (p_v c hc).2⟩, ?_, j7, fun c hc => ?_⟩
  · rw [hg.block pb P2.lt (fun e => j6 e.symm)]
    exact P2.heap
  · rw [hM, List.length_append, spotC_append]
    exact own3
  · exact (touch_below T hpb (fun c hc => (j1.own.lt c hc).1) (j4.alloc hBw o) (by omega)).grown hg (by omega) fun c hc => (vlt c hc).1
  · rcases hv with h | h
    · rw [h]; exact (p_v c hc).1
    · intro h'
      rw [h] at h'
      have := Option.some.inj h'
      have := (plt' c hc).2
      omega
  · rcases hv with h | h
    · rw [h]; exact j6
    · intro h'
      rw [h] at h'
      have := Option.some.inj h'
      omega
  · rcases hv with h | h
    · exact j8 c (by rw [← h]; exact hc)
    · rw [h] at hc
      have := Option.some.inj hc
      intro h'
      have := (slt c h').2
      omega
theorem span_at {n b x j : Nat} (hb : b ≤ 4611686018427387904) (hd : (spanL n b).drop j = spanL x b) (hlt : j < (spanL n b).length) :
    x < b ∧ (spanL n b)[j]? = some (spanH x b, x / 2 ^ spanH x b) ∧ (spanL n b).drop (j + 1) = spanL (x + 2 ^ spanH x b) b ∧ spanH x b ≤ 62 ∧ x / 2 ^ spanH x b ≤ 4611686018427387904 ∧ x + 2 ^ spanH x b ≤ b := by
  have hx : x < b := by
    rcases Nat.lt_or_ge x b with g | g
    · exact g
    · exfalso
      rw [spanL_stop (Nat.not_lt.2 g)] at hd
      have := congrArg List.length hd
      rw [List.length_drop, List.length_nil] at this
      omega
  obtain ⟨s1, s2, s3, _⟩ := spanH_spec hx hb
  rw [spanL_go hx hb] at hd
  refine ⟨hx, ?_, ?_, s3, Nat.le_trans (Nat.div_le_self _ _) (by omega), by omega⟩
  · have := congrArg (fun l => l[0]?) hd
    rw [List.getElem?_drop] at this
    exact this
  · have := congrArg (List.drop 1) hd
    rw [List.drop_drop] at this
    exact this
def JnRel (n b B pb : Nat) (vS : Value) (w : World) (v i : Value) (wr : World) : Prop :=
  ∃ (x j : Nat) (pv : Value), n ≤ x ∧ x ≤ b ∧ j ≤ (spanL n b).length ∧ i = .int .i64 (j : Int) ∧ (spanL n b).drop j = spanL x b ∧ Shut n b x ∧ JnAt n b B pb vS w x pv v wr
theorem cutJoins_no {n k : Nat} (hk : k < 18446744073709551616) (h : 4611686018427387904 < n + k) (w : World) :
    Calls Tryd.prog 12 #[.int .u64 n, .int .u64 k] w fun e w' => e = .returned (.slice none 0 0) ∧ w = w' := by
  by_cases h1 : 4611686018427387904 < k
  · have i0 : (4611686018427387904 : Int) < (k : Int) := by omega
    go_enter Tryd.func12, Tryd.ntmps12
    go_wp2
    go_ret
    exact ⟨rfl, rfl⟩
  · have i0 : decide ((4611686018427387904 : Int) < (k : Int)) = false := decide_eq_false (by omega)
    have i1 : (k : Int) ≤ 4611686018427387904 := by omega
    have i2 : (4611686018427387904 : Int) - (k : Int) < (n : Int) := by omega
    have i3 : (0 : Int) ≤ 4611686018427387904 - (k : Int) := by omega
    clear h1 h hk
    go_enter Tryd.func12, Tryd.ntmps12
    go_wp2
    go_ret
    exact ⟨rfl, rfl⟩
theorem made_few {x b : Nat} (hx : x < b) (hb : b ≤ 4611686018427387904) {P M : List (Nat × Nat)} (hP : (putR (spanL 0 x).reverse (spanH x b, x / 2 ^ spanH x b)).2 = M) : M.length ≤ 124 := by
  have h1 := putR_len (spanL 0 x).reverse (spanH x b, x / 2 ^ spanH x b)
  have h2 := spanL_124 (a := 0) (b := x) (by omega)
  rw [List.length_reverse] at h1
  rw [← hP]
  omega
set_option maxHeartbeats 1000000 in
theorem cutJoins_yes {n k : Nat} (h : n + k ≤ 4611686018427387904) (w : World) (T : TabAt w) :
    Calls Tryd.prog 12 #[.int .u64 n, .int .u64 k] w fun e w' => ∃ v, e = .returned v ∧ w'.ownsRow w.heap.size 28 2 v (joinsL n (n + k)).length (spotC (joinsL n (n + k))) ∧ Below w.heap.size w w' := by
  obtain ⟨b, hb⟩ : ∃ b, n + k = b := ⟨_, rfl⟩
  rw [hb] at h ⊢
  have eb : (b : Int) = (n : Int) + (k : Int) := by omega
  have nb : n ≤ b := by omega
  have S0 := cutSpan_yes (a := 0) (b := n) (by omega) (by omega) w T
  have S1 := fun w1 => cutSpan_yes (a := n) (b := b) (by omega) h w1
  simp only [eb] at S1
  have J0 := Lib.hid (joinsL_start n)
  have a4 : (n : Int) + (k : Int) ≤ 4611686018427387904 := by omega
  have a5 : (k : Int) ≤ 4611686018427387904 := by omega
  have a6 : (n : Int) ≤ 4611686018427387904 - (k : Int) := by omega
  have a1 : decide ((4611686018427387904 : Int) < (k : Int)) = false := decide_eq_false (by omega)
  have a2 : decide ((4611686018427387904 : Int) - (k : Int) < (n : Int)) = false := decide_eq_false (by omega)
  have a3 : (0 : Int) ≤ 4611686018427387904 - (k : Int) := by omega
  have L124 := spanL_124 (a := n) h
  clear hb eb
  generalize hB : w.heap.size = B at *
  have HB := Lib.hid hB
  have TT := Lib.hid T
  clear hB T
  go_enter Tryd.func12, Tryd.ntmps12
  go_wp2_with fail
  refine S0.mono ?_
  rintro e w1 ⟨v0, rfl, own0, q0⟩
  obtain ⟨p0, cp0, rfl, _⟩ := own_shape own0
  go_wp2_with fail
  generalize hW : w1.alloc _ = w2
  have z1 : w1.heap.size + 1 = w2.heap.size := by rw [← hW]; simp
  have hBw1 : B ≤ w1.heap.size := by have := q0.size; have := HB.out; omega
  have q2 : Below B w w2 := by rw [← hW]; exact q0.alloc hBw1 _
  have P0 : PileAt B w1.heap.size w2 (.slice p0 (spanL 0 n).length cp0) (spanL 0 n) := by
    rw [← hW]
    refine ⟨heap_alloc_new _ _, own0.alloc _, fun e => ?_⟩
    have := (own0.lt _ e).2
    omega
  have plt0 : ∀ c, (Value.slice p0 (spanL 0 n).length cp0).ownBlock = some c → c < w1.heap.size := fun c hc => (own0.lt c hc).2
  have PP := Lib.hid (And.intro P0 plt0)
  clear hW P0 own0 plt0
  refine (S1 w2 (TT.out.below (by rw [HB.out]; exact q2))).mono ?_
  rintro e w3 ⟨vS, rfl, ownS, q3⟩
  have sizes : B ≤ w2.heap.size ∧ w2.heap.size ≤ w3.heap.size := ⟨by omega, q3.size⟩
  have JN : JnAt n b B w1.heap.size vS w n (.slice p0 (spanL 0 n).length cp0) (.slice none 0 0) w3 := by
    obtain ⟨P0, pl⟩ := PP.out
    refine ⟨P0.below q3, by rw [J0.out]; exact World.ownsRow_nil _ _ _ _, own_mono ownS sizes.1, q2.trans (q3.mono sizes.1), fun c hc => ⟨by simp [Value.ownBlock], fun hs => ?_⟩, by simp [Value.ownBlock], fun hs => ?_, fun c hc => by simp [Value.ownBlock] at hc⟩
    · have := pl c hc
      have := (ownS.lt c hs).1
      omega
    · have := (ownS.lt _ hs).1
      omega
  obtain ⟨pS, cS, rfl, _⟩ := own_shape ownS
  have hpb : B ≤ w1.heap.size := hBw1
  generalize w1.heap.size = pb at *
  have JJ := Lib.hid JN
  clear JN ownS q2 q3 q0 PP S1 S0
  go_wp2
  go_loopw [6, 25] (fun v i wr => JnRel n b B pb (.slice pS (spanL n b).length cS) w v i wr) (fun _ i _ => (spanL n b).length - (intOf i).toNat)
  case atStart => exact ⟨n, 0, _, Nat.le_refl _, nb, Nat.zero_le _, rfl, rfl, (fun g y _ h1 h2 _ => by omega), JJ.out⟩
  case round =>
    obtain ⟨x, j, pv, hnx, hxb, hj, rfl, hdrop, hsh, J⟩ := hrel
    have hBw : B ≤ wr.heap.size := by have := J.pile.lt; omega
    by_cases hlt : j < (spanL n b).length
    · obtain ⟨hx, hjs, hnext, s3, q62, s2⟩ := span_at h hdrop hlt
      obtain ⟨ps1, ps2⟩ := put_span hx h
      have psm := ps2 n hsh hnx
      have shn := shut_step hsh hx h
      have few := putR_len (spanL 0 x).reverse (spanH x b, x / 2 ^ spanH x b)
      have l0 := spanL_124 (a := 0) (b := x) (Nat.le_trans hxb h)
      rw [List.length_reverse] at few
      have small := span_small (a := 0) (b := x) (Nat.le_trans hxb h) (Nat.zero_le _)
      have jl : (joinsL n x).length ≤ 63 := joinF_len n x 63
      have ownS := J.span
      obtain ⟨a, cap, e0, hs⟩ := own_shape ownS
      obtain ⟨g, e1, _, hg, _, cells⟩ := hs (Nat.lt_of_le_of_lt (Nat.zero_le _) hlt)
      injection e0 with e2 e3 e4
      rw [e1] at e2
      subst e2 e4
      have ji : (j : Int) < ((spanL n b).length : Int) := by omega
      have li : ((spanL n b).length : Int) ≤ 124 := by omega
      obtain ⟨t1, t2⟩ := spotC_get _ j _ hjs
      have c1 := cells _ _ t1
      have c2 := cells _ _ t2
      rw [Nat.mul_comm] at c1 c2
      dsimp only at c1 c2
      have PA := J.pile.below ((Below.refl _ _).alloc (Nat.le_refl _) (.cells #[.int .u8 (spanH x b : Int), .int .u64 ((x / 2 ^ spanH x b : Nat) : Int)] 28 (0, 0)))
      have PUT := put_any (B := B) (pb := pb) (w := wr.alloc (.cells #[.int .u8 (spanH x b : Int), .int .u64 ((x / 2 ^ spanH x b : Nat) : Int)] 28 (0, 0))) (pv := pv) (r := (spanL 0 x).reverse) (s := (spanH x b, x / 2 ^ spanH x b)) (by rw [List.reverse_reverse]; exact PA) (by simp; omega) small (by omega) q62 (by rw [List.length_reverse]; omega)
      rw [ps1] at PUT
      generalize hM : (putR (spanL 0 x).reverse (spanH x b, x / 2 ^ spanH x b)).2 = M at *
      generalize hE : x + 2 ^ spanH x b = e at *
      generalize hH : spanH x b = hh at *
      generalize hQ : x / 2 ^ hh = qq at *
      have JJ := Lib.hid J
      have PSM := Lib.hid psm
      have SHN := Lib.hid shn
      have HNX := Lib.hid hnext
      have KN := Lib.hid (show n ≤ e by have := Nat.two_pow_pos hh; omega)
      clear J psm shn hnext ps1 ps2 hsh hdrop hjs t1 t2 cells hs ownS small PA hM hE hH hQ e1 hnx
      generalize hN : (spanL n b).length = N at *
      have HN := Lib.hid hN
      clear hN
      go_wp2_with fail
      refine PUT.mono ?_
      rintro e' w2 ⟨v1, pv1, rfl, P2, ownM, TC, at1, dis⟩
      have P2 := Lib.hid P2
      have sM := SpotsOf.of_own ownM
      have vne : ∀ c, pv.ownBlock = some c → u6.ownBlock ≠ some c := fun c hc => (JJ.out.apv c hc).1
      have own2 := own_touch TC (JJ.out.made.alloc _) JJ.out.avb vne
      have z2 : wr.heap.size + 1 ≤ w2.heap.size := by have := TC.size; simpa using this
      have bx := And.intro TC at1
      have BX := Lib.hid bx
      clear dis at1 TC ownM vne bx PUT
      go_wp2_with (at_builtin; refine app_spots (.tmp 29) (.tmp 31) rfl rfl B u6 _ _ rfl own2 v1 M rfl sM (by omega) (by omega) ?_; intro v2 w3 own3 hg3 hat3)
      have NX := Lib.hid (jn_round JJ.out hpb hBw P2.out BX.out.1 BX.out.2 own3 hg3 hat3 PSM.out)
      clear own3 hg3 hat3 own2 sM
      go_roundw
      case rel =>
        exact ⟨e, j + 1, pv1, KN.out, s2, by rw [HN.out]; omega, by go_num, HNX.out, SHN.out, NX.out⟩
      case measure => simp [intOf]; omega
    · have e1 : x = b := by
        rcases Nat.lt_or_ge x b with g | g
        · exfalso
          rw [spanL_go g h] at hdrop
          have := congrArg List.length hdrop
          rw [List.length_drop, List.length_cons] at this
          omega
        · omega
      subst e1
      have own := J.made
      have bel := J.below
      have ej : j = (spanL n x).length := by omega
      subst ej
      clear J hdrop hsh hlt
      go_wp2
      go_ret
      exact ⟨_, rfl, own, bel⟩
end Go.Proofs.YtpbahbigimnboaaDoor
