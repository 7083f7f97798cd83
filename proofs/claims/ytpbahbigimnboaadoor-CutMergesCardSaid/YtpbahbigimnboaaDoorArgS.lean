/-
  A slice of spots that came in reads as a list.
-/
import Derived.Test.YtpbahbigimnboaaDoorOver
import Derived.ProofKit
import Derived.OpenShut
import Derived.ChangeOld
import Derived.Deep.Slices
import Derived.Deep.Fields
import Derived.ChangeSame
namespace Go.Proofs.YtpbahbigimnboaaDoor
open Go.RowKit Go.ChangeShapes Go.WideShapes Go.Deep
set_option linter.unusedVariables false

section
variable {H : Type} {enc : TypeId × Value → H} {P : Program} {w : World} {base : Nat} {spare : Nat → Bool} {held : Bool}
/-- Two fields of one cell each. -/
theorem open_pairs {t e : TypeId} {fs : Array Field} {fuel : Nat} {cs : List Value} {x : DataW H × List MemPlace} (ht : P.underlying t = some (.slice e)) (he : P.underlying e = some (.struct fs))
    (hone : oneCellFields P fs = true) (hC : P.cellsOf e = fs.size) (h : DataW.trod enc P w base spare held fuel t cs = some x) :
    cs = [.slice none 0 0] ∨
    ∃ (a : Addr) (len cap m : Nat), cs = [.slice (some a) len cap] ∧ len ≤ cap ∧ cap ≤ maxLen ∧ len ≤ m ∧
      ∀ i, i < m → ∃ (n : Nat), ∀ (j : Nat) (f : Field), fs[j]? = some f → ∃ (v : Value) (y : DataW H × List MemPlace), w.cell? (a.add (i * fs.size + j)) = some v ∧ DataW.trod enc P w base spare held n f.type [v] = some y := by
  rcases open_slice ht h with ⟨h0, _⟩ | ⟨a, len, cap, m, n, D, Pl, hcs, hb, hl, hm, hmm, hx, hi⟩
  · exact .inl h0
  · refine .inr ⟨a, len, cap, m, hcs, hl, hm, ?_, fun i him => ?_⟩
    · rw [hmm]; split <;> omega
    obtain ⟨cs', hc, ht'⟩ := hi i him
    rw [hC] at hc
    obtain ⟨ys, n', hn', hy, hlen, hyl, hf⟩ := DataW.trod_struct he ht'
    obtain ⟨_, hcl, hat⟩ := World.cells?_some hc
    refine ⟨n', fun j f hj => ?_⟩
    obtain ⟨ho, hk⟩ := hone_of hone j f hj
    have hjl : j < fs.size := (Array.getElem?_eq_some_iff.1 hj).1
    have hcell := hat j hjl
    have hv : cs'[j]? = some (cs'[j]'(by omega)) := List.getElem?_eq_getElem (by omega)
    have h1 := hf j f hj
    rw [ho, hk] at h1
    have hone' : (cs'.drop j).take 1 = [cs'[j]'(by omega)] := by
      rw [List.drop_eq_getElem_cons (by omega)]
      rfl
    rw [hone'] at h1
    have hys : ys[j]? = some (ys[j]'(by omega)) := List.getElem?_eq_getElem (by omega)
    refine ⟨_, _, ?_, h1.trans hys⟩
    rw [← Go.Deep.add_add, hcell, hv]
end
theorem rng_u8 {n : Int} (h : (Lit.int .u8 n).wf = true) : ∃ x : Nat, n = x ∧ x < 256 := by
  simp [Lit.wf, IntKind.min, IntKind.max, IntKind.signed, IntKind.bits] at h
  exact ⟨n.toNat, by omega, by omega⟩
theorem arg_spots {H : Type} {enc : TypeId × Value → H} {P : Program} {W : World} {base : Nat} {spare : Nat → Bool} {held : Bool} {t e t0 t1 : TypeId} {fs : Array Field} {a : Option Addr} {len cap : Nat} {d : DataW H} {ps : List MemPlace}
    (hu : P.underlying t = some (.slice e)) (he : P.underlying e = some (.struct fs)) (h0 : P.underlying t0 = some (.int .u8)) (h1 : P.underlying t1 = some (.int .u64)) (hf : (fs[0]?.map (·.type) = some t0 ∧ fs[1]?.map (·.type) = some t1) ∧ fs.size = 2) (ho : oneCellFields P fs = true ∧ P.cellsOf e = fs.size)
    (h : DataW.Trod enc P W base spare held t (.slice a len cap) d ps) : ∃ l, SpotsOf W (.slice a len cap) l ∧ Small l := by
  obtain ⟨⟨hf0, hf1⟩, hfs⟩ := hf
  obtain ⟨f0, g0, e0⟩ := Option.map_eq_some_iff.1 hf0
  obtain ⟨f1, g1, e1⟩ := Option.map_eq_some_iff.1 hf1
  obtain ⟨fuel, hff⟩ := h
  rcases open_pairs hu he ho.1 ho.2 hff with hcs | ⟨x, l, c, m, hcs, hl, hm, hlm, hi⟩
  · simp [Value.cells] at hcs
    obtain ⟨rfl, rfl, rfl⟩ := hcs
    exact ⟨[], SpotsOf.nil, by intro c hc; cases hc⟩
  · simp [Value.cells] at hcs
    obtain ⟨rfl, rfl, rfl⟩ := hcs
    rw [hfs] at hi
    have key : ∀ i, i < m → ∃ p q : Nat, W.cell? (x.add (i * 2)) = some (.int .u8 (p : Int)) ∧ W.cell? (x.add (i * 2 + 1)) = some (.int .u64 (q : Int)) ∧ p < 256 ∧ q < 18446744073709551616 := fun i him => by
      obtain ⟨n, hn⟩ := hi i him
      obtain ⟨v, y, c1, c2⟩ := hn 0 f0 g0
      obtain ⟨v', y', c1', c2'⟩ := hn 1 f1 g1
      rw [e0] at c2
      rw [e1] at c2'
      obtain ⟨z, hz, _, wz⟩ := DataW.trod_int h0 c2
      obtain ⟨z', hz', _, wz'⟩ := DataW.trod_int h1 c2'
      obtain ⟨p, rfl, hp⟩ := rng_u8 wz
      obtain ⟨q, rfl, hq⟩ := nat_of_u64 wz'
      simp only [List.cons.injEq, and_true] at hz hz'
      subst hz hz'
      exact ⟨p, q, c1, c1', hp, hq⟩
    let F : Nat → Nat × Nat := fun i => match W.cell? (x.add (i * 2)), W.cell? (x.add (i * 2 + 1)) with
      | some (.int _ p), some (.int _ q) => (p.toNat, q.toNat)
      | _, _ => (0, 0)
    have hF : ∀ i, i < m → W.cell? (x.add (i * 2)) = some (.int .u8 ((F i).1 : Int)) ∧ W.cell? (x.add (i * 2 + 1)) = some (.int .u64 ((F i).2 : Int)) ∧ (F i).1 < 256 ∧ (F i).2 < 18446744073709551616 := fun i him => by
      obtain ⟨p, q, c1, c2, hp, hq⟩ := key i him
      have : F i = (p, q) := by
        show (match W.cell? (x.add (i * 2)), W.cell? (x.add (i * 2 + 1)) with
          | some (.int _ p), some (.int _ q) => (p.toNat, q.toNat)
          | _, _ => (0, 0)) = (p, q)
        rw [c1, c2]
        rfl
      rw [this]
      exact ⟨c1, c2, hp, hq⟩
    have hlen : ((List.range len).map F).length = len := by simp
    refine ⟨(List.range len).map F, ⟨some x, cap, by rw [hlen], by rw [hlen]; exact hl, hm, (fun e => by cases e), ?_⟩, fun s hs => ?_⟩
    · by_cases hz : len = 0
      · left; subst hz; rfl
      · right
        obtain ⟨b, off, spot⟩ := x
        have hspot : spot = none := by simpa [Addr.add] using World.cell?_spot (hF 0 (by omega)).1
        subst hspot
        refine ⟨b, off, rfl, fun j s hj => ?_⟩
        have hjl : j < len := by
          have := (List.getElem?_eq_some_iff.1 hj).1
          rwa [hlen] at this
        rw [List.getElem?_map, List.getElem?_range hjl] at hj
        have es : F j = s := Option.some.inj hj
        rw [← es]
        obtain ⟨c1, c2, _, _⟩ := hF j (by omega)
        rw [add_plain] at c1 c2
        exact ⟨c1, c2⟩
    · obtain ⟨i, hi', rfl⟩ := List.mem_map.1 hs
      obtain ⟨_, _, h3, h4⟩ := hF i (by have := List.mem_range.1 hi'; omega)
      exact ⟨h3, h4⟩
end Go.Proofs.YtpbahbigimnboaaDoor
