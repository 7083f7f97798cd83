/-
  Arguments that are arrays of bytes; the two laid variables.
-/
import Derived.Test.YtcifnfffoiiceaaDoorDoor2
import Derived.OpenShut
import Derived.Lib.LaidTab
import Derived.ProofKit
import Derived.LaidMore
import Derived.Below
namespace Go.Proofs.YtcifnfffoiiceaaDoor
open Go.RowKit Go.ChangeShapes Go.WideShapes
set_option linter.unusedVariables false

/-- A cell's number. -/
def numOf : Value → Nat
  | .int _ z => z.toNat
  | _ => 0
theorem arg_array {H : Type} {enc : TypeId × Value → H} {P : Program} {W : World} {base b0 : Nat} {r : Reach} {spare : Nat → Bool} {held : Bool} {t e : TypeId} {n : Nat} {v : Value} {d : DataW H} {ps : List MemPlace}
    (hu : P.underlying t = some (.array n e)) (he : P.underlying e = some (.int .u8)) (hc : P.cellsOf e = 1) (hct : P.cellsOf t = n) (hv : Value.okWide P W r b0 t v)
    (h : DataW.Trod enc P W base spare held t v d ps) : ∃ l, v = .agg (cellsOf' u8c l) ∧ l.length = n ∧ Bytes l := by
  unfold Value.okWide at hv
  rw [hu] at hv
  obtain ⟨cs, rfl, hsz, _⟩ := hv
  obtain ⟨fuel, hf⟩ := h
  obtain ⟨xs, m, rfl, hx, hl, hn, hi⟩ := DataW.trod_array hu hf
  have hone : ∀ i, i < n → ∃ c : Nat, cs[i]? = some (u8c c) ∧ c < 256 := by
    intro i hi'
    have h1 := hi i hi'
    rw [hc, Nat.mul_one] at h1
    rw [List.getElem?_eq_getElem (show i < xs.length by omega)] at h1
    obtain ⟨z, hz, _, hwf⟩ := DataW.trod_int he h1
    have hb := bounds_u8 hwf
    have hz' : cs[i]? = some (.int .u8 z) := by
      have := congrArg (·[0]?) hz
      simpa [Value.cells, List.getElem?_take, List.getElem?_drop] using this
    refine ⟨z.toNat, ?_, by omega⟩
    rw [hz']
    unfold u8c
    rw [Int.toNat_of_nonneg hb.1]
  have hcn : cs.size = n := by rw [hsz, hct]
  refine ⟨cs.toList.map numOf, ?_, by simp [hcn], ?_⟩
  · congr 1
    apply Array.ext_getElem?
    intro i
    by_cases hi' : i < n
    · obtain ⟨c, h1, h2⟩ := hone i hi'
      rw [h1]
      unfold cellsOf'
      simp [h1, u8c, numOf]
    · rw [Array.getElem?_eq_none (by omega), Array.getElem?_eq_none (by rw [co_size]; simp; omega)]
  · intro c hc'
    obtain ⟨v, hv', rfl⟩ := List.mem_map.1 hc'
    obtain ⟨i, hi', rfl⟩ := List.mem_iff_getElem.1 hv'
    have hlt : i < n := by simpa [hcn] using hi'
    obtain ⟨c', h1, h2⟩ := hone i hlt
    have h3 : cs.toList[i]? = some (u8c c') := by simpa using h1
    rw [List.getElem?_eq_getElem hi'] at h3
    rw [Option.some.inj h3]
    simpa [numOf, u8c] using h2
theorem tabIs_second {P : Program} {W : World} {name : String} {k : IntKind} {zs : List Int} {x : String × DataW Unit} {rest : List (String × DataW Unit)} {g : Nat} {t e : TypeId} {n : Nat}
    (hg : P.globalNamed name = some g) (hty : (P.globals[g]?).map (·.type) = some t) (ht : P.underlying t = some (.array n e)) (he : P.underlying e = some (.int k)) (hce : P.cellsOf e = 1) (hct : P.cellsOf t = n)
    (h : laidMet P (x :: (name, Lib.tabData k zs) :: rest) W) : Lib.TabIs P W name k zs := by
  obtain ⟨ps, ⟨_, _, _, _, _, _, _, _, _, _, ⟨g', t', cs, fuel, p, q, hg', ht', hvar, hd, _, _⟩, _⟩, _⟩ := h
  obtain rfl := Option.some.inj (hg.symm.trans hg')
  obtain rfl := Option.some.inj (hty.symm.trans ht')
  unfold Lib.TabIs
  rw [hvar, ← Lib.cells_of_tab ht he hce hct hd]
end Go.Proofs.YtcifnfffoiiceaaDoor
