/- Pa: part 3 of the proof that the law's row holds: the printed walk of the program's functions, the plain law, the row. -/
import Derived.Deep.Slices
import Derived.OpenShut
import Derived.ProofKit
import Derived.ChangeArms
import Derived.SizedLaws
import Derived.Below
section
namespace Go.Proofs.GOpen
open Go Go.ChangeShapes Go.WideShapes Go.Deep Go.RowKit
variable {H : Type} {enc : TypeId × Value → H} {P : Program} {w : World} {base : Nat} {spare : Nat → Bool} {held : Bool} {fuel : Nat} {cs : List Value} {x : DataW H × List MemPlace}
theorem drop_take_one {α : Type} {l : List α} {i : Nat} {u : α} (h : (l.drop i).take 1 = [u]) : l[i]? = some u := by
  have h2 := congrArg (fun z : List α => z[0]?) h
  simpa using h2
theorem ints_of_array {t e : TypeId} {n : Nat} {q : IntKind} (ht : P.underlying t = some (.array n e)) (he : P.underlying e = some (.int q)) (hc : P.cellsOf e = 1) (hC : P.cellsOf t = n)
    (h : DataW.trod enc P w base spare held fuel t cs = some x) : ∃ Z : Nat → Int, cs = (List.range n).map (fun j => Value.int q (Z j)) ∧ ∀ j, j < n → (Lit.int q (Z j)).wf = true := by
  obtain ⟨xs, m, rfl, hx, hlen, hxl, hel⟩ := DataW.trod_array ht h
  rw [hC] at hlen
  obtain ⟨Z, hZ⟩ := choose_lt (α := Int) (p := fun j z => cs[j]? = some (.int q z) ∧ (Lit.int q z).wf = true) (fun j hj => by
    have h1 := hel j hj
    rw [hc, Nat.mul_one] at h1
    have hj2 : xs[j]? = some (xs[j]'(by omega)) := List.getElem?_eq_getElem (by omega)
    rw [hj2] at h1
    obtain ⟨z, e1, _, wz⟩ := DataW.trod_int he h1
    exact ⟨z, drop_take_one e1, wz⟩)
  refine ⟨Z, ?_, fun j hj => (hZ j hj).2⟩
  refine List.ext_getElem? fun j => ?_
  by_cases hj : j < n
  · rw [(hZ j hj).1]
    simp [hj]
  · rw [List.getElem?_eq_none (by omega), List.getElem?_eq_none (by simp; omega)]
theorem open_slice_arrays {t e i : TypeId} {n : Nat} {q : IntKind} {a : Option Addr} {len cap : Nat} {d : DataW H} {p : List MemPlace} (ht : P.underlying t = some (.slice e)) (he : P.underlying e = some (.array n i)) (hi : P.underlying i = some (.int q))
    (hc : P.cellsOf i = 1) (hC : P.cellsOf e = n) (h : DataW.Trod enc P w base spare held t (.slice a len cap) d p) :
    (a = none ∧ len = 0 ∧ cap = 0) ∨ ∃ ad, a = some ad ∧ len ≤ cap ∧ cap ≤ maxLen ∧ ∃ Z : Nat → Nat → Int, ∀ k, k < len → ∀ j, j < n → w.cell? (ad.add (k * n + j)) = some (.int q (Z k j)) ∧ (Lit.int q (Z k j)).wf = true := by
  obtain ⟨fuel, hf⟩ := h
  rcases open_slice ht hf with ⟨hcs, _⟩ | ⟨x, l, c, m, f, D, Pl, hcs, _, hl, hm, hmm, hx, hel⟩
  · simp [Value.cells] at hcs
    exact .inl hcs
  · simp [Value.cells] at hcs
    obtain ⟨rfl, rfl, rfl⟩ := hcs
    refine .inr ⟨x, rfl, hl, hm, ?_⟩
    obtain ⟨Z, hZ⟩ := choose_lt (α := Nat → Int) (n := len) (p := fun k z => ∀ j, j < n → w.cell? (x.add (k * n + j)) = some (.int q (z j)) ∧ (Lit.int q (z j)).wf = true) (fun k hk => by
      obtain ⟨cs', h1, h2⟩ := hel k (by rw [hmm]; split <;> omega)
      obtain ⟨z, hz, hw⟩ := ints_of_array he hi hc hC h2
      rw [hC] at h1
      obtain ⟨_, hcl, hat⟩ := World.cells?_some h1
      refine ⟨z, fun j hj => ⟨?_, hw j hj⟩⟩
      rw [← Go.Deep.add_add, hat j hj, hz]
      simp [hj])
    exact ⟨Z, hZ⟩
end Go.Proofs.GOpen
end
