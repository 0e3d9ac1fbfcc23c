/- Mr: part 4 of the proof that the law's row holds: the printed walk of the program's functions, the plain law, the row. -/
import Derived.Deep.Slices
import Derived.Deep.Strs
import Derived.OpenShut
import Derived.ProofKit
import Derived.ChangeArms
import Derived.SizedLaws
import Derived.Below
section
namespace Go.Proofs.GCode
open Go Go.ChangeShapes Go.WideShapes Go.Deep Go.RowKit
variable {H : Type} {enc : TypeId × Value → H} {P : Program} {w : World} {base : Nat} {spare : Nat → Bool} {held : Bool}
theorem drop_take1 {α : Type} {l : List α} {i : Nat} {u : α} (h : (l.drop i).take 1 = [u]) : l[i]? = some u := by
  have h2 := congrArg (fun z : List α => z[0]?) h
  simpa using h2
theorem open_slice_ssi {t e : TypeId} {f0 f1 f2 : Field} {q : IntKind} {a : Option Addr} {len cap : Nat} {d : DataW H} {p : List MemPlace} (ht : P.underlying t = some (.slice e)) (he : P.underlying e = some (.struct #[f0, f1, f2]))
    (h0 : P.underlying f0.type = some .string) (h1 : P.underlying f1.type = some .string) (h2 : P.underlying f2.type = some (.int q)) (o0 : f0.offset = 0) (o1 : f1.offset = 1) (o2 : f2.offset = 2)
    (c0 : P.cellsOf f0.type = 1) (c1 : P.cellsOf f1.type = 1) (c2 : P.cellsOf f2.type = 1) (hC : P.cellsOf e = 3) (h : DataW.Trod enc P w base spare held t (.slice a len cap) d p) :
    (a = none ∧ len = 0 ∧ cap = 0) ∨ ∃ ad, a = some ad ∧ len ≤ cap ∧ cap ≤ maxLen ∧ ∃ Z : Nat → ByteArray × ByteArray × Int, ∀ k, k < len → w.cell? (ad.add (k * 3)) = some (.string (Z k).1) ∧ w.cell? (ad.add (k * 3 + 1)) = some (.string (Z k).2.1) ∧ w.cell? (ad.add (k * 3 + 2)) = some (.int q (Z k).2.2) ∧
      (Z k).1.size ≤ maxLen ∧ (Z k).2.1.size ≤ maxLen ∧ (Lit.int q (Z k).2.2).wf = true := by
  obtain ⟨fuel, hf⟩ := h
  rcases open_slice ht hf with ⟨hcs, _⟩ | ⟨x, l, c, m, f, D, Pl, hcs, _, hl, hm, hmm, hx, hel⟩
  · simp [Value.cells] at hcs
    exact .inl hcs
  · simp [Value.cells] at hcs
    obtain ⟨rfl, rfl, rfl⟩ := hcs
    refine .inr ⟨x, rfl, hl, hm, ?_⟩
    obtain ⟨Z, hZ⟩ := choose_lt (α := ByteArray × ByteArray × Int) (n := len) (p := fun k z => w.cell? (x.add (k * 3)) = some (.string z.1) ∧ w.cell? (x.add (k * 3 + 1)) = some (.string z.2.1) ∧ w.cell? (x.add (k * 3 + 2)) = some (.int q z.2.2) ∧ z.1.size ≤ maxLen ∧ z.2.1.size ≤ maxLen ∧ (Lit.int q z.2.2).wf = true) (fun k hk => by
      obtain ⟨cs', g1, g2⟩ := hel k (by rw [hmm]; split <;> omega)
      obtain ⟨y0, y1, y2, n, _, hlen, t0, t1, t2⟩ := trod_struct3 he g2
      rw [o0, c0] at t0
      rw [o1, c1] at t1
      rw [o2, c2] at t2
      obtain ⟨s0, e0, _, z0⟩ := DataW.trod_string h0 t0
      obtain ⟨s1, e1, _, z1⟩ := DataW.trod_string h1 t1
      obtain ⟨n2, e2, _, z2⟩ := DataW.trod_int h2 t2
      rw [hC] at g1
      obtain ⟨_, _, hat⟩ := World.cells?_some g1
      have at0 := hat 0 (by omega)
      have at1 := hat 1 (by omega)
      have at2 := hat 2 (by omega)
      rw [Go.Deep.add_add] at at0 at1 at2
      rw [drop_take1 e0] at at0
      rw [drop_take1 e1] at at1
      rw [drop_take1 e2] at at2
      exact ⟨(s0, s1, n2), at0, at1, at2, z0, z1, z2⟩)
    exact ⟨Z, hZ⟩
end Go.Proofs.GCode
end
