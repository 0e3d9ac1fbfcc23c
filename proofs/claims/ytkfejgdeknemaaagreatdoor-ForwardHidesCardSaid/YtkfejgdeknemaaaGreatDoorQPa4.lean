/- Pa: part 5 of the proof that the law's row holds: the printed walk of the program's functions, the plain law, the row. -/
import Derived.Sort.Row
import Derived.Sort.Grow
import Derived.Sort.LotA
import Derived.Shelf.GgSortFunc.Insertion
import Derived.Laws.AppendOwn
import Derived.OwnWalk
import Derived.Below
section
namespace Go.Proofs.GSort
open Go Go.Sort Go.Proofs
set_option linter.unusedVariables false
set_option linter.unusedSimpArgs false
variable {α : Type} [Inhabited α]
theorem heap_putRow_same (enc : α → Value) {w : World} {g off : Nat} {d : Array α} {cs : Array Value} {t : TypeId} {fr : Nat × Nat} (h : w.heap[g]? = some (.cells cs t fr)) : (putRow enc w g off d).heap[g]? = some (.cells (putCells enc off d cs) t fr) := by
  show (w.heap.modify g (onCells (putCells enc off d)))[g]? = _
  rw [Array.getElem?_modify, if_pos rfl, h]
  rfl
theorem heap_putRow_other (enc : α → Value) {w : World} {g off k : Nat} {d : Array α} (hk : k ≠ g) : (putRow enc w g off d).heap[k]? = w.heap[k]? := by
  show (w.heap.modify g (onCells (putCells enc off d)))[k]? = _
  rw [Array.getElem?_modify, if_neg (Ne.symm hk)]
theorem size_putRow (enc : α → Value) (w : World) (g off : Nat) (d : Array α) : (putRow enc w g off d).heap.size = w.heap.size := by
  show (w.heap.modify g (onCells (putCells enc off d))).size = _
  simp
theorem grown_sorted (enc : α → Value) (w : World) (g off q : Nat) (d : Array α) (os : Array Obj) : w.grownBy (grow (putRow enc (Sort.ahead w q) g off d) os) (some g) := by
  refine ⟨rfl, rfl, rfl, ?_, fun k hk hne => ?_⟩
  · show w.heap.size ≤ ((putRow enc (Sort.ahead w q) g off d).heap ++ os).size
    have h := size_putRow enc (Sort.ahead w q) g off d
    rw [Array.size_append, h]
    exact Nat.le_add_right _ _
  · have h := size_putRow enc (Sort.ahead w q) g off d
    rw [heap_grow_old _ os (by rw [h]; exact hk), heap_putRow_other enc (by rintro rfl; exact hne rfl)]
    rfl
theorem own_sorted (enc : α → Value) {w : World} {base n c g : Nat} {e : TypeId} {xs : List Value} (h : w.ownsRow base e 1 (.slice (some ⟨g, 0, none⟩) n c) n xs) (d : Array α) (hd : d.size = n) (q : Nat) (os : Array Obj) :
    (grow (putRow enc (Sort.ahead w q) g 0 d) os).ownsRow base e 1 (.slice (some ⟨g, 0, none⟩) n c) n (d.toList.map enc) := by
  obtain ⟨h1, h2⟩ := h
  refine ⟨by rw [List.length_map, Array.length_toList, hd]; omega, .inr ?_⟩
  rcases h2 with ⟨h3, _⟩ | ⟨g', cap, cur, h3, hg, hh, hn, hm, hs, ht⟩
  · cases h3
  · injection h3 with h4 _ h5
    injection h4 with h4
    injection h4 with h4 _ _
    subst h4
    subst h5
    have hlt : g < w.heap.size := (Array.getElem?_eq_some_iff.1 hh).1
    have hsz := size_putRow enc (Sort.ahead w q) g 0 d
    refine ⟨g, c, putCells enc 0 d cur, rfl, hg, ?_, hn, hm, by rw [← hs]; simp [putCells], ?_⟩
    · rw [heap_grow_old _ os (by rw [hsz]; exact hlt)]
      exact heap_putRow_same enc (w := Sort.ahead w q) hh
    · refine List.ext_getElem? fun k => ?_
      by_cases hk : k < n
      · have hkc : k < cur.size := by rw [hs]; omega
        simp [putCells, List.getElem?_take, hk, hd, hkc, Array.getElem!_eq_getD]
      · rw [List.getElem?_eq_none (by simp; omega), List.getElem?_eq_none (by simp; omega)]
end Go.Proofs.GSort
end
