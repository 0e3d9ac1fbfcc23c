/- Pa: part 11 of the proof that the law's row holds: the printed walk of the program's functions, the plain law, the row. -/
import Derived.Test.YtkfejgdeknemaaaGreatDoorProg
import Derived.Below
import Derived.Deep.Draws
import Derived.Deep.AppendLies
import Derived.Maps.AppendAt
import Derived.OwnWalk
import Derived.Laws.BytesArg
import Derived.Laws.MakeOwn
import Derived.Laws.OwnMore
import Derived.Deep.OwnRows
import Derived.Tactics
import Derived.Lib.ConvBytes
import Derived.Laws.Slices
import Derived.WalkKit
import Derived.KernelRfl
import Derived.RowKit3
import Derived.Deep.LoopGhost
import Derived.Deep.QuietTactic
import Derived.BigQuiet
import Derived.WideLaws
import Derived.Deep.DeepCutAuto
import Derived.Deep.CutBlock
import Derived.Deep.RegionHeld3
import Derived.Laws.Rows
import Derived.Lib.AppendStr
import Derived.ArgAppend
import Derived.Laws.IdiomCopy
import Derived.OrdersHeld
import Derived.Laws.BitsLemmas
import Derived.RowKit
import Derived.Sort.KeysCollected
import Derived.WalkSpells
import Derived.Test.YtkfejgdeknemaaaGreatDoorQPa0
import Derived.Test.YtkfejgdeknemaaaGreatDoorQPa1
import Derived.Test.YtkfejgdeknemaaaGreatDoorQPa6
import Derived.Test.YtkfejgdeknemaaaGreatDoorQPa7
import Derived.Test.YtkfejgdeknemaaaGreatDoorQPa8
import Derived.Test.YtkfejgdeknemaaaGreatDoorQPa9
namespace Go.Proofs.YtkfejgdeknemaaaGreatDoor.Z
open Go.RowKit Go.Proofs.YtkfejgdeknemaaaGreatDoorW.PrintWords Go.Proofs.YtkfejgdeknemaaaGreatDoorW.PrintLast Go.Proofs.YtkfejgdeknemaaaGreatDoorW.PrintMore
def bm (n b : Nat) : Array Bool := ((List.range n).map (fun i => b.testBit i)).toArray
section
variable {P : Program} {ops : Array Oper} {Q : Exit → Act → World → Prop} {md : Region.Mode} {S : World → Prop} {ds : List Nat} {T : Bool × List (List Nat × List Nat)} {B : List Nat}
theorem pz (i : Nat) (N : Option Tmp) (l' : Array Bool) {oi : Oper} {v : Value} {fuel : Nat} {l : Array Bool} {a a' : Act} {w : World} (hT : Aside0 (rtab md ops = T)) (h : wpAnyLast P md ops Q S ds fuel l' a' w)
  (hi : ops[i]? = some oi := by exact rfl) (hN : oi.dst = N := by exact rfl) (hc : anyT T l.toList l'.toList i = true := by kernel_rfl) (hQ : ∀ c a w, Q (.panic c) (a.put oi.dst v) w → Q (.panic c) a w := by exact fun _ _ _ h => h)
  (hw : Region.wanted oi (yielded ops a.tmps) = true := by rfl) (hy : ∀ w', (execOp a.eval oi).run P w' = .ok (.value v) w' := by intro w'; go_simp; with_reducible rfl) (ha : a.put N v = a' := by simp only [Act.put, List.setIfInBounds_toArray, List.set_cons_zero, List.set_cons_succ, i64_w, i32_w]; rfl) :
  wpAnyLast P md ops Q S ds (fuel + 1) l a w := pure_ l' hi hN (any_of hT.out hc) hQ (Or.inl ⟨hw, hy⟩) ha h
theorem uz (i : Nat) (N : Option Tmp) (l' : Array Bool) {oi : Oper} {fuel : Nat} {l : Array Bool} {a a' : Act} {w : World} (hT : Aside0 (rtab md ops = T)) (h : wpAnyLast P md ops Q S ds fuel l' a' w)
  (hi : ops[i]? = some oi := by exact rfl) (hN : oi.dst = N := by exact rfl) (hc : anyT T l.toList l'.toList i = true := by kernel_rfl) (hQ : ∀ c a w, Q (.panic c) (a.put oi.dst undef) w → Q (.panic c) a w := by exact fun _ _ _ h => h)
  (hw : Region.wanted oi (yielded ops a.tmps) = false := by rfl) (ha : a.put N undef = a' := by simp only [Act.put, List.setIfInBounds_toArray, List.set_cons_zero, List.set_cons_succ, i64_w, i32_w]; rfl) :
  wpAnyLast P md ops Q S ds (fuel + 1) l a w := pure_ l' hi hN (any_of hT.out hc) hQ (Or.inr ⟨hw, rfl⟩) ha h
theorem tz (i : Nat) (N : Option Tmp) (l' : Array Bool) {oi : Oper} {v : Value} {fuel : Nat} {l : Array Bool} {a a' : Act} {w : World} (hT : Aside0 (rtab md ops = T)) (hB : Aside0 (waitsOk T.2 B = true)) (hS : S w) (h : wpAnyLast P md ops Q S ds fuel l' a' w)
  (hi : ops[i]? = some oi := by exact rfl) (hN : oi.dst = N := by exact rfl) (hc : takeW T B ds l.toList l'.toList i = true := by kernel_rfl) (hQ : ∀ c a w, Q (.panic c) (a.put oi.dst v) w → Q (.panic c) a w := by exact fun _ _ _ h => h)
  (hw : Region.wanted oi (yielded ops a.tmps) = true := by rfl) (hy : ∀ w', S w' → (execOp a.eval oi).run P w' = .ok (.value v) w' := by intro w' hs_; go_split_ands; go_simp; with_reducible rfl) (ha : a.put N v = a' := by simp only [Act.put, List.setIfInBounds_toArray, List.set_cons_zero, List.set_cons_succ, i64_w, i32_w]; rfl) :
  wpAnyLast P md ops Q S ds (fuel + 1) l a w := take_ l' hi hN (take_ofW hT.out hB.out hc) hQ (Or.inl ⟨hw, hy⟩) hS ha h
theorem nz (N : Option Tmp) {v : Value} {fuel : Nat} {l : Array Bool} {a a' : Act} {w : World} (h : wpAnyLast P md ops Q S ds fuel l a' w) (ha : Act.put a N v = a' := by simp only [Act.put, List.setIfInBounds_toArray, List.set_cons_zero, List.set_cons_succ, i64_w, i32_w]; rfl) : wpAnyLast P md ops Q S ds fuel l (a.put N v) w := norm_ ha h
end
section
variable {α : Type} {d : Kd α} {e : Nat} {W W' w : World} {base g : Nat} {ok : Nat → Prop} {v : Value} {xs : List α} {o : Obj} {A : Option Addr} {n : Nat}
theorem zR (H : Aside0 (Kd.R d e W base ok v xs)) (h : Kd.R d e W base ok v xs → Kd.R d e W' base ok v xs := by intro zh; (with_reducible repeat (first | apply Kd.R_alloc | apply Kd.R_drewN | apply Kd.R_drew)); exact zh) : Kd.R d e W' base ok v xs := h H.out
theorem zN (H : Aside0 (Kd.N d e W base ok v xs)) (h : Kd.N d e W base ok v xs → Kd.N d e W' base ok v xs := by intro zh; (with_reducible repeat (first | apply Kd.N_alloc | apply Kd.N_drewN | apply Kd.N_drew)); exact zh) : Kd.N d e W' base ok v xs := h H.out
theorem zB (H : Aside0 (W.heap[g]? = some o)) (h : W.heap[g]? = some o → W'.heap[g]? = some o := by intro zh; (with_reducible repeat (first | refine blk_drewN ?_ _ | refine blk_drew ?_ | refine blk_alloc ?_ _)); exact zh) : W'.heap[g]? = some o := h H.out
theorem zW (H : Aside0 (Below w.heap.size w W)) (h : Below w.heap.size w W → Below w.heap.size w W' := by intro zh; repeat (first | (with_reducible first | exact zh | apply below_alloc | apply pw_below_drewN | apply below_drew1 | refine below_set ?_ (Aside0.out (by with_reducible assumption))) | exact zh)) : Below w.heap.size w W' := h H.out
theorem zC (H : Kd.C d W A n xs) (h : Kd.C d W A n xs → Kd.C d W' A n xs := by intro zh; repeat (first | exact zh | (with_reducible refine Kd.C_alloc ?_ _) | (with_reducible refine Kd.C_drewN ?_ _) | (with_reducible refine Kd.C_drew ?_))) : Kd.C d W' A n xs := h H
theorem zG {p : Prop} (h : p := by (try simp only [List.map_toArray, List.map_cons, List.map_nil]); first | done | rfl | (simp only [List.length_drop, List.length_take]; rfl) | (simp (disch := omega) only [wrap64_of]; done) | (simp (disch := omega) only [wrap64_of]; rfl)) : p := h
end
theorem zq0 {p : Prop} (h : p := by rw [← add_field _ _ 1 (by omega)]; exact hc 1 _ rfl) : p := h
theorem zq1 {p : Prop} (h : p := by rw [← add_field _ _ 2 (by omega)]; exact hc 2 _ rfl) : p := h
theorem zq2 {p : Prop} (h : p := by first | rfl | (simp; done) | (simp [*]; done)) : p := h
theorem zq3 {p : Prop} (h : p := by repeat (first | exact Drawn0.refl _ | apply Drawn0.step)) : p := h
theorem zq4 {p : Prop} (h : p := by first | (go_simp; done) | (go_simp; rfl)) : p := h
theorem zq5 {p : Prop} (h : p := by rw [hg]; exact (below_size (zW HB))) : p := h
theorem zq6 {p : Prop} (h : p := by first | rfl | (simp [errW_none, errW_some] <;> rfl) | (simp [*, errW_none, errW_some] <;> rfl)) : p := h
theorem zq7 {p : Prop} (h : p := by repeat (first | (with_reducible first | exact HB.out | apply below_alloc | apply pw_below_drewN | apply below_drew1 | refine below_set ?_ GE102.out) | exact HB.out)) : p := h
theorem zq8 {p : Prop} (h : p := by repeat (first | (with_reducible first | exact HB.out | apply below_alloc | apply pw_below_drewN | apply below_drew1 | refine below_set ?_ GE103.out) | exact HB.out)) : p := h
theorem zq9 {p : Prop} (h : p := by first | (with_reducible assumption) | assumption) : p := h
theorem zq10 {p : Prop} (h : p := by have := HK1.out; omega) : p := h
theorem zq11 {p : Prop} (h : p := by exact zC (Kd.C_below HR0.out HB.out)) : p := h
theorem zq12 {p : Prop} (h : p := by exact HC0.out) : p := h
theorem zq13 {p : Prop} (h : p := by exact zC (Kd.C_below HR1.out HB.out)) : p := h
theorem zq14 {p : Prop} (h : p := by rw [hg]; exact Nat.ne_of_lt (blk_lt (zB BK109))) : p := h
theorem zq15 {p : Prop} (h : p := by rw [hg]; exact Nat.ne_of_gt (blk_lt (zB BK109))) : p := h
theorem zq16 {p : Prop} (h : p := by repeat (first | (with_reducible first | exact HB.out | apply below_alloc | apply pw_below_drewN | apply below_drew1 | refine below_set ?_ GE109.out | refine below_set ?_ GE118.out) | exact HB.out)) : p := h
theorem zq17 {p : Prop} (h : p := by go_simp; rfl) : p := h
theorem zq18 {p : Prop} (h : p := by repeat (first | (with_reducible first | exact HB.out | apply below_alloc | apply pw_below_drewN | apply below_drew1) | exact HB.out)) : p := h
theorem zq19 {p : Prop} (h : p := by first | omega | exact Nat.le_refl _) : p := h
theorem zq20 {p : Prop} (h : p := by (with_reducible repeat (first | refine blk_drewN ?_ _ | refine blk_drew ?_ | refine blk_alloc ?_ _)); exact BK130.out) : p := h
theorem zq21 {p : Prop} (h : p := by repeat (first | (with_reducible first | exact HB.out | apply below_alloc | apply pw_below_drewN | apply below_drew1 | refine below_set ?_ GE130.out) | exact HB.out)) : p := h
theorem zq22 {p : Prop} (h : p := by rw [hg]; exact Nat.ne_of_lt (blk_lt (zB BK137))) : p := h
theorem zq23 {p : Prop} (h : p := by rw [hg]; exact Nat.ne_of_gt (blk_lt (zB BK137))) : p := h
theorem zq24 {p : Prop} (h : p := by repeat (first | (with_reducible first | exact HB.out | apply below_alloc | apply pw_below_drewN | apply below_drew1 | refine below_set ?_ GE137.out | refine below_set ?_ GE138.out) | exact HB.out)) : p := h
theorem zq25 {p : Prop} (h : p := by (with_reducible repeat (first | refine blk_drewN ?_ _ | refine blk_drew ?_ | refine blk_alloc ?_ _)); refine blk_far ?_ NB144_150.out _; (with_reducible repeat (first | refine blk_drewN ?_ _ | refine blk_drew ?_ | refine blk_alloc ?_ _)); refine blk_far ?_ NB144_150.out _; (with_reducible repeat (first | refine blk_drewN ?_ _ | refine blk_drew ?_ | refine blk_alloc ?_ _)); refine blk_far ?_ NB144_150.out _; (with_reducible repeat (first | refine blk_drewN ?_ _ | refine blk_drew ?_ | refine blk_alloc ?_ _)); exact BK144.out) : p := h
theorem zq26 {p : Prop} (h : p := by (with_reducible repeat (first | refine blk_drewN ?_ _ | refine blk_drew ?_ | refine blk_alloc ?_ _)); refine blk_put (cs := #[.string ((rd_T58 y145 x20_2).f0), .string ((rd_T58 y145 x20_2).f1), .int .i64 0]) ?_ 2 _ rfl; (with_reducible repeat (first | refine blk_drewN ?_ _ | refine blk_drew ?_ | refine blk_alloc ?_ _)); refine blk_put (cs := #[.string ((rd_T58 y145 x20_2).f0), .string (⟨#[]⟩ : ByteArray), .int .i64 0]) ?_ 1 _ rfl; (with_reducible repeat (first | refine blk_drewN ?_ _ | refine blk_drew ?_ | refine blk_alloc ?_ _)); refine blk_put (cs := #[.string (⟨#[]⟩ : ByteArray), .string (⟨#[]⟩ : ByteArray), .int .i64 0]) ?_ 0 _ rfl; (with_reducible repeat (first | refine blk_drewN ?_ _ | refine blk_drew ?_ | refine blk_alloc ?_ _)); exact BK150.out) : p := h
theorem zq27 {p : Prop} (h : p := by (with_reducible repeat (first | refine blk_drewN ?_ _ | refine blk_drew ?_ | refine blk_alloc ?_ _)); exact BK144.out) : p := h
theorem zq28 {p : Prop} (h : p := by repeat (first | (with_reducible first | exact HB.out | apply below_alloc | apply pw_below_drewN | apply below_drew1 | refine below_set ?_ GE144.out) | exact HB.out)) : p := h
theorem zq29 {p : Prop} (h : p := by have := HK1.out; have := HK2.out; omega) : p := h
theorem zq30 {p : Prop} (h : p := by repeat (first | (with_reducible first | exact HB.out | apply below_alloc | apply pw_below_drewN | apply below_drew1 | refine below_set ?_ GE144.out | refine below_set ?_ GE150.out) | exact HB.out)) : p := h
theorem zq31 {p : Prop} (h : p := by (with_reducible repeat (first | refine blk_drewN ?_ _ | refine blk_drew ?_ | refine blk_alloc ?_ _)); refine blk_put (cs := #[.string ((rd_T58 l0 x8_1).f0), .string ((rd_T58 l0 x8_1).f1), .int .i64 0]) ?_ 2 _ rfl; (with_reducible repeat (first | refine blk_drewN ?_ _ | refine blk_drew ?_ | refine blk_alloc ?_ _)); refine blk_put (cs := #[.string ((rd_T58 l0 x8_1).f0), .string (⟨#[]⟩ : ByteArray), .int .i64 0]) ?_ 1 _ rfl; (with_reducible repeat (first | refine blk_drewN ?_ _ | refine blk_drew ?_ | refine blk_alloc ?_ _)); refine blk_put (cs := #[.string (⟨#[]⟩ : ByteArray), .string (⟨#[]⟩ : ByteArray), .int .i64 0]) ?_ 0 _ rfl; (with_reducible repeat (first | refine blk_drewN ?_ _ | refine blk_drew ?_ | refine blk_alloc ?_ _)); exact BK153.out) : p := h
theorem zq32 {p : Prop} (h : p := by repeat (first | (with_reducible first | exact HB.out | apply below_alloc | apply pw_below_drewN | apply below_drew1 | refine below_set ?_ GE153.out) | exact HB.out)) : p := h
theorem zq33 {p : Prop} (h : p := by first | rfl | (simp; done)) : p := h
theorem zq34 {p : Prop} (h : p := by rw [hg]; exact Nat.ne_of_lt (blk_lt (zB BK157))) : p := h
theorem zq35 {p : Prop} (h : p := by rw [hg]; exact Nat.ne_of_gt (blk_lt (zB BK157))) : p := h
theorem zq36 {p : Prop} (h : p := by rw [hg]; exact Nat.ne_of_lt (blk_lt (zB BK158))) : p := h
theorem zq37 {p : Prop} (h : p := by rw [hg]; exact Nat.ne_of_gt (blk_lt (zB BK158))) : p := h
theorem zq38 {p : Prop} (h : p := by rw [hg]; exact Nat.ne_of_lt (blk_lt (g := gb157) (o := .cells #[.int .i64 a5_0, .int .i64 a5_1] 39 (0, 0)) (by (with_reducible repeat (first | refine blk_drewN ?_ _ | refine blk_drew ?_ | refine blk_alloc ?_ _)); refine blk_far ?_ NB157_164.out _; (with_reducible repeat (first | refine blk_drewN ?_ _ | refine blk_drew ?_ | refine blk_alloc ?_ _)); refine blk_far ?_ NB157_164.out _; (with_reducible repeat (first | refine blk_drewN ?_ _ | refine blk_drew ?_ | refine blk_alloc ?_ _)); refine blk_far ?_ NB157_164.out _; (with_reducible repeat (first | refine blk_drewN ?_ _ | refine blk_drew ?_ | refine blk_alloc ?_ _)); refine blk_far ?_ NB157_164.out _; (with_reducible repeat (first | refine blk_drewN ?_ _ | refine blk_drew ?_ | refine blk_alloc ?_ _)); exact BK157.out))) : p := h
theorem zq39 {p : Prop} (h : p := by (with_reducible repeat (first | refine blk_drewN ?_ _ | refine blk_drew ?_ | refine blk_alloc ?_ _)); refine blk_far ?_ NB157_164.out _; (with_reducible repeat (first | refine blk_drewN ?_ _ | refine blk_drew ?_ | refine blk_alloc ?_ _)); refine blk_far ?_ NB157_164.out _; (with_reducible repeat (first | refine blk_drewN ?_ _ | refine blk_drew ?_ | refine blk_alloc ?_ _)); refine blk_far ?_ NB157_164.out _; (with_reducible repeat (first | refine blk_drewN ?_ _ | refine blk_drew ?_ | refine blk_alloc ?_ _)); refine blk_far ?_ NB157_164.out _; (with_reducible repeat (first | refine blk_drewN ?_ _ | refine blk_drew ?_ | refine blk_alloc ?_ _)); exact BK157.out) : p := h
theorem zq40 {p : Prop} (h : p := by rw [hg]; exact Nat.ne_of_gt (blk_lt (g := gb157) (o := .cells #[.int .i64 a5_0, .int .i64 a5_1] 39 (0, 0)) (by (with_reducible repeat (first | refine blk_drewN ?_ _ | refine blk_drew ?_ | refine blk_alloc ?_ _)); refine blk_far ?_ NB157_164.out _; (with_reducible repeat (first | refine blk_drewN ?_ _ | refine blk_drew ?_ | refine blk_alloc ?_ _)); refine blk_far ?_ NB157_164.out _; (with_reducible repeat (first | refine blk_drewN ?_ _ | refine blk_drew ?_ | refine blk_alloc ?_ _)); refine blk_far ?_ NB157_164.out _; (with_reducible repeat (first | refine blk_drewN ?_ _ | refine blk_drew ?_ | refine blk_alloc ?_ _)); refine blk_far ?_ NB157_164.out _; (with_reducible repeat (first | refine blk_drewN ?_ _ | refine blk_drew ?_ | refine blk_alloc ?_ _)); exact BK157.out))) : p := h
theorem zq41 {p : Prop} (h : p := by rw [hg]; exact Nat.ne_of_lt (blk_lt (g := gb158) (o := .cells #[.int .i64 0, .int .i64 0, .int .i64 0, .int .i64 0, .int .i64 0] 41 (0, 0)) (by (with_reducible repeat (first | refine blk_drewN ?_ _ | refine blk_drew ?_ | refine blk_alloc ?_ _)); refine blk_far ?_ NB158_164.out _; (with_reducible repeat (first | refine blk_drewN ?_ _ | refine blk_drew ?_ | refine blk_alloc ?_ _)); refine blk_far ?_ NB158_164.out _; (with_reducible repeat (first | refine blk_drewN ?_ _ | refine blk_drew ?_ | refine blk_alloc ?_ _)); refine blk_far ?_ NB158_164.out _; (with_reducible repeat (first | refine blk_drewN ?_ _ | refine blk_drew ?_ | refine blk_alloc ?_ _)); refine blk_far ?_ NB158_164.out _; (with_reducible repeat (first | refine blk_drewN ?_ _ | refine blk_drew ?_ | refine blk_alloc ?_ _)); exact BK158.out))) : p := h
theorem zq42 {p : Prop} (h : p := by (with_reducible repeat (first | refine blk_drewN ?_ _ | refine blk_drew ?_ | refine blk_alloc ?_ _)); refine blk_far ?_ NB158_164.out _; (with_reducible repeat (first | refine blk_drewN ?_ _ | refine blk_drew ?_ | refine blk_alloc ?_ _)); refine blk_far ?_ NB158_164.out _; (with_reducible repeat (first | refine blk_drewN ?_ _ | refine blk_drew ?_ | refine blk_alloc ?_ _)); refine blk_far ?_ NB158_164.out _; (with_reducible repeat (first | refine blk_drewN ?_ _ | refine blk_drew ?_ | refine blk_alloc ?_ _)); refine blk_far ?_ NB158_164.out _; (with_reducible repeat (first | refine blk_drewN ?_ _ | refine blk_drew ?_ | refine blk_alloc ?_ _)); exact BK158.out) : p := h
theorem zq43 {p : Prop} (h : p := by rw [hg]; exact Nat.ne_of_gt (blk_lt (g := gb158) (o := .cells #[.int .i64 0, .int .i64 0, .int .i64 0, .int .i64 0, .int .i64 0] 41 (0, 0)) (by (with_reducible repeat (first | refine blk_drewN ?_ _ | refine blk_drew ?_ | refine blk_alloc ?_ _)); refine blk_far ?_ NB158_164.out _; (with_reducible repeat (first | refine blk_drewN ?_ _ | refine blk_drew ?_ | refine blk_alloc ?_ _)); refine blk_far ?_ NB158_164.out _; (with_reducible repeat (first | refine blk_drewN ?_ _ | refine blk_drew ?_ | refine blk_alloc ?_ _)); refine blk_far ?_ NB158_164.out _; (with_reducible repeat (first | refine blk_drewN ?_ _ | refine blk_drew ?_ | refine blk_alloc ?_ _)); refine blk_far ?_ NB158_164.out _; (with_reducible repeat (first | refine blk_drewN ?_ _ | refine blk_drew ?_ | refine blk_alloc ?_ _)); exact BK158.out))) : p := h
theorem zq44 {p : Prop} (h : p := by rw [hg]; exact Nat.ne_of_lt (blk_lt (g := gb164) (o := .cells #[.int .i64 t159, .int .i64 t160, .int .i64 t161, .int .i64 t162] 86 (0, 0)) (by (with_reducible repeat (first | refine blk_drewN ?_ _ | refine blk_drew ?_ | refine blk_alloc ?_ _)); refine blk_put (cs := #[.int .i64 t159, .int .i64 t160, .int .i64 t161, .int .i64 0]) ?_ 3 _ rfl; (with_reducible repeat (first | refine blk_drewN ?_ _ | refine blk_drew ?_ | refine blk_alloc ?_ _)); refine blk_put (cs := #[.int .i64 t159, .int .i64 t160, .int .i64 0, .int .i64 0]) ?_ 2 _ rfl; (with_reducible repeat (first | refine blk_drewN ?_ _ | refine blk_drew ?_ | refine blk_alloc ?_ _)); refine blk_put (cs := #[.int .i64 t159, .int .i64 0, .int .i64 0, .int .i64 0]) ?_ 1 _ rfl; (with_reducible repeat (first | refine blk_drewN ?_ _ | refine blk_drew ?_ | refine blk_alloc ?_ _)); refine blk_put (cs := #[.int .i64 0, .int .i64 0, .int .i64 0, .int .i64 0]) ?_ 0 _ rfl; (with_reducible repeat (first | refine blk_drewN ?_ _ | refine blk_drew ?_ | refine blk_alloc ?_ _)); exact BK164.out))) : p := h
theorem zq45 {p : Prop} (h : p := by (with_reducible repeat (first | refine blk_drewN ?_ _ | refine blk_drew ?_ | refine blk_alloc ?_ _)); refine blk_put (cs := #[.int .i64 t159, .int .i64 t160, .int .i64 t161, .int .i64 0]) ?_ 3 _ rfl; (with_reducible repeat (first | refine blk_drewN ?_ _ | refine blk_drew ?_ | refine blk_alloc ?_ _)); refine blk_put (cs := #[.int .i64 t159, .int .i64 t160, .int .i64 0, .int .i64 0]) ?_ 2 _ rfl; (with_reducible repeat (first | refine blk_drewN ?_ _ | refine blk_drew ?_ | refine blk_alloc ?_ _)); refine blk_put (cs := #[.int .i64 t159, .int .i64 0, .int .i64 0, .int .i64 0]) ?_ 1 _ rfl; (with_reducible repeat (first | refine blk_drewN ?_ _ | refine blk_drew ?_ | refine blk_alloc ?_ _)); refine blk_put (cs := #[.int .i64 0, .int .i64 0, .int .i64 0, .int .i64 0]) ?_ 0 _ rfl; (with_reducible repeat (first | refine blk_drewN ?_ _ | refine blk_drew ?_ | refine blk_alloc ?_ _)); exact BK164.out) : p := h
theorem zq46 {p : Prop} (h : p := by rw [hg]; exact Nat.ne_of_gt (blk_lt (g := gb164) (o := .cells #[.int .i64 t159, .int .i64 t160, .int .i64 t161, .int .i64 t162] 86 (0, 0)) (by (with_reducible repeat (first | refine blk_drewN ?_ _ | refine blk_drew ?_ | refine blk_alloc ?_ _)); refine blk_put (cs := #[.int .i64 t159, .int .i64 t160, .int .i64 t161, .int .i64 0]) ?_ 3 _ rfl; (with_reducible repeat (first | refine blk_drewN ?_ _ | refine blk_drew ?_ | refine blk_alloc ?_ _)); refine blk_put (cs := #[.int .i64 t159, .int .i64 t160, .int .i64 0, .int .i64 0]) ?_ 2 _ rfl; (with_reducible repeat (first | refine blk_drewN ?_ _ | refine blk_drew ?_ | refine blk_alloc ?_ _)); refine blk_put (cs := #[.int .i64 t159, .int .i64 0, .int .i64 0, .int .i64 0]) ?_ 1 _ rfl; (with_reducible repeat (first | refine blk_drewN ?_ _ | refine blk_drew ?_ | refine blk_alloc ?_ _)); refine blk_put (cs := #[.int .i64 0, .int .i64 0, .int .i64 0, .int .i64 0]) ?_ 0 _ rfl; (with_reducible repeat (first | refine blk_drewN ?_ _ | refine blk_drew ?_ | refine blk_alloc ?_ _)); exact BK164.out))) : p := h
theorem zq47 {p : Prop} (h : p := by (with_reducible repeat (first | refine blk_drewN ?_ _ | refine blk_drew ?_ | refine blk_alloc ?_ _)); refine blk_put (cs := #[.int .i64 0, .int .i64 0, .int .i64 0, .int .i64 0, .int .i64 0]) ?_ 4 _ rfl; (with_reducible repeat (first | refine blk_drewN ?_ _ | refine blk_drew ?_ | refine blk_alloc ?_ _)); refine blk_put (cs := #[.int .i64 0, .int .i64 0, .int .i64 0, .int .i64 0, .int .i64 0]) ?_ 3 _ rfl; (with_reducible repeat (first | refine blk_drewN ?_ _ | refine blk_drew ?_ | refine blk_alloc ?_ _)); refine blk_put (cs := #[.int .i64 0, .int .i64 0, .int .i64 0, .int .i64 0, .int .i64 0]) ?_ 2 _ rfl; (with_reducible repeat (first | refine blk_drewN ?_ _ | refine blk_drew ?_ | refine blk_alloc ?_ _)); refine blk_put (cs := #[.int .i64 0, .int .i64 0, .int .i64 0, .int .i64 0, .int .i64 0]) ?_ 1 _ rfl; (with_reducible repeat (first | refine blk_drewN ?_ _ | refine blk_drew ?_ | refine blk_alloc ?_ _)); refine blk_put (cs := #[.int .i64 0, .int .i64 0, .int .i64 0, .int .i64 0, .int .i64 0]) ?_ 0 _ rfl; (with_reducible repeat (first | refine blk_drewN ?_ _ | refine blk_drew ?_ | refine blk_alloc ?_ _)); refine blk_far ?_ NB158_165.out _; (with_reducible repeat (first | refine blk_drewN ?_ _ | refine blk_drew ?_ | refine blk_alloc ?_ _)); refine blk_far ?_ NB158_165.out _; (with_reducible repeat (first | refine blk_drewN ?_ _ | refine blk_drew ?_ | refine blk_alloc ?_ _)); refine blk_far ?_ NB158_165.out _; (with_reducible repeat (first | refine blk_drewN ?_ _ | refine blk_drew ?_ | refine blk_alloc ?_ _)); refine blk_far ?_ NB158_165.out _; (with_reducible repeat (first | refine blk_drewN ?_ _ | refine blk_drew ?_ | refine blk_alloc ?_ _)); refine blk_far ?_ NB158_165.out _; (with_reducible repeat (first | refine blk_drewN ?_ _ | refine blk_drew ?_ | refine blk_alloc ?_ _)); exact BK158.out) : p := h
theorem zq48 {p : Prop} (h : p := by (with_reducible repeat (first | refine blk_drewN ?_ _ | refine blk_drew ?_ | refine blk_alloc ?_ _)); refine blk_far ?_ NB157_165.out _; (with_reducible repeat (first | refine blk_drewN ?_ _ | refine blk_drew ?_ | refine blk_alloc ?_ _)); refine blk_far ?_ NB157_165.out _; (with_reducible repeat (first | refine blk_drewN ?_ _ | refine blk_drew ?_ | refine blk_alloc ?_ _)); refine blk_far ?_ NB157_165.out _; (with_reducible repeat (first | refine blk_drewN ?_ _ | refine blk_drew ?_ | refine blk_alloc ?_ _)); refine blk_far ?_ NB157_165.out _; (with_reducible repeat (first | refine blk_drewN ?_ _ | refine blk_drew ?_ | refine blk_alloc ?_ _)); refine blk_far ?_ NB157_165.out _; (with_reducible repeat (first | refine blk_drewN ?_ _ | refine blk_drew ?_ | refine blk_alloc ?_ _)); exact BK157.out) : p := h
theorem zq49 {p : Prop} (h : p := by (with_reducible repeat (first | refine blk_drewN ?_ _ | refine blk_drew ?_ | refine blk_alloc ?_ _)); refine blk_far ?_ NB158_165.out _; (with_reducible repeat (first | refine blk_drewN ?_ _ | refine blk_drew ?_ | refine blk_alloc ?_ _)); refine blk_far ?_ NB158_165.out _; (with_reducible repeat (first | refine blk_drewN ?_ _ | refine blk_drew ?_ | refine blk_alloc ?_ _)); refine blk_far ?_ NB158_165.out _; (with_reducible repeat (first | refine blk_drewN ?_ _ | refine blk_drew ?_ | refine blk_alloc ?_ _)); refine blk_far ?_ NB158_165.out _; (with_reducible repeat (first | refine blk_drewN ?_ _ | refine blk_drew ?_ | refine blk_alloc ?_ _)); refine blk_far ?_ NB158_165.out _; (with_reducible repeat (first | refine blk_drewN ?_ _ | refine blk_drew ?_ | refine blk_alloc ?_ _)); exact BK158.out) : p := h
theorem zq50 {p : Prop} (h : p := by (with_reducible repeat (first | refine blk_drewN ?_ _ | refine blk_drew ?_ | refine blk_alloc ?_ _)); refine blk_far ?_ NB164_165.out _; (with_reducible repeat (first | refine blk_drewN ?_ _ | refine blk_drew ?_ | refine blk_alloc ?_ _)); refine blk_far ?_ NB164_165.out _; (with_reducible repeat (first | refine blk_drewN ?_ _ | refine blk_drew ?_ | refine blk_alloc ?_ _)); refine blk_far ?_ NB164_165.out _; (with_reducible repeat (first | refine blk_drewN ?_ _ | refine blk_drew ?_ | refine blk_alloc ?_ _)); refine blk_far ?_ NB164_165.out _; (with_reducible repeat (first | refine blk_drewN ?_ _ | refine blk_drew ?_ | refine blk_alloc ?_ _)); refine blk_far ?_ NB164_165.out _; (with_reducible repeat (first | refine blk_drewN ?_ _ | refine blk_drew ?_ | refine blk_alloc ?_ _)); exact BK164.out) : p := h
theorem zq51 {p : Prop} (h : p := by (with_reducible repeat (first | refine blk_drewN ?_ _ | refine blk_drew ?_ | refine blk_alloc ?_ _)); refine blk_put (cs := #[.int .i64 a2, .int .i64 a3, .int .i64 t160, .int .i64 a5_0, .int .i64 0]) ?_ 4 _ rfl; (with_reducible repeat (first | refine blk_drewN ?_ _ | refine blk_drew ?_ | refine blk_alloc ?_ _)); refine blk_put (cs := #[.int .i64 a2, .int .i64 a3, .int .i64 t160, .int .i64 0, .int .i64 0]) ?_ 3 _ rfl; (with_reducible repeat (first | refine blk_drewN ?_ _ | refine blk_drew ?_ | refine blk_alloc ?_ _)); refine blk_put (cs := #[.int .i64 a2, .int .i64 a3, .int .i64 0, .int .i64 0, .int .i64 0]) ?_ 2 _ rfl; (with_reducible repeat (first | refine blk_drewN ?_ _ | refine blk_drew ?_ | refine blk_alloc ?_ _)); refine blk_put (cs := #[.int .i64 a2, .int .i64 0, .int .i64 0, .int .i64 0, .int .i64 0]) ?_ 1 _ rfl; (with_reducible repeat (first | refine blk_drewN ?_ _ | refine blk_drew ?_ | refine blk_alloc ?_ _)); refine blk_put (cs := #[.int .i64 0, .int .i64 0, .int .i64 0, .int .i64 0, .int .i64 0]) ?_ 0 _ rfl; (with_reducible repeat (first | refine blk_drewN ?_ _ | refine blk_drew ?_ | refine blk_alloc ?_ _)); exact BK165.out) : p := h
theorem zq52 {p : Prop} (h : p := by repeat (first | (with_reducible first | exact HB.out | apply below_alloc | apply pw_below_drewN | apply below_drew1 | refine below_set ?_ GE157.out | refine below_set ?_ GE158.out | refine below_set ?_ GE164.out | refine below_set ?_ GE165.out) | exact HB.out)) : p := h
theorem zq53 {p : Prop} (h : p := by rw [hg]; exact Nat.ne_of_lt (blk_lt (zB BK167))) : p := h
theorem zq54 {p : Prop} (h : p := by rw [hg]; exact Nat.ne_of_gt (blk_lt (zB BK167))) : p := h
theorem zq55 {p : Prop} (h : p := by repeat (first | (with_reducible first | exact HB.out | apply below_alloc | apply pw_below_drewN | apply below_drew1 | refine below_set ?_ GE167.out | refine below_set ?_ GE168.out) | exact HB.out)) : p := h
theorem zq56 {p : Prop} (h : p := by repeat (first | (with_reducible first | exact HB.out | apply below_alloc | apply pw_below_drewN | apply below_drew1 | refine below_set ?_ GE171.out | refine below_set ?_ GE183.out) | exact HB.out)) : p := h
theorem zq57 {p : Prop} (h : p := by repeat (first | exact HR189_0.out | (with_reducible refine Kd.C_alloc ?_ _) | (with_reducible refine Kd.C_drewN ?_ _) | (with_reducible refine Kd.C_drew ?_))) : p := h
theorem zq58 {p : Prop} (h : p := by exact HC189_0.out) : p := h
theorem zq59 {p : Prop} (h : p := by repeat (first | exact HR190_0.out | (with_reducible refine Kd.C_alloc ?_ _) | (with_reducible refine Kd.C_drewN ?_ _) | (with_reducible refine Kd.C_drew ?_))) : p := h
theorem zq60 {p : Prop} (h : p := by exact HC190_0.out) : p := h
theorem zq61 {p : Prop} (h : p := by exact (below_size (zW HB))) : p := h
theorem zq62 {p : Prop} (h : p := by exact Kd.C_nil _ _) : p := h
theorem zq63 {p : Prop} (h : p := by exact Nat.le_refl _) : p := h
theorem zq64 {p : Prop} (h : p := by exact (Kd.R_reads' HO240.out).2.1) : p := h
theorem zq65 {p : Prop} (h : p := by rw [hg]; exact Nat.ne_of_lt (blk_lt (zB BK237))) : p := h
theorem zq66 {p : Prop} (h : p := by rw [hg]; exact Nat.ne_of_gt (blk_lt (zB BK237))) : p := h
theorem zq67 {p : Prop} (h : p := by (with_reducible repeat (first | apply Kd.R_alloc | apply Kd.R_drewN | apply Kd.R_drew)); exact (Kd.R_mono (Kd.R_far (p := ⟨gb247, 4, none⟩) (Kd.R_far (p := ⟨gb247, 3, none⟩) (Kd.R_far (p := ⟨gb247, 2, none⟩) (Kd.R_far (p := ⟨gb247, 1, none⟩) (Kd.R_far (p := ⟨gb247, 0, none⟩) (Kd.R_types HO240.out BK247.out (by decide)) (fun _ hk => hk.2) (.int .i64 t241)) (fun _ hk => hk.2) (.int .i64 t242)) (fun _ hk => hk.2) (.int .i64 t243)) (fun _ hk => hk.2) (.int .i64 t244)) (fun _ hk => hk.2) (.int .i64 t245)) (fun _ h_ => h_.1))) : p := h
theorem zq68 {p : Prop} (h : p := by (with_reducible repeat (first | apply Kd.R_alloc | apply Kd.R_drewN | apply Kd.R_drew)); exact (Kd.R_mono (Kd.R_far (p := ⟨gb254, 4, none⟩) (Kd.R_far (p := ⟨gb254, 3, none⟩) (Kd.R_far (p := ⟨gb254, 2, none⟩) (Kd.R_far (p := ⟨gb254, 1, none⟩) (Kd.R_far (p := ⟨gb254, 0, none⟩) (Kd.R_types HO240.out BK254.out (by decide)) (fun _ hk => hk.2) (.int .i64 t248)) (fun _ hk => hk.2) (.int .i64 t249)) (fun _ hk => hk.2) (.int .i64 t250)) (fun _ hk => hk.2) (.int .i64 t251)) (fun _ hk => hk.2) (.int .i64 t252)) (fun _ h_ => h_.1))) : p := h
theorem zq69 {p : Prop} (h : p := by exact (Reps.one (show Kd.M (Kd.int .i64) _ _ _ 10 [.int .i64 10] from rfl) (Reps.one (show Kd.M (Kd.int .i64) _ _ _ 20 [.int .i64 20] from rfl) (Reps.one (show Kd.M (Kd.int .i64) _ _ _ 30 [.int .i64 30] from rfl) (Reps.none _ _))))) : p := h
theorem zq70 {p : Prop} (h : p := by exact (Reps.one (show Kd.M (Kd.int .i64) _ _ _ 0 [.int .i64 0] from rfl) (Reps.one (show Kd.M (Kd.int .i64) _ _ _ 1 [.int .i64 1] from rfl) (Reps.none _ _)))) : p := h
theorem zq71 {p : Prop} (h : p := by repeat (first | (with_reducible first | exact HB.out | apply below_alloc | apply pw_below_drewN | apply below_drew1 | refine below_set ?_ GE237.out | refine below_set ?_ GE247.out | refine below_set ?_ GE254.out | refine below_set ?_ GE261.out) | exact HB.out)) : p := h
theorem zq72 {p : Prop} (h : p := by (with_reducible repeat (first | refine blk_drewN ?_ _ | refine blk_drew ?_ | refine blk_alloc ?_ _)); exact BK237.out) : p := h
theorem zq73 {p : Prop} (h : p := by (with_reducible repeat (first | refine blk_drewN ?_ _ | refine blk_drew ?_ | refine blk_alloc ?_ _)); exact BK247.out) : p := h
theorem zq74 {p : Prop} (h : p := by (with_reducible repeat (first | refine blk_drewN ?_ _ | refine blk_drew ?_ | refine blk_alloc ?_ _)); exact BK254.out) : p := h
theorem zq75 {p : Prop} (h : p := by (with_reducible repeat (first | refine blk_drewN ?_ _ | refine blk_drew ?_ | refine blk_alloc ?_ _)); exact BK261.out) : p := h
theorem zq76 {p : Prop} (h : p := by rw [← hq_]; exact (zW HB)) : p := h
theorem zq77 {p : Prop} (h : p := by rw [hg]; exact Nat.ne_of_lt (blk_lt (zB BK337))) : p := h
theorem zq78 {p : Prop} (h : p := by rw [hg]; exact Nat.ne_of_gt (blk_lt (zB BK337))) : p := h
theorem zq79 {p : Prop} (h : p := by rw [hg]; exact Nat.ne_of_lt (blk_lt (zB BK338))) : p := h
theorem zq80 {p : Prop} (h : p := by rw [hg]; exact Nat.ne_of_gt (blk_lt (zB BK338))) : p := h
theorem zq81 {p : Prop} (h : p := by simp only [putAll, Act.put, List.setIfInBounds_toArray, List.set_cons_zero, List.set_cons_succ]) : p := h
theorem zq82 {p : Prop} (h : p := by repeat (first | (with_reducible first | exact HB.out | apply below_alloc | apply pw_below_drewN | apply below_drew1 | refine below_set ?_ GE337.out | refine below_set ?_ GE338.out | refine below_set ?_ GE343.out) | exact HB.out)) : p := h
theorem zq83 {p : Prop} (h : p := by repeat (first | (with_reducible first | exact HB.out | apply below_alloc | apply pw_below_drewN | apply below_drew1 | refine below_set ?_ GE346.out) | exact HB.out)) : p := h
theorem zq84 {p : Prop} (h : p := by exact (fun k_ hk => Kd.fresh' (Kd.R_lt (zR HO_3)) k_ hk)) : p := h
theorem zq85 {p : Prop} (h : p := by exact (by (with_reducible repeat (first | apply Kd.R_alloc | apply Kd.R_drewN | apply Kd.R_drew)); exact Kd.R_mono HO361.out (fun _ hk => hk.2))) : p := h
theorem zq87 {p : Prop} (h : p := by exact k41_mkM _ _ _ (⟨t366, t367, t368, (⟨t369, t370⟩ : S39)⟩ : S41)) : p := h
theorem zq88 {p : Prop} (h : p := by first | exact Kd.R_nil _ _ _ _ _ | exact Kd.N_nil _ _ _ _ _ | exact Kd.V_nil _ _ _ _ _ | exact Kd.Q_nil _ _ _ _ _ | exact Kd.S_nil _ _ _ _ _) : p := h
theorem zq89 {p : Prop} (h : p := by (with_reducible repeat (first | apply Kd.R_alloc | apply Kd.R_drewN | apply Kd.R_drew)); exact HO_3.out) : p := h
theorem zq90 {p : Prop} (h : p := by exact zC (Kd.R_reads' HO600.out).2.2) : p := h
theorem zq91 {p : Prop} (h : p := by exact (Kd.R_reads' HO600.out).2.1) : p := h
theorem zq92 {p : Prop} (h : p := by exact zC (Kd.R_reads' HO603.out).2.2) : p := h
theorem zq93 {p : Prop} (h : p := by exact (Kd.R_reads' HO603.out).2.1) : p := h
theorem zq94 {p : Prop} (h : p := by refine (Kd.R_reads' (e := 3) (base := w.heap.size) (ok := fun k_ => some k_ ≠ (.slice Ao34 t610.length co34 : Value).ownBlock) (n := t607.length) (c := co33) ?_).2.2; exact (by (with_reducible repeat (first | apply Kd.R_alloc | apply Kd.R_drewN | apply Kd.R_drew)); exact (Kd.R_mono (Kd.R_far (p := ⟨gb614, 2, none⟩) (Kd.R_far (p := ⟨gb614, 1, none⟩) (Kd.R_far (p := ⟨gb614, 0, none⟩) (Kd.R_types HO609.out BK614.out (by decide)) (fun _ hk => hk.2) (.int .i64 t606)) (fun _ hk => hk.2) (.slice Ao33 t607.length co33)) (fun _ hk => hk.2) (.slice Ao34 t610.length co34)) (fun _ h_ => h_.1)))) : p := h
theorem zq95 {p : Prop} (h : p := by (with_reducible repeat (first | apply Kd.R_alloc | apply Kd.R_drewN | apply Kd.R_drew)); exact (Kd.R_mono (Kd.R_far (p := ⟨gb614, 2, none⟩) (Kd.R_far (p := ⟨gb614, 1, none⟩) (Kd.R_far (p := ⟨gb614, 0, none⟩) (Kd.R_types HO609.out BK614.out (by decide)) (fun _ hk => hk.2) (.int .i64 t606)) (fun _ hk => hk.2) (.slice Ao33 t607.length co33)) (fun _ hk => hk.2) (.slice Ao34 t610.length co34)) (fun _ h_ => h_.1))) : p := h
theorem zq96 {p : Prop} (h : p := by exact (Kd.R_reads' HO609.out).2.1) : p := h
theorem zq97 {p : Prop} (h : p := by refine (Kd.R_reads' (e := 3) (base := w.heap.size) (ok := fun k_ => some k_ ≠ (.slice Ao33 t607.length co33 : Value).ownBlock) (n := t610.length) (c := co34) ?_).2.2; exact (by (with_reducible repeat (first | apply Kd.R_alloc | apply Kd.R_drewN | apply Kd.R_drew)); exact (Kd.R_mono (Kd.R_far (p := ⟨gb614, 2, none⟩) (Kd.R_far (p := ⟨gb614, 1, none⟩) (Kd.R_far (p := ⟨gb614, 0, none⟩) (Kd.R_types HO612.out BK614.out (by decide)) (fun _ hk => hk.2) (.int .i64 t606)) (fun _ hk => hk.2) (.slice Ao33 t607.length co33)) (fun _ hk => hk.2) (.slice Ao34 t610.length co34)) (fun _ h_ => h_.1)))) : p := h
theorem zq98 {p : Prop} (h : p := by (with_reducible repeat (first | apply Kd.R_alloc | apply Kd.R_drewN | apply Kd.R_drew)); exact (Kd.R_mono (Kd.R_far (p := ⟨gb614, 2, none⟩) (Kd.R_far (p := ⟨gb614, 1, none⟩) (Kd.R_far (p := ⟨gb614, 0, none⟩) (Kd.R_types HO612.out BK614.out (by decide)) (fun _ hk => hk.2) (.int .i64 t606)) (fun _ hk => hk.2) (.slice Ao33 t607.length co33)) (fun _ hk => hk.2) (.slice Ao34 t610.length co34)) (fun _ h_ => h_.1))) : p := h
theorem zq99 {p : Prop} (h : p := by exact (Kd.R_reads' HO612.out).2.1) : p := h
theorem zq100 {p : Prop} (h : p := by (with_reducible repeat (first | apply Kd.R_alloc | apply Kd.R_drewN | apply Kd.R_drew)); exact (Kd.R_mono (Kd.R_far (p := ⟨gb614, 2, none⟩) (Kd.R_far (p := ⟨gb614, 1, none⟩) (Kd.R_far (p := ⟨gb614, 0, none⟩) (Kd.R_types HO600.out BK614.out (by decide)) (fun _ hk => hk.2) (.int .i64 t606)) (fun _ hk => hk.2) (.slice Ao33 t607.length co33)) (fun _ hk => hk.2) (.slice Ao34 t610.length co34)) (fun _ h_ => h_.1))) : p := h
theorem zq101 {p : Prop} (h : p := by (with_reducible repeat (first | apply Kd.R_alloc | apply Kd.R_drewN | apply Kd.R_drew)); exact (Kd.R_mono (Kd.R_far (p := ⟨gb614, 2, none⟩) (Kd.R_far (p := ⟨gb614, 1, none⟩) (Kd.R_far (p := ⟨gb614, 0, none⟩) (Kd.R_types HO603.out BK614.out (by decide)) (fun _ hk => hk.2) (.int .i64 t606)) (fun _ hk => hk.2) (.slice Ao33 t607.length co33)) (fun _ hk => hk.2) (.slice Ao34 t610.length co34)) (fun _ h_ => h_.1))) : p := h
theorem zq102 {p : Prop} (h : p := by (with_reducible repeat (first | refine blk_drewN ?_ _ | refine blk_drew ?_ | refine blk_alloc ?_ _)); refine blk_put (cs := #[.int .i64 t606, .slice Ao33 t607.length co33, .slice none 0 0]) ?_ 2 _ rfl; (with_reducible repeat (first | refine blk_drewN ?_ _ | refine blk_drew ?_ | refine blk_alloc ?_ _)); refine blk_put (cs := #[.int .i64 t606, .slice none 0 0, .slice none 0 0]) ?_ 1 _ rfl; (with_reducible repeat (first | refine blk_drewN ?_ _ | refine blk_drew ?_ | refine blk_alloc ?_ _)); refine blk_put (cs := #[.int .i64 0, .slice none 0 0, .slice none 0 0]) ?_ 0 _ rfl; (with_reducible repeat (first | refine blk_drewN ?_ _ | refine blk_drew ?_ | refine blk_alloc ?_ _)); exact BK614.out) : p := h
theorem zq103 {p : Prop} (h : p := by rw [Ny622.out, List.length_drop] <;> omega) : p := h
theorem zq104 {p : Prop} (h : p := by rw [Ny626.out, List.length_take]; omega) : p := h
theorem zq105 {p : Prop} (h : p := by repeat (first | exact (by repeat (first | (with_reducible exact HR625.out) | (with_reducible refine Kd.C_alloc ?_ _) | (with_reducible refine Kd.C_drewN ?_ _) | (with_reducible refine Kd.C_drew ?_) | exact HR625.out)) | (with_reducible refine Kd.C_alloc ?_ _) | (with_reducible refine Kd.C_drewN ?_ _) | (with_reducible refine Kd.C_drew ?_))) : p := h
theorem zq107 {p : Prop} (h : p := by repeat (first | exact (by repeat (first | (with_reducible exact HR629.out) | (with_reducible refine Kd.C_alloc ?_ _) | (with_reducible refine Kd.C_drewN ?_ _) | (with_reducible refine Kd.C_drew ?_) | exact HR629.out)) | (with_reducible refine Kd.C_alloc ?_ _) | (with_reducible refine Kd.C_drewN ?_ _) | (with_reducible refine Kd.C_drew ?_))) : p := h
end Go.Proofs.YtkfejgdeknemaaaGreatDoor.Z
section
open Go.Proofs.YtkfejgdeknemaaaGreatDoor.Z
namespace Go.Proofs.YtkfejgdeknemaaaGreatDoor.Fw
open Go.RowKit Go.Proofs.YtkfejgdeknemaaaGreatDoorW.PrintWords Go.Proofs.YtkfejgdeknemaaaGreatDoorW.PrintLast Go.Proofs.YtkfejgdeknemaaaGreatDoorW.PrintMore
attribute [local go_sem] max2_int min2_int max_two min_two max_three min_three max_four min_four
set_option linter.unusedVariables false
set_option linter.unusedSimpArgs false
def errW : Option Int → Value
 | none => .nilIface
 | some c => .iface 0 (.int .i64 c)
theorem errW_none : errW none = .nilIface := rfl
theorem errW_some (c : Int) : errW (some c) = .iface 0 (.int .i64 c) := rfl
theorem info3 : (Tryz.prog.info? 3).map (fun i => (i.zero, i.size, i.bytes)) = some (some (.int .i64 0), 1, 8) := by kernel_rfl
theorem info37 : (Tryz.prog.info? 37).map (fun i => (i.zero, i.size, i.bytes)) = some (some (.agg #[(.int .i64 0), (.int .i64 0)]), 2, 16) := by kernel_rfl
theorem info41 : (Tryz.prog.info? 41).map (fun i => (i.zero, i.size, i.bytes)) = some (some (.agg #[(.int .i64 0), (.int .i64 0), (.int .i64 0), (.int .i64 0), (.int .i64 0)]), 5, 40) := by kernel_rfl
theorem info58 : (Tryz.prog.info? 58).map (fun i => (i.zero, i.size, i.bytes)) = some (some (.agg #[(.string ⟨#[]⟩), (.string ⟨#[]⟩), (.int .i64 0)]), 3, 40) := by kernel_rfl
structure S39 where
 f0 : Int
 f1 : Int
def z39 : S39 := ⟨(0 : Int), (0 : Int)⟩
def k39 : Kd S39 := Kd.iso (Kd.pair (Kd.int .i64) (Kd.int .i64)) (fun x : S39 => (x.f0, x.f1))
theorem k39_open {w : World} {x : S39} {cs : List Value} (h : k39.K w x cs) : cs = [.int .i64 x.f0, .int .i64 x.f1] := by
 obtain ⟨_, _, rfl, rfl, rfl⟩ := h
 exact rfl
theorem k39_mkM (w : World) (base : Nat) (ok : Nat → Prop) (x : S39)  : k39.M w base ok x [.int .i64 x.f0, .int .i64 x.f1] := ⟨[.int .i64 x.f0], [.int .i64 x.f1], rfl, rfl, rfl⟩
structure S41 where
 f0 : Int
 f1 : Int
 f2 : Int
 f3 : S39
def z41 : S41 := ⟨(0 : Int), (0 : Int), (0 : Int), z39⟩
def k41 : Kd S41 := Kd.iso (Kd.pair (Kd.int .i64) (Kd.pair (Kd.int .i64) (Kd.pair (Kd.int .i64) k39))) (fun x : S41 => (x.f0, x.f1, x.f2, x.f3))
theorem k41_open {w : World} {x : S41} {cs : List Value} (h : k41.K w x cs) : cs = [.int .i64 x.f0, .int .i64 x.f1, .int .i64 x.f2, .int .i64 x.f3.f0, .int .i64 x.f3.f1] := by
 obtain ⟨_, _, rfl, rfl, ⟨_, _, rfl, rfl, ⟨_, _, rfl, rfl, s3⟩⟩⟩ := h
 obtain rfl := k39_open s3
 exact rfl
theorem k41_mkM (w : World) (base : Nat) (ok : Nat → Prop) (x : S41)  : k41.M w base ok x [.int .i64 x.f0, .int .i64 x.f1, .int .i64 x.f2, .int .i64 x.f3.f0, .int .i64 x.f3.f1] := ⟨[.int .i64 x.f0], [.int .i64 x.f1, .int .i64 x.f2, .int .i64 x.f3.f0, .int .i64 x.f3.f1], rfl, rfl, ⟨[.int .i64 x.f1], [.int .i64 x.f2, .int .i64 x.f3.f0, .int .i64 x.f3.f1], rfl, rfl, ⟨[.int .i64 x.f2], [.int .i64 x.f3.f0, .int .i64 x.f3.f1], rfl, rfl, (k39_mkM w base ok x.f3 )⟩⟩⟩
def rd_T41 (xs : List S41) (i : Int) : S41 := xs.getD i.toNat z41
theorem at_T41 {w : World} {A : Option Addr} {n : Nat} {xs : List S41} (h : Kd.C k41 w A n xs) (i : Int) (h0 : 0 ≤ i) (h1 : i < n) : ∃ ad , A = some ad ∧ w.cell? (ad.add (i.toNat * 5)) = some (.int .i64 (rd_T41 xs i).f0) ∧ w.cell? ⟨(ad.add (i.toNat * 5)).block, (ad.add (i.toNat * 5)).off + 1, none⟩ = some (.int .i64 (rd_T41 xs i).f1) ∧ w.cell? ⟨(ad.add (i.toNat * 5)).block, (ad.add (i.toNat * 5)).off + 2, none⟩ = some (.int .i64 (rd_T41 xs i).f2) ∧ w.cell? ⟨(ad.add (i.toNat * 5)).block, (ad.add (i.toNat * 5)).off + 3, none⟩ = some (.int .i64 (rd_T41 xs i).f3.f0) ∧ w.cell? ⟨(ad.add (i.toNat * 5)).block, (ad.add (i.toNat * 5)).off + 4, none⟩ = some (.int .i64 (rd_T41 xs i).f3.f1) := by
 obtain ⟨ad, c, e, _, hK, hc0⟩ := Kd.C_get h z41 i h0 h1
 have hc : ∀ j u, c[j]? = some u → w.cell? (ad.add (i.toNat * 5 + j)) = some u := hc0
 obtain rfl := k41_open hK
 exact ⟨ad, e, hc 0 _ rfl, zq0, zq1, by rw [← add_field _ _ 3 (by omega)]; exact hc 3 _ rfl, by rw [← add_field _ _ 4 (by omega)]; exact hc 4 _ rfl⟩
structure S37 where
 f0 : Int
 f1 : Int
def z37 : S37 := ⟨(0 : Int), (0 : Int)⟩
def k37 : Kd S37 := Kd.iso (Kd.pair (Kd.int .i64) (Kd.int .i64)) (fun x : S37 => (x.f0, x.f1))
theorem k37_open {w : World} {x : S37} {cs : List Value} (h : k37.K w x cs) : cs = [.int .i64 x.f0, .int .i64 x.f1] := by
 obtain ⟨_, _, rfl, rfl, rfl⟩ := h
 exact rfl
theorem k37_mk (w : World) (x : S37)  : k37.K w x [.int .i64 x.f0, .int .i64 x.f1] := ⟨[.int .i64 x.f0], [.int .i64 x.f1], rfl, rfl, rfl⟩
theorem k37_mkM (w : World) (base : Nat) (ok : Nat → Prop) (x : S37)  : k37.M w base ok x [.int .i64 x.f0, .int .i64 x.f1] := ⟨[.int .i64 x.f0], [.int .i64 x.f1], rfl, rfl, rfl⟩
def rd_T37 (xs : List S37) (i : Int) : S37 := xs.getD i.toNat z37
theorem at_T37 {w : World} {A : Option Addr} {n : Nat} {xs : List S37} (h : Kd.C k37 w A n xs) (i : Int) (h0 : 0 ≤ i) (h1 : i < n) : ∃ ad , A = some ad ∧ w.cell? (ad.add (i.toNat * 2)) = some (.int .i64 (rd_T37 xs i).f0) ∧ w.cell? ⟨(ad.add (i.toNat * 2)).block, (ad.add (i.toNat * 2)).off + 1, none⟩ = some (.int .i64 (rd_T37 xs i).f1) := by
 obtain ⟨ad, c, e, _, hK, hc0⟩ := Kd.C_get h z37 i h0 h1
 have hc : ∀ j u, c[j]? = some u → w.cell? (ad.add (i.toNat * 2 + j)) = some u := hc0
 obtain rfl := k37_open hK
 exact ⟨ad, e, hc 0 _ rfl, zq0⟩
def rd_L6 (xs : List (List Int)) (i : Int) : (List Int) := xs.getD i.toNat ([] : List Int)
theorem at_L6 {w : World} {A : Option Addr} {n : Nat} {xs : List (List Int)} (h : Kd.C (Kd.slice 3 (Kd.int .i64)) w A n xs) (i : Int) (h0 : 0 ≤ i) (h1 : i < n) : ∃ ad A0 c0, A = some ad ∧ w.cell? (ad.add i.toNat) = some (.slice A0 (rd_L6 xs i).length c0) ∧ (rd_L6 xs i).length ≤ c0 ∧ (Kd.int .i64).C w A0 (rd_L6 xs i).length (rd_L6 xs i) := by
 obtain ⟨ad, c, e, _, hK, hc0⟩ := Kd.C_get h ([] : List Int) i h0 h1
 have hc : ∀ j u, c[j]? = some u → w.cell? (ad.add (i.toNat * 1 + j)) = some u := hc0
 obtain ⟨A0, c0, rfl, l0, g0⟩ := hK
 exact ⟨ad, A0, c0, e, by have hq := hc 0 _ rfl; rwa [Nat.mul_one, Nat.add_zero] at hq, l0, g0⟩
structure S58 where
 f0 : ByteArray
 f1 : ByteArray
 f2 : Int
def z58 : S58 := ⟨(⟨#[]⟩ : ByteArray), (⟨#[]⟩ : ByteArray), (0 : Int)⟩
def k58 : Kd S58 := Kd.iso (Kd.pair Kd.string (Kd.pair Kd.string (Kd.int .i64))) (fun x : S58 => (x.f0, x.f1, x.f2))
theorem k58_open {w : World} {x : S58} {cs : List Value} (h : k58.K w x cs) : cs = [.string x.f0, .string x.f1, .int .i64 x.f2] := by
 obtain ⟨_, _, rfl, rfl, ⟨_, _, rfl, rfl, rfl⟩⟩ := h
 exact rfl
theorem k58_mkM (w : World) (base : Nat) (ok : Nat → Prop) (x : S58)  : k58.M w base ok x [.string x.f0, .string x.f1, .int .i64 x.f2] := ⟨[.string x.f0], [.string x.f1, .int .i64 x.f2], rfl, rfl, ⟨[.string x.f1], [.int .i64 x.f2], rfl, rfl, rfl⟩⟩
def rd_T58 (xs : List S58) (i : Int) : S58 := xs.getD i.toNat z58
theorem at_T58 {w : World} {A : Option Addr} {n : Nat} {xs : List S58} (h : Kd.C k58 w A n xs) (i : Int) (h0 : 0 ≤ i) (h1 : i < n) : ∃ ad , A = some ad ∧ w.cell? (ad.add (i.toNat * 3)) = some (.string (rd_T58 xs i).f0) ∧ w.cell? ⟨(ad.add (i.toNat * 3)).block, (ad.add (i.toNat * 3)).off + 1, none⟩ = some (.string (rd_T58 xs i).f1) ∧ w.cell? ⟨(ad.add (i.toNat * 3)).block, (ad.add (i.toNat * 3)).off + 2, none⟩ = some (.int .i64 (rd_T58 xs i).f2) := by
 obtain ⟨ad, c, e, _, hK, hc0⟩ := Kd.C_get h z58 i h0 h1
 have hc : ∀ j u, c[j]? = some u → w.cell? (ad.add (i.toNat * 3 + j)) = some u := hc0
 obtain rfl := k58_open hK
 exact ⟨ad, e, hc 0 _ rfl, zq0, zq1⟩
structure S66 where
 f0 : Int
 f1 : Int
 f2 : Int
 f3 : Int
 f4 : Int
def z66 : S66 := ⟨(0 : Int), (0 : Int), (0 : Int), (0 : Int), (0 : Int)⟩
def k66 : Kd S66 := Kd.iso (Kd.pair (Kd.int .i64) (Kd.pair (Kd.int .i64) (Kd.pair (Kd.int .i64) (Kd.pair (Kd.int .i64) (Kd.int .i64))))) (fun x : S66 => (x.f0, x.f1, x.f2, x.f3, x.f4))
theorem k66_open {w : World} {x : S66} {cs : List Value} (h : k66.K w x cs) : cs = [.int .i64 x.f0, .int .i64 x.f1, .int .i64 x.f2, .int .i64 x.f3, .int .i64 x.f4] := by
 obtain ⟨_, _, rfl, rfl, ⟨_, _, rfl, rfl, ⟨_, _, rfl, rfl, ⟨_, _, rfl, rfl, rfl⟩⟩⟩⟩ := h
 exact rfl
theorem k66_mk (w : World) (x : S66)  : k66.K w x [.int .i64 x.f0, .int .i64 x.f1, .int .i64 x.f2, .int .i64 x.f3, .int .i64 x.f4] := ⟨[.int .i64 x.f0], [.int .i64 x.f1, .int .i64 x.f2, .int .i64 x.f3, .int .i64 x.f4], rfl, rfl, ⟨[.int .i64 x.f1], [.int .i64 x.f2, .int .i64 x.f3, .int .i64 x.f4], rfl, rfl, ⟨[.int .i64 x.f2], [.int .i64 x.f3, .int .i64 x.f4], rfl, rfl, ⟨[.int .i64 x.f3], [.int .i64 x.f4], rfl, rfl, rfl⟩⟩⟩⟩
def rd_T66 (xs : List S66) (i : Int) : S66 := xs.getD i.toNat z66
theorem at_T66 {w : World} {A : Option Addr} {n : Nat} {xs : List S66} (h : Kd.C k66 w A n xs) (i : Int) (h0 : 0 ≤ i) (h1 : i < n) : ∃ ad , A = some ad ∧ w.cell? (ad.add (i.toNat * 5)) = some (.int .i64 (rd_T66 xs i).f0) ∧ w.cell? ⟨(ad.add (i.toNat * 5)).block, (ad.add (i.toNat * 5)).off + 1, none⟩ = some (.int .i64 (rd_T66 xs i).f1) ∧ w.cell? ⟨(ad.add (i.toNat * 5)).block, (ad.add (i.toNat * 5)).off + 2, none⟩ = some (.int .i64 (rd_T66 xs i).f2) ∧ w.cell? ⟨(ad.add (i.toNat * 5)).block, (ad.add (i.toNat * 5)).off + 3, none⟩ = some (.int .i64 (rd_T66 xs i).f3) ∧ w.cell? ⟨(ad.add (i.toNat * 5)).block, (ad.add (i.toNat * 5)).off + 4, none⟩ = some (.int .i64 (rd_T66 xs i).f4) := by
 obtain ⟨ad, c, e, _, hK, hc0⟩ := Kd.C_get h z66 i h0 h1
 have hc : ∀ j u, c[j]? = some u → w.cell? (ad.add (i.toNat * 5 + j)) = some u := hc0
 obtain rfl := k66_open hK
 exact ⟨ad, e, hc 0 _ rfl, zq0, zq1, by rw [← add_field _ _ 3 (by omega)]; exact hc 3 _ rfl, by rw [← add_field _ _ 4 (by omega)]; exact hc 4 _ rfl⟩
theorem below_bytesW (w : World) (e : TypeId) (s : ByteArray) : Below w.heap.size w (Lib.bytesWorld w e s) := bytes_below (Below.refl _ _) (Nat.le_refl _) e s
theorem wrap64_of {n : Int} (h0 : -9223372036854775808 ≤ n) (h1 : n ≤ 9223372036854775807) : wrap64 n = n := by
 unfold wrap64
 omega
def codeAt : List Nat → Code → Code
 | [], c => c
 | 0 :: p, .seq a _ => codeAt p a
 | _ :: p, .seq _ b => codeAt p b
 | _ :: p, .block _ c => codeAt p c
 | _ :: p, .loop c => codeAt p c
 | 0 :: p, .cond _ a _ => codeAt p a
 | _ :: p, .cond _ _ b => codeAt p b
 | _, c => c
theorem seq_hold {P : Program} {x y : Code} {Q : Exit → Act → World → Prop} {a : Act} {w : World} (h : ∀ K : Act → World → Prop, Aside0 (∀ a w, y.wp P Q a w → K a w) → x.wp P (Exit.then K Q) a w) : (Code.seq x y).wp P Q a w :=
 wp_seq (h _ ⟨fun _ _ h => h⟩)
end Go.Proofs.YtkfejgdeknemaaaGreatDoor.Fw
end
section
open Go.Proofs.YtkfejgdeknemaaaGreatDoor.Z
namespace Go.Proofs.YtkfejgdeknemaaaGreatDoor.Fw
open Go.RowKit Go.Proofs.YtkfejgdeknemaaaGreatDoorW.PrintWords Go.Proofs.YtkfejgdeknemaaaGreatDoorW.PrintLast Go.Proofs.YtkfejgdeknemaaaGreatDoorW.PrintMore
attribute [local go_sem] max2_int min2_int max_two min_two max_three min_three max_four min_four
set_option linter.unusedVariables false
set_option linter.unusedSimpArgs false
def forward_isIn.f (a0 : Int) (a1 : Int) (a2 : Int) : Option (Bool) := if a1 ≤ a0 then (some (decide (a0 ≤ a2))) else (some false)
set_option maxHeartbeats 8000000 in
set_option maxRecDepth 100000 in
theorem forward_isIn.calls (a0 : Int) (a1 : Int) (a2 : Int) (r : Bool) (w : World) (h : forward_isIn.f a0 a1 a2 = some r) :
 Calls Tryz.prog 30 #[.int .i64 a0, .int .i64 a1, .int .i64 a2] w fun e w' => e = .returned (.bool r) ∧ Drawn0 w w' := by
 have H : (if a1 ≤ a0 then (some (decide (a0 ≤ a2))) else (some false)) = some r := h
 clear h
 by_cases c4 : a1 ≤ a0
 ·rw [if_pos c4] at H
  have c4b0 : decide (a1 ≤ a0) = true := decide_eq_true c4
  clear c4
  obtain rfl := Option.some.inj H
  go_enter Tryz.func30, Tryz.ntmps30
  go_wp2
  go_ret
  exact ⟨zq2, zq3⟩
 rw [if_neg c4] at H
 have c4b0 : decide (a1 ≤ a0) = false := decide_eq_false c4
 clear c4
 obtain rfl := Option.some.inj H
 go_enter Tryz.func30, Tryz.ntmps30
 go_wp2
 go_ret
 exact ⟨zq2, zq3⟩
def forward_isNumber.f (a0 : Int) : Option (Bool) := (forward_isIn.f a0 0 99999999).bind fun t101 => (some t101)
set_option maxHeartbeats 8000000 in
set_option maxRecDepth 100000 in
theorem forward_isNumber.calls (a0 : Int) (r : Bool) (w : World) (h : forward_isNumber.f a0 = some r) :
 Calls Tryz.prog 29 #[.int .i64 a0] w fun e w' => e = .returned (.bool r) ∧ Drawn0 w w' := by
 have H : ((forward_isIn.f a0 0 99999999).bind fun t101 => (some t101)) = some r := h
 clear h
 replace H := Option.bind_eq_some_iff.mp H
 obtain ⟨t101, A20, H⟩ := H
 try dsimp only at H
 have A2 := Aside0.mk A20
 clear A20
 obtain rfl := Option.some.inj H
 go_enter Tryz.func29, Tryz.ntmps29
 go_wp2_with (first | ((with_reducible refine gate_callee (f := 30) rfl ?_); refine goesL_ (some 4) rfl rfl Tryz.func30 (by kernel_rfl) rfl #[.int .i64 a0, .int .i64 0, .int .i64 99999999] rfl zG ?_; (with_reducible refine (forward_isIn.calls a0 0 99999999 t101 _ A2.out).mono ?_); rintro e w' ⟨rfl, ⟨nd, rfl⟩⟩; refine ⟨_, rfl, ?_⟩))
 go_ret
 exact ⟨zq2, zq3⟩
def forward_has.f (a0_0 : Int) (a0_1 : Int) (a1 : Int) : Option (Bool) := if a0_0 ≤ a1 then (some (decide (a1 < a0_1))) else (some false)
set_option maxHeartbeats 8000000 in
set_option maxRecDepth 100000 in
theorem forward_has.calls (a0_0 : Int) (a0_1 : Int) (a1 : Int) (r : Bool) (w : World) (h : forward_has.f a0_0 a0_1 a1 = some r) :
 Calls Tryz.prog 41 #[.agg #[.int .i64 a0_0, .int .i64 a0_1], .int .i64 a1] w fun e w' => e = .returned (.bool r) ∧ Below w.heap.size w w' := by
 have hu39 := Tryz.underlying39
 have HB := Aside0.mk (Below.refl w.heap.size w)
 have H : (if a0_0 ≤ a1 then (some (decide (a1 < a0_1))) else (some false)) = some r := h
 clear h
 by_cases c3 : a0_0 ≤ a1
 ·rw [if_pos c3] at H
  have c3b0 : decide (a0_0 ≤ a1) = true := decide_eq_true c3
  clear c3
  obtain rfl := Option.some.inj H
  go_enter Tryz.func41, Tryz.ntmps41
  go_wp2_with (first | ((with_reducible refine gate_dst (N := 2) rfl ?_); refine box_event ?hg (N := 2) ?hd (cs := #[.int .i64 a0_0, .int .i64 a0_1]) (t := 39) ?hr ?_; (case hd => rfl); (case hg => rfl); (case hr => exact zq4); intro gb102 hg w4 hbox hb; have BK102 := Aside0.mk (hbox); have GW102 := Aside0.mk ((zq5 : w.heap.size ≤ gb102)); have GE102 := Aside0.mk ((zq5 : w.heap.size ≤ gb102)); replace HB := Aside0.mk (below_step (zW HB) hb); clear hb hbox hg; have hcz5_0 : w4.cell? ⟨gb102, 0, none⟩ = some (.int .i64 a0_0) := (blk_cell BK102.out 0).trans rfl; have hcz5_1 : w4.cell? ⟨gb102, 1, none⟩ = some (.int .i64 a0_1) := (blk_cell BK102.out 1).trans rfl; have hfz5_0 := blk_frozen BK102.out 0; have hfz5_1 := blk_frozen BK102.out 1))
  go_ret
  exact ⟨zq6, zq7⟩
 rw [if_neg c3] at H
 have c3b0 : decide (a0_0 ≤ a1) = false := decide_eq_false c3
 clear c3
 obtain rfl := Option.some.inj H
 go_enter Tryz.func41, Tryz.ntmps41
 go_wp2_with (first | ((with_reducible refine gate_dst (N := 2) rfl ?_); refine box_event ?hg (N := 2) ?hd (cs := #[.int .i64 a0_0, .int .i64 a0_1]) (t := 39) ?hr ?_; (case hd => rfl); (case hg => rfl); (case hr => exact zq4); intro gb102 hg w6 hbox hb; have BK102 := Aside0.mk (hbox); have GW102 := Aside0.mk ((zq5 : w.heap.size ≤ gb102)); have GE102 := Aside0.mk ((zq5 : w.heap.size ≤ gb102)); replace HB := Aside0.mk (below_step (zW HB) hb); clear hb hbox hg; have hcz7_0 : w6.cell? ⟨gb102, 0, none⟩ = some (.int .i64 a0_0) := (blk_cell BK102.out 0).trans rfl; have hcz7_1 : w6.cell? ⟨gb102, 1, none⟩ = some (.int .i64 a0_1) := (blk_cell BK102.out 1).trans rfl; have hfz7_0 := blk_frozen BK102.out 0; have hfz7_1 := blk_frozen BK102.out 1))
 go_ret
 exact ⟨zq6, zq7⟩
def forward_isFormed.f (a0_0 : Int) (a0_1 : Int) (a0_2 : Int) (a0_3 : Int) (a0_4 : Int) : Option (Bool) := (forward_isNumber.f a0_0).bind fun t104 => (if t104 = true then ((forward_isNumber.f a0_2).bind fun t105 => (if t105 = true then (if a0_0 = a0_2 then (some false) else ((forward_isIn.f a0_1 1 4).bind fun t106 => (if t106 = true then (if 0 ≤ a0_3 then (if a0_3 < a0_4 then (some (decide (a0_4 ≤ 10000001))) else (some false)) else (some false)) else (some false)))) else (some false))) else (some false))
set_option maxHeartbeats 8000000 in
set_option maxRecDepth 100000 in
theorem forward_isFormed.calls (a0_0 : Int) (a0_1 : Int) (a0_2 : Int) (a0_3 : Int) (a0_4 : Int) (r : Bool) (w : World) (h : forward_isFormed.f a0_0 a0_1 a0_2 a0_3 a0_4 = some r) :
 Calls Tryz.prog 44 #[.agg #[.int .i64 a0_0, .int .i64 a0_1, .int .i64 a0_2, .int .i64 a0_3, .int .i64 a0_4]] w fun e w' => e = .returned (.bool r) ∧ Below w.heap.size w w' := by
 have hu41 := Tryz.underlying41
 have HB := Aside0.mk (Below.refl w.heap.size w)
 have H : ((forward_isNumber.f a0_0).bind fun t104 => (if t104 = true then ((forward_isNumber.f a0_2).bind fun t105 => (if t105 = true then (if a0_0 = a0_2 then (some false) else ((forward_isIn.f a0_1 1 4).bind fun t106 => (if t106 = true then (if 0 ≤ a0_3 then (if a0_3 < a0_4 then (some (decide (a0_4 ≤ 10000001))) else (some false)) else (some false)) else (some false)))) else (some false))) else (some false))) = some r := h
 clear h
 replace H := Option.bind_eq_some_iff.mp H
 obtain ⟨t104, A20, H⟩ := H
 try dsimp only at H
 have A2 := Aside0.mk A20
 clear A20
 by_cases c3 : t104 = true
 rotate_left
 ·replace c3 := Bool.eq_false_iff.mpr c3
  subst c3
  rw [if_neg (show ¬ (false = true) by decide)] at H
  obtain rfl := Option.some.inj H
  go_enter Tryz.func44, Tryz.ntmps44
  go_wp2_with (first | ((with_reducible refine gate_dst (N := 1) rfl ?_); refine box_event ?hg (N := 1) ?hd (cs := #[.int .i64 a0_0, .int .i64 a0_1, .int .i64 a0_2, .int .i64 a0_3, .int .i64 a0_4]) (t := 41) ?hr ?_; (case hd => rfl); (case hg => rfl); (case hr => exact zq4); intro gb103 hg w23 hbox hb; have BK103 := Aside0.mk (hbox); have GW103 := Aside0.mk ((zq5 : w.heap.size ≤ gb103)); have GE103 := Aside0.mk ((zq5 : w.heap.size ≤ gb103)); replace HB := Aside0.mk (below_step (zW HB) hb); clear hb hbox hg; have hcz24_0 : w23.cell? ⟨gb103, 0, none⟩ = some (.int .i64 a0_0) := (blk_cell BK103.out 0).trans rfl; have hcz24_1 : w23.cell? ⟨gb103, 1, none⟩ = some (.int .i64 a0_1) := (blk_cell BK103.out 1).trans rfl; have hcz24_2 : w23.cell? ⟨gb103, 2, none⟩ = some (.int .i64 a0_2) := (blk_cell BK103.out 2).trans rfl; have hcz24_3 : w23.cell? ⟨gb103, 3, none⟩ = some (.int .i64 a0_3) := (blk_cell BK103.out 3).trans rfl; have hcz24_4 : w23.cell? ⟨gb103, 4, none⟩ = some (.int .i64 a0_4) := (blk_cell BK103.out 4).trans rfl; have hfz24_0 := blk_frozen BK103.out 0; have hfz24_1 := blk_frozen BK103.out 1; have hfz24_2 := blk_frozen BK103.out 2; have hfz24_3 := blk_frozen BK103.out 3; have hfz24_4 := blk_frozen BK103.out 4) | ((with_reducible refine gate_callee (f := 29) rfl ?_); refine goesL_ (some 5) rfl rfl Tryz.func29 (by kernel_rfl) rfl #[.int .i64 a0_0] rfl zG ?_; (with_reducible refine (forward_isNumber.calls a0_0 false _ A2.out).mono ?_); rintro e w' ⟨rfl, ⟨nd, rfl⟩⟩; refine ⟨_, rfl, ?_⟩))
  go_ret
  exact ⟨zq6, zq8⟩
 subst c3
 rw [if_pos rfl] at H
 replace H := Option.bind_eq_some_iff.mp H
 obtain ⟨t105, A40, H⟩ := H
 try dsimp only at H
 have A4 := Aside0.mk A40
 clear A40
 by_cases c5 : t105 = true
 rotate_left
 ·replace c5 := Bool.eq_false_iff.mpr c5
  subst c5
  rw [if_neg (show ¬ (false = true) by decide)] at H
  obtain rfl := Option.some.inj H
  go_enter Tryz.func44, Tryz.ntmps44
  go_wp2_with (first | ((with_reducible refine gate_dst (N := 1) rfl ?_); refine box_event ?hg (N := 1) ?hd (cs := #[.int .i64 a0_0, .int .i64 a0_1, .int .i64 a0_2, .int .i64 a0_3, .int .i64 a0_4]) (t := 41) ?hr ?_; (case hd => rfl); (case hg => rfl); (case hr => exact zq4); intro gb103 hg w21 hbox hb; have BK103 := Aside0.mk (hbox); have GW103 := Aside0.mk ((zq5 : w.heap.size ≤ gb103)); have GE103 := Aside0.mk ((zq5 : w.heap.size ≤ gb103)); replace HB := Aside0.mk (below_step (zW HB) hb); clear hb hbox hg; have hcz22_0 : w21.cell? ⟨gb103, 0, none⟩ = some (.int .i64 a0_0) := (blk_cell BK103.out 0).trans rfl; have hcz22_1 : w21.cell? ⟨gb103, 1, none⟩ = some (.int .i64 a0_1) := (blk_cell BK103.out 1).trans rfl; have hcz22_2 : w21.cell? ⟨gb103, 2, none⟩ = some (.int .i64 a0_2) := (blk_cell BK103.out 2).trans rfl; have hcz22_3 : w21.cell? ⟨gb103, 3, none⟩ = some (.int .i64 a0_3) := (blk_cell BK103.out 3).trans rfl; have hcz22_4 : w21.cell? ⟨gb103, 4, none⟩ = some (.int .i64 a0_4) := (blk_cell BK103.out 4).trans rfl; have hfz22_0 := blk_frozen BK103.out 0; have hfz22_1 := blk_frozen BK103.out 1; have hfz22_2 := blk_frozen BK103.out 2; have hfz22_3 := blk_frozen BK103.out 3; have hfz22_4 := blk_frozen BK103.out 4) | ((with_reducible refine gate_callee (f := 29) rfl ?_); refine goesL_ (some 5) rfl rfl Tryz.func29 (by kernel_rfl) rfl #[.int .i64 a0_0] rfl zG ?_; (with_reducible refine (forward_isNumber.calls a0_0 true _ A2.out).mono ?_); rintro e w' ⟨rfl, ⟨nd, rfl⟩⟩; refine ⟨_, rfl, ?_⟩) | (go_at_call 29; (with_reducible refine (forward_isNumber.calls a0_2 false _ A4.out).mono ?_); rintro e w' ⟨rfl, ⟨nd, rfl⟩⟩))
  go_ret
  exact ⟨zq6, zq8⟩
 subst c5
 rw [if_pos rfl] at H
 by_cases c6 : a0_0 = a0_2
 ·rw [if_pos c6] at H
  have c6b0 : (a0_0 == a0_2) = true := beq_iff_eq.mpr c6
  have c6b1 : (a0_0 != a0_2) = false := bne_eq_false_iff_eq.mpr c6
  clear c6
  obtain rfl := Option.some.inj H
  go_enter Tryz.func44, Tryz.ntmps44
  go_wp2_with (first | ((with_reducible refine gate_dst (N := 1) rfl ?_); refine box_event ?hg (N := 1) ?hd (cs := #[.int .i64 a0_0, .int .i64 a0_1, .int .i64 a0_2, .int .i64 a0_3, .int .i64 a0_4]) (t := 41) ?hr ?_; (case hd => rfl); (case hg => rfl); (case hr => exact zq4); intro gb103 hg w7 hbox hb; have BK103 := Aside0.mk (hbox); have GW103 := Aside0.mk ((zq5 : w.heap.size ≤ gb103)); have GE103 := Aside0.mk ((zq5 : w.heap.size ≤ gb103)); replace HB := Aside0.mk (below_step (zW HB) hb); clear hb hbox hg; have hcz8_0 : w7.cell? ⟨gb103, 0, none⟩ = some (.int .i64 a0_0) := (blk_cell BK103.out 0).trans rfl; have hcz8_1 : w7.cell? ⟨gb103, 1, none⟩ = some (.int .i64 a0_1) := (blk_cell BK103.out 1).trans rfl; have hcz8_2 : w7.cell? ⟨gb103, 2, none⟩ = some (.int .i64 a0_2) := (blk_cell BK103.out 2).trans rfl; have hcz8_3 : w7.cell? ⟨gb103, 3, none⟩ = some (.int .i64 a0_3) := (blk_cell BK103.out 3).trans rfl; have hcz8_4 : w7.cell? ⟨gb103, 4, none⟩ = some (.int .i64 a0_4) := (blk_cell BK103.out 4).trans rfl; have hfz8_0 := blk_frozen BK103.out 0; have hfz8_1 := blk_frozen BK103.out 1; have hfz8_2 := blk_frozen BK103.out 2; have hfz8_3 := blk_frozen BK103.out 3; have hfz8_4 := blk_frozen BK103.out 4) | ((with_reducible refine gate_callee (f := 29) rfl ?_); refine goesL_ (some 5) rfl rfl Tryz.func29 (by kernel_rfl) rfl #[.int .i64 a0_0] rfl zG ?_; (with_reducible refine (forward_isNumber.calls a0_0 true _ A2.out).mono ?_); rintro e w' ⟨rfl, ⟨nd, rfl⟩⟩; refine ⟨_, rfl, ?_⟩) | (go_at_call 29; (with_reducible refine (forward_isNumber.calls a0_2 true _ A4.out).mono ?_); rintro e w' ⟨rfl, ⟨nd, rfl⟩⟩))
  go_ret
  exact ⟨zq6, zq8⟩
 rw [if_neg c6] at H
 have c6b0 : (a0_0 == a0_2) = false := beq_eq_false_iff_ne.mpr c6
 have c6b1 : (a0_0 != a0_2) = true := bne_iff_ne.mpr c6
 replace H := Option.bind_eq_some_iff.mp H
 obtain ⟨t106, A90, H⟩ := H
 try dsimp only at H
 have A9 := Aside0.mk A90
 clear A90
 by_cases c10 : t106 = true
 rotate_left
 ·replace c10 := Bool.eq_false_iff.mpr c10
  subst c10
  rw [if_neg (show ¬ (false = true) by decide)] at H
  obtain rfl := Option.some.inj H
  go_enter Tryz.func44, Tryz.ntmps44
  go_wp2_with (first | ((with_reducible refine gate_dst (N := 1) rfl ?_); refine box_event ?hg (N := 1) ?hd (cs := #[.int .i64 a0_0, .int .i64 a0_1, .int .i64 a0_2, .int .i64 a0_3, .int .i64 a0_4]) (t := 41) ?hr ?_; (case hd => rfl); (case hg => rfl); (case hr => exact zq4); intro gb103 hg w19 hbox hb; have BK103 := Aside0.mk (hbox); have GW103 := Aside0.mk ((zq5 : w.heap.size ≤ gb103)); have GE103 := Aside0.mk ((zq5 : w.heap.size ≤ gb103)); replace HB := Aside0.mk (below_step (zW HB) hb); clear hb hbox hg; have hcz20_0 : w19.cell? ⟨gb103, 0, none⟩ = some (.int .i64 a0_0) := (blk_cell BK103.out 0).trans rfl; have hcz20_1 : w19.cell? ⟨gb103, 1, none⟩ = some (.int .i64 a0_1) := (blk_cell BK103.out 1).trans rfl; have hcz20_2 : w19.cell? ⟨gb103, 2, none⟩ = some (.int .i64 a0_2) := (blk_cell BK103.out 2).trans rfl; have hcz20_3 : w19.cell? ⟨gb103, 3, none⟩ = some (.int .i64 a0_3) := (blk_cell BK103.out 3).trans rfl; have hcz20_4 : w19.cell? ⟨gb103, 4, none⟩ = some (.int .i64 a0_4) := (blk_cell BK103.out 4).trans rfl; have hfz20_0 := blk_frozen BK103.out 0; have hfz20_1 := blk_frozen BK103.out 1; have hfz20_2 := blk_frozen BK103.out 2; have hfz20_3 := blk_frozen BK103.out 3; have hfz20_4 := blk_frozen BK103.out 4) | ((with_reducible refine gate_callee (f := 29) rfl ?_); refine goesL_ (some 5) rfl rfl Tryz.func29 (by kernel_rfl) rfl #[.int .i64 a0_0] rfl zG ?_; (with_reducible refine (forward_isNumber.calls a0_0 true _ A2.out).mono ?_); rintro e w' ⟨rfl, ⟨nd, rfl⟩⟩; refine ⟨_, rfl, ?_⟩) | (go_at_call 29; (with_reducible refine (forward_isNumber.calls a0_2 true _ A4.out).mono ?_); rintro e w' ⟨rfl, ⟨nd, rfl⟩⟩) | (go_at_call 30; (with_reducible refine (forward_isIn.calls a0_1 1 4 false _ A9.out).mono ?_); rintro e w' ⟨rfl, ⟨nd, rfl⟩⟩))
  go_ret
  exact ⟨zq6, zq8⟩
 subst c10
 rw [if_pos rfl] at H
 by_cases c11 : 0 ≤ a0_3
 rotate_left
 ·rw [if_neg c11] at H
  have c11b0 : decide (0 ≤ a0_3) = false := decide_eq_false c11
  clear c11
  obtain rfl := Option.some.inj H
  go_enter Tryz.func44, Tryz.ntmps44
  go_wp2_with (first | ((with_reducible refine gate_dst (N := 1) rfl ?_); refine box_event ?hg (N := 1) ?hd (cs := #[.int .i64 a0_0, .int .i64 a0_1, .int .i64 a0_2, .int .i64 a0_3, .int .i64 a0_4]) (t := 41) ?hr ?_; (case hd => rfl); (case hg => rfl); (case hr => exact zq4); intro gb103 hg w17 hbox hb; have BK103 := Aside0.mk (hbox); have GW103 := Aside0.mk ((zq5 : w.heap.size ≤ gb103)); have GE103 := Aside0.mk ((zq5 : w.heap.size ≤ gb103)); replace HB := Aside0.mk (below_step (zW HB) hb); clear hb hbox hg; have hcz18_0 : w17.cell? ⟨gb103, 0, none⟩ = some (.int .i64 a0_0) := (blk_cell BK103.out 0).trans rfl; have hcz18_1 : w17.cell? ⟨gb103, 1, none⟩ = some (.int .i64 a0_1) := (blk_cell BK103.out 1).trans rfl; have hcz18_2 : w17.cell? ⟨gb103, 2, none⟩ = some (.int .i64 a0_2) := (blk_cell BK103.out 2).trans rfl; have hcz18_3 : w17.cell? ⟨gb103, 3, none⟩ = some (.int .i64 a0_3) := (blk_cell BK103.out 3).trans rfl; have hcz18_4 : w17.cell? ⟨gb103, 4, none⟩ = some (.int .i64 a0_4) := (blk_cell BK103.out 4).trans rfl; have hfz18_0 := blk_frozen BK103.out 0; have hfz18_1 := blk_frozen BK103.out 1; have hfz18_2 := blk_frozen BK103.out 2; have hfz18_3 := blk_frozen BK103.out 3; have hfz18_4 := blk_frozen BK103.out 4) | ((with_reducible refine gate_callee (f := 29) rfl ?_); refine goesL_ (some 5) rfl rfl Tryz.func29 (by kernel_rfl) rfl #[.int .i64 a0_0] rfl zG ?_; (with_reducible refine (forward_isNumber.calls a0_0 true _ A2.out).mono ?_); rintro e w' ⟨rfl, ⟨nd, rfl⟩⟩; refine ⟨_, rfl, ?_⟩) | (go_at_call 29; (with_reducible refine (forward_isNumber.calls a0_2 true _ A4.out).mono ?_); rintro e w' ⟨rfl, ⟨nd, rfl⟩⟩) | (go_at_call 30; (with_reducible refine (forward_isIn.calls a0_1 1 4 true _ A9.out).mono ?_); rintro e w' ⟨rfl, ⟨nd, rfl⟩⟩))
  go_ret
  exact ⟨zq6, zq8⟩
 rw [if_pos c11] at H
 have c11b0 : decide (0 ≤ a0_3) = true := decide_eq_true c11
 clear c11
 by_cases c12 : a0_3 < a0_4
 ·rw [if_pos c12] at H
  have c12b0 : decide (a0_3 < a0_4) = true := decide_eq_true c12
  clear c12
  obtain rfl := Option.some.inj H
  go_enter Tryz.func44, Tryz.ntmps44
  go_wp2_with (first | ((with_reducible refine gate_dst (N := 1) rfl ?_); refine box_event ?hg (N := 1) ?hd (cs := #[.int .i64 a0_0, .int .i64 a0_1, .int .i64 a0_2, .int .i64 a0_3, .int .i64 a0_4]) (t := 41) ?hr ?_; (case hd => rfl); (case hg => rfl); (case hr => exact zq4); intro gb103 hg w13 hbox hb; have BK103 := Aside0.mk (hbox); have GW103 := Aside0.mk ((zq5 : w.heap.size ≤ gb103)); have GE103 := Aside0.mk ((zq5 : w.heap.size ≤ gb103)); replace HB := Aside0.mk (below_step (zW HB) hb); clear hb hbox hg; have hcz14_0 : w13.cell? ⟨gb103, 0, none⟩ = some (.int .i64 a0_0) := (blk_cell BK103.out 0).trans rfl; have hcz14_1 : w13.cell? ⟨gb103, 1, none⟩ = some (.int .i64 a0_1) := (blk_cell BK103.out 1).trans rfl; have hcz14_2 : w13.cell? ⟨gb103, 2, none⟩ = some (.int .i64 a0_2) := (blk_cell BK103.out 2).trans rfl; have hcz14_3 : w13.cell? ⟨gb103, 3, none⟩ = some (.int .i64 a0_3) := (blk_cell BK103.out 3).trans rfl; have hcz14_4 : w13.cell? ⟨gb103, 4, none⟩ = some (.int .i64 a0_4) := (blk_cell BK103.out 4).trans rfl; have hfz14_0 := blk_frozen BK103.out 0; have hfz14_1 := blk_frozen BK103.out 1; have hfz14_2 := blk_frozen BK103.out 2; have hfz14_3 := blk_frozen BK103.out 3; have hfz14_4 := blk_frozen BK103.out 4) | ((with_reducible refine gate_callee (f := 29) rfl ?_); refine goesL_ (some 5) rfl rfl Tryz.func29 (by kernel_rfl) rfl #[.int .i64 a0_0] rfl zG ?_; (with_reducible refine (forward_isNumber.calls a0_0 true _ A2.out).mono ?_); rintro e w' ⟨rfl, ⟨nd, rfl⟩⟩; refine ⟨_, rfl, ?_⟩) | (go_at_call 29; (with_reducible refine (forward_isNumber.calls a0_2 true _ A4.out).mono ?_); rintro e w' ⟨rfl, ⟨nd, rfl⟩⟩) | (go_at_call 30; (with_reducible refine (forward_isIn.calls a0_1 1 4 true _ A9.out).mono ?_); rintro e w' ⟨rfl, ⟨nd, rfl⟩⟩))
  go_ret
  exact ⟨zq6, zq8⟩
 rw [if_neg c12] at H
 have c12b0 : decide (a0_3 < a0_4) = false := decide_eq_false c12
 clear c12
 obtain rfl := Option.some.inj H
 go_enter Tryz.func44, Tryz.ntmps44
 go_wp2_with (first | ((with_reducible refine gate_dst (N := 1) rfl ?_); refine box_event ?hg (N := 1) ?hd (cs := #[.int .i64 a0_0, .int .i64 a0_1, .int .i64 a0_2, .int .i64 a0_3, .int .i64 a0_4]) (t := 41) ?hr ?_; (case hd => rfl); (case hg => rfl); (case hr => exact zq4); intro gb103 hg w15 hbox hb; have BK103 := Aside0.mk (hbox); have GW103 := Aside0.mk ((zq5 : w.heap.size ≤ gb103)); have GE103 := Aside0.mk ((zq5 : w.heap.size ≤ gb103)); replace HB := Aside0.mk (below_step (zW HB) hb); clear hb hbox hg; have hcz16_0 : w15.cell? ⟨gb103, 0, none⟩ = some (.int .i64 a0_0) := (blk_cell BK103.out 0).trans rfl; have hcz16_1 : w15.cell? ⟨gb103, 1, none⟩ = some (.int .i64 a0_1) := (blk_cell BK103.out 1).trans rfl; have hcz16_2 : w15.cell? ⟨gb103, 2, none⟩ = some (.int .i64 a0_2) := (blk_cell BK103.out 2).trans rfl; have hcz16_3 : w15.cell? ⟨gb103, 3, none⟩ = some (.int .i64 a0_3) := (blk_cell BK103.out 3).trans rfl; have hcz16_4 : w15.cell? ⟨gb103, 4, none⟩ = some (.int .i64 a0_4) := (blk_cell BK103.out 4).trans rfl; have hfz16_0 := blk_frozen BK103.out 0; have hfz16_1 := blk_frozen BK103.out 1; have hfz16_2 := blk_frozen BK103.out 2; have hfz16_3 := blk_frozen BK103.out 3; have hfz16_4 := blk_frozen BK103.out 4) | ((with_reducible refine gate_callee (f := 29) rfl ?_); refine goesL_ (some 5) rfl rfl Tryz.func29 (by kernel_rfl) rfl #[.int .i64 a0_0] rfl zG ?_; (with_reducible refine (forward_isNumber.calls a0_0 true _ A2.out).mono ?_); rintro e w' ⟨rfl, ⟨nd, rfl⟩⟩; refine ⟨_, rfl, ?_⟩) | (go_at_call 29; (with_reducible refine (forward_isNumber.calls a0_2 true _ A4.out).mono ?_); rintro e w' ⟨rfl, ⟨nd, rfl⟩⟩) | (go_at_call 30; (with_reducible refine (forward_isIn.calls a0_1 1 4 true _ A9.out).mono ?_); rintro e w' ⟨rfl, ⟨nd, rfl⟩⟩))
 go_ret
 exact ⟨zq6, zq8⟩
end Go.Proofs.YtkfejgdeknemaaaGreatDoor.Fw
end
section
open Go.Proofs.YtkfejgdeknemaaaGreatDoor.Z
namespace Go.Proofs.YtkfejgdeknemaaaGreatDoor.Fw
open Go.RowKit Go.Proofs.YtkfejgdeknemaaaGreatDoorW.PrintWords Go.Proofs.YtkfejgdeknemaaaGreatDoorW.PrintLast Go.Proofs.YtkfejgdeknemaaaGreatDoorW.PrintMore
attribute [local go_sem] max2_int min2_int max_two min_two max_three min_three max_four min_four
set_option linter.unusedVariables false
set_option linter.unusedSimpArgs false
theorem eqA39 (d : Nat) (w : World) (x0 y0 : Int) (x1 y1 : Int) :
 (Op.equalIn (d + 2) 39 (.agg #[.int .i64 x0, .int .i64 x1]) (.agg #[.int .i64 y0, .int .i64 y1])).run Tryz.prog w = .ok (x0 == y0 && (x1 == y1)) w := by
 refine eqA_of Tryz.underlying39 (by kernel_rfl) ?_
 refine eqf_cons (by rfl) (zq17) (zq17) (by go_simp) ?_
 exact eqf_last (by rfl) (zq17) (zq17) (by go_simp)
theorem eqA41 (d : Nat) (w : World) (x0 y0 : Int) (x1 y1 : Int) (x2 y2 : Int) (x3 y3 : Int) (x4 y4 : Int) :
 (Op.equalIn (d + 3) 41 (.agg #[.int .i64 x0, .int .i64 x1, .int .i64 x2, .int .i64 x3, .int .i64 x4]) (.agg #[.int .i64 y0, .int .i64 y1, .int .i64 y2, .int .i64 y3, .int .i64 y4])).run Tryz.prog w = .ok (x0 == y0 && (x1 == y1 && (x2 == y2 && ((x3 == y3 && (x4 == y4)))))) w := by
 refine eqA_of Tryz.underlying41 (by kernel_rfl) ?_
 refine eqf_cons (by rfl) (zq17) (zq17) (by go_simp) ?_
 refine eqf_cons (by rfl) (zq17) (zq17) (by go_simp) ?_
 refine eqf_cons (by rfl) (zq17) (zq17) (by go_simp) ?_
 exact eqf_last (by rfl) (by go_simp) (by go_simp) (eqA39 (d + 0) w _ _ _ _)
end Go.Proofs.YtkfejgdeknemaaaGreatDoor.Fw
end
section
open Go.Proofs.YtkfejgdeknemaaaGreatDoor.Z
namespace Go.Proofs.YtkfejgdeknemaaaGreatDoor.Fw
open Go.RowKit Go.Proofs.YtkfejgdeknemaaaGreatDoorW.PrintWords Go.Proofs.YtkfejgdeknemaaaGreatDoorW.PrintLast Go.Proofs.YtkfejgdeknemaaaGreatDoorW.PrintMore
attribute [local go_sem] max2_int min2_int max_two min_two max_three min_three max_four min_four
set_option linter.unusedVariables false
set_option linter.unusedSimpArgs false
def dialtonelaw22_settings.f  : Option ((List (S41))) := some (([(⟨10, 1, 20, (⟨0, 1000⟩ : S39)⟩ : S41), (⟨20, 2, 30, (⟨0, 1000⟩ : S39)⟩ : S41), (⟨30, 1, 10, (⟨500, 1000⟩ : S39)⟩ : S41)] : List (S41)))
set_option maxHeartbeats 8000000 in
set_option maxRecDepth 100000 in
theorem dialtonelaw22_settings.calls  (r : List (S41)) (w : World) (h : dialtonelaw22_settings.f  = some r) :
 Calls Tryz.prog 20 #[] w fun e w' => ∃ v0_ : Value, e = .returned (v0_) ∧ Kd.R k41 41 w' w.heap.size (fun _ => True) v0_ r ∧ Below w.heap.size w w' := by
 have hu39 := Tryz.underlying39
 have hu41 := Tryz.underlying41
 have HB := Aside0.mk (Below.refl w.heap.size w)
 have H : (some (([(⟨10, 1, 20, (⟨0, 1000⟩ : S39)⟩ : S41), (⟨20, 2, 30, (⟨0, 1000⟩ : S39)⟩ : S41), (⟨30, 1, 10, (⟨500, 1000⟩ : S39)⟩ : S41)] : List (S41)))) = some r := h
 clear h
 obtain ⟨y123, hy123⟩ : ∃ y_ : List (S41), y_ = (([(⟨10, 1, 20, (⟨0, 1000⟩ : S39)⟩ : S41), (⟨20, 2, 30, (⟨0, 1000⟩ : S39)⟩ : S41), (⟨30, 1, 10, (⟨500, 1000⟩ : S39)⟩ : S41)] : List (S41))) := ⟨_, rfl⟩
 replace H : (some y123) = some r := by first | (rw [hy123]; with_reducible exact H) | (have H2_ := (Option.bind_some _ _).symm.trans H; rw [hy123]; with_reducible exact H2_) | (have H2_ := (Option.bind_some _ _).symm.trans H; with_reducible exact H2_) | with_reducible exact H | (rw [hy123]; exact H) | exact H
 have Ny123 := Aside0.mk hy123
 clear hy123
 obtain rfl := Option.some.inj H
 go_enter Tryz.func20, Tryz.ntmps20
 go_wp2_with (first | ((with_reducible refine gate_dst (N := 7) rfl ?_); refine Kd.R_lit k41 _ 41 ?hg (N := 7) ?hd (xs := ([(⟨10, 1, 20, (⟨0, 1000⟩ : S39)⟩ : S41), (⟨20, 2, 30, (⟨0, 1000⟩ : S39)⟩ : S41), (⟨30, 1, 10, (⟨500, 1000⟩ : S39)⟩ : S41)] : List (S41))) (inner := [.int .i64 10, .int .i64 1, .int .i64 20, .int .i64 0, .int .i64 1000, .int .i64 20, .int .i64 2, .int .i64 30, .int .i64 0, .int .i64 1000, .int .i64 30, .int .i64 1, .int .i64 10, .int .i64 500, .int .i64 1000]) (ok := fun _ => True) (okp := fun _ => True) ?hr ?hp (fun _ hk => hk) trivial (Below.refl _ _) (Nat.le_refl _) (by simp) ?_; (case hd => rfl); (case hg => rfl); (case hr => exact zq4); (case hp => exact (Reps.c5 (show Kd.M k41 _ _ _ (⟨10, 1, 20, (⟨0, 1000⟩ : S39)⟩ : S41) [.int .i64 10, .int .i64 1, .int .i64 20, .int .i64 0, .int .i64 1000] from (k41_mkM _ _ _ (⟨10, 1, 20, (⟨0, 1000⟩ : S39)⟩ : S41) )) (Reps.c5 (show Kd.M k41 _ _ _ (⟨20, 2, 30, (⟨0, 1000⟩ : S39)⟩ : S41) [.int .i64 20, .int .i64 2, .int .i64 30, .int .i64 0, .int .i64 1000] from (k41_mkM _ _ _ (⟨20, 2, 30, (⟨0, 1000⟩ : S39)⟩ : S41) )) (Reps.c5 (show Kd.M k41 _ _ _ (⟨30, 1, 10, (⟨500, 1000⟩ : S39)⟩ : S41) [.int .i64 30, .int .i64 1, .int .i64 10, .int .i64 500, .int .i64 1000] from (k41_mkM _ _ _ (⟨30, 1, 10, (⟨500, 1000⟩ : S39)⟩ : S41) )) (Reps.none _ _))))); intro v124 w1 ho2 hb hg_ hnew_; clear hg_ hnew_; (first | rw [← Ny123.out] at ho2 | (simp only [Int.reduceToNat] at ho2; rw [← Ny123.out] at ho2)); have HO125 := Aside0.mk (Kd.R_lower ho2 (below_size (zW HB))); replace HB := Aside0.mk (below_step (zW HB) hb); clear hb ho2))
 go_ret
 exact ⟨_, zq6, by (with_reducible repeat (first | apply Kd.R_alloc | apply Kd.R_drewN | apply Kd.R_drew)); exact HO125.out, zq18⟩
end Go.Proofs.YtkfejgdeknemaaaGreatDoor.Fw
end
section
open Go.Proofs.YtkfejgdeknemaaaGreatDoor.Z
namespace Go.Proofs.YtkfejgdeknemaaaGreatDoor.Fw
open Go.RowKit Go.Proofs.YtkfejgdeknemaaaGreatDoorW.PrintWords Go.Proofs.YtkfejgdeknemaaaGreatDoorW.PrintLast Go.Proofs.YtkfejgdeknemaaaGreatDoorW.PrintMore
attribute [local go_sem] max2_int min2_int max_two min_two max_three min_three max_four min_four
set_option linter.unusedVariables false
set_option linter.unusedSimpArgs false
theorem eqA86 (d : Nat) (w : World) (x0 y0 : Int) (x1 y1 : Int) (x2 y2 : Int) (x3 y3 : Int) :
 (Op.equalIn (d + 2) 86 (.agg #[.int .i64 x0, .int .i64 x1, .int .i64 x2, .int .i64 x3]) (.agg #[.int .i64 y0, .int .i64 y1, .int .i64 y2, .int .i64 y3])).run Tryz.prog w = .ok (x0 == y0 && (x1 == y1 && (x2 == y2 && (x3 == y3)))) w := by
 refine eqA_of Tryz.underlying86 (by kernel_rfl) ?_
 refine eqf_cons (by rfl) (zq17) (zq17) (by go_simp) ?_
 refine eqf_cons (by rfl) (zq17) (zq17) (by go_simp) ?_
 refine eqf_cons (by rfl) (zq17) (zq17) (by go_simp) ?_
 exact eqf_last (by rfl) (zq17) (zq17) (by go_simp)
end Go.Proofs.YtkfejgdeknemaaaGreatDoor.Fw
end
section
open Go.Proofs.YtkfejgdeknemaaaGreatDoor.Z
namespace Go.Proofs.YtkfejgdeknemaaaGreatDoor.Fw
open Go.RowKit Go.Proofs.YtkfejgdeknemaaaGreatDoorW.PrintWords Go.Proofs.YtkfejgdeknemaaaGreatDoorW.PrintLast Go.Proofs.YtkfejgdeknemaaaGreatDoorW.PrintMore
attribute [local go_sem] max2_int min2_int max_two min_two max_three min_three max_four min_four
set_option linter.unusedVariables false
set_option linter.unusedSimpArgs false
def strings_Trim.f (s cut : ByteArray) : Option ByteArray :=
 if s.size ≤ 9223372036854775807 ∧ cut.size < 4294967281 ∧ cut.data.toList.all (fun b => decide (b.toNat < 128)) = true then some ⟨(Lib.trimS s.data.toList cut.data.toList).toArray⟩ else none
theorem strings_Trim.calls (s cut : ByteArray) (r : ByteArray) (w : World) (h : strings_Trim.f s cut = some r) :
 Calls Tryz.prog 93 #[.string s, .string cut] w fun e w' => e = .returned (.string r) ∧ Below w.heap.size w w' := by
 unfold strings_Trim.f at h
 split at h
 ·rename_i hc
  obtain ⟨h1, h2, h3⟩ := hc
  obtain rfl := Option.some.inj h
  refine Tryz.strings_Trim_laid s cut w h1 h2 (fun j b hb => ?_)
  have := List.all_eq_true.1 h3 b (List.mem_of_getElem? hb)
  exact of_decide_eq_true this
 ·cases h
end Go.Proofs.YtkfejgdeknemaaaGreatDoor.Fw
end
section
open Go.Proofs.YtkfejgdeknemaaaGreatDoor.Z
namespace Go.Proofs.YtkfejgdeknemaaaGreatDoor.Fw
open Go.RowKit Go.Proofs.YtkfejgdeknemaaaGreatDoorW.PrintWords Go.Proofs.YtkfejgdeknemaaaGreatDoorW.PrintLast Go.Proofs.YtkfejgdeknemaaaGreatDoorW.PrintMore
attribute [local go_sem] max2_int min2_int max_two min_two max_three min_three max_four min_four
set_option linter.unusedVariables false
set_option linter.unusedSimpArgs false
def plan_isDigits.f (a0 : ByteArray) : Option (Bool) := (strings_Trim.f a0 (⟨#[48, 49, 50, 51, 52, 53, 54, 55, 56, 57]⟩ : ByteArray)).bind fun t126 => (some (t126.toList == ([] : List UInt8)))
set_option maxHeartbeats 8000000 in
set_option maxRecDepth 100000 in
theorem plan_isDigits.calls (a0 : ByteArray) (r : Bool) (w : World) (h : plan_isDigits.f a0 = some r) :
 Calls Tryz.prog 61 #[.string a0] w fun e w' => e = .returned (.bool r) ∧ Below w.heap.size w w' := by
 have HB := Aside0.mk (Below.refl w.heap.size w)
 have H : ((strings_Trim.f a0 (⟨#[48, 49, 50, 51, 52, 53, 54, 55, 56, 57]⟩ : ByteArray)).bind fun t126 => (some (t126.toList == ([] : List UInt8)))) = some r := h
 clear h
 replace H := Option.bind_eq_some_iff.mp H
 obtain ⟨t126, A20, H⟩ := H
 try dsimp only at H
 have A2 := Aside0.mk A20
 clear A20
 obtain rfl := Option.some.inj H
 go_enter Tryz.func61, Tryz.ntmps61
 go_wp2_with (first | ((with_reducible refine gate_callee (f := 93) rfl ?_); refine goesL_ (some 4) rfl rfl Tryz.func93 (by kernel_rfl) rfl #[.string a0, .string (⟨#[48, 49, 50, 51, 52, 53, 54, 55, 56, 57]⟩ : ByteArray)] rfl zG ?_; (with_reducible refine (strings_Trim.calls a0 (⟨#[48, 49, 50, 51, 52, 53, 54, 55, 56, 57]⟩ : ByteArray) t126 _ A2.out).mono ?_); rintro e w3 ⟨rfl, hb⟩; refine ⟨_, rfl, ?_⟩; replace HB := Aside0.mk (below_step (zW HB) hb); (try clear hb); (try clear hb2); (try clear hk); (try clear hi)))
 go_ret
 exact ⟨zq6, zq18⟩
end Go.Proofs.YtkfejgdeknemaaaGreatDoor.Fw
end
section
open Go.Proofs.YtkfejgdeknemaaaGreatDoor.Z
namespace Go.Proofs.YtkfejgdeknemaaaGreatDoor.Fw
open Go.RowKit Go.Proofs.YtkfejgdeknemaaaGreatDoorW.PrintWords Go.Proofs.YtkfejgdeknemaaaGreatDoorW.PrintLast Go.Proofs.YtkfejgdeknemaaaGreatDoorW.PrintMore
attribute [local go_sem] max2_int min2_int max_two min_two max_three min_three max_four min_four
set_option linter.unusedVariables false
set_option linter.unusedSimpArgs false
def strings_HasPrefix.f (s p : ByteArray) : Option Bool := some (Lib.hasPrefix s.data.toList p.data.toList)
theorem strings_HasPrefix.calls (s p : ByteArray) (r : Bool) (w : World) (h : strings_HasPrefix.f s p = some r) :
 Calls Tryz.prog 65 #[.string s, .string p] w fun e w' => e = .returned (.bool r) ∧ Below w.heap.size w w' := by
 obtain rfl := Option.some.inj h
 exact (Tryz.strings_HasPrefix s p w).mono fun e w' ⟨he, hw⟩ => ⟨he, hw ▸ Below.refl _ _⟩
end Go.Proofs.YtkfejgdeknemaaaGreatDoor.Fw
end
section
open Go.Proofs.YtkfejgdeknemaaaGreatDoor.Z
namespace Go.Proofs.YtkfejgdeknemaaaGreatDoor.Fw
open Go.RowKit Go.Proofs.YtkfejgdeknemaaaGreatDoorW.PrintWords Go.Proofs.YtkfejgdeknemaaaGreatDoorW.PrintLast Go.Proofs.YtkfejgdeknemaaaGreatDoorW.PrintMore
attribute [local go_sem] max2_int min2_int max_two min_two max_three min_three max_four min_four
set_option linter.unusedVariables false
set_option linter.unusedSimpArgs false
def plan_areApart.f (a0 : ByteArray) (a1 : ByteArray) : Option (Bool) := (strings_HasPrefix.f a0 a1).bind fun t127 => (if t127 = true then (some false) else ((strings_HasPrefix.f a1 a0).bind fun t128 => (some (!t128))))
set_option maxHeartbeats 8000000 in
set_option maxRecDepth 100000 in
theorem plan_areApart.calls (a0 : ByteArray) (a1 : ByteArray) (r : Bool) (w : World) (h : plan_areApart.f a0 a1 = some r) :
 Calls Tryz.prog 91 #[.string a0, .string a1] w fun e w' => e = .returned (.bool r) ∧ Below w.heap.size w w' := by
 have HB := Aside0.mk (Below.refl w.heap.size w)
 have H : ((strings_HasPrefix.f a0 a1).bind fun t127 => (if t127 = true then (some false) else ((strings_HasPrefix.f a1 a0).bind fun t128 => (some (!t128))))) = some r := h
 clear h
 replace H := Option.bind_eq_some_iff.mp H
 obtain ⟨t127, A30, H⟩ := H
 try dsimp only at H
 have A3 := Aside0.mk A30
 clear A30
 by_cases c4 : t127 = true
 ·subst c4
  rw [if_pos rfl] at H
  obtain rfl := Option.some.inj H
  go_enter Tryz.func91, Tryz.ntmps91
  go_wp2_with (first | ((with_reducible refine gate_callee (f := 65) rfl ?_); refine goesL_ (some 7) rfl rfl Tryz.func65 (by kernel_rfl) rfl #[.string a0, .string a1] rfl zG ?_; (with_reducible refine (strings_HasPrefix.calls a0 a1 true _ A3.out).mono ?_); rintro e w5 ⟨rfl, hb⟩; refine ⟨_, rfl, ?_⟩; replace HB := Aside0.mk (below_step (zW HB) hb); (try clear hb); (try clear hb2); (try clear hk); (try clear hi)))
  go_ret
  exact ⟨zq6, zq18⟩
 replace c4 := Bool.eq_false_iff.mpr c4
 subst c4
 rw [if_neg (show ¬ (false = true) by decide)] at H
 replace H := Option.bind_eq_some_iff.mp H
 obtain ⟨t128, A60, H⟩ := H
 try dsimp only at H
 have A6 := Aside0.mk A60
 clear A60
 obtain rfl := Option.some.inj H
 go_enter Tryz.func91, Tryz.ntmps91
 go_wp2_with (first | ((with_reducible refine gate_callee (f := 65) rfl ?_); refine goesL_ (some 7) rfl rfl Tryz.func65 (by kernel_rfl) rfl #[.string a0, .string a1] rfl zG ?_; (with_reducible refine (strings_HasPrefix.calls a0 a1 false _ A3.out).mono ?_); rintro e w7 ⟨rfl, hb⟩; refine ⟨_, rfl, ?_⟩; replace HB := Aside0.mk (below_step (zW HB) hb); (try clear hb); (try clear hb2); (try clear hk); (try clear hi)) | (go_at_call 65; (with_reducible refine (strings_HasPrefix.calls a1 a0 t128 _ A6.out).mono ?_); rintro e w8 ⟨rfl, hb⟩; replace HB := Aside0.mk (below_step (zW HB) hb); (try clear hb); (try clear hb2); (try clear hk); (try clear hi)))
 go_ret
 exact ⟨zq6, zq18⟩
def plan_isWithin.f (a0 : Int) (a1 : Int) (a2 : Int) : Option (Bool) := if a1 ≤ a0 then (some (decide (a0 ≤ a2))) else (some false)
set_option maxHeartbeats 8000000 in
set_option maxRecDepth 100000 in
theorem plan_isWithin.calls (a0 : Int) (a1 : Int) (a2 : Int) (r : Bool) (w : World) (h : plan_isWithin.f a0 a1 a2 = some r) :
 Calls Tryz.prog 94 #[.int .i64 a0, .int .i64 a1, .int .i64 a2] w fun e w' => e = .returned (.bool r) ∧ Drawn0 w w' := by
 have H : (if a1 ≤ a0 then (some (decide (a0 ≤ a2))) else (some false)) = some r := h
 clear h
 by_cases c4 : a1 ≤ a0
 ·rw [if_pos c4] at H
  have c4b0 : decide (a1 ≤ a0) = true := decide_eq_true c4
  clear c4
  obtain rfl := Option.some.inj H
  go_enter Tryz.func94, Tryz.ntmps94
  go_wp2
  go_ret
  exact ⟨zq2, zq3⟩
 rw [if_neg c4] at H
 have c4b0 : decide (a1 ≤ a0) = false := decide_eq_false c4
 clear c4
 obtain rfl := Option.some.inj H
 go_enter Tryz.func94, Tryz.ntmps94
 go_wp2
 go_ret
 exact ⟨zq2, zq3⟩
def plan_room.f (a0_0 : ByteArray) (a0_1 : ByteArray) (a0_2 : Int) : Option (Int) := some (wrap64 (a0_2 - (a0_0.size : Int)))
set_option maxHeartbeats 8000000 in
set_option maxRecDepth 100000 in
theorem plan_room.calls (a0_0 : ByteArray) (a0_1 : ByteArray) (a0_2 : Int) (r : Int) (w : World) (h : plan_room.f a0_0 a0_1 a0_2 = some r) :
 Calls Tryz.prog 96 #[.agg #[.string a0_0, .string a0_1, .int .i64 a0_2]] w fun e w' => e = .returned (.int .i64 r) ∧ Below w.heap.size w w' := by
 have hu58 := Tryz.underlying58
 have HB := Aside0.mk (Below.refl w.heap.size w)
 have H : (some (wrap64 (a0_2 - (a0_0.size : Int)))) = some r := h
 clear h
 obtain rfl := Option.some.inj H
 go_enter Tryz.func96, Tryz.ntmps96
 go_wp2_with (first | ((with_reducible refine gate_dst (N := 1) rfl ?_); refine box_event ?hg (N := 1) ?hd (cs := #[.string a0_0, .string a0_1, .int .i64 a0_2]) (t := 58) ?hr ?_; (case hd => rfl); (case hg => rfl); (case hr => exact zq4); intro gb129 hg w2 hbox hb; have BK129 := Aside0.mk (hbox); have GW129 := Aside0.mk ((zq5 : w.heap.size ≤ gb129)); have GE129 := Aside0.mk ((zq5 : w.heap.size ≤ gb129)); replace HB := Aside0.mk (below_step (zW HB) hb); clear hb hbox hg; have hcz3_0 : w2.cell? ⟨gb129, 0, none⟩ = some (.string a0_0) := (blk_cell BK129.out 0).trans rfl; have hcz3_1 : w2.cell? ⟨gb129, 1, none⟩ = some (.string a0_1) := (blk_cell BK129.out 1).trans rfl; have hcz3_2 : w2.cell? ⟨gb129, 2, none⟩ = some (.int .i64 a0_2) := (blk_cell BK129.out 2).trans rfl; have hfz3_0 := blk_frozen BK129.out 0; have hfz3_1 := blk_frozen BK129.out 1; have hfz3_2 := blk_frozen BK129.out 2))
 go_ret
 exact ⟨zq6, by repeat (first | (with_reducible first | exact HB.out | apply below_alloc | apply pw_below_drewN | apply below_drew1 | refine below_set ?_ GE129.out) | exact HB.out)⟩
def plan_isCode.j0 : Nat → Bool → ByteArray → ByteArray → Int → Option (Bool)
 | 0, _, _, _, _ => none
 | k + 1, x33, x131000, x131001, x131002 => if x33 = true then (some false) else ((plan_room.f x131000 x131001 x131002).bind fun t135 => (if t135 ≤ (wrap64 (8 - (x131001.size : Int))) then ((plan_areApart.f x131000 x131001).bind fun t136 => (some t136)) else (some false)))
def plan_isCode.f (k : Nat) (a0_0 : ByteArray) (a0_1 : ByteArray) (a0_2 : Int) : Option (Bool) := if a0_0.size + a0_1.size ≤ 9223372036854775807 then ((plan_isDigits.f (a0_0 ++ a0_1)).bind fun t131 => (if t131 = true then ((plan_isWithin.f (a0_0.size : Int) 1 4).bind fun t132 => (if t132 = true then ((plan_isWithin.f (a0_1.size : Int) 1 5).bind fun t133 => (if t133 = true then ((plan_isWithin.f a0_2 (wrap64 ((a0_0.size : Int) + 1)) 7).bind fun t134 => (plan_isCode.j0 k (!t134) a0_0 a0_1 a0_2)) else (plan_isCode.j0 k true a0_0 a0_1 a0_2))) else (plan_isCode.j0 k true a0_0 a0_1 a0_2))) else (plan_isCode.j0 k true a0_0 a0_1 a0_2))) else (none)
theorem plan_isCode.mono_l : ∀ k, (∀ y0 y1 y2 y3, LeO (plan_isCode.j0 k y0 y1 y2 y3) (plan_isCode.j0 (k + 1) y0 y1 y2 y3))
 | 0 => fun _ _ _ _ r h => by simp [plan_isCode.j0] at h
 | k + 1 => by
  have ih0 := plan_isCode.mono_l k
  ·intro y0 y1 y2 y3
   unfold plan_isCode.j0
   repeat' first
   | (with_reducible exact ih0 _ _ _ _)
   | (with_reducible exact LeO.refl _)
   | (with_reducible exact LeO.none _)
   | (with_reducible refine LeO.ite ?_ ?_)
   | (with_reducible refine LeO.bind ?_ (fun _ => ?_))
   | exact ih0 _ _ _ _
   | exact LeO.none _
   | refine LeO.ite ?_ ?_
   | refine LeO.bind ?_ (fun _ => ?_)
theorem plan_isCode.mono : ∀ a0 a1 a2 k, LeO (plan_isCode.f k a0 a1 a2) (plan_isCode.f (k + 1) a0 a1 a2) := by
 intro a0 a1 a2 k
 have ih0 := plan_isCode.mono_l k
 unfold plan_isCode.f
 repeat' first
  | (with_reducible exact ih0 _ _ _ _)
  | (with_reducible exact LeO.refl _)
  | (with_reducible exact LeO.none _)
  | (with_reducible refine LeO.ite ?_ ?_)
  | (with_reducible refine LeO.bind ?_ (fun _ => ?_))
  | exact ih0 _ _ _ _
  | exact LeO.none _
  | refine LeO.ite ?_ ?_
  | refine LeO.bind ?_ (fun _ => ?_)
def plan_isCode.T3 : Bool × List (List Nat × List Nat) := (true, [([], []), ([0], [0]), ([], []), ([2], [2]), ([3], [3]), ([4], [4]), ([1, 5], [1, 5]), ([6, 1], [6]), ([7], [7]), ([8, 7], [7, 8]), ([7], [7]), ([10, 7], [7, 10]), ([9, 11, 7, 7], [7, 9, 11]), ([7, 12], [7, 12]), ([13, 12, 0, 1, 2, 3, 4, 5, 6, 7, 8, 9, 10, 11, 12, 13], [13])])
def plan_isCode.B3 : List Nat := [0, 1, 0, 4, 12, 28, 63, 127, 255, 511, 255, 1279, 4095, 8191, 16383]
theorem plan_isCode.tab3 : rtab .any (opsOf Tryz.f89 3) = plan_isCode.T3 := by kernel_rfl
theorem plan_isCode.bits3 : waitsOk plan_isCode.T3.2 plan_isCode.B3 = true := by kernel_rfl
set_option maxHeartbeats 8000000 in
set_option maxRecDepth 100000 in
theorem plan_isCode.calls (k : Nat) (a0_0 : ByteArray) (a0_1 : ByteArray) (a0_2 : Int) (r : Bool) (w : World) (h : plan_isCode.f k a0_0 a0_1 a0_2 = some r) :
 Calls Tryz.prog 89 #[.agg #[.string a0_0, .string a0_1, .int .i64 a0_2]] w fun e w' => e = .returned (.bool r) ∧ Below w.heap.size w w' := by
 have hu58 := Tryz.underlying58
 have HB := Aside0.mk (Below.refl w.heap.size w)
 have H : (if a0_0.size + a0_1.size ≤ 9223372036854775807 then ((plan_isDigits.f (a0_0 ++ a0_1)).bind fun t131 => (if t131 = true then ((plan_isWithin.f (a0_0.size : Int) 1 4).bind fun t132 => (if t132 = true then ((plan_isWithin.f (a0_1.size : Int) 1 5).bind fun t133 => (if t133 = true then ((plan_isWithin.f a0_2 (wrap64 ((a0_0.size : Int) + 1)) 7).bind fun t134 => (plan_isCode.j0 k (!t134) a0_0 a0_1 a0_2)) else (plan_isCode.j0 k true a0_0 a0_1 a0_2))) else (plan_isCode.j0 k true a0_0 a0_1 a0_2))) else (plan_isCode.j0 k true a0_0 a0_1 a0_2))) else (none)) = some r := h
 clear h
 have HC2 := Aside0.mk H
 clear H
 go_enter Tryz.func89, Tryz.ntmps89
 go_upto_region 1 with (first | ((with_reducible refine gate_dst (N := 1) rfl ?_); (try (refine gate_guard (by rfl) ?_; dsimp only)); refine box_event ?hg (N := 1) ?hd (cs := #[.string a0_0, .string a0_1, .int .i64 a0_2]) (t := 58) ?hr ?_; (case hd => rfl); (case hg => rfl); (case hr => exact zq4); intro gb130 hg w3 hbox hb; have BK130 := Aside0.mk (hbox); have GW130 := Aside0.mk ((zq5 : w.heap.size ≤ gb130)); have GE130 := Aside0.mk ((zq5 : w.heap.size ≤ gb130)); replace HB := Aside0.mk (below_step (zW HB) hb); clear hb hbox hg))
 (try simp only [Act.put, List.setIfInBounds_toArray, List.set_cons_zero, List.set_cons_succ])
 go_cut [33] (fun v33 wc => ∃ (kq : Nat) (x33_1 : Bool), v33 = .bool x33_1 ∧ Aside0 (plan_isCode.j0 kq x33_1 a0_0 a0_1 a0_2 = some r) ∧ Aside0 (kq ≤ k) ∧ Aside0 (wc.heap[gb130]? = some (.cells #[.string a0_0, .string a0_1, .int .i64 a0_2] 58 (0, 0))) ∧ Aside0 (Below w.heap.size w wc))
 case first =>
  have H := HC2.out
  clear HC2
  by_cases c4 : a0_0.size + a0_1.size ≤ 9223372036854775807
  rotate_left
  ·rw [if_neg c4] at H
   exact absurd H (by simp)
  rw [if_pos c4] at H
  have c4b0 := eq_true c4
  have c4b1 : decide (a0_0.size + a0_1.size ≤ 9223372036854775807) = true := decide_eq_true c4
  try have c4b2 : (9223372036854775807 < a0_0.size + a0_1.size) = False := eq_false (Nat.not_lt.2 c4)
  replace H := Option.bind_eq_some_iff.mp H
  obtain ⟨t131, A50, H⟩ := H
  try dsimp only at H
  have A5 := Aside0.mk A50
  clear A50
  by_cases c6 : t131 = true
  rotate_left
  ·replace c6 := Bool.eq_false_iff.mpr c6
   subst c6
   rw [if_neg (show ¬ (false = true) by decide)] at H
   have H' := Aside0.mk H
   clear H
   have hcz21_0 : w3.cell? ⟨gb130, 0, none⟩ = some (.string a0_0) := (blk_cell BK130.out 0).trans rfl
   have hcz21_1 : w3.cell? ⟨gb130, 1, none⟩ = some (.string a0_1) := (blk_cell BK130.out 1).trans rfl
   have hcz21_2 : w3.cell? ⟨gb130, 2, none⟩ = some (.int .i64 a0_2) := (blk_cell BK130.out 2).trans rfl
   have hfz21_0 := blk_frozen BK130.out 0
   have hfz21_1 := blk_frozen BK130.out 1
   have hfz21_2 := blk_frozen BK130.out 2
   go_wp2_with (first | ((with_reducible refine gate_callee (f := 61) rfl ?_); refine goesL_ (some 8) rfl rfl Tryz.func61 (by kernel_rfl) rfl #[.string (a0_0 ++ a0_1)] rfl zG ?_; (with_reducible refine (plan_isDigits.calls (a0_0 ++ a0_1) false _ A5.out).mono ?_); rintro e w22 ⟨rfl, hb⟩; refine ⟨_, rfl, ?_⟩; replace BK130 := Aside0.mk (blk_below (zB BK130) hb); replace HB := Aside0.mk (below_step (zW HB) hb); (try clear hb); (try clear hb2); (try clear hk); (try clear hi)))
   go_meet
   case rel => exact ⟨_, (true), (zq2), H', ⟨zq19⟩, ⟨zq20⟩, ⟨zq21⟩⟩
  subst c6
  rw [if_pos rfl] at H
  replace H := Option.bind_eq_some_iff.mp H
  obtain ⟨t132, A70, H⟩ := H
  try dsimp only at H
  have A7 := Aside0.mk A70
  clear A70
  by_cases c8 : t132 = true
  rotate_left
  ·replace c8 := Bool.eq_false_iff.mpr c8
   subst c8
   rw [if_neg (show ¬ (false = true) by decide)] at H
   have H' := Aside0.mk H
   clear H
   have hcz18_0 : w3.cell? ⟨gb130, 0, none⟩ = some (.string a0_0) := (blk_cell BK130.out 0).trans rfl
   have hcz18_1 : w3.cell? ⟨gb130, 1, none⟩ = some (.string a0_1) := (blk_cell BK130.out 1).trans rfl
   have hcz18_2 : w3.cell? ⟨gb130, 2, none⟩ = some (.int .i64 a0_2) := (blk_cell BK130.out 2).trans rfl
   have hfz18_0 := blk_frozen BK130.out 0
   have hfz18_1 := blk_frozen BK130.out 1
   have hfz18_2 := blk_frozen BK130.out 2
   go_wp2_with (first | ((with_reducible refine gate_callee (f := 61) rfl ?_); refine goesL_ (some 8) rfl rfl Tryz.func61 (by kernel_rfl) rfl #[.string (a0_0 ++ a0_1)] rfl zG ?_; (with_reducible refine (plan_isDigits.calls (a0_0 ++ a0_1) true _ A5.out).mono ?_); rintro e w19 ⟨rfl, hb⟩; refine ⟨_, rfl, ?_⟩; replace BK130 := Aside0.mk (blk_below (zB BK130) hb); replace HB := Aside0.mk (below_step (zW HB) hb); (try clear hb); (try clear hb2); (try clear hk); (try clear hi); have hcz20_0 : w19.cell? ⟨gb130, 0, none⟩ = some (.string a0_0) := (blk_cell BK130.out 0).trans rfl; have hcz20_1 : w19.cell? ⟨gb130, 1, none⟩ = some (.string a0_1) := (blk_cell BK130.out 1).trans rfl; have hcz20_2 : w19.cell? ⟨gb130, 2, none⟩ = some (.int .i64 a0_2) := (blk_cell BK130.out 2).trans rfl; have hfz20_0 := blk_frozen BK130.out 0; have hfz20_1 := blk_frozen BK130.out 1; have hfz20_2 := blk_frozen BK130.out 2) | (go_at_call 94; (with_reducible refine (plan_isWithin.calls (a0_0.size : Int) 1 4 false _ A7.out).mono ?_); rintro e w' ⟨rfl, ⟨nd, rfl⟩⟩))
   go_meet
   case rel => exact ⟨_, (true), (zq2), H', ⟨zq19⟩, ⟨zq20⟩, ⟨zq21⟩⟩
  subst c8
  rw [if_pos rfl] at H
  replace H := Option.bind_eq_some_iff.mp H
  obtain ⟨t133, A90, H⟩ := H
  try dsimp only at H
  have A9 := Aside0.mk A90
  clear A90
  by_cases c10 : t133 = true
  rotate_left
  ·replace c10 := Bool.eq_false_iff.mpr c10
   subst c10
   rw [if_neg (show ¬ (false = true) by decide)] at H
   have H' := Aside0.mk H
   clear H
   have hcz15_0 : w3.cell? ⟨gb130, 0, none⟩ = some (.string a0_0) := (blk_cell BK130.out 0).trans rfl
   have hcz15_1 : w3.cell? ⟨gb130, 1, none⟩ = some (.string a0_1) := (blk_cell BK130.out 1).trans rfl
   have hcz15_2 : w3.cell? ⟨gb130, 2, none⟩ = some (.int .i64 a0_2) := (blk_cell BK130.out 2).trans rfl
   have hfz15_0 := blk_frozen BK130.out 0
   have hfz15_1 := blk_frozen BK130.out 1
   have hfz15_2 := blk_frozen BK130.out 2
   go_wp2_with (first | ((with_reducible refine gate_callee (f := 61) rfl ?_); refine goesL_ (some 8) rfl rfl Tryz.func61 (by kernel_rfl) rfl #[.string (a0_0 ++ a0_1)] rfl zG ?_; (with_reducible refine (plan_isDigits.calls (a0_0 ++ a0_1) true _ A5.out).mono ?_); rintro e w16 ⟨rfl, hb⟩; refine ⟨_, rfl, ?_⟩; replace BK130 := Aside0.mk (blk_below (zB BK130) hb); replace HB := Aside0.mk (below_step (zW HB) hb); (try clear hb); (try clear hb2); (try clear hk); (try clear hi); have hcz17_0 : w16.cell? ⟨gb130, 0, none⟩ = some (.string a0_0) := (blk_cell BK130.out 0).trans rfl; have hcz17_1 : w16.cell? ⟨gb130, 1, none⟩ = some (.string a0_1) := (blk_cell BK130.out 1).trans rfl; have hcz17_2 : w16.cell? ⟨gb130, 2, none⟩ = some (.int .i64 a0_2) := (blk_cell BK130.out 2).trans rfl; have hfz17_0 := blk_frozen BK130.out 0; have hfz17_1 := blk_frozen BK130.out 1; have hfz17_2 := blk_frozen BK130.out 2) | (go_at_call 94; (with_reducible refine (plan_isWithin.calls (a0_0.size : Int) 1 4 true _ A7.out).mono ?_); rintro e w' ⟨rfl, ⟨nd, rfl⟩⟩) | (go_at_call 94; (with_reducible refine (plan_isWithin.calls (a0_1.size : Int) 1 5 false _ A9.out).mono ?_); rintro e w' ⟨rfl, ⟨nd, rfl⟩⟩))
   go_meet
   case rel => exact ⟨_, (true), (zq2), H', ⟨zq19⟩, ⟨zq20⟩, ⟨zq21⟩⟩
  subst c10
  rw [if_pos rfl] at H
  replace H := Option.bind_eq_some_iff.mp H
  obtain ⟨t134, A110, H⟩ := H
  try dsimp only at H
  have A11 := Aside0.mk A110
  clear A110
  have H' := Aside0.mk H
  clear H
  have hcz12_0 : w3.cell? ⟨gb130, 0, none⟩ = some (.string a0_0) := (blk_cell BK130.out 0).trans rfl
  have hcz12_1 : w3.cell? ⟨gb130, 1, none⟩ = some (.string a0_1) := (blk_cell BK130.out 1).trans rfl
  have hcz12_2 : w3.cell? ⟨gb130, 2, none⟩ = some (.int .i64 a0_2) := (blk_cell BK130.out 2).trans rfl
  have hfz12_0 := blk_frozen BK130.out 0
  have hfz12_1 := blk_frozen BK130.out 1
  have hfz12_2 := blk_frozen BK130.out 2
  go_wp2_with (first | ((with_reducible refine gate_callee (f := 61) rfl ?_); refine goesL_ (some 8) rfl rfl Tryz.func61 (by kernel_rfl) rfl #[.string (a0_0 ++ a0_1)] rfl zG ?_; (with_reducible refine (plan_isDigits.calls (a0_0 ++ a0_1) true _ A5.out).mono ?_); rintro e w13 ⟨rfl, hb⟩; refine ⟨_, rfl, ?_⟩; replace BK130 := Aside0.mk (blk_below (zB BK130) hb); replace HB := Aside0.mk (below_step (zW HB) hb); (try clear hb); (try clear hb2); (try clear hk); (try clear hi); have hcz14_0 : w13.cell? ⟨gb130, 0, none⟩ = some (.string a0_0) := (blk_cell BK130.out 0).trans rfl; have hcz14_1 : w13.cell? ⟨gb130, 1, none⟩ = some (.string a0_1) := (blk_cell BK130.out 1).trans rfl; have hcz14_2 : w13.cell? ⟨gb130, 2, none⟩ = some (.int .i64 a0_2) := (blk_cell BK130.out 2).trans rfl; have hfz14_0 := blk_frozen BK130.out 0; have hfz14_1 := blk_frozen BK130.out 1; have hfz14_2 := blk_frozen BK130.out 2) | (go_at_call 94; (with_reducible refine (plan_isWithin.calls (a0_0.size : Int) 1 4 true _ A7.out).mono ?_); rintro e w' ⟨rfl, ⟨nd, rfl⟩⟩) | (go_at_call 94; (with_reducible refine (plan_isWithin.calls (a0_1.size : Int) 1 5 true _ A9.out).mono ?_); rintro e w' ⟨rfl, ⟨nd, rfl⟩⟩) | (go_at_call 94; (with_reducible refine (plan_isWithin.calls a0_2 (wrap64 ((a0_0.size : Int) + 1)) 7 t134 _ A11.out).mono ?_); rintro e w' ⟨rfl, ⟨nd, rfl⟩⟩))
  go_meet
  case rel => exact ⟨_, (!t134), (zq2), H', ⟨zq19⟩, ⟨zq20⟩, ⟨zq21⟩⟩
 case rest =>
  clear HC2
  try clear c1
  try clear p2
  try clear c4
  try clear c4b0
  try clear c4b1
  try clear c4b2
  try clear c6
  try clear p6
  try clear c8
  try clear c10
  try clear hcz12_0
  try clear hcz12_1
  try clear hcz12_2
  try clear hcz14_0
  try clear hcz14_1
  try clear hcz14_2
  try clear hcz15_0
  try clear hcz15_1
  try clear hcz15_2
  try clear hcz17_0
  try clear hcz17_1
  try clear hcz17_2
  try clear hcz18_0
  try clear hcz18_1
  try clear hcz18_2
  try clear hcz20_0
  try clear hcz20_1
  try clear hcz20_2
  try clear hcz21_0
  try clear hcz21_1
  try clear hcz21_2
  try clear hfz12_0
  try clear hfz12_1
  try clear hfz12_2
  try clear hfz14_0
  try clear hfz14_1
  try clear hfz14_2
  try clear hfz15_0
  try clear hfz15_1
  try clear hfz15_2
  try clear hfz17_0
  try clear hfz17_1
  try clear hfz17_2
  try clear hfz18_0
  try clear hfz18_1
  try clear hfz18_2
  try clear hfz20_0
  try clear hfz20_1
  try clear hfz20_2
  try clear hfz21_0
  try clear hfz21_1
  try clear hfz21_2
  obtain ⟨kq, x33_1, rfl, HA, HJ1, BK130, HB⟩ := hcut
  cases kq with
  | zero => exact absurd HA.out (by simp [plan_isCode.j0])
  | succ kj1 =>
   have H := HA.out
   clear HA
   simp only [plan_isCode.j0] at H
   by_cases c23 : x33_1 = true
   ·subst c23
    rw [if_pos rfl] at H
    obtain rfl := Option.some.inj H
    go_wp2
    go_ret
    exact ⟨zq6, zq21⟩
   replace c23 := Bool.eq_false_iff.mpr c23
   subst c23
   rw [if_neg (show ¬ (false = true) by decide)] at H
   replace H := Option.bind_eq_some_iff.mp H
   obtain ⟨t135, A240, H⟩ := H
   try dsimp only at H
   have A24 := Aside0.mk A240
   clear A240
   by_cases c25 : t135 ≤ (wrap64 (8 - (a0_1.size : Int)))
   rotate_left
   ·rw [if_neg c25] at H
    have c25b0 : decide (t135 ≤ (wrap64 (8 - (a0_1.size : Int)))) = false := decide_eq_false c25
    clear c25
    obtain rfl := Option.some.inj H
    try go_wp2
    replace BK130 := Aside0.mk (blk_drew BK130.out)
    replace HB := Aside0.mk (below_drew1 HB.out)
    refine start_ (n := 15) (S := fun w' => w'.cell? ⟨gb130, 0, none⟩ = some (.string a0_0) ∧ w'.cell? ⟨gb130, 1, none⟩ = some (.string a0_1) ∧ w'.cell? ⟨gb130, 2, none⟩ = some (.int .i64 a0_2)) (ds := []) (bm 15 0) (by kernel_rfl) rfl rfl ⟨(blk_cell BK130.out 0).trans rfl, (blk_cell BK130.out 1).trans rfl, (blk_cell BK130.out 2).trans rfl⟩ (fun hHeld => ?_); refine with_tabW plan_isCode.tab3 plan_isCode.bits3 (fun HT_ HW_ => ?_)
    generalize wc.drew = w30 at BK130 HB hHeld ⊢
    refine pz 2 (some 36) (bm 15 4) HT_ ?_
    refine tz 0 (some 34) (bm 15 5) HT_ HW_ hHeld ?_
    refine tz 3 (some 37) (bm 15 13) HT_ HW_ hHeld ?_
    refine pz 4 (some 38) (bm 15 29) HT_ ?_
    refine pz 5 (some 39) (bm 15 61) HT_ ?_
    refine one_ (i := 1) (N := some 35) (bm 15 63) rfl rfl (one_of HT_.out (by kernel_rfl)) (by decide) (fun K hK => ?_)
    refine goes_ Tryz.func96 (by kernel_rfl) rfl #[.agg #[.string a0_0, .string a0_1, .int .i64 a0_2]] (by rfl) rfl rfl zG ?_
    with_reducible refine (plan_room.calls a0_0 a0_1 a0_2 t135 _ A24.out).mono ?_
    rintro e w31 ⟨rfl, hb⟩
    refine ⟨_, rfl, ?_⟩
    replace BK130 := Aside0.mk (blk_below (zB BK130) hb)
    replace HB := Aside0.mk (below_step (zW HB) hb)
    (try clear hb)
    (try clear hb2)
    (try clear hk)
    (try clear hi)
    refine hK.out _ _ ⟨(blk_cell BK130.out 0).trans rfl, (blk_cell BK130.out 1).trans rfl, (blk_cell BK130.out 2).trans rfl⟩ (fun hHeld => ?_)
    clear hK K
    refine nz (some 35) ?_
    refine pz 6 (some 40) (bm 15 127) HT_ ?_
    refine pz 7 (some 41) (bm 15 255) HT_ ?_
    refine uz 8 (some 42) (bm 15 511) HT_ ?_
    refine uz 9 (some 43) (bm 15 1023) HT_ ?_
    refine uz 10 (some 44) (bm 15 2047) HT_ ?_
    refine uz 11 (some 45) (bm 15 4095) HT_ ?_
    refine uz 12 (some 46) (bm 15 8191) HT_ ?_
    refine pz 13 (some 47) (bm 15 16383) HT_ ?_
    refine pz 14 (some 2) (bm 15 32767) HT_ ?_
    refine done_ (done_of HT_.out (by kernel_rfl)) ?_
    try go_wp2
    go_ret
    exact ⟨zq6, zq21⟩
   rw [if_pos c25] at H
   have c25b0 : decide (t135 ≤ (wrap64 (8 - (a0_1.size : Int)))) = true := decide_eq_true c25
   clear c25
   replace H := Option.bind_eq_some_iff.mp H
   obtain ⟨t136, A260, H⟩ := H
   try dsimp only at H
   have A26 := Aside0.mk A260
   clear A260
   obtain rfl := Option.some.inj H
   try go_wp2
   replace BK130 := Aside0.mk (blk_drew BK130.out)
   replace HB := Aside0.mk (below_drew1 HB.out)
   refine start_ (n := 15) (S := fun w' => w'.cell? ⟨gb130, 0, none⟩ = some (.string a0_0) ∧ w'.cell? ⟨gb130, 1, none⟩ = some (.string a0_1) ∧ w'.cell? ⟨gb130, 2, none⟩ = some (.int .i64 a0_2)) (ds := []) (bm 15 0) (by kernel_rfl) rfl rfl ⟨(blk_cell BK130.out 0).trans rfl, (blk_cell BK130.out 1).trans rfl, (blk_cell BK130.out 2).trans rfl⟩ (fun hHeld => ?_); refine with_tabW plan_isCode.tab3 plan_isCode.bits3 (fun HT_ HW_ => ?_)
   generalize wc.drew = w27 at BK130 HB hHeld ⊢
   refine pz 2 (some 36) (bm 15 4) HT_ ?_
   refine tz 0 (some 34) (bm 15 5) HT_ HW_ hHeld ?_
   refine tz 3 (some 37) (bm 15 13) HT_ HW_ hHeld ?_
   refine pz 4 (some 38) (bm 15 29) HT_ ?_
   refine pz 5 (some 39) (bm 15 61) HT_ ?_
   refine one_ (i := 1) (N := some 35) (bm 15 63) rfl rfl (one_of HT_.out (by kernel_rfl)) (by decide) (fun K hK => ?_)
   refine goes_ Tryz.func96 (by kernel_rfl) rfl #[.agg #[.string a0_0, .string a0_1, .int .i64 a0_2]] (by rfl) rfl rfl zG ?_
   with_reducible refine (plan_room.calls a0_0 a0_1 a0_2 t135 _ A24.out).mono ?_
   rintro e w28 ⟨rfl, hb⟩
   refine ⟨_, rfl, ?_⟩
   replace BK130 := Aside0.mk (blk_below (zB BK130) hb)
   replace HB := Aside0.mk (below_step (zW HB) hb)
   (try clear hb)
   (try clear hb2)
   (try clear hk)
   (try clear hi)
   refine hK.out _ _ ⟨(blk_cell BK130.out 0).trans rfl, (blk_cell BK130.out 1).trans rfl, (blk_cell BK130.out 2).trans rfl⟩ (fun hHeld => ?_)
   clear hK K
   refine nz (some 35) ?_
   refine pz 6 (some 40) (bm 15 127) HT_ ?_
   refine pz 7 (some 41) (bm 15 255) HT_ ?_
   refine pz 8 (some 42) (bm 15 511) HT_ ?_
   refine pz 10 (some 44) (bm 15 1535) HT_ ?_
   refine tz 9 (some 43) (bm 15 2047) HT_ HW_ hHeld ?_
   refine tz 11 (some 45) (bm 15 4095) HT_ HW_ hHeld ?_
   refine one_ (i := 12) (N := some 46) (bm 15 8191) rfl rfl (one_of HT_.out (by kernel_rfl)) (by decide) (fun K hK => ?_)
   refine goes_ Tryz.func91 (by kernel_rfl) rfl #[.string a0_0, .string a0_1] (by rfl) rfl rfl zG ?_
   with_reducible refine (plan_areApart.calls a0_0 a0_1 t136 _ A26.out).mono ?_
   rintro e w29 ⟨rfl, hb⟩
   refine ⟨_, rfl, ?_⟩
   replace BK130 := Aside0.mk (blk_below (zB BK130) hb)
   replace HB := Aside0.mk (below_step (zW HB) hb)
   (try clear hb)
   (try clear hb2)
   (try clear hk)
   (try clear hi)
   refine hK.out _ _ ⟨(blk_cell BK130.out 0).trans rfl, (blk_cell BK130.out 1).trans rfl, (blk_cell BK130.out 2).trans rfl⟩ (fun hHeld => ?_)
   clear hK K
   refine nz (some 46) ?_
   refine pz 13 (some 47) (bm 15 16383) HT_ ?_
   refine pz 14 (some 2) (bm 15 32767) HT_ ?_
   refine done_ (done_of HT_.out (by kernel_rfl)) ?_
   try go_wp2
   go_ret
   exact ⟨zq6, zq21⟩
def plan_Valid_1.f (a0_0 : ByteArray) (a0_1 : ByteArray) (a0_2 : Int) (a1_0 : ByteArray) (a1_1 : ByteArray) (a1_2 : Int) : Option (Bool) := (plan_areApart.f a0_0 a1_0).bind fun t139 => (if t139 = true then ((plan_areApart.f a0_1 a1_1).bind fun t140 => (if t140 = true then ((plan_areApart.f a0_0 a1_1).bind fun t141 => (if t141 = true then ((plan_areApart.f a0_1 a1_0).bind fun t142 => (some t142)) else (some false))) else (some false))) else (some false))
set_option maxHeartbeats 8000000 in
set_option maxRecDepth 100000 in
theorem plan_Valid_1.calls (a0_0 : ByteArray) (a0_1 : ByteArray) (a0_2 : Int) (a1_0 : ByteArray) (a1_1 : ByteArray) (a1_2 : Int) (r : Bool) (w : World) (h : plan_Valid_1.f a0_0 a0_1 a0_2 a1_0 a1_1 a1_2 = some r) :
 Calls Tryz.prog 90 #[.agg #[.string a0_0, .string a0_1, .int .i64 a0_2], .agg #[.string a1_0, .string a1_1, .int .i64 a1_2]] w fun e w' => e = .returned (.bool r) ∧ Below w.heap.size w w' := by
 have hu58 := Tryz.underlying58
 have HB := Aside0.mk (Below.refl w.heap.size w)
 have H : ((plan_areApart.f a0_0 a1_0).bind fun t139 => (if t139 = true then ((plan_areApart.f a0_1 a1_1).bind fun t140 => (if t140 = true then ((plan_areApart.f a0_0 a1_1).bind fun t141 => (if t141 = true then ((plan_areApart.f a0_1 a1_0).bind fun t142 => (some t142)) else (some false))) else (some false))) else (some false))) = some r := h
 clear h
 replace H := Option.bind_eq_some_iff.mp H
 obtain ⟨t139, A30, H⟩ := H
 try dsimp only at H
 have A3 := Aside0.mk A30
 clear A30
 by_cases c4 : t139 = true
 rotate_left
 ·replace c4 := Bool.eq_false_iff.mpr c4
  subst c4
  rw [if_neg (show ¬ (false = true) by decide)] at H
  obtain rfl := Option.some.inj H
  go_enter Tryz.func90, Tryz.ntmps90
  go_wp2_with (first | ((with_reducible refine gate_dst (N := 2) rfl ?_); refine box_event ?hg (N := 2) ?hd (cs := #[.string a0_0, .string a0_1, .int .i64 a0_2]) (t := 58) ?hr ?_; (case hd => rfl); (case hg => rfl); (case hr => exact zq4); intro gb137 hg w46 hbox hb; have BK137 := Aside0.mk (hbox); have GW137 := Aside0.mk ((zq5 : w.heap.size ≤ gb137)); have GE137 := Aside0.mk ((zq5 : w.heap.size ≤ gb137)); replace HB := Aside0.mk (below_step (zW HB) hb); clear hb hbox hg) | ((with_reducible refine gate_dst (N := 3) rfl ?_); refine box_event ?hg (N := 3) ?hd (cs := #[.string a1_0, .string a1_1, .int .i64 a1_2]) (t := 58) ?hr ?_; (case hd => rfl); (case hg => rfl); (case hr => exact zq4); intro gb138 hg w47 hbox hb; have BK138 := Aside0.mk (hbox); have GW138 := Aside0.mk ((zq5 : w.heap.size ≤ gb138)); have GE138 := Aside0.mk ((zq5 : w.heap.size ≤ gb138)); replace HB := Aside0.mk (below_step (zW HB) hb); have NB137_138 := Aside0.mk ((zq22 : gb137 ≠ gb138)); have NB138_137 := Aside0.mk ((zq23 : gb138 ≠ gb137)); replace BK137 := Aside0.mk (blk_below (zB BK137) hb); clear hb hbox hg; have hnb48 := NB137_138.out; have hnc48 := NB138_137.out; have hcz49_0 : w47.cell? ⟨gb137, 0, none⟩ = some (.string a0_0) := (blk_cell BK137.out 0).trans rfl; have hcz49_1 : w47.cell? ⟨gb137, 1, none⟩ = some (.string a0_1) := (blk_cell BK137.out 1).trans rfl; have hcz49_2 : w47.cell? ⟨gb137, 2, none⟩ = some (.int .i64 a0_2) := (blk_cell BK137.out 2).trans rfl; have hfz49_0 := blk_frozen BK137.out 0; have hfz49_1 := blk_frozen BK137.out 1; have hfz49_2 := blk_frozen BK137.out 2; have hcz50_0 : w47.cell? ⟨gb138, 0, none⟩ = some (.string a1_0) := (blk_cell BK138.out 0).trans rfl; have hcz50_1 : w47.cell? ⟨gb138, 1, none⟩ = some (.string a1_1) := (blk_cell BK138.out 1).trans rfl; have hcz50_2 : w47.cell? ⟨gb138, 2, none⟩ = some (.int .i64 a1_2) := (blk_cell BK138.out 2).trans rfl; have hfz50_0 := blk_frozen BK138.out 0; have hfz50_1 := blk_frozen BK138.out 1; have hfz50_2 := blk_frozen BK138.out 2) | ((with_reducible refine gate_callee (f := 91) rfl ?_); refine goesL_ (some 9) rfl rfl Tryz.func91 (by kernel_rfl) rfl #[.string a0_0, .string a1_0] rfl zG ?_; (with_reducible refine (plan_areApart.calls a0_0 a1_0 false _ A3.out).mono ?_); rintro e w51 ⟨rfl, hb⟩; refine ⟨_, rfl, ?_⟩; replace BK137 := Aside0.mk (blk_below (zB BK137) hb); replace BK138 := Aside0.mk (blk_below (zB BK138) hb); replace HB := Aside0.mk (below_step (zW HB) hb); (try clear hb); (try clear hb2); (try clear hk); (try clear hi)))
  go_ret
  exact ⟨zq6, zq24⟩
 subst c4
 rw [if_pos rfl] at H
 replace H := Option.bind_eq_some_iff.mp H
 obtain ⟨t140, A50, H⟩ := H
 try dsimp only at H
 have A5 := Aside0.mk A50
 clear A50
 by_cases c6 : t140 = true
 rotate_left
 ·replace c6 := Bool.eq_false_iff.mpr c6
  subst c6
  rw [if_neg (show ¬ (false = true) by decide)] at H
  obtain rfl := Option.some.inj H
  go_enter Tryz.func90, Tryz.ntmps90
  go_wp2_with (first | ((with_reducible refine gate_dst (N := 2) rfl ?_); refine box_event ?hg (N := 2) ?hd (cs := #[.string a0_0, .string a0_1, .int .i64 a0_2]) (t := 58) ?hr ?_; (case hd => rfl); (case hg => rfl); (case hr => exact zq4); intro gb137 hg w37 hbox hb; have BK137 := Aside0.mk (hbox); have GW137 := Aside0.mk ((zq5 : w.heap.size ≤ gb137)); have GE137 := Aside0.mk ((zq5 : w.heap.size ≤ gb137)); replace HB := Aside0.mk (below_step (zW HB) hb); clear hb hbox hg) | ((with_reducible refine gate_dst (N := 3) rfl ?_); refine box_event ?hg (N := 3) ?hd (cs := #[.string a1_0, .string a1_1, .int .i64 a1_2]) (t := 58) ?hr ?_; (case hd => rfl); (case hg => rfl); (case hr => exact zq4); intro gb138 hg w38 hbox hb; have BK138 := Aside0.mk (hbox); have GW138 := Aside0.mk ((zq5 : w.heap.size ≤ gb138)); have GE138 := Aside0.mk ((zq5 : w.heap.size ≤ gb138)); replace HB := Aside0.mk (below_step (zW HB) hb); have NB137_138 := Aside0.mk ((zq22 : gb137 ≠ gb138)); have NB138_137 := Aside0.mk ((zq23 : gb138 ≠ gb137)); replace BK137 := Aside0.mk (blk_below (zB BK137) hb); clear hb hbox hg; have hnb39 := NB137_138.out; have hnc39 := NB138_137.out; have hcz40_0 : w38.cell? ⟨gb137, 0, none⟩ = some (.string a0_0) := (blk_cell BK137.out 0).trans rfl; have hcz40_1 : w38.cell? ⟨gb137, 1, none⟩ = some (.string a0_1) := (blk_cell BK137.out 1).trans rfl; have hcz40_2 : w38.cell? ⟨gb137, 2, none⟩ = some (.int .i64 a0_2) := (blk_cell BK137.out 2).trans rfl; have hfz40_0 := blk_frozen BK137.out 0; have hfz40_1 := blk_frozen BK137.out 1; have hfz40_2 := blk_frozen BK137.out 2; have hcz41_0 : w38.cell? ⟨gb138, 0, none⟩ = some (.string a1_0) := (blk_cell BK138.out 0).trans rfl; have hcz41_1 : w38.cell? ⟨gb138, 1, none⟩ = some (.string a1_1) := (blk_cell BK138.out 1).trans rfl; have hcz41_2 : w38.cell? ⟨gb138, 2, none⟩ = some (.int .i64 a1_2) := (blk_cell BK138.out 2).trans rfl; have hfz41_0 := blk_frozen BK138.out 0; have hfz41_1 := blk_frozen BK138.out 1; have hfz41_2 := blk_frozen BK138.out 2) | ((with_reducible refine gate_callee (f := 91) rfl ?_); refine goesL_ (some 9) rfl rfl Tryz.func91 (by kernel_rfl) rfl #[.string a0_0, .string a1_0] rfl zG ?_; (with_reducible refine (plan_areApart.calls a0_0 a1_0 true _ A3.out).mono ?_); rintro e w42 ⟨rfl, hb⟩; refine ⟨_, rfl, ?_⟩; replace BK137 := Aside0.mk (blk_below (zB BK137) hb); replace BK138 := Aside0.mk (blk_below (zB BK138) hb); replace HB := Aside0.mk (below_step (zW HB) hb); (try clear hb); (try clear hb2); (try clear hk); (try clear hi); have hcz43_0 : w42.cell? ⟨gb137, 0, none⟩ = some (.string a0_0) := (blk_cell BK137.out 0).trans rfl; have hcz43_1 : w42.cell? ⟨gb137, 1, none⟩ = some (.string a0_1) := (blk_cell BK137.out 1).trans rfl; have hcz43_2 : w42.cell? ⟨gb137, 2, none⟩ = some (.int .i64 a0_2) := (blk_cell BK137.out 2).trans rfl; have hfz43_0 := blk_frozen BK137.out 0; have hfz43_1 := blk_frozen BK137.out 1; have hfz43_2 := blk_frozen BK137.out 2; have hcz44_0 : w42.cell? ⟨gb138, 0, none⟩ = some (.string a1_0) := (blk_cell BK138.out 0).trans rfl; have hcz44_1 : w42.cell? ⟨gb138, 1, none⟩ = some (.string a1_1) := (blk_cell BK138.out 1).trans rfl; have hcz44_2 : w42.cell? ⟨gb138, 2, none⟩ = some (.int .i64 a1_2) := (blk_cell BK138.out 2).trans rfl; have hfz44_0 := blk_frozen BK138.out 0; have hfz44_1 := blk_frozen BK138.out 1; have hfz44_2 := blk_frozen BK138.out 2) | (go_at_call 91; (with_reducible refine (plan_areApart.calls a0_1 a1_1 false _ A5.out).mono ?_); rintro e w45 ⟨rfl, hb⟩; replace BK137 := Aside0.mk (blk_below (zB BK137) hb); replace BK138 := Aside0.mk (blk_below (zB BK138) hb); replace HB := Aside0.mk (below_step (zW HB) hb); (try clear hb); (try clear hb2); (try clear hk); (try clear hi)))
  go_ret
  exact ⟨zq6, zq24⟩
 subst c6
 rw [if_pos rfl] at H
 replace H := Option.bind_eq_some_iff.mp H
 obtain ⟨t141, A70, H⟩ := H
 try dsimp only at H
 have A7 := Aside0.mk A70
 clear A70
 by_cases c8 : t141 = true
 rotate_left
 ·replace c8 := Bool.eq_false_iff.mpr c8
  subst c8
  rw [if_neg (show ¬ (false = true) by decide)] at H
  obtain rfl := Option.some.inj H
  go_enter Tryz.func90, Tryz.ntmps90
  go_wp2_with (first | ((with_reducible refine gate_dst (N := 2) rfl ?_); refine box_event ?hg (N := 2) ?hd (cs := #[.string a0_0, .string a0_1, .int .i64 a0_2]) (t := 58) ?hr ?_; (case hd => rfl); (case hg => rfl); (case hr => exact zq4); intro gb137 hg w25 hbox hb; have BK137 := Aside0.mk (hbox); have GW137 := Aside0.mk ((zq5 : w.heap.size ≤ gb137)); have GE137 := Aside0.mk ((zq5 : w.heap.size ≤ gb137)); replace HB := Aside0.mk (below_step (zW HB) hb); clear hb hbox hg) | ((with_reducible refine gate_dst (N := 3) rfl ?_); refine box_event ?hg (N := 3) ?hd (cs := #[.string a1_0, .string a1_1, .int .i64 a1_2]) (t := 58) ?hr ?_; (case hd => rfl); (case hg => rfl); (case hr => exact zq4); intro gb138 hg w26 hbox hb; have BK138 := Aside0.mk (hbox); have GW138 := Aside0.mk ((zq5 : w.heap.size ≤ gb138)); have GE138 := Aside0.mk ((zq5 : w.heap.size ≤ gb138)); replace HB := Aside0.mk (below_step (zW HB) hb); have NB137_138 := Aside0.mk ((zq22 : gb137 ≠ gb138)); have NB138_137 := Aside0.mk ((zq23 : gb138 ≠ gb137)); replace BK137 := Aside0.mk (blk_below (zB BK137) hb); clear hb hbox hg; have hnb27 := NB137_138.out; have hnc27 := NB138_137.out; have hcz28_0 : w26.cell? ⟨gb137, 0, none⟩ = some (.string a0_0) := (blk_cell BK137.out 0).trans rfl; have hcz28_1 : w26.cell? ⟨gb137, 1, none⟩ = some (.string a0_1) := (blk_cell BK137.out 1).trans rfl; have hcz28_2 : w26.cell? ⟨gb137, 2, none⟩ = some (.int .i64 a0_2) := (blk_cell BK137.out 2).trans rfl; have hfz28_0 := blk_frozen BK137.out 0; have hfz28_1 := blk_frozen BK137.out 1; have hfz28_2 := blk_frozen BK137.out 2; have hcz29_0 : w26.cell? ⟨gb138, 0, none⟩ = some (.string a1_0) := (blk_cell BK138.out 0).trans rfl; have hcz29_1 : w26.cell? ⟨gb138, 1, none⟩ = some (.string a1_1) := (blk_cell BK138.out 1).trans rfl; have hcz29_2 : w26.cell? ⟨gb138, 2, none⟩ = some (.int .i64 a1_2) := (blk_cell BK138.out 2).trans rfl; have hfz29_0 := blk_frozen BK138.out 0; have hfz29_1 := blk_frozen BK138.out 1; have hfz29_2 := blk_frozen BK138.out 2) | ((with_reducible refine gate_callee (f := 91) rfl ?_); refine goesL_ (some 9) rfl rfl Tryz.func91 (by kernel_rfl) rfl #[.string a0_0, .string a1_0] rfl zG ?_; (with_reducible refine (plan_areApart.calls a0_0 a1_0 true _ A3.out).mono ?_); rintro e w30 ⟨rfl, hb⟩; refine ⟨_, rfl, ?_⟩; replace BK137 := Aside0.mk (blk_below (zB BK137) hb); replace BK138 := Aside0.mk (blk_below (zB BK138) hb); replace HB := Aside0.mk (below_step (zW HB) hb); (try clear hb); (try clear hb2); (try clear hk); (try clear hi); have hcz31_0 : w30.cell? ⟨gb137, 0, none⟩ = some (.string a0_0) := (blk_cell BK137.out 0).trans rfl; have hcz31_1 : w30.cell? ⟨gb137, 1, none⟩ = some (.string a0_1) := (blk_cell BK137.out 1).trans rfl; have hcz31_2 : w30.cell? ⟨gb137, 2, none⟩ = some (.int .i64 a0_2) := (blk_cell BK137.out 2).trans rfl; have hfz31_0 := blk_frozen BK137.out 0; have hfz31_1 := blk_frozen BK137.out 1; have hfz31_2 := blk_frozen BK137.out 2; have hcz32_0 : w30.cell? ⟨gb138, 0, none⟩ = some (.string a1_0) := (blk_cell BK138.out 0).trans rfl; have hcz32_1 : w30.cell? ⟨gb138, 1, none⟩ = some (.string a1_1) := (blk_cell BK138.out 1).trans rfl; have hcz32_2 : w30.cell? ⟨gb138, 2, none⟩ = some (.int .i64 a1_2) := (blk_cell BK138.out 2).trans rfl; have hfz32_0 := blk_frozen BK138.out 0; have hfz32_1 := blk_frozen BK138.out 1; have hfz32_2 := blk_frozen BK138.out 2) | (go_at_call 91; (with_reducible refine (plan_areApart.calls a0_1 a1_1 true _ A5.out).mono ?_); rintro e w33 ⟨rfl, hb⟩; replace BK137 := Aside0.mk (blk_below (zB BK137) hb); replace BK138 := Aside0.mk (blk_below (zB BK138) hb); replace HB := Aside0.mk (below_step (zW HB) hb); (try clear hb); (try clear hb2); (try clear hk); (try clear hi); have hcz34_0 : w33.cell? ⟨gb137, 0, none⟩ = some (.string a0_0) := (blk_cell BK137.out 0).trans rfl; have hcz34_1 : w33.cell? ⟨gb137, 1, none⟩ = some (.string a0_1) := (blk_cell BK137.out 1).trans rfl; have hcz34_2 : w33.cell? ⟨gb137, 2, none⟩ = some (.int .i64 a0_2) := (blk_cell BK137.out 2).trans rfl; have hfz34_0 := blk_frozen BK137.out 0; have hfz34_1 := blk_frozen BK137.out 1; have hfz34_2 := blk_frozen BK137.out 2; have hcz35_0 : w33.cell? ⟨gb138, 0, none⟩ = some (.string a1_0) := (blk_cell BK138.out 0).trans rfl; have hcz35_1 : w33.cell? ⟨gb138, 1, none⟩ = some (.string a1_1) := (blk_cell BK138.out 1).trans rfl; have hcz35_2 : w33.cell? ⟨gb138, 2, none⟩ = some (.int .i64 a1_2) := (blk_cell BK138.out 2).trans rfl; have hfz35_0 := blk_frozen BK138.out 0; have hfz35_1 := blk_frozen BK138.out 1; have hfz35_2 := blk_frozen BK138.out 2) | (go_at_call 91; (with_reducible refine (plan_areApart.calls a0_0 a1_1 false _ A7.out).mono ?_); rintro e w36 ⟨rfl, hb⟩; replace BK137 := Aside0.mk (blk_below (zB BK137) hb); replace BK138 := Aside0.mk (blk_below (zB BK138) hb); replace HB := Aside0.mk (below_step (zW HB) hb); (try clear hb); (try clear hb2); (try clear hk); (try clear hi)))
  go_ret
  exact ⟨zq6, zq24⟩
 subst c8
 rw [if_pos rfl] at H
 replace H := Option.bind_eq_some_iff.mp H
 obtain ⟨t142, A90, H⟩ := H
 try dsimp only at H
 have A9 := Aside0.mk A90
 clear A90
 obtain rfl := Option.some.inj H
 go_enter Tryz.func90, Tryz.ntmps90
 go_wp2_with (first | ((with_reducible refine gate_dst (N := 2) rfl ?_); refine box_event ?hg (N := 2) ?hd (cs := #[.string a0_0, .string a0_1, .int .i64 a0_2]) (t := 58) ?hr ?_; (case hd => rfl); (case hg => rfl); (case hr => exact zq4); intro gb137 hg w10 hbox hb; have BK137 := Aside0.mk (hbox); have GW137 := Aside0.mk ((zq5 : w.heap.size ≤ gb137)); have GE137 := Aside0.mk ((zq5 : w.heap.size ≤ gb137)); replace HB := Aside0.mk (below_step (zW HB) hb); clear hb hbox hg) | ((with_reducible refine gate_dst (N := 3) rfl ?_); refine box_event ?hg (N := 3) ?hd (cs := #[.string a1_0, .string a1_1, .int .i64 a1_2]) (t := 58) ?hr ?_; (case hd => rfl); (case hg => rfl); (case hr => exact zq4); intro gb138 hg w11 hbox hb; have BK138 := Aside0.mk (hbox); have GW138 := Aside0.mk ((zq5 : w.heap.size ≤ gb138)); have GE138 := Aside0.mk ((zq5 : w.heap.size ≤ gb138)); replace HB := Aside0.mk (below_step (zW HB) hb); have NB137_138 := Aside0.mk ((zq22 : gb137 ≠ gb138)); have NB138_137 := Aside0.mk ((zq23 : gb138 ≠ gb137)); replace BK137 := Aside0.mk (blk_below (zB BK137) hb); clear hb hbox hg; have hnb12 := NB137_138.out; have hnc12 := NB138_137.out; have hcz13_0 : w11.cell? ⟨gb137, 0, none⟩ = some (.string a0_0) := (blk_cell BK137.out 0).trans rfl; have hcz13_1 : w11.cell? ⟨gb137, 1, none⟩ = some (.string a0_1) := (blk_cell BK137.out 1).trans rfl; have hcz13_2 : w11.cell? ⟨gb137, 2, none⟩ = some (.int .i64 a0_2) := (blk_cell BK137.out 2).trans rfl; have hfz13_0 := blk_frozen BK137.out 0; have hfz13_1 := blk_frozen BK137.out 1; have hfz13_2 := blk_frozen BK137.out 2; have hcz14_0 : w11.cell? ⟨gb138, 0, none⟩ = some (.string a1_0) := (blk_cell BK138.out 0).trans rfl; have hcz14_1 : w11.cell? ⟨gb138, 1, none⟩ = some (.string a1_1) := (blk_cell BK138.out 1).trans rfl; have hcz14_2 : w11.cell? ⟨gb138, 2, none⟩ = some (.int .i64 a1_2) := (blk_cell BK138.out 2).trans rfl; have hfz14_0 := blk_frozen BK138.out 0; have hfz14_1 := blk_frozen BK138.out 1; have hfz14_2 := blk_frozen BK138.out 2) | ((with_reducible refine gate_callee (f := 91) rfl ?_); refine goesL_ (some 9) rfl rfl Tryz.func91 (by kernel_rfl) rfl #[.string a0_0, .string a1_0] rfl zG ?_; (with_reducible refine (plan_areApart.calls a0_0 a1_0 true _ A3.out).mono ?_); rintro e w15 ⟨rfl, hb⟩; refine ⟨_, rfl, ?_⟩; replace BK137 := Aside0.mk (blk_below (zB BK137) hb); replace BK138 := Aside0.mk (blk_below (zB BK138) hb); replace HB := Aside0.mk (below_step (zW HB) hb); (try clear hb); (try clear hb2); (try clear hk); (try clear hi); have hcz16_0 : w15.cell? ⟨gb137, 0, none⟩ = some (.string a0_0) := (blk_cell BK137.out 0).trans rfl; have hcz16_1 : w15.cell? ⟨gb137, 1, none⟩ = some (.string a0_1) := (blk_cell BK137.out 1).trans rfl; have hcz16_2 : w15.cell? ⟨gb137, 2, none⟩ = some (.int .i64 a0_2) := (blk_cell BK137.out 2).trans rfl; have hfz16_0 := blk_frozen BK137.out 0; have hfz16_1 := blk_frozen BK137.out 1; have hfz16_2 := blk_frozen BK137.out 2; have hcz17_0 : w15.cell? ⟨gb138, 0, none⟩ = some (.string a1_0) := (blk_cell BK138.out 0).trans rfl; have hcz17_1 : w15.cell? ⟨gb138, 1, none⟩ = some (.string a1_1) := (blk_cell BK138.out 1).trans rfl; have hcz17_2 : w15.cell? ⟨gb138, 2, none⟩ = some (.int .i64 a1_2) := (blk_cell BK138.out 2).trans rfl; have hfz17_0 := blk_frozen BK138.out 0; have hfz17_1 := blk_frozen BK138.out 1; have hfz17_2 := blk_frozen BK138.out 2) | (go_at_call 91; (with_reducible refine (plan_areApart.calls a0_1 a1_1 true _ A5.out).mono ?_); rintro e w18 ⟨rfl, hb⟩; replace BK137 := Aside0.mk (blk_below (zB BK137) hb); replace BK138 := Aside0.mk (blk_below (zB BK138) hb); replace HB := Aside0.mk (below_step (zW HB) hb); (try clear hb); (try clear hb2); (try clear hk); (try clear hi); have hcz19_0 : w18.cell? ⟨gb137, 0, none⟩ = some (.string a0_0) := (blk_cell BK137.out 0).trans rfl; have hcz19_1 : w18.cell? ⟨gb137, 1, none⟩ = some (.string a0_1) := (blk_cell BK137.out 1).trans rfl; have hcz19_2 : w18.cell? ⟨gb137, 2, none⟩ = some (.int .i64 a0_2) := (blk_cell BK137.out 2).trans rfl; have hfz19_0 := blk_frozen BK137.out 0; have hfz19_1 := blk_frozen BK137.out 1; have hfz19_2 := blk_frozen BK137.out 2; have hcz20_0 : w18.cell? ⟨gb138, 0, none⟩ = some (.string a1_0) := (blk_cell BK138.out 0).trans rfl; have hcz20_1 : w18.cell? ⟨gb138, 1, none⟩ = some (.string a1_1) := (blk_cell BK138.out 1).trans rfl; have hcz20_2 : w18.cell? ⟨gb138, 2, none⟩ = some (.int .i64 a1_2) := (blk_cell BK138.out 2).trans rfl; have hfz20_0 := blk_frozen BK138.out 0; have hfz20_1 := blk_frozen BK138.out 1; have hfz20_2 := blk_frozen BK138.out 2) | (go_at_call 91; (with_reducible refine (plan_areApart.calls a0_0 a1_1 true _ A7.out).mono ?_); rintro e w21 ⟨rfl, hb⟩; replace BK137 := Aside0.mk (blk_below (zB BK137) hb); replace BK138 := Aside0.mk (blk_below (zB BK138) hb); replace HB := Aside0.mk (below_step (zW HB) hb); (try clear hb); (try clear hb2); (try clear hk); (try clear hi); have hcz22_0 : w21.cell? ⟨gb137, 0, none⟩ = some (.string a0_0) := (blk_cell BK137.out 0).trans rfl; have hcz22_1 : w21.cell? ⟨gb137, 1, none⟩ = some (.string a0_1) := (blk_cell BK137.out 1).trans rfl; have hcz22_2 : w21.cell? ⟨gb137, 2, none⟩ = some (.int .i64 a0_2) := (blk_cell BK137.out 2).trans rfl; have hfz22_0 := blk_frozen BK137.out 0; have hfz22_1 := blk_frozen BK137.out 1; have hfz22_2 := blk_frozen BK137.out 2; have hcz23_0 : w21.cell? ⟨gb138, 0, none⟩ = some (.string a1_0) := (blk_cell BK138.out 0).trans rfl; have hcz23_1 : w21.cell? ⟨gb138, 1, none⟩ = some (.string a1_1) := (blk_cell BK138.out 1).trans rfl; have hcz23_2 : w21.cell? ⟨gb138, 2, none⟩ = some (.int .i64 a1_2) := (blk_cell BK138.out 2).trans rfl; have hfz23_0 := blk_frozen BK138.out 0; have hfz23_1 := blk_frozen BK138.out 1; have hfz23_2 := blk_frozen BK138.out 2) | (go_at_call 91; (with_reducible refine (plan_areApart.calls a0_1 a1_0 t142 _ A9.out).mono ?_); rintro e w24 ⟨rfl, hb⟩; replace BK137 := Aside0.mk (blk_below (zB BK137) hb); replace BK138 := Aside0.mk (blk_below (zB BK138) hb); replace HB := Aside0.mk (below_step (zW HB) hb); (try clear hb); (try clear hb2); (try clear hk); (try clear hi)))
 go_ret
 exact ⟨zq6, zq24⟩
end Go.Proofs.YtkfejgdeknemaaaGreatDoor.Fw
end
section
open Go.Proofs.YtkfejgdeknemaaaGreatDoor.Z
namespace Go.Proofs.YtkfejgdeknemaaaGreatDoor.Fw
open Go.RowKit Go.Proofs.YtkfejgdeknemaaaGreatDoorW.PrintWords Go.Proofs.YtkfejgdeknemaaaGreatDoorW.PrintLast Go.Proofs.YtkfejgdeknemaaaGreatDoorW.PrintMore
attribute [local go_sem] max2_int min2_int max_two min_two max_three min_three max_four min_four
set_option linter.unusedVariables false
set_option linter.unusedSimpArgs false
mutual
def api_Code.l0 : Nat → List (S58) → List (S58) → Int → Int → Option (Bool)
 | 0, _, _, _, _ => none
 | k + 1, x0, x9, x10, x11 => if x11 < x10 then (if 0 ≤ x11 then (if x11 < (x9.length : Int) then (if x11 ≤ (x0.length : Int) then ((some (x0.take (x11 : Int).toNat : List (S58))).bind fun y145 => (api_Code.l1 k x0 x9 x10 x11 y145 (y145.length : Int) 0 ((rd_T58 x9 x11).f0) ((rd_T58 x9 x11).f1) ((rd_T58 x9 x11).f2))) else (none)) else (none)) else (none)) else (some true)
def api_Code.l1 : Nat → List (S58) → List (S58) → Int → Int → List (S58) → Int → Int → ByteArray → ByteArray → Int → Option (Bool)
 | 0, _, _, _, _, _, _, _, _, _, _ => none
 | k + 1, x0, x9, x10, x11, x18, x19, x20, x145000, x145001, x145002 => if x20 < x19 then (if 0 ≤ x20 then (if x20 < (x18.length : Int) then ((plan_Valid_1.f x145000 x145001 x145002 ((rd_T58 x18 x20).f0) ((rd_T58 x18 x20).f1) ((rd_T58 x18 x20).f2)).bind fun t151 => (if t151 = true then (api_Code.l1 k x0 x9 x10 x11 x18 x19 (wrap64 (x20 + 1)) x145000 x145001 x145002) else (some false))) else (none)) else (none)) else (api_Code.l0 k x0 x9 x10 (wrap64 (x11 + 1)))
end
def api_Code.f (k : Nat) (l0 : List (S58)) (a1 : Unit) : Option (Bool) := api_Code.l0 k l0 l0 (l0.length : Int) 0
theorem api_Code.mono_l : ∀ k, (∀ y0 y1 y2 y3, LeO (api_Code.l0 k y0 y1 y2 y3) (api_Code.l0 (k + 1) y0 y1 y2 y3)) ∧ (∀ y0 y1 y2 y3 y4 y5 y6 y7 y8 y9, LeO (api_Code.l1 k y0 y1 y2 y3 y4 y5 y6 y7 y8 y9) (api_Code.l1 (k + 1) y0 y1 y2 y3 y4 y5 y6 y7 y8 y9))
 | 0 => ⟨fun _ _ _ _ r h => by simp [api_Code.l0] at h, fun _ _ _ _ _ _ _ _ _ _ r h => by simp [api_Code.l1] at h⟩
 | k + 1 => by
  obtain ⟨ih0, ih1⟩ := api_Code.mono_l k
  refine ⟨?_, ?_⟩
  ·intro y0 y1 y2 y3
   unfold api_Code.l0
   repeat' first
   | (with_reducible exact ih0 _ _ _ _)
   | (with_reducible exact ih1 _ _ _ _ _ _ _ _ _ _)
   | (with_reducible exact LeO.refl _)
   | (with_reducible exact LeO.none _)
   | (with_reducible refine LeO.ite ?_ ?_)
   | (with_reducible refine LeO.bind ?_ (fun _ => ?_))
   | exact ih0 _ _ _ _
   | exact ih1 _ _ _ _ _ _ _ _ _ _
   | exact LeO.none _
   | refine LeO.ite ?_ ?_
   | refine LeO.bind ?_ (fun _ => ?_)
  ·intro y0 y1 y2 y3 y4 y5 y6 y7 y8 y9
   unfold api_Code.l1
   repeat' first
   | (with_reducible exact ih0 _ _ _ _)
   | (with_reducible exact ih1 _ _ _ _ _ _ _ _ _ _)
   | (with_reducible exact LeO.refl _)
   | (with_reducible exact LeO.none _)
   | (with_reducible refine LeO.ite ?_ ?_)
   | (with_reducible refine LeO.bind ?_ (fun _ => ?_))
   | exact ih0 _ _ _ _
   | exact ih1 _ _ _ _ _ _ _ _ _ _
   | exact LeO.none _
   | refine LeO.ite ?_ ?_
   | refine LeO.bind ?_ (fun _ => ?_)
theorem api_Code.mono : ∀ a0 a1 k, LeO (api_Code.f k a0 a1) (api_Code.f (k + 1) a0 a1) := by
 intro a0 a1 k
 obtain ⟨ih0, ih1⟩ := api_Code.mono_l k
 unfold api_Code.f
 repeat' first
  | (with_reducible exact ih0 _ _ _ _)
  | (with_reducible exact ih1 _ _ _ _ _ _ _ _ _ _)
  | (with_reducible exact LeO.refl _)
  | (with_reducible exact LeO.none _)
  | (with_reducible refine LeO.ite ?_ ?_)
  | (with_reducible refine LeO.bind ?_ (fun _ => ?_))
  | exact ih0 _ _ _ _
  | exact ih1 _ _ _ _ _ _ _ _ _ _
  | exact LeO.none _
  | refine LeO.ite ?_ ?_
  | refine LeO.bind ?_ (fun _ => ?_)
set_option maxHeartbeats 8000000 in
set_option maxRecDepth 100000 in
theorem api_Code.calls (k : Nat) (A0 : Option Addr) (c0 : Nat) (l0 : List (S58)) (a1 : Unit) (r : Bool) (w : World) (hr0 : Kd.C k58 w A0 l0.length l0) (hc0 : l0.length ≤ c0) (h : api_Code.f k l0 a1 = some r) :
 Calls Tryz.prog 92 #[.slice A0 l0.length c0, (Value.func (.func 90) #[] #[])] w fun e w' => e = .returned (.bool r) ∧ Below w.heap.size w w' := by
 have hu58 := Tryz.underlying58
 have HR0 := Aside0.mk hr0
 have HC0 := Aside0.mk hc0
 clear hr0 hc0
 have HB := Aside0.mk (Below.refl w.heap.size w)
 have H : (api_Code.l0 k l0 l0 (l0.length : Int) 0) = some r := h
 clear h
 have H' := Aside0.mk H
 clear H
 go_enter Tryz.func92, Tryz.ntmps92
 go_wp2
 go_loopg [11] k (fun kq v11 w' => ∃ (x11_1 : Int), v11 = .int .i64 x11_1 ∧ Aside0 (api_Code.l0 kq l0 l0 (l0.length : Int) x11_1 = some r) ∧ Aside0 (kq ≤ k) ∧ Aside0 (Below w.heap.size w w'))
 case atStart => exact ⟨(0), (zq2), H', ⟨Nat.le_refl _⟩, ⟨zq18⟩⟩
 case round =>
  clear H'
  try clear p2
  obtain ⟨x11_1, rfl, HA, HK1, HB⟩ := hrel
  cases gk with
  | zero => exact absurd HA.out (by simp [api_Code.l0])
  | succ k1 =>
   have H := HA.out
   clear HA
   simp only [api_Code.l0] at H
   by_cases c3 : x11_1 < (l0.length : Int)
   rotate_left
   ·rw [if_neg c3] at H
    have c3b0 : decide (x11_1 < (l0.length : Int)) = false := decide_eq_false c3
    clear c3
    obtain rfl := Option.some.inj H
    go_wp2
    go_ret
    exact ⟨zq6, zq18⟩
   rw [if_pos c3] at H
   have c3b0 : decide (x11_1 < (l0.length : Int)) = true := decide_eq_true c3
   clear c3
   by_cases c4 : 0 ≤ x11_1
   rotate_left
   ·rw [if_neg c4] at H
    exact absurd H (by simp)
   rw [if_pos c4] at H
   have c4b0 : decide (0 ≤ x11_1) = true := decide_eq_true c4
   clear c4
   by_cases c5 : x11_1 < (l0.length : Int)
   rotate_left
   ·rw [if_neg c5] at H
    exact absurd H (by simp)
   rw [if_pos c5] at H
   have c5b0 : decide (x11_1 < (l0.length : Int)) = true := decide_eq_true c5
   clear c5
   have c6b0 := eq_true (of_decide_eq_true (zq9) : 0 ≤ x11_1)
   by_cases c7 : x11_1 ≤ (l0.length : Int)
   rotate_left
   ·rw [if_neg c7] at H
    exact absurd H (by simp)
   rw [if_pos c7] at H
   have c7b0 := eq_true c7
   have c7b1 : decide (x11_1 ≤ (l0.length : Int)) = true := decide_eq_true c7
   clear c7
   obtain ⟨y145, hy145⟩ : ∃ y_ : List (S58), y_ = (l0.take (x11_1 : Int).toNat) := ⟨_, rfl⟩
   replace H : (api_Code.l1 k1 l0 l0 (l0.length : Int) x11_1 y145 (y145.length : Int) 0 ((rd_T58 l0 x11_1).f0) ((rd_T58 l0 x11_1).f1) ((rd_T58 l0 x11_1).f2)) = some r := by first | (rw [hy145]; with_reducible exact H) | (have H2_ := (Option.bind_some _ _).symm.trans H; rw [hy145]; with_reducible exact H2_) | (have H2_ := (Option.bind_some _ _).symm.trans H; with_reducible exact H2_) | with_reducible exact H | (rw [hy145]; exact H) | exact H
   have Ny145 := Aside0.mk hy145
   clear hy145
   have H' := Aside0.mk H
   clear H
   have p143 : 0 ≤ (x11_1 : Int) := of_decide_eq_true (zq9)
   have q143 : x11_1 < (l0.length : Int) := of_decide_eq_true (zq9)
   obtain ⟨ad143, e143, hx143_0, hx143_1, hx143_2⟩ := at_T58 HR0.out x11_1 p143 q143
   cases e143
   replace hx143_0 := (HB.out.cell (World.block_lt_of_cell? w _ hx143_0)).trans hx143_0
   replace hx143_1 := (HB.out.cell (World.block_lt_of_cell? w _ hx143_1)).trans hx143_1
   replace hx143_2 := (HB.out.cell (World.block_lt_of_cell? w _ hx143_2)).trans hx143_2
   replace p143 := eq_true p143
   replace q143 := eq_true q143
   go_wp2_with (first | ((with_reducible refine gate_dst (N := 6) rfl ?_); refine box_event ?hg (N := 6) ?hd (cs := #[.string (⟨#[]⟩ : ByteArray), .string (⟨#[]⟩ : ByteArray), .int .i64 0]) (t := 58) ?hr ?_; (case hd => rfl); (case hg => rfl); (case hr => exact zq4); intro gb144 hg w8 hbox hb; have BK144 := Aside0.mk (hbox); have GW144 := Aside0.mk ((zq5 : w.heap.size ≤ gb144)); have GE144 := Aside0.mk ((zq5 : w.heap.size ≤ gb144)); replace HB := Aside0.mk (below_step (zW HB) hb); clear hb hbox hg; have hcz9_0 : w8.cell? ⟨gb144, 0, none⟩ = some (.string (⟨#[]⟩ : ByteArray)) := (blk_cell BK144.out 0).trans rfl; have hcz9_1 : w8.cell? ⟨gb144, 1, none⟩ = some (.string (⟨#[]⟩ : ByteArray)) := (blk_cell BK144.out 1).trans rfl; have hcz9_2 : w8.cell? ⟨gb144, 2, none⟩ = some (.int .i64 0) := (blk_cell BK144.out 2).trans rfl; have hfz9_0 := blk_frozen BK144.out 0; have hfz9_1 := blk_frozen BK144.out 1; have hfz9_2 := blk_frozen BK144.out 2) | ((with_reducible refine gate_store (t := 58) (p := 6) rfl ?_); refine store_event (t := 58) (p := 6) (v := ?vo_w10) (w1 := (((w8.setCell ⟨gb144, 0, none⟩ (.string ((rd_T58 l0 x11_1).f0))).setCell ⟨gb144, 1, none⟩ (.string ((rd_T58 l0 x11_1).f1))).setCell ⟨gb144, 2, none⟩ (.int .i64 ((rd_T58 l0 x11_1).f2)))) ?hg ?ho ?hn ?hr ?_; (case ho => rfl); (case hg => rfl); (case hn => rfl); (case hr => exact zq4); intro w10 hw; replace BK144 : Aside0 (w10.heap[gb144]? = some (.cells #[.string ((rd_T58 l0 x11_1).f0), .string ((rd_T58 l0 x11_1).f1), .int .i64 ((rd_T58 l0 x11_1).f2)] 58 (0, 0))) := ⟨(by rw [hw]; exact (by (with_reducible repeat (first | refine blk_drewN ?_ _ | refine blk_drew ?_ | refine blk_alloc ?_ _)); refine blk_put (cs := #[.string ((rd_T58 l0 x11_1).f0), .string ((rd_T58 l0 x11_1).f1), .int .i64 0]) ?_ 2 _ rfl; (with_reducible repeat (first | refine blk_drewN ?_ _ | refine blk_drew ?_ | refine blk_alloc ?_ _)); refine blk_put (cs := #[.string ((rd_T58 l0 x11_1).f0), .string (⟨#[]⟩ : ByteArray), .int .i64 0]) ?_ 1 _ rfl; (with_reducible repeat (first | refine blk_drewN ?_ _ | refine blk_drew ?_ | refine blk_alloc ?_ _)); refine blk_put (cs := #[.string (⟨#[]⟩ : ByteArray), .string (⟨#[]⟩ : ByteArray), .int .i64 0]) ?_ 0 _ rfl; (with_reducible repeat (first | refine blk_drewN ?_ _ | refine blk_drew ?_ | refine blk_alloc ?_ _)); exact BK144.out))⟩; replace HB : Aside0 (Below w.heap.size w w10) := ⟨(by rw [hw]; exact (zW HB))⟩; clear hw; have q11 : (x11_1 : Int) ≤ ((l0.length : Int) : Int) := of_decide_eq_true (zq9); obtain ⟨i011, hi011, _, hsz11, _⟩ := info_parts info58; have hroom11 : l0.length ≤ c0 := HC0.out; have hC11 : Kd.C k58 _ (some ad143) l0.length l0 := HR0.out; have hcut11 := cut_to (P := Tryz.prog) 59 58 .i64 Tryz.underlying59 hi011 (some ad143) l0.length c0 x11_1 (of_decide_eq_true (zq9)) q11 hroom11; have hr11 := Kd.C_take (m := (x11_1 : Int).toNat) hC11 (by omega); have hy11 : y145.length = (x11_1 : Int).toNat := (by rw [Ny145.out, List.length_take]; omega); rw [← Ny145.out] at hr11; rw [← hy11] at hcut11; have HR148 := Aside0.mk hr11; have HC148 := Aside0.mk (show y145.length ≤ c0 from by omega); clear hr11 hC11 hroom11 hi011 hsz11; have KY11 := Aside0.mk hy11; clear hy11; replace q11 := eq_true q11))
   go_loopg [20] k1 (fun kq v20 w' => ∃ (x20_2 : Int), v20 = .int .i64 x20_2 ∧ Aside0 (api_Code.l1 kq l0 l0 (l0.length : Int) x11_1 y145 (y145.length : Int) x20_2 ((rd_T58 l0 x11_1).f0) ((rd_T58 l0 x11_1).f1) ((rd_T58 l0 x11_1).f2) = some r) ∧ Aside0 (kq ≤ k1) ∧ Aside0 (w'.heap[gb144]? = some (.cells #[.string ((rd_T58 l0 x11_1).f0), .string ((rd_T58 l0 x11_1).f1), .int .i64 ((rd_T58 l0 x11_1).f2)] 58 (0, 0))) ∧ Aside0 (Below w.heap.size w w'))
   case atStart => exact ⟨(0), (zq2), H', ⟨Nat.le_refl _⟩, ⟨zq27⟩, ⟨zq28⟩⟩
   case round =>
    clear H'
    try clear p1
    try clear q1
    try clear hx1
    try clear p2
    try clear c3
    try clear c3b0
    try clear c4
    try clear c4b0
    try clear c5
    try clear c5b0
    try clear c6
    try clear c6b0
    try clear c7
    try clear c7b0
    try clear c7b1
    try clear c9
    try clear q11
    try clear hcz9_0
    try clear hcz9_1
    try clear hcz9_2
    try clear hfz9_0
    try clear hfz9_1
    try clear hfz9_2
    try clear hx143_0
    try clear hx143_1
    try clear hx143_2
    try clear p143
    try clear p2
    try clear q11
    try clear q143
    obtain ⟨x20_2, rfl, HA, HK2, BK144, HB⟩ := hrel
    cases gk with
    | zero => exact absurd HA.out (by simp [api_Code.l1])
    | succ k2 =>
     have H := HA.out
     clear HA
     simp only [api_Code.l1] at H
     by_cases c12 : x20_2 < (y145.length : Int)
     rotate_left
     ·rw [if_neg c12] at H
      have c12b0 : decide (x20_2 < (y145.length : Int)) = false := decide_eq_false c12
      clear c12
      have H' := Aside0.mk H
      clear H
      go_wp2
      go_roundg k2
      case measure => have := HK1.out; have := HK2.out; omega
      case rel => exact ⟨(wrap64 (x11_1 + 1)), (zq2), H', ⟨zq29⟩, ⟨zq28⟩⟩
     rw [if_pos c12] at H
     have c12b0 : decide (x20_2 < (y145.length : Int)) = true := decide_eq_true c12
     clear c12
     by_cases c13 : 0 ≤ x20_2
     rotate_left
     ·rw [if_neg c13] at H
      exact absurd H (by simp)
     rw [if_pos c13] at H
     have c13b0 : decide (0 ≤ x20_2) = true := decide_eq_true c13
     clear c13
     by_cases c14 : x20_2 < (y145.length : Int)
     rotate_left
     ·rw [if_neg c14] at H
      exact absurd H (by simp)
     rw [if_pos c14] at H
     have c14b0 : decide (x20_2 < (y145.length : Int)) = true := decide_eq_true c14
     clear c14
     replace H := Option.bind_eq_some_iff.mp H
     obtain ⟨t151, A150, H⟩ := H
     try dsimp only at H
     have A15 := Aside0.mk A150
     clear A150
     by_cases c16 : t151 = true
     rotate_left
     ·replace c16 := Bool.eq_false_iff.mpr c16
      subst c16
      rw [if_neg (show ¬ (false = true) by decide)] at H
      obtain rfl := Option.some.inj H
      have p149 : 0 ≤ (x20_2 : Int) := of_decide_eq_true (zq9)
      have q149 : x20_2 < (y145.length : Int) := of_decide_eq_true (zq9)
      obtain ⟨ad149, e149, hx149_0, hx149_1, hx149_2⟩ := at_T58 HR148.out x20_2 p149 q149
      obtain rfl : ad143 = ad149 := (by injection e149)
      replace hx149_0 := (HB.out.cell (World.block_lt_of_cell? w _ hx149_0)).trans hx149_0
      replace hx149_1 := (HB.out.cell (World.block_lt_of_cell? w _ hx149_1)).trans hx149_1
      replace hx149_2 := (HB.out.cell (World.block_lt_of_cell? w _ hx149_2)).trans hx149_2
      replace p149 := eq_true p149
      replace q149 := eq_true q149
      go_wp2_with (first | ((with_reducible refine gate_dst (N := 8) rfl ?_); refine box_event ?hg (N := 8) ?hd (cs := #[.string (⟨#[]⟩ : ByteArray), .string (⟨#[]⟩ : ByteArray), .int .i64 0]) (t := 58) ?hr ?_; (case hd => rfl); (case hg => rfl); (case hr => exact zq4); intro gb150 hg w22 hbox hb; have BK150 := Aside0.mk (hbox); have GW150 := Aside0.mk ((zq5 : w.heap.size ≤ gb150)); have GE150 := Aside0.mk ((zq5 : w.heap.size ≤ gb150)); replace HB := Aside0.mk (below_step (zW HB) hb); have NB144_150 := Aside0.mk ((by rw [hg]; exact Nat.ne_of_lt (blk_lt (zB BK144)) : gb144 ≠ gb150)); have NB150_144 := Aside0.mk ((by rw [hg]; exact Nat.ne_of_gt (blk_lt (zB BK144)) : gb150 ≠ gb144)); replace BK144 := Aside0.mk (blk_below (zB BK144) hb); clear hb hbox hg; have hnb23 := NB150_144.out; have hnc23 := NB144_150.out; have hcz24_0 : w22.cell? ⟨gb150, 0, none⟩ = some (.string (⟨#[]⟩ : ByteArray)) := (blk_cell BK150.out 0).trans rfl; have hcz24_1 : w22.cell? ⟨gb150, 1, none⟩ = some (.string (⟨#[]⟩ : ByteArray)) := (blk_cell BK150.out 1).trans rfl; have hcz24_2 : w22.cell? ⟨gb150, 2, none⟩ = some (.int .i64 0) := (blk_cell BK150.out 2).trans rfl; have hfz24_0 := blk_frozen BK150.out 0; have hfz24_1 := blk_frozen BK150.out 1; have hfz24_2 := blk_frozen BK150.out 2; have hcz25_0 : w22.cell? ⟨gb144, 0, none⟩ = some (.string ((rd_T58 l0 x11_1).f0)) := (blk_cell BK144.out 0).trans rfl; have hcz25_1 : w22.cell? ⟨gb144, 1, none⟩ = some (.string ((rd_T58 l0 x11_1).f1)) := (blk_cell BK144.out 1).trans rfl; have hcz25_2 : w22.cell? ⟨gb144, 2, none⟩ = some (.int .i64 ((rd_T58 l0 x11_1).f2)) := (blk_cell BK144.out 2).trans rfl; have hfz25_0 := blk_frozen BK144.out 0; have hfz25_1 := blk_frozen BK144.out 1; have hfz25_2 := blk_frozen BK144.out 2) | (go_at_call 90; (with_reducible refine (plan_Valid_1.calls ((rd_T58 l0 x11_1).f0) ((rd_T58 l0 x11_1).f1) ((rd_T58 l0 x11_1).f2) ((rd_T58 y145 x20_2).f0) ((rd_T58 y145 x20_2).f1) ((rd_T58 y145 x20_2).f2) false _ A15.out).mono ?_); rintro e w26 ⟨rfl, hb⟩; replace BK144 := Aside0.mk (blk_below (g := gb144) (o := .cells #[.string ((rd_T58 l0 x11_1).f0), .string ((rd_T58 l0 x11_1).f1), .int .i64 ((rd_T58 l0 x11_1).f2)] 58 (0, 0)) (zq25) hb); replace BK150 := Aside0.mk (blk_below (g := gb150) (o := .cells #[.string ((rd_T58 y145 x20_2).f0), .string ((rd_T58 y145 x20_2).f1), .int .i64 ((rd_T58 y145 x20_2).f2)] 58 (0, 0)) (zq26) hb); replace HB := Aside0.mk (below_step (zW HB) hb); (try clear hb); (try clear hb2); (try clear hk); (try clear hi)))
      go_ret
      exact ⟨zq6, zq30⟩
     subst c16
     rw [if_pos rfl] at H
     have H' := Aside0.mk H
     clear H
     have p149 : 0 ≤ (x20_2 : Int) := of_decide_eq_true (zq9)
     have q149 : x20_2 < (y145.length : Int) := of_decide_eq_true (zq9)
     obtain ⟨ad149, e149, hx149_0, hx149_1, hx149_2⟩ := at_T58 HR148.out x20_2 p149 q149
     obtain rfl : ad143 = ad149 := (by injection e149)
     replace hx149_0 := (HB.out.cell (World.block_lt_of_cell? w _ hx149_0)).trans hx149_0
     replace hx149_1 := (HB.out.cell (World.block_lt_of_cell? w _ hx149_1)).trans hx149_1
     replace hx149_2 := (HB.out.cell (World.block_lt_of_cell? w _ hx149_2)).trans hx149_2
     replace p149 := eq_true p149
     replace q149 := eq_true q149
     go_wp2_with (first | ((with_reducible refine gate_dst (N := 8) rfl ?_); refine box_event ?hg (N := 8) ?hd (cs := #[.string (⟨#[]⟩ : ByteArray), .string (⟨#[]⟩ : ByteArray), .int .i64 0]) (t := 58) ?hr ?_; (case hd => rfl); (case hg => rfl); (case hr => exact zq4); intro gb150 hg w17 hbox hb; have BK150 := Aside0.mk (hbox); have GW150 := Aside0.mk ((zq5 : w.heap.size ≤ gb150)); have GE150 := Aside0.mk ((zq5 : w.heap.size ≤ gb150)); replace HB := Aside0.mk (below_step (zW HB) hb); have NB144_150 := Aside0.mk ((by rw [hg]; exact Nat.ne_of_lt (blk_lt (zB BK144)) : gb144 ≠ gb150)); have NB150_144 := Aside0.mk ((by rw [hg]; exact Nat.ne_of_gt (blk_lt (zB BK144)) : gb150 ≠ gb144)); replace BK144 := Aside0.mk (blk_below (zB BK144) hb); clear hb hbox hg; have hnb18 := NB150_144.out; have hnc18 := NB144_150.out; have hcz19_0 : w17.cell? ⟨gb150, 0, none⟩ = some (.string (⟨#[]⟩ : ByteArray)) := (blk_cell BK150.out 0).trans rfl; have hcz19_1 : w17.cell? ⟨gb150, 1, none⟩ = some (.string (⟨#[]⟩ : ByteArray)) := (blk_cell BK150.out 1).trans rfl; have hcz19_2 : w17.cell? ⟨gb150, 2, none⟩ = some (.int .i64 0) := (blk_cell BK150.out 2).trans rfl; have hfz19_0 := blk_frozen BK150.out 0; have hfz19_1 := blk_frozen BK150.out 1; have hfz19_2 := blk_frozen BK150.out 2; have hcz20_0 : w17.cell? ⟨gb144, 0, none⟩ = some (.string ((rd_T58 l0 x11_1).f0)) := (blk_cell BK144.out 0).trans rfl; have hcz20_1 : w17.cell? ⟨gb144, 1, none⟩ = some (.string ((rd_T58 l0 x11_1).f1)) := (blk_cell BK144.out 1).trans rfl; have hcz20_2 : w17.cell? ⟨gb144, 2, none⟩ = some (.int .i64 ((rd_T58 l0 x11_1).f2)) := (blk_cell BK144.out 2).trans rfl; have hfz20_0 := blk_frozen BK144.out 0; have hfz20_1 := blk_frozen BK144.out 1; have hfz20_2 := blk_frozen BK144.out 2) | (go_at_call 90; (with_reducible refine (plan_Valid_1.calls ((rd_T58 l0 x11_1).f0) ((rd_T58 l0 x11_1).f1) ((rd_T58 l0 x11_1).f2) ((rd_T58 y145 x20_2).f0) ((rd_T58 y145 x20_2).f1) ((rd_T58 y145 x20_2).f2) true _ A15.out).mono ?_); rintro e w21 ⟨rfl, hb⟩; replace BK144 := Aside0.mk (blk_below (g := gb144) (o := .cells #[.string ((rd_T58 l0 x11_1).f0), .string ((rd_T58 l0 x11_1).f1), .int .i64 ((rd_T58 l0 x11_1).f2)] 58 (0, 0)) (zq25) hb); replace BK150 := Aside0.mk (blk_below (g := gb150) (o := .cells #[.string ((rd_T58 y145 x20_2).f0), .string ((rd_T58 y145 x20_2).f1), .int .i64 ((rd_T58 y145 x20_2).f2)] 58 (0, 0)) (zq26) hb); replace HB := Aside0.mk (below_step (zW HB) hb); (try clear hb); (try clear hb2); (try clear hk); (try clear hi)))
     go_roundg k2
     case measure => have := HK1.out; have := HK2.out; omega
     case rel => exact ⟨(wrap64 (x20_2 + 1)), (zq2), H', ⟨zq29⟩, ⟨zq27⟩, ⟨zq30⟩⟩
def plan_Valid.l0 : Nat → List (S58) → List (S58) → Int → Int → Option (Bool)
 | 0, _, _, _, _ => none
 | k + 1, x0, x6, x7, x8 => if x8 < x7 then (if 0 ≤ x8 then (if x8 < (x6.length : Int) then ((plan_isCode.f k ((rd_T58 x6 x8).f0) ((rd_T58 x6 x8).f1) ((rd_T58 x6 x8).f2)).bind fun t154 => (if t154 = true then (plan_Valid.l0 k x0 x6 x7 (wrap64 (x8 + 1))) else (some false))) else (none)) else (none)) else (if (x0.length : Int) ≤ 20 then ((api_Code.f k x0 ()).bind fun t155 => (some t155)) else (some false))
def plan_Valid.f (k : Nat) (l0 : List (S58)) : Option (Bool) := plan_Valid.l0 k l0 l0 (l0.length : Int) 0
theorem plan_Valid.mono_l : ∀ k, (∀ y0 y1 y2 y3, LeO (plan_Valid.l0 k y0 y1 y2 y3) (plan_Valid.l0 (k + 1) y0 y1 y2 y3))
 | 0 => fun _ _ _ _ r h => by simp [plan_Valid.l0] at h
 | k + 1 => by
  have ih0 := plan_Valid.mono_l k
  ·intro y0 y1 y2 y3
   unfold plan_Valid.l0
   repeat' first
   | (with_reducible exact ih0 _ _ _ _)
   | (with_reducible exact api_Code.mono _ _ _)
   | (with_reducible exact plan_isCode.mono _ _ _ _)
   | (with_reducible exact LeO.refl _)
   | (with_reducible exact LeO.none _)
   | (with_reducible refine LeO.ite ?_ ?_)
   | (with_reducible refine LeO.bind ?_ (fun _ => ?_))
   | exact ih0 _ _ _ _
   | exact api_Code.mono _ _ _
   | exact plan_isCode.mono _ _ _ _
   | exact LeO.none _
   | refine LeO.ite ?_ ?_
   | refine LeO.bind ?_ (fun _ => ?_)
theorem plan_Valid.mono : ∀ a0 k, LeO (plan_Valid.f k a0) (plan_Valid.f (k + 1) a0) := by
 intro a0 k
 have ih0 := plan_Valid.mono_l k
 unfold plan_Valid.f
 repeat' first
  | (with_reducible exact ih0 _ _ _ _)
  | (with_reducible exact api_Code.mono _ _ _)
  | (with_reducible exact plan_isCode.mono _ _ _ _)
  | (with_reducible exact LeO.refl _)
  | (with_reducible exact LeO.none _)
  | (with_reducible refine LeO.ite ?_ ?_)
  | (with_reducible refine LeO.bind ?_ (fun _ => ?_))
  | exact ih0 _ _ _ _
  | exact api_Code.mono _ _ _
  | exact plan_isCode.mono _ _ _ _
  | exact LeO.none _
  | refine LeO.ite ?_ ?_
  | refine LeO.bind ?_ (fun _ => ?_)
set_option maxHeartbeats 8000000 in
set_option maxRecDepth 100000 in
theorem plan_Valid.calls (k : Nat) (A0 : Option Addr) (c0 : Nat) (l0 : List (S58)) (r : Bool) (w : World) (hr0 : Kd.C k58 w A0 l0.length l0) (hc0 : l0.length ≤ c0) (h : plan_Valid.f k l0 = some r) :
 Calls Tryz.prog 60 #[.slice A0 l0.length c0] w fun e w' => e = .returned (.bool r) ∧ Below w.heap.size w w' := by
 have hu58 := Tryz.underlying58
 have HR0 := Aside0.mk hr0
 have HC0 := Aside0.mk hc0
 clear hr0 hc0
 have HB := Aside0.mk (Below.refl w.heap.size w)
 have H : (plan_Valid.l0 k l0 l0 (l0.length : Int) 0) = some r := h
 clear h
 have H' := Aside0.mk H
 clear H
 go_enter Tryz.func60, Tryz.ntmps60
 go_wp2
 go_loopg [8] k (fun kq v8 w' => ∃ (x8_1 : Int), v8 = .int .i64 x8_1 ∧ Aside0 (plan_Valid.l0 kq l0 l0 (l0.length : Int) x8_1 = some r) ∧ Aside0 (kq ≤ k) ∧ Aside0 (Below w.heap.size w w'))
 case atStart => exact ⟨(0), (zq2), H', ⟨Nat.le_refl _⟩, ⟨zq18⟩⟩
 case round =>
  clear H'
  obtain ⟨x8_1, rfl, HA, HK1, HB⟩ := hrel
  cases gk with
  | zero => exact absurd HA.out (by simp [plan_Valid.l0])
  | succ k1 =>
   have H := HA.out
   clear HA
   simp only [plan_Valid.l0] at H
   by_cases c2 : x8_1 < (l0.length : Int)
   rotate_left
   ·rw [if_neg c2] at H
    have c2b0 : decide (x8_1 < (l0.length : Int)) = false := decide_eq_false c2
    clear c2
    by_cases c13 : (l0.length : Int) ≤ 20
    rotate_left
    ·rw [if_neg c13] at H
     have c13b0 : decide ((l0.length : Int) ≤ 20) = false := decide_eq_false c13
     have c13b1 : decide (l0.length ≤ 20) = false := decide_eq_false (by omega)
     clear c13
     obtain rfl := Option.some.inj H
     go_wp2
     go_ret
     exact ⟨zq6, zq18⟩
    rw [if_pos c13] at H
    have c13b0 : decide ((l0.length : Int) ≤ 20) = true := decide_eq_true c13
    have c13b1 : decide (l0.length ≤ 20) = true := decide_eq_true (by omega)
    clear c13
    replace H := Option.bind_eq_some_iff.mp H
    obtain ⟨t155, A140, H⟩ := H
    try dsimp only at H
    have A14 := Aside0.mk A140
    clear A140
    obtain rfl := Option.some.inj H
    go_wp2_with (first | (go_at_call 92; (with_reducible refine (api_Code.calls k1 _ _ l0 () t155 _ ?side1 ?side2 A14.out).mono ?_); (case side1 => exact zq11); (case side2 => exact zq12); rintro e w15 ⟨rfl, hb⟩; replace HB := Aside0.mk (below_step (zW HB) hb); (try clear hb); (try clear hb2); (try clear hk); (try clear hi)))
    go_ret
    exact ⟨zq6, zq18⟩
   rw [if_pos c2] at H
   have c2b0 : decide (x8_1 < (l0.length : Int)) = true := decide_eq_true c2
   clear c2
   by_cases c3 : 0 ≤ x8_1
   rotate_left
   ·rw [if_neg c3] at H
    exact absurd H (by simp)
   rw [if_pos c3] at H
   have c3b0 : decide (0 ≤ x8_1) = true := decide_eq_true c3
   clear c3
   by_cases c4 : x8_1 < (l0.length : Int)
   rotate_left
   ·rw [if_neg c4] at H
    exact absurd H (by simp)
   rw [if_pos c4] at H
   have c4b0 : decide (x8_1 < (l0.length : Int)) = true := decide_eq_true c4
   clear c4
   replace H := Option.bind_eq_some_iff.mp H
   obtain ⟨t154, A50, H⟩ := H
   try dsimp only at H
   have A5 := Aside0.mk A50
   clear A50
   by_cases c6 : t154 = true
   ·subst c6
    rw [if_pos rfl] at H
    have H' := Aside0.mk H
    clear H
    have p152 : 0 ≤ (x8_1 : Int) := of_decide_eq_true (zq9)
    have q152 : x8_1 < (l0.length : Int) := of_decide_eq_true (zq9)
    obtain ⟨ad152, e152, hx152_0, hx152_1, hx152_2⟩ := at_T58 HR0.out x8_1 p152 q152
    cases e152
    replace hx152_0 := (HB.out.cell (World.block_lt_of_cell? w _ hx152_0)).trans hx152_0
    replace hx152_1 := (HB.out.cell (World.block_lt_of_cell? w _ hx152_1)).trans hx152_1
    replace hx152_2 := (HB.out.cell (World.block_lt_of_cell? w _ hx152_2)).trans hx152_2
    replace p152 := eq_true p152
    replace q152 := eq_true q152
    go_wp2_with (first | ((with_reducible refine gate_dst (N := 4) rfl ?_); refine box_event ?hg (N := 4) ?hd (cs := #[.string (⟨#[]⟩ : ByteArray), .string (⟨#[]⟩ : ByteArray), .int .i64 0]) (t := 58) ?hr ?_; (case hd => rfl); (case hg => rfl); (case hr => exact zq4); intro gb153 hg w7 hbox hb; have BK153 := Aside0.mk (hbox); have GW153 := Aside0.mk ((zq5 : w.heap.size ≤ gb153)); have GE153 := Aside0.mk ((zq5 : w.heap.size ≤ gb153)); replace HB := Aside0.mk (below_step (zW HB) hb); clear hb hbox hg; have hcz8_0 : w7.cell? ⟨gb153, 0, none⟩ = some (.string (⟨#[]⟩ : ByteArray)) := (blk_cell BK153.out 0).trans rfl; have hcz8_1 : w7.cell? ⟨gb153, 1, none⟩ = some (.string (⟨#[]⟩ : ByteArray)) := (blk_cell BK153.out 1).trans rfl; have hcz8_2 : w7.cell? ⟨gb153, 2, none⟩ = some (.int .i64 0) := (blk_cell BK153.out 2).trans rfl; have hfz8_0 := blk_frozen BK153.out 0; have hfz8_1 := blk_frozen BK153.out 1; have hfz8_2 := blk_frozen BK153.out 2) | ((with_reducible refine gate_callee (f := 89) rfl ?_); refine goesL_ (some 13) rfl rfl Tryz.func89 (by kernel_rfl) rfl #[.agg #[.string ((rd_T58 l0 x8_1).f0), .string ((rd_T58 l0 x8_1).f1), .int .i64 ((rd_T58 l0 x8_1).f2)]] rfl zG ?_; (with_reducible refine (plan_isCode.calls k1 ((rd_T58 l0 x8_1).f0) ((rd_T58 l0 x8_1).f1) ((rd_T58 l0 x8_1).f2) true _ A5.out).mono ?_); rintro e w9 ⟨rfl, hb⟩; refine ⟨_, rfl, ?_⟩; replace BK153 := Aside0.mk (blk_below (g := gb153) (o := .cells #[.string ((rd_T58 l0 x8_1).f0), .string ((rd_T58 l0 x8_1).f1), .int .i64 ((rd_T58 l0 x8_1).f2)] 58 (0, 0)) (zq31) hb); replace HB := Aside0.mk (below_step (zW HB) hb); (try clear hb); (try clear hb2); (try clear hk); (try clear hi)))
    go_roundg k1
    case measure => have := HK1.out; omega
    case rel => exact ⟨(wrap64 (x8_1 + 1)), (zq2), H', ⟨zq10⟩, ⟨zq32⟩⟩
   replace c6 := Bool.eq_false_iff.mpr c6
   subst c6
   rw [if_neg (show ¬ (false = true) by decide)] at H
   obtain rfl := Option.some.inj H
   have p152 : 0 ≤ (x8_1 : Int) := of_decide_eq_true (zq9)
   have q152 : x8_1 < (l0.length : Int) := of_decide_eq_true (zq9)
   obtain ⟨ad152, e152, hx152_0, hx152_1, hx152_2⟩ := at_T58 HR0.out x8_1 p152 q152
   cases e152
   replace hx152_0 := (HB.out.cell (World.block_lt_of_cell? w _ hx152_0)).trans hx152_0
   replace hx152_1 := (HB.out.cell (World.block_lt_of_cell? w _ hx152_1)).trans hx152_1
   replace hx152_2 := (HB.out.cell (World.block_lt_of_cell? w _ hx152_2)).trans hx152_2
   replace p152 := eq_true p152
   replace q152 := eq_true q152
   go_wp2_with (first | ((with_reducible refine gate_dst (N := 4) rfl ?_); refine box_event ?hg (N := 4) ?hd (cs := #[.string (⟨#[]⟩ : ByteArray), .string (⟨#[]⟩ : ByteArray), .int .i64 0]) (t := 58) ?hr ?_; (case hd => rfl); (case hg => rfl); (case hr => exact zq4); intro gb153 hg w10 hbox hb; have BK153 := Aside0.mk (hbox); have GW153 := Aside0.mk ((zq5 : w.heap.size ≤ gb153)); have GE153 := Aside0.mk ((zq5 : w.heap.size ≤ gb153)); replace HB := Aside0.mk (below_step (zW HB) hb); clear hb hbox hg; have hcz11_0 : w10.cell? ⟨gb153, 0, none⟩ = some (.string (⟨#[]⟩ : ByteArray)) := (blk_cell BK153.out 0).trans rfl; have hcz11_1 : w10.cell? ⟨gb153, 1, none⟩ = some (.string (⟨#[]⟩ : ByteArray)) := (blk_cell BK153.out 1).trans rfl; have hcz11_2 : w10.cell? ⟨gb153, 2, none⟩ = some (.int .i64 0) := (blk_cell BK153.out 2).trans rfl; have hfz11_0 := blk_frozen BK153.out 0; have hfz11_1 := blk_frozen BK153.out 1; have hfz11_2 := blk_frozen BK153.out 2) | ((with_reducible refine gate_callee (f := 89) rfl ?_); refine goesL_ (some 13) rfl rfl Tryz.func89 (by kernel_rfl) rfl #[.agg #[.string ((rd_T58 l0 x8_1).f0), .string ((rd_T58 l0 x8_1).f1), .int .i64 ((rd_T58 l0 x8_1).f2)]] rfl zG ?_; (with_reducible refine (plan_isCode.calls k1 ((rd_T58 l0 x8_1).f0) ((rd_T58 l0 x8_1).f1) ((rd_T58 l0 x8_1).f2) false _ A5.out).mono ?_); rintro e w12 ⟨rfl, hb⟩; refine ⟨_, rfl, ?_⟩; replace BK153 := Aside0.mk (blk_below (g := gb153) (o := .cells #[.string ((rd_T58 l0 x8_1).f0), .string ((rd_T58 l0 x8_1).f1), .int .i64 ((rd_T58 l0 x8_1).f2)] 58 (0, 0)) (zq31) hb); replace HB := Aside0.mk (below_step (zW HB) hb); (try clear hb); (try clear hb2); (try clear hk); (try clear hi)))
   go_ret
   exact ⟨zq6, zq32⟩
def plan_isPhase.f (a0 : Int) : Option (Bool) := (plan_isWithin.f a0 1 3).bind fun t156 => (some t156)
set_option maxHeartbeats 8000000 in
set_option maxRecDepth 100000 in
theorem plan_isPhase.calls (a0 : Int) (r : Bool) (w : World) (h : plan_isPhase.f a0 = some r) :
 Calls Tryz.prog 62 #[.int .i64 a0] w fun e w' => e = .returned (.bool r) ∧ Drawn0 w w' := by
 have H : ((plan_isWithin.f a0 1 3).bind fun t156 => (some t156)) = some r := h
 clear h
 replace H := Option.bind_eq_some_iff.mp H
 obtain ⟨t156, A20, H⟩ := H
 try dsimp only at H
 have A2 := Aside0.mk A20
 clear A20
 obtain rfl := Option.some.inj H
 go_enter Tryz.func62, Tryz.ntmps62
 go_wp2_with (first | ((with_reducible refine gate_callee (f := 94) rfl ?_); refine goesL_ (some 4) rfl rfl Tryz.func94 (by kernel_rfl) rfl #[.int .i64 a0, .int .i64 1, .int .i64 3] rfl zG ?_; (with_reducible refine (plan_isWithin.calls a0 1 3 t156 _ A2.out).mono ?_); rintro e w' ⟨rfl, ⟨nd, rfl⟩⟩; refine ⟨_, rfl, ?_⟩))
 go_ret
 exact ⟨zq2, zq3⟩
end Go.Proofs.YtkfejgdeknemaaaGreatDoor.Fw
end
section
open Go.Proofs.YtkfejgdeknemaaaGreatDoor.Z
namespace Go.Proofs.YtkfejgdeknemaaaGreatDoor.Fw
open Go.RowKit Go.Proofs.YtkfejgdeknemaaaGreatDoorW.PrintWords Go.Proofs.YtkfejgdeknemaaaGreatDoorW.PrintLast Go.Proofs.YtkfejgdeknemaaaGreatDoorW.PrintMore
attribute [local go_sem] max2_int min2_int max_two min_two max_three min_three max_four min_four
set_option linter.unusedVariables false
set_option linter.unusedSimpArgs false
def strconv_Atoi.f (s : ByteArray) : Option (Int × Option Int) :=
 if s.size ≤ 18 then (Lib.atoi s.data.toList).map fun n => (n, none) else none
theorem strconv_Atoi.calls (s : ByteArray) (r1 : Int) (r2 : Option Int) (w : World) (h : strconv_Atoi.f s = some (r1, r2)) :
 Calls Tryz.prog 64 #[.string s] w fun e w' => e = .returned (.tuple #[.int .i64 r1, errW r2]) ∧ Below w.heap.size w w' := by
 unfold strconv_Atoi.f at h
 split at h
 ·rename_i hc
  cases ha : Lib.atoi s.data.toList with
  | none => rw [ha] at h; cases h
  | some n =>
   rw [ha] at h
   obtain ⟨h1, h2⟩ := Prod.mk.inj (Option.some.inj h)
   subst h1 h2
   exact (Tryz.strconv_Atoi s n hc ha w).mono fun e w' ⟨he, t, hw⟩ => ⟨he, by rw [hw]; exact below_bytesW w _ _⟩
 ·cases h
end Go.Proofs.YtkfejgdeknemaaaGreatDoor.Fw
end
section
open Go.Proofs.YtkfejgdeknemaaaGreatDoor.Z
namespace Go.Proofs.YtkfejgdeknemaaaGreatDoor.Fw
open Go.RowKit Go.Proofs.YtkfejgdeknemaaaGreatDoorW.PrintWords Go.Proofs.YtkfejgdeknemaaaGreatDoorW.PrintLast Go.Proofs.YtkfejgdeknemaaaGreatDoorW.PrintMore
attribute [local go_sem] max2_int min2_int max_two min_two max_three min_three max_four min_four
set_option linter.unusedVariables false
set_option linter.unusedSimpArgs false
def strings_Repeat.f (s : ByteArray) (c : Int) : Option ByteArray :=
 if 0 ≤ c ∧ c ≤ 9223372036854775807 ∧ s.size * c.toNat ≤ 140737488355328 then some ⟨(Lib.repeatL s.data.toList c.toNat).toArray⟩ else none
theorem strings_Repeat.calls (s : ByteArray) (c : Int) (r : ByteArray) (w : World) (h : strings_Repeat.f s c = some r) :
 Calls Tryz.prog 95 #[.string s, .int .i64 c] w fun e w' => e = .returned (.string r) ∧ Below w.heap.size w w' := by
 unfold strings_Repeat.f at h
 split at h
 ·rename_i hc
  obtain ⟨h1, h2, h3⟩ := hc
  obtain rfl := Option.some.inj h
  obtain ⟨n, rfl⟩ := Int.eq_ofNat_of_zero_le h1
  exact Tryz.strings_Repeat s n w (by omega) h3
 ·cases h
end Go.Proofs.YtkfejgdeknemaaaGreatDoor.Fw
end
section
open Go.Proofs.YtkfejgdeknemaaaGreatDoor.Z
namespace Go.Proofs.YtkfejgdeknemaaaGreatDoor.Fw
open Go.RowKit Go.Proofs.YtkfejgdeknemaaaGreatDoorW.PrintWords Go.Proofs.YtkfejgdeknemaaaGreatDoorW.PrintLast Go.Proofs.YtkfejgdeknemaaaGreatDoorW.PrintMore
attribute [local go_sem] max2_int min2_int max_two min_two max_three min_three max_four min_four
set_option linter.unusedVariables false
set_option linter.unusedSimpArgs false
open Go.Proofs.GMap Go.Maps
open Go.WideMaps (keyOf_string_mk)
abbrev Ent := Int × Int × ByteArray
def encE (e : Ent) : Value := .agg #[.int .i64 e.1, .int .i64 e.2.1, .string e.2.2]
def lookE (L : List (ByteArray × Ent)) (s : ByteArray) : Option Ent := (L.find? (fun p => decide (p.1 = s))).map (·.2)
def MapE (w : World) (b n : Nat) (L : List (ByteArray × Ent)) : Prop :=
 ∃ F, MapV Tryz.prog 9 w b n F ∧ ∀ s, F (.string s) = (lookE L s).map encE
theorem MapE.put {L : List (ByteArray × Ent)} {F : Value → Option Value} (hF : ∀ s, F (.string s) = (lookE L s).map encE) (k : ByteArray) (e : Ent) :
 ∀ s, upd F (.string k) (encE e) (.string s) = (lookE ((k, e) :: L) s).map encE := by
 intro s
 by_cases h : s = k
 ·subst h; rw [upd_same]; simp [lookE, List.find?_cons]
 rw [upd_other _ _ (by simpa using h), hF]
 have : ¬ k = s := fun e => h e.symm
 simp [lookE, this]
theorem MapE.below {w w' : World} {b n : Nat} {L : List (ByteArray × Ent)} (h : MapE w b n L) (hb : Below w.heap.size w w') : MapE w' b n L := let ⟨F, h, s⟩ := h; ⟨F, h.below hb, s⟩
theorem MapE.drew {w : World} {b n : Nat} {L : List (ByteArray × Ent)} (h : MapE w b n L) : MapE w.drew b n L := let ⟨F, h, s⟩ := h; ⟨F, h.drew, s⟩
theorem keyed9 : Keyed Tryz.prog 9 := string_keyed Tryz.underlying9
def entStep (ph : Int) (c : S58) (i : Int) (L : List (ByteArray × Ent)) : Option (List (ByteArray × Ent)) :=
 if c.f0.size ≤ 1000 ∧ c.f1.size ≤ 1000 then
  (if ph ≠ 3 then (plan_room.f c.f0 c.f1 c.f2).bind fun r => (strings_Repeat.f ⟨#[48]⟩ (wrap64 (wrap64 (8 - (c.f1.size : Int)) - r))).bind fun z => (if c.f1.size + z.size ≤ 9223372036854775807 then some ((c.f0, (i, c.f2, c.f1 ++ z)) :: L) else none) else some L).bind fun L1 =>
   some (if ph ≠ 1 then (c.f1, (i, 8, c.f1)) :: L1 else L1)
 else none
def entGo (ph : Int) : List S58 → Nat → List (ByteArray × Ent) → Option (List (ByteArray × Ent))
 | [], _, L => some L
 | c :: cs, i, L => (entStep ph c i L).bind fun L1 => entGo ph cs (i + 1) L1
set_option maxHeartbeats 400000 in
set_option maxRecDepth 100000 in
theorem plan_entries.calls (A0 : Option Addr) (c0 : Nat) (l0 : List S58) (a1 : Int) (L : List (ByteArray × Ent)) (w : World) (hr0 : Kd.C k58 w A0 l0.length l0) (hl0 : l0.length ≤ 1000) (h : entGo a1 l0 0 [] = some L) :
 Calls Tryz.prog 63 #[.slice A0 l0.length c0, .int .i64 a1] w fun e w' => ∃ b n, e = .returned (.map (some b)) ∧ MapE w' b n L ∧ Below w.heap.size w w' := by
 have HB := Aside0.mk (Below.refl w.heap.size w)
 have HL := Aside0.mk h
 have HR := Aside0.mk hr0
 clear h hr0
 have hmm := @run_makeMap Tryz.prog
 go_enter Tryz.func63, Tryz.ntmps63
 go_wp2
 have hm0 : MapV Tryz.prog 9 (w.alloc (.map #[] 0)) w.heap.size 0 (fun _ => none) := MapV.made _ _ _
 have HM := Aside0.mk (show ∃ F, MapV Tryz.prog 9 (w.alloc (.map #[] 0)) w.heap.size (2 * 0) F ∧ ∀ s, F (.string s) = (lookE [] s).map encE from ⟨_, hm0, fun s => rfl⟩)
 clear hm0
 go_loopw [11] (fun v wr => ∃ i : Nat, i ≤ l0.length ∧ v = .int .i64 i ∧ ∃ L1, Aside0 (MapE wr w.heap.size (2 * i) L1) ∧ Aside0 (entGo a1 (l0.drop i) i L1 = some L) ∧ Aside0 (Below w.heap.size w wr) ∧ Aside0 (w.heap.size < wr.heap.size)) (fun v _ => l0.length - (intOf v).toNat)
 case atStart => exact ⟨0, Nat.zero_le _, rfl, [], ⟨HM.out⟩, ⟨HL.out⟩, ⟨by exact (Below.refl _ _).alloc (Nat.le_refl _) _⟩, ⟨by simp⟩⟩
 case round =>
  clear HM HL HB
  obtain ⟨i, hi, rfl, L1, HM, HG, HB, HS⟩ := hrel
  by_cases hlt : i < l0.length
  rotate_left
  ·obtain rfl : i = l0.length := by omega
   have hL : L1 = L := by have := HG.out; rw [List.drop_length] at this; exact Option.some.inj this
   have M1 := Aside0.mk (show MapE wr w.heap.size (2 * l0.length) L from by rw [← hL]; exact HM.out)
   clear hL HM HG
   go_wp2
   go_ret
   exact ⟨_, _, rfl, M1.out, HB.out⟩
  obtain ⟨ad, hA, h0, h1, h2⟩ := at_T58 HR.out (i : Int) (by omega) (by omega)
  subst hA
  rw [Int.toNat_natCast] at h0 h1 h2
  replace h0 := pw_cell_below HB.out h0
  replace h1 := pw_cell_below HB.out h1
  replace h2 := pw_cell_below HB.out h2
  have hdrop : l0.drop i = rd_T58 l0 i :: l0.drop (i + 1) := by
   rw [List.drop_eq_getElem_cons hlt]; simp [rd_T58, hlt]
  have HG2 := HG.out
  rw [hdrop] at HG2
  simp only [entGo] at HG2
  obtain ⟨L2, hst, hgo⟩ := Option.bind_eq_some_iff.mp HG2
  clear HG HG2
  unfold entStep at hst
  generalize rd_T58 l0 i = c at *
  split at hst
  case isFalse => cases hst
  rename_i hsz
  obtain ⟨L3, hst3, hst4⟩ := Option.bind_eq_some_iff.mp hst
  clear hst
  by_cases h3 : a1 = 3
  ·have h3b : (a1 != 3) = false := by simpa using h3
   have h1b : (a1 != 1) = true := by rw [h3]; rfl
   rw [if_neg (by simpa using h3)] at hst3
   obtain rfl := Option.some.inj hst3
   have hst5 := Option.some.inj hst4
   rw [if_pos (by omega)] at hst5
   have HST5 := Aside0.mk hst5
   have HGO := Aside0.mk hgo
   have HSZ := Aside0.mk hsz
   have hBs := HS.out
   clear hst5 hgo hst3 hst4 h3 hsz hdrop
   obtain ⟨F, hF1, hF2⟩ := HM.out
   have HF2 := Aside0.mk hF2
   clear hF2
   go_wp2_with (first | (at_mapUpdate; refine wpList_update _ rfl _ _ _ 107 rfl 9 110 keyed9 Tryz.underlying107 w.heap.size (2 * i) F rfl (hF1.alloc _) (by unfold maxLen; omega) _ (encE ((i : Int), 8, c.f1)) _ rfl rfl (keyOf_string_mk Tryz.underlying9 (s := c.f1) (by have := HSZ.out.2; unfold maxLen; omega)) ?_; intro w5 hm5 hg5))
   go_roundw
   case rel =>
    have hg5s := hg5.size
    exact ⟨i + 1, by omega, by go_num, L2, ⟨⟨_, hm5.mono (by omega), by rw [← HST5.out]; exact MapE.put HF2.out _ _⟩⟩, HGO, ⟨(HB.out.alloc (by omega) _).grown hg5 (by simp; omega) (fun k e => by cases e; exact Nat.le_refl _)⟩, ⟨by simp at hg5s; omega⟩⟩
   case measure => simp [intOf]; omega
  rw [if_pos h3] at hst3
  obtain ⟨r, hr, hst3⟩ := Option.bind_eq_some_iff.mp hst3
  obtain ⟨z, hz, hst3⟩ := Option.bind_eq_some_iff.mp hst3
  by_cases hcat : c.f1.size + z.size ≤ 9223372036854775807
  case neg => rw [if_neg hcat] at hst3; cases hst3
  rw [if_pos hcat] at hst3
  have hcat2 : (9223372036854775807 < c.f1.size + z.size) = False := eq_false (Nat.not_lt.2 hcat)
  have HST3 := Aside0.mk (Option.some.inj hst3)
  have HST4 := Aside0.mk (Option.some.inj hst4)
  have HGO := Aside0.mk hgo
  have Hr := Aside0.mk hr
  have Hz := Aside0.mk hz
  have HSZ := Aside0.mk hsz
  clear hst3 hst4 hgo hr hz hsz hdrop
  have h3b : (a1 != 3) = true := by simpa using h3
  clear h3
  have HW := Aside0.mk (show ∃ W, W = wr.alloc (.cells #[.string c.f0, .string c.f1, .int .i64 c.f2] 58) from ⟨_, rfl⟩)
  go_upto_region 6 with (fail)
  obtain ⟨W, hW⟩ := HW.out
  clear HW
  have k0 : W.cell? ⟨wr.heap.size, 0, none⟩ = some (.string c.f0) := by rw [hW]; go_simp
  have k1 : W.cell? ⟨wr.heap.size, 1, none⟩ = some (.string c.f1) := by rw [hW]; go_simp
  have k2 : W.cell? ⟨wr.heap.size, 2, none⟩ = some (.int .i64 c.f2) := by rw [hW]; go_simp
  have hBW : Below wr.heap.size wr W := by rw [hW]; exact (Below.refl _ _).alloc (Nat.le_refl _) _
  have hSW : W.heap.size = wr.heap.size + 1 := by rw [hW]; simp
  rw [← hW]
  clear h0 h1 h2 hW
  have hBW := Aside0.mk hBW
  have hSW := Aside0.mk hSW
  go_region_held3 (fun w' => w'.cell? ⟨wr.heap.size, 0, none⟩ = some (.string c.f0) ∧ w'.cell? ⟨wr.heap.size, 1, none⟩ = some (.string c.f1) ∧ w'.cell? ⟨wr.heap.size, 2, none⟩ = some (.int .i64 c.f2))
   (first | go_keep | (go_split_ands; refine ⟨?_, ?_, ?_⟩ <;> (apply pw_cell_below hb2.out; assumption)) | (go_split_ands; have hb2s := hb2.out.size; simp at hb2s; have hSs := hSW.out; have hBs := HS.out; refine ⟨?_, ?_, ?_⟩ <;> (rw [hg4.cell_far _ (by simp; omega) (by simp; omega)]; apply pw_cell_below hb2.out; assumption)))
   (first
    | (go_simp; go_at_call 96; refine (plan_room.calls _ _ _ r _ Hr.out).mono ?_; rintro e w2 ⟨rfl, hb2'⟩; have hb2 := Aside0.mk hb2'; clear hb2')
    | (go_simp; go_at_call 95; rw [i64_w, i64_w]; refine (strings_Repeat.calls _ _ z _ Hz.out).mono ?_; rintro e w3 ⟨rfl, hb3'⟩; have hb2 := Aside0.mk (below_then hb2.out hb2.out.size hb3'); clear hb3')
    | (go_simp; obtain ⟨F, hF1, hF2⟩ := ((HM.out.below hBW.out).drew).below hb2.out; obtain ⟨w4, hrun, hm4, hg4⟩ := MapV.update hF1 keyed9 Tryz.underlying107 (by unfold maxLen; omega) (encE ((i : Int), c.f2, c.f1 ++ z)) (keyOf_string_mk Tryz.underlying9 (s := c.f0) (by have := HSZ.out.1; unfold maxLen; omega)); have hrun2 := hrun; unfold encE at hrun2; rw [hrun2]; simp only [Result.andThen, Oper.upon_skip, Act.put]))
  have M4 := Aside0.mk (show MapE w4 w.heap.size (2 * i + 1) L3 from by rw [← HST3.out]; exact ⟨_, hm4, MapE.put hF2 _ _⟩)
  have hb2s := hb2.out.size
  simp at hb2s
  have hSs := hSW.out
  have hBs := HS.out
  have hg4s := hg4.size
  have q1 : w4.cell? ⟨wr.heap.size, 1, none⟩ = some (.string c.f1) := by
   rw [hg4.cell_far _ (by simp; omega) (by simp; omega)]; exact pw_cell_below hb2.out k1
  have B4 := Aside0.mk (show Below w.heap.size w w4 from (((HB.out.trans (hBW.out.mono (by omega))).drew).trans (hb2.out.mono (by simp; omega))).grown hg4 (by omega) (fun k e => by cases e; exact Nat.le_refl _))
  have S4 := Aside0.mk (show w.heap.size < w4.heap.size by omega)
  clear hm4 hF1 hF2 hrun hrun2 hb2 hb2s hg4s hg4 k0 k1 k2 hBW hSW HST3 Hr Hz hSs hBs hcat hcat2 HM HB hst3
  by_cases h1 : a1 = 1
  ·have h1b : (a1 != 1) = false := by simpa using h1
   have HST5 := Aside0.mk (show L3 = L2 from by have := HST4.out; rw [if_neg (by simpa using h1)] at this; exact this)
   clear h1 HST4
   go_wp2
   go_roundw
   case rel => exact ⟨i + 1, by omega, by go_num, L2, ⟨by obtain ⟨F, h, s⟩ := M4.out; exact ⟨F, h.mono (by omega), by rw [← HST5.out]; exact s⟩⟩, HGO, B4, S4⟩
   case measure => simp [intOf]; omega
  have h1b : (a1 != 1) = true := by simpa using h1
  have HST5 := Aside0.mk (show (c.f1, ((i : Int), 8, c.f1)) :: L3 = L2 from by have := HST4.out; rw [if_pos (by simpa using h1)] at this; exact this)
  clear h1 HST4
  obtain ⟨F, hF1, hF2⟩ := M4.out
  have HF2 := Aside0.mk hF2
  clear hF2
  go_wp2_with (first | (at_mapUpdate; refine wpList_update _ rfl _ _ _ 107 rfl 9 110 keyed9 Tryz.underlying107 w.heap.size (2 * i + 1) F rfl hF1 (by unfold maxLen; omega) _ (encE ((i : Int), 8, c.f1)) _ rfl rfl (keyOf_string_mk Tryz.underlying9 (s := c.f1) (by have := HSZ.out.2; unfold maxLen; omega)) ?_; intro w5 hm5 hg5))
  go_roundw
  case rel =>
   have hg5s := hg5.size
   have S4s := S4.out
   exact ⟨i + 1, by omega, by go_num, L2, ⟨⟨_, hm5.mono (by omega), by rw [← HST5.out]; exact MapE.put HF2.out _ _⟩⟩, HGO, ⟨B4.out.grown hg5 (by omega) (fun k e => by cases e; exact Nat.le_refl _)⟩, ⟨by omega⟩⟩
  case measure => simp [intOf]; omega
def readLoop (L : List (ByteArray × Ent)) (d : ByteArray) : Nat → Nat → Option (Option (Int × Int × Int × Int))
 | 0, _ => some none
 | m + 1, k => match lookE L (d.extract 0 k) with
  | none => readLoop L d m (k + 1)
  | some x => if (d.size : Int) < x.2.1 then some (some (1, 0, 0, 0)) else
   if (k : Int) ≤ x.2.1 ∧ x.2.1 ≤ (d.size : Int) ∧ x.2.2.size + (d.extract k x.2.1.toNat).size ≤ 9223372036854775807 then
    (strconv_Atoi.f (x.2.2 ++ d.extract k x.2.1.toNat)).bind fun n => some (some (2, n.1, x.1, x.2.1)) else none
def readEnd (L : List (ByteArray × Ent)) (d : ByteArray) : Option (Int × Int × Int × Int) → Int × Int × Int × Int × Int
 | some r => (r.1, r.2.1, r.2.2.1, r.2.2.2, 0)
 | none => if L.any (fun p => Lib.hasPrefix p.1.data.toList d.data.toList) = true then (1, 0, 0, 0, 0) else (0, 0, 0, 0, 0)
def plan_ReadRest (l0 : List S58) (a1 : ByteArray) (a2 : Int) : Option (Int × Int × Int × Int × Int) :=
 if l0.length ≤ 1000 ∧ a1.size ≤ 1000 then
  (entGo a2 l0 0 []).bind fun L => (readLoop L a1 (a1.size + 1) 0).bind fun o => some (readEnd L a1 o)
 else none
def plan_Read.f (k : Nat) (l0 : List S58) (a1 : ByteArray) (a2 : Int) : Option (Int × Int × Int × Int × Int) :=
 (plan_Valid.f k l0).bind fun v => if v = true then (plan_isDigits.f a1).bind fun d => if d = true then
  (if 16 < (a1.size : Int) then some (0, 0, 0, 0, 120) else (plan_isPhase.f a2).bind fun p => if p = true then plan_ReadRest l0 a1 a2 else some (0, 0, 0, 0, 120))
  else some (0, 0, 0, 0, 120) else some (0, 0, 0, 0, 120)
theorem plan_Read.mono : ∀ a0 a1 a2 k, LeO (plan_Read.f k a0 a1 a2) (plan_Read.f (k + 1) a0 a1 a2) := by
 intro a0 a1 a2 k
 unfold plan_Read.f
 refine LeO.bind (plan_Valid.mono _ _) (fun _ => LeO.refl _)
abbrev RB (g : Nat) (w : World) : Prop := w.heap[g]? = some (.cells #[.int .i64 0, .int .i64 0, .int .i64 0, .int .i64 0] 86 (0, 0))
theorem put4 {w : World} {g : Nat} {a b c d a' b' c' d' : Value} {t : TypeId} (h : w.heap[g]? = some (.cells #[a, b, c, d] t (0, 0))) :
 ((((w.setCell ⟨g, 0, none⟩ a').setCell ⟨g, 1, none⟩ b').setCell ⟨g, 2, none⟩ c').setCell ⟨g, 3, none⟩ d').heap[g]? = some (.cells #[a', b', c', d'] t (0, 0)) :=
 blk_put (blk_put (blk_put (blk_put h 0 _ rfl) 1 _ rfl) 2 _ rfl) 3 _ rfl
theorem below4 {w W : World} {g : Nat} (h : Below w.heap.size w W) (hg : w.heap.size ≤ g) (a' b' c' d' : Value) :
 Below w.heap.size w ((((W.setCell ⟨g, 0, none⟩ a').setCell ⟨g, 1, none⟩ b').setCell ⟨g, 2, none⟩ c').setCell ⟨g, 3, none⟩ d') :=
 (((h.setCell hg _).setCell hg _).setCell hg _).setCell hg _
theorem RB.cells {g : Nat} {w : World} (h : RB g w) : (w.cell? ⟨g, 0, none⟩ = some (.int .i64 0) ∧ w.cell? ⟨g, 1, none⟩ = some (.int .i64 0) ∧ w.cell? ⟨g, 2, none⟩ = some (.int .i64 0) ∧ w.cell? ⟨g, 3, none⟩ = some (.int .i64 0)) ∧
 w.frozen? ⟨g, 0, none⟩ = false ∧ w.frozen? ⟨g, 1, none⟩ = false ∧ w.frozen? ⟨g, 2, none⟩ = false ∧ w.frozen? ⟨g, 3, none⟩ = false :=
 ⟨⟨(blk_cell h 0).trans rfl, (blk_cell h 1).trans rfl, (blk_cell h 2).trans rfl, (blk_cell h 3).trans rfl⟩, blk_frozen h 0, blk_frozen h 1, blk_frozen h 2, blk_frozen h 3⟩
theorem invK9 (key : Value) (kl : Lit) (h : keyOf Tryz.prog 9 key = some kl) : ∃ x : ByteArray, key = .string x := by
 obtain ⟨x, hx, _⟩ := Maps.keyOf_str Tryz.underlying9 h
 exact ⟨⟨x.toArray⟩, hx⟩
theorem anyKey_of {L : List (ByteArray × Ent)} {s d : ByteArray} {e : Ent} (h : lookE L s = some e) (hp : Lib.hasPrefix s.data.toList d.data.toList = true) : L.any (fun p => Lib.hasPrefix p.1.data.toList d.data.toList) = true := by
 unfold lookE at h
 obtain ⟨p, hp1, rfl⟩ := Option.map_eq_some_iff.mp h
 have h1 := List.mem_of_find?_eq_some hp1
 have h2 := List.find?_some hp1
 rw [List.any_eq_true]
 exact ⟨p, h1, by rw [of_decide_eq_true h2]; exact hp⟩
theorem anyKey_none {L : List (ByteArray × Ent)} {d : ByteArray} (h : ∀ s e, lookE L s = some e → Lib.hasPrefix s.data.toList d.data.toList = false) : L.any (fun p => Lib.hasPrefix p.1.data.toList d.data.toList) = false := by
 rw [List.any_eq_false]
 intro p hp
 have : ∃ e, lookE L p.1 = some e := by
  unfold lookE
  cases hf : L.find? (fun q => decide (q.1 = p.1)) with
  | none => exact absurd (List.find?_eq_none.1 hf p hp) (by simp)
  | some q => exact ⟨_, rfl⟩
 obtain ⟨e, he⟩ := this
 rw [h _ _ he]
 simp
theorem entStep_keys {ph : Int} {c : S58} {i : Int} {L L' : List (ByteArray × Ent)} (h : entStep ph c i L = some L') (hL : ∀ p ∈ L, p.1.size ≤ 1000) : ∀ p ∈ L', p.1.size ≤ 1000 := by
 unfold entStep at h
 split at h
 case isFalse => cases h
 rename_i hs
 obtain ⟨L1, h1, h2⟩ := Option.bind_eq_some_iff.mp h
 have k1 : ∀ p ∈ L1, p.1.size ≤ 1000 := by
  split at h1
  ·obtain ⟨r, _, h1⟩ := Option.bind_eq_some_iff.mp h1
   obtain ⟨z, _, h1⟩ := Option.bind_eq_some_iff.mp h1
   split at h1
   ·obtain rfl := Option.some.inj h1
    intro p hp
    rcases List.mem_cons.1 hp with rfl | hp
    ·exact hs.1
    ·exact hL p hp
   ·cases h1
  ·obtain rfl := Option.some.inj h1
   exact hL
 obtain rfl := Option.some.inj h2
 split
 ·intro p hp
  rcases List.mem_cons.1 hp with rfl | hp
  ·exact hs.2
  ·exact k1 p hp
 ·exact k1
theorem entGo_keys {ph : Int} : ∀ {cs : List S58} {i : Nat} {L L' : List (ByteArray × Ent)}, entGo ph cs i L = some L' → (∀ p ∈ L, p.1.size ≤ 1000) → ∀ p ∈ L', p.1.size ≤ 1000
 | [], _, L, L', h, hL => by obtain rfl := Option.some.inj h; exact hL
 | c :: cs, i, L, L', h, hL => by
  obtain ⟨L1, h1, h2⟩ := Option.bind_eq_some_iff.mp h
  exact entGo_keys h2 (entStep_keys h1 hL)
theorem lookE_mem {L : List (ByteArray × Ent)} {s : ByteArray} {e : Ent} (h : lookE L s = some e) : ∃ p ∈ L, p.1 = s := by
 unfold lookE at h
 obtain ⟨p, hp1, rfl⟩ := Option.map_eq_some_iff.mp h
 have h3 := List.find?_some hp1
 exact ⟨p, List.mem_of_find?_eq_some hp1, of_decide_eq_true h3⟩
theorem zero84 (w : World) : (zeroValue 110).run Tryz.prog w = .ok (encE (0, 0, ⟨#[]⟩)) w := by kernel_rfl
theorem MapE.at_ {w : World} {b n : Nat} {L : List (ByteArray × Ent)} (h : MapE w b n L) (s : ByteArray) {o : Option Ent} (ho : lookE L s = o) : ∃ F, MapV Tryz.prog 9 w b n F ∧ F (.string s) = o.map encE := by
 obtain ⟨F, h, hF⟩ := h
 exact ⟨F, h, by rw [hF, ho]⟩
theorem MapE.alloc {w : World} {b n : Nat} {L : List (ByteArray × Ent)} (h : MapE w b n L) (o : Obj) : MapE (w.alloc o) b n L := let ⟨F, h, s⟩ := h; ⟨F, h.alloc o, s⟩
set_option maxHeartbeats 4000000 in
set_option maxRecDepth 100000 in
theorem plan_Read.calls (k : Nat) (A0 : Option Addr) (c0 : Nat) (l0 : List (S58)) (a1 : ByteArray) (a2 : Int) (r1 r2 r3 r4 r5 : Int) (w : World) (hr0 : Kd.C k58 w A0 l0.length l0) (hc0 : l0.length ≤ c0) (h : plan_Read.f k l0 a1 a2 = some (r1, r2, r3, r4, r5)) :
 Calls Tryz.prog 43 #[.slice A0 l0.length c0, .string a1, .int .i64 a2] w fun e w' => e = .returned (.tuple #[.agg #[.int .i64 r1, .int .i64 r2, .int .i64 r3, .int .i64 r4], .int .i64 r5]) ∧ Below w.heap.size w w' := by
 have HR0 := Aside0.mk hr0
 have HC0 := Aside0.mk hc0
 have HC4 := Aside0.mk h
 clear hr0 hc0 h
 have HB := Aside0.mk (Below.refl w.heap.size w)
 go_enter Tryz.func43, Tryz.ntmps43
 go_upto_region 1 with (first | ((with_reducible refine gate_dst (N := 6) rfl ?_); refine box_event ?hg (N := 6) ?hd (cs := #[.int .i64 0, .int .i64 0, .int .i64 0, .int .i64 0]) (t := 86) ?hr ?_; (case hd => rfl); (case hg => rfl); (case hr => exact zq4); intro g hg w5 hbox hb; have BK : Aside0 (RB g w5) := Aside0.mk hbox; have GE := Aside0.mk (show w.heap.size ≤ g by rw [hg]; exact Nat.le_refl _); clear HB; have HB := Aside0.mk hb; clear hbox hb hg))
 (try simp only [Act.put, List.setIfInBounds_toArray, List.set_cons_zero, List.set_cons_succ])
 go_cut [32] (fun v wc => ∃ bad : Bool, v = .bool bad ∧ Aside0 ((if bad = true then some (0, 0, 0, 0, 120) else plan_ReadRest l0 a1 a2) = some (r1, r2, r3, r4, r5)) ∧ Aside0 (RB g wc) ∧ Aside0 (Below w.heap.size w wc))
 case first =>
  have H := HC4.out
  clear HC4
  unfold plan_Read.f at H
  obtain ⟨v, hv, H⟩ := Option.bind_eq_some_iff.mp H
  have A1 := Aside0.mk hv
  clear hv
  cases v with
  | false =>
   have HF := Aside0.mk (show (some ((0 : Int), (0 : Int), (0 : Int), (0 : Int), (120 : Int))) = some (r1, r2, r3, r4, r5) from H)
   clear H
   go_wp2_with (first | (go_at_call 60; refine (plan_Valid.calls k _ _ l0 false _ (Kd.C_below HR0.out HB.out) HC0.out A1.out).mono ?_; rintro e w11 ⟨rfl, hb⟩; have BK2 : Aside0 (RB g w11) := Aside0.mk (blk_below BK.out hb); have HB2 := Aside0.mk (below_step HB.out hb); clear hb))
   go_meet
   case rel => exact ⟨true, zq33, ⟨by rw [if_pos rfl]; exact HF.out⟩, BK2, HB2⟩
  | true =>
   replace H : ((plan_isDigits.f a1).bind fun d => if d = true then (if 16 < (a1.size : Int) then some ((0 : Int), (0 : Int), (0 : Int), (0 : Int), (120 : Int)) else (plan_isPhase.f a2).bind fun p => if p = true then plan_ReadRest l0 a1 a2 else some (0, 0, 0, 0, 120)) else some (0, 0, 0, 0, 120)) = some (r1, r2, r3, r4, r5) := H
   obtain ⟨d, hd, H⟩ := Option.bind_eq_some_iff.mp H
   have A2 := Aside0.mk hd
   clear hd
   cases d with
   | false =>
    have HF := Aside0.mk (show (some ((0 : Int), (0 : Int), (0 : Int), (0 : Int), (120 : Int))) = some (r1, r2, r3, r4, r5) from H)
    clear H
    go_wp2_with (first | (go_at_call 60; refine (plan_Valid.calls k _ _ l0 true _ (Kd.C_below HR0.out HB.out) HC0.out A1.out).mono ?_; rintro e w11 ⟨rfl, hb⟩; have BK2 : Aside0 (RB g w11) := Aside0.mk (blk_below BK.out hb); have HB2 := Aside0.mk (below_step HB.out hb); clear hb) | (go_at_call 61; refine (plan_isDigits.calls a1 false _ A2.out).mono ?_; rintro e w12 ⟨rfl, hb⟩; have BK3 : Aside0 (RB g w12) := Aside0.mk (blk_below BK2.out hb); have HB3 := Aside0.mk (below_step HB2.out hb); clear hb))
    go_meet
    case rel => exact ⟨true, zq33, ⟨by rw [if_pos rfl]; exact HF.out⟩, BK3, HB3⟩
   | true =>
    by_cases hs : 16 < (a1.size : Int)
    ·have HF := Aside0.mk (show (some ((0 : Int), (0 : Int), (0 : Int), (0 : Int), (120 : Int))) = some (r1, r2, r3, r4, r5) by rw [if_pos rfl, if_pos hs] at H; exact H)
     clear H
     have hsb : decide (16 < (a1.size : Int)) = true := decide_eq_true hs
     clear hs
     go_wp2_with (first | (go_at_call 60; refine (plan_Valid.calls k _ _ l0 true _ (Kd.C_below HR0.out HB.out) HC0.out A1.out).mono ?_; rintro e w11 ⟨rfl, hb⟩; have BK2 : Aside0 (RB g w11) := Aside0.mk (blk_below BK.out hb); have HB2 := Aside0.mk (below_step HB.out hb); clear hb) | (go_at_call 61; refine (plan_isDigits.calls a1 true _ A2.out).mono ?_; rintro e w12 ⟨rfl, hb⟩; have BK3 : Aside0 (RB g w12) := Aside0.mk (blk_below BK2.out hb); have HB3 := Aside0.mk (below_step HB2.out hb); clear hb))
     go_meet
     case rel => exact ⟨true, zq33, ⟨by rw [if_pos rfl]; exact HF.out⟩, BK3, HB3⟩
    rw [if_pos rfl, if_neg hs] at H
    have hsb : decide (16 < (a1.size : Int)) = false := decide_eq_false hs
    obtain ⟨p, hp, H⟩ := Option.bind_eq_some_iff.mp H
    have A3 := Aside0.mk hp
    clear hs hp
    have HF := Aside0.mk (show (if (!p) = true then some ((0 : Int), (0 : Int), (0 : Int), (0 : Int), (120 : Int)) else plan_ReadRest l0 a1 a2) = some (r1, r2, r3, r4, r5) by cases p <;> simpa using H)
    clear H
    go_wp2_with (first | (go_at_call 60; refine (plan_Valid.calls k _ _ l0 true _ (Kd.C_below HR0.out HB.out) HC0.out A1.out).mono ?_; rintro e w11 ⟨rfl, hb⟩; have BK2 : Aside0 (RB g w11) := Aside0.mk (blk_below BK.out hb); have HB2 := Aside0.mk (below_step HB.out hb); clear hb) | (go_at_call 61; refine (plan_isDigits.calls a1 true _ A2.out).mono ?_; rintro e w12 ⟨rfl, hb⟩; have BK3 : Aside0 (RB g w12) := Aside0.mk (blk_below BK2.out hb); have HB3 := Aside0.mk (below_step HB2.out hb); clear hb) | (go_at_call 62; refine (plan_isPhase.calls a2 p _ A3.out).mono ?_; rintro e w13 ⟨rfl, ⟨nd, rfl⟩⟩))
    go_meet
    case rel => exact ⟨!p, zq33, HF, ⟨blk_drewN BK3.out _⟩, ⟨pw_below_drewN HB3.out _⟩⟩
 case rest =>
  clear HC4
  clear BK HB
  obtain ⟨bad, rfl, HA, BK, HB⟩ := hcut
  cases bad with
  | true =>
   have H : (some ((0 : Int), (0 : Int), (0 : Int), (0 : Int), (120 : Int))) = some (r1, r2, r3, r4, r5) := HA.out
   clear HA
   simp only [Option.some.injEq, Prod.mk.injEq] at H
   obtain ⟨rfl, rfl, rfl, rfl, rfl⟩ := H
   obtain ⟨⟨c0, c1, c2, c3⟩, f0, f1, f2, f3⟩ := RB.cells BK.out
   go_wp2
   refine bodyPost_ret (results_ct rfl _ _ g 86 #[.int .i64 0, .int .i64 0, .int .i64 0, .int .i64 0] (0, 0) _ rfl (put4 BK.out) Tryz.underlying86 rfl (by kernel_rfl)) rfl ?_
   exact ⟨rfl, below4 HB.out GE.out _ _ _ _⟩
  | false =>
   have H : plan_ReadRest l0 a1 a2 = some (r1, r2, r3, r4, r5) := HA.out
   clear HA
   unfold plan_ReadRest at H
   by_cases hsz : l0.length ≤ 1000 ∧ a1.size ≤ 1000
   case neg => rw [if_neg hsz] at H; cases H
   rw [if_pos hsz] at H
   obtain ⟨L, hL, H⟩ := Option.bind_eq_some_iff.mp H
   obtain ⟨o, ho, H⟩ := Option.bind_eq_some_iff.mp H
   have HE := Aside0.mk (Option.some.inj H)
   have HO := Aside0.mk ho
   have HLL := Aside0.mk hL
   obtain ⟨hsz1, hsz2⟩ := hsz
   clear H ho hL
   go_upto_region 4 with (first | (go_at_call 63; refine (plan_entries.calls A0 _ l0 a2 L _ (Kd.C_below HR0.out HB.out) hsz1 HLL.out).mono ?_; rintro e w20 ⟨bm, nm, rfl, hME, hb⟩; have BK2 : Aside0 (RB g w20) := Aside0.mk (blk_below BK.out hb); have HB2 := Aside0.mk (below_step HB.out hb); have HM2 := Aside0.mk hME; clear hb hME))
   clear BK HB
   go_wp2
   go_loopw [40] (fun v wr => ∃ i : Nat, i ≤ a1.size + 1 ∧ v = .int .i64 i ∧ Aside0 (MapE wr bm nm L) ∧ Aside0 (RB g wr) ∧ Aside0 (Below w.heap.size w wr) ∧ Aside0 (readLoop L a1 (a1.size + 1 - i) i = some o)) (fun v _ => a1.size + 1 - (intOf v).toNat)
   case atStart => exact ⟨0, by omega, rfl, HM2, BK2, HB2, ⟨HO.out⟩⟩
   case round =>
    clear HM2 BK2 HB2 HO
    obtain ⟨i, hi, rfl, HM, BK, HB, HG⟩ := hrel
    by_cases hlt : i < a1.size + 1
    rotate_left
    ·obtain rfl : i = a1.size + 1 := by omega
     have hG := HG.out
     rw [Nat.sub_self] at hG
     simp only [readLoop] at hG
     obtain rfl := Option.some.inj hG
     have HE2 := HE.out
     simp only [readEnd] at HE2
     have HE3 := Aside0.mk HE2
     clear hG HG HE HE2 hlt
     obtain ⟨F, hF1, hF2⟩ := HM.out
     have HF2 := Aside0.mk hF2
     clear hF2 HM
     go_wp2_with (first | (at_range; refine wpList_range _ rfl _ 107 rfl 9 110 keyed9 Tryz.underlying107 bm nm F rfl hF1 ?_; intro w30 cnt0 hrg0 hg0 hs0))
     go_frame
     have BK6 : Aside0 (RB g w30) := ⟨(hg0.block g (blk_lt BK.out) (by simp)).trans BK.out⟩
     have HB6 : Aside0 (Below w.heap.size w w30) := ⟨HB.out.grown hg0 HB.out.size (by simp)⟩
     have hgr : g < wr.heap.size := blk_lt BK.out
     have hbr : w.heap.size ≤ wr.heap.size := HB.out.size
     clear BK HB hg0 hs0 hF1
     generalize wr.heap.size = rb at *
     go_loopw [80] (fun _ wc => ∃ (Lf : Value → Bool) (cnt : Nat), RangeV Tryz.prog 9 wc bm rb nm F Lf cnt ∧ Aside0 (RB g wc) ∧ Aside0 (Below w.heap.size w wc) ∧ Aside0 (∀ s e, lookE L s = some e → Lf (.string s) = false → Lib.hasPrefix s.data.toList a1.data.toList = false)) (fun _ wc => wc.rangeLeft bm rb)
     case atStart => exact ⟨_, _, hrg0, BK6, HB6, ⟨fun s e h1 h2 => by rw [HF2.out, h1] at h2; simp at h2⟩⟩
     case round =>
      clear hrg0 BK6 HB6
      obtain ⟨Lf, cnt, hrg, BK, HB, HL⟩ := hrel
      go_wp2_with (first | (at_next; refine wpList_next _ rfl _ rfl 9 keyed9 (fun x : ByteArray => .string x) invK9 bm rb nm F Lf cnt rfl hrg ?_ ?_))
      ·intro hdone
       have hany := anyKey_none (L := L) (d := a1) (fun s e h => by
        obtain ⟨p, hp, rfl⟩ := lookE_mem h
        have hm := entGo_keys HLL.out (by simp) p hp
        exact HL.out _ e h (hdone _ _ (keyOf_string_mk Tryz.underlying9 (by unfold maxLen; omega))))
       have HE4 := HE3.out
       rw [hany, if_neg (by simp)] at HE4
       simp only [Prod.mk.injEq] at HE4
       obtain ⟨rfl, rfl, rfl, rfl, rfl⟩ := HE4
       obtain ⟨⟨c0, c1, c2, c3⟩, f0, f1, f2, f3⟩ := RB.cells BK.out
       clear HE3 hany hdone
       go_wp2
       refine bodyPost_ret (results_ct rfl _ _ g 86 #[.int .i64 0, .int .i64 0, .int .i64 0, .int .i64 0] (0, 0) _ rfl (put4 BK.out) Tryz.underlying86 rfl (by kernel_rfl)) rfl ?_
       exact ⟨rfl, below4 HB.out GE.out _ _ _ _⟩
      ·intro x kl v w31 cnt1 hkey hLx hFx hrg1 hlt1 hg1 hs1 hen
       have hFx2 := HF2.out x
       rw [hFx] at hFx2
       obtain ⟨e, he, hev⟩ := Option.map_eq_some_iff.mp hFx2.symm
       have HLX := Aside0.mk he
       have HKEY := Aside0.mk hkey
       have HEV := Aside0.mk hev
       have BK5 : Aside0 (RB g w31) := ⟨(hg1.block g (blk_lt BK.out) (by simp; omega)).trans BK.out⟩
       have HB5 : Aside0 (Below w.heap.size w w31) := ⟨HB.out.grown hg1 HB.out.size (fun k e => by cases e; exact hbr)⟩
       clear hFx hFx2 he hkey hev hLx
       cases hpx : Lib.hasPrefix x.data.toList a1.data.toList with
       | true =>
        have HE4 := HE3.out
        rw [anyKey_of HLX.out hpx, if_pos rfl] at HE4
        simp only [Prod.mk.injEq] at HE4
        obtain ⟨rfl, rfl, rfl, rfl, rfl⟩ := HE4
        have HPX := Aside0.mk (show strings_HasPrefix.f x a1 = some true by unfold strings_HasPrefix.f; rw [hpx])
        clear hpx HE3
        go_wp2_with (first | (go_at_call 65; refine (strings_HasPrefix.calls x a1 true _ HPX.out).mono ?_; rintro e6 w32 ⟨rfl, hb6⟩; have BK7 : Aside0 (RB g w32) := ⟨blk_below BK5.out hb6⟩; obtain ⟨⟨c0, c1, c2, c3⟩, f0, f1, f2, f3⟩ := RB.cells BK7.out; have HB7 := Aside0.mk (below_step HB5.out hb6); clear hb6))
        refine bodyPost_ret (results_ct rfl _ _ g 86 #[.int .i64 1, .int .i64 0, .int .i64 0, .int .i64 0] (0, 0) _ rfl (put4 BK7.out) Tryz.underlying86 rfl (by kernel_rfl)) rfl ?_
        exact ⟨rfl, below4 HB7.out GE.out _ _ _ _⟩
       | false =>
        have HPX := Aside0.mk (show strings_HasPrefix.f x a1 = some false by unfold strings_HasPrefix.f; rw [hpx])
        have HP2 := Aside0.mk hpx
        have HL1 := Aside0.mk hlt1
        have HRG := Aside0.mk hrg
        clear hpx hlt1 hrg
        go_wp2_with (first | (go_at_call 65; refine (strings_HasPrefix.calls x a1 false _ HPX.out).mono ?_; rintro e6 w32 ⟨rfl, hb6⟩; have BK7 : Aside0 (RB g w32) := ⟨blk_below BK5.out hb6⟩; have HB7 := Aside0.mk (below_step HB5.out hb6); have HR7 := Aside0.mk (hrg1.below hb6); clear hb6))
        go_roundw
        case rel =>
         have hnew : ∀ (s : ByteArray) (e2 : Ent), lookE L s = some e2 → (fun z => Lf z && !@decide (z = Value.string x) (Classical.propDecidable _)) (Value.string s) = false → Lib.hasPrefix s.data.toList a1.data.toList = false := fun s e2 h1 h2 => by
          by_cases hsx : s = x
          ·rw [hsx]; exact HP2.out
          exact HL.out s e2 h1 (by simpa [hsx] using h2)
         refine ⟨_, _, _, _, _, _, _, _, _, _, ⟨_, cnt1, HR7.out, BK7, HB7, ⟨hnew⟩⟩, rfl⟩
        case measure => rw [HR7.out.left_eq, HRG.out.left_eq]; exact HL1.out
    have hlt2 : (i : Int) ≤ (a1.size : Int) := by omega
    have hG := HG.out
    rw [show a1.size + 1 - i = (a1.size + 1 - (i + 1)) + 1 by omega] at hG
    simp only [readLoop] at hG
    clear HG
    have hxs : (a1.extract 0 i).size ≤ maxLen := by simp [ByteArray.size_extract]; unfold maxLen; omega
    cases hlk : lookE L (a1.extract 0 i) with
    | none =>
     rw [hlk] at hG
     have HG := Aside0.mk hG
     obtain ⟨F, hF1, hFs⟩ := HM.out.at_ _ hlk
     have HFs := Aside0.mk hFs
     clear hG hFs hlk
     go_wp2_with (first | (at_lookup; refine wpList_look_ok _ rfl _ _ 107 rfl 9 110 keyed9 Tryz.underlying107 (zero84 _) bm nm F rfl hF1 (.string (a1.extract 0 i)) _ rfl (keyOf_string_mk Tryz.underlying9 hxs) ?_; rw [HFs.out]; simp only [Option.map_none, Option.getD_none, Option.isSome_none, encE]))
     go_roundw
     case rel => exact ⟨i + 1, by omega, by go_num, ⟨HM.out.alloc _⟩, ⟨blk_alloc BK.out _⟩, ⟨below_alloc HB.out _⟩, HG⟩
     case measure => simp [intOf]; omega
    | some x =>
     rw [hlk] at hG
     simp only [] at hG
     obtain ⟨F, hF1, hFs⟩ := HM.out.at_ _ hlk
     have HFs := Aside0.mk hFs
     obtain ⟨x1, x2, x3⟩ := x
     simp only [] at hG
     clear hFs hlk
     by_cases hd : (a1.size : Int) < x2
     ·rw [if_pos hd] at hG
      have hdb : decide ((a1.size : Int) < x2) = true := decide_eq_true hd
      obtain rfl := Option.some.inj hG
      have HE2 : (1, 0, 0, 0, 0) = (r1, r2, r3, r4, r5) := HE.out
      simp only [Prod.mk.injEq] at HE2
      obtain ⟨rfl, rfl, rfl, rfl, rfl⟩ := HE2
      clear hG HE hd
      have BK3 : ∀ o, RB g (wr.alloc o) := fun o => blk_alloc BK.out o
      obtain ⟨⟨c0, c1, c2, c3⟩, f0, f1, f2, f3⟩ := RB.cells (BK3 (.cells #[.int .i64 x1, .int .i64 x2, .string x3] 110))
      go_wp2_with (first | (at_lookup; refine wpList_look_ok _ rfl _ _ 107 rfl 9 110 keyed9 Tryz.underlying107 (zero84 _) bm nm F rfl hF1 (.string (a1.extract 0 i)) _ rfl (keyOf_string_mk Tryz.underlying9 hxs) ?_; rw [HFs.out]; simp only [Option.map_some, Option.getD_some, Option.isSome_some, encE]))
      refine bodyPost_ret (results_ct rfl _ _ g 86 #[.int .i64 1, .int .i64 0, .int .i64 0, .int .i64 0] (0, 0) _ rfl (put4 (BK3 _)) Tryz.underlying86 rfl (by kernel_rfl)) rfl ?_
      exact ⟨rfl, below4 (below_alloc HB.out _) GE.out _ _ _ _⟩
     rw [if_neg hd] at hG
     have hdb : decide ((a1.size : Int) < x2) = false := decide_eq_false hd
     by_cases hk : (i : Int) ≤ x2 ∧ x2 ≤ (a1.size : Int) ∧ x3.size + (a1.extract i x2.toNat).size ≤ 9223372036854775807
     case neg => rw [if_neg hk] at hG; cases hG
     rw [if_pos hk] at hG
     obtain ⟨hk1, hk2, hk3⟩ := hk
     obtain ⟨n, hn, hG⟩ := Option.bind_eq_some_iff.mp hG
     obtain rfl := Option.some.inj hG
     obtain ⟨n1, n2⟩ := n
     have HN := Aside0.mk hn
     have HE2 : (2, n1, x1, x2, 0) = (r1, r2, r3, r4, r5) := HE.out
     simp only [Prod.mk.injEq] at HE2
     obtain ⟨rfl, rfl, rfl, rfl, rfl⟩ := HE2
     have hcat2 : (9223372036854775807 < x3.size + (a1.extract i x2.toNat).size) = False := eq_false (Nat.not_lt.2 hk3)
     have hcat3 := hcat2
     rw [ByteArray.size_extract] at hcat3
     have hcat4 := Nat.not_lt.1 (of_eq_false hcat3)
     have hcat5 := hcat3
     rw [Nat.min_eq_left (by omega : x2.toNat ≤ a1.size)] at hcat5
     clear hG HE hd hn hk3
     have BK3 : Aside0 (RB g (wr.alloc (.cells #[.int .i64 x1, .int .i64 x2, .string x3] 110))) := ⟨blk_alloc BK.out _⟩
     have HW := Aside0.mk (show ∃ W, W = wr.alloc (.cells #[.int .i64 x1, .int .i64 x2, .string x3] 110) from ⟨_, rfl⟩)
     go_upto_region 11 with (first | (at_lookup; refine wpList_look_ok _ rfl _ _ 107 rfl 9 110 keyed9 Tryz.underlying107 (zero84 _) bm nm F rfl hF1 (.string (a1.extract 0 i)) _ rfl (keyOf_string_mk Tryz.underlying9 hxs) ?_; rw [HFs.out]; simp only [Option.map_some, Option.getD_some, Option.isSome_some, encE]))
     obtain ⟨W, hW⟩ := HW.out
     clear HW
     have k0 : W.cell? ⟨wr.heap.size, 0, none⟩ = some (.int .i64 x1) := by rw [hW]; go_simp
     have k1 : W.cell? ⟨wr.heap.size, 1, none⟩ = some (.int .i64 x2) := by rw [hW]; go_simp
     have k2 : W.cell? ⟨wr.heap.size, 2, none⟩ = some (.string x3) := by rw [hW]; go_simp
     have hBW : Below w.heap.size w W := by rw [hW]; exact below_alloc HB.out _
     rw [← hW] at BK3 ⊢
     clear hW
     have hBW := Aside0.mk hBW
     go_region_held3 (fun w' => w'.cell? ⟨wr.heap.size, 0, none⟩ = some (.int .i64 x1) ∧ w'.cell? ⟨wr.heap.size, 1, none⟩ = some (.int .i64 x2) ∧ w'.cell? ⟨wr.heap.size, 2, none⟩ = some (.string x3))
      (first | go_keep | (go_split_ands; refine ⟨?_, ?_, ?_⟩ <;> (apply pw_cell_below hb2.out; assumption)))
      (first
       | (go_simp; go_at_call 64; refine (strconv_Atoi.calls _ n1 n2 _ HN.out).mono ?_; rintro e w2 ⟨rfl, hb2'⟩; have hb2 := Aside0.mk hb2'; clear hb2'))
     have BK4 : Aside0 (RB g w2) := ⟨blk_below (blk_drew BK3.out) hb2.out⟩
     obtain ⟨⟨c0, c1, c2, c3⟩, f0, f1, f2, f3⟩ := RB.cells BK4.out
     replace k0 := pw_cell_below hb2.out k0
     replace k1 := pw_cell_below hb2.out k1
     replace k2 := pw_cell_below hb2.out k2
     have HB4 := Aside0.mk (below_step (below_drew1 hBW.out) hb2.out)
     clear hcat2 hcat3 hcat4 hcat5 hb2 hBW BK3 BK HB HM
     go_wp2
     refine bodyPost_ret (results_ct rfl _ _ g 86 #[.int .i64 2, .int .i64 n1, .int .i64 x1, .int .i64 x2] (0, 0) _ rfl (put4 BK4.out) Tryz.underlying86 rfl (by kernel_rfl)) rfl ?_
     exact ⟨rfl, below4 HB4.out GE.out _ _ _ _⟩
end Go.Proofs.YtkfejgdeknemaaaGreatDoor.Fw
end
section
open Go.Proofs.YtkfejgdeknemaaaGreatDoor.Z
namespace Go.Proofs.YtkfejgdeknemaaaGreatDoor.Fw
open Go.RowKit Go.Proofs.YtkfejgdeknemaaaGreatDoorW.PrintWords Go.Proofs.YtkfejgdeknemaaaGreatDoorW.PrintLast Go.Proofs.YtkfejgdeknemaaaGreatDoorW.PrintMore
attribute [local go_sem] max2_int min2_int max_two min_two max_three min_three max_four min_four
set_option linter.unusedVariables false
set_option linter.unusedSimpArgs false
def dialtoneref22_pick.f (a0 : Int) (a1 : Int) : Option (Int) := if a0 < 0 then (if a1 = 0 then (none) else (some (Int.tmod (wrap64 (-(wrap64 (a0 + 1)))) a1))) else (if a1 = 0 then (none) else (some (Int.tmod a0 a1)))
set_option maxHeartbeats 8000000 in
set_option maxRecDepth 100000 in
theorem dialtoneref22_pick.calls (a0 : Int) (a1 : Int) (r : Int) (w : World) (h : dialtoneref22_pick.f a0 a1 = some r) :
 Calls Tryz.prog 28 #[.int .i64 a0, .int .i64 a1] w fun e w' => e = .returned (.int .i64 r) ∧ Drawn0 w w' := by
 have H : (if a0 < 0 then (if a1 = 0 then (none) else (some (Int.tmod (wrap64 (-(wrap64 (a0 + 1)))) a1))) else (if a1 = 0 then (none) else (some (Int.tmod a0 a1)))) = some r := h
 clear h
 by_cases c3 : a0 < 0
 ·rw [if_pos c3] at H
  have c3b0 : decide (a0 < 0) = true := decide_eq_true c3
  clear c3
  by_cases c4 : a1 = 0
  ·rw [if_pos c4] at H
   exact absurd H (by simp)
  rw [if_neg c4] at H
  have c4b0 : (a1 == 0) = false := beq_eq_false_iff_ne.mpr c4
  have c4b1 : (a1 != 0) = true := bne_iff_ne.mpr c4
  obtain rfl := Option.some.inj H
  go_enter Tryz.func28, Tryz.ntmps28
  go_wp2
  go_ret
  exact ⟨zq2, zq3⟩
 rw [if_neg c3] at H
 have c3b0 : decide (a0 < 0) = false := decide_eq_false c3
 clear c3
 by_cases c5 : a1 = 0
 ·rw [if_pos c5] at H
  exact absurd H (by simp)
 rw [if_neg c5] at H
 have c5b0 : (a1 == 0) = false := beq_eq_false_iff_ne.mpr c5
 have c5b1 : (a1 != 0) = true := bne_iff_ne.mpr c5
 obtain rfl := Option.some.inj H
 go_enter Tryz.func28, Tryz.ntmps28
 go_wp2
 go_ret
 exact ⟨zq2, zq3⟩
def dialtoneref22_Part.f (a0 : Int) (a1 : Int) : Option (Int × Int) := (dialtoneref22_pick.f a0 50).bind fun t335 => ((dialtoneref22_pick.f a1 60).bind fun t336 => (some (t335, wrap64 ((wrap64 (t335 + 1)) + t336))))
set_option maxHeartbeats 8000000 in
set_option maxRecDepth 100000 in
theorem dialtoneref22_Part.calls (a0 : Int) (a1 : Int) (r1 : Int) (r2 : Int) (w : World) (h : dialtoneref22_Part.f a0 a1 = some (r1, r2)) :
 Calls Tryz.prog 47 #[.int .i64 a0, .int .i64 a1] w fun e w' => e = .returned (.agg #[.int .i64 r1, .int .i64 r2]) ∧ Below w.heap.size w w' := by
 have hu39 := Tryz.underlying39
 have HB := Aside0.mk (Below.refl w.heap.size w)
 have H : ((dialtoneref22_pick.f a0 50).bind fun t335 => ((dialtoneref22_pick.f a1 60).bind fun t336 => (some (t335, wrap64 ((wrap64 (t335 + 1)) + t336))))) = some (r1, r2) := h
 clear h
 replace H := Option.bind_eq_some_iff.mp H
 obtain ⟨t335, A30, H⟩ := H
 replace H : ((dialtoneref22_pick.f a1 60).bind fun t336 => (some (t335, wrap64 ((wrap64 (t335 + 1)) + t336)))) = some (r1, r2) := H
 have A3 := Aside0.mk A30
 clear A30
 replace H := Option.bind_eq_some_iff.mp H
 obtain ⟨t336, A40, H⟩ := H
 replace H : (some (t335, wrap64 ((wrap64 (t335 + 1)) + t336))) = some (r1, r2) := H
 have A4 := Aside0.mk A40
 clear A40
 simp only [Option.some.injEq, Prod.mk.injEq] at H
 obtain ⟨rfl, rfl⟩ := H
 go_enter Tryz.func47, Tryz.ntmps47
 go_wp2_with (first | ((with_reducible refine gate_dst (N := 4) rfl ?_); refine box_event ?hg (N := 4) ?hd (cs := #[.int .i64 0, .int .i64 0]) (t := 39) ?hr ?_; (case hd => rfl); (case hg => rfl); (case hr => exact zq4); intro gb334 hg w5 hbox hb; have BK334 := Aside0.mk (hbox); have GW334 := Aside0.mk ((zq5 : w.heap.size ≤ gb334)); have GE334 := Aside0.mk ((zq5 : w.heap.size ≤ gb334)); replace HB := Aside0.mk (below_step (zW HB) hb); clear hb hbox hg) | ((with_reducible refine gate_callee (f := 28) rfl ?_); refine goesL_ (some 7) rfl rfl Tryz.func28 (by kernel_rfl) rfl #[.int .i64 a0, .int .i64 50] rfl zG ?_; (with_reducible refine (dialtoneref22_pick.calls a0 50 t335 _ A3.out).mono ?_); rintro e w' ⟨rfl, ⟨nd, rfl⟩⟩; refine ⟨_, rfl, ?_⟩; (try (rw [drewN_self w5]; generalize hq_ : World.drewN w5 _ = w5; replace BK334 : Aside0 (w5.heap[gb334]? = some (.cells #[.int .i64 0, .int .i64 0] 39 (0, 0))) := ⟨by rw [← hq_]; exact (zB BK334)⟩; replace HB : Aside0 (Below w.heap.size w w5) := ⟨zq76⟩; clear hq_))) | ((with_reducible refine gate_callee (f := 28) rfl ?_); refine goesL_ (some 12) rfl rfl Tryz.func28 (by kernel_rfl) rfl #[.int .i64 a1, .int .i64 60] rfl zG ?_; (with_reducible refine (dialtoneref22_pick.calls a1 60 t336 _ A4.out).mono ?_); rintro e w' ⟨rfl, ⟨nd, rfl⟩⟩; refine ⟨_, rfl, ?_⟩; (try (rw [drewN_self w5]; generalize hq_ : World.drewN w5 _ = w5; replace BK334 : Aside0 (w5.heap[gb334]? = some (.cells #[.int .i64 0, .int .i64 0] 39 (0, 0))) := ⟨by rw [← hq_]; exact (zB BK334)⟩; replace HB : Aside0 (Below w.heap.size w w5) := ⟨zq76⟩; clear hq_)); have hcz6_0 : w5.cell? ⟨gb334, 0, none⟩ = some (.int .i64 0) := (blk_cell BK334.out 0).trans rfl; have hcz6_1 : w5.cell? ⟨gb334, 1, none⟩ = some (.int .i64 0) := (blk_cell BK334.out 1).trans rfl; have hfz6_0 := blk_frozen BK334.out 0; have hfz6_1 := blk_frozen BK334.out 1))
 refine bodyPost_ret (results_cell_row rfl _ _ gb334 39 #[.int .i64 t335, .int .i64 (wrap64 ((wrap64 (t335 + 1)) + t336))] (0, 0) _ rfl (by (with_reducible repeat (first | refine blk_drewN ?_ _ | refine blk_drew ?_ | refine blk_alloc ?_ _)); refine blk_put (cs := #[.int .i64 t335, .int .i64 0]) ?_ 1 _ rfl; (with_reducible repeat (first | refine blk_drewN ?_ _ | refine blk_drew ?_ | refine blk_alloc ?_ _)); refine blk_put (cs := #[.int .i64 0, .int .i64 0]) ?_ 0 _ rfl; (with_reducible repeat (first | refine blk_drewN ?_ _ | refine blk_drew ?_ | refine blk_alloc ?_ _)); exact BK334.out) Tryz.underlying39 rfl (by kernel_rfl)) rfl ?_
 exact ⟨zq6, by repeat (first | (with_reducible first | exact HB.out | apply below_alloc | apply pw_below_drewN | apply below_drew1 | refine below_set ?_ GE334.out) | exact HB.out)⟩
end Go.Proofs.YtkfejgdeknemaaaGreatDoor.Fw
end
section
open Go.Proofs.YtkfejgdeknemaaaGreatDoor.Z
namespace Go.Proofs.YtkfejgdeknemaaaGreatDoor.Fw
open Go.RowKit Go.Proofs.YtkfejgdeknemaaaGreatDoorW.PrintWords Go.Proofs.YtkfejgdeknemaaaGreatDoorW.PrintLast Go.Proofs.YtkfejgdeknemaaaGreatDoorW.PrintMore
attribute [local go_sem] max2_int min2_int max_two min_two max_three min_three max_four min_four
set_option linter.unusedVariables false
set_option linter.unusedSimpArgs false
def dialtoneref22_One.f (a0_0 : Int) (a0_1 : Int) (a0_2 : Int) (a0_3 : Int) (a0_4 : Int) : Option (Int × Int × Int × Int × Int) := (dialtoneref22_pick.f a0_0 8).bind fun t339 => ((dialtoneref22_pick.f a0_2 7).bind fun t340 => ((dialtoneref22_Part.f a0_3 a0_4).bind fun bt341 => ((dialtoneref22_pick.f a0_1 8).bind fun t344 => (if t344 > 4 then ((dialtoneref22_pick.f a0_1 8).bind fun t345 => (some (wrap64 (10 + t339), wrap64 (t345 - 3), wrap64 (10 + (Int.tmod (wrap64 ((wrap64 (t339 + 1)) + t340)) 8)), bt341.1, bt341.2))) else (some (wrap64 (10 + t339), 1, wrap64 (10 + (Int.tmod (wrap64 ((wrap64 (t339 + 1)) + t340)) 8)), bt341.1, bt341.2))))))
def dialtoneref22_One.T2 : Bool × List (List Nat × List Nat) := (true, [([], []), ([0], [0]), ([], []), ([2], [2]), ([], []), ([4], [4]), ([5], [5]), ([3, 6], [3, 6]), ([7], [7]), ([8], [8]), ([], []), ([10], [10]), ([], []), ([12], [12]), ([11, 13, 6], [11, 13]), ([1, 9, 14], [1, 9, 14]), ([], []), ([16, 15, 14, 0, 1, 2, 3, 4, 5, 6, 7, 8, 9, 10, 11, 12, 13, 14, 15, 16], [15, 16])])
def dialtoneref22_One.B2 : List Nat := [0, 1, 0, 4, 0, 16, 48, 124, 252, 508, 0, 1024, 0, 4096, 15472, 32767, 0, 131071]
theorem dialtoneref22_One.tab2 : rtab .any (opsOf Tryz.f26 2) = dialtoneref22_One.T2 := by kernel_rfl
theorem dialtoneref22_One.bits2 : waitsOk dialtoneref22_One.T2.2 dialtoneref22_One.B2 = true := by kernel_rfl
set_option maxHeartbeats 8000000 in
set_option maxRecDepth 100000 in
theorem dialtoneref22_One.calls (a0_0 : Int) (a0_1 : Int) (a0_2 : Int) (a0_3 : Int) (a0_4 : Int) (r1 : Int) (r2 : Int) (r3 : Int) (r4 : Int) (r5 : Int) (w : World) (h : dialtoneref22_One.f a0_0 a0_1 a0_2 a0_3 a0_4 = some (r1, r2, r3, r4, r5)) :
 Calls Tryz.prog 26 #[.agg #[.int .i64 a0_0, .int .i64 a0_1, .int .i64 a0_2, .int .i64 a0_3, .int .i64 a0_4]] w fun e w' => e = .returned (.agg #[.int .i64 r1, .int .i64 r2, .int .i64 r3, .int .i64 r4, .int .i64 r5]) ∧ Below w.heap.size w w' := by
 have hu66 := Tryz.underlying66
 have hu41 := Tryz.underlying41
 have HB := Aside0.mk (Below.refl w.heap.size w)
 have H : ((dialtoneref22_pick.f a0_0 8).bind fun t339 => ((dialtoneref22_pick.f a0_2 7).bind fun t340 => ((dialtoneref22_Part.f a0_3 a0_4).bind fun bt341 => ((dialtoneref22_pick.f a0_1 8).bind fun t344 => (if t344 > 4 then ((dialtoneref22_pick.f a0_1 8).bind fun t345 => (some (wrap64 (10 + t339), wrap64 (t345 - 3), wrap64 (10 + (Int.tmod (wrap64 ((wrap64 (t339 + 1)) + t340)) 8)), bt341.1, bt341.2))) else (some (wrap64 (10 + t339), 1, wrap64 (10 + (Int.tmod (wrap64 ((wrap64 (t339 + 1)) + t340)) 8)), bt341.1, bt341.2))))))) = some (r1, r2, r3, r4, r5) := h
 clear h
 replace H := Option.bind_eq_some_iff.mp H
 obtain ⟨t339, A20, H⟩ := H
 replace H : ((dialtoneref22_pick.f a0_2 7).bind fun t340 => ((dialtoneref22_Part.f a0_3 a0_4).bind fun bt341 => ((dialtoneref22_pick.f a0_1 8).bind fun t344 => (if t344 > 4 then ((dialtoneref22_pick.f a0_1 8).bind fun t345 => (some (wrap64 (10 + t339), wrap64 (t345 - 3), wrap64 (10 + (Int.tmod (wrap64 ((wrap64 (t339 + 1)) + t340)) 8)), bt341.1, bt341.2))) else (some (wrap64 (10 + t339), 1, wrap64 (10 + (Int.tmod (wrap64 ((wrap64 (t339 + 1)) + t340)) 8)), bt341.1, bt341.2)))))) = some (r1, r2, r3, r4, r5) := H
 have A2 := Aside0.mk A20
 clear A20
 replace H := Option.bind_eq_some_iff.mp H
 obtain ⟨t340, A30, H⟩ := H
 replace H : ((dialtoneref22_Part.f a0_3 a0_4).bind fun bt341 => ((dialtoneref22_pick.f a0_1 8).bind fun t344 => (if t344 > 4 then ((dialtoneref22_pick.f a0_1 8).bind fun t345 => (some (wrap64 (10 + t339), wrap64 (t345 - 3), wrap64 (10 + (Int.tmod (wrap64 ((wrap64 (t339 + 1)) + t340)) 8)), bt341.1, bt341.2))) else (some (wrap64 (10 + t339), 1, wrap64 (10 + (Int.tmod (wrap64 ((wrap64 (t339 + 1)) + t340)) 8)), bt341.1, bt341.2))))) = some (r1, r2, r3, r4, r5) := H
 have A3 := Aside0.mk A30
 clear A30
 replace H := Option.bind_eq_some_iff.mp H
 obtain ⟨⟨t341, t342⟩, A40, H⟩ := H
 replace H : ((dialtoneref22_pick.f a0_1 8).bind fun t344 => (if t344 > 4 then ((dialtoneref22_pick.f a0_1 8).bind fun t345 => (some (wrap64 (10 + t339), wrap64 (t345 - 3), wrap64 (10 + (Int.tmod (wrap64 ((wrap64 (t339 + 1)) + t340)) 8)), t341, t342))) else (some (wrap64 (10 + t339), 1, wrap64 (10 + (Int.tmod (wrap64 ((wrap64 (t339 + 1)) + t340)) 8)), t341, t342)))) = some (r1, r2, r3, r4, r5) := H
 have A4 := Aside0.mk A40
 clear A40
 replace H := Option.bind_eq_some_iff.mp H
 obtain ⟨t344, A50, H⟩ := H
 replace H : (if t344 > 4 then ((dialtoneref22_pick.f a0_1 8).bind fun t345 => (some (wrap64 (10 + t339), wrap64 (t345 - 3), wrap64 (10 + (Int.tmod (wrap64 ((wrap64 (t339 + 1)) + t340)) 8)), t341, t342))) else (some (wrap64 (10 + t339), 1, wrap64 (10 + (Int.tmod (wrap64 ((wrap64 (t339 + 1)) + t340)) 8)), t341, t342))) = some (r1, r2, r3, r4, r5) := H
 have A5 := Aside0.mk A50
 clear A50
 by_cases c6 : t344 > 4
 rotate_left
 ·rw [if_neg c6] at H
  have c6b0 : decide (4 < t344) = false := decide_eq_false c6
  clear c6
  simp only [Option.some.injEq, Prod.mk.injEq] at H
  obtain ⟨rfl, rfl, rfl, rfl, rfl⟩ := H
  go_enter Tryz.func26, Tryz.ntmps26
  try go_wp2_with (first | ((with_reducible refine gate_dst (N := 1) rfl ?_); refine box_event ?hg (N := 1) ?hd (cs := #[.int .i64 a0_0, .int .i64 a0_1, .int .i64 a0_2, .int .i64 a0_3, .int .i64 a0_4]) (t := 66) ?hr ?_; (case hd => rfl); (case hg => rfl); (case hr => exact zq4); intro gb337 hg w26 hbox hb; have BK337 := Aside0.mk (hbox); have GW337 := Aside0.mk ((zq5 : w.heap.size ≤ gb337)); have GE337 := Aside0.mk ((zq5 : w.heap.size ≤ gb337)); replace HB := Aside0.mk (below_step (zW HB) hb); clear hb hbox hg) | ((with_reducible refine gate_dst (N := 2) rfl ?_); refine box_event ?hg (N := 2) ?hd (cs := #[.int .i64 0, .int .i64 0, .int .i64 0, .int .i64 0, .int .i64 0]) (t := 41) ?hr ?_; (case hd => rfl); (case hg => rfl); (case hr => exact zq4); intro gb338 hg w27 hbox hb; have BK338 := Aside0.mk (hbox); have GW338 := Aside0.mk ((zq5 : w.heap.size ≤ gb338)); have GE338 := Aside0.mk ((zq5 : w.heap.size ≤ gb338)); replace HB := Aside0.mk (below_step (zW HB) hb); have NB337_338 := Aside0.mk ((zq77 : gb337 ≠ gb338)); have NB338_337 := Aside0.mk ((zq78 : gb338 ≠ gb337)); replace BK337 := Aside0.mk (blk_below (zB BK337) hb); clear hb hbox hg; have hnb28 := NB337_338.out; have hnc28 := NB338_337.out; have hcz29_0 : w27.cell? ⟨gb337, 0, none⟩ = some (.int .i64 a0_0) := (blk_cell BK337.out 0).trans rfl; have hcz29_1 : w27.cell? ⟨gb337, 1, none⟩ = some (.int .i64 a0_1) := (blk_cell BK337.out 1).trans rfl; have hcz29_2 : w27.cell? ⟨gb337, 2, none⟩ = some (.int .i64 a0_2) := (blk_cell BK337.out 2).trans rfl; have hcz29_3 : w27.cell? ⟨gb337, 3, none⟩ = some (.int .i64 a0_3) := (blk_cell BK337.out 3).trans rfl; have hcz29_4 : w27.cell? ⟨gb337, 4, none⟩ = some (.int .i64 a0_4) := (blk_cell BK337.out 4).trans rfl; have hfz29_0 := blk_frozen BK337.out 0; have hfz29_1 := blk_frozen BK337.out 1; have hfz29_2 := blk_frozen BK337.out 2; have hfz29_3 := blk_frozen BK337.out 3; have hfz29_4 := blk_frozen BK337.out 4) | ((with_reducible refine gate_callee (f := 28) rfl ?_); refine goesL_ (some 7) rfl rfl Tryz.func28 (by kernel_rfl) rfl #[.int .i64 a0_0, .int .i64 8] rfl zG ?_; (with_reducible refine (dialtoneref22_pick.calls a0_0 8 t339 _ A2.out).mono ?_); rintro e w' ⟨rfl, ⟨nd, rfl⟩⟩; refine ⟨_, rfl, ?_⟩; (try (rw [drewN_self w27]; generalize hq_ : World.drewN w27 _ = w27; replace BK337 : Aside0 (w27.heap[gb337]? = some (.cells #[.int .i64 a0_0, .int .i64 a0_1, .int .i64 a0_2, .int .i64 a0_3, .int .i64 a0_4] 66 (0, 0))) := ⟨by rw [← hq_]; exact (zB BK337)⟩; replace BK338 : Aside0 (w27.heap[gb338]? = some (.cells #[.int .i64 0, .int .i64 0, .int .i64 0, .int .i64 0, .int .i64 0] 41 (0, 0))) := ⟨by rw [← hq_]; exact (zB BK338)⟩; replace HB : Aside0 (Below w.heap.size w w27) := ⟨zq76⟩; clear hq_))))
  replace BK337 := Aside0.mk (blk_drew BK337.out)
  replace BK338 := Aside0.mk (blk_drew BK338.out)
  replace HB := Aside0.mk (below_drew1 HB.out)
  refine start_ (n := 18) (S := fun w' => w'.cell? ⟨gb337, 0, none⟩ = some (.int .i64 a0_0) ∧ w'.cell? ⟨gb337, 1, none⟩ = some (.int .i64 a0_1) ∧ w'.cell? ⟨gb337, 2, none⟩ = some (.int .i64 a0_2) ∧ w'.cell? ⟨gb337, 3, none⟩ = some (.int .i64 a0_3) ∧ w'.cell? ⟨gb337, 4, none⟩ = some (.int .i64 a0_4)) (ds := []) (bm 18 0) (by kernel_rfl) rfl rfl ⟨(blk_cell BK337.out 0).trans rfl, (blk_cell BK337.out 1).trans rfl, (blk_cell BK337.out 2).trans rfl, (blk_cell BK337.out 3).trans rfl, (blk_cell BK337.out 4).trans rfl⟩ (fun hHeld => ?_); refine with_tabW dialtoneref22_One.tab2 dialtoneref22_One.bits2 (fun HT_ HW_ => ?_)
  generalize w27.drew = w30 at BK337 BK338 HB hHeld ⊢
  refine pz 0 (some 8) (bm 18 1) HT_ ?_
  refine pz 1 (some 9) (bm 18 3) HT_ ?_
  refine pz 2 (some 10) (bm 18 7) HT_ ?_
  refine pz 3 (some 11) (bm 18 15) HT_ ?_
  refine pz 4 (some 12) (bm 18 31) HT_ ?_
  refine pz 10 (some 18) (bm 18 1055) HT_ ?_
  refine pz 12 (some 20) (bm 18 5151) HT_ ?_
  refine tz 5 (some 13) (bm 18 5183) HT_ HW_ hHeld ?_
  refine tz 11 (some 19) (bm 18 7231) HT_ HW_ hHeld ?_
  refine tz 13 (some 21) (bm 18 15423) HT_ HW_ hHeld ?_
  refine join_ (σ := Nat) 1 (bm 18 131071) (fun s_ => [(14, .int .i64 t340), (22, .agg #[.int .i64 t341, .int .i64 t342]), (4, .pointer (some ⟨s_, 0, none⟩)), (15, .int .i64 (wrap64 ((wrap64 (t339 + 1)) + t340))), (16, .int .i64 (Int.tmod (wrap64 ((wrap64 (t339 + 1)) + t340)) 8)), (17, .int .i64 (wrap64 (10 + (Int.tmod (wrap64 ((wrap64 (t339 + 1)) + t340)) 8)))), (23, .agg #[.int .i64 (wrap64 (10 + t339)), .int .i64 1, .int .i64 (wrap64 (10 + (Int.tmod (wrap64 ((wrap64 (t339 + 1)) + t340)) 8))), .int .i64 t341, .int .i64 t342])]) (fun s_ w' => (w'.cell? ⟨gb337, 0, none⟩ = some (.int .i64 a0_0) ∧ w'.cell? ⟨gb337, 1, none⟩ = some (.int .i64 a0_1) ∧ w'.cell? ⟨gb337, 2, none⟩ = some (.int .i64 a0_2) ∧ w'.cell? ⟨gb337, 3, none⟩ = some (.int .i64 a0_3) ∧ w'.cell? ⟨gb337, 4, none⟩ = some (.int .i64 a0_4)) ∧ (w'.heap[gb337]? = some (.cells #[.int .i64 a0_0, .int .i64 a0_1, .int .i64 a0_2, .int .i64 a0_3, .int .i64 a0_4] 66 (0, 0))) ∧ (w'.heap[gb338]? = some (.cells #[.int .i64 0, .int .i64 0, .int .i64 0, .int .i64 0, .int .i64 0] 41 (0, 0))) ∧ (w'.heap[s_]? = some (.cells #[.int .i64 0, .int .i64 0, .int .i64 0, .int .i64 0, .int .i64 0] 41 (0, 0))) ∧ (w.heap.size ≤ s_) ∧ (w.heap.size ≤ s_) ∧ (gb337 ≠ s_) ∧ (s_ ≠ gb337) ∧ (gb338 ≠ s_) ∧ (s_ ≠ gb338) ∧ (Below w.heap.size w w')) ?_ ?_
  rotate_left
  ·intro hCont
   refine two_ (i := 6) (j := 16) (Ni := some 14) (Nj := some 4) (bm 18 15487) (bm 18 80959) rfl rfl rfl rfl (two_of HT_.out (by kernel_rfl)) (by decide) (by decide) (fun K hK => ?_) (fun K hK => ?_)
   ·skip
    refine goes_ Tryz.func28 (by kernel_rfl) rfl #[.int .i64 a0_2, .int .i64 7] (by rfl) rfl rfl zG ?_
    with_reducible refine (dialtoneref22_pick.calls a0_2 7 t340 _ A3.out).mono ?_
    rintro e w' ⟨rfl, ⟨nd, rfl⟩⟩
    refine ⟨_, rfl, ?_⟩
    refine hK.out _ _ ⟨(blk_cell BK337.out 0).trans rfl, (blk_cell BK337.out 1).trans rfl, (blk_cell BK337.out 2).trans rfl, (blk_cell BK337.out 3).trans rfl, (blk_cell BK337.out 4).trans rfl⟩ (fun hHeld => ?_)
    clear hK K
    refine nz (some 14) ?_
    refine pz 7 (some 15) (bm 18 15615) HT_ ?_
    refine pz 8 (some 16) (bm 18 15871) HT_ ?_
    refine pz 9 (some 17) (bm 18 16383) HT_ ?_
    refine two_ (i := 14) (j := 16) (Ni := some 22) (Nj := some 4) (bm 18 32767) (bm 18 81919) rfl rfl rfl rfl (two_of HT_.out (by kernel_rfl)) (by decide) (by decide) (fun K hK => ?_) (fun K hK => ?_)
    ·skip
     refine goes_ Tryz.func47 (by kernel_rfl) rfl #[.int .i64 a0_3, .int .i64 a0_4] (by rfl) rfl rfl zG ?_
     with_reducible refine (dialtoneref22_Part.calls a0_3 a0_4 t341 t342 _ A4.out).mono ?_
     rintro e w31 ⟨rfl, hb⟩
     refine ⟨_, rfl, ?_⟩
     replace BK337 := Aside0.mk (blk_below (zB BK337) hb)
     replace BK338 := Aside0.mk (blk_below (zB BK338) hb)
     replace HB := Aside0.mk (below_step (zW HB) hb)
     (try clear hb)
     (try clear hb2)
     (try clear hk)
     (try clear hi)
     refine hK.out _ _ ⟨(blk_cell BK337.out 0).trans rfl, (blk_cell BK337.out 1).trans rfl, (blk_cell BK337.out 2).trans rfl, (blk_cell BK337.out 3).trans rfl, (blk_cell BK337.out 4).trans rfl⟩ (fun hHeld => ?_)
     clear hK K
     refine nz (some 22) ?_
     refine pz 15 (some 23) (bm 18 65535) HT_ ?_
     refine one_ (i := 16) (N := some 4) (bm 18 131071) rfl rfl (one_of HT_.out (by kernel_rfl)) (by decide) (fun K hK => ?_)
     refine box_step ?hg (N := 4) ?hd (cs := #[.int .i64 0, .int .i64 0, .int .i64 0, .int .i64 0, .int .i64 0]) (t := 41) ?hr ?_; (case hd => rfl); (case hg => rfl); (case hr => exact zq4)
     intro gb343 hg w32 hbox hb
     have BK343 := Aside0.mk (hbox)
     have GW343 := Aside0.mk ((zq5 : w.heap.size ≤ gb343))
     have GE343 := Aside0.mk ((zq5 : w.heap.size ≤ gb343))
     replace HB := Aside0.mk (below_step (zW HB) hb)
     have NB337_343 := Aside0.mk ((zq77 : gb337 ≠ gb343))
     have NB343_337 := Aside0.mk ((zq78 : gb343 ≠ gb337))
     replace BK337 := Aside0.mk (blk_below (zB BK337) hb)
     have NB338_343 := Aside0.mk ((zq79 : gb338 ≠ gb343))
     have NB343_338 := Aside0.mk ((zq80 : gb343 ≠ gb338))
     replace BK338 := Aside0.mk (blk_below (zB BK338) hb)
     clear hb hbox hg
     refine hK.out _ _ ⟨(blk_cell BK337.out 0).trans rfl, (blk_cell BK337.out 1).trans rfl, (blk_cell BK337.out 2).trans rfl, (blk_cell BK337.out 3).trans rfl, (blk_cell BK337.out 4).trans rfl⟩ (fun hHeld => ?_)
     clear hK K
     refine nz (some 4) ?_
     exact norm_ (zq81) (hCont (gb343) _ ⟨hHeld, (zB BK337), (zB BK338), (zB BK343), GW343.out, GE343.out, NB337_343.out, NB343_337.out, NB338_343.out, NB343_338.out, (zW HB)⟩)
    ·skip
     refine box_step ?hg (N := 4) ?hd (cs := #[.int .i64 0, .int .i64 0, .int .i64 0, .int .i64 0, .int .i64 0]) (t := 41) ?hr ?_; (case hd => rfl); (case hg => rfl); (case hr => exact zq4)
     intro gb343 hg w31 hbox hb
     have BK343 := Aside0.mk (hbox)
     have GW343 := Aside0.mk ((zq5 : w.heap.size ≤ gb343))
     have GE343 := Aside0.mk ((zq5 : w.heap.size ≤ gb343))
     replace HB := Aside0.mk (below_step (zW HB) hb)
     have NB337_343 := Aside0.mk ((zq77 : gb337 ≠ gb343))
     have NB343_337 := Aside0.mk ((zq78 : gb343 ≠ gb337))
     replace BK337 := Aside0.mk (blk_below (zB BK337) hb)
     have NB338_343 := Aside0.mk ((zq79 : gb338 ≠ gb343))
     have NB343_338 := Aside0.mk ((zq80 : gb343 ≠ gb338))
     replace BK338 := Aside0.mk (blk_below (zB BK338) hb)
     clear hb hbox hg
     refine hK.out _ _ ⟨(blk_cell BK337.out 0).trans rfl, (blk_cell BK337.out 1).trans rfl, (blk_cell BK337.out 2).trans rfl, (blk_cell BK337.out 3).trans rfl, (blk_cell BK337.out 4).trans rfl⟩ (fun hHeld => ?_)
     clear hK K
     refine nz (some 4) ?_
     refine one_ (i := 14) (N := some 22) (bm 18 98303) rfl rfl (one_of HT_.out (by kernel_rfl)) (by decide) (fun K hK => ?_)
     refine goes_ Tryz.func47 (by kernel_rfl) rfl #[.int .i64 a0_3, .int .i64 a0_4] (by rfl) rfl rfl zG ?_
     with_reducible refine (dialtoneref22_Part.calls a0_3 a0_4 t341 t342 _ A4.out).mono ?_
     rintro e w32 ⟨rfl, hb⟩
     refine ⟨_, rfl, ?_⟩
     replace BK337 := Aside0.mk (blk_below (zB BK337) hb)
     replace BK338 := Aside0.mk (blk_below (zB BK338) hb)
     replace BK343 := Aside0.mk (blk_below (zB BK343) hb)
     replace HB := Aside0.mk (below_step (zW HB) hb)
     (try clear hb)
     (try clear hb2)
     (try clear hk)
     (try clear hi)
     refine hK.out _ _ ⟨(blk_cell BK337.out 0).trans rfl, (blk_cell BK337.out 1).trans rfl, (blk_cell BK337.out 2).trans rfl, (blk_cell BK337.out 3).trans rfl, (blk_cell BK337.out 4).trans rfl⟩ (fun hHeld => ?_)
     clear hK K
     refine nz (some 22) ?_
     refine pz 15 (some 23) (bm 18 131071) HT_ ?_
     exact norm_ (zq81) (hCont (gb343) _ ⟨hHeld, (zB BK337), (zB BK338), (zB BK343), GW343.out, GE343.out, NB337_343.out, NB343_337.out, NB338_343.out, NB343_338.out, (zW HB)⟩)
   ·skip
    refine box_step ?hg (N := 4) ?hd (cs := #[.int .i64 0, .int .i64 0, .int .i64 0, .int .i64 0, .int .i64 0]) (t := 41) ?hr ?_; (case hd => rfl); (case hg => rfl); (case hr => exact zq4)
    intro gb343 hg w31 hbox hb
    have BK343 := Aside0.mk (hbox)
    have GW343 := Aside0.mk ((zq5 : w.heap.size ≤ gb343))
    have GE343 := Aside0.mk ((zq5 : w.heap.size ≤ gb343))
    replace HB := Aside0.mk (below_step (zW HB) hb)
    have NB337_343 := Aside0.mk ((zq77 : gb337 ≠ gb343))
    have NB343_337 := Aside0.mk ((zq78 : gb343 ≠ gb337))
    replace BK337 := Aside0.mk (blk_below (zB BK337) hb)
    have NB338_343 := Aside0.mk ((zq79 : gb338 ≠ gb343))
    have NB343_338 := Aside0.mk ((zq80 : gb343 ≠ gb338))
    replace BK338 := Aside0.mk (blk_below (zB BK338) hb)
    clear hb hbox hg
    refine hK.out _ _ ⟨(blk_cell BK337.out 0).trans rfl, (blk_cell BK337.out 1).trans rfl, (blk_cell BK337.out 2).trans rfl, (blk_cell BK337.out 3).trans rfl, (blk_cell BK337.out 4).trans rfl⟩ (fun hHeld => ?_)
    clear hK K
    refine nz (some 4) ?_
    refine one_ (i := 6) (N := some 14) (bm 18 81023) rfl rfl (one_of HT_.out (by kernel_rfl)) (by decide) (fun K hK => ?_)
    refine goes_ Tryz.func28 (by kernel_rfl) rfl #[.int .i64 a0_2, .int .i64 7] (by rfl) rfl rfl zG ?_
    with_reducible refine (dialtoneref22_pick.calls a0_2 7 t340 _ A3.out).mono ?_
    rintro e w' ⟨rfl, ⟨nd, rfl⟩⟩
    refine ⟨_, rfl, ?_⟩
    refine hK.out _ _ ⟨(blk_cell BK337.out 0).trans rfl, (blk_cell BK337.out 1).trans rfl, (blk_cell BK337.out 2).trans rfl, (blk_cell BK337.out 3).trans rfl, (blk_cell BK337.out 4).trans rfl⟩ (fun hHeld => ?_)
    clear hK K
    refine nz (some 14) ?_
    refine pz 7 (some 15) (bm 18 81151) HT_ ?_
    refine pz 8 (some 16) (bm 18 81407) HT_ ?_
    refine pz 9 (some 17) (bm 18 81919) HT_ ?_
    refine one_ (i := 14) (N := some 22) (bm 18 98303) rfl rfl (one_of HT_.out (by kernel_rfl)) (by decide) (fun K hK => ?_)
    refine goes_ Tryz.func47 (by kernel_rfl) rfl #[.int .i64 a0_3, .int .i64 a0_4] (by rfl) rfl rfl zG ?_
    with_reducible refine (dialtoneref22_Part.calls a0_3 a0_4 t341 t342 _ A4.out).mono ?_
    rintro e w32 ⟨rfl, hb⟩
    refine ⟨_, rfl, ?_⟩
    replace BK337 := Aside0.mk (blk_below (zB BK337) hb)
    replace BK338 := Aside0.mk (blk_below (zB BK338) hb)
    replace BK343 := Aside0.mk (blk_below (zB BK343) hb)
    replace HB := Aside0.mk (below_step (zW HB) hb)
    (try clear hb)
    (try clear hb2)
    (try clear hk)
    (try clear hi)
    refine hK.out _ _ ⟨(blk_cell BK337.out 0).trans rfl, (blk_cell BK337.out 1).trans rfl, (blk_cell BK337.out 2).trans rfl, (blk_cell BK337.out 3).trans rfl, (blk_cell BK337.out 4).trans rfl⟩ (fun hHeld => ?_)
    clear hK K
    refine nz (some 22) ?_
    refine pz 15 (some 23) (bm 18 131071) HT_ ?_
    exact norm_ (zq81) (hCont (gb343) _ ⟨hHeld, (zB BK337), (zB BK338), (zB BK343), GW343.out, GE343.out, NB337_343.out, NB343_337.out, NB338_343.out, NB343_338.out, (zW HB)⟩)
  rintro gb343 w33 ⟨hS_, h0_, h1_, h2_, h3_, h4_, h5_, h6_, h7_, h8_, h9_⟩
  replace BK337 : Aside0 (w33.heap[gb337]? = some (.cells #[.int .i64 a0_0, .int .i64 a0_1, .int .i64 a0_2, .int .i64 a0_3, .int .i64 a0_4] 66 (0, 0))) := ⟨h0_⟩
  replace BK338 : Aside0 (w33.heap[gb338]? = some (.cells #[.int .i64 0, .int .i64 0, .int .i64 0, .int .i64 0, .int .i64 0] 41 (0, 0))) := ⟨h1_⟩
  have BK343 : Aside0 (w33.heap[gb343]? = some (.cells #[.int .i64 0, .int .i64 0, .int .i64 0, .int .i64 0, .int .i64 0] 41 (0, 0))) := ⟨h2_⟩
  have GW343 : Aside0 (w.heap.size ≤ gb343) := ⟨h3_⟩
  have GE343 : Aside0 (w.heap.size ≤ gb343) := ⟨h4_⟩
  have NB337_343 : Aside0 (gb337 ≠ gb343) := ⟨h5_⟩
  have NB343_337 : Aside0 (gb343 ≠ gb337) := ⟨h6_⟩
  have NB338_343 : Aside0 (gb338 ≠ gb343) := ⟨h7_⟩
  have NB343_338 : Aside0 (gb343 ≠ gb338) := ⟨h8_⟩
  replace HB : Aside0 (Below w.heap.size w w33) := ⟨h9_⟩
  clear h0_ h1_ h2_ h3_ h4_ h5_ h6_ h7_ h8_ h9_
  have hHeld : w33.cell? ⟨gb337, 0, none⟩ = some (.int .i64 a0_0) ∧ w33.cell? ⟨gb337, 1, none⟩ = some (.int .i64 a0_1) ∧ w33.cell? ⟨gb337, 2, none⟩ = some (.int .i64 a0_2) ∧ w33.cell? ⟨gb337, 3, none⟩ = some (.int .i64 a0_3) ∧ w33.cell? ⟨gb337, 4, none⟩ = some (.int .i64 a0_4) := hS_
  refine norm_ (a' := ?_) ?_ ?_
  rotate_left
  ·simp only [putAll, Act.put, List.setIfInBounds_toArray, List.set_cons_zero, List.set_cons_succ]
   rfl
  refine one_ (i := 17) (N := none) (bm 18 262143) rfl rfl (one_of HT_.out (by kernel_rfl)) (by decide) (fun K hK => ?_)
  have hs34 : w33.cell? ⟨gb343, 0, none⟩ = some (.int .i64 0) := (blk_cell BK343.out 0).trans rfl
  have hfs34 := blk_frozen BK343.out 0
  have hns34_0 := NB337_343.out
  have hns34_1 := NB338_343.out
  have hms34_0 := NB343_337.out
  have hms34_1 := NB343_338.out
  have hs35 : w33.cell? ⟨gb343, 1, none⟩ = some (.int .i64 0) := (blk_cell BK343.out 1).trans rfl
  have hfs35 := blk_frozen BK343.out 1
  have hns35_0 := NB337_343.out
  have hns35_1 := NB338_343.out
  have hms35_0 := NB343_337.out
  have hms35_1 := NB343_338.out
  have hs36 : w33.cell? ⟨gb343, 2, none⟩ = some (.int .i64 0) := (blk_cell BK343.out 2).trans rfl
  have hfs36 := blk_frozen BK343.out 2
  have hns36_0 := NB337_343.out
  have hns36_1 := NB338_343.out
  have hms36_0 := NB343_337.out
  have hms36_1 := NB343_338.out
  have hs37 : w33.cell? ⟨gb343, 3, none⟩ = some (.int .i64 0) := (blk_cell BK343.out 3).trans rfl
  have hfs37 := blk_frozen BK343.out 3
  have hns37_0 := NB337_343.out
  have hns37_1 := NB338_343.out
  have hms37_0 := NB343_337.out
  have hms37_1 := NB343_338.out
  have hs38 : w33.cell? ⟨gb343, 4, none⟩ = some (.int .i64 0) := (blk_cell BK343.out 4).trans rfl
  have hfs38 := blk_frozen BK343.out 4
  have hns38_0 := NB337_343.out
  have hns38_1 := NB338_343.out
  have hms38_0 := NB343_337.out
  have hms38_1 := NB343_338.out
  refine skip_ (w1 := ?_) (by rfl) rfl ?_ ?_
  rotate_left
  ·go_simp
   rfl
  refine hK.out _ _ ⟨((cell_far (p := ⟨gb343, _, none⟩) NB337_343.out _).trans (((cell_far (p := ⟨gb343, _, none⟩) NB337_343.out _).trans (((cell_far (p := ⟨gb343, _, none⟩) NB337_343.out _).trans (((cell_far (p := ⟨gb343, _, none⟩) NB337_343.out _).trans (((cell_far (p := ⟨gb343, _, none⟩) NB337_343.out _).trans (hHeld.1)))))))))), ((cell_far (p := ⟨gb343, _, none⟩) NB337_343.out _).trans (((cell_far (p := ⟨gb343, _, none⟩) NB337_343.out _).trans (((cell_far (p := ⟨gb343, _, none⟩) NB337_343.out _).trans (((cell_far (p := ⟨gb343, _, none⟩) NB337_343.out _).trans (((cell_far (p := ⟨gb343, _, none⟩) NB337_343.out _).trans (hHeld.2.1)))))))))), ((cell_far (p := ⟨gb343, _, none⟩) NB337_343.out _).trans (((cell_far (p := ⟨gb343, _, none⟩) NB337_343.out _).trans (((cell_far (p := ⟨gb343, _, none⟩) NB337_343.out _).trans (((cell_far (p := ⟨gb343, _, none⟩) NB337_343.out _).trans (((cell_far (p := ⟨gb343, _, none⟩) NB337_343.out _).trans (hHeld.2.2.1)))))))))), ((cell_far (p := ⟨gb343, _, none⟩) NB337_343.out _).trans (((cell_far (p := ⟨gb343, _, none⟩) NB337_343.out _).trans (((cell_far (p := ⟨gb343, _, none⟩) NB337_343.out _).trans (((cell_far (p := ⟨gb343, _, none⟩) NB337_343.out _).trans (((cell_far (p := ⟨gb343, _, none⟩) NB337_343.out _).trans (hHeld.2.2.2.1)))))))))), ((cell_far (p := ⟨gb343, _, none⟩) NB337_343.out _).trans (((cell_far (p := ⟨gb343, _, none⟩) NB337_343.out _).trans (((cell_far (p := ⟨gb343, _, none⟩) NB337_343.out _).trans (((cell_far (p := ⟨gb343, _, none⟩) NB337_343.out _).trans (((cell_far (p := ⟨gb343, _, none⟩) NB337_343.out _).trans (hHeld.2.2.2.2))))))))))⟩ (fun hHeld => ?_)
  clear hK K
  refine done_ (done_of HT_.out (by kernel_rfl)) ?_
  generalize hw16 : World.setCell (World.setCell (World.setCell (World.setCell (World.setCell w33 _ _) _ _) _ _) _ _) _ _ = w16g at hHeld ⊢
  have n1_ := Aside0.mk (show w16g.heap[gb337]? = some (.cells #[.int .i64 a0_0, .int .i64 a0_1, .int .i64 a0_2, .int .i64 a0_3, .int .i64 a0_4] 66 (0, 0)) by rw [← hw16]; exact blk_far (blk_far (blk_far (blk_far (blk_far BK337.out NB337_343.out _) NB337_343.out _) NB337_343.out _) NB337_343.out _) NB337_343.out _)
  have n2_ := Aside0.mk (show w16g.heap[gb338]? = some (.cells #[.int .i64 0, .int .i64 0, .int .i64 0, .int .i64 0, .int .i64 0] 41 (0, 0)) by rw [← hw16]; exact blk_far (blk_far (blk_far (blk_far (blk_far BK338.out NB338_343.out _) NB338_343.out _) NB338_343.out _) NB338_343.out _) NB338_343.out _)
  have n3_ := Aside0.mk (show w16g.heap[gb343]? = some (.cells #[.int .i64 (wrap64 (10 + t339)), .int .i64 1, .int .i64 (wrap64 (10 + (Int.tmod (wrap64 ((wrap64 (t339 + 1)) + t340)) 8))), .int .i64 t341, .int .i64 t342] 41 (0, 0)) by rw [← hw16]; exact blk_put (blk_put (blk_put (blk_put (blk_put BK343.out 0 _ rfl) 1 _ rfl) 2 _ rfl) 3 _ rfl) 4 _ rfl)
  have n4_ := Aside0.mk (show Below w.heap.size w w16g by rw [← hw16]; exact below_set (below_set (below_set (below_set (below_set HB.out GE343.out) GE343.out) GE343.out) GE343.out) GE343.out)
  clear hw16 hHeld BK337 BK338 BK343 HB
  have BK337 := n1_
  have BK338 := n2_
  have BK343 := n3_
  have HB := n4_
  clear n1_ n2_ n3_ n4_
  have hnb39 := NB337_343.out
  have hnc39 := NB343_337.out
  have hcz40_0 : w16g.cell? ⟨gb337, 0, none⟩ = some (.int .i64 a0_0) := (blk_cell BK337.out 0).trans rfl
  have hcz40_1 : w16g.cell? ⟨gb337, 1, none⟩ = some (.int .i64 a0_1) := (blk_cell BK337.out 1).trans rfl
  have hcz40_2 : w16g.cell? ⟨gb337, 2, none⟩ = some (.int .i64 a0_2) := (blk_cell BK337.out 2).trans rfl
  have hcz40_3 : w16g.cell? ⟨gb337, 3, none⟩ = some (.int .i64 a0_3) := (blk_cell BK337.out 3).trans rfl
  have hcz40_4 : w16g.cell? ⟨gb337, 4, none⟩ = some (.int .i64 a0_4) := (blk_cell BK337.out 4).trans rfl
  have hfz40_0 := blk_frozen BK337.out 0
  have hfz40_1 := blk_frozen BK337.out 1
  have hfz40_2 := blk_frozen BK337.out 2
  have hfz40_3 := blk_frozen BK337.out 3
  have hfz40_4 := blk_frozen BK337.out 4
  try go_wp2_with (first | ((with_reducible refine gate_callee (f := 28) rfl ?_); refine goesL_ (some 26) rfl rfl Tryz.func28 (by kernel_rfl) rfl #[.int .i64 a0_1, .int .i64 8] rfl zG ?_; (with_reducible refine (dialtoneref22_pick.calls a0_1 8 t344 _ A5.out).mono ?_); rintro e w' ⟨rfl, ⟨nd, rfl⟩⟩; refine ⟨_, rfl, ?_⟩; have hnb41 := NB343_338.out; have hnc41 := NB338_343.out; have hcz42_0 : w16g.cell? ⟨gb343, 0, none⟩ = some (.int .i64 (wrap64 (10 + t339))) := (blk_cell BK343.out 0).trans rfl; have hcz42_1 : w16g.cell? ⟨gb343, 1, none⟩ = some (.int .i64 1) := (blk_cell BK343.out 1).trans rfl; have hcz42_2 : w16g.cell? ⟨gb343, 2, none⟩ = some (.int .i64 (wrap64 (10 + (Int.tmod (wrap64 ((wrap64 (t339 + 1)) + t340)) 8)))) := (blk_cell BK343.out 2).trans rfl; have hcz42_3 : w16g.cell? ⟨gb343, 3, none⟩ = some (.int .i64 t341) := (blk_cell BK343.out 3).trans rfl; have hcz42_4 : w16g.cell? ⟨gb343, 4, none⟩ = some (.int .i64 t342) := (blk_cell BK343.out 4).trans rfl; have hfz42_0 := blk_frozen BK343.out 0; have hfz42_1 := blk_frozen BK343.out 1; have hfz42_2 := blk_frozen BK343.out 2; have hfz42_3 := blk_frozen BK343.out 3; have hfz42_4 := blk_frozen BK343.out 4; have hcz43_0 : w16g.cell? ⟨gb338, 0, none⟩ = some (.int .i64 0) := (blk_cell BK338.out 0).trans rfl; have hcz43_1 : w16g.cell? ⟨gb338, 1, none⟩ = some (.int .i64 0) := (blk_cell BK338.out 1).trans rfl; have hcz43_2 : w16g.cell? ⟨gb338, 2, none⟩ = some (.int .i64 0) := (blk_cell BK338.out 2).trans rfl; have hcz43_3 : w16g.cell? ⟨gb338, 3, none⟩ = some (.int .i64 0) := (blk_cell BK338.out 3).trans rfl; have hcz43_4 : w16g.cell? ⟨gb338, 4, none⟩ = some (.int .i64 0) := (blk_cell BK338.out 4).trans rfl; have hfz43_0 := blk_frozen BK338.out 0; have hfz43_1 := blk_frozen BK338.out 1; have hfz43_2 := blk_frozen BK338.out 2; have hfz43_3 := blk_frozen BK338.out 3; have hfz43_4 := blk_frozen BK338.out 4))
  refine bodyPost_ret (results_cell_row rfl _ _ gb338 41 #[.int .i64 (wrap64 (10 + t339)), .int .i64 1, .int .i64 (wrap64 (10 + (Int.tmod (wrap64 ((wrap64 (t339 + 1)) + t340)) 8))), .int .i64 t341, .int .i64 t342] (0, 0) _ rfl (by (with_reducible repeat (first | refine blk_drewN ?_ _ | refine blk_drew ?_ | refine blk_alloc ?_ _)); refine blk_put (cs := #[.int .i64 (wrap64 (10 + t339)), .int .i64 1, .int .i64 (wrap64 (10 + (Int.tmod (wrap64 ((wrap64 (t339 + 1)) + t340)) 8))), .int .i64 t341, .int .i64 0]) ?_ 4 _ rfl; (with_reducible repeat (first | refine blk_drewN ?_ _ | refine blk_drew ?_ | refine blk_alloc ?_ _)); refine blk_put (cs := #[.int .i64 (wrap64 (10 + t339)), .int .i64 1, .int .i64 (wrap64 (10 + (Int.tmod (wrap64 ((wrap64 (t339 + 1)) + t340)) 8))), .int .i64 0, .int .i64 0]) ?_ 3 _ rfl; (with_reducible repeat (first | refine blk_drewN ?_ _ | refine blk_drew ?_ | refine blk_alloc ?_ _)); refine blk_put (cs := #[.int .i64 (wrap64 (10 + t339)), .int .i64 1, .int .i64 0, .int .i64 0, .int .i64 0]) ?_ 2 _ rfl; (with_reducible repeat (first | refine blk_drewN ?_ _ | refine blk_drew ?_ | refine blk_alloc ?_ _)); refine blk_put (cs := #[.int .i64 (wrap64 (10 + t339)), .int .i64 0, .int .i64 0, .int .i64 0, .int .i64 0]) ?_ 1 _ rfl; (with_reducible repeat (first | refine blk_drewN ?_ _ | refine blk_drew ?_ | refine blk_alloc ?_ _)); refine blk_put (cs := #[.int .i64 0, .int .i64 0, .int .i64 0, .int .i64 0, .int .i64 0]) ?_ 0 _ rfl; (with_reducible repeat (first | refine blk_drewN ?_ _ | refine blk_drew ?_ | refine blk_alloc ?_ _)); exact BK338.out) Tryz.underlying41 rfl (by kernel_rfl)) rfl ?_
  exact ⟨zq6, zq82⟩
 rw [if_pos c6] at H
 have c6b0 : decide (4 < t344) = true := decide_eq_true c6
 clear c6
 replace H := Option.bind_eq_some_iff.mp H
 obtain ⟨t345, A70, H⟩ := H
 replace H : (some (wrap64 (10 + t339), wrap64 (t345 - 3), wrap64 (10 + (Int.tmod (wrap64 ((wrap64 (t339 + 1)) + t340)) 8)), t341, t342)) = some (r1, r2, r3, r4, r5) := H
 have A7 := Aside0.mk A70
 clear A70
 simp only [Option.some.injEq, Prod.mk.injEq] at H
 obtain ⟨rfl, rfl, rfl, rfl, rfl⟩ := H
 go_enter Tryz.func26, Tryz.ntmps26
 try go_wp2_with (first | ((with_reducible refine gate_dst (N := 1) rfl ?_); refine box_event ?hg (N := 1) ?hd (cs := #[.int .i64 a0_0, .int .i64 a0_1, .int .i64 a0_2, .int .i64 a0_3, .int .i64 a0_4]) (t := 66) ?hr ?_; (case hd => rfl); (case hg => rfl); (case hr => exact zq4); intro gb337 hg w8 hbox hb; have BK337 := Aside0.mk (hbox); have GW337 := Aside0.mk ((zq5 : w.heap.size ≤ gb337)); have GE337 := Aside0.mk ((zq5 : w.heap.size ≤ gb337)); replace HB := Aside0.mk (below_step (zW HB) hb); clear hb hbox hg) | ((with_reducible refine gate_dst (N := 2) rfl ?_); refine box_event ?hg (N := 2) ?hd (cs := #[.int .i64 0, .int .i64 0, .int .i64 0, .int .i64 0, .int .i64 0]) (t := 41) ?hr ?_; (case hd => rfl); (case hg => rfl); (case hr => exact zq4); intro gb338 hg w9 hbox hb; have BK338 := Aside0.mk (hbox); have GW338 := Aside0.mk ((zq5 : w.heap.size ≤ gb338)); have GE338 := Aside0.mk ((zq5 : w.heap.size ≤ gb338)); replace HB := Aside0.mk (below_step (zW HB) hb); have NB337_338 := Aside0.mk ((zq77 : gb337 ≠ gb338)); have NB338_337 := Aside0.mk ((zq78 : gb338 ≠ gb337)); replace BK337 := Aside0.mk (blk_below (zB BK337) hb); clear hb hbox hg; have hnb10 := NB337_338.out; have hnc10 := NB338_337.out; have hcz11_0 : w9.cell? ⟨gb337, 0, none⟩ = some (.int .i64 a0_0) := (blk_cell BK337.out 0).trans rfl; have hcz11_1 : w9.cell? ⟨gb337, 1, none⟩ = some (.int .i64 a0_1) := (blk_cell BK337.out 1).trans rfl; have hcz11_2 : w9.cell? ⟨gb337, 2, none⟩ = some (.int .i64 a0_2) := (blk_cell BK337.out 2).trans rfl; have hcz11_3 : w9.cell? ⟨gb337, 3, none⟩ = some (.int .i64 a0_3) := (blk_cell BK337.out 3).trans rfl; have hcz11_4 : w9.cell? ⟨gb337, 4, none⟩ = some (.int .i64 a0_4) := (blk_cell BK337.out 4).trans rfl; have hfz11_0 := blk_frozen BK337.out 0; have hfz11_1 := blk_frozen BK337.out 1; have hfz11_2 := blk_frozen BK337.out 2; have hfz11_3 := blk_frozen BK337.out 3; have hfz11_4 := blk_frozen BK337.out 4) | ((with_reducible refine gate_callee (f := 28) rfl ?_); refine goesL_ (some 7) rfl rfl Tryz.func28 (by kernel_rfl) rfl #[.int .i64 a0_0, .int .i64 8] rfl zG ?_; (with_reducible refine (dialtoneref22_pick.calls a0_0 8 t339 _ A2.out).mono ?_); rintro e w' ⟨rfl, ⟨nd, rfl⟩⟩; refine ⟨_, rfl, ?_⟩; (try (rw [drewN_self w9]; generalize hq_ : World.drewN w9 _ = w9; replace BK337 : Aside0 (w9.heap[gb337]? = some (.cells #[.int .i64 a0_0, .int .i64 a0_1, .int .i64 a0_2, .int .i64 a0_3, .int .i64 a0_4] 66 (0, 0))) := ⟨by rw [← hq_]; exact (zB BK337)⟩; replace BK338 : Aside0 (w9.heap[gb338]? = some (.cells #[.int .i64 0, .int .i64 0, .int .i64 0, .int .i64 0, .int .i64 0] 41 (0, 0))) := ⟨by rw [← hq_]; exact (zB BK338)⟩; replace HB : Aside0 (Below w.heap.size w w9) := ⟨zq76⟩; clear hq_))))
 replace BK337 := Aside0.mk (blk_drew BK337.out)
 replace BK338 := Aside0.mk (blk_drew BK338.out)
 replace HB := Aside0.mk (below_drew1 HB.out)
 refine start_ (n := 18) (S := fun w' => w'.cell? ⟨gb337, 0, none⟩ = some (.int .i64 a0_0) ∧ w'.cell? ⟨gb337, 1, none⟩ = some (.int .i64 a0_1) ∧ w'.cell? ⟨gb337, 2, none⟩ = some (.int .i64 a0_2) ∧ w'.cell? ⟨gb337, 3, none⟩ = some (.int .i64 a0_3) ∧ w'.cell? ⟨gb337, 4, none⟩ = some (.int .i64 a0_4)) (ds := []) (bm 18 0) (by kernel_rfl) rfl rfl ⟨(blk_cell BK337.out 0).trans rfl, (blk_cell BK337.out 1).trans rfl, (blk_cell BK337.out 2).trans rfl, (blk_cell BK337.out 3).trans rfl, (blk_cell BK337.out 4).trans rfl⟩ (fun hHeld => ?_); refine with_tabW dialtoneref22_One.tab2 dialtoneref22_One.bits2 (fun HT_ HW_ => ?_)
 generalize w9.drew = w12 at BK337 BK338 HB hHeld ⊢
 refine pz 0 (some 8) (bm 18 1) HT_ ?_
 refine pz 1 (some 9) (bm 18 3) HT_ ?_
 refine pz 2 (some 10) (bm 18 7) HT_ ?_
 refine pz 3 (some 11) (bm 18 15) HT_ ?_
 refine pz 4 (some 12) (bm 18 31) HT_ ?_
 refine pz 10 (some 18) (bm 18 1055) HT_ ?_
 refine pz 12 (some 20) (bm 18 5151) HT_ ?_
 refine tz 5 (some 13) (bm 18 5183) HT_ HW_ hHeld ?_
 refine tz 11 (some 19) (bm 18 7231) HT_ HW_ hHeld ?_
 refine tz 13 (some 21) (bm 18 15423) HT_ HW_ hHeld ?_
 refine join_ (σ := Nat) 1 (bm 18 131071) (fun s_ => [(14, .int .i64 t340), (22, .agg #[.int .i64 t341, .int .i64 t342]), (4, .pointer (some ⟨s_, 0, none⟩)), (15, .int .i64 (wrap64 ((wrap64 (t339 + 1)) + t340))), (16, .int .i64 (Int.tmod (wrap64 ((wrap64 (t339 + 1)) + t340)) 8)), (17, .int .i64 (wrap64 (10 + (Int.tmod (wrap64 ((wrap64 (t339 + 1)) + t340)) 8)))), (23, .agg #[.int .i64 (wrap64 (10 + t339)), .int .i64 1, .int .i64 (wrap64 (10 + (Int.tmod (wrap64 ((wrap64 (t339 + 1)) + t340)) 8))), .int .i64 t341, .int .i64 t342])]) (fun s_ w' => (w'.cell? ⟨gb337, 0, none⟩ = some (.int .i64 a0_0) ∧ w'.cell? ⟨gb337, 1, none⟩ = some (.int .i64 a0_1) ∧ w'.cell? ⟨gb337, 2, none⟩ = some (.int .i64 a0_2) ∧ w'.cell? ⟨gb337, 3, none⟩ = some (.int .i64 a0_3) ∧ w'.cell? ⟨gb337, 4, none⟩ = some (.int .i64 a0_4)) ∧ (w'.heap[gb337]? = some (.cells #[.int .i64 a0_0, .int .i64 a0_1, .int .i64 a0_2, .int .i64 a0_3, .int .i64 a0_4] 66 (0, 0))) ∧ (w'.heap[gb338]? = some (.cells #[.int .i64 0, .int .i64 0, .int .i64 0, .int .i64 0, .int .i64 0] 41 (0, 0))) ∧ (w'.heap[s_]? = some (.cells #[.int .i64 0, .int .i64 0, .int .i64 0, .int .i64 0, .int .i64 0] 41 (0, 0))) ∧ (w.heap.size ≤ s_) ∧ (w.heap.size ≤ s_) ∧ (gb337 ≠ s_) ∧ (s_ ≠ gb337) ∧ (gb338 ≠ s_) ∧ (s_ ≠ gb338) ∧ (Below w.heap.size w w')) ?_ ?_
 rotate_left
 ·intro hCont
  refine two_ (i := 6) (j := 16) (Ni := some 14) (Nj := some 4) (bm 18 15487) (bm 18 80959) rfl rfl rfl rfl (two_of HT_.out (by kernel_rfl)) (by decide) (by decide) (fun K hK => ?_) (fun K hK => ?_)
  ·skip
   refine goes_ Tryz.func28 (by kernel_rfl) rfl #[.int .i64 a0_2, .int .i64 7] (by rfl) rfl rfl zG ?_
   with_reducible refine (dialtoneref22_pick.calls a0_2 7 t340 _ A3.out).mono ?_
   rintro e w' ⟨rfl, ⟨nd, rfl⟩⟩
   refine ⟨_, rfl, ?_⟩
   refine hK.out _ _ ⟨(blk_cell BK337.out 0).trans rfl, (blk_cell BK337.out 1).trans rfl, (blk_cell BK337.out 2).trans rfl, (blk_cell BK337.out 3).trans rfl, (blk_cell BK337.out 4).trans rfl⟩ (fun hHeld => ?_)
   clear hK K
   refine nz (some 14) ?_
   refine pz 7 (some 15) (bm 18 15615) HT_ ?_
   refine pz 8 (some 16) (bm 18 15871) HT_ ?_
   refine pz 9 (some 17) (bm 18 16383) HT_ ?_
   refine two_ (i := 14) (j := 16) (Ni := some 22) (Nj := some 4) (bm 18 32767) (bm 18 81919) rfl rfl rfl rfl (two_of HT_.out (by kernel_rfl)) (by decide) (by decide) (fun K hK => ?_) (fun K hK => ?_)
   ·skip
    refine goes_ Tryz.func47 (by kernel_rfl) rfl #[.int .i64 a0_3, .int .i64 a0_4] (by rfl) rfl rfl zG ?_
    with_reducible refine (dialtoneref22_Part.calls a0_3 a0_4 t341 t342 _ A4.out).mono ?_
    rintro e w13 ⟨rfl, hb⟩
    refine ⟨_, rfl, ?_⟩
    replace BK337 := Aside0.mk (blk_below (zB BK337) hb)
    replace BK338 := Aside0.mk (blk_below (zB BK338) hb)
    replace HB := Aside0.mk (below_step (zW HB) hb)
    (try clear hb)
    (try clear hb2)
    (try clear hk)
    (try clear hi)
    refine hK.out _ _ ⟨(blk_cell BK337.out 0).trans rfl, (blk_cell BK337.out 1).trans rfl, (blk_cell BK337.out 2).trans rfl, (blk_cell BK337.out 3).trans rfl, (blk_cell BK337.out 4).trans rfl⟩ (fun hHeld => ?_)
    clear hK K
    refine nz (some 22) ?_
    refine pz 15 (some 23) (bm 18 65535) HT_ ?_
    refine one_ (i := 16) (N := some 4) (bm 18 131071) rfl rfl (one_of HT_.out (by kernel_rfl)) (by decide) (fun K hK => ?_)
    refine box_step ?hg (N := 4) ?hd (cs := #[.int .i64 0, .int .i64 0, .int .i64 0, .int .i64 0, .int .i64 0]) (t := 41) ?hr ?_; (case hd => rfl); (case hg => rfl); (case hr => exact zq4)
    intro gb343 hg w14 hbox hb
    have BK343 := Aside0.mk (hbox)
    have GW343 := Aside0.mk ((zq5 : w.heap.size ≤ gb343))
    have GE343 := Aside0.mk ((zq5 : w.heap.size ≤ gb343))
    replace HB := Aside0.mk (below_step (zW HB) hb)
    have NB337_343 := Aside0.mk ((zq77 : gb337 ≠ gb343))
    have NB343_337 := Aside0.mk ((zq78 : gb343 ≠ gb337))
    replace BK337 := Aside0.mk (blk_below (zB BK337) hb)
    have NB338_343 := Aside0.mk ((zq79 : gb338 ≠ gb343))
    have NB343_338 := Aside0.mk ((zq80 : gb343 ≠ gb338))
    replace BK338 := Aside0.mk (blk_below (zB BK338) hb)
    clear hb hbox hg
    refine hK.out _ _ ⟨(blk_cell BK337.out 0).trans rfl, (blk_cell BK337.out 1).trans rfl, (blk_cell BK337.out 2).trans rfl, (blk_cell BK337.out 3).trans rfl, (blk_cell BK337.out 4).trans rfl⟩ (fun hHeld => ?_)
    clear hK K
    refine nz (some 4) ?_
    exact norm_ (zq81) (hCont (gb343) _ ⟨hHeld, (zB BK337), (zB BK338), (zB BK343), GW343.out, GE343.out, NB337_343.out, NB343_337.out, NB338_343.out, NB343_338.out, (zW HB)⟩)
   ·skip
    refine box_step ?hg (N := 4) ?hd (cs := #[.int .i64 0, .int .i64 0, .int .i64 0, .int .i64 0, .int .i64 0]) (t := 41) ?hr ?_; (case hd => rfl); (case hg => rfl); (case hr => exact zq4)
    intro gb343 hg w13 hbox hb
    have BK343 := Aside0.mk (hbox)
    have GW343 := Aside0.mk ((zq5 : w.heap.size ≤ gb343))
    have GE343 := Aside0.mk ((zq5 : w.heap.size ≤ gb343))
    replace HB := Aside0.mk (below_step (zW HB) hb)
    have NB337_343 := Aside0.mk ((zq77 : gb337 ≠ gb343))
    have NB343_337 := Aside0.mk ((zq78 : gb343 ≠ gb337))
    replace BK337 := Aside0.mk (blk_below (zB BK337) hb)
    have NB338_343 := Aside0.mk ((zq79 : gb338 ≠ gb343))
    have NB343_338 := Aside0.mk ((zq80 : gb343 ≠ gb338))
    replace BK338 := Aside0.mk (blk_below (zB BK338) hb)
    clear hb hbox hg
    refine hK.out _ _ ⟨(blk_cell BK337.out 0).trans rfl, (blk_cell BK337.out 1).trans rfl, (blk_cell BK337.out 2).trans rfl, (blk_cell BK337.out 3).trans rfl, (blk_cell BK337.out 4).trans rfl⟩ (fun hHeld => ?_)
    clear hK K
    refine nz (some 4) ?_
    refine one_ (i := 14) (N := some 22) (bm 18 98303) rfl rfl (one_of HT_.out (by kernel_rfl)) (by decide) (fun K hK => ?_)
    refine goes_ Tryz.func47 (by kernel_rfl) rfl #[.int .i64 a0_3, .int .i64 a0_4] (by rfl) rfl rfl zG ?_
    with_reducible refine (dialtoneref22_Part.calls a0_3 a0_4 t341 t342 _ A4.out).mono ?_
    rintro e w14 ⟨rfl, hb⟩
    refine ⟨_, rfl, ?_⟩
    replace BK337 := Aside0.mk (blk_below (zB BK337) hb)
    replace BK338 := Aside0.mk (blk_below (zB BK338) hb)
    replace BK343 := Aside0.mk (blk_below (zB BK343) hb)
    replace HB := Aside0.mk (below_step (zW HB) hb)
    (try clear hb)
    (try clear hb2)
    (try clear hk)
    (try clear hi)
    refine hK.out _ _ ⟨(blk_cell BK337.out 0).trans rfl, (blk_cell BK337.out 1).trans rfl, (blk_cell BK337.out 2).trans rfl, (blk_cell BK337.out 3).trans rfl, (blk_cell BK337.out 4).trans rfl⟩ (fun hHeld => ?_)
    clear hK K
    refine nz (some 22) ?_
    refine pz 15 (some 23) (bm 18 131071) HT_ ?_
    exact norm_ (zq81) (hCont (gb343) _ ⟨hHeld, (zB BK337), (zB BK338), (zB BK343), GW343.out, GE343.out, NB337_343.out, NB343_337.out, NB338_343.out, NB343_338.out, (zW HB)⟩)
  ·skip
   refine box_step ?hg (N := 4) ?hd (cs := #[.int .i64 0, .int .i64 0, .int .i64 0, .int .i64 0, .int .i64 0]) (t := 41) ?hr ?_; (case hd => rfl); (case hg => rfl); (case hr => exact zq4)
   intro gb343 hg w13 hbox hb
   have BK343 := Aside0.mk (hbox)
   have GW343 := Aside0.mk ((zq5 : w.heap.size ≤ gb343))
   have GE343 := Aside0.mk ((zq5 : w.heap.size ≤ gb343))
   replace HB := Aside0.mk (below_step (zW HB) hb)
   have NB337_343 := Aside0.mk ((zq77 : gb337 ≠ gb343))
   have NB343_337 := Aside0.mk ((zq78 : gb343 ≠ gb337))
   replace BK337 := Aside0.mk (blk_below (zB BK337) hb)
   have NB338_343 := Aside0.mk ((zq79 : gb338 ≠ gb343))
   have NB343_338 := Aside0.mk ((zq80 : gb343 ≠ gb338))
   replace BK338 := Aside0.mk (blk_below (zB BK338) hb)
   clear hb hbox hg
   refine hK.out _ _ ⟨(blk_cell BK337.out 0).trans rfl, (blk_cell BK337.out 1).trans rfl, (blk_cell BK337.out 2).trans rfl, (blk_cell BK337.out 3).trans rfl, (blk_cell BK337.out 4).trans rfl⟩ (fun hHeld => ?_)
   clear hK K
   refine nz (some 4) ?_
   refine one_ (i := 6) (N := some 14) (bm 18 81023) rfl rfl (one_of HT_.out (by kernel_rfl)) (by decide) (fun K hK => ?_)
   refine goes_ Tryz.func28 (by kernel_rfl) rfl #[.int .i64 a0_2, .int .i64 7] (by rfl) rfl rfl zG ?_
   with_reducible refine (dialtoneref22_pick.calls a0_2 7 t340 _ A3.out).mono ?_
   rintro e w' ⟨rfl, ⟨nd, rfl⟩⟩
   refine ⟨_, rfl, ?_⟩
   refine hK.out _ _ ⟨(blk_cell BK337.out 0).trans rfl, (blk_cell BK337.out 1).trans rfl, (blk_cell BK337.out 2).trans rfl, (blk_cell BK337.out 3).trans rfl, (blk_cell BK337.out 4).trans rfl⟩ (fun hHeld => ?_)
   clear hK K
   refine nz (some 14) ?_
   refine pz 7 (some 15) (bm 18 81151) HT_ ?_
   refine pz 8 (some 16) (bm 18 81407) HT_ ?_
   refine pz 9 (some 17) (bm 18 81919) HT_ ?_
   refine one_ (i := 14) (N := some 22) (bm 18 98303) rfl rfl (one_of HT_.out (by kernel_rfl)) (by decide) (fun K hK => ?_)
   refine goes_ Tryz.func47 (by kernel_rfl) rfl #[.int .i64 a0_3, .int .i64 a0_4] (by rfl) rfl rfl zG ?_
   with_reducible refine (dialtoneref22_Part.calls a0_3 a0_4 t341 t342 _ A4.out).mono ?_
   rintro e w14 ⟨rfl, hb⟩
   refine ⟨_, rfl, ?_⟩
   replace BK337 := Aside0.mk (blk_below (zB BK337) hb)
   replace BK338 := Aside0.mk (blk_below (zB BK338) hb)
   replace BK343 := Aside0.mk (blk_below (zB BK343) hb)
   replace HB := Aside0.mk (below_step (zW HB) hb)
   (try clear hb)
   (try clear hb2)
   (try clear hk)
   (try clear hi)
   refine hK.out _ _ ⟨(blk_cell BK337.out 0).trans rfl, (blk_cell BK337.out 1).trans rfl, (blk_cell BK337.out 2).trans rfl, (blk_cell BK337.out 3).trans rfl, (blk_cell BK337.out 4).trans rfl⟩ (fun hHeld => ?_)
   clear hK K
   refine nz (some 22) ?_
   refine pz 15 (some 23) (bm 18 131071) HT_ ?_
   exact norm_ (zq81) (hCont (gb343) _ ⟨hHeld, (zB BK337), (zB BK338), (zB BK343), GW343.out, GE343.out, NB337_343.out, NB343_337.out, NB338_343.out, NB343_338.out, (zW HB)⟩)
 rintro gb343 w15 ⟨hS_, h0_, h1_, h2_, h3_, h4_, h5_, h6_, h7_, h8_, h9_⟩
 replace BK337 : Aside0 (w15.heap[gb337]? = some (.cells #[.int .i64 a0_0, .int .i64 a0_1, .int .i64 a0_2, .int .i64 a0_3, .int .i64 a0_4] 66 (0, 0))) := ⟨h0_⟩
 replace BK338 : Aside0 (w15.heap[gb338]? = some (.cells #[.int .i64 0, .int .i64 0, .int .i64 0, .int .i64 0, .int .i64 0] 41 (0, 0))) := ⟨h1_⟩
 have BK343 : Aside0 (w15.heap[gb343]? = some (.cells #[.int .i64 0, .int .i64 0, .int .i64 0, .int .i64 0, .int .i64 0] 41 (0, 0))) := ⟨h2_⟩
 have GW343 : Aside0 (w.heap.size ≤ gb343) := ⟨h3_⟩
 have GE343 : Aside0 (w.heap.size ≤ gb343) := ⟨h4_⟩
 have NB337_343 : Aside0 (gb337 ≠ gb343) := ⟨h5_⟩
 have NB343_337 : Aside0 (gb343 ≠ gb337) := ⟨h6_⟩
 have NB338_343 : Aside0 (gb338 ≠ gb343) := ⟨h7_⟩
 have NB343_338 : Aside0 (gb343 ≠ gb338) := ⟨h8_⟩
 replace HB : Aside0 (Below w.heap.size w w15) := ⟨h9_⟩
 clear h0_ h1_ h2_ h3_ h4_ h5_ h6_ h7_ h8_ h9_
 have hHeld : w15.cell? ⟨gb337, 0, none⟩ = some (.int .i64 a0_0) ∧ w15.cell? ⟨gb337, 1, none⟩ = some (.int .i64 a0_1) ∧ w15.cell? ⟨gb337, 2, none⟩ = some (.int .i64 a0_2) ∧ w15.cell? ⟨gb337, 3, none⟩ = some (.int .i64 a0_3) ∧ w15.cell? ⟨gb337, 4, none⟩ = some (.int .i64 a0_4) := hS_
 refine norm_ (a' := ?_) ?_ ?_
 rotate_left
 ·simp only [putAll, Act.put, List.setIfInBounds_toArray, List.set_cons_zero, List.set_cons_succ]
  rfl
 refine one_ (i := 17) (N := none) (bm 18 262143) rfl rfl (one_of HT_.out (by kernel_rfl)) (by decide) (fun K hK => ?_)
 have hs16 : w15.cell? ⟨gb343, 0, none⟩ = some (.int .i64 0) := (blk_cell BK343.out 0).trans rfl
 have hfs16 := blk_frozen BK343.out 0
 have hns16_0 := NB337_343.out
 have hns16_1 := NB338_343.out
 have hms16_0 := NB343_337.out
 have hms16_1 := NB343_338.out
 have hs17 : w15.cell? ⟨gb343, 1, none⟩ = some (.int .i64 0) := (blk_cell BK343.out 1).trans rfl
 have hfs17 := blk_frozen BK343.out 1
 have hns17_0 := NB337_343.out
 have hns17_1 := NB338_343.out
 have hms17_0 := NB343_337.out
 have hms17_1 := NB343_338.out
 have hs18 : w15.cell? ⟨gb343, 2, none⟩ = some (.int .i64 0) := (blk_cell BK343.out 2).trans rfl
 have hfs18 := blk_frozen BK343.out 2
 have hns18_0 := NB337_343.out
 have hns18_1 := NB338_343.out
 have hms18_0 := NB343_337.out
 have hms18_1 := NB343_338.out
 have hs19 : w15.cell? ⟨gb343, 3, none⟩ = some (.int .i64 0) := (blk_cell BK343.out 3).trans rfl
 have hfs19 := blk_frozen BK343.out 3
 have hns19_0 := NB337_343.out
 have hns19_1 := NB338_343.out
 have hms19_0 := NB343_337.out
 have hms19_1 := NB343_338.out
 have hs20 : w15.cell? ⟨gb343, 4, none⟩ = some (.int .i64 0) := (blk_cell BK343.out 4).trans rfl
 have hfs20 := blk_frozen BK343.out 4
 have hns20_0 := NB337_343.out
 have hns20_1 := NB338_343.out
 have hms20_0 := NB343_337.out
 have hms20_1 := NB343_338.out
 refine skip_ (w1 := ?_) (by rfl) rfl ?_ ?_
 rotate_left
 ·go_simp
  rfl
 refine hK.out _ _ ⟨((cell_far (p := ⟨gb343, _, none⟩) NB337_343.out _).trans (((cell_far (p := ⟨gb343, _, none⟩) NB337_343.out _).trans (((cell_far (p := ⟨gb343, _, none⟩) NB337_343.out _).trans (((cell_far (p := ⟨gb343, _, none⟩) NB337_343.out _).trans (((cell_far (p := ⟨gb343, _, none⟩) NB337_343.out _).trans (hHeld.1)))))))))), ((cell_far (p := ⟨gb343, _, none⟩) NB337_343.out _).trans (((cell_far (p := ⟨gb343, _, none⟩) NB337_343.out _).trans (((cell_far (p := ⟨gb343, _, none⟩) NB337_343.out _).trans (((cell_far (p := ⟨gb343, _, none⟩) NB337_343.out _).trans (((cell_far (p := ⟨gb343, _, none⟩) NB337_343.out _).trans (hHeld.2.1)))))))))), ((cell_far (p := ⟨gb343, _, none⟩) NB337_343.out _).trans (((cell_far (p := ⟨gb343, _, none⟩) NB337_343.out _).trans (((cell_far (p := ⟨gb343, _, none⟩) NB337_343.out _).trans (((cell_far (p := ⟨gb343, _, none⟩) NB337_343.out _).trans (((cell_far (p := ⟨gb343, _, none⟩) NB337_343.out _).trans (hHeld.2.2.1)))))))))), ((cell_far (p := ⟨gb343, _, none⟩) NB337_343.out _).trans (((cell_far (p := ⟨gb343, _, none⟩) NB337_343.out _).trans (((cell_far (p := ⟨gb343, _, none⟩) NB337_343.out _).trans (((cell_far (p := ⟨gb343, _, none⟩) NB337_343.out _).trans (((cell_far (p := ⟨gb343, _, none⟩) NB337_343.out _).trans (hHeld.2.2.2.1)))))))))), ((cell_far (p := ⟨gb343, _, none⟩) NB337_343.out _).trans (((cell_far (p := ⟨gb343, _, none⟩) NB337_343.out _).trans (((cell_far (p := ⟨gb343, _, none⟩) NB337_343.out _).trans (((cell_far (p := ⟨gb343, _, none⟩) NB337_343.out _).trans (((cell_far (p := ⟨gb343, _, none⟩) NB337_343.out _).trans (hHeld.2.2.2.2))))))))))⟩ (fun hHeld => ?_)
 clear hK K
 refine done_ (done_of HT_.out (by kernel_rfl)) ?_
 generalize hw16 : World.setCell (World.setCell (World.setCell (World.setCell (World.setCell w15 _ _) _ _) _ _) _ _) _ _ = w16g at hHeld ⊢
 have n1_ := Aside0.mk (show w16g.heap[gb337]? = some (.cells #[.int .i64 a0_0, .int .i64 a0_1, .int .i64 a0_2, .int .i64 a0_3, .int .i64 a0_4] 66 (0, 0)) by rw [← hw16]; exact blk_far (blk_far (blk_far (blk_far (blk_far BK337.out NB337_343.out _) NB337_343.out _) NB337_343.out _) NB337_343.out _) NB337_343.out _)
 have n2_ := Aside0.mk (show w16g.heap[gb338]? = some (.cells #[.int .i64 0, .int .i64 0, .int .i64 0, .int .i64 0, .int .i64 0] 41 (0, 0)) by rw [← hw16]; exact blk_far (blk_far (blk_far (blk_far (blk_far BK338.out NB338_343.out _) NB338_343.out _) NB338_343.out _) NB338_343.out _) NB338_343.out _)
 have n3_ := Aside0.mk (show w16g.heap[gb343]? = some (.cells #[.int .i64 (wrap64 (10 + t339)), .int .i64 1, .int .i64 (wrap64 (10 + (Int.tmod (wrap64 ((wrap64 (t339 + 1)) + t340)) 8))), .int .i64 t341, .int .i64 t342] 41 (0, 0)) by rw [← hw16]; exact blk_put (blk_put (blk_put (blk_put (blk_put BK343.out 0 _ rfl) 1 _ rfl) 2 _ rfl) 3 _ rfl) 4 _ rfl)
 have n4_ := Aside0.mk (show Below w.heap.size w w16g by rw [← hw16]; exact below_set (below_set (below_set (below_set (below_set HB.out GE343.out) GE343.out) GE343.out) GE343.out) GE343.out)
 clear hw16 hHeld BK337 BK338 BK343 HB
 have BK337 := n1_
 have BK338 := n2_
 have BK343 := n3_
 have HB := n4_
 clear n1_ n2_ n3_ n4_
 have hnb21 := NB337_343.out
 have hnc21 := NB343_337.out
 have hcz22_0 : w16g.cell? ⟨gb337, 0, none⟩ = some (.int .i64 a0_0) := (blk_cell BK337.out 0).trans rfl
 have hcz22_1 : w16g.cell? ⟨gb337, 1, none⟩ = some (.int .i64 a0_1) := (blk_cell BK337.out 1).trans rfl
 have hcz22_2 : w16g.cell? ⟨gb337, 2, none⟩ = some (.int .i64 a0_2) := (blk_cell BK337.out 2).trans rfl
 have hcz22_3 : w16g.cell? ⟨gb337, 3, none⟩ = some (.int .i64 a0_3) := (blk_cell BK337.out 3).trans rfl
 have hcz22_4 : w16g.cell? ⟨gb337, 4, none⟩ = some (.int .i64 a0_4) := (blk_cell BK337.out 4).trans rfl
 have hfz22_0 := blk_frozen BK337.out 0
 have hfz22_1 := blk_frozen BK337.out 1
 have hfz22_2 := blk_frozen BK337.out 2
 have hfz22_3 := blk_frozen BK337.out 3
 have hfz22_4 := blk_frozen BK337.out 4
 try go_wp2_with (first | ((with_reducible refine gate_callee (f := 28) rfl ?_); refine goesL_ (some 26) rfl rfl Tryz.func28 (by kernel_rfl) rfl #[.int .i64 a0_1, .int .i64 8] rfl zG ?_; (with_reducible refine (dialtoneref22_pick.calls a0_1 8 t344 _ A5.out).mono ?_); rintro e w' ⟨rfl, ⟨nd, rfl⟩⟩; refine ⟨_, rfl, ?_⟩) | ((with_reducible refine gate_callee (f := 28) rfl ?_); refine goesL_ (some 30) rfl rfl Tryz.func28 (by kernel_rfl) rfl #[.int .i64 a0_1, .int .i64 8] rfl zG ?_; (with_reducible refine (dialtoneref22_pick.calls a0_1 8 t345 _ A7.out).mono ?_); rintro e w' ⟨rfl, ⟨nd, rfl⟩⟩; refine ⟨_, rfl, ?_⟩; have hnb23 := NB343_338.out; have hnc23 := NB338_343.out; have hcz24_0 : w16g.cell? ⟨gb343, 0, none⟩ = some (.int .i64 (wrap64 (10 + t339))) := (blk_cell BK343.out 0).trans rfl; have hcz24_1 : w16g.cell? ⟨gb343, 1, none⟩ = some (.int .i64 1) := (blk_cell BK343.out 1).trans rfl; have hcz24_2 : w16g.cell? ⟨gb343, 2, none⟩ = some (.int .i64 (wrap64 (10 + (Int.tmod (wrap64 ((wrap64 (t339 + 1)) + t340)) 8)))) := (blk_cell BK343.out 2).trans rfl; have hcz24_3 : w16g.cell? ⟨gb343, 3, none⟩ = some (.int .i64 t341) := (blk_cell BK343.out 3).trans rfl; have hcz24_4 : w16g.cell? ⟨gb343, 4, none⟩ = some (.int .i64 t342) := (blk_cell BK343.out 4).trans rfl; have hfz24_0 := blk_frozen BK343.out 0; have hfz24_1 := blk_frozen BK343.out 1; have hfz24_2 := blk_frozen BK343.out 2; have hfz24_3 := blk_frozen BK343.out 3; have hfz24_4 := blk_frozen BK343.out 4; have hcz25_0 : w16g.cell? ⟨gb338, 0, none⟩ = some (.int .i64 0) := (blk_cell BK338.out 0).trans rfl; have hcz25_1 : w16g.cell? ⟨gb338, 1, none⟩ = some (.int .i64 0) := (blk_cell BK338.out 1).trans rfl; have hcz25_2 : w16g.cell? ⟨gb338, 2, none⟩ = some (.int .i64 0) := (blk_cell BK338.out 2).trans rfl; have hcz25_3 : w16g.cell? ⟨gb338, 3, none⟩ = some (.int .i64 0) := (blk_cell BK338.out 3).trans rfl; have hcz25_4 : w16g.cell? ⟨gb338, 4, none⟩ = some (.int .i64 0) := (blk_cell BK338.out 4).trans rfl; have hfz25_0 := blk_frozen BK338.out 0; have hfz25_1 := blk_frozen BK338.out 1; have hfz25_2 := blk_frozen BK338.out 2; have hfz25_3 := blk_frozen BK338.out 3; have hfz25_4 := blk_frozen BK338.out 4))
 refine bodyPost_ret (results_cell_row rfl _ _ gb338 41 #[.int .i64 (wrap64 (10 + t339)), .int .i64 (wrap64 (t345 - 3)), .int .i64 (wrap64 (10 + (Int.tmod (wrap64 ((wrap64 (t339 + 1)) + t340)) 8))), .int .i64 t341, .int .i64 t342] (0, 0) _ rfl (by (with_reducible repeat (first | refine blk_drewN ?_ _ | refine blk_drew ?_ | refine blk_alloc ?_ _)); refine blk_put (cs := #[.int .i64 (wrap64 (10 + t339)), .int .i64 (wrap64 (t345 - 3)), .int .i64 (wrap64 (10 + (Int.tmod (wrap64 ((wrap64 (t339 + 1)) + t340)) 8))), .int .i64 t341, .int .i64 0]) ?_ 4 _ rfl; (with_reducible repeat (first | refine blk_drewN ?_ _ | refine blk_drew ?_ | refine blk_alloc ?_ _)); refine blk_put (cs := #[.int .i64 (wrap64 (10 + t339)), .int .i64 (wrap64 (t345 - 3)), .int .i64 (wrap64 (10 + (Int.tmod (wrap64 ((wrap64 (t339 + 1)) + t340)) 8))), .int .i64 0, .int .i64 0]) ?_ 3 _ rfl; (with_reducible repeat (first | refine blk_drewN ?_ _ | refine blk_drew ?_ | refine blk_alloc ?_ _)); refine blk_put (cs := #[.int .i64 (wrap64 (10 + t339)), .int .i64 (wrap64 (t345 - 3)), .int .i64 0, .int .i64 0, .int .i64 0]) ?_ 2 _ rfl; (with_reducible repeat (first | refine blk_drewN ?_ _ | refine blk_drew ?_ | refine blk_alloc ?_ _)); refine blk_put (cs := #[.int .i64 (wrap64 (10 + t339)), .int .i64 0, .int .i64 0, .int .i64 0, .int .i64 0]) ?_ 1 _ rfl; (with_reducible repeat (first | refine blk_drewN ?_ _ | refine blk_drew ?_ | refine blk_alloc ?_ _)); refine blk_put (cs := #[.int .i64 0, .int .i64 0, .int .i64 0, .int .i64 0, .int .i64 0]) ?_ 0 _ rfl; (with_reducible repeat (first | refine blk_drewN ?_ _ | refine blk_drew ?_ | refine blk_alloc ?_ _)); refine blk_far ?_ NB338_343.out _; (with_reducible repeat (first | refine blk_drewN ?_ _ | refine blk_drew ?_ | refine blk_alloc ?_ _)); exact BK338.out) Tryz.underlying41 rfl (by kernel_rfl)) rfl ?_
 exact ⟨zq6, zq82⟩
end Go.Proofs.YtkfejgdeknemaaaGreatDoor.Fw
end
